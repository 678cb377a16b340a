/- Contracts of phase's operations, and of the reference's comparisons and turns. -/
import Derived.Test.YtknchfalmjpiiaaPhaseWalk
import Derived.Test.YtknchfalmjpiiaaPhaseBeat
namespace Go.Proofs.Ytknchfalmjpiiaa.Ph
open Go.RowKit Go.Proofs.Ytknchfalmjpiiaa.W Go.Proofs.Ytknchfalmjpiiaa.Fl
set_option linter.unusedVariables false
set_option linter.unusedSimpArgs false

theorem rFloat_no (a b : Nat) (ha : a < 18446744073709551616) (hb : b < 18446744073709551616) (h : sameB a b = false) (w : World) : Calls Try.prog 25 #[.float .f64 a, .float .f64 b] w fun e w' => e = .returned (.bool false) ∧ w = w' := by
  have oa := order_selfB a
  have ob := order_selfB b
  have hne : a ≠ b := by
    rintro rfl
    simp [sameB] at h
  cases hna : nanB a
  · cases hnb : nanB b
    · rw [hna] at oa
      rw [hnb] at ob
      simp only [Bool.not_false] at oa ob
      have oa' : FloatKind.f64.format.order a a = some .eq := by simpa using oa
      have ob' : FloatKind.f64.format.order b b = some .eq := by simpa using ob
      by_cases ho : Fl.d.order a b = some .eq
      · rcases order_eq_bits ha hb ho with he | ⟨s, s', rfl, rfl⟩
        · exact absurd he hne
        · have hs : s ≠ s' := by rintro rfl; exact hne rfl
          have z1 : FloatKind.f64.format.order (Fl.d.word s 0) 0 = some .eq := by cases s <;> decide
          have z2 : FloatKind.f64.format.order (Fl.d.word s 0) (Fl.d.word s' 0) = some .eq := ho
          have q1 := fun t w => run_quo (div_zero_word s) Try.prog t w
          have q2 := fun t w => run_quo (div_zero_word s') Try.prog t w
          have q3 : ¬ FloatKind.f64.format.order (Fl.d.word s 9218868437227405312) (Fl.d.word s' 9218868437227405312) = some .eq := by
            have := order_inf s s'
            intro hc
            have hc' : (Fl.d.order (Fl.d.word s 9218868437227405312) (Fl.d.word s' 9218868437227405312) == some .eq) = true := by rw [show Fl.d.order (Fl.d.word s 9218868437227405312) (Fl.d.word s' 9218868437227405312) = some .eq from hc]; rfl
            rw [hc'] at this
            exact hs (by simpa using this.symm)
          generalize Fl.d.word s 9218868437227405312 = x1 at q1 q3
          generalize Fl.d.word s' 9218868437227405312 = x2 at q2 q3
          generalize Fl.d.word s 0 = a at *
          generalize Fl.d.word s' 0 = b at *
          clear hs ho oa ob h hna hnb ha hb hne
          go_enter Try.func25, Try.ntmps25
          go_wp2
          go_ret
          simp
          exact q3
      · have ho' : ¬ FloatKind.f64.format.order a b = some .eq := ho
        clear h hna hnb ha hb hne oa ob ho
        go_enter Try.func25, Try.ntmps25
        go_wp2
        go_ret
        simp
    · rw [hna] at oa
      rw [hnb] at ob
      have oa' : FloatKind.f64.format.order a a = some .eq := by simpa using oa
      have ob' : (FloatKind.f64.format.order b b != some .eq) = true := by simpa using ob
      clear h hna hnb ha hb hne oa ob
      go_enter Try.func25, Try.ntmps25
      go_wp2
      go_ret
      simp [oa']
  · cases hnb : nanB b
    · rw [hna] at oa
      rw [hnb] at ob
      have oa' : ¬ FloatKind.f64.format.order a a = some .eq := by simpa using oa
      have ob' : FloatKind.f64.format.order b b = some .eq := by simpa using ob
      clear h hna hnb ha hb hne oa ob
      go_enter Try.func25, Try.ntmps25
      go_wp2
      go_ret
      simp
    · exfalso
      rw [sameB, hna, hnb] at h
      simp at h
theorem rFloat_any (a b : Nat) (ha : a < 18446744073709551616) (hb : b < 18446744073709551616) (w : World) : Calls Try.prog 25 #[.float .f64 a, .float .f64 b] w fun e w' => e = .returned (.bool (sameB a b)) ∧ w = w' := by
  cases h : sameB a b
  · exact rFloat_no a b ha hb h w
  · exact rFloat_yes a b (sameB_iff.1 h) w
theorem rSame_any (a b c d : Nat) (ha : a < 18446744073709551616) (hb : b < 18446744073709551616) (hc : c < 18446744073709551616) (hd : d < 18446744073709551616) (w : World) :
    Calls Try.prog 15 #[.float .f64 a, .float .f64 b, .float .f64 c, .float .f64 d] w fun e w' => e = .returned (.bool (sameB a c && sameB b d)) ∧ w = w' := by
  have HA := hide (rFloat_any a c ha hc)
  have HB := hide (rFloat_any b d hb hd)
  clear ha hb hc hd
  obtain ⟨x, hx⟩ : ∃ x, sameB a c = x := ⟨_, rfl⟩
  rw [hx] at HA ⊢
  cases x
  all_goals
    clear hx
    go_enter Try.func15, Try.ntmps15
    go_wp2_with (first
      | (go_at_call 25; with_reducible refine (HA.out _).mono ?_; rintro e w' ⟨rfl, rfl⟩)
      | (go_at_call 25; with_reducible refine (HB.out _).mono ?_; rintro e w' ⟨rfl, rfl⟩))
    go_ret
    exact ⟨ret_bool (by simp), rfl⟩
theorem rTurn_any (a b k : Nat) (hk : k < 4) (w : World) : Calls Try.prog 8 #[.float .f64 a, .float .f64 b, .int .i64 (k : Int)] w fun e w' => e = .returned (.tuple #[.float .f64 (rot k a b).1, .float .f64 (rot k a b).2]) ∧ w = w' := by
  have h4 : k = 0 ∨ k = 1 ∨ k = 2 ∨ k = 3 := by omega
  rcases h4 with rfl | rfl | rfl | rfl
  all_goals
    go_enter Try.func8, Try.ntmps8
    go_wp2_with fail
    go_ret2
    exact ⟨rfl, rfl⟩
def AddE (a b : Nat) (n m : Int) (w : World) (e : Ending) (w' : World) : Prop :=
  Drew w w' ∧ ((finB a && finB b) = false ∧ e = .returned (.tuple #[.complex .f64 0 0, .int .i64 20]) ∨
    (finB a && finB b) = true ∧ isCount m = false ∧ e = .returned (.tuple #[.complex .f64 0 0, .int .i64 2]) ∨
    (finB a && finB b) = true ∧ isCount m = true ∧ ∃ r s, Res (Fl.d.add a (rot (n % 4).toNat (floatOfInt .f64 m) 0).1) r ∧ Res (Fl.d.add b (rot (n % 4).toNat (floatOfInt .f64 m) 0).2) s ∧
      e = .returned (.tuple #[.complex .f64 r s, .int .i64 0]))
theorem add_any (a b : Nat) (n m : Int) (ha : a < 18446744073709551616) (hb : b < 18446744073709551616) (w : World) : Calls Try.prog 17 #[.complex .f64 a b, .int .i64 n, .int .i64 m] w (AddE a b n m w) := by
  have HC := hide (counts_any a b ha hb)
  have HN := hide (count_any m)
  have HT := hide (fun x y => turn_any x y n)
  clear ha hb
  cases hf : (finB a && finB b)
  · rw [hf] at HC
    have HF := hide hf
    clear hf
    go_enter Try.func17, Try.ntmps17
    go_wp2_with (first
      | (go_at_call 12; with_reducible refine (HC.out _).mono ?_; rintro e w' ⟨rfl, rfl⟩))
    go_ret2
    exact ⟨.refl _, .inl ⟨HF.out, rfl⟩⟩
  · rw [hf] at HC
    have HF := hide hf
    clear hf
    cases hm : isCount m
    · rw [hm] at HN
      have HM := hide hm
      clear hm
      go_enter Try.func17, Try.ntmps17
      go_wp2_with (first
        | (go_at_call 12; with_reducible refine (HC.out _).mono ?_; rintro e w' ⟨rfl, rfl⟩)
        | (go_at_call 29; with_reducible refine (HN.out _).mono ?_; rintro e w' ⟨rfl, rfl⟩))
      go_ret2
      exact ⟨.refl _, .inr (.inl ⟨HF.out, HM.out, rfl⟩)⟩
    · rw [hm] at HN
      have HM := hide hm
      clear hm
      go_enter Try.func17, Try.ntmps17
      go_wp2_with (first
        | (go_at_call 12; with_reducible refine (HC.out _).mono ?_; rintro e w' ⟨rfl, rfl⟩)
        | (go_at_call 29; with_reducible refine (HN.out _).mono ?_; rintro e w' ⟨rfl, rfl⟩)
        | (go_at_call 11; with_reducible refine (HT.out _ _ _).mono ?_; rintro e w' ⟨rfl, rfl⟩)
        | (go_at_call 30; (with_reducible refine (plus_any _ _ _ _ _).mono ?_); rintro e w' ⟨r, s, hr, hs, rfl, hd⟩; have HR := hide hr; have HS := hide hs; have HD := hide hd; clear hr hs hd))
      go_ret2
      exact ⟨HD.out, .inr (.inr ⟨HF.out, HM.out, r, s, HR.out, HS.out, rfl⟩)⟩
def NormE' (a b : Nat) (w : World) (e : Ending) (w' : World) : Prop :=
  Drew w w' ∧ ((finB a && finB b) = false ∧ e = .returned (.tuple #[.float .f64 0, .int .i64 20]) ∨
    (finB a && finB b) = true ∧ ∃ x y r, Res (Fl.d.mul a a) x ∧ Res (Fl.d.mul b b) y ∧ Res (Fl.d.add x y) r ∧ e = .returned (.tuple #[.float .f64 r, .int .i64 0]))
theorem Norm_any (a b : Nat) (ha : a < 18446744073709551616) (hb : b < 18446744073709551616) (w : World) : Calls Try.prog 24 #[.complex .f64 a b] w (NormE' a b w) := by
  have HC := hide (counts_any a b ha hb)
  clear ha hb
  cases hf : (finB a && finB b)
  · rw [hf] at HC
    have HF := hide hf
    clear hf
    go_enter Try.func24, Try.ntmps24
    go_wp2_with (first
      | (go_at_call 12; with_reducible refine (HC.out _).mono ?_; rintro e w' ⟨rfl, rfl⟩))
    go_ret2
    exact ⟨.refl _, .inl ⟨HF.out, rfl⟩⟩
  · rw [hf] at HC
    have HF := hide hf
    clear hf
    go_enter Try.func24, Try.ntmps24
    go_wp2_with (first
      | (go_at_call 12; with_reducible refine (HC.out _).mono ?_; rintro e w' ⟨rfl, rfl⟩)
      | (go_at_call 32; (with_reducible refine (norm_any _ _ _).mono ?_); rintro e w' ⟨hd, x, y, r, hx, hy, hr, rfl⟩; have HR := hide hr; have HX := hide hx; have HY := hide hy; have HD := hide hd; clear hr hx hy hd))
    go_ret2
    exact ⟨HD.out, .inr ⟨HF.out, x, y, r, HX.out, HY.out, HR.out, rfl⟩⟩
def MulE (a b c d : Nat) (w : World) (e : Ending) (w' : World) : Prop :=
  Drew w w' ∧ (((finB a && finB b) && (finB c && finB d)) = false ∧ e = .returned (.tuple #[.complex .f64 0 0, .int .i64 20]) ∨
    ((finB a && finB b) && (finB c && finB d)) = true ∧ ∃ x1 x2 y1 y2 r s, Res (Fl.d.mul a c) x1 ∧ Res (Fl.d.mul b d) x2 ∧ Res (Fl.d.sub x1 x2) r ∧ Res (Fl.d.mul a d) y1 ∧ Res (Fl.d.mul b c) y2 ∧ Res (Fl.d.add y1 y2) s ∧ e = .returned (.tuple #[.complex .f64 r s, .int .i64 0]))
theorem mul_any (a b c d : Nat) (ha : a < 18446744073709551616) (hb : b < 18446744073709551616) (hc : c < 18446744073709551616) (hd : d < 18446744073709551616) (w : World) : Calls Try.prog 23 #[.complex .f64 a b, .complex .f64 c d] w (MulE a b c d w) := by
  have HA := hide (counts_any a b ha hb)
  have HB := hide (counts_any c d hc hd)
  clear ha hb hc hd
  unfold MulE
  obtain ⟨x, hx⟩ : ∃ x, (finB a && finB b) = x := ⟨_, rfl⟩
  obtain ⟨y, hy⟩ : ∃ y, (finB c && finB d) = y := ⟨_, rfl⟩
  rw [hx] at HA ⊢
  rw [hy] at HB ⊢
  clear hx hy
  cases x
  · go_enter Try.func23, Try.ntmps23
    go_wp2_with (first
      | (go_at_call 12; with_reducible refine (HA.out _).mono ?_; rintro e w' ⟨rfl, rfl⟩))
    go_ret2
    exact ⟨.refl _, .inl ⟨rfl, rfl⟩⟩
  · cases y
    · go_enter Try.func23, Try.ntmps23
      go_wp2_with (first
        | (go_at_call 12; with_reducible refine (HA.out _).mono ?_; rintro e w' ⟨rfl, rfl⟩)
        | (go_at_call 12; with_reducible refine (HB.out _).mono ?_; rintro e w' ⟨rfl, rfl⟩))
      go_ret2
      exact ⟨.refl _, .inl ⟨rfl, rfl⟩⟩
    · have h1 := fun t w x y => run_fmul Try.prog w t x y
      have h2 := fun t w x y => run_fsub Try.prog w t x y
      have h3 := fun t w x y => run_fadd Try.prog w t x y
      go_enter Try.func23, Try.ntmps23
      go_wp2_with (first
        | (go_at_call 12; with_reducible refine (HA.out _).mono ?_; rintro e w' ⟨rfl, rfl⟩)
        | (go_at_call 12; with_reducible refine (HB.out _).mono ?_; rintro e w' ⟨rfl, rfl⟩))
      go_ret2
      exact ⟨⟨_, rfl⟩, .inr ⟨rfl, _, _, _, _, _, _, fpick_res _ _ _ _, fpick_res _ _ _ _, fpick_res _ _ _ _, fpick_res _ _ _ _, fpick_res _ _ _ _, fpick_res _ _ _ _, rfl⟩⟩
end Go.Proofs.Ytknchfalmjpiiaa.Ph
