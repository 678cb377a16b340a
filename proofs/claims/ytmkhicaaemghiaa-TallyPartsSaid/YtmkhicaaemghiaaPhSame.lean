/- Contracts of the comparisons and turns of phases. -/
import Derived.Test.YtmkhicaaemghiaaPhaseFloat
import Derived.Test.YtmkhicaaemghiaaPhaseTurn
import Derived.Laws.Externs
namespace Go.Proofs.Ytmkhicaaemghiaa.Ph
open Go.RowKit Go.Proofs.Ytmkhicaaemghiaa.W Go.Proofs.Ytmkhicaaemghiaa.Fl
set_option linter.unusedVariables false
set_option linter.unusedSimpArgs false

theorem run_bits (b : Nat) (w : World) : (callFunc 27 #[.float .f64 b]).run Try.prog w = .ok (.value (.int .u64 (b : Int))) w := by
  rw [run_callFunc_extern (e := Extern.MathFloatBits.float64bits) Try.func27 (by kernel_rfl) (by kernel_rfl) (by kernel_rfl) (by kernel_rfl)]
  rfl
theorem quarters_any (n : Int) (h0 : -9223372036854775808 ≤ n) (h1 : n ≤ 9223372036854775807) (w : World) : Calls Try.prog 17 #[.int .i64 n] w fun e w' => e = .returned (.int .i64 (n % 4)) ∧ w = w' := by
  by_cases h : n.tmod 4 < 0
  · have e : n.tmod 4 + 4 = n % 4 := by rw [Int.tmod_eq_emod] at *; split at h <;> rename_i hh <;> simp only [hh, if_true, if_false] <;> omega
    have l : -4 < n.tmod 4 := by rw [Int.tmod_eq_emod]; split <;> omega
    have h' : decide (n.tmod 4 < 0) = true := by simpa using h
    go_enter Try.func17, Try.ntmps17
    go_wp2
    go_ret
    exact ⟨by first | rfl | exact ret_int e, rfl⟩
  · have e : n.tmod 4 = n % 4 := by rw [Int.tmod_eq_emod] at *; split at h <;> rename_i hh <;> simp only [hh, if_true, if_false] <;> omega
    have h' : decide (n.tmod 4 < 0) = false := by simpa using h
    go_enter Try.func17, Try.ntmps17
    go_wp2
    go_ret
    exact ⟨by first | rfl | exact ret_int e, rfl⟩
theorem rSame_yes (a b c d : Nat) (h1 : E a c) (h2 : E b d) (w : World) : Calls Try.prog 18 #[.float .f64 a, .float .f64 b, .float .f64 c, .float .f64 d] w fun e w' => e = .returned (.bool true) ∧ w = w' := by
  have H1 := hide (rFloat_yes a c h1 w)
  have H2 := hide (rFloat_yes b d h2 w)
  clear h1 h2
  go_enter Try.func18, Try.ntmps18
  go_wp2_with (first
    | (go_at_call 24; with_reducible refine H1.out.mono ?_; rintro e w' ⟨rfl, rfl⟩)
    | (go_at_call 24; with_reducible refine H2.out.mono ?_; rintro e w' ⟨rfl, rfl⟩))
  go_ret
  exact ⟨rfl, rfl⟩
theorem psame_any (a b : Nat) (w : World) : Calls Try.prog 26 #[.float .f64 a, .float .f64 b] w fun e w' => e = .returned (.bool (sameB a b)) ∧ w = w' := by
  have HA := hide (fun w => isNaN_any a w)
  have HB := hide (fun w => isNaN_any b w)
  have h1 := fun w => run_bits a w
  have h2 := fun w => run_bits b w
  by_cases h : a = b
  · subst h
    go_enter Try.func26, Try.ntmps26
    go_wp2_with fail
    go_ret
    exact ⟨ret_bool (by simp [sameB]), rfl⟩
  · have h' : ((a : Int) == (b : Int)) = false := by simp; omega
    have h'' : (a == b) = false := by simpa using h
    have HS : Hid (sameB a b = (nanB a && nanB b)) := by show _ = _; unfold sameB; rw [h'']; rfl
    clear h
    obtain ⟨x, hx⟩ : ∃ x, nanB a = x := ⟨_, rfl⟩
    rw [hx] at HA HS
    cases x
    all_goals
      clear hx
      go_enter Try.func26, Try.ntmps26
      go_wp2_with (first
        | (go_at_call 28; with_reducible refine (HA.out _).mono ?_; rintro e w' ⟨rfl, rfl⟩)
        | (go_at_call 28; with_reducible refine (HB.out _).mono ?_; rintro e w' ⟨rfl, rfl⟩))
      go_ret
      exact ⟨ret_bool (by rw [HS.out]; simp), rfl⟩
theorem pSame_any (a b c d : Nat) (w : World) : Calls Try.prog 25 #[.complex .f64 a b, .complex .f64 c d] w fun e w' => e = .returned (.bool (sameB a c && sameB b d)) ∧ w = w' := by
  have HA := hide (psame_any a c)
  have HB := hide (psame_any b d)
  obtain ⟨x, hx⟩ : ∃ x, sameB a c = x := ⟨_, rfl⟩
  rw [hx] at HA ⊢
  cases x
  all_goals
    clear hx
    go_enter Try.func25, Try.ntmps25
    go_wp2_with (first
      | (go_at_call 26; with_reducible refine (HA.out _).mono ?_; rintro e w' ⟨rfl, rfl⟩)
      | (go_at_call 26; with_reducible refine (HB.out _).mono ?_; rintro e w' ⟨rfl, rfl⟩))
    go_ret
    exact ⟨ret_bool (by simp), rfl⟩
theorem rFloat_no (a b : Nat) (ha : a < 18446744073709551616) (hb : b < 18446744073709551616) (h : sameB a b = false) (w : World) : Calls Try.prog 24 #[.float .f64 a, .float .f64 b] w fun e w' => e = .returned (.bool false) ∧ w = w' := by
  have oa := order_selfB a
  have ob := order_selfB b
  have hne : a ≠ b := by
    rintro rfl
    simp [sameB] at h
  cases hna : nanB a
  · cases hnb : nanB b
    · rw [hna] at oa
      rw [hnb] at ob
      simp only [Bool.not_false] at oa ob
      have oa' : FloatKind.f64.format.order a a = some .eq := by simpa using oa
      have ob' : FloatKind.f64.format.order b b = some .eq := by simpa using ob
      by_cases ho : Fl.d.order a b = some .eq
      · rcases order_eq_bits ha hb ho with he | ⟨s, s', rfl, rfl⟩
        · exact absurd he hne
        · have hs : s ≠ s' := by rintro rfl; exact hne rfl
          have z1 : FloatKind.f64.format.order (Fl.d.word s 0) 0 = some .eq := by cases s <;> decide
          have z2 : FloatKind.f64.format.order (Fl.d.word s 0) (Fl.d.word s' 0) = some .eq := ho
          have q1 := fun t w => run_quo (div_zero_word s) Try.prog t w
          have q2 := fun t w => run_quo (div_zero_word s') Try.prog t w
          have q3 : ¬ FloatKind.f64.format.order (Fl.d.word s 9218868437227405312) (Fl.d.word s' 9218868437227405312) = some .eq := by
            have := order_inf s s'
            intro hc
            have hc' : (Fl.d.order (Fl.d.word s 9218868437227405312) (Fl.d.word s' 9218868437227405312) == some .eq) = true := by rw [show Fl.d.order (Fl.d.word s 9218868437227405312) (Fl.d.word s' 9218868437227405312) = some .eq from hc]; rfl
            rw [hc'] at this
            exact hs (by simpa using this.symm)
          generalize Fl.d.word s 9218868437227405312 = x1 at q1 q3
          generalize Fl.d.word s' 9218868437227405312 = x2 at q2 q3
          generalize Fl.d.word s 0 = a at *
          generalize Fl.d.word s' 0 = b at *
          clear hs ho oa ob h hna hnb ha hb hne
          go_enter Try.func24, Try.ntmps24
          go_wp2
          go_ret
          simp
          exact q3
      · have ho' : ¬ FloatKind.f64.format.order a b = some .eq := ho
        clear h hna hnb ha hb hne oa ob ho
        go_enter Try.func24, Try.ntmps24
        go_wp2
        go_ret
        simp
    · rw [hna] at oa
      rw [hnb] at ob
      have oa' : FloatKind.f64.format.order a a = some .eq := by simpa using oa
      have ob' : (FloatKind.f64.format.order b b != some .eq) = true := by simpa using ob
      clear h hna hnb ha hb hne oa ob
      go_enter Try.func24, Try.ntmps24
      go_wp2
      go_ret
      simp [oa']
  · cases hnb : nanB b
    · rw [hna] at oa
      rw [hnb] at ob
      have oa' : ¬ FloatKind.f64.format.order a a = some .eq := by simpa using oa
      have ob' : FloatKind.f64.format.order b b = some .eq := by simpa using ob
      clear h hna hnb ha hb hne oa ob
      go_enter Try.func24, Try.ntmps24
      go_wp2
      go_ret
      simp
    · exfalso
      rw [sameB, hna, hnb] at h
      simp at h
theorem rFloat_any (a b : Nat) (ha : a < 18446744073709551616) (hb : b < 18446744073709551616) (w : World) : Calls Try.prog 24 #[.float .f64 a, .float .f64 b] w fun e w' => e = .returned (.bool (sameB a b)) ∧ w = w' := by
  cases h : sameB a b
  · exact rFloat_no a b ha hb h w
  · exact rFloat_yes a b (sameB_iff.1 h) w
theorem rSame_any (a b c d : Nat) (ha : a < 18446744073709551616) (hb : b < 18446744073709551616) (hc : c < 18446744073709551616) (hd : d < 18446744073709551616) (w : World) :
    Calls Try.prog 18 #[.float .f64 a, .float .f64 b, .float .f64 c, .float .f64 d] w fun e w' => e = .returned (.bool (sameB a c && sameB b d)) ∧ w = w' := by
  have HA := hide (rFloat_any a c ha hc)
  have HB := hide (rFloat_any b d hb hd)
  clear ha hb hc hd
  obtain ⟨x, hx⟩ : ∃ x, sameB a c = x := ⟨_, rfl⟩
  rw [hx] at HA ⊢
  cases x
  all_goals
    clear hx
    go_enter Try.func18, Try.ntmps18
    go_wp2_with (first
      | (go_at_call 24; with_reducible refine (HA.out _).mono ?_; rintro e w' ⟨rfl, rfl⟩)
      | (go_at_call 24; with_reducible refine (HB.out _).mono ?_; rintro e w' ⟨rfl, rfl⟩))
    go_ret
    exact ⟨ret_bool (by simp), rfl⟩
theorem rTurn_any (a b k : Nat) (hk : k < 4) (w : World) : Calls Try.prog 16 #[.float .f64 a, .float .f64 b, .int .i64 (k : Int)] w fun e w' => e = .returned (.tuple #[.float .f64 (rot k a b).1, .float .f64 (rot k a b).2]) ∧ w = w' := by
  have h4 : k = 0 ∨ k = 1 ∨ k = 2 ∨ k = 3 := by omega
  rcases h4 with rfl | rfl | rfl | rfl
  all_goals
    go_enter Try.func16, Try.ntmps16
    go_wp2_with fail
    go_ret2
    exact ⟨rfl, rfl⟩
end Go.Proofs.Ytmkhicaaemghiaa.Ph
