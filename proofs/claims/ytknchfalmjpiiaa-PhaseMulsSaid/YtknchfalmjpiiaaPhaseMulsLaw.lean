/- The law of phases' products and squares, walked. -/
import Derived.Test.YtknchfalmjpiiaaPhaseAwake
import Derived.Deep.QuietTactic
import Derived.BigQuiet
namespace Go.Proofs.Ytknchfalmjpiiaa.Ph
open Go.RowKit Go.Proofs.Ytknchfalmjpiiaa.W Go.Proofs.Ytknchfalmjpiiaa.Fl
set_option linter.unusedVariables false
set_option linter.unusedSimpArgs false

theorem add2_E {m1 m2 : Option Nat} {x p y q r z : Nat} (h1 : Res m1 x) (h2 : Res m1 p) (k1 : Res m2 y) (k2 : Res m2 q) (h : Res (Fl.d.add x y) r) (k : Res (Fl.d.add p q) z) : E r z := by
  rw [add_E (h1.E h2) (k1.E k2)] at h
  exact h.E k
theorem sub2_E {m1 m2 : Option Nat} {x p y q r z : Nat} (h1 : Res m1 x) (h2 : Res m1 p) (k1 : Res m2 y) (k2 : Res m2 q) (h : Res (Fl.d.sub x y) r) (k : Res (Fl.d.sub p q) z) : E r z := by
  rw [sub_E (h1.E h2) (k1.E k2)] at h
  exact h.E k
section
variable {a b c d : Nat} (ha : a < 18446744073709551616) (hb : b < 18446744073709551616) (hc : c < 18446744073709551616) (hd : d < 18446744073709551616)
include ha hb
theorem norm_no (h : (finB a && finB b) = false) (w : World) : Calls Try.prog 24 #[.complex .f64 a b] w fun e w' => e = .returned (.tuple #[.float .f64 0, .int .i64 20]) ∧ Drew w w' := by
  refine (Norm_any a b ha hb w).mono ?_
  rintro e w' ⟨hdr, ⟨_, rfl⟩ | ⟨h1, _⟩⟩
  · exact ⟨rfl, hdr⟩
  · rw [h] at h1; cases h1
def NormY (a b : Nat) (w : World) (e : Ending) (w' : World) : Prop := Drew w w' ∧ ∃ x y r, Res (Fl.d.mul a a) x ∧ Res (Fl.d.mul b b) y ∧ Res (Fl.d.add x y) r ∧ e = .returned (.tuple #[.float .f64 r, .int .i64 0])
theorem norm_yes (h : (finB a && finB b) = true) (w : World) : Calls Try.prog 24 #[.complex .f64 a b] w (NormY a b w) := by
  refine (Norm_any a b ha hb w).mono ?_
  rintro e w' ⟨hdr, ⟨h1, _⟩ | ⟨_, h1⟩⟩
  · rw [h] at h1; cases h1
  · exact ⟨hdr, h1⟩
include hc hd
theorem mul_no (h : ((finB a && finB b) && (finB c && finB d)) = false) (w : World) : Calls Try.prog 23 #[.complex .f64 a b, .complex .f64 c d] w fun e w' => e = .returned (.tuple #[.complex .f64 0 0, .int .i64 20]) ∧ Drew w w' := by
  refine (mul_any a b c d ha hb hc hd w).mono ?_
  rintro e w' ⟨hdr, ⟨_, rfl⟩ | ⟨h1, _⟩⟩
  · exact ⟨rfl, hdr⟩
  · rw [h] at h1; cases h1
def MulY (a b c d : Nat) (w : World) (e : Ending) (w' : World) : Prop := Drew w w' ∧ ∃ x1 x2 y1 y2 r s, Res (Fl.d.mul a c) x1 ∧ Res (Fl.d.mul b d) x2 ∧ Res (Fl.d.sub x1 x2) r ∧ Res (Fl.d.mul a d) y1 ∧ Res (Fl.d.mul b c) y2 ∧ Res (Fl.d.add y1 y2) s ∧ e = .returned (.tuple #[.complex .f64 r s, .int .i64 0])
theorem mul_yes (h : ((finB a && finB b) && (finB c && finB d)) = true) (w : World) : Calls Try.prog 23 #[.complex .f64 a b, .complex .f64 c d] w (MulY a b c d w) := by
  refine (mul_any a b c d ha hb hc hd w).mono ?_
  rintro e w' ⟨hdr, ⟨h1, _⟩ | ⟨_, h1⟩⟩
  · rw [h] at h1; cases h1
  · exact ⟨hdr, h1⟩
end
theorem same_zero' (W : World) : Calls Try.prog 10 #[.complex .f64 0 0, .float .f64 0, .float .f64 0] W fun e w' => e = .returned (.bool true) ∧ W = w' := same_yes 0 0 0 0 (.refl _) (.refl _) W
set_option maxRecDepth 100000 in
set_option maxHeartbeats 4000000 in
theorem phaseMuls_walk (x y u v : Nat) (n : Int) (hx : x < 18446744073709551616) (hy : y < 18446744073709551616) (hu : u < 18446744073709551616) (hv : v < 18446744073709551616) (w : World) :
    Calls Try.prog 7 #[.agg #[.float .f64 x, .float .f64 y, .int .i64 n, .float .f64 u, .float .f64 v]] w fun e w' => e = .returned (.bool true) ∧ Below w.heap.size w w' := by
  have hrc := fun W => rCounts_any x y W
  have hrd := fun W => rCounts_any u v W
  have o0 : (FloatKind.f64.format.order 0 0 == some .eq) = true := by decide
  have f1 := fun t w x y => run_fadd Try.prog w t x y
  have f2 := fun t w x y => run_fmul Try.prog w t x y
  have f3 := fun t w x y => run_fsub Try.prog w t x y
  cases hf : (finB x && finB y)
  · have hm : ((finB x && finB y) && (finB u && finB v)) = false := by rw [hf]; rfl
    rw [hf] at hrc
    have HRC := hide hrc
    have HM := hide (mul_no hx hy hu hv hm)
    have HN := hide (norm_no hx hy hf)
    clear hrc hrd hf hx hy hu hv hm
    go_enter Try.func7, Try.ntmps7
    go_wp2_with fail
    go_quiet (fail)
    go_wp2_with (first
      | (go_at_call 23; (with_reducible refine (HM.out _).mono ?_); rintro e w' ⟨rfl, ⟨kd, rfl⟩⟩)
      | (go_at_call 24; (with_reducible refine (HN.out _).mono ?_); rintro e w' ⟨rfl, ⟨kd, rfl⟩⟩)
      | (go_at_call 13; (with_reducible refine (HRC.out _).mono ?_); rintro e w' ⟨rfl, ⟨ke, rfl⟩⟩)
      | (go_at_call 10; (with_reducible refine (same_zero' _).mono ?_); rintro e w' ⟨rfl, rfl⟩)
      | (go_at_call 16; (with_reducible refine (awake_any _).mono ?_); rintro e w4 ⟨rfl, hb4⟩; have HB4 := hide hb4; clear hb4))
    go_ret
    exact ⟨rfl, (below_drewN ((Below.refl w.heap.size w).alloc (Nat.le_refl _) _) _).trans (HB4.out.mono (by simp [size_drewN]))⟩
  · have hN := norm_yes hx hy hf
    cases hg : (finB u && finB v)
    · have hm : ((finB x && finB y) && (finB u && finB v)) = false := by rw [hf, hg]; rfl
      rw [hf] at hrc
      rw [hg] at hrd
      have HRC := hide hrc
      have HRD := hide hrd
      have HM := hide (mul_no hx hy hu hv hm)
      have HN := hide hN
      clear hrc hrd hf hx hy hu hv hm hg hN
      go_enter Try.func7, Try.ntmps7
      go_wp2_with fail
      go_quiet (fail)
      go_wp2_with (first
        | (go_at_call 23; (with_reducible refine (HM.out _).mono ?_); rintro e w' ⟨rfl, ⟨kd, rfl⟩⟩)
        | (go_at_call 24; (with_reducible refine (HN.out _).mono ?_); rintro e w' ⟨⟨kd, rfl⟩, n1, n2, n3, q1, q2, q3, rfl⟩; have Q1 := hide q1; have Q2 := hide q2; have Q3 := hide q3; clear q1 q2 q3)
        | (go_at_call 25; (with_reducible refine (rFloat_yes _ _ (add2_E Q1.out (fpick_res _ _ _ _) Q2.out (fpick_res _ _ _ _) Q3.out (fpick_res _ _ _ _)) _).mono ?_); rintro e w' ⟨rfl, rfl⟩)
        | (go_at_call 13; (with_reducible refine (HRC.out _).mono ?_); rintro e w' ⟨rfl, ⟨ke, rfl⟩⟩)
        | (go_at_call 13; (with_reducible refine (HRD.out _).mono ?_); rintro e w' ⟨rfl, ⟨ke, rfl⟩⟩)
        | (go_at_call 10; (with_reducible refine (same_zero' _).mono ?_); rintro e w' ⟨rfl, rfl⟩)
        | (go_at_call 16; (with_reducible refine (awake_any _).mono ?_); rintro e w4 ⟨rfl, hb4⟩; have HB4 := hide hb4; clear hb4))
      go_ret
      exact ⟨rfl, (below_drewN ((Below.refl w.heap.size w).alloc (Nat.le_refl _) _) _).trans (HB4.out.mono (by simp [size_drewN]))⟩
    · have hm : ((finB x && finB y) && (finB u && finB v)) = true := by rw [hf, hg]; rfl
      rw [hf] at hrc
      rw [hg] at hrd
      have HRC := hide hrc
      have HRD := hide hrd
      have HM := hide (mul_yes hx hy hu hv hm)
      have HN := hide hN
      clear hrc hrd hf hx hy hu hv hm hg hN
      go_enter Try.func7, Try.ntmps7
      go_wp2_with fail
      go_quiet (fail)
      go_wp2_with (first
        | (go_at_call 23; (with_reducible refine (HM.out _).mono ?_); rintro e w' ⟨⟨kd, rfl⟩, m1, m2, m3, m4, r, s, z1, z2, z3, z4, z5, z6, rfl⟩; have Z1 := hide z1; have Z2 := hide z2; have Z3 := hide z3; have Z4 := hide z4; have Z5 := hide z5; have Z6 := hide z6; clear z1 z2 z3 z4 z5 z6)
        | (go_at_call 24; (with_reducible refine (HN.out _).mono ?_); rintro e w' ⟨⟨kd, rfl⟩, n1, n2, n3, q1, q2, q3, rfl⟩; have Q1 := hide q1; have Q2 := hide q2; have Q3 := hide q3; clear q1 q2 q3)
        | (go_at_call 25; (with_reducible refine (rFloat_yes _ _ (add2_E Q1.out (fpick_res _ _ _ _) Q2.out (fpick_res _ _ _ _) Q3.out (fpick_res _ _ _ _)) _).mono ?_); rintro e w' ⟨rfl, rfl⟩)
        | (go_at_call 13; (with_reducible refine (HRC.out _).mono ?_); rintro e w' ⟨rfl, ⟨ke, rfl⟩⟩)
        | (go_at_call 13; (with_reducible refine (HRD.out _).mono ?_); rintro e w' ⟨rfl, ⟨ke, rfl⟩⟩)
        | (go_at_call 10; (with_reducible refine (same_yes _ _ _ _ (sub2_E Z1.out (fpick_res _ _ _ _) Z2.out (fpick_res _ _ _ _) Z3.out (fpick_res _ _ _ _)) (add2_E Z4.out (fpick_res _ _ _ _) Z5.out (fpick_res _ _ _ _) Z6.out (fpick_res _ _ _ _)) _).mono ?_); rintro e w' ⟨rfl, rfl⟩)
        | (go_at_call 16; (with_reducible refine (awake_any _).mono ?_); rintro e w4 ⟨rfl, hb4⟩; have HB4 := hide hb4; clear hb4))
      go_ret
      exact ⟨rfl, below_drewN ((below_drewN ((Below.refl w.heap.size w).alloc (Nat.le_refl _) _) _).trans (HB4.out.mono (by simp [size_drewN]))) _⟩
end Go.Proofs.Ytknchfalmjpiiaa.Ph
