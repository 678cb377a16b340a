/- Contracts of the comparisons of floats. -/
import Derived.Test.YtmkhicaaemghiaaProg
import Derived.Test.YtmkhicaaemghiaaFloatOrder
import Derived.Laws.Cover2
namespace Go.Proofs.Ytmkhicaaemghiaa.Ph
open Go.RowKit Go.Proofs.Ytmkhicaaemghiaa.W Go.Proofs.Ytmkhicaaemghiaa.Fl
set_option linter.unusedVariables false
set_option linter.unusedSimpArgs false

theorem order_selfB (a : Nat) : (FloatKind.f64.format.order a a == some .eq) = !nanB a := order_self a
theorem isNaN_any (a : Nat) (w : World) : Calls Try.prog 28 #[.float .f64 a] w fun e w' => e = .returned (.bool (nanB a)) ∧ w = w' := by
  have h := order_selfB a
  cases hn : nanB a
  · rw [hn] at h
    go_enter Try.func28, Try.ntmps28
    go_wp2
    go_ret
    simp
    simpa using h
  · rw [hn] at h
    go_enter Try.func28, Try.ntmps28
    go_wp2
    go_ret
    simp
    simpa using h
theorem zero_form {a : Nat} (h : (FloatKind.f64.format.order a 0 == some .eq) = true) : ∃ s e, d.read a = .number s 0 e := by
  have h0 : FloatKind.f64.format.order a 0 = some .eq := by simpa using h
  have h' : d.order a 0 = some .eq := h0
  unfold Ieee.Format.order at h'
  rw [show d.read 0 = .number false 0 (-1074) from by decide] at h'
  cases hd : d.read a with
  | number s m e =>
    rw [hd] at h'
    simp only [Ieee.Datum.order, Option.some.injEq] at h'
    have h1 : Ieee.signed s m (e - min e (-1074)).toNat = Ieee.signed false 0 (-1074 - min e (-1074)).toNat := by
      rcases Int.lt_trichotomy (Ieee.signed s m (e - min e (-1074)).toNat) (Ieee.signed false 0 (-1074 - min e (-1074)).toNat) with h2 | h2 | h2
      · rw [compare, instOrdInt] at h'; simp [compareOfLessAndEq, h2] at h'
      · exact h2
      · rw [compare, instOrdInt] at h'; simp [compareOfLessAndEq, Int.not_lt.2 (Int.le_of_lt h2), Int.ne_of_gt h2] at h'
    have h3 := congrArg Int.natAbs h1
    rw [signed_abs, signed_abs] at h3
    have h4 : m = 0 := by
      rcases Nat.eq_zero_or_pos m with h | h
      · exact h
      · have := Nat.mul_pos h (Nat.two_pow_pos (e - min e (-1074)).toNat)
        omega
    subst h4
    exact ⟨s, e, rfl⟩
  | infinity s =>
    rw [hd] at h'
    cases s <;> simp [Ieee.Datum.order] at h'
  | nan s f =>
    rw [hd] at h'
    simp [Ieee.Datum.order] at h'
theorem div_zero {a : Nat} (h : (FloatKind.f64.format.order a 0 == some .eq) = true) : ∃ r, FloatKind.f64.format.div 4607182418800017408 a = some r ∧ (FloatKind.f64.format.order r r == some .eq) = true := by
  obtain ⟨s, e, hr⟩ := zero_form h
  have h1 : d.div 4607182418800017408 a = some (d.write (.infinity (false ^^ s))) := by
    unfold Ieee.Format.div
    rw [hr, show d.read 4607182418800017408 = .number false 4503599627370496 (-52) from by decide]
    rfl
  refine ⟨_, h1, ?_⟩
  cases s <;> decide
theorem run_quo {x y r : Nat} (h : FloatKind.f64.format.div x y = some r) (P : Program) (t : TypeId) (w : World) : (binOp .quo t (.float .f64 x) (.float .f64 y)).run P w = .ok (.float .f64 r) w := by
  have := run_floatArith (P := P) w (op := .quo) (k := .f64) (x := x) (y := y) (r := r) h
  simpa [binOp] using this
set_option maxHeartbeats 1000000 in
theorem rFloat_yes (a b : Nat) (h : E a b) (w : World) : Calls Try.prog 24 #[.float .f64 a, .float .f64 b] w fun e w' => e = .returned (.bool true) ∧ w = w' := by
  rcases h with rfl | ⟨h1, h2⟩
  · have h := order_selfB a
    cases hn : nanB a
    · rw [hn] at h
      have hs : FloatKind.f64.format.order a a = some .eq := by simpa using h
      by_cases hz : FloatKind.f64.format.order a 0 = some .eq
      · obtain ⟨r, hr, ho⟩ := div_zero (a := a) (by simpa using hz)
        have ho' : FloatKind.f64.format.order r r = some .eq := by simpa using ho
        have hq := fun t w => run_quo hr Try.prog t w
        clear h ho hr
        go_enter Try.func24, Try.ntmps24
        go_wp2
        go_ret
        simp
      · clear h
        go_enter Try.func24, Try.ntmps24
        go_wp2
        go_ret
        simp
    · rw [hn] at h
      have hs : ¬ FloatKind.f64.format.order a a = some .eq := by simpa using h
      clear h
      go_enter Try.func24, Try.ntmps24
      go_wp2
      go_ret
      simp
      exact hs
  · have ha := order_selfB a
    have hb := order_selfB b
    rw [show nanB a = true from h1] at ha
    rw [show nanB b = true from h2] at hb
    have hs : ¬ FloatKind.f64.format.order a a = some .eq := by simpa using ha
    have hs2 : ¬ FloatKind.f64.format.order b b = some .eq := by simpa using hb
    clear ha hb h1 h2
    go_enter Try.func24, Try.ntmps24
    go_wp2
    go_ret
    simp
    exact ⟨hs, hs2⟩
end Go.Proofs.Ytmkhicaaemghiaa.Ph
