/- Contracts of phase's small functions. -/
import Derived.Test.YtknchfalmjpiiaaPhaseFloat
namespace Go.Proofs.Ytknchfalmjpiiaa.Ph
open Go.RowKit Go.Proofs.Ytknchfalmjpiiaa.W Go.Proofs.Ytknchfalmjpiiaa.Fl
set_option linter.unusedVariables false
set_option linter.unusedSimpArgs false

theorem rSame_yes (a b c d : Nat) (h1 : E a c) (h2 : E b d) (w : World) : Calls Try.prog 15 #[.float .f64 a, .float .f64 b, .float .f64 c, .float .f64 d] w fun e w' => e = .returned (.bool true) ∧ w = w' := by
  have H1 := hide (rFloat_yes a c h1 w)
  have H2 := hide (rFloat_yes b d h2 w)
  clear h1 h2
  go_enter Try.func15, Try.ntmps15
  go_wp2_with (first
    | (go_at_call 25; with_reducible refine H1.out.mono ?_; rintro e w' ⟨rfl, rfl⟩)
    | (go_at_call 25; with_reducible refine H2.out.mono ?_; rintro e w' ⟨rfl, rfl⟩))
  go_ret
  exact ⟨rfl, rfl⟩
theorem same_yes (a b c d : Nat) (h1 : E a c) (h2 : E b d) (w : World) : Calls Try.prog 10 #[.complex .f64 a b, .float .f64 c, .float .f64 d] w fun e w' => e = .returned (.bool true) ∧ w = w' := by
  have H1 := hide (rSame_yes a b c d h1 h2 w)
  clear h1 h2
  go_enter Try.func10, Try.ntmps10
  go_wp2_with (first
    | (go_at_call 15; with_reducible refine H1.out.mono ?_; rintro e w' ⟨rfl, rfl⟩))
  go_ret
  exact ⟨rfl, rfl⟩
theorem quarters_any (n : Int) (h0 : -9223372036854775808 ≤ n) (h1 : n ≤ 9223372036854775807) (w : World) : Calls Try.prog 9 #[.int .i64 n] w fun e w' => e = .returned (.int .i64 (n % 4)) ∧ w = w' := by
  by_cases h : n.tmod 4 < 0
  · have e : n.tmod 4 + 4 = n % 4 := by rw [Int.tmod_eq_emod] at *; split at h <;> rename_i hh <;> simp only [hh, if_true, if_false] <;> omega
    have l : -4 < n.tmod 4 := by rw [Int.tmod_eq_emod]; split <;> omega
    have h' : decide (n.tmod 4 < 0) = true := by simpa using h
    go_enter Try.func9, Try.ntmps9
    go_wp2
    go_ret
    exact ⟨by first | rfl | exact ret_int e, rfl⟩
  · have e : n.tmod 4 = n % 4 := by rw [Int.tmod_eq_emod] at *; split at h <;> rename_i hh <;> simp only [hh, if_true, if_false] <;> omega
    have h' : decide (n.tmod 4 < 0) = false := by simpa using h
    go_enter Try.func9, Try.ntmps9
    go_wp2
    go_ret
    exact ⟨by first | rfl | exact ret_int e, rfl⟩
end Go.Proofs.Ytknchfalmjpiiaa.Ph
