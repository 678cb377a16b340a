/- The contract of phase's sum of two phases. -/
import Derived.Test.YtadlfebpaijbhaaProg
import Derived.Test.YtadlfebpaijbhaaFloatOrder
import Derived.WalkLawsBesides
namespace Go.Proofs.Ytadlfebpaijbhaa.Ph
open Go.RowKit Go.Proofs.Ytadlfebpaijbhaa.W Go.Proofs.Ytadlfebpaijbhaa.Fl
set_option linter.unusedVariables false
set_option linter.unusedSimpArgs false

/-- A world that has only drawn. -/
def Drew (w w' : World) : Prop := ∃ k, w' = w.drewN k
theorem Drew.refl (w : World) : Drew w w := ⟨0, rfl⟩
theorem Drew.trans {a b c : World} (h : Drew a b) (k : Drew b c) : Drew a c := by
  obtain ⟨i, rfl⟩ := h
  obtain ⟨j, rfl⟩ := k
  exact ⟨i + j, by rw [World.drewN_drewN]⟩
theorem Drew.below {a b : World} (h : Drew a b) (B : Nat) : Below B a b := by
  obtain ⟨i, rfl⟩ := h
  exact below_drewN (Below.refl _ _) i
/-- What a sum of two phases may be. -/
def PlusE (a b c d : Nat) (w : World) (e : Ending) (w' : World) : Prop := ∃ r s, Res (Fl.d.add a c) r ∧ Res (Fl.d.add b d) s ∧ e = .returned (.complex .f64 r s) ∧ Drew w w'
theorem plus_any (a b c d : Nat) (w : World) : Calls Try.prog 62 #[.complex .f64 a b, .complex .f64 c d] w (PlusE a b c d w) := by
  have h1 := fun t w => run_fadd Try.prog w t a c
  have h2 := fun t w => run_fadd Try.prog w t b d
  go_enter Try.func62, Try.ntmps62
  go_wp2_with fail
  go_ret
  exact ⟨_, _, fpick_res _ _ _ _, fpick_res _ _ _ _, rfl, ⟨_, rfl⟩⟩
end Go.Proofs.Ytadlfebpaijbhaa.Ph
