/- Contracts of the document's block and look. -/
import Derived.Test.YtmocaabdfiffnaaVwLook
namespace Go.Proofs.Ytmocaabdfiffnaa.Ct
open Go.RowKit Go.Proofs.Ytmocaabdfiffnaa.W
set_option linter.unusedVariables false
set_option linter.unusedSimpArgs false

theorem rblock_any (s : ByteArray) (i : Nat) (hs : s.size = 18432) (hi : i < 288) (w : World) : Calls Try.prog 8 #[.string s, .int .i64 (i : Int)] w fun e w' => e = .returned (.string (blk s i)) ∧ w' = w := by
  obtain ⟨m, hm⟩ : ∃ m : Nat, 64 * i = m := ⟨_, rfl⟩
  obtain ⟨m2, hm2⟩ : ∃ m2 : Nat, m + 64 = m2 := ⟨_, rfl⟩
  have e1 : IntKind.i64.wrap (64 * (i : Int)) = (m : Int) := by rw [show 64 * (i : Int) = (m : Int) by omega]; exact IntWalk.i64_in _ (by omega)
  have e2 : IntKind.i64.wrap ((m : Int) + 64) = (m2 : Int) := by rw [show (m : Int) + 64 = (m2 : Int) by omega]; exact IntWalk.i64_in _ (by omega)
  have b1 : (m : Int) ≤ (m2 : Int) := by omega
  have b2 : (m2 : Int) ≤ (s.size : Int) := by omega
  have b3 : m ≤ m2 := by omega
  have b4 : m2 ≤ s.size := by omega
  have hr : blk s i = s.extract m m2 := by
    unfold blk
    rw [hm, hm2]
  rw [hr]
  clear hr hm hm2 hs hi
  go_enter Try.func8, Try.ntmps8
  go_wp2_with fail
  go_ret
  exact ⟨rfl, rfl⟩
end Go.Proofs.Ytmocaabdfiffnaa.Ct
