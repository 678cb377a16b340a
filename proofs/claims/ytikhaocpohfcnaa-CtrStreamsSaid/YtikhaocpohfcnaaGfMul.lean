/- The contract of gf's product. -/
import Derived.Test.YtikhaocpohfcnaaGfWalk
namespace Go.Proofs.Ytikhaocpohfcnaa.Gf
open Go.RowKit Go.Proofs.Ytikhaocpohfcnaa.W
set_option linter.unusedVariables false
set_option linter.unusedSimpArgs false

def MulRel (w : World) (a b : BitVec 8) (k : Nat) (wr : World) : Prop :=
  ∃ a' b' o' n, wr = mw w a' b' o' n ∧ b'.toNat < 2 ^ k ∧ mulN k a' b' o' = mu a b

set_option maxHeartbeats 400000 in
theorem mul_any (a b : BitVec 8) (w : World) :
    Calls Try.prog 58 #[.int .u8 (a.toNat : Int), .int .u8 (b.toNat : Int)] w fun e w' => e = .returned (.int .u8 ((mu a b).toNat : Int)) ∧ Below w.heap.size w w' := by
  have hmf : ∀ (fn : Fn) (first cap : Array Value) (w : World), (Instr.makeFunc fn first cap).run Try.prog w = .ok (.func fn first cap) w := fun _ _ _ _ => rfl
  go_enter Try.func58, Try.ntmps58
  go_wp2
  go_loopg [] 8 (fun k wr => MulRel w a b k wr)
  case atStart => exact ⟨a, b, 0#8, 0, rfl, by omega, rfl⟩
  case round =>
    obtain ⟨a', b', o', n, rfl, hlt, heq⟩ := hrel
    have HE := hide heq
    clear heq
    by_cases hz : b' = 0#8
    · subst hz
      unfold mw
      go_wp2
      go_ret
      refine ⟨ret_u8 ?_, below_drewN ((((Below.refl _ _).alloc (Nat.le_refl _) _).alloc (by simp) _).alloc (by simp; omega) _) _⟩
      rw [← HE.out, mulN_zero_b]
    · have hb : ((b'.toNat : Int) != 0) = true := by
        have h0 : b'.toNat ≠ 0 := fun h => hz (BitVec.eq_of_toNat_eq (by simpa using h))
        simpa using h0
      have hk : 0 < gk := by
        rcases Nat.eq_zero_or_pos gk with h | h
        · subst h; exact absurd (BitVec.eq_of_toNat_eq (by simp; omega)) hz
        · exact h
      clear hz
      unfold mw
      go_wp2_with (first | (go_at_call 60; refine (step_any a' b' o' n w).mono ?_; rintro e w' ⟨rfl, m, rfl⟩))
      obtain ⟨k, rfl⟩ : ∃ k, gk = k + 1 := ⟨gk - 1, by omega⟩
      go_roundg k
      case measure => omega
      case rel => exact ⟨tw a', sr b', _, m, rfl, sr_lt _ _ hlt, HE.out⟩
end Go.Proofs.Ytikhaocpohfcnaa.Gf
