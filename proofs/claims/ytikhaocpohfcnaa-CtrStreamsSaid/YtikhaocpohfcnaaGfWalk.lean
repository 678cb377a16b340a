/- Contracts of gf's functions (elements of a field of 256 elements). -/
import Derived.Test.YtikhaocpohfcnaaProg
import Derived.Test.YtikhaocpohfcnaaWords
import Derived.Test.YtikhaocpohfcnaaGfPlain
namespace Go.Proofs.Ytikhaocpohfcnaa.Gf
open Go.RowKit Go.Proofs.Ytikhaocpohfcnaa.W
set_option linter.unusedVariables false
set_option linter.unusedSimpArgs false

theorem tw_yes : ∀ a : BitVec 8, (bits BinOp.and IntKind.u8 (a.toNat : Int) 128 != 0) = true → bits BinOp.xor IntKind.u8 ((a.toNat : Int) * 2 % 256) 27 = ((tw a).toNat : Int) := by decide +kernel
theorem tw_no : ∀ a : BitVec 8, (bits BinOp.and IntKind.u8 (a.toNat : Int) 128 != 0) = false → (a.toNat : Int) * 2 % 256 = ((tw a).toNat : Int) := by decide +kernel
theorem od_is : ∀ b : BitVec 8, (bits BinOp.and IntKind.u8 (b.toNat : Int) 1 != 0) = od b := by decide +kernel
theorem sr_is : ∀ b : BitVec 8, (b.toNat : Int) / 2 = ((sr b).toNat : Int) := by decide +kernel

theorem twice_any (a : BitVec 8) (w : World) :
    Calls Try.prog 38 #[.int .u8 (a.toNat : Int)] w fun e w' => e = .returned (.int .u8 ((tw a).toNat : Int)) ∧ w = w' := by
  go_enter Try.func38, Try.ntmps38
  go_wp2
  · go_ret
    exact ⟨ret_u8 (tw_yes a ‹_›), rfl⟩
  · go_ret
    exact ⟨ret_u8 (tw_no a ‹_›), rfl⟩

theorem add_any (a b : BitVec 8) (w : World) :
    Calls Try.prog 61 #[.int .u8 (a.toNat : Int), .int .u8 (b.toNat : Int)] w fun e w' => e = .returned (.int .u8 ((ad a b).toNat : Int)) ∧ w = w' := by
  go_enter Try.func61, Try.ntmps61
  go_wp2
  go_ret
  exact ⟨ret_u8 (xor_u8 a b), rfl⟩

/-- The world in which a product is made: the factors and what has been gathered, each in a block of its own. -/
def mw (w : World) (a b o : BitVec 8) (n : Nat) : World :=
  (((w.alloc (.cells #[.int .u8 (a.toNat : Int)] 67)).alloc (.cells #[.int .u8 (b.toNat : Int)] 67)).alloc (.cells #[.int .u8 (o.toNat : Int)] 67)).drewN n

def Stepped (w : World) (a b o : BitVec 8) (w' : World) : Prop := ∃ m, w' = mw w (tw a) (sr b) (ga a b o) m

set_option maxHeartbeats 400000 in
theorem step_any (a b o : BitVec 8) (n : Nat) (w : World) :
    Calls Try.prog 60 #[.pointer (some ⟨w.heap.size + 1, 0, none⟩), .pointer (some ⟨w.heap.size + 1 + 1, 0, none⟩), .pointer (some ⟨w.heap.size, 0, none⟩)]
      (mw w a b o n) fun e w' => e = .returned (.tuple #[]) ∧ Stepped w a b o w' := by
  unfold mw
  cases hb : od b
  · have h := od_is b
    rw [hb] at h
    have HB := hide hb
    clear hb
    go_enter Try.func60, Try.ntmps60
    go_wp2_with (first | (go_at_call 61; refine (add_any _ _ _).mono ?_; rintro e w' ⟨rfl, rfl⟩))
    go_region_with (first | (go_at_call 38; refine (twice_any _ _).mono ?_; rintro e w' ⟨rfl, rfl⟩))
    all_goals go_wp2
    all_goals go_end0
    all_goals refine ⟨rfl, n + 1, ?_⟩
    all_goals rw [ga, HB.out, sr_is]; rfl
  · have h := od_is b
    rw [hb] at h
    have HB := hide hb
    clear hb
    go_enter Try.func60, Try.ntmps60
    go_wp2_with (first | (go_at_call 61; refine (add_any _ _ _).mono ?_; rintro e w' ⟨rfl, rfl⟩))
    go_region_with (first | (go_at_call 38; refine (twice_any _ _).mono ?_; rintro e w' ⟨rfl, rfl⟩))
    all_goals go_wp2
    all_goals go_end0
    all_goals refine ⟨rfl, n + 1, ?_⟩
    all_goals rw [ga, HB.out, sr_is]; rfl
end Go.Proofs.Ytikhaocpohfcnaa.Gf
