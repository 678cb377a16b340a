/- The contracts of gf's powers, turns. -/
import Derived.Test.YtikhaocpohfcnaaGfMul
import Derived.Deep.QuietTactic
import Derived.BigQuiet
namespace Go.Proofs.Ytikhaocpohfcnaa.Gf
open Go.RowKit Go.Proofs.Ytikhaocpohfcnaa.W
set_option linter.unusedVariables false
set_option linter.unusedSimpArgs false

def PowRel (w : World) (r : BitVec 8) (k : Nat) (s0 s1 s5 : Value) (wr : World) : Prop :=
  ∃ (a o : BitVec 8) (j : Nat), s0 = .int .u8 (a.toNat : Int) ∧ s1 = .int .i64 (j : Int) ∧ s5 = .int .u8 (o.toNat : Int) ∧ j < 2 ^ k ∧ j < 256 ∧ mu o (powN a j) = r ∧ Below w.heap.size w wr

theorem and1_i64 : ∀ k : Fin 256, (bits BinOp.and IntKind.i64 (k.val : Int) 1 != 0) = decide (k.val % 2 = 1) := by decide +kernel

theorem tmod_lo (n : Int) : -255 < n.tmod 255 := by rw [Int.tmod_eq_emod]; split <;> omega
theorem tmod_hi (n : Int) : n.tmod 255 < 255 := by rw [Int.tmod_eq_emod]; split <;> omega
theorem tmod_neg (n : Int) (h : n.tmod 255 < 0) : n.tmod 255 + 255 = n % 255 := by rw [Int.tmod_eq_emod] at *; split at h <;> rename_i hh <;> simp only [hh, if_true, if_false] <;> omega
theorem tmod_pos (n : Int) (h : 0 ≤ n.tmod 255) : n.tmod 255 = n % 255 := by rw [Int.tmod_eq_emod] at *; split at h <;> rename_i hh <;> simp only [hh, if_true, if_false] <;> omega

set_option maxHeartbeats 400000 in
theorem pow_zero (n : Int) (w : World) :
    Calls Try.prog 55 #[.int .u8 0, .int .i64 n] w fun e w' => e = .returned (.int .u8 ((pw 0#8 n).toNat : Int)) ∧ Below w.heap.size w w' := by
  by_cases hn : n = 0
  · subst hn
    go_enter Try.func55, Try.ntmps55
    go_wp2
    go_ret
    exact ⟨ret_u8 (by decide), Below.refl _ _⟩
  · have h1 : (n == 0) = false := by simpa using hn
    have hn' : pw 0#8 n = 0#8 := by rw [pw, if_pos rfl, if_neg hn]
    have HN := hide hn'
    clear hn hn'
    go_enter Try.func55, Try.ntmps55
    go_wp2
    go_ret
    exact ⟨ret_u8 (by rw [HN.out]; decide), Below.refl _ _⟩

set_option maxHeartbeats 1000000 in
theorem pow_some (a : BitVec 8) (n : Int) (w : World) (ha : a ≠ 0#8) :
    Calls Try.prog 55 #[.int .u8 (a.toNat : Int), .int .i64 n] w fun e w' => e = .returned (.int .u8 ((pw a n).toNat : Int)) ∧ Below w.heap.size w w' := by
  have hr : pw a n = powN a (n % 255).toNat := by rw [pw, if_neg ha]
  have HR := hide hr
  have ha' : ((a.toNat : Int) == 0) = false := by
    have : a.toNat ≠ 0 := fun h => ha (BitVec.eq_of_toNat_eq (by simpa using h))
    simpa using this
  clear hr ha
  have l0 := tmod_lo n
  have l1 := tmod_hi n
  by_cases hneg : n.tmod 255 < 0
  all_goals
    go_enter Try.func55, Try.ntmps55
    go_wp2
    go_loopg [0, 1, 5] 8 (fun k s0 s1 s5 wr => PowRel w (powN a (n % 255).toNat) k s0 s1 s5 wr)
    case atStart => exact ⟨a, 1#8, (n % 255).toNat, rfl, by congr 1; first | (rw [tmod_neg n hneg]; omega) | (rw [tmod_pos n hneg]; omega), rfl, by omega, by omega, one_mu _, Below.refl _ _⟩
    case round =>
      obtain ⟨a', o', j, rfl, rfl, rfl, hj, hj', heq, hb⟩ := hrel
      have HE := hide heq
      clear heq
      by_cases hz : j = 0
      · subst hz
        go_wp2
        go_ret
        refine ⟨ret_u8 ?_, hb⟩
        rw [HR.out, ← HE.out]
        exact congrArg (fun x : BitVec 8 => (x.toNat : Int)) (mu_one _).symm
      · have hk : 0 < gk := by
          rcases Nat.eq_zero_or_pos gk with h | h
          · subst h; omega
          · exact h
        obtain ⟨k, rfl⟩ : ∃ k, gk = k + 1 := ⟨gk - 1, by omega⟩
        have hpos : (0 : Int) < (j : Int) := by omega
        have hbit := and1_i64 ⟨j, hj'⟩
        by_cases hodd : j % 2 = 1
        · have h2 : (bits BinOp.and IntKind.i64 (j : Int) 1 != 0) = true := by rw [hbit]; simpa using hodd
          clear hbit hz
          go_wp2_with fail
          refine (mul_any _ _ _).mono ?_
          rintro e1 w1 ⟨rfl, hb1⟩
          go_wp2_with fail
          refine (mul_any _ _ _).mono ?_
          rintro e2 w2 ⟨rfl, hb2⟩
          go_wp2_with fail
          go_roundg k
          case measure => omega
          case rel =>
            refine ⟨mu a' a', mu o' a', j / 2, rfl, by congr 1, rfl, by rw [Nat.pow_succ] at hj; omega, by omega, ?_, (hb.trans (hb1.mono hb.size)).trans (hb2.mono (Nat.le_trans hb.size hb1.size))⟩
            rw [← HE.out]
            conv => rhs; rw [show j = 2 * (j / 2) + 1 from by omega, powN_odd]
            rw [mu_assoc, mu_comm a']
        · have h2 : (bits BinOp.and IntKind.i64 (j : Int) 1 != 0) = false := by rw [hbit]; simpa using hodd
          clear hbit hz
          go_wp2_with fail
          refine (mul_any _ _ _).mono ?_
          rintro e1 w1 ⟨rfl, hb1⟩
          go_wp2_with fail
          go_roundg k
          case measure => omega
          case rel =>
            refine ⟨mu a' a', o', j / 2, rfl, by congr 1, rfl, by rw [Nat.pow_succ] at hj; omega, by omega, ?_, (hb.trans (hb1.mono hb.size))⟩
            rw [← HE.out]
            conv => rhs; rw [show j = 2 * (j / 2) from by omega, ← powN_sq]


theorem pow_any (a : BitVec 8) (n : Int) (w : World) :
    Calls Try.prog 55 #[.int .u8 (a.toNat : Int), .int .i64 n] w fun e w' => e = .returned (.int .u8 ((pw a n).toNat : Int)) ∧ Below w.heap.size w w' := by
  by_cases ha : a = 0#8
  · subst ha
    exact pow_zero n w
  · exact pow_some a n w ha

theorem inv_any (a : BitVec 8) (w : World) :
    Calls Try.prog 49 #[.int .u8 (a.toNat : Int)] w fun e w' => e = .returned (.int .u8 ((iv a).toNat : Int)) ∧ Below w.heap.size w w' := by
  go_enter Try.func49, Try.ntmps49
  go_wp2_with fail
  refine (pow_any _ _ _).mono ?_
  rintro e1 w1 ⟨rfl, hb1⟩
  go_wp2_with fail
  go_ret
  exact ⟨rfl, hb1⟩

theorem and7 (n : Int) : bits BinOp.and IntKind.i64 n 7 = n % 8 := by
  show IntKind.i64.wrap ((BitVec.ofInt 64 n &&& BitVec.ofInt 64 7).toNat : Int) = _
  rw [BitVec.toNat_and, show (BitVec.ofInt 64 7).toNat = 2 ^ 3 - 1 from rfl, Nat.and_two_pow_sub_one_eq_mod, BitVec.toNat_ofInt, IntKind.wrap_i64]
  omega
def tn (a : BitVec 8) (n : Int) : BitVec 8 := a.rotateLeft (n % 8).toNat
theorem tn0 : ∀ a : BitVec 8, bits BinOp.or IntKind.u8 (a.toNat : Int) ((a.toNat : Int) / 256) = ((a.rotateLeft (Int.toNat 0)).toNat : Int) := by decide +kernel
theorem tn1 : ∀ a : BitVec 8, bits BinOp.or IntKind.u8 ((a.toNat : Int) * 2 % 256) ((a.toNat : Int) / 128) = ((a.rotateLeft (Int.toNat 1)).toNat : Int) := by decide +kernel
theorem tn2 : ∀ a : BitVec 8, bits BinOp.or IntKind.u8 ((a.toNat : Int) * 4 % 256) ((a.toNat : Int) / 64) = ((a.rotateLeft (Int.toNat 2)).toNat : Int) := by decide +kernel
theorem tn3 : ∀ a : BitVec 8, bits BinOp.or IntKind.u8 ((a.toNat : Int) * 8 % 256) ((a.toNat : Int) / 32) = ((a.rotateLeft (Int.toNat 3)).toNat : Int) := by decide +kernel
theorem tn4 : ∀ a : BitVec 8, bits BinOp.or IntKind.u8 ((a.toNat : Int) * 16 % 256) ((a.toNat : Int) / 16) = ((a.rotateLeft (Int.toNat 4)).toNat : Int) := by decide +kernel
theorem tn5 : ∀ a : BitVec 8, bits BinOp.or IntKind.u8 ((a.toNat : Int) * 32 % 256) ((a.toNat : Int) / 8) = ((a.rotateLeft (Int.toNat 5)).toNat : Int) := by decide +kernel
theorem tn6 : ∀ a : BitVec 8, bits BinOp.or IntKind.u8 ((a.toNat : Int) * 64 % 256) ((a.toNat : Int) / 4) = ((a.rotateLeft (Int.toNat 6)).toNat : Int) := by decide +kernel
theorem tn7 : ∀ a : BitVec 8, bits BinOp.or IntKind.u8 ((a.toNat : Int) * 128 % 256) ((a.toNat : Int) / 2) = ((a.rotateLeft (Int.toNat 7)).toNat : Int) := by decide +kernel
set_option maxHeartbeats 1000000 in
theorem turn_any (a : BitVec 8) (n : Int) (w : World) :
    Calls Try.prog 50 #[.int .u8 (a.toNat : Int), .int .i64 n] w fun e w' => e = .returned (.int .u8 ((tn a n).toNat : Int)) ∧ ∃ m, w' = w.drewN m := by
  have h := and7 n
  have hr : ∀ j, (n % 8).toNat = j → tn a n = a.rotateLeft j := fun j e => by rw [tn, e]
  have hc : n % 8 = 0 ∨ n % 8 = 1 ∨ n % 8 = 2 ∨ n % 8 = 3 ∨ n % 8 = 4 ∨ n % 8 = 5 ∨ n % 8 = 6 ∨ n % 8 = 7 := by omega
  rcases hc with e | e | e | e | e | e | e | e
  all_goals
    rw [e] at h
    have hr' := hr _ (by rw [e])
    have HR := hide hr'
    clear e hr hr'
    go_enter Try.func50, Try.ntmps50
    go_wp2
    go_quiet (fail)
    go_wp2
    go_ret
    rw [HR.out]
  · exact ⟨ret_u8 (tn0 a), nq, rfl⟩
  · exact ⟨ret_u8 (tn1 a), nq, rfl⟩
  · exact ⟨ret_u8 (tn2 a), nq, rfl⟩
  · exact ⟨ret_u8 (tn3 a), nq, rfl⟩
  · exact ⟨ret_u8 (tn4 a), nq, rfl⟩
  · exact ⟨ret_u8 (tn5 a), nq, rfl⟩
  · exact ⟨ret_u8 (tn6 a), nq, rfl⟩
  · exact ⟨ret_u8 (tn7 a), nq, rfl⟩
end Go.Proofs.Ytikhaocpohfcnaa.Gf
