/- The law of gf's powers, walked. -/
import Derived.Test.YtegimagdlcbljaaGfLaws
namespace Go.Proofs.Ytegimagdlcbljaa.Gf
open Go.RowKit Go.Proofs.Ytegimagdlcbljaa.W
set_option linter.unusedVariables false
set_option linter.unusedSimpArgs false

theorem tmodm_split (n : Int) (m : Nat) (hm : 0 < m) : (∃ s : Nat, n.tmod m = s ∧ s < m) ∨ (∃ s : Nat, n.tmod m = -(s : Int) ∧ 0 < s ∧ s < m) := by
  have h := Int.tmod_eq_emod (a := n) (b := m)
  have h0 := Int.emod_nonneg n (show (m : Int) ≠ 0 by omega)
  have h1 := Int.emod_lt_of_pos n (show (0 : Int) < m by omega)
  split at h
  · exact .inl ⟨(n % m).toNat, by omega, by omega⟩
  · by_cases hz : n % m = 0
    · rename_i hh; exact absurd (Or.inr (Int.dvd_of_emod_eq_zero hz)) hh
    · exact .inr ⟨m - (n % m).toNat, by simp at h; omega, by omega, by omega⟩

theorem tmod1000_split (n : Int) : (∃ s : Nat, n.tmod 1000 = s ∧ s < 1000) ∨ (∃ s : Nat, n.tmod 1000 = -(s : Int) ∧ 0 < s ∧ s < 1000) := tmodm_split n 1000 (by omega)
set_option maxRecDepth 100000 in
set_option maxHeartbeats 2000000 in
theorem gfPowers_walk (x : BitVec 8) (n m k : Int) (w : World) (n0 : -9223372036854775807 - 1 ≤ n) (n1 : n ≤ 9223372036854775807) (m0 : -32768 ≤ m) (m1 : m ≤ 32767) (k0 : -32768 ≤ k) (k1 : k ≤ 32767) :
    Calls Try.prog 5 #[.agg #[.int .u8 (x.toNat : Int), .int .i64 n, .int .i16 m, .int .i16 k]] w fun e w' => e = .returned (.bool true) ∧ Below w.heap.size w w' := by
  have f1 : (((pw x 256).toNat : Int) != x.toNat) = false := ne_false_of (castEq (by rw [show (256 : Int) = ((255 + 1 : Nat) : Int) from rfl, pw_nat]; by_cases hx : x = 0#8
                                                                                     · subst hx; exact powN_zero _
                                                                                     · rw [powN_add, powN_255 x hx, one_mu]; exact one_mu _))
  have f2 : (((pw x 0).toNat : Int) != 1) = false := ne_false_of (castEq (b := 1#8) (by rw [show (0 : Int) = ((0 : Nat) : Int) from rfl, pw_nat]; rfl))
  have l0 := tmod_lo n
  have l1 := tmod_hi n
  have bx : (x.toNat : Int) < 256 := by omega
  have bi : ((iv x).toNat : Int) < 256 := by omega
  rcases tmod1000_split n with ⟨s, hs, hs1⟩ | ⟨s, hs, hs0, hs1⟩
  all_goals
    have f4 : (((pw x (s : Int)).toNat : Int) != (powN x s).toNat) = false := ne_false_of (castEq (pw_nat x s))
    have b4 : ((pw x (s : Int)).toNat : Int) < 256 := by omega
    by_cases hx : x = 0#8
    · have g0 : ((x.toNat : Int) == 0) = true := eq_true_of (castEq (b := 0#8) hx)
      by_cases hn : n = 0
      · have g1 : (n == 0) = true := by simpa using hn
        clear hx hn
        have hb : Below w.heap.size w (w.alloc (.cells #[.int .u8 (x.toNat : Int), .int .i64 n, .int .i16 m, .int .i16 k] 31)) := (Below.refl _ _).alloc (Nat.le_refl _) _
        have hB : w.heap.size ≤ w.heap.size := Nat.le_refl _
        go_enter Try.func5, Try.ntmps5
        go_wp2_with fail
        go_quiet (fail)
        have hb := below_drewN hb nq
        go_wp2_with (first
          | (go_at_call 8; with_reducible refine (on hb hB (awake_any _)).mono ?_; clear hb; rintro e w' ⟨rfl, hb⟩)
          | (go_at_call 15; with_reducible refine (on hb hB (pow_any _ _ _)).mono ?_; clear hb; rintro e w' ⟨rfl, hb⟩)
          | (go_at_call 17; with_reducible refine (rpow_any _ _ hs1 _).mono ?_; rintro e w' ⟨rfl, rfl⟩)
          | (go_at_call 16; with_reducible refine (rinv_any _ _).mono ?_; rintro e w' ⟨rfl, rfl⟩)
          | (go_at_call 14; with_reducible refine (on hb hB (inv_any _ _)).mono ?_; clear hb; rintro e w' ⟨rfl, hb⟩))
        go_ret
        exact ⟨rfl, hb⟩
      · have g1 : (n == 0) = false := by simpa using hn
        have g3 : (((pw x n).toNat : Int) == 0) = true := eq_true_of (castEq (b := 0#8) (by rw [pw, if_pos hx, if_neg hn]))
        clear hx hn
        have hb : Below w.heap.size w (w.alloc (.cells #[.int .u8 (x.toNat : Int), .int .i64 n, .int .i16 m, .int .i16 k] 31)) := (Below.refl _ _).alloc (Nat.le_refl _) _
        have hB : w.heap.size ≤ w.heap.size := Nat.le_refl _
        go_enter Try.func5, Try.ntmps5
        go_wp2_with fail
        go_quiet (fail)
        have hb := below_drewN hb nq
        go_wp2_with (first
          | (go_at_call 8; with_reducible refine (on hb hB (awake_any _)).mono ?_; clear hb; rintro e w' ⟨rfl, hb⟩)
          | (go_at_call 15; with_reducible refine (on hb hB (pow_any _ _ _)).mono ?_; clear hb; rintro e w' ⟨rfl, hb⟩)
          | (go_at_call 17; with_reducible refine (rpow_any _ _ hs1 _).mono ?_; rintro e w' ⟨rfl, rfl⟩)
          | (go_at_call 16; with_reducible refine (rinv_any _ _).mono ?_; rintro e w' ⟨rfl, rfl⟩)
          | (go_at_call 14; with_reducible refine (on hb hB (inv_any _ _)).mono ?_; clear hb; rintro e w' ⟨rfl, hb⟩))
        go_ret
        exact ⟨rfl, hb⟩
    · have g0 : ((x.toNat : Int) == 0) = false := by
        have hn : x.toNat ≠ 0 := fun h => hx (BitVec.eq_of_toNat_eq (by simpa using h))
        simpa using hn
      have g5 : (((pw x n).toNat : Int) == (pw x (n.tmod 255)).toNat) = true := eq_true_of (castEq (pw_period x hx _ _ (by rw [Int.tmod_eq_emod]; split <;> omega)))
      have g6 : (((mu (pw x m) (pw x k)).toNat : Int) == (pw x (m + k)).toNat) = true := eq_true_of (castEq (pw_add x hx _ _))
      have g7 : (((pw x (-m)).toNat : Int) == (pw (iv x) m).toNat) = true := eq_true_of (castEq (pw_inv x hx _))
      clear hx
      have hb : Below w.heap.size w (w.alloc (.cells #[.int .u8 (x.toNat : Int), .int .i64 n, .int .i16 m, .int .i16 k] 31)) := (Below.refl _ _).alloc (Nat.le_refl _) _
      have hB : w.heap.size ≤ w.heap.size := Nat.le_refl _
      go_enter Try.func5, Try.ntmps5
      go_wp2_with fail
      go_quiet (fail)
      have hb := below_drewN hb nq
      go_wp2_with (first
        | (go_at_call 8; with_reducible refine (on hb hB (awake_any _)).mono ?_; clear hb; rintro e w' ⟨rfl, hb⟩)
        | (go_at_call 15; with_reducible refine (on hb hB (pow_any _ _ _)).mono ?_; clear hb; rintro e w' ⟨rfl, hb⟩)
        | (go_at_call 11; with_reducible refine (on hb hB (mul_any _ _ _)).mono ?_; clear hb; rintro e w' ⟨rfl, hb⟩)
        | (go_at_call 17; with_reducible refine (rpow_any _ _ hs1 _).mono ?_; rintro e w' ⟨rfl, rfl⟩)
        | (go_at_call 16; with_reducible refine (rinv_any _ _).mono ?_; rintro e w' ⟨rfl, rfl⟩)
        | (go_at_call 14; with_reducible refine (on hb hB (inv_any _ _)).mono ?_; clear hb; rintro e w' ⟨rfl, hb⟩))
      go_ret
      exact ⟨rfl, hb⟩
end Go.Proofs.Ytegimagdlcbljaa.Gf
