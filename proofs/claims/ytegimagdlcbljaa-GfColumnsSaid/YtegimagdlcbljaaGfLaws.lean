/- The laws of gf, walked. -/
import Derived.Test.YtegimagdlcbljaaGfRef
namespace Go.Proofs.Ytegimagdlcbljaa.Gf
open Go.RowKit Go.Proofs.Ytegimagdlcbljaa.W
set_option linter.unusedVariables false
set_option linter.unusedSimpArgs false

theorem mul_lit1 (w : World) : Calls Try.prog 11 #[.int .u8 87, .int .u8 131] w fun e w' => e = .returned (.int .u8 193) ∧ Below w.heap.size w w' := by
  have h := mul_any 87#8 131#8 w
  rw [show mu 87#8 131#8 = 193#8 from by decide] at h
  exact h
theorem mul_lit2 (w : World) : Calls Try.prog 11 #[.int .u8 87, .int .u8 19] w fun e w' => e = .returned (.int .u8 254) ∧ Below w.heap.size w w' := by
  have h := mul_any 87#8 19#8 w
  rw [show mu 87#8 19#8 = 254#8 from by decide] at h
  exact h
theorem inv_lit (w : World) : Calls Try.prog 14 #[.int .u8 83] w fun e w' => e = .returned (.int .u8 202) ∧ Below w.heap.size w w' := by
  have h := inv_any 83#8 w
  rw [show iv 83#8 = 202#8 from iv_uniq _ _ (by decide)] at h
  exact h
theorem turn_below (a : BitVec 8) (n : Int) (w : World) : Calls Try.prog 20 #[.int .u8 (a.toNat : Int), .int .i64 n] w fun e w' => e = .returned (.int .u8 ((tn a n).toNat : Int)) ∧ Below w.heap.size w w' :=
  (turn_any a n w).mono fun _ _ ⟨he, m, hm⟩ => ⟨he, hm ▸ below_drewN (Below.refl _ _) _⟩
theorem turn_lit (w : World) : Calls Try.prog 20 #[.int .u8 128, .int .i64 1] w fun e w' => e = .returned (.int .u8 1) ∧ Below w.heap.size w w' := by
  have h := turn_below 128#8 1 w
  rw [show tn 128#8 1 = 1#8 from by decide] at h
  exact h
theorem awake_any (w : World) : Calls Try.prog 8 #[] w fun e w' => e = .returned (.bool true) ∧ Below w.heap.size w w' := by
  have hb : Below w.heap.size w w := Below.refl _ _
  have hB : w.heap.size ≤ w.heap.size := Nat.le_refl _
  go_enter Try.func8, Try.ntmps8
  go_wp2_with (first
    | (go_at_call 11; with_reducible refine (on hb hB (mul_lit1 _)).mono ?_; clear hb; rintro e w' ⟨rfl, hb⟩)
    | (go_at_call 11; with_reducible refine (on hb hB (mul_lit2 _)).mono ?_; clear hb; rintro e w' ⟨rfl, hb⟩)
    | (go_at_call 14; with_reducible refine (on hb hB (inv_lit _)).mono ?_; clear hb; rintro e w' ⟨rfl, hb⟩)
    | (go_at_call 20; with_reducible refine (on hb hB (turn_lit _)).mono ?_; clear hb; rintro e w' ⟨rfl, hb⟩))
  go_ret
  exact ⟨rfl, hb⟩

theorem rmul_two (a : BitVec 8) (w : World) : Calls Try.prog 12 #[.int .i64 (a.toNat : Int), .int .i64 2] w fun e w' => e = .returned (.int .i64 ((tw a).toNat : Int)) ∧ w = w' := by
  have h := rmul_any a 2#8 w
  rw [mu_two] at h
  exact h

set_option maxHeartbeats 1000000 in
theorem gfMuls_walk (a b : BitVec 8) (w : World) : Calls Try.prog 3 #[.int .u8 (a.toNat : Int), .int .u8 (b.toNat : Int)] w fun e w' => e = .returned (.bool true) ∧ Below w.heap.size w w' := by
  have hb : Below w.heap.size w w := Below.refl _ _
  have hB : w.heap.size ≤ w.heap.size := Nat.le_refl _
  have b0 : (a.toNat : Int) < 256 := by omega
  have b1 : (b.toNat : Int) < 256 := by omega
  have b2 : ((ad a b).toNat : Int) < 256 := by omega
  have b3 : ((mu a b).toNat : Int) < 256 := by omega
  have b4 : ((tw a).toNat : Int) < 256 := by omega
  go_enter Try.func3, Try.ntmps3
  go_wp2_with (first
    | (go_at_call 8; with_reducible refine (on hb hB (awake_any _)).mono ?_; clear hb; rintro e w' ⟨rfl, hb⟩)
    | (go_at_call 11; with_reducible refine (on hb hB (mul_any _ _ _)).mono ?_; clear hb; rintro e w' ⟨rfl, hb⟩)
    | (go_at_call 9; with_reducible refine (add_any _ _ _).mono ?_; rintro e w' ⟨rfl, rfl⟩)
    | (go_at_call 13; with_reducible refine (twice_any _ _).mono ?_; rintro e w' ⟨rfl, rfl⟩)
    | (go_at_call 10; with_reducible refine (radd_any _ _ _).mono ?_; rintro e w' ⟨rfl, rfl⟩)
    | (go_at_call 12; with_reducible refine (rmul_any _ _ _).mono ?_; rintro e w' ⟨rfl, rfl⟩)
    | (go_at_call 12; with_reducible refine (rmul_two _ _).mono ?_; rintro e w' ⟨rfl, rfl⟩))
  go_ret
  exact ⟨rfl, hb⟩

theorem mul_l1 (a : BitVec 8) (w : World) : Calls Try.prog 11 #[.int .u8 (a.toNat : Int), .int .u8 1] w fun e w' => e = .returned (.int .u8 (a.toNat : Int)) ∧ Below w.heap.size w w' := by
  have h := mul_any a 1#8 w
  rw [mu_one] at h
  exact h
theorem mul_l0 (a : BitVec 8) (w : World) : Calls Try.prog 11 #[.int .u8 (a.toNat : Int), .int .u8 0] w fun e w' => e = .returned (.int .u8 0) ∧ Below w.heap.size w w' := by
  have h := mul_any a 0#8 w
  rw [mu_zero] at h
  exact h
theorem castEq {a b : BitVec 8} (h : a = b) : (a.toNat : Int) = (b.toNat : Int) := by rw [h]

set_option maxRecDepth 100000 in
set_option maxHeartbeats 2000000 in
theorem gfField_walk (x y z : BitVec 8) (w : World) : Calls Try.prog 4 #[.int .u8 (x.toNat : Int), .int .u8 (y.toNat : Int), .int .u8 (z.toNat : Int)] w fun e w' => e = .returned (.bool true) ∧ Below w.heap.size w w' := by
  have hb : Below w.heap.size w w := Below.refl _ _
  have hB : w.heap.size ≤ w.heap.size := Nat.le_refl _
  have f1 : (((ad x y).toNat : Int) != (ad y x).toNat) = false := ne_false_of (castEq (BitVec.xor_comm _ _))
  have f2 : (((mu x y).toNat : Int) != (mu y x).toNat) = false := ne_false_of (castEq (mu_comm _ _))
  have f3 : (((ad (ad x y) z).toNat : Int) != (ad x (ad y z)).toNat) = false := ne_false_of (castEq (BitVec.xor_assoc _ _ _))
  have f4 : (((mu (mu x y) z).toNat : Int) != (mu x (mu y z)).toNat) = false := ne_false_of (castEq (mu_assoc _ _ _))
  have f5 : (((mu x (ad y z)).toNat : Int) != (ad (mu x y) (mu x z)).toNat) = false := ne_false_of (castEq (mu_addB _ _ _))
  have f6 : (((ad x x).toNat : Int) != 0) = false := ne_false_of (castEq (b := 0#8) (BitVec.xor_self))
  by_cases hx : x = 0#8
  · have g0 : ((x.toNat : Int) == 0) = true := eq_true_of (castEq (b := 0#8) hx)
    have g1 : (((iv x).toNat : Int) == 0) = true := eq_true_of (castEq (b := 0#8) (by rw [hx, iv_zero]))
    clear hx
    go_enter Try.func4, Try.ntmps4
    go_wp2_with (first
      | (go_at_call 8; with_reducible refine (on hb hB (awake_any _)).mono ?_; clear hb; rintro e w' ⟨rfl, hb⟩)
      | (go_at_call 11; with_reducible refine (on hb hB (mul_l1 _ _)).mono ?_; clear hb; rintro e w' ⟨rfl, hb⟩)
      | (go_at_call 11; with_reducible refine (on hb hB (mul_l0 _ _)).mono ?_; clear hb; rintro e w' ⟨rfl, hb⟩)
      | (go_at_call 11; with_reducible refine (on hb hB (mul_any _ _ _)).mono ?_; clear hb; rintro e w' ⟨rfl, hb⟩)
      | (go_at_call 9; with_reducible refine (add_any _ _ _).mono ?_; rintro e w' ⟨rfl, rfl⟩)
      | (go_at_call 14; with_reducible refine (on hb hB (inv_any _ _)).mono ?_; clear hb; rintro e w' ⟨rfl, hb⟩))
    go_ret
    exact ⟨rfl, hb⟩
  · have hn : x.toNat ≠ 0 := fun h => hx (BitVec.eq_of_toNat_eq (by simpa using h))
    have g0 : ((x.toNat : Int) == 0) = false := by simpa using hn
    have g2 : ((x.toNat : Int) != 0) = true := by simpa using hn
    have g1 : (((mu x (iv x)).toNat : Int) == 1) = true := eq_true_of (castEq (b := 1#8) (iv_mu x hx))
    clear hx hn
    go_enter Try.func4, Try.ntmps4
    go_wp2_with (first
      | (go_at_call 8; with_reducible refine (on hb hB (awake_any _)).mono ?_; clear hb; rintro e w' ⟨rfl, hb⟩)
      | (go_at_call 11; with_reducible refine (on hb hB (mul_l1 _ _)).mono ?_; clear hb; rintro e w' ⟨rfl, hb⟩)
      | (go_at_call 11; with_reducible refine (on hb hB (mul_l0 _ _)).mono ?_; clear hb; rintro e w' ⟨rfl, hb⟩)
      | (go_at_call 11; with_reducible refine (on hb hB (mul_any _ _ _)).mono ?_; clear hb; rintro e w' ⟨rfl, hb⟩)
      | (go_at_call 9; with_reducible refine (add_any _ _ _).mono ?_; rintro e w' ⟨rfl, rfl⟩)
      | (go_at_call 14; with_reducible refine (on hb hB (inv_any _ _)).mono ?_; clear hb; rintro e w' ⟨rfl, hb⟩))
    go_ret
    exact ⟨rfl, hb⟩

end Go.Proofs.Ytegimagdlcbljaa.Gf
