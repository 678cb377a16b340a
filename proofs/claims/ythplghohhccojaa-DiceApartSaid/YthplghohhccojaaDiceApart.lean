/- The law of dice's orders of unlike draws, walked. -/
import Derived.Test.YthplghohhccojaaDicePlain2
namespace Go.Proofs.Ythplghohhccojaa.Dice
open Go.RowKit Go.Proofs.Ythplghohhccojaa.W
set_option linter.unusedVariables false
set_option linter.unusedSimpArgs false

def FactRel (w : World) (k g : Nat) (s8 s9 : Value) (wr : World) : Prop :=
  ∃ i F : Nat, s9 = .int .i64 ((i : Int) + 1) ∧ s8 = .int .i64 (F : Int) ∧ F = fact i ∧ 1 ≤ i ∧ (i ≤ k ∨ i = 1) ∧ i + g = 8 ∧ wr = w
set_option maxRecDepth 100000 in
set_option maxHeartbeats 2000000 in
theorem diceApart_walk (a b n : Int) (w : World) (a0 : 0 ≤ a) (a1 : a < 65536) (b0 : 0 ≤ b) (b1 : b < 65536) (n0 : 0 ≤ n) (n1 : n < 256) :
    Calls Try.prog 5 #[.int .u16 a, .int .u16 b, .int .u8 n] w fun e w' => e = .returned (.bool true) ∧ Below w.heap.size w w' := by
  obtain ⟨k, hk, hk7⟩ : ∃ k : Nat, n % 7 = (k : Int) ∧ k < 7 := ⟨(n % 7).toNat, by omega, by omega⟩
  go_enter Try.func5, Try.ntmps5
  go_wp2_with fail
  go_loopg [8, 9] 7 (fun g s8 s9 wr => FactRel w k g s8 s9 wr)
  case atStart => exact ⟨1, 1, rfl, rfl, rfl, by omega, .inr rfl, by omega, rfl⟩
  case round =>
    obtain ⟨i, F, rfl, rfl, hF, hi1, hik, hg, rfl⟩ := hrel
    have hFle : F ≤ 720 := by rw [hF]; exact fact_le i (by omega)
    have hFpos : 0 < F := by rw [hF]; exact fact_pos i
    have HF := hide hF
    have HG := hide hg
    by_cases hlt : i < k
    · have h1 : (i : Int) + 1 ≤ (k : Int) := by omega
      have hFi : ((F : Int) * ((i : Int) + 1)) ≤ 5040 := by
        have : F * (i + 1) ≤ 720 * 7 := Nat.mul_le_mul hFle (by omega)
        have e : ((F * (i + 1) : Nat) : Int) = (F : Int) * ((i : Int) + 1) := by rw [Int.natCast_mul]; rfl
        omega
      have hF0 : 0 ≤ ((F : Int) * ((i : Int) + 1)) := by
        have e : ((F * (i + 1) : Nat) : Int) = (F : Int) * ((i : Int) + 1) := by rw [Int.natCast_mul]; rfl
        omega
      clear hF hg hik
      go_wp2_with fail
      have hg := HG.out
      go_roundg (gk - 1)
      case measure => omega
      case rel =>
        refine ⟨i + 1, F * (i + 1), by go_num, ?_, ?_, by omega, .inl (by omega), by omega, rfl⟩
        · rw [Int.natCast_mul]; rfl
        · rw [HF.out]; rfl
    · have h1 : (k : Int) < (i : Int) + 1 := by omega
      have hFk : F = fact k := by
        rw [hF]
        rcases hik with h | h
        · rw [show i = k from by omega]
        · subst h
          have : k = 0 ∨ k = 1 := by omega
          rcases this with rfl | rfl <;> rfl
      have HFk := hide hFk
      have hpos : (0 : Int) < (F : Int) := by omega
      obtain ⟨x, hx, x0, x1⟩ : ∃ x, a % (F : Int) = x ∧ 0 ≤ x ∧ x < F := ⟨_, rfl, Int.emod_nonneg _ (by omega), Int.emod_lt_of_pos _ hpos⟩
      obtain ⟨y, hy, y0, y1⟩ : ∃ y, b % (F : Int) = y ∧ 0 ≤ y ∧ y < F := ⟨_, rfl, Int.emod_nonneg _ (by omega), Int.emod_lt_of_pos _ hpos⟩
      have hv := order_same k x y x0 y0 (by rw [← hFk]; exact x1) (by rw [← hFk]; exact y1)
      have HV := hide hv
      clear hF hg hik hFk hv
      go_wp2_with fail
      go_quiet (fail)
      go_wp2_with fail
      refine (order_ok x k _ x0 (by omega) (by omega)).mono ?_
      rintro e w1 ⟨A, c, rfl, hc, hkc, hA, hb1⟩
      have HA := hide hA
      have HB1 := hide hb1
      clear hA hb1
      go_wp2_with fail
      refine (order_ok y k _ y0 (by omega) (by omega)).mono ?_
      rintro e w2 ⟨B, c2, rfl, hc2, hkc2, hB, hb2⟩
      have HB := hide hB
      have HB2 := hide hb2
      clear hB hb2
      go_wp2_with fail
      refine (awake_any _).mono ?_
      rintro e w3 ⟨rfl, hb3⟩
      have HB3 := hide hb3
      clear hb3
      go_wp2_with fail
      refine (ints_eq _ _ k c c2 (ordL k x (upto k)) (ordL k y (upto k)) _ ?_ ?_ (by omega)).mono ?_
      · exact ((HA.out.below HB2.out).below (HB3.out.mono HB2.out.size)).more (Nat.le_trans HB2.out.size HB3.out.size)
      · exact (HB.out.below HB3.out).more HB3.out.size
      rw [HV.out]
      rintro e w4 ⟨rfl, q, rfl⟩
      go_wp2_with fail
      go_ret
      refine ⟨rfl, below_drewN ((((below_drewN (Below.refl _ _) _).trans (HB1.out.mono (Nat.le_refl _))).trans (HB2.out.mono HB1.out.size)).trans (HB3.out.mono (Nat.le_trans HB1.out.size HB2.out.size))) _⟩
end Go.Proofs.Ythplghohhccojaa.Dice
