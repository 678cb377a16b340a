/- The law of dice's orders, walked. -/
import Derived.Test.YthplghohhccojaaDiceRef
namespace Go.Proofs.Ythplghohhccojaa.Dice
open Go.RowKit Go.Proofs.Ythplghohhccojaa.W
set_option linter.unusedVariables false
set_option linter.unusedSimpArgs false

set_option maxHeartbeats 1000000 in
theorem diceOrders_neg (draw n : Int) (w : World) (h : draw < 0) : Calls Try.prog 4 #[.int .i64 draw, .int .i64 n] w fun e w' => e = .returned (.bool true) ∧ Below w.heap.size w w' := by
  have h' : decide (draw < 0) = true := by simpa using h
  go_enter Try.func4, Try.ntmps4
  go_wp2_with (first
    | (go_at_call 9; refine (order_neg _ _ _ h).mono ?_; rintro e w1 ⟨rfl, hb1⟩)
    | (go_at_call 8; refine (awake_any _).mono ?_; rintro e w2 ⟨rfl, hb2⟩))
  go_ret
  exact ⟨rfl, hb1.trans (hb2.mono hb1.size)⟩
set_option maxHeartbeats 1000000 in
theorem diceOrders_arg (draw n : Int) (w : World) (h : 0 ≤ draw) (hn : n < 0 ∨ 12 < n) : Calls Try.prog 4 #[.int .i64 draw, .int .i64 n] w fun e w' => e = .returned (.bool true) ∧ Below w.heap.size w w' := by
  have h' : decide (draw < 0) = false := by simpa using h
  have HN := hide hn
  by_cases h1 : n < 0
  · have h1' : decide (n < 0) = true := by simpa using h1
    clear hn
    go_enter Try.func4, Try.ntmps4
    go_wp2_with (first
      | (go_at_call 9; refine (order_arg _ _ _ h HN.out).mono ?_; rintro e w1 ⟨rfl, hb1⟩)
      | (go_at_call 8; refine (awake_any _).mono ?_; rintro e w2 ⟨rfl, hb2⟩))
    go_ret
    exact ⟨rfl, hb1.trans (hb2.mono hb1.size)⟩
  · have h1' : decide (n < 0) = false := by simpa using h1
    have h2' : decide (12 < n) = true := by simp; omega
    clear hn
    go_enter Try.func4, Try.ntmps4
    go_wp2_with (first
      | (go_at_call 9; refine (order_arg _ _ _ h HN.out).mono ?_; rintro e w1 ⟨rfl, hb1⟩)
      | (go_at_call 8; refine (awake_any _).mono ?_; rintro e w2 ⟨rfl, hb2⟩))
    go_ret
    exact ⟨rfl, hb1.trans (hb2.mono hb1.size)⟩

def AllRel (w1 : World) (n k : Nat) (s7 : Value) (wr : World) : Prop := ∃ i : Nat, s7 = .int .i64 (i : Int) ∧ i + k = n ∧ wr = w1
set_option maxRecDepth 100000 in
set_option maxHeartbeats 2000000 in
theorem diceOrders_ok (draw : Int) (n : Nat) (w : World) (h : 0 ≤ draw) (hd : draw ≤ 9223372036854775807) (hn : n ≤ 12) :
    Calls Try.prog 4 #[.int .i64 draw, .int .i64 (n : Int)] w fun e w' => e = .returned (.bool true) ∧ Below w.heap.size w w' := by
  have h' : decide (draw < 0) = false := by simpa using h
  have h1' : decide ((n : Int) < 0) = false := by simp
  have h2' : decide (12 < (n : Int)) = false := by simp; omega
  go_enter Try.func4, Try.ntmps4
  go_wp2_with fail
  refine (order_ok draw n _ h hd hn).mono ?_
  rintro e w1 ⟨A, c, rfl, hc, hnc, hA, hb1⟩
  have HA := hide hA
  have HB1 := hide hb1
  clear hA hb1
  go_wp2_with fail
  go_loopg [7] n (fun k s7 wr => AllRel w1 n k s7 wr)
  case atStart => exact ⟨0, rfl, by omega, rfl⟩
  case round =>
    obtain ⟨i, rfl, hk, rfl⟩ := hrel
    have HK := hide hk
    by_cases hi : i < n
    · have hlt : (i : Int) < (n : Int) := by omega
      have hmem : decide ((i : Int) ∈ ordL n draw (upto n)) = true := by
        simp only [decide_eq_true_eq]
        rw [mem_ordL n draw _ _ h (by simp [upto])]
        exact List.mem_of_getElem? (upto_get n i hi)
      clear hk
      go_wp2_with (first
        | (go_at_call 10; refine (has_any A n c (ordL n draw (upto n)) (i : Int) _ HA.out (by omega)).mono ?_; rintro e w' ⟨rfl, rfl⟩))
      have hk := HK.out
      go_roundg (gk - 1)
      case measure => omega
      case rel => exact ⟨i + 1, by go_num, by omega, rfl⟩
    · obtain rfl : i = n := by omega
      have hlt : decide (i < i) = false := by simp
      clear hk hi
      go_wp2_with fail
      refine (awake_any _).mono ?_
      rintro e w2 ⟨rfl, hb2⟩
      have HB2 := hide hb2
      clear hb2
      go_wp2_with fail
      refine (rorder_ok draw i _ h hd hn).mono ?_
      rintro e w3 ⟨B, c2, rfl, hB, hb3⟩
      have HBB := hide hB
      have HB3 := hide hb3
      clear hB hb3
      go_wp2_with fail
      refine (ints_yes A B i c c2 _ _ ?_ HBB.out (by omega)).mono ?_
      · exact ((HA.out.below HB2.out).below (HB3.out.mono HB2.out.size)).more (Nat.le_trans HB2.out.size HB3.out.size)
      rintro e w4 ⟨rfl, q, rfl⟩
      go_wp2_with fail
      go_ret
      exact ⟨rfl, below_drewN ((HB1.out.trans (HB2.out.mono HB1.out.size)).trans (HB3.out.mono (Nat.le_trans HB1.out.size HB2.out.size))) _⟩
end Go.Proofs.Ythplghohhccojaa.Dice
