/- Contracts of view's small functions, and of geom's What. -/
import Derived.Test.YtmocaabdfiffnaaVwRKind
namespace Go.Proofs.Ytmocaabdfiffnaa.Ct
open Go.RowKit Go.Proofs.Ytmocaabdfiffnaa.W
set_option linter.unusedVariables false
set_option linter.unusedSimpArgs false

theorem vright_yes (s : ByteArray) (hs : s.size = 18432) (w : World) : Calls Try.prog 15 #[.string s] w fun e w' => e = .returned (.bool true) ∧ w' = w := by
  have t1 : ((s.size : Int) == 18432) = true := by simp; omega
  have t2 : (s.size == 18432) = true := by simp; omega
  clear hs
  go_enter Try.func15, Try.ntmps15
  go_wp2_with fail
  go_ret
  exact ⟨rfl, rfl⟩
theorem vright_no (s : ByteArray) (hs : s.size ≠ 18432) (w : World) : Calls Try.prog 15 #[.string s] w fun e w' => e = .returned (.bool false) ∧ w' = w := by
  have t1 : ((s.size : Int) == 18432) = false := by simp; omega
  have t2 : (s.size == 18432) = false := by simp; omega
  clear hs
  go_enter Try.func15, Try.ntmps15
  go_wp2_with fail
  go_ret
  exact ⟨rfl, rfl⟩
/-- A block of an image. -/
def blk (s : ByteArray) (i : Nat) : ByteArray := s.extract (64 * i) (64 * i + 64)
theorem blk_size {s : ByteArray} {i : Nat} (hs : s.size = 18432) (hi : i < 288) : (blk s i).size = 64 := by
  unfold blk
  rw [ByteArray.size_extract]
  omega
theorem block_any (s : ByteArray) (i : Nat) (hs : s.size = 18432) (hi : i < 288) (w : World) : Calls Try.prog 17 #[.string s, .int .i64 (i : Int)] w fun e w' => e = .returned (.string (blk s i)) ∧ w' = w := by
  obtain ⟨i1, h1⟩ : ∃ j : Nat, i + 1 = j := ⟨_, rfl⟩
  obtain ⟨m, hm⟩ : ∃ m : Nat, 64 * i = m := ⟨_, rfl⟩
  obtain ⟨m2, hm2⟩ : ∃ m : Nat, 64 * i1 = m := ⟨_, rfl⟩
  have e1 : IntKind.i64.wrap (64 * (i : Int)) = (m : Int) := by rw [show 64 * (i : Int) = (m : Int) by omega]; exact IntWalk.i64_in _ (by omega)
  have e2 : IntKind.i64.wrap ((i : Int) + 1) = (i1 : Int) := by rw [show (i : Int) + 1 = (i1 : Int) by omega]; exact IntWalk.i64_in _ (by omega)
  have e3 : IntKind.i64.wrap (64 * (i1 : Int)) = (m2 : Int) := by rw [show 64 * (i1 : Int) = (m2 : Int) by omega]; exact IntWalk.i64_in _ (by omega)
  have b1 : (m : Int) ≤ (m2 : Int) := by omega
  have b2 : (m2 : Int) ≤ (s.size : Int) := by omega
  have b3 : m ≤ m2 := by omega
  have b4 : m2 ≤ s.size := by omega
  have hr : blk s i = s.extract m m2 := by
    unfold blk
    rw [show 64 * i + 64 = m2 by omega, hm]
  rw [hr]
  clear hr h1 hm hm2 hs hi
  go_enter Try.func17, Try.ntmps17
  go_wp2_with fail
  go_ret
  exact ⟨rfl, rfl⟩
def whatOf (i : Nat) : Nat := if i < 1 then 0 else if i < 81 then 1 else if i < 161 then 2 else if i < 224 then 3 else 4
def idxOf (i : Nat) : Nat := if i < 1 then 0 else if i < 81 then i - 1 else if i < 161 then i - 81 else if i < 224 then i - 161 else i - 224
theorem what_any (i : Nat) (hi : i < 288) (w : World) : Calls Try.prog 23 #[.int .i64 (i : Int)] w fun e w' => e = .returned (.tuple #[.int .i64 (whatOf i : Int), .int .i64 (idxOf i : Int), .int .i64 0]) ∧ w' = w := by
  have t0 : decide ((i : Int) < 0) = false := by simp
  have t1 : decide ((288 : Int) ≤ (i : Int)) = false := by simp; omega
  have t2 : decide (288 ≤ i) = false := by simp; omega
  by_cases h1 : i < 1
  · obtain rfl : i = 0 := by omega
    clear t0 t1 t2 hi h1
    go_enter Try.func23, Try.ntmps23
    go_wp2_with fail
    go_ret3
    exact ⟨rfl, rfl⟩
  · have a1 : decide ((i : Int) < 1) = false := by simp; omega
    have a2 : decide (i < 1) = false := by simp; omega
    by_cases h2 : i < 161
    · have a3 : (i : Int) < 161 := by omega
      obtain ⟨j, hj⟩ : ∃ j : Nat, i - 1 = j := ⟨_, rfl⟩
      have e1 : IntKind.i64.wrap ((i : Int) - 1) = (j : Int) := by rw [show (i : Int) - 1 = (j : Int) by omega]; exact IntWalk.i64_in _ (by omega)
      have e2 : Int.tdiv (j : Int) 80 = ((j / 80 : Nat) : Int) := by rw [Int.tdiv_eq_ediv_of_nonneg (by omega)]; omega
      have e3 : Int.tmod (j : Int) 80 = ((j % 80 : Nat) : Int) := by rw [Int.tmod_eq_emod_of_nonneg (by omega)]; omega
      obtain ⟨q, hq⟩ : ∃ q : Nat, j / 80 = q := ⟨_, rfl⟩
      obtain ⟨r, hr⟩ : ∃ r : Nat, j % 80 = r := ⟨_, rfl⟩
      rw [hq] at e2
      rw [hr] at e3
      have e4 : IntKind.i64.wrap (q : Int) = (q : Int) := IntWalk.i64_in _ (by omega)
      have e5 : IntKind.i64.wrap (r : Int) = (r : Int) := IntWalk.i64_in _ (by omega)
      obtain ⟨q1, hq1⟩ : ∃ q1 : Nat, 1 + q = q1 := ⟨_, rfl⟩
      have e6 : IntKind.i64.wrap (1 + (q : Int)) = (q1 : Int) := by rw [show 1 + (q : Int) = (q1 : Int) by omega]; exact IntWalk.i64_in _ (by omega)
      have r1 : whatOf i = q1 := by
        unfold whatOf
        rw [if_neg h1]
        by_cases h : i < 81
        · rw [if_pos h]; omega
        · rw [if_neg h, if_pos h2]; omega
      have r2 : idxOf i = r := by
        unfold idxOf
        rw [if_neg h1]
        by_cases h : i < 81
        · rw [if_pos h]; omega
        · rw [if_neg h, if_pos h2]; omega
      rw [r1, r2]
      clear r1 r2 hq hr hj hq1 hi h1 h2
      go_enter Try.func23, Try.ntmps23
      go_wp2_with fail
      go_ret3
      exact ⟨rfl, rfl⟩
    · have a3 : decide ((i : Int) < 161) = false := by simp; omega
      have a4 : decide (i < 161) = false := by simp; omega
      by_cases h3 : i < 224
      · have a5 : (i : Int) < 224 := by omega
        obtain ⟨j, hj⟩ : ∃ j : Nat, i - 161 = j := ⟨_, rfl⟩
        have e1 : IntKind.i64.wrap ((i : Int) - 161) = (j : Int) := by rw [show (i : Int) - 161 = (j : Int) by omega]; exact IntWalk.i64_in _ (by omega)
        have r1 : whatOf i = 3 := by unfold whatOf; rw [if_neg h1, if_neg (by omega), if_neg h2, if_pos h3]
        have r2 : idxOf i = j := by unfold idxOf; rw [if_neg h1, if_neg (by omega), if_neg h2, if_pos h3, hj]
        rw [r1, r2]
        clear r1 r2 hj hi h1 h2 h3
        go_enter Try.func23, Try.ntmps23
        go_wp2_with fail
        go_ret3
        exact ⟨rfl, rfl⟩
      · have a5 : decide ((i : Int) < 224) = false := by simp; omega
        have a6 : decide (i < 224) = false := by simp; omega
        obtain ⟨j, hj⟩ : ∃ j : Nat, i - 224 = j := ⟨_, rfl⟩
        have e1 : IntKind.i64.wrap ((i : Int) - 224) = (j : Int) := by rw [show (i : Int) - 224 = (j : Int) by omega]; exact IntWalk.i64_in _ (by omega)
        have r1 : whatOf i = 4 := by unfold whatOf; rw [if_neg h1, if_neg (by omega), if_neg h2, if_neg h3]
        have r2 : idxOf i = j := by unfold idxOf; rw [if_neg h1, if_neg (by omega), if_neg h2, if_neg h3, hj]
        rw [r1, r2]
        clear r1 r2 hj hi h1 h2 h3
        go_enter Try.func23, Try.ntmps23
        go_wp2_with fail
        go_ret3
        exact ⟨rfl, rfl⟩
end Go.Proofs.Ytmocaabdfiffnaa.Ct
