/- The laws of dice, walked: what must come at any rate; a number below any one. -/
import Derived.Test.YthplghohhccojaaDiceOrder
namespace Go.Proofs.Ythplghohhccojaa.Dice
open Go.RowKit Go.Proofs.Ythplghohhccojaa.W
set_option linter.unusedVariables false
set_option linter.unusedSimpArgs false

theorem lit_ints (w : World) (t : TypeId) (L : List Int) (n g : Nat) (hn : L.length = n) (hg : g = w.heap.size) : IntsAt (w.alloc (.cells (L.map (Value.int .i64)).toArray t)) (w.heap.size + 1) (some ⟨g, 0, none⟩) n L := by
  subst hg
  refine ⟨hn, fun _ => ⟨w.heap.size, 0, rfl, Nat.lt_succ_self _, fun j x hx => ?_⟩⟩
  rw [Nat.zero_add, World.cell?_alloc_new]
  simp [hx]

theorem ints_yes (A B : Option Addr) (n c d : Nat) (L : List Int) (w : World) (hA : IntsAt w w.heap.size A n L) (hB : IntsAt w w.heap.size B n L) (hn : n < 4611686018427387904) :
    Calls Try.prog 11 #[.slice A n c, .slice B n d] w fun e w' => e = .returned (.bool true) ∧ ∃ q, w' = w.drewN q := by
  have h := ints_eq A B n c d L L w hA hB hn
  simpa using h

theorem awake_any (w : World) : Calls Try.prog 8 #[] w fun e w' => e = .returned (.bool true) ∧ Below w.heap.size w w' := by
  go_enter Try.func8, Try.ntmps8
  go_wp2_with fail
  refine (pick_any 5 _ 4 4 [2, 0, 3, 1] _ ?_ (by omega) (by omega) (by omega) ?_ (by decide)).mono ?_
  · exact (lit_ints w 3 [2, 0, 3, 1] 4 w.heap.size rfl rfl).more (by simp)
  · intro x hx
    simp at hx
    omega
  rintro e w1 ⟨rfl, k, rfl⟩
  have e1 : ((plc (5 % isum [2, 0, 3, 1]) [2, 0, 3, 1] : Nat) : Int) = 3 := by decide
  have e2 : 5 / isum [2, 0, 3, 1] = 0 := by decide
  rw [e1, e2]
  clear e1 e2
  go_wp2_with fail
  refine (order_ok 1 3 _ (by omega) (by omega) (by omega)).mono ?_
  rintro e w2 ⟨A, c, rfl, hc, hnc, hA, hb⟩
  have e3 : ordL 3 1 (upto 3) = [1, 0, 2] := by decide
  rw [e3] at hA
  have HA := hide hA
  have HB := hide hb
  clear e3 hA hb
  go_wp2_with fail
  refine (ints_yes _ _ 3 c _ [1, 0, 2] _ ?_ ?_ (by omega)).mono ?_
  · exact (HA.out.below ((Below.refl _ _).alloc (Nat.le_refl _) _)).more (by simp)
  · exact (lit_ints w2 3 [1, 0, 2] 3 w2.heap.size rfl rfl).more (by simp)
  rintro e w3 ⟨rfl, q, rfl⟩
  go_wp2_with fail
  go_ret
  refine ⟨rfl, below_drewN (((below_drewN ((Below.refl _ _).alloc (Nat.le_refl _) _) _).trans (HB.out.mono (by simp))).alloc ?_ _) _⟩
  have := HB.out.size
  simp at this
  omega

section
variable (draw n num : Int) (w : World)
set_option maxHeartbeats 1000000 in
theorem diceBelow_neg (h : draw < 0) : Calls Try.prog 6 #[.int .i64 draw, .int .i64 n, .int .i64 num] w fun e w' => e = .returned (.bool true) ∧ Below w.heap.size w w' := by
  have h' : decide (draw < 0) = true := by simpa using h
  go_enter Try.func6, Try.ntmps6
  go_wp2_with (first
    | (go_at_call 13; refine (below_neg _ _ _ h).mono ?_; rintro e w' ⟨rfl, rfl⟩)
    | (go_at_call 14; refine (chance_neg _ _ _ _ h).mono ?_; rintro e w' ⟨rfl, rfl⟩)
    | (go_at_call 8; refine (awake_any _).mono ?_; rintro e w' ⟨rfl, hb⟩))
  go_ret
  exact ⟨rfl, hb⟩
set_option maxHeartbeats 1000000 in
theorem diceBelow_arg (h : 0 ≤ draw) (hn : n < 1 ∨ 1048576 < n) : Calls Try.prog 6 #[.int .i64 draw, .int .i64 n, .int .i64 num] w fun e w' => e = .returned (.bool true) ∧ Below w.heap.size w w' := by
  have h' : decide (draw < 0) = false := by simpa using h
  have HN := hide hn
  by_cases h1 : n < 1
  · have h1' : decide (n < 1) = true := by simpa using h1
    clear hn
    go_enter Try.func6, Try.ntmps6
    go_wp2_with (first
      | (go_at_call 13; refine (below_arg _ _ _ h HN.out).mono ?_; rintro e w' ⟨rfl, rfl⟩)
      | (go_at_call 14; refine (chance_arg _ _ _ _ h HN.out).mono ?_; rintro e w' ⟨rfl, rfl⟩)
      | (go_at_call 8; refine (awake_any _).mono ?_; rintro e w' ⟨rfl, hb⟩))
    go_ret
    exact ⟨rfl, hb⟩
  · have h1' : decide (n < 1) = false := by simpa using h1
    have h2' : decide (1048576 < n) = true := by simp; omega
    clear hn
    go_enter Try.func6, Try.ntmps6
    go_wp2_with (first
      | (go_at_call 13; refine (below_arg _ _ _ h HN.out).mono ?_; rintro e w' ⟨rfl, rfl⟩)
      | (go_at_call 14; refine (chance_arg _ _ _ _ h HN.out).mono ?_; rintro e w' ⟨rfl, rfl⟩)
      | (go_at_call 8; refine (awake_any _).mono ?_; rintro e w' ⟨rfl, hb⟩))
    go_ret
    exact ⟨rfl, hb⟩
theorem divmod (h1 : 1 ≤ n) : draw / n * n + draw % n = draw := by
  have := Int.mul_ediv_add_emod draw n
  rw [Int.mul_comm] at this
  exact this
set_option maxRecDepth 100000 in
set_option maxHeartbeats 2000000 in
theorem diceBelow_ok (h : 0 ≤ draw) (hd : draw ≤ 9223372036854775807) (h1 : 1 ≤ n) (h2 : n ≤ 1048576) : Calls Try.prog 6 #[.int .i64 draw, .int .i64 n, .int .i64 num] w fun e w' => e = .returned (.bool true) ∧ Below w.heap.size w w' := by
  have h' : decide (draw < 0) = false := by simpa using h
  have h1' : decide (n < 1) = false := by simpa using h1
  have h2' : decide (1048576 < n) = false := by simpa using h2
  have r0 : 0 ≤ draw % n := Int.emod_nonneg draw (by omega)
  have r1 : draw % n < n := Int.emod_lt_of_pos draw (by omega)
  have q0 : 0 ≤ draw / n := Int.ediv_nonneg h (by omega)
  have q1 : draw / n ≤ draw := Int.ediv_le_self _ h
  have hdm := divmod draw n h1
  obtain ⟨r, hr⟩ : ∃ r, draw % n = r := ⟨_, rfl⟩
  obtain ⟨q, hq⟩ : ∃ q, draw / n = q := ⟨_, rfl⟩
  rw [hr] at r0 r1 hdm
  rw [hq] at q0 q1 hdm
  have p0 : 0 ≤ q * n := Int.mul_nonneg q0 (by omega)
  have p1 : q * n ≤ 9223372036854775807 := by omega
  have p2 : q * n + r ≤ 9223372036854775807 := by omega
  have r0' : decide (r < 0) = false := by simpa using r0
  have r1' : decide (n ≤ r) = false := by simpa using r1
  have hdm' : (q * n + r != draw) = false := by simpa using hdm
  have hw : IntKind.i64.wrap (q * n) = q * n := IntWalk.i64_in _ (by omega)
  clear hdm
  by_cases hn : num < 0 ∨ n < num
  · have HN := hide hn
    by_cases h3 : num < 0
    · have h3' : decide (num < 0) = true := by simpa using h3
      clear hn
      go_enter Try.func6, Try.ntmps6
      go_wp2_with (first
        | (go_at_call 13; refine (below_ok _ _ _ h hd h1 h2).mono ?_; rintro e w' ⟨rfl, k, rfl⟩)
        | (go_at_call 14; refine (chance_num _ _ _ _ h hd h1 h2 HN.out).mono ?_; rintro e w' ⟨rfl, k, rfl⟩)
        | (go_at_call 8; refine (awake_any _).mono ?_; rintro e w' ⟨rfl, hb⟩))
      go_ret
      exact ⟨rfl, (below_drewN (Below.refl _ _) _).trans (hb.mono (Nat.le_refl _))⟩
    · have h3' : decide (num < 0) = false := by simpa using h3
      have h4' : decide (n < num) = true := by simp; omega
      clear hn
      go_enter Try.func6, Try.ntmps6
      go_wp2_with (first
        | (go_at_call 13; refine (below_ok _ _ _ h hd h1 h2).mono ?_; rintro e w' ⟨rfl, k, rfl⟩)
        | (go_at_call 14; refine (chance_num _ _ _ _ h hd h1 h2 HN.out).mono ?_; rintro e w' ⟨rfl, k, rfl⟩)
        | (go_at_call 8; refine (awake_any _).mono ?_; rintro e wa ⟨rfl, hb⟩))
      go_ret
      exact ⟨rfl, (below_drewN (Below.refl _ _) _).trans (hb.mono (Nat.le_refl _))⟩
  · have n0 : 0 ≤ num := by omega
    have n1 : num ≤ n := by omega
    have h3' : decide (num < 0) = false := by simpa using n0
    have h4' : decide (n < num) = false := by simpa using n1
    clear hn
    by_cases hrn : r < num
    · have h5' : decide (r < num) = true := by simpa using hrn
      go_enter Try.func6, Try.ntmps6
      go_wp2_with (first
        | (go_at_call 13; refine (below_ok _ _ _ h hd h1 h2).mono ?_; rintro e w' ⟨rfl, k, rfl⟩)
        | (go_at_call 14; refine (chance_ok _ _ _ _ h hd h1 h2 n0 n1).mono ?_; rintro e w' ⟨rfl, k, rfl⟩)
        | (go_at_call 8; refine (awake_any _).mono ?_; rintro e wa ⟨rfl, hb⟩))
      go_ret
      exact ⟨rfl, (below_drewN (Below.refl _ _) _).trans (hb.mono (Nat.le_refl _))⟩
    · have h5' : decide (r < num) = false := by simpa using hrn
      go_enter Try.func6, Try.ntmps6
      go_wp2_with (first
        | (go_at_call 13; refine (below_ok _ _ _ h hd h1 h2).mono ?_; rintro e w' ⟨rfl, k, rfl⟩)
        | (go_at_call 14; refine (chance_ok _ _ _ _ h hd h1 h2 n0 n1).mono ?_; rintro e w' ⟨rfl, k, rfl⟩)
        | (go_at_call 8; refine (awake_any _).mono ?_; rintro e wa ⟨rfl, hb⟩))
      go_ret
      exact ⟨rfl, (below_drewN (Below.refl _ _) _).trans (hb.mono (Nat.le_refl _))⟩
end
end Go.Proofs.Ythplghohhccojaa.Dice
