/- Contracts of dice's small functions, and of the references' questions on lists. -/
import Derived.Test.YthplghohhccojaaDiceWalk
namespace Go.Proofs.Ythplghohhccojaa.Dice
open Go.RowKit Go.Proofs.Ythplghohhccojaa.W
set_option linter.unusedVariables false
set_option linter.unusedSimpArgs false

theorem below_neg (draw n : Int) (w : World) (h : draw < 0) :
    Calls Try.prog 13 #[.int .i64 draw, .int .i64 n] w fun e w' => e = .returned (.tuple #[.int .i64 0, .int .i64 0, .int .i64 3]) ∧ w = w' := by
  have h' : decide (draw < 0) = true := by simpa using h
  go_enter Try.func13, Try.ntmps13
  go_wp2
  go_ret3
  exact ⟨rfl, rfl⟩
theorem below_arg (draw n : Int) (w : World) (h : 0 ≤ draw) (hn : n < 1 ∨ 1048576 < n) :
    Calls Try.prog 13 #[.int .i64 draw, .int .i64 n] w fun e w' => e = .returned (.tuple #[.int .i64 0, .int .i64 0, .int .i64 2]) ∧ w = w' := by
  have h' : decide (draw < 0) = false := by simpa using h
  by_cases h1 : n < 1
  · have h1' : decide (n < 1) = true := by simpa using h1
    clear hn
    go_enter Try.func13, Try.ntmps13
    go_wp2
    go_ret3
    exact ⟨rfl, rfl⟩
  · have h1' : decide (n < 1) = false := by simpa using h1
    have h2' : decide (1048576 < n) = true := by simp; omega
    clear hn
    go_enter Try.func13, Try.ntmps13
    go_wp2
    go_ret3
    exact ⟨rfl, rfl⟩
theorem below_ok (draw n : Int) (w : World) (h : 0 ≤ draw) (hd : draw ≤ 9223372036854775807) (h1 : 1 ≤ n) (h2 : n ≤ 1048576) :
    Calls Try.prog 13 #[.int .i64 draw, .int .i64 n] w fun e w' => e = .returned (.tuple #[.int .i64 (draw % n), .int .i64 (draw / n), .int .i64 0]) ∧ ∃ k, w' = w.drewN k := by
  have h' : decide (draw < 0) = false := by simpa using h
  have h1' : decide (n < 1) = false := by simpa using h1
  have h2' : decide (1048576 < n) = false := by simpa using h2
  go_enter Try.func13, Try.ntmps13
  go_wp2
  go_quiet (fail)
  go_wp2
  go_ret3
  exact ⟨rfl, _, rfl⟩

theorem chance_neg (draw num den : Int) (w : World) (h : draw < 0) :
    Calls Try.prog 14 #[.int .i64 draw, .int .i64 num, .int .i64 den] w fun e w' => e = .returned (.tuple #[.bool false, .int .i64 0, .int .i64 3]) ∧ w = w' := by
  go_enter Try.func14, Try.ntmps14
  go_wp2_with (first | (go_at_call 13; refine (below_neg _ _ _ h).mono ?_; rintro e w' ⟨rfl, rfl⟩))
  go_ret3
  exact ⟨rfl, rfl⟩
theorem chance_arg (draw num den : Int) (w : World) (h : 0 ≤ draw) (hn : den < 1 ∨ 1048576 < den) :
    Calls Try.prog 14 #[.int .i64 draw, .int .i64 num, .int .i64 den] w fun e w' => e = .returned (.tuple #[.bool false, .int .i64 0, .int .i64 2]) ∧ w = w' := by
  have HN := hide hn
  clear hn
  go_enter Try.func14, Try.ntmps14
  go_wp2_with (first | (go_at_call 13; refine (below_arg _ _ _ h HN.out).mono ?_; rintro e w' ⟨rfl, rfl⟩))
  go_ret3
  exact ⟨rfl, rfl⟩
theorem chance_num (draw num den : Int) (w : World) (h : 0 ≤ draw) (hd : draw ≤ 9223372036854775807) (h1 : 1 ≤ den) (h2 : den ≤ 1048576) (hn : num < 0 ∨ den < num) :
    Calls Try.prog 14 #[.int .i64 draw, .int .i64 num, .int .i64 den] w fun e w' => e = .returned (.tuple #[.bool false, .int .i64 0, .int .i64 2]) ∧ ∃ k, w' = w.drewN k := by
  by_cases hh : num < 0
  · have h1' : decide (num < 0) = true := by simpa using hh
    clear hn
    go_enter Try.func14, Try.ntmps14
    go_wp2_with (first | (go_at_call 13; refine (below_ok _ _ _ h hd h1 h2).mono ?_; rintro e w' ⟨rfl, k, rfl⟩))
    go_ret3
    exact ⟨rfl, _, rfl⟩
  · have h1' : decide (num < 0) = false := by simpa using hh
    have h2' : decide (den < num) = true := by simp; omega
    clear hn
    go_enter Try.func14, Try.ntmps14
    go_wp2_with (first | (go_at_call 13; refine (below_ok _ _ _ h hd h1 h2).mono ?_; rintro e w' ⟨rfl, k, rfl⟩))
    go_ret3
    exact ⟨rfl, _, rfl⟩
theorem chance_ok (draw num den : Int) (w : World) (h : 0 ≤ draw) (hd : draw ≤ 9223372036854775807) (h1 : 1 ≤ den) (h2 : den ≤ 1048576) (n0 : 0 ≤ num) (n1 : num ≤ den) :
    Calls Try.prog 14 #[.int .i64 draw, .int .i64 num, .int .i64 den] w fun e w' => e = .returned (.tuple #[.bool (decide (draw % den < num)), .int .i64 (draw / den), .int .i64 0]) ∧ ∃ k, w' = w.drewN k := by
  have h1' : decide (num < 0) = false := by simpa using n0
  have h2' : decide (den < num) = false := by simpa using n1
  obtain ⟨r, hr⟩ : ∃ r, r = draw % den := ⟨_, rfl⟩
  by_cases hh : draw % den < num
  · have hx : decide (draw % den < num) = true := by simpa using hh
    go_enter Try.func14, Try.ntmps14
    go_wp2_with (first | (go_at_call 13; refine (below_ok _ _ _ h hd h1 h2).mono ?_; rintro e w' ⟨rfl, k, rfl⟩))
    all_goals go_ret3
    all_goals rw [hx]
    all_goals exact ⟨rfl, _, rfl⟩
  · have hx : decide (draw % den < num) = false := by simpa using hh
    go_enter Try.func14, Try.ntmps14
    go_wp2_with (first | (go_at_call 13; refine (below_ok _ _ _ h hd h1 h2).mono ?_; rintro e w' ⟨rfl, k, rfl⟩))
    all_goals go_ret3
    all_goals rw [hx]
    all_goals exact ⟨rfl, _, rfl⟩

def IntsRel (w : World) (L M : List Int) (n k : Nat) (s5 : Value) (wr : World) : Prop :=
  ∃ i q : Nat, s5 = .int .i64 (i : Int) ∧ i + k = n ∧ (∀ j, j < i → L[j]? = M[j]?) ∧ wr = w.drewN q
theorem ints_ne (A B : Option Addr) (n m c d : Nat) (w : World) (hne : n ≠ m) :
    Calls Try.prog 11 #[.slice A n c, .slice B m d] w fun e w' => e = .returned (.bool false) ∧ w = w' := by
  have h : (n == m) = false := by simpa using hne
  have h2 : ((n : Int) != (m : Int)) = true := by simp; omega
  clear hne
  go_enter Try.func11, Try.ntmps11
  go_wp2
  go_ret
  exact ⟨rfl, rfl⟩
set_option maxRecDepth 100000 in
set_option maxHeartbeats 1000000 in
theorem ints_eq (A B : Option Addr) (n c d : Nat) (L M : List Int) (w : World) (hA : IntsAt w w.heap.size A n L) (hB : IntsAt w w.heap.size B n M) (hn : n < 4611686018427387904) :
    Calls Try.prog 11 #[.slice A n c, .slice B n d] w fun e w' => e = .returned (.bool (decide (L = M))) ∧ ∃ q, w' = w.drewN q := by
  have h2 : ((n : Int) != (n : Int)) = false := by simp
  obtain ⟨v, hv⟩ : ∃ v, v = decide (L = M) := ⟨_, rfl⟩
  rw [← hv]
  have HV := hide hv
  have HA := hide hA
  have HB := hide hB
  clear hA hB hv
  go_enter Try.func11, Try.ntmps11
  go_wp2_with fail
  go_loopg [5] n (fun k s5 wr => IntsRel w L M n k s5 wr)
  case atStart => exact ⟨0, 0, rfl, by omega, fun j hj => absurd hj (by omega), rfl⟩
  case round =>
    obtain ⟨i, q, rfl, hk, he, rfl⟩ := hrel
    have HK := hide hk
    have l1 := HA.out.1
    have l2 := HB.out.1
    by_cases hlt : i < n
    · obtain ⟨b, off, rfl, _, hc⟩ := HA.out.2 (by omega)
      obtain ⟨b', off', rfl, _, hc'⟩ := HB.out.2 (by omega)
      obtain ⟨x, hx⟩ : ∃ x, L[i]? = some x := ⟨_, List.getElem?_eq_getElem (by omega)⟩
      obtain ⟨y, hy⟩ : ∃ y, M[i]? = some y := ⟨_, List.getElem?_eq_getElem (by omega)⟩
      have c1 := hc i x hx
      have c2 := hc' i y hy
      have hlt' : (i : Int) < (n : Int) := by omega
      by_cases hxy : x = y
      · have e1 : (x != y) = false := by simpa using hxy
        have he' : ∀ j, j < i + 1 → L[j]? = M[j]? := by
          intro j hj
          rcases Nat.lt_or_ge j i with h | h
          · exact he j h
          · rw [show j = i from by omega, hx, hy, hxy]
        have HE := hide he'
        clear hc hc' hx hy he he' hk l1 l2 hxy
        go_wp2_with fail
        go_quiet (fail)
        go_wp2_with fail
        have hk := HK.out
        go_roundg (gk - 1)
        case measure => omega
        case rel => exact ⟨i + 1, _, by go_num, by omega, HE.out, by first | rfl | exact World.drewN_drewN _ _ _⟩
      · have e1 : (x != y) = true := by simpa using hxy
        have hne : v = false := by
          rw [HV.out]
          simp only [decide_eq_false_iff_not]
          intro h
          rw [h, hy] at hx
          exact hxy (Option.some.inj hx).symm
        have HE := hide hne
        clear hc hc' hx hy he hk l1 l2 hxy hne
        go_wp2_with fail
        go_quiet (fail)
        go_wp2_with fail
        go_ret
        rw [HE.out]
        exact ⟨rfl, _, by first | rfl | exact World.drewN_drewN _ _ _⟩
    · have hyes : v = true := by
        rw [HV.out]
        simp only [decide_eq_true_eq]
        refine List.ext_getElem? fun j => ?_
        rcases Nat.lt_or_ge j i with h | h
        · exact he j h
        · rw [List.getElem?_eq_none (by omega), List.getElem?_eq_none (by omega)]
      have HE := hide hyes
      clear he hk l1 l2 hyes
      go_wp2_with fail
      go_ret
      rw [HE.out]
      exact ⟨rfl, _, rfl⟩

def HasRel (w : World) (L : List Int) (x : Int) (n k : Nat) (s5 : Value) (wr : World) : Prop :=
  ∃ i : Nat, s5 = .int .i64 (i : Int) ∧ i + k = n ∧ x ∉ L.take i ∧ wr = w
set_option maxRecDepth 100000 in
set_option maxHeartbeats 1000000 in
theorem has_any (A : Option Addr) (n c : Nat) (L : List Int) (x : Int) (w : World) (hA : IntsAt w w.heap.size A n L) (hn : n < 4611686018427387904) :
    Calls Try.prog 10 #[.slice A n c, .int .i64 x] w fun e w' => e = .returned (.bool (decide (x ∈ L))) ∧ w = w' := by
  obtain ⟨v, hv⟩ : ∃ v, v = decide (x ∈ L) := ⟨_, rfl⟩
  rw [← hv]
  have HV := hide hv
  have HA := hide hA
  clear hA hv
  go_enter Try.func10, Try.ntmps10
  go_wp2_with fail
  go_loopg [5] n (fun k s5 wr => HasRel w L x n k s5 wr)
  case atStart => exact ⟨0, rfl, by omega, by simp, rfl⟩
  case round =>
    obtain ⟨i, rfl, hk, he, rfl⟩ := hrel
    have HK := hide hk
    have l1 := HA.out.1
    by_cases hlt : i < n
    · obtain ⟨b, off, rfl, _, hc⟩ := HA.out.2 (by omega)
      obtain ⟨y, hy⟩ : ∃ y, L[i]? = some y := ⟨_, List.getElem?_eq_getElem (by omega)⟩
      have c1 := hc i y hy
      have hlt' : (i : Int) < (n : Int) := by omega
      by_cases hxy : y = x
      · have e1 : (y == x) = true := by simpa using hxy
        have hyes : v = true := by
          rw [HV.out]
          simp only [decide_eq_true_eq]
          rw [← hxy]
          exact List.mem_of_getElem? hy
        have HE := hide hyes
        clear hc hy he hk l1 hxy hyes
        go_wp2_with fail
        go_ret
        rw [HE.out]
        exact ⟨rfl, rfl⟩
      · have e1 : (y == x) = false := by simpa using hxy
        have he' : x ∉ L.take (i + 1) := by
          rw [List.take_add_one, hy]
          simp only [Option.toList_some, List.mem_append, List.mem_singleton, not_or]
          exact ⟨he, fun h => hxy h.symm⟩
        have HE := hide he'
        clear hc hy he he' hk l1 hxy
        go_wp2_with fail
        have hk := HK.out
        go_roundg (gk - 1)
        case measure => omega
        case rel => exact ⟨i + 1, by go_num, by omega, HE.out, rfl⟩
    · have hno : v = false := by
        rw [HV.out]
        simp only [decide_eq_false_iff_not]
        rwa [List.take_of_length_le (by omega)] at he
      have HE := hide hno
      clear he hk l1 hno
      go_wp2_with fail
      go_ret
      rw [HE.out]
      exact ⟨rfl, rfl⟩
end Go.Proofs.Ythplghohhccojaa.Dice
