/- The plain law of dice's orders. -/
import Derived.Test.YthplghohhccojaaDiceLaws
namespace Go.Proofs.Ythplghohhccojaa.Dice
open Go.RowKit Go.Proofs.Ythplghohhccojaa.W
set_option linter.unusedVariables false
set_option linter.unusedSimpArgs false

theorem idx_lt (n : Nat) (d : Int) (hd : 0 ≤ d) : (d % ((n : Int) + 1)).toNat < n + 1 := by
  have := Int.emod_lt_of_pos d (show (0 : Int) < (n : Int) + 1 by omega)
  have := Int.emod_nonneg d (show (n : Int) + 1 ≠ 0 by omega)
  omega
theorem getD_mem {L : List Int} {k : Nat} (h : k < L.length) : L.getD k 0 = L[k] := by
  rw [List.getD_eq_getElem?_getD, List.getElem?_eq_getElem h]
  rfl
theorem mem_erase_or {L : List Int} {k : Nat} {x : Int} (h : k < L.length) : x ∈ L ↔ x = L[k] ∨ x ∈ L.eraseIdx k := by
  have e : L = L.take k ++ L[k] :: L.drop (k + 1) := by
    rw [List.getElem_cons_drop, List.take_append_drop]
  rw [List.eraseIdx_eq_take_drop_succ]
  conv => lhs; rw [e]
  simp only [List.mem_append, List.mem_cons]
  constructor
  · rintro (h | h | h)
    · exact .inr (.inl h)
    · exact .inl h
    · exact .inr (.inr h)
  · rintro (h | h | h)
    · exact .inr (.inl h)
    · exact .inl h
    · exact .inr (.inr h)
theorem mem_ordL (n : Nat) : ∀ (d : Int) (L : List Int) (x : Int), 0 ≤ d → L.length = n → (x ∈ ordL n d L ↔ x ∈ L) := by
  induction n with
  | zero =>
    intro d L x _ hl
    rw [List.eq_nil_of_length_eq_zero hl]
    rfl
  | succ n ih =>
    intro d L x hd hl
    have hk := idx_lt n d hd
    simp only [ordL, List.mem_cons]
    rw [getD_mem (by omega), ih _ _ _ (Int.ediv_nonneg hd (by omega)) (by rw [List.length_eraseIdx, if_pos (by omega)]; omega)]
    exact (mem_erase_or (by omega)).symm
def fact : Nat → Nat
  | 0 => 1
  | n + 1 => fact n * (n + 1)
theorem fact_pos (n : Nat) : 0 < fact n := by
  induction n with
  | zero => decide
  | succ n ih => exact Nat.mul_pos ih (by omega)
theorem nodup_inj {L : List Int} (hn : L.Nodup) {i j : Nat} (hi : i < L.length) (hj : j < L.length) (h : L[i] = L[j]) : i = j := by
  have hp := List.pairwise_iff_getElem.1 hn
  rcases Nat.lt_trichotomy i j with hlt | he | hgt
  · exact absurd h (hp i j hi hj hlt)
  · exact he
  · exact absurd h.symm (hp j i hj hi hgt)
theorem ordL_inj (n : Nat) : ∀ (d e : Int) (L : List Int), 0 ≤ d → 0 ≤ e → d < fact n → e < fact n → L.length = n → L.Nodup → ordL n d L = ordL n e L → d = e := by
  induction n with
  | zero =>
    intro d e L hd he h1 h2 _ _ _
    simp only [fact] at h1 h2
    omega
  | succ n ih =>
    intro d e L hd he h1 h2 hl hn h
    have k1 := idx_lt n d hd
    have k2 := idx_lt n e he
    simp only [ordL, List.cons.injEq] at h
    obtain ⟨ha, hb⟩ := h
    rw [getD_mem (by omega), getD_mem (by omega)] at ha
    have hk : (d % ((n : Int) + 1)).toNat = (e % ((n : Int) + 1)).toNat := nodup_inj hn (by omega) (by omega) ha
    rw [hk] at hb
    have f1 : d / ((n : Int) + 1) < fact n := by
      refine Int.ediv_lt_of_lt_mul (by omega) ?_
      simp only [fact] at h1
      have : ((fact n * (n + 1) : Nat) : Int) = (fact n : Int) * ((n : Int) + 1) := by rw [Int.natCast_mul]; rfl
      omega
    have f2 : e / ((n : Int) + 1) < fact n := by
      refine Int.ediv_lt_of_lt_mul (by omega) ?_
      simp only [fact] at h2
      have : ((fact n * (n + 1) : Nat) : Int) = (fact n : Int) * ((n : Int) + 1) := by rw [Int.natCast_mul]; rfl
      omega
    have hq := ih _ _ _ (Int.ediv_nonneg hd (by omega)) (Int.ediv_nonneg he (by omega)) f1 f2 (by rw [List.length_eraseIdx, if_pos (by omega)]; omega) (List.Nodup.eraseIdx _ hn) hb
    have m1 := Int.mul_ediv_add_emod d ((n : Int) + 1)
    have m2 := Int.mul_ediv_add_emod e ((n : Int) + 1)
    have g1 := Int.emod_nonneg d (show (n : Int) + 1 ≠ 0 by omega)
    have g2 := Int.emod_nonneg e (show (n : Int) + 1 ≠ 0 by omega)
    rw [hq] at m1
    omega
theorem upto_nodup (n : Nat) : (upto n).Nodup := by
  unfold upto
  refine List.Pairwise.map Int.ofNat (fun a b h => ?_) List.nodup_range
  intro e
  exact h (Int.ofNat.inj e)
theorem upto_get (n i : Nat) (h : i < n) : (upto n)[i]? = some (i : Int) := by
  unfold upto
  rw [List.getElem?_map, List.getElem?_range h]
  rfl
theorem fact_le (n : Nat) (h : n ≤ 6) : fact n ≤ 720 := by
  have : n = 0 ∨ n = 1 ∨ n = 2 ∨ n = 3 ∨ n = 4 ∨ n = 5 ∨ n = 6 := by omega
  rcases this with rfl | rfl | rfl | rfl | rfl | rfl | rfl <;> decide
theorem order_same (k : Nat) (a b : Int) (a0 : 0 ≤ a) (b0 : 0 ≤ b) (a1 : a < fact k) (b1 : b < fact k) : decide (ordL k a (upto k) = ordL k b (upto k)) = (a == b) := by
  by_cases h : a = b
  · subst h; simp
  · have h2 : (a == b) = false := by simpa using h
    rw [h2]
    simp only [decide_eq_false_iff_not]
    intro e
    exact h (ordL_inj k a b _ a0 b0 a1 b1 (by simp [upto]) (upto_nodup k) e)
end Go.Proofs.Ythplghohhccojaa.Dice
