/- Where an image differs from itself, and from one whose check is another. -/
import Derived.Test.YtmocaabdfiffnaaVwAwake
namespace Go.Proofs.Ytmocaabdfiffnaa.Ct
open Go.RowKit Go.Proofs.Ytmocaabdfiffnaa.W Go.Maps
set_option linter.unusedVariables false
set_option linter.unusedSimpArgs false

theorem sameB_self (a : ByteArray) (slow : Bool) (i : Nat) : sameB a a slow i = true := by
  unfold sameB
  split <;> simp
theorem difs_none {a b : ByteArray} {slow : Bool} (h : ∀ i, i < 288 → sameB a b slow i = true) : ∀ k, k ≤ 288 → difs a b slow k = []
  | 0, _ => rfl
  | k + 1, hk => by rw [difs_same (h k (by omega)), difs_none h k (by omega)]
def otherB (a : ByteArray) (k : Nat → BitVec 8) : ByteArray := a.extract 0 32 ++ strB 32 k ++ a.extract 64 a.size
theorem other_size {a : ByteArray} (ha : a.size = 18432) (k : Nat → BitVec 8) : (otherB a k).size = 18432 := by
  unfold otherB
  rw [ByteArray.size_append, ByteArray.size_append, strB_size, ByteArray.size_extract, ByteArray.size_extract]
  omega
theorem other_low {a : ByteArray} (ha : a.size = 18432) (k : Nat → BitVec 8) {j : Nat} (hj : j < 32) : sbyte (otherB a k) j = sbyte a j := by
  unfold otherB
  rw [sbyte_append_left (by rw [ByteArray.size_append, strB_size, ByteArray.size_extract]; omega), sbyte_append_left (by rw [ByteArray.size_extract]; omega), sbyte_extract (by omega) (by omega), Nat.zero_add]
theorem other_high {a : ByteArray} (ha : a.size = 18432) (k : Nat → BitVec 8) {j : Nat} (hj : 64 ≤ j) (hj2 : j < 18432) : sbyte (otherB a k) j = sbyte a j := by
  have hn : (a.extract 0 32 ++ strB 32 k).size = 64 := by rw [ByteArray.size_append, strB_size, ByteArray.size_extract]; omega
  obtain ⟨i, rfl⟩ : ∃ i, j = 64 + i := ⟨j - 64, by omega⟩
  unfold otherB
  rw [sbyte_append_right hn, sbyte_extract (by omega) (by omega)]
theorem same_other {a : ByteArray} (ha : a.size = 18432) (k : Nat → BitVec 8) {i : Nat} (hi : i < 288) : sameB a (otherB a k) true i = true := by
  have hs := other_size ha k
  unfold sameB
  by_cases h0 : i = 0
  · subst h0
    rw [if_pos ⟨rfl, rfl⟩, toList_eq_iff]
    simp only [decide_eq_true_eq]
    have s1 := blk_size ha hi
    have s2 := blk_size hs hi
    refine strB_ext (by rw [ByteArray.size_extract, ByteArray.size_extract, s1, s2]) (fun j hj => ?_)
    rw [ByteArray.size_extract, s1] at hj
    rw [sbyte_extract (by omega) (by omega), sbyte_extract (by omega) (by omega)]
    unfold blk
    rw [sbyte_extract (by omega) (by omega), sbyte_extract (by omega) (by omega)]
    exact (other_low ha k (by omega)).symm
  · rw [if_neg (fun h => h0 h.1), toList_eq_iff]
    simp only [decide_eq_true_eq]
    refine strB_ext (by rw [blk_size ha hi, blk_size hs hi]) (fun j hj => ?_)
    rw [blk_size ha hi] at hj
    unfold blk
    rw [sbyte_extract (by omega) (by omega), sbyte_extract (by omega) (by omega)]
    exact (other_high ha k (by omega) (by omega)).symm
/-- Differ of an image and itself, or one that differs by its check: nothing. -/
theorem differ_none (a b : ByteArray) (slow : Bool) (ha : a.size = 18432) (hb : b.size = 18432) (h : ∀ i, i < 288 → sameB a b slow i = true) (w : World) : Calls Try.prog 7 #[.string a, .string b, .bool slow] w fun e w' => ∃ A c, e = .returned (.tuple #[.slice A 0 c, .int .i64 0]) ∧ Below w.heap.size w w' := by
  refine (differ_yes a b slow ha hb w).mono ?_
  rintro e w' ⟨A, c, m, rfl, hm, hr, hb⟩
  rw [difs_none h 288 (by omega)] at hm
  have hm0 : m = 0 := hm
  subst hm0
  exact ⟨A, c, rfl, hb⟩
end Go.Proofs.Ytmocaabdfiffnaa.Ct
