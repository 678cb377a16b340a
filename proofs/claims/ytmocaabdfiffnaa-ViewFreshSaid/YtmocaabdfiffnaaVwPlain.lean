/- Numbers as bytes, and kinds, told as plain functions. No program is in sight. -/
import Derived.Test.YtmocaabdfiffnaaStr
namespace Go.Proofs.Ytmocaabdfiffnaa.Ct
open Go.RowKit Go.Proofs.Ytmocaabdfiffnaa.W
set_option linter.unusedVariables false
set_option linter.unusedSimpArgs false

abbrev St := Nat → BitVec 8
theorem sbyte_append_left {a b : ByteArray} {i : Nat} (h : i < a.size) : sbyte (a ++ b) i = sbyte a i := by
  have h' : i < a.data.size := h
  simp only [sbyte, Array.getD_eq_getD_getElem?, ByteArray.data_append, Array.getElem?_append, h', if_true]
theorem sbyte_append_right {a b : ByteArray} {i n : Nat} (hn : a.size = n) : sbyte (a ++ b) (n + i) = sbyte b i := by
  subst hn
  have h' : ¬ a.size + i < a.data.size := by
    have : a.data.size = a.size := rfl
    omega
  have e : a.size + i - a.data.size = i := by
    have : a.data.size = a.size := rfl
    omega
  simp only [sbyte, Array.getD_eq_getD_getElem?, ByteArray.data_append, Array.getElem?_append, h', if_false, e]
theorem strB_append (n m : Nat) (f g : St) : strB n f ++ strB m g = strB (n + m) (fun i => if i < n then f i else g (i - n)) := by
  refine strB_ext (by simp [strB_size]) (fun i hi => ?_)
  rw [ByteArray.size_append, strB_size, strB_size] at hi
  rw [sbyte_strB _ hi]
  by_cases h : i < n
  · rw [sbyte_append_left (by rw [strB_size]; exact h), sbyte_strB _ h, if_pos h]
  · obtain ⟨j, rfl⟩ : ∃ j, i = n + j := ⟨i - n, by omega⟩
    rw [sbyte_append_right (strB_size n f), sbyte_strB _ (by omega), if_neg h, show n + j - n = j by omega]
theorem sbyte_extract {s : ByteArray} {a b i : Nat} (h : a + i < b) (hb : b ≤ s.size) : sbyte (s.extract a b) i = sbyte s (a + i) := by
  have h1 : b ≤ s.data.size := hb
  have h2 : i < min b s.data.size - a := by omega
  simp only [sbyte, Array.getD_eq_getD_getElem?, ByteArray.data_extract, Array.getElem?_extract, h2, if_true]
theorem extract_strB {n a b : Nat} (f : St) (hb : b ≤ n) (ha : a ≤ b) : (strB n f).extract a b = strB (b - a) (fun i => f (a + i)) := by
  refine strB_ext (by rw [ByteArray.size_extract, strB_size, strB_size]; omega) (fun i hi => ?_)
  rw [ByteArray.size_extract, strB_size] at hi
  rw [sbyte_extract (by omega) (by rw [strB_size]; omega), sbyte_strB _ (by omega), sbyte_strB _ (by omega)]
theorem extract_str {s : ByteArray} {a b n : Nat} (hb : b ≤ s.size) (ha : a ≤ b) (hn : n = b - a) : s.extract a b = strB n (fun i => sbyte s (a + i)) := by
  subst hn
  refine strB_ext (by rw [ByteArray.size_extract, strB_size]; omega) (fun i hi => ?_)
  rw [ByteArray.size_extract] at hi
  rw [sbyte_extract (by omega) hb, sbyte_strB _ (by omega)]
/-! ### Numbers of eight bytes. -/
def nb (n : Nat) : St := fun j => BitVec.ofNat 8 (n / 256 ^ (7 - j))
def numB (n : Nat) : ByteArray := strB 8 (nb n)
theorem numB_size (n : Nat) : (numB n).size = 8 := strB_size 8 _
/-- The number of the first i bytes. -/
def val (f : St) : Nat → Nat
  | 0 => 0
  | i + 1 => val f i * 256 + (f i).toNat
theorem val_congr {f g : St} : ∀ n, (∀ i, i < n → f i = g i) → val f n = val g n
  | 0, _ => rfl
  | n + 1, h => by
    show val f n * 256 + (f n).toNat = val g n * 256 + (g n).toNat
    rw [val_congr n (fun i hi => h i (by omega)), h n (by omega)]
theorem val_le (f : St) : ∀ i, val f i < 256 ^ i
  | 0 => by simp [val]
  | i + 1 => by
    have h1 := val_le f i
    have h2 := (f i).isLt
    show val f i * 256 + (f i).toNat < _
    rw [Nat.pow_succ]
    omega
theorem val_top (f : St) (h : (f 0).toNat < 128) : ∀ i, val f (i + 1) < 128 * 256 ^ i
  | 0 => by simp [val]; exact h
  | i + 1 => by
    have h1 := val_top f h i
    have h2 := (f (i + 1)).isLt
    show val f (i + 1) * 256 + (f (i + 1)).toNat < _
    rw [Nat.pow_succ]
    omega
theorem val_lt63 (f : St) (h : (f 0).toNat < 128) {i : Nat} (hi : i ≤ 8) : val f i < 9223372036854775808 := by
  rcases Nat.lt_or_ge i 8 with h8 | h8
  · have h1 := val_le f i
    have h2 : 256 ^ i ≤ 256 ^ 7 := Nat.pow_le_pow_right (by omega) (by omega)
    have : (256 : Nat) ^ 7 < 9223372036854775808 := by decide
    omega
  · obtain rfl : i = 8 := by omega
    have h1 := val_top f h 7
    have : 128 * (256 : Nat) ^ 7 = 9223372036854775808 := by decide
    omega
theorem val_nb (n : Nat) : ∀ i, i ≤ 8 → val (nb n) i = n / 256 ^ (8 - i) % 256 ^ i
  | 0, _ => by simp [val, Nat.mod_one]
  | i + 1, h => by
    show val (nb n) i * 256 + (nb n i).toNat = _
    rw [val_nb n i (by omega)]
    unfold nb
    rw [BitVec.toNat_ofNat, show 8 - (i + 1) = 7 - i by omega, show 8 - i = 7 - i + 1 by omega, Nat.pow_succ 256 (7 - i), ← Nat.div_div_eq_div_mul, Nat.pow_succ 256 i, Nat.mul_comm (256 ^ i) 256, Nat.mod_mul]
    show n / 256 ^ (7 - i) / 256 % 256 ^ i * 256 + n / 256 ^ (7 - i) % 2 ^ 8 = _
    omega
theorem val_numB {n : Nat} (h : n < 9223372036854775808) : val (nb n) 8 = n := by
  rw [val_nb n 8 (by omega)]
  simp
  omega
theorem or_byte (v b : Nat) (h : b < 256) : (v * 256) ||| b = v * 256 + b := by
  have := Nat.shiftLeft_add_eq_or_of_lt (i := 8) (show b < 2 ^ 8 by omega) v
  rw [Nat.shiftLeft_eq] at this
  exact this.symm
/-! ### Blocks. -/
def kb (k : Nat) : St := fun i => if i = 0 then BitVec.ofNat 8 k else 0#8
def headB (n k : Nat) : ByteArray := numB n ++ strB 8 (kb k)
theorem headB_size (n k : Nat) : (headB n k).size = 16 := by simp [headB, numB_size, strB_size]
def isK (s : ByteArray) : Prop := s.size = 64 ∧ (sbyte s 0).toNat < 128 ∧ val (sbyte s) 8 ≤ 1099511627776 ∧ ((sbyte s 8).toNat = 1 ∨ (sbyte s 8).toNat = 2) ∧ ∀ i, 9 ≤ i → i < 16 → sbyte s i = 0#8
theorem sbyte_head {n k : Nat} {b : ByteArray} {i : Nat} (h : i < 8) : sbyte (headB n k ++ b) i = nb n i := by
  rw [sbyte_append_left (by rw [headB_size]; omega)]
  unfold headB
  rw [sbyte_append_left (by rw [numB_size]; omega)]
  exact sbyte_strB _ h
theorem sbyte_head2 {n k : Nat} {b : ByteArray} {i : Nat} (h : i < 8) : sbyte (headB n k ++ b) (8 + i) = kb k i := by
  rw [sbyte_append_left (by rw [headB_size]; omega)]
  unfold headB
  rw [sbyte_append_right (numB_size n)]
  exact sbyte_strB _ h
theorem val_head {n k : Nat} (hn : n ≤ 1099511627776) (b : ByteArray) : val (sbyte (headB n k ++ b)) 8 = n := by
  rw [val_congr (g := nb n) 8 (fun i hi => sbyte_head hi), val_numB (by omega)]
theorem isK_head {n k : Nat} {b : ByteArray} (hn : n ≤ 1099511627776) (hk : k = 1 ∨ k = 2) (hb : b.size = 48) : isK (headB n k ++ b) := by
  refine ⟨by rw [ByteArray.size_append, headB_size, hb], ?_, ?_, ?_, fun i h9 h16 => ?_⟩
  · rw [sbyte_head (by omega)]
    unfold nb
    rw [BitVec.toNat_ofNat]
    have : n / 256 ^ (7 - 0) ≤ 0 := by
      rw [Nat.le_zero, Nat.div_eq_zero_iff]
      right
      have : (256 : Nat) ^ (7 - 0) = 72057594037927936 := by decide
      omega
    omega
  · rw [val_head hn]; exact hn
  · have := sbyte_head2 (n := n) (k := k) (b := b) (i := 0) (by omega)
    rw [Nat.add_zero] at this
    rw [this]
    rcases hk with rfl | rfl
    · exact .inl rfl
    · exact .inr rfl
  · obtain ⟨j, rfl⟩ : ∃ j, i = 8 + j := ⟨i - 8, by omega⟩
    rw [sbyte_head2 (by omega)]
    unfold kb
    rw [if_neg (by omega)]
theorem kind_head {n k : Nat} {b : ByteArray} (hk : k < 256) : (sbyte (headB n k ++ b) 8).toNat = k := by
  have := sbyte_head2 (n := n) (k := k) (b := b) (i := 0) (by omega)
  rw [Nat.add_zero] at this
  rw [this]
  show (BitVec.ofNat 8 k).toNat = k
  rw [BitVec.toNat_ofNat]
  omega
theorem body_head {n k : Nat} {b : ByteArray} (hb : b.size = 48) : (headB n k ++ b).extract 16 64 = b := by
  have hz : (headB n k ++ b).size = 64 := by rw [ByteArray.size_append, headB_size, hb]
  refine strB_ext (by rw [ByteArray.size_extract, hz, hb]; rfl) (fun i hi => ?_)
  have hi' : i < 48 := by
    rw [ByteArray.size_extract, hz] at hi
    exact hi
  rw [sbyte_extract (by omega) (by omega), sbyte_append_right (headB_size n k)]
end Go.Proofs.Ytmocaabdfiffnaa.Ct
