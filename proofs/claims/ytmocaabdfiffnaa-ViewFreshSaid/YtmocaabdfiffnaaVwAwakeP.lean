/- What the law's own two images look like. -/
import Derived.Test.YtmocaabdfiffnaaVwFresh
namespace Go.Proofs.Ytmocaabdfiffnaa.Ct
open Go.RowKit Go.Proofs.Ytmocaabdfiffnaa.W Go.Maps
set_option linter.unusedVariables false
set_option linter.unusedSimpArgs false

def K7 : Nat → Int := fun _ => 227
def S7 : Nat → ByteArray := fun _ => headB 7 1
def im0 : ByteArray := imgB K7 S7 0
def im7 : ByteArray := imgB K7 S7 1
def h7 : ByteArray := headB 7 1 ++ strB 48 fun _ => 0#8
theorem im0_eq : im0 = strB 18432 fun _ => 0#8 := rfl
theorem im7_eq : im7 = strB 18432 (putF (fun _ => 0#8) 14528 (headB 7 1) 64) := by
  show strB 18432 (imgF K7 S7 (if 1 < 40 then 1 else 40)) = _
  rw [if_pos (by decide)]
  show strB 18432 (if K7 0 < 0 ∨ 287 < K7 0 then imgF K7 S7 0 else putF (imgF K7 S7 0) (64 * (K7 0).toNat) (S7 0) 64) = _
  rw [if_neg (by decide)]
  rfl
theorem im0_size : im0.size = 18432 := strB_size _ _
theorem im7_size : im7.size = 18432 := by rw [im7_eq]; exact strB_size _ _
theorem blk0 {i : Nat} (hi : i < 288) : blk im0 i = zerosB 64 := by
  unfold blk zerosB
  rw [im0_eq, extract_strB _ (by omega) (by omega), show 64 * i + 64 - 64 * i = 64 by omega]
theorem blk7_far {i : Nat} (hi : i < 288) (h : i ≠ 227) : blk im7 i = zerosB 64 := by
  unfold blk zerosB
  rw [im7_eq, extract_strB _ (by omega) (by omega), show 64 * i + 64 - 64 * i = 64 by omega]
  refine strB_congr (fun j hj => ?_)
  unfold putF
  rw [if_neg (by omega)]
theorem h7_size : h7.size = 64 := by
  unfold h7
  rw [ByteArray.size_append, headB_size, strB_size]
theorem blk7_at : blk im7 227 = h7 := by
  refine strB_ext (by rw [blk_size im7_size (by omega), h7_size]) (fun j hj => ?_)
  rw [blk_size im7_size (by omega)] at hj
  unfold blk
  rw [sbyte_extract (by omega) (by rw [im7_size]; omega), im7_eq, sbyte_strB _ (by omega)]
  unfold putF
  rw [if_pos (by omega), show 64 * 227 + j - 14528 = j by omega]
  unfold bAt h7
  rw [headB_size]
  by_cases h : j < 16
  · rw [if_pos h, sbyte_append_left (by rw [headB_size]; exact h)]
  · rw [if_neg h]
    obtain ⟨k, rfl⟩ : ∃ k, j = 16 + k := ⟨j - 16, by omega⟩
    rw [sbyte_append_right (headB_size 7 1), sbyte_strB _ (by omega)]
theorem num0 (i : Nat) : numOf (zerosB 64) i = -1 := by
  unfold numOf
  rw [if_neg]
  rintro ⟨_, hk, h1⟩
  unfold zerosB at h1
  rw [sbyte_strB _ (by omega)] at h1
  exact absurd h1 (by decide)
theorem num7 : numOf h7 227 = ((7 : Nat) : Int) := by
  unfold numOf h7
  rw [if_pos ⟨by omega, isK_head (by omega) (.inl rfl) (strB_size _ _), kind_head (by omega)⟩, val_head (by omega)]
theorem z_h7 : (h7.toList == (zerosB 64).toList) = false := by
  rw [toList_eq_iff]
  simp only [decide_eq_false_iff_not]
  intro e
  have h : sbyte h7 8 = sbyte (zerosB 64) 8 := congrArg (fun x => sbyte x 8) e
  have hk := kind_head (n := 7) (k := 1) (b := strB 48 fun _ => 0#8) (by omega)
  unfold h7 at h
  rw [h] at hk
  unfold zerosB at hk
  rw [sbyte_strB _ (by omega)] at hk
  exact absurd hk (by decide)
theorem same_far {i : Nat} (hi : i < 288) (h : i ≠ 227) : sameB im0 im7 true i = true := by
  unfold sameB
  rw [blk0 hi, blk7_far hi h]
  split <;> simp
theorem same_at : sameB im0 im7 true 227 = false := by
  unfold sameB
  rw [if_neg (by omega), blk0 (by omega), blk7_at]
  have := z_h7
  rw [toList_eq_iff] at this ⊢
  simp only [decide_eq_false_iff_not] at this ⊢
  exact fun e => this e.symm
theorem difs_lo : ∀ k, k ≤ 227 → difs im0 im7 true k = []
  | 0, _ => rfl
  | k + 1, h => by rw [difs_same (same_far (by omega) (by omega)), difs_lo k (by omega)]
theorem difs_hi : ∀ k, k ≤ 60 → difs im0 im7 true (228 + k) = [227]
  | 0, _ => by
    rw [show 228 + 0 = 227 + 1 by omega, difs_not same_at, difs_lo 227 (by omega)]
    rfl
  | k + 1, h => by rw [show 228 + (k + 1) = 228 + k + 1 by omega, difs_same (same_far (by omega) (by omega)), difs_hi k (by omega)]
theorem difs_7 : difs im0 im7 true 288 = [227] := difs_hi 60 (by omega)
def x7 : Nat → ByteArray := fun d => if d = 0 then im0 else im7
theorem stt_lo : ∀ i, i ≤ 288 → stt x7 (288 * 0 + i) = ([], false)
  | 0, _ => rfl
  | i + 1, h => by
    show stt x7 (288 * 0 + i + 1) = _
    rw [stt_succ x7 (by omega), stt_lo i (by omega), show x7 0 = im0 from rfl, blk0 (by omega), num0]
    exact stp_low (by omega)
theorem stt_mi : ∀ i, i ≤ 227 → stt x7 (288 * 1 + i) = ([], false)
  | 0, _ => stt_lo 288 (by omega)
  | i + 1, h => by
    show stt x7 (288 * 1 + i + 1) = _
    rw [stt_succ x7 (by omega), stt_mi i (by omega), show x7 1 = im7 from rfl, blk7_far (by omega) (by omega), num0]
    exact stp_low (by omega)
theorem stt_hi : ∀ i, i ≤ 60 → stt x7 (288 * 1 + (228 + i)) = ([(7, h7)], false)
  | 0, _ => by
    show stt x7 (288 * 1 + 227 + 1) = _
    rw [stt_succ x7 (by omega), stt_mi 227 (by omega), show x7 1 = im7 from rfl, blk7_at, num7]
    exact stp_new rfl
  | i + 1, h => by
    show stt x7 (288 * 1 + (228 + i) + 1) = _
    rw [stt_succ x7 (by omega), stt_hi i (by omega), show x7 1 = im7 from rfl, blk7_far (by omega) (by omega), num0]
    exact stp_low (by omega)
theorem stt_7 : stt x7 576 = ([(7, h7)], false) := stt_hi 60 (by omega)
theorem fresh7 : freshE x7 = .returned (.tuple #[.int .i64 1, .int .i64 0]) := by
  unfold freshE
  rw [stt_7]
  rfl
theorem seen7 : (∀ j, j < 4 → seenF im7 227 j = seenF im7 227 j) ∧ seenF im7 227 0 = .int .i64 4 ∧ seenF im7 227 1 = .int .i64 3 ∧ seenF im7 227 2 = .int .i64 7 ∧ seenF im7 227 3 = .bool false := by
  refine ⟨fun _ _ => rfl, rfl, rfl, ?_, ?_⟩
  · show Value.int .i64 (numOf (blk im7 227) 227) = _
    rw [blk7_at, num7]
    rfl
  · show Value.bool ((blk im7 227).toList == (zerosB 64).toList) = _
    rw [blk7_at, z_h7]
/-- What Look tells, cell by cell. -/
theorem looks_at (s : ByteArray) (hs : s.size = 18432) (w : World) : Calls Try.prog 13 #[.string s] w fun e w' => ∃ g c, e = .returned (.tuple #[.slice (some ⟨g, 0, none⟩) 288 c, .int .i64 0]) ∧ g < w'.heap.size ∧ (∀ i j, i < 288 → j < 4 → w'.cell? ⟨g, i * 4 + j, none⟩ = some (seenF s i j)) ∧ Below w.heap.size w w' := by
  refine (looks_yes s hs w).mono ?_
  rintro e w' ⟨A, c, rfl, hown, hb⟩
  obtain ⟨g, cap, hv, _, _⟩ := hown.form (by omega)
  injection hv with hA _ hc
  subst hA hc
  exact ⟨g, c, rfl, (hown.lt g rfl).2, fun i j hi hj => by rw [hown.cellAt _ (by omega), seens_at s hi hj], hb⟩
end Go.Proofs.Ytmocaabdfiffnaa.Ct
