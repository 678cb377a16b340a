/- Which slot to let go: walked, of both. -/
import Derived.Test.YtadlfebpaijbhaaSmqWts
namespace Go.Proofs.Ytadlfebpaijbhaa.Lv
open Go.RowKit Go.Proofs.Ytadlfebpaijbhaa.W Go.Proofs.Ytadlfebpaijbhaa.Dice
set_option linter.unusedVariables false
set_option linter.unusedSimpArgs false

/-- The first that may be: of the levels' rows, then of all. -/
def dem (R : Nat → List Nat) (M : Nat → Bool) : Option Nat := (R 0 ++ (R 1 ++ (R 2 ++ (R 3 ++ List.range 8)))).find? M
theorem find_at {M : Nat → Bool} : ∀ {L : List Nat} {j a : Nat}, L[j]? = some a → (∀ t, t < j → ∀ x, L[t]? = some x → M x = false) → M a = true → L.find? M = some a
  | [], j, a, h, _, _ => by simp at h
  | y :: L, 0, a, h, _, hm => by
    simp at h
    subst h
    rw [List.find?_cons_of_pos hm]
  | y :: L, j + 1, a, h, h0, hm => by
    have hy : M y = false := h0 0 (by omega) y (by simp)
    rw [List.find?_cons_of_neg (by rw [hy]; exact Bool.false_ne_true)]
    exact find_at (by simpa using h) (fun t ht x hx => h0 (t + 1) (by omega) x (by simpa using hx)) hm
theorem find_no {M : Nat → Bool} {L : List Nat} (h : ∀ x ∈ L, M x = false) : L.find? M = none := by
  rw [List.find?_eq_none]
  intro x hx
  rw [h x hx]
  exact Bool.false_ne_true
theorem find_skip {M : Nat → Bool} {A B : List Nat} (h : ∀ x ∈ A, M x = false) : (A ++ B).find? M = B.find? M := by
  rw [List.find?_append, find_no h]
  rfl
theorem find_left {M : Nat → Bool} {A B : List Nat} {a : Nat} (h : A.find? M = some a) : (A ++ B).find? M = some a := by
  rw [List.find?_append, h]
  rfl
theorem dem_at {R : Nat → List Nat} {M : Nat → Bool} {l : Nat} (hl : l < 4) (h0 : ∀ j, j < l → ∀ x ∈ R j, M x = false) {j a : Nat} (h : (R l)[j]? = some a) (h1 : ∀ t, t < j → ∀ x, (R l)[t]? = some x → M x = false) (hm : M a = true) : dem R M = some a := by
  have hf := find_at h h1 hm
  have h4 : l = 0 ∨ l = 1 ∨ l = 2 ∨ l = 3 := by omega
  unfold dem
  rcases h4 with rfl | rfl | rfl | rfl
  · exact find_left hf
  · rw [find_skip (h0 0 (by omega))]
    exact find_left hf
  · rw [find_skip (h0 0 (by omega)), find_skip (h0 1 (by omega))]
    exact find_left hf
  · rw [find_skip (h0 0 (by omega)), find_skip (h0 1 (by omega)), find_skip (h0 2 (by omega))]
    exact find_left hf
theorem dem_rest {R : Nat → List Nat} {M : Nat → Bool} (h0 : ∀ j, j < 4 → ∀ x ∈ R j, M x = false) : dem R M = (List.range 8).find? M := by
  unfold dem
  rw [find_skip (h0 0 (by omega)), find_skip (h0 1 (by omega)), find_skip (h0 2 (by omega)), find_skip (h0 3 (by omega))]
theorem dem_tail {R : Nat → List Nat} {M : Nat → Bool} (h0 : ∀ j, j < 4 → ∀ x ∈ R j, M x = false) {i : Nat} (hi : i < 8) (h1 : ∀ t, t < i → M t = false) (hm : M i = true) : dem R M = some i := by
  rw [dem_rest h0]
  refine find_at (j := i) (List.getElem?_range hi) (fun t ht x hx => ?_) hm
  rw [List.getElem?_range (by omega)] at hx
  injection hx with hx
  rw [← hx]
  exact h1 t ht
theorem dem_none {R : Nat → List Nat} {M : Nat → Bool} (h0 : ∀ j, j < 4 → ∀ x ∈ R j, M x = false) (h1 : ∀ t, t < 8 → M t = false) : dem R M = none := by
  rw [dem_rest h0]
  refine find_no (fun x hx => ?_)
  exact h1 x (List.mem_range.1 hx)
theorem dem_may {R : Nat → List Nat} {M : Nat → Bool} {a : Nat} (h : dem R M = some a) : M a = true := List.find?_some h
theorem dem_lt {R : Nat → List Nat} {M : Nat → Bool} {a : Nat} (g : Good 8 R) (h : dem R M = some a) : a < 8 := by
  have := List.mem_of_find?_eq_some h
  simp only [List.mem_append, List.mem_range] at this
  rcases this with h | h | h | h | h
  · exact g.lt 0 (by omega) a h
  · exact g.lt 1 (by omega) a h
  · exact g.lt 2 (by omega) a h
  · exact g.lt 3 (by omega) a h
  · exact h
def demV : Option Nat → Value
  | some a => .tuple #[.int .i64 (a : Int), .bool true]
  | none => .tuple #[.int .i64 0, .bool false]
def demX : Option Nat → Int
  | some a => (a : Int)
  | none => -1
def D1Rel (w : World) (R : Nat → List Nat) (M : Nat → Bool) (k : Nat) (s6 s8 s13 : Value) (wr : World) : Prop := ∃ l : Nat, s13 = .int .i64 (l : Int) ∧ l + k = 4 ∧ (∀ j, j < l → ∀ x ∈ R j, M x = false) ∧
  Blk wr w.heap.size 38 (row 8 fun i => .bool (M i)) ∧ Below w.heap.size w wr ∧ w.heap.size + 1 ≤ wr.heap.size
def D2Rel (w : World) (L : List Nat) (M : Nat → Bool) (n k : Nat) (s8 s23 : Value) (wr : World) : Prop := ∃ j : Nat, s23 = .int .i64 (j : Int) ∧ j + k = n ∧ (∀ t, t < j → ∀ x, L[t]? = some x → M x = false) ∧ wr = w
def D3Rel (w : World) (M : Nat → Bool) (k : Nat) (s9 s10 s34 : Value) (wr : World) : Prop := ∃ i : Nat, s34 = .int .i64 (i : Int) ∧ i + k = 8 ∧ (∀ t, t < i → M t = false) ∧ wr = w
set_option maxRecDepth 100000 in
set_option maxHeartbeats 1000000 in
theorem demote_any (gp gq gh : Nat) (s : Sm) (M : Nat → Bool) (w : World) (h : PA w gp gq gh s) :
    Calls Try.prog 17 #[.pointer (some ⟨gp, 0, none⟩), .agg (row 8 fun i => .bool (M i))] w fun e w' => e = .returned (demV (dem s.L M)) ∧ Below w.heap.size w w' := by
  have HP := hide h
  have HG := hide h.ok.l
  have HIx := hide (fun i hi w => index8 M i hi w)
  clear h
  go_enter Try.func17, Try.ntmps17
  go_upto_region 1 with fail
  have HC1 : Hid (Blk (w.alloc (.cells (row 8 fun i => .bool (M i)) 38)) w.heap.size 38 (row 8 fun i => .bool (M i))) := hide (Blk.newAt w _ _ _ rfl)
  have HB1 := hide ((Below.refl w.heap.size w).alloc (Nat.le_refl _) (.cells (row 8 fun i => .bool (M i)) 38))
  have HS1 : Hid (w.heap.size + 1 ≤ (w.alloc (.cells (row 8 fun i => .bool (M i)) 38)).heap.size) := hide (by simp)
  generalize w.alloc (.cells (row 8 fun i => .bool (M i)) 38) = W1 at HC1 HB1 HS1 ⊢
  go_wp2_with fail
  go_loopg [6, 8, 13] 4 (fun k s6 s8 s13 wr => D1Rel w s.L M k s6 s8 s13 wr)
  case atStart => exact ⟨0, rfl, rfl, fun j hj => absurd hj (by omega), HC1.out, HB1.out, HS1.out⟩
  case round =>
    clear HC1 HB1 HS1
    obtain ⟨l, rfl, hk, h0, h1, h2, h3⟩ := hrel
    have H0 := hide h0
    have H1 := hide h1
    have H2 := hide h2
    have H3 := hide h3
    clear h0 h1 h2 h3
    by_cases hl : l < 4
    · have hl' : (l : Int) < 4 := by omega
      have hgk : 0 < gk := by omega
      have hk' : l + 1 + (gk - 1) = 4 := by omega
      have c1 := (HP.out.later H2.out).c1
      have HLi := hide (list_any gh 8 l s.L hl wr (HP.out.later H2.out).h)
      obtain ⟨L, hL⟩ : ∃ L, s.L l = L := ⟨_, rfl⟩
      rw [hL] at HLi
      have HLe := hide hL
      have hlen := len_le HG.out hl
      rw [hL] at hlen
      obtain ⟨n, hn⟩ : ∃ n, L.length = n := ⟨_, rfl⟩
      have HNn := hide hn
      rw [hn] at hlen
      have HL4 := hide hl
      clear hk hL hl hn
      obtain ⟨g0, hg0⟩ : ∃ g, g = gk := ⟨gk, rfl⟩
      go_upto_region 7 with (first
        | (go_at_call 31; (with_reducible refine HLi.out.mono ?_); rintro e w2 ⟨A, c, he, hown, hbl⟩; subst he; (have HRow := hide (RowV.of_own hown)); (have HB2 := hide hbl); (have HC2 : Hid (Blk w2 w.heap.size 38 (row 8 fun i => .bool (M i))) := hide (W.later hbl H1.out)); clear hown hbl; rw [HNn.out] at HRow; simp only [HNn.out]))
      go_loopg [8, 23] n (fun k s8 s23 wx => D2Rel w2 L M n k s8 s23 wx)
      case atStart => exact ⟨0, rfl, by omega, fun t ht => absurd ht (by omega), rfl⟩
      case round =>
        obtain ⟨j, rfl, hjk, hj0, rfl⟩ := hrel
        have HJ0 := hide hj0
        clear hj0
        by_cases hj : j < n
        · have hj' : (j : Int) < (n : Int) := by omega
          have hgk2 : 0 < gk := by omega
          have hjk' : j + 1 + (gk - 1) = n := by omega
          obtain ⟨a, ha⟩ : ∃ a, L[j]? = some a := ⟨_, List.getElem?_eq_getElem (by rw [HNn.out]; exact hj)⟩
          obtain ⟨bb, rfl, _, hc⟩ := HRow.out.at ha
          have ha8 : a < 8 := HG.out.lt l HL4.out a (by rw [HLe.out]; exact List.mem_of_getElem? ha)
          have ha8' : (a : Int) < 8 := by omega
          have cm := HC2.out.at ha8
          obtain ⟨m, hm⟩ : ∃ m, M a = m := ⟨_, rfl⟩
          rw [hm] at cm
          cases m with
          | true =>
            have HD : Hid (dem s.L M = some a) := hide (dem_at HL4.out H0.out (by rw [HLe.out]; exact ha) (fun t ht x hx => HJ0.out t ht x (by rw [HLe.out] at hx; exact hx)) hm)
            clear ha hm hjk hjk'
            go_wp2_with fail
            go_ret2
            rw [HD.out]
            exact ⟨rfl, H2.out.trans (HB2.out.mono H2.out.size)⟩
          | false =>
            have HJ1 : Hid (∀ t, t < j + 1 → ∀ x, L[t]? = some x → M x = false) := hide (fun t ht x hx => by
              rcases Nat.lt_or_ge t j with h | h
              · exact HJ0.out t h x hx
              · rw [show t = j by omega, ha] at hx
                injection hx with hx
                rw [← hx]
                exact hm)
            clear ha hm hjk
            go_wp2_with fail
            go_roundg (gk - 1)
            case measure => omega
            case rel => exact ⟨j + 1, by go_num, hjk', HJ1.out, rfl⟩
        · have hj' : decide ((j : Int) < (n : Int)) = false := by simp; omega
          have hj'' : decide (j < n) = false := by simp; omega
          have H01 : Hid (∀ t, t < l + 1 → ∀ x ∈ s.L t, M x = false) := hide (fun t ht x hx => by
            rcases Nat.lt_or_ge t l with h | h
            · exact H0.out t h x hx
            · rw [show t = l by omega, HLe.out] at hx
              obtain ⟨q, hq, he⟩ := List.getElem_of_mem hx
              exact HJ0.out q (by have := HNn.out; omega) x (by rw [List.getElem?_eq_getElem hq, he]))
          clear hj hjk
          go_wp2_with fail
          go_roundg (g0 - 1)
          case measure => omega
          case rel => exact ⟨l + 1, by go_num, by omega, H01.out, HC2.out, H2.out.trans (HB2.out.mono H2.out.size), by have := HB2.out.size; have := H3.out; omega⟩
    · obtain rfl : l = 4 := by omega
      clear hl hk
      have hb := H1.out
      go_wp2_with (first
        | (with_reducible refine wpList_load_all rfl 38 (.tmp 3) rfl w.heap.size rfl 38 8 _ _ hb rfl Try.underlying38 info8 ?_))
      go_loopg [9, 10, 34] 8 (fun k s9 s10 s34 wx => D3Rel wr M k s9 s10 s34 wx)
      case atStart => exact ⟨0, rfl, rfl, fun t ht => absurd ht (by omega), rfl⟩
      case round =>
        obtain ⟨i, rfl, hk, hi0, rfl⟩ := hrel
        have HI0 := hide hi0
        clear hi0
        by_cases hi : i < 8
        · have hi' : (i : Int) < 8 := by omega
          have hgk : 0 < gk := by omega
          have hk' : i + 1 + (gk - 1) = 8 := by omega
          have hix := HIx.out i hi
          obtain ⟨m, hm⟩ : ∃ m, M i = m := ⟨_, rfl⟩
          rw [hm] at hix
          cases m with
          | true =>
            have HD : Hid (dem s.L M = some i) := hide (dem_tail H0.out hi HI0.out hm)
            clear hm hk hk'
            go_wp2_with fail
            go_ret2
            rw [HD.out]
            exact ⟨rfl, H2.out⟩
          | false =>
            have HI1 : Hid (∀ t, t < i + 1 → M t = false) := hide (fun t ht => by
              rcases Nat.lt_or_ge t i with h | h
              · exact HI0.out t h
              · rw [show t = i by omega]
                exact hm)
            clear hm hk
            go_wp2_with fail
            go_roundg (gk - 1)
            case measure => omega
            case rel => exact ⟨i + 1, by go_num, hk', HI1.out, rfl⟩
        · have hi' : decide ((i : Int) < 8) = false := by simp; omega
          have hi'' : decide (i < 8) = false := by simp; omega
          have HD : Hid (dem s.L M = none) := hide (dem_none H0.out (fun t ht => HI0.out t (by omega)))
          clear hi hk
          go_wp2_with fail
          go_ret2
          rw [HD.out]
          exact ⟨rfl, H2.out⟩
end Go.Proofs.Ytadlfebpaijbhaa.Lv
