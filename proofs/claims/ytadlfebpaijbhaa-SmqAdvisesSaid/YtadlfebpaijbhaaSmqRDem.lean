/- Which slot to let go, by the document: walked. -/
import Derived.Test.YtadlfebpaijbhaaSmqDem
namespace Go.Proofs.Ytadlfebpaijbhaa.Lv
open Go.RowKit Go.Proofs.Ytadlfebpaijbhaa.W Go.Proofs.Ytadlfebpaijbhaa.Dice
set_option linter.unusedVariables false
set_option linter.unusedSimpArgs false

def RD1 (w : World) (R : Nat → List Nat) (M : Nat → Bool) (k : Nat) (s5 s6 : Value) (wr : World) : Prop := ∃ l : Nat, s5 = .int .i64 (l : Int) ∧ l + k = 4 ∧ (∀ j, j < l → ∀ x ∈ R j, M x = false) ∧ wr = w
def RD2 (w : World) (L : List Nat) (M : Nat → Bool) (n k : Nat) (s6 : Value) (wr : World) : Prop := ∃ j : Nat, s6 = .int .i64 (j : Int) ∧ j + k = n ∧ (∀ t, t < j → ∀ x, L[t]? = some x → M x = false) ∧ wr = w
def RD3 (w : World) (M : Nat → Bool) (k : Nat) (s7 : Value) (wr : World) : Prop := ∃ i : Nat, s7 = .int .i64 (i : Int) ∧ i + k = 8 ∧ (∀ t, t < i → M t = false) ∧ wr = w
set_option maxRecDepth 100000 in
set_option maxHeartbeats 1000000 in
theorem rdemote_any (gx ga gb : Nat) (s : Sm) (M : Nat → Bool) (w : World) (h : XA w gx ga gb s) :
    Calls Try.prog 18 #[.pointer (some ⟨gx, 0, none⟩), .agg (row 8 fun i => .bool (M i))] w fun e w' => e = .returned (.int .i64 (demX (dem s.L M))) ∧ Below w.heap.size w w' := by
  have HX0 := hide h
  have HG := hide h.ok.l
  clear h
  go_enter Try.func18, Try.ntmps18
  go_upto_region 1 with fail
  have HC1 : Hid (Blk (w.alloc (.cells (row 8 fun i => .bool (M i)) 38)) w.heap.size 38 (row 8 fun i => .bool (M i))) := hide (Blk.newAt w _ _ _ rfl)
  have HB1 := hide ((Below.refl w.heap.size w).alloc (Nat.le_refl _) (.cells (row 8 fun i => .bool (M i)) 38))
  have HX := hide (HX0.out.later ((Below.refl w.heap.size w).alloc (Nat.le_refl _) (.cells (row 8 fun i => .bool (M i)) 38)))
  generalize w.alloc (.cells (row 8 fun i => .bool (M i)) 38) = W1 at HC1 HB1 HX ⊢
  clear HX0
  have c1 := HX.out.c1
  have hq := HX.out.h
  obtain ⟨V, hq⟩ := hq
  have HQ := hide hq
  have gl := hq.blk.lt
  have glc := HC1.out.lt
  clear hq
  go_wp2_with fail
  go_loopg [5, 6] 4 (fun k s5 s6 wr => RD1 W1 s.L M k s5 s6 wr)
  case atStart => exact ⟨0, rfl, rfl, fun j hj => absurd hj (by omega), rfl⟩
  case round =>
    obtain ⟨l, rfl, hk, h0, rfl⟩ := hrel
    have H0 := hide h0
    clear h0
    by_cases hl : l < 4
    · have hl' : (l : Int) < 4 := by omega
      have hgk : 0 < gk := by omega
      have hk' : l + 1 + (gk - 1) = 4 := by omega
      have cv := HQ.out.blk.at hl
      obtain ⟨A, c, hv⟩ := (HQ.out.row l hl).form
      have hr := HQ.out.row l hl
      rw [hv] at cv hr
      obtain ⟨L, hL⟩ : ∃ L, s.L l = L := ⟨_, rfl⟩
      have HLe := hide hL
      have hlen := len_le HG.out hl
      rw [hL] at cv hr hlen
      obtain ⟨n, hn⟩ : ∃ n, L.length = n := ⟨_, rfl⟩
      have HNn := hide hn
      rw [hn] at cv hr hlen
      have HRow := hide hr
      have HL4 := hide hl
      clear hk hL hl hn hr hv
      obtain ⟨g0, hg0⟩ : ∃ g, g = gk := ⟨gk, rfl⟩
      go_upto_region 5 with fail
      go_loopg [6] n (fun k s6 wx => RD2 wr L M n k s6 wx)
      case atStart => exact ⟨0, rfl, by omega, fun t ht => absurd ht (by omega), rfl⟩
      case round =>
        obtain ⟨j, rfl, hjk, hj0, rfl⟩ := hrel
        have HJ0 := hide hj0
        clear hj0
        by_cases hj : j < n
        · have hj' : (j : Int) < (n : Int) := by omega
          have hgk2 : 0 < gk := by omega
          have hjk' : j + 1 + (gk - 1) = n := by omega
          obtain ⟨a, ha⟩ : ∃ a, L[j]? = some a := ⟨_, List.getElem?_eq_getElem (by rw [HNn.out]; exact hj)⟩
          obtain ⟨bb, rfl, _, hc⟩ := HRow.out.at ha
          have ha8 : a < 8 := HG.out.lt l HL4.out a (by rw [HLe.out]; exact List.mem_of_getElem? ha)
          have ha8' : (a : Int) < 8 := by omega
          have cm := HC1.out.at ha8
          obtain ⟨m, hm⟩ : ∃ m, M a = m := ⟨_, rfl⟩
          rw [hm] at cm
          cases m with
          | true =>
            have HD : Hid (dem s.L M = some a) := hide (dem_at HL4.out H0.out (by rw [HLe.out]; exact ha) (fun t ht x hx => HJ0.out t ht x (by rw [HLe.out] at hx; exact hx)) hm)
            clear ha hm hjk hjk'
            go_wp2_with fail
            go_ret
            rw [HD.out]
            exact ⟨rfl, HB1.out⟩
          | false =>
            have HJ1 : Hid (∀ t, t < j + 1 → ∀ x, L[t]? = some x → M x = false) := hide (fun t ht x hx => by
              rcases Nat.lt_or_ge t j with h | h
              · exact HJ0.out t h x hx
              · rw [show t = j by omega, ha] at hx
                injection hx with hx
                rw [← hx]
                exact hm)
            clear ha hm hjk
            go_wp2_with fail
            go_roundg (gk - 1)
            case measure => omega
            case rel => exact ⟨j + 1, by go_num, hjk', HJ1.out, rfl⟩
        · have hj' : decide ((j : Int) < (n : Int)) = false := by simp; omega
          have hj'' : decide (j < n) = false := by simp; omega
          have H01 : Hid (∀ t, t < l + 1 → ∀ x ∈ s.L t, M x = false) := hide (fun t ht x hx => by
            rcases Nat.lt_or_ge t l with h | h
            · exact H0.out t h x hx
            · rw [show t = l by omega, HLe.out] at hx
              obtain ⟨q, hq, he⟩ := List.getElem_of_mem hx
              exact HJ0.out q (by have := HNn.out; omega) x (by rw [List.getElem?_eq_getElem hq, he]))
          clear hj hjk
          go_wp2_with fail
          go_roundg (g0 - 1)
          case measure => omega
          case rel => exact ⟨l + 1, by go_num, by omega, H01.out, rfl⟩
    · obtain rfl : l = 4 := by omega
      clear hl hk
      go_wp2_with fail
      go_loopg [7] 8 (fun k s7 wx => RD3 wr M k s7 wx)
      case atStart => exact ⟨0, rfl, rfl, fun t ht => absurd ht (by omega), rfl⟩
      case round =>
        obtain ⟨i, rfl, hk, hi0, rfl⟩ := hrel
        have HI0 := hide hi0
        clear hi0
        by_cases hi : i < 8
        · have hi' : (i : Int) < 8 := by omega
          have hgk : 0 < gk := by omega
          have hk' : i + 1 + (gk - 1) = 8 := by omega
          have cm := HC1.out.at hi
          obtain ⟨m, hm⟩ : ∃ m, M i = m := ⟨_, rfl⟩
          rw [hm] at cm
          cases m with
          | true =>
            have HD : Hid (dem s.L M = some i) := hide (dem_tail H0.out hi HI0.out hm)
            clear hm hk hk'
            go_wp2_with fail
            go_ret
            rw [HD.out]
            exact ⟨rfl, HB1.out⟩
          | false =>
            have HI1 : Hid (∀ t, t < i + 1 → M t = false) := hide (fun t ht => by
              rcases Nat.lt_or_ge t i with h | h
              · exact HI0.out t h
              · rw [show t = i by omega]
                exact hm)
            clear hm hk
            go_wp2_with fail
            go_roundg (gk - 1)
            case measure => omega
            case rel => exact ⟨i + 1, by go_num, hk', HI1.out, rfl⟩
        · have hi' : decide ((i : Int) < 8) = false := by simp; omega
          have hi'' : decide (i < 8) = false := by simp; omega
          have HD : Hid (dem s.L M = none) := hide (dem_none H0.out (fun t ht => HI0.out t (by omega)))
          clear hi hk
          go_wp2_with fail
          go_ret
          rw [HD.out]
          exact ⟨rfl, HB1.out⟩
end Go.Proofs.Ytadlfebpaijbhaa.Lv
