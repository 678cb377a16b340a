/- The reference's rows: walked. -/
import Derived.Test.YtadlfebpaijbhaaLevNew
namespace Go.Proofs.Ytadlfebpaijbhaa.Lv
open Go.RowKit Go.Proofs.Ytadlfebpaijbhaa.W
set_option linter.unusedVariables false
set_option linter.unusedSimpArgs false

/-- A slice value that is a row. -/
def RowV (w : World) (v : Value) (L : List Nat) : Prop := (L = [] ∧ v = .slice none 0 0) ∨ ∃ b cap cs, v = .slice (some ⟨b, 0, none⟩) L.length cap ∧ Blk w b 3 cs ∧ ∀ j, j < L.length → cs[j]? = (toV L)[j]?
theorem RowV.keep {w w' : World} {v : Value} {L : List Nat} (h : RowV w v L) (hk : ∀ b cs, Blk w b 3 cs → Blk w' b 3 cs) : RowV w' v L := by
  rcases h with h | ⟨b, cap, cs, h1, h2, h3⟩
  · exact .inl h
  · exact .inr ⟨b, cap, cs, h1, hk b cs h2, h3⟩
theorem RowV.later {w w' : World} {v : Value} {L : List Nat} (hb : Below w.heap.size w w') (h : RowV w v L) : RowV w' v L := h.keep (fun b cs h => W.later hb h)
theorem RowV.chg {w w' : World} {v : Value} {L : List Nat} {g : Nat} {t : TypeId} {cs : Array Value} (h : RowV w v L) (hc : Chg (one g) w w') (hg : Blk w g t cs) (ht : 3 ≠ t) : RowV w' v L :=
  h.keep (fun b cs' hb => hb.chg hc (fun (e : b = g) => (Blk.ne_ hb hg ht) e))
theorem RowV.form {w : World} {v : Value} {L : List Nat} (h : RowV w v L) : ∃ A c, v = .slice A L.length c := by
  rcases h with ⟨rfl, h⟩ | ⟨b, cap, cs, h1, _, _⟩
  · exact ⟨none, 0, h⟩
  · exact ⟨_, cap, h1⟩
theorem toV_at {L : List Nat} {j a : Nat} (h : L[j]? = some a) : (toV L)[j]? = some (.int .i64 (a : Int)) := by simp [toV, h]
theorem RowV.at {w : World} {A : Option Addr} {k c : Nat} {L : List Nat} (h : RowV w (.slice A k c) L) {j a : Nat} (hj : L[j]? = some a) : ∃ b, A = some ⟨b, 0, none⟩ ∧ k = L.length ∧ w.cell? ⟨b, j, none⟩ = some (.int .i64 (a : Int)) := by
  have hlt : j < L.length := by
    rcases Nat.lt_or_ge j L.length with h | h
    · exact h
    · rw [List.getElem?_eq_none h] at hj; cases hj
  rcases h with ⟨rfl, h⟩ | ⟨b, cap, cs, h1, h2, h3⟩
  · simp at hlt
  · injection h1 with e1 e2 e3
    exact ⟨b, e1, e2, by rw [h2.cell, h3 j hlt, toV_at hj]⟩
theorem RowV.of_own {w : World} {base : Nat} {A : Option Addr} {c : Nat} {L : List Nat} (h : w.ownsRow base 3 1 (.slice A L.length c) L.length (toV L)) : RowV w (.slice A L.length c) L := by
  rcases h.2 with ⟨hv, h0⟩ | ⟨g, cap, cur, hv, hb, hg, _, _, _, ht⟩
  · exact .inl ⟨List.eq_nil_of_length_eq_zero h0, hv⟩
  · refine .inr ⟨g, cap, cur, hv, hg, fun j hj => ?_⟩
    rw [← ht, List.getElem?_take, if_pos (by omega)]
    simp
/-- The reference in memory. -/
structure RF (w : World) (gx : Nat) (V : Nat → Value) (R : Nat → List Nat) : Prop where
  blk : Blk w gx 59 (row 4 V)
  row : ∀ l, l < 4 → RowV w (V l) (R l)
def RefAt (w : World) (gx : Nat) (R : Nat → List Nat) : Prop := ∃ V, RF w gx V R
theorem RF.later {w w' : World} {gx : Nat} {V : Nat → Value} {R : Nat → List Nat} (h : RF w gx V R) (hb : Below w.heap.size w w') : RF w' gx V R := ⟨W.later hb h.blk, fun l hl => (h.row l hl).later hb⟩
theorem RefAt.later {w w' : World} {gx : Nat} {R : Nat → List Nat} (h : RefAt w gx R) (hb : Below w.heap.size w w') : RefAt w' gx R := by
  obtain ⟨V, h⟩ := h
  exact ⟨V, h.later hb⟩
theorem RefAt.chg {w w' : World} {gx g : Nat} {R : Nat → List Nat} {t : TypeId} {cs : Array Value} (h : RefAt w gx R) (hc : Chg (one g) w w') (hg : Blk w g t cs) (ht : 3 ≠ t) (hr : 59 ≠ t) : RefAt w' gx R := by
  obtain ⟨V, h⟩ := h
  exact ⟨V, h.blk.chg hc (fun (e : gx = g) => (Blk.ne_ h.blk hg hr) e), fun l hl => (h.row l hl).chg hc hg ht⟩
theorem RefAt.congr {w : World} {gx : Nat} {R R' : Nat → List Nat} (h : RefAt w gx R) (e : ∀ l, l < 4 → R' l = R l) : RefAt w gx R' := by
  obtain ⟨V, h⟩ := h
  exact ⟨V, h.blk, fun l hl => by rw [e l hl]; exact h.row l hl⟩
/-- A row laid into it. -/
theorem RF.lay {w : World} {gx : Nat} {V : Nat → Value} {R : Nat → List Nat} (h : RF w gx V R) (l : Nat) (v : Value) (L : List Nat) (hv : RowV w v L) : RF (w.setCell ⟨gx, l, none⟩ v) gx (upd V l v) (updR R l L) := by
  have hk : ∀ b cs, Blk w b 3 cs → Blk (w.setCell ⟨gx, l, none⟩ v) b 3 cs := fun b cs hb => hb.far (fun (e : b = gx) => (Blk.ne_ hb h.blk (by decide)) e) _
  refine ⟨h.blk.upd l v, fun k hkl => ?_⟩
  by_cases e : k = l
  · subst e
    rw [updR_at]
    simp only [upd, if_pos]
    exact hv.keep hk
  · rw [updR_ne _ _ e]
    simp only [upd, if_neg e]
    exact (h.row k hkl).keep hk
def HasRel (w : World) (L : List Nat) (i n k : Nat) (s5 : Value) (wr : World) : Prop := ∃ j : Nat, s5 = .int .i64 (j : Int) ∧ j + k = n ∧ (∀ t, t < j → ∀ a, L[t]? = some a → a ≠ i) ∧ wr = w
set_option maxRecDepth 100000 in
theorem has_any (A : Option Addr) (n c i : Nat) (L : List Nat) (hn : n = L.length) (hn2 : n ≤ 1000) (w : World) (hr : RowV w (.slice A n c) L) (b : Bool) (hb : b = decide (i ∈ L)) :
    Calls Try.prog 46 #[.slice A n c, .int .i64 (i : Int)] w fun e w' => e = .returned (.bool b) ∧ w' = w := by
  have HB := hide hb
  have HR := hide hr
  have HN := hide hn
  clear hb hr hn
  go_enter Try.func46, Try.ntmps46
  go_wp2_with fail
  go_loopg [5] n (fun k s5 wr => HasRel w L i n k s5 wr)
  case atStart => exact ⟨0, rfl, by omega, fun t ht => absurd ht (by omega), rfl⟩
  case round =>
    obtain ⟨j, rfl, hk, h0, hw⟩ := hrel
    subst wr
    by_cases hj : j < n
    · have hgk : 0 < gk := by omega
      have hj' : (j : Int) < (n : Int) := by omega
      obtain ⟨a, ha⟩ : ∃ a, L[j]? = some a := ⟨_, List.getElem?_eq_getElem (by rw [← HN.out]; exact hj)⟩
      obtain ⟨bb, rfl, _, hc⟩ := HR.out.at ha
      by_cases hai : a = i
      · have t1 : ((a : Int) == (i : Int)) = true := by simp; omega
        have t2 : (a == i) = true := by simp; omega
        have HV : Hid (b = true) := hide (by rw [HB.out]; simp; exact hai ▸ List.mem_of_getElem? ha)
        clear ha h0 hk hai
        go_wp2_with fail
        go_ret
        rw [HV.out]
        exact ⟨rfl, rfl⟩
      · have t1 : ((a : Int) == (i : Int)) = false := by simp; omega
        have t2 : (a == i) = false := by simp; omega
        have H0 : Hid (∀ t, t < j + 1 → ∀ a, L[t]? = some a → a ≠ i) := hide (fun t ht x hx => by
          rcases Nat.lt_or_ge t j with h | h
          · exact h0 t h x hx
          · rw [show t = j by omega, ha] at hx
            injection hx with hx
            omega)
        clear ha h0 hai
        go_wp2_with fail
        go_roundg (gk - 1)
        case measure => omega
        case rel => exact ⟨j + 1, by go_num, by omega, H0.out, rfl⟩
    · have hj' : decide (j < n) = false := by simp; omega
      have hj'' : decide ((j : Int) < (n : Int)) = false := by simp; omega
      have HV : Hid (b = false) := hide (by
        rw [HB.out]
        simp
        intro hm
        obtain ⟨t, ht, he⟩ := List.getElem_of_mem hm
        exact h0 t (by have := HN.out; omega) i (by rw [List.getElem?_eq_getElem ht, he]) rfl)
      clear hj h0 hk
      go_wp2_with fail
      go_ret
      rw [HV.out]
      exact ⟨rfl, rfl⟩
theorem wh_at {R : Nat → List Nat} {i l : Nat} (hl : l < 4) (h0 : ∀ k, k < l → i ∉ R k) (h : i ∈ R l) : wh R i = l := by
  have h4 : l = 0 ∨ l = 1 ∨ l = 2 ∨ l = 3 := by omega
  unfold wh
  rcases h4 with rfl | rfl | rfl | rfl
  · rw [if_pos h]
  · rw [if_neg (h0 0 (by omega)), if_pos h]
  · rw [if_neg (h0 0 (by omega)), if_neg (h0 1 (by omega)), if_pos h]
  · rw [if_neg (h0 0 (by omega)), if_neg (h0 1 (by omega)), if_neg (h0 2 (by omega)), if_pos h]
theorem wh_out {R : Nat → List Nat} {i : Nat} (h0 : ∀ k, k < 4 → i ∉ R k) : wh R i = 4 := by
  unfold wh
  rw [if_neg (h0 0 (by omega)), if_neg (h0 1 (by omega)), if_neg (h0 2 (by omega)), if_neg (h0 3 (by omega))]
def whV (R : Nat → List Nat) (i : Nat) : Int := if wh R i < 4 then (wh R i : Int) else -1
def WhRel (w : World) (R : Nat → List Nat) (i k : Nat) (s5 : Value) (wr : World) : Prop := ∃ l : Nat, s5 = .int .i64 (l : Int) ∧ l + k = 4 ∧ (∀ k, k < l → i ∉ R k) ∧ wr = w
set_option maxRecDepth 100000 in
theorem where_any (gx i : Nat) (R : Nat → List Nat) (hlen : ∀ l, l < 4 → (R l).length ≤ 1000) (w : World) (hq : RefAt w gx R) :
    Calls Try.prog 29 #[.pointer (some ⟨gx, 0, none⟩), .int .i64 (i : Int)] w fun e w' => e = .returned (.int .i64 (whV R i)) ∧ w' = w := by
  obtain ⟨V, hq⟩ := hq
  have HQ := hide hq
  have HL := hide hlen
  have gl := hq.blk.lt
  clear hq hlen
  go_enter Try.func29, Try.ntmps29
  go_wp2_with fail
  go_loopg [5] 4 (fun k s5 wr => WhRel w R i k s5 wr)
  case atStart => exact ⟨0, rfl, rfl, fun k hk => absurd hk (by omega), rfl⟩
  case round =>
    obtain ⟨l, rfl, hk, h0, hw⟩ := hrel
    subst wr
    by_cases hl : l < 4
    · have hgk : 0 < gk := by omega
      have hl' : (l : Int) < 4 := by omega
      have cv := HQ.out.blk.at hl
      obtain ⟨A, c, hv⟩ := (HQ.out.row l hl).form
      have hr := HQ.out.row l hl
      rw [hv] at cv hr
      obtain ⟨n, hn⟩ : ∃ n, (R l).length = n := ⟨_, rfl⟩
      rw [hn] at cv hr
      by_cases hm : i ∈ R l
      · have HC := hide (has_any A n c i (R l) hn.symm (by rw [← hn]; exact HL.out l hl) w hr true (by simp [hm]))
        have HV : Hid (whV R i = (l : Int)) := hide (by unfold whV; rw [wh_at hl h0 hm, if_pos hl])
        clear hv hr h0 hk hm hn
        go_wp2_with (first
          | (go_at_call 46; (with_reducible refine HC.out.mono ?_); rintro e wx ⟨rfl, hw⟩; subst wx))
        go_ret
        rw [HV.out]
        exact ⟨rfl, rfl⟩
      · have HC := hide (has_any A n c i (R l) hn.symm (by rw [← hn]; exact HL.out l hl) w hr false (by simp [hm]))
        have H0 : Hid (∀ k, k < l + 1 → i ∉ R k) := hide (fun k hk => by
          rcases Nat.lt_or_ge k l with h | h
          · exact h0 k h
          · rw [show k = l by omega]; exact hm)
        clear hv hr h0 hm hn
        go_wp2_with (first
          | (go_at_call 46; (with_reducible refine HC.out.mono ?_); rintro e wx ⟨rfl, hw⟩; subst wx))
        go_roundg (gk - 1)
        case measure => omega
        case rel => exact ⟨l + 1, by go_num, by omega, H0.out, rfl⟩
    · have hl' : decide (l < 4) = false := by simp; omega
      have hl'' : decide ((l : Int) < 4) = false := by simp; omega
      have HV : Hid (whV R i = -1) := hide (by unfold whV; rw [wh_out (fun k hk => h0 k (by omega)), if_neg (by omega)])
      clear hl h0 hk
      go_wp2_with fail
      go_ret
      rw [HV.out]
      exact ⟨rfl, rfl⟩
def remU (R : Nat → List Nat) (i l : Nat) : Nat → List Nat := fun k => if k < l then rem R i k else R k
theorem remU_all (R : Nat → List Nat) (i : Nat) : ∀ k, k < 4 → rem R i k = remU R i 4 k := fun k hk => by unfold remU; rw [if_pos hk]
theorem remU_step (R : Nat → List Nat) (i l : Nat) : updR (remU R i l) l (rem R i l) = remU R i (l + 1) := by
  funext k
  unfold updR remU
  by_cases e : k = l
  · subst e; rw [if_pos rfl, if_pos (by omega)]
  · rw [if_neg e]
    by_cases h : k < l
    · rw [if_pos h, if_pos (by omega)]
    · rw [if_neg h, if_neg (by omega)]
def RmRel (w : World) (gx : Nat) (R : Nat → List Nat) (i k : Nat) (s4 : Value) (wr : World) : Prop := ∃ l : Nat, s4 = .int .i64 (l : Int) ∧ l + k = 4 ∧ RefAt wr gx (remU R i l) ∧ Chg (one gx) w wr
def RmIn (wl : World) (L : List Nat) (i k : Nat) (s5 s6 : Value) (wr : World) : Prop := ∃ (j m : Nat) (A : Option Addr) (c : Nat), s6 = .int .i64 (j : Int) ∧ s5 = .slice A m c ∧ j + k = L.length ∧ m = ((L.take j).filter (· ≠ i)).length ∧ wr.ownsRow wl.heap.size 3 1 (.slice A m c) m (toV ((L.take j).filter (· ≠ i))) ∧ Below wl.heap.size wl wr
set_option maxRecDepth 100000 in
set_option maxHeartbeats 1000000 in
theorem rremove_any (gx i : Nat) (R : Nat → List Nat) (hlen : ∀ l, l < 4 → (R l).length ≤ 1000) (w : World) (hq : RefAt w gx R) :
    Calls Try.prog 37 #[.pointer (some ⟨gx, 0, none⟩), .int .i64 (i : Int)] w fun e w' => e = .returned (.tuple #[]) ∧ RefAt w' gx (rem R i) ∧ Chg (one gx) w w' := by
  obtain ⟨i0, hi0, hz0, hz1, hz2⟩ := info3 int_info
  have HQ0 := hide hq
  have HL := hide hlen
  clear hq hlen
  go_enter Try.func37, Try.ntmps37
  go_wp2_with fail
  go_loopg [4] 4 (fun k s4 wr => RmRel w gx R i k s4 wr)
  case atStart => exact ⟨0, rfl, rfl, HQ0.out.congr (fun k _ => by unfold remU; rw [if_neg (by omega)]), Chg.refl _ _⟩
  case round =>
    obtain ⟨l, rfl, hk, hq, hc⟩ := hrel
    have HC := hide hc
    clear hc
    by_cases hl : l < 4
    · have hgk : 0 < gk := by omega
      have hl' : (l : Int) < 4 := by omega
      obtain ⟨V, hq⟩ := hq
      have HQ := hide hq
      have hr0 := hq.row l hl
      rw [show remU R i l l = R l by unfold remU; rw [if_neg (by omega)]] at hr0
      obtain ⟨A0, c0, hv⟩ := hr0.form
      obtain ⟨L, hL⟩ : ∃ L, R l = L := ⟨_, rfl⟩
      have hlen := HL.out l hl
      rw [hL] at hr0 hv hlen
      rw [hv] at hr0
      have HR := hide hr0
      have HV := hide hv
      have hrem : rem R i l = L.filter (· ≠ i) := by unfold rem; rw [hL]
      have HRem := hide hrem
      obtain ⟨n, hn⟩ : ∃ n, L.length = n := ⟨_, rfl⟩
      clear hq hr0 hv hL hrem
      obtain ⟨g0, hg0⟩ : ∃ g, g = gk := ⟨gk, rfl⟩
      subst hg0
      obtain ⟨wl, hwl⟩ : ∃ x, x = wr := ⟨wr, rfl⟩
      subst hwl
      go_wp2_with fail
      go_loopg [5, 6] n (fun k s5 s6 wx => RmIn wl L i k s5 s6 wx)
      case atStart => exact ⟨0, 0, none, 0, rfl, rfl, by omega, by simp, ⟨rfl, .inl ⟨rfl, rfl⟩⟩, Below.refl _ _⟩
      case round =>
        obtain ⟨j, m, A, c, rfl, rfl, hjk, hm, hown, hb⟩ := hrel
        have HOwn := hide hown
        have HB := hide hb
        have HM := hide hm
        have hm2 : m ≤ j := by
          rw [hm]
          have := List.length_filter_le (fun x => decide (x ≠ i)) (L.take j)
          rw [List.length_take] at this
          omega
        have HF := hide (HQ.out.later hb)
        have cv := HF.out.blk.at hl
        rw [HV.out, hn] at cv
        have gl := HF.out.blk.lt
        clear hown hb hm
        by_cases hj : j < n
        · have hgk2 : 0 < gk := by omega
          have hj' : (j : Int) < (n : Int) := by omega
          obtain ⟨a, ha⟩ : ∃ a, L[j]? = some a := ⟨_, List.getElem?_eq_getElem (by omega)⟩
          obtain ⟨bb, rfl, _, hca⟩ := (HR.out.later HB.out).at ha
          by_cases hai : a = i
          · have t1 : ((a : Int) != (i : Int)) = false := by simp; omega
            have t2 : (a != i) = false := by simp; omega
            have HS : Hid ((L.take (j + 1)).filter (· ≠ i) = (L.take j).filter (· ≠ i)) := hide (by
              rw [List.take_add_one, ha]
              simp [List.filter_append, hai])
            clear ha hai
            go_wp2_with fail
            go_roundg (gk - 1)
            case measure => omega
            case rel => exact ⟨j + 1, m, A, c, by go_num, rfl, by omega, by rw [HS.out]; exact HM.out, by rw [HS.out]; exact HOwn.out, HB.out⟩
          · have t1 : ((a : Int) != (i : Int)) = true := by simp; omega
            have t2 : (a != i) = true := by simp; omega
            have HS : Hid ((L.take (j + 1)).filter (· ≠ i) = (L.take j).filter (· ≠ i) ++ [a]) := hide (by
              rw [List.take_add_one, ha]
              simp [List.filter_append, hai])
            clear ha hai
            go_wp2_with (first
              | (at_builtin; refine wpList_append_at _ rfl (.tmp 33) (.tmp 43) 41 rfl wl.heap.size 3 i0 (.int .i64 0) 1 8 Try.underlying41 hi0 hz0 hz1 hz2 rfl (by decide) _ m _ rfl (by exact HOwn.out.alloc _) ⟨_, 0, none⟩ 1 1 [.int .i64 (a : Int)] rfl rfl (by exact new_cell _ _ _ _ rfl) (by simp [Value.oneCell']) (by simp [maxLen]; omega) (by omega) (by have := HB.out.size; simp; omega) ?_; intro v1 w1 hown1 hg1 hat1; have HOwn1 := hide hown1; have HG1 := hide hg1; clear hown1 hg1 hat1))
            have hown1 := HOwn1.out
            obtain ⟨A1, c1, hv1⟩ := own_form hown1
            rw [hv1] at hown1 ⊢
            go_roundg (gk - 1)
            case measure => omega
            case rel =>
              refine ⟨j + 1, m + 1, A1, c1, by go_num, rfl, by omega, by rw [HS.out, List.length_append, ← HM.out]; rfl, ?_, kept_below (HOwn.out.alloc _) HG1.out (HB.out.alloc HB.out.size _) (Nat.le_refl _) (by have := HB.out.size; simp; omega)⟩
              rw [HS.out, show toV ((L.take j).filter (· ≠ i) ++ [a]) = toV ((L.take j).filter (· ≠ i)) ++ [.int .i64 (a : Int)] by simp [toV]]
              exact hown1
        · have hj' : decide (j < n) = false := by simp; omega
          have hj'' : decide ((j : Int) < (n : Int)) = false := by simp; omega
          have fx := HF.out.blk.frozen l
          have hfull : L.take j = L := List.take_of_length_le (by omega)
          have hown := HOwn.out
          have hm := HM.out
          rw [hfull] at hown hm
          have HRow : Hid (RowV wr (.slice A m c) (rem R i l)) := hide (by
            rw [HRem.out]
            rw [hm] at hown ⊢
            exact RowV.of_own hown)
          clear hj hfull hown hm
          go_wp2_with fail
          go_roundg (g0 - 1)
          case measure => omega
          case rel =>
            refine ⟨l + 1, by go_num, by omega, ?_, ?_⟩
            · rw [← remU_step]
              exact ⟨_, HF.out.lay l _ _ HRow.out⟩
            · exact (HC.out.trans (Chg.of_below (S := one gx) HB.out) (fun _ _ h => h)).setCell (p := ⟨gx, l, none⟩) (.inl rfl) _
    · have hl' : decide (l < 4) = false := by simp; omega
      have hl'' : decide ((l : Int) < 4) = false := by simp; omega
      obtain rfl : l = 4 := by omega
      have HQ := hide hq
      clear hl hq
      go_wp2_with fail
      go_end0
      exact ⟨rfl, HQ.out.congr (remU_all R i), HC.out⟩
end Go.Proofs.Ytadlfebpaijbhaa.Lv
