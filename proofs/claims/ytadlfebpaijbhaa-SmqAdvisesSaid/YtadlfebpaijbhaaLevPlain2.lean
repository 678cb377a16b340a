/- Rows of things: what the calls make of them. No program is in sight. -/
import Derived.Test.YtadlfebpaijbhaaLevPlain
namespace Go.Proofs.Ytadlfebpaijbhaa.Lv
open Go.RowKit Go.Proofs.Ytadlfebpaijbhaa.W
set_option linter.unusedVariables false
set_option linter.unusedSimpArgs false

/-- In which row; 4: in none. -/
def wh (R : Nat → List Nat) (i : Nat) : Nat := if i ∈ R 0 then 0 else if i ∈ R 1 then 1 else if i ∈ R 2 then 2 else if i ∈ R 3 then 3 else 4
theorem wh_le (R : Nat → List Nat) (i : Nat) : wh R i ≤ 4 := by
  unfold wh
  (repeat' split) <;> omega
theorem wh_mem {R : Nat → List Nat} {i : Nat} (h : wh R i < 4) : i ∈ R (wh R i) := by
  unfold wh at h ⊢
  split
  · assumption
  split
  · assumption
  split
  · assumption
  split
  · assumption
  · simp_all
theorem wh_none {R : Nat → List Nat} {i : Nat} (h : wh R i = 4) : ∀ k, k < 4 → i ∉ R k := by
  unfold wh at h
  intro k hk
  have hk' : k = 0 ∨ k = 1 ∨ k = 2 ∨ k = 3 := by omega
  rcases hk' with rfl | rfl | rfl | rfl <;> intro hm <;> simp [hm] at h <;> (repeat' split at h) <;> omega
theorem wh_eq {R : Nat → List Nat} {n i k : Nat} (g : Good n R) (hk : k < 4) (h : i ∈ R k) : wh R i = k := by
  rcases Nat.lt_or_ge (wh R i) 4 with hw | hw
  · exact g.apart _ _ hw hk i (wh_mem hw) h
  · have := wh_le R i
    exact absurd h (wh_none (by omega) k hk)
theorem wh_congr {R R' : Nat → List Nat} (e : ∀ l, l < 4 → R' l = R l) (i : Nat) : wh R' i = wh R i := by
  unfold wh
  rw [e 0 (by omega), e 1 (by omega), e 2 (by omega), e 3 (by omega)]
theorem Rep.on_wh {F : Nat → Int} {n : Nat} {R : Nat → List Nat} (h : Rep F n R) {i : Nat} (hi : i < n) : F (1 + i) = if wh R i < 4 then (wh R i : Int) else -1 := by
  have := h.n16
  split
  · exact h.on _ (by omega) i (wh_mem (by omega))
  · have := wh_le R i
    exact h.off i (by omega) (wh_none (by omega))

/-- A thing is in no row. -/
def rem (R : Nat → List Nat) (i : Nat) : Nat → List Nat := fun k => (R k).filter (· ≠ i)
def putR (R : Nat → List Nat) (i l : Nat) : Nat → List Nat := fun k => if k = l then rem R i l ++ [i] else rem R i k
theorem filter_not_mem {L : List Nat} {i : Nat} (h : i ∉ L) : L.filter (· ≠ i) = L := by
  refine List.filter_eq_self.2 (fun a ha => ?_)
  simp
  rintro rfl
  exact h ha
theorem filter_split {A B : List Nat} {i : Nat} (h : (A ++ i :: B).Nodup) : (A ++ i :: B).filter (· ≠ i) = A ++ B := by
  rw [List.nodup_append] at h
  obtain ⟨h1, h2, h3⟩ := h
  rw [List.nodup_cons] at h2
  rw [List.filter_append, List.filter_cons, filter_not_mem (fun hm => h3 i hm i (by simp) rfl), filter_not_mem h2.1]
  simp
/-- With the thing in row l, split there. -/
theorem rem_split {R : Nat → List Nat} {n i l : Nat} {A B : List Nat} (g : Good n R) (hl : l < 4) (hR : R l = A ++ i :: B) : ∀ k, k < 4 → rem R i k = updR R l (A ++ B) k := fun k hk => by
  unfold rem
  by_cases e : k = l
  · subst e
    rw [updR_at, hR]
    exact filter_split (hR ▸ g.nd k hk)
  · rw [updR_ne _ _ e]
    refine filter_not_mem (fun hm => e (g.apart k l hk hl i hm (by rw [hR]; simp)))
theorem rem_none {R : Nat → List Nat} {i : Nat} (h : ∀ k, k < 4 → i ∉ R k) : ∀ k, k < 4 → rem R i k = R k := fun k hk => filter_not_mem (h k hk)
theorem not_mem_rem (R : Nat → List Nat) (i k : Nat) : i ∉ rem R i k := by simp [rem]
theorem good_rem {n : Nat} {R : Nat → List Nat} (g : Good n R) (i : Nat) : Good n (rem R i) :=
  ⟨fun l hl => (g.nd l hl).filter _, fun l hl j hj => g.lt l hl j ((List.mem_filter.1 hj).1), fun l k hl hk j h1 h2 => g.apart l k hl hk j (List.mem_filter.1 h1).1 (List.mem_filter.1 h2).1⟩
theorem good_putR {n : Nat} {R : Nat → List Nat} (g : Good n R) {i l : Nat} (hi : i < n) (hl : l < 4) : Good n (putR R i l) := by
  refine (good_put (good_rem g i) hi hl (fun k _ => not_mem_rem R i k)).congr (fun k hk => ?_)
  unfold putR updR
  rfl
/-- Where one moves to. -/
def moved (l : Nat) (by_ : Int) : Nat := (min (max ((l : Int) + by_) 0) 3).toNat
theorem moved_lt (l : Nat) (b : Int) : moved l b < 4 := by unfold moved; omega
theorem nodup_le : ∀ (n : Nat) (L : List Nat), L.Nodup → (∀ x ∈ L, x < n) → L.length ≤ n
  | 0, [], _, _ => Nat.le_refl _
  | 0, a :: L, _, h => absurd (h a (List.mem_cons_self ..)) (by omega)
  | n + 1, L, hn, h => by
    by_cases hm : n ∈ L
    · have h1 := nodup_le n (L.erase n) (hn.erase n) (fun x hx => by
        have h2 := (List.Nodup.mem_erase_iff hn).1 hx
        have := h x h2.2
        have := h2.1
        omega)
      rw [List.length_erase_of_mem hm] at h1
      omega
    · have := nodup_le n L hn (fun x hx => by
        have := h x hx
        have : x ≠ n := fun e => hm (e ▸ hx)
        omega)
      omega
theorem len_le {n : Nat} {R : Nat → List Nat} (g : Good n R) {l : Nat} (hl : l < 4) : (R l).length ≤ n := nodup_le n _ (g.nd l hl) (g.lt l hl)
/-- A level that has m at most, and the one below it. -/
def bal (R : Nat → List Nat) (l t : Nat) : Nat → List Nat := fun k => if k = l then (R l).drop t else if k + 1 = l then R k ++ (R l).take t else R k
theorem bal_zero (R : Nat → List Nat) (l : Nat) : bal R l 0 = R := by
  funext k
  unfold bal
  split
  · subst k; simp
  · split <;> simp
theorem bal_step {n : Nat} {R : Nat → List Nat} {l t : Nat} {a : Nat} {B : List Nat} (hl : l < 4) (h0 : 0 < l) (g : Good n (bal R l t)) (hB : (R l).drop t = a :: B) :
    ∀ k, k < 4 → putR (bal R l t) a (l - 1) k = bal R l (t + 1) k := fun k hk => by
  have e1 : bal R l t l = a :: B := by unfold bal; rw [if_pos rfl, hB]
  have hlen : t < (R l).length := by
    rcases Nat.lt_or_ge t (R l).length with h | h
    · exact h
    · rw [List.drop_eq_nil_of_le h] at hB; cases hB
  have ha : (R l)[t]'hlen = a := by
    have := List.drop_eq_getElem_cons hlen
    rw [hB] at this
    injection this with h1 _
    exact h1.symm
  have hrest : (R l).drop (t + 1) = B := by
    have := List.drop_eq_getElem_cons hlen
    rw [hB] at this
    injection this with _ h2
    exact h2.symm
  have htake : (R l).take (t + 1) = (R l).take t ++ [a] := by
    rw [List.take_succ_eq_append_getElem hlen, ha]
  have hr := rem_split (A := []) (B := B) g hl e1
  unfold putR
  by_cases ek : k = l - 1
  · subst ek
    rw [if_pos rfl, hr _ (by omega), updR_ne _ _ (by omega)]
    unfold bal
    rw [if_neg (by omega), if_pos (by omega), if_neg (by omega), if_pos (by omega), htake, List.append_assoc]
  · rw [if_neg ek, hr k hk]
    by_cases el : k = l
    · subst el
      rw [updR_at]
      unfold bal
      rw [if_pos rfl, hrest]
      rfl
    · rw [updR_ne _ _ el]
      unfold bal
      rw [if_neg el, if_neg (by omega), if_neg el, if_neg (by omega)]
def balAll (R : Nat → List Nat) (m : Nat) : Nat → List Nat :=
  let R3 := bal R 3 ((R 3).length - m)
  let R2 := bal R3 2 ((R3 2).length - m)
  bal R2 1 ((R2 1).length - m)
def balN (R : Nat → List Nat) (m : Nat) : Nat :=
  let R3 := bal R 3 ((R 3).length - m)
  let R2 := bal R3 2 ((R3 2).length - m)
  (R 3).length - m + ((R3 2).length - m) + ((R2 1).length - m)
end Go.Proofs.Ytadlfebpaijbhaa.Lv
