/- Rows of things, and 57 numbers that are those rows: told in plain Lean. No program is in sight. -/
import Derived.Test.YtadlfebpaijbhaaRow
namespace Go.Proofs.Ytadlfebpaijbhaa.Lv
open Go.RowKit Go.Proofs.Ytadlfebpaijbhaa.W
set_option linter.unusedVariables false
set_option linter.unusedSimpArgs false

def hd (L : List Nat) (e : Int) : Int := match L with | [] => e | a :: _ => (a : Int)
def lst (p : Int) : List Nat → Int
  | [] => p
  | a :: L => lst (a : Int) L
/-- A chain: each one's ahead and behind. -/
def Seg (ah be : Nat → Int) : Int → List Nat → Int → Prop
  | _, [], _ => True
  | p, a :: L, e => ah a = p ∧ be a = hd L e ∧ Seg ah be (a : Int) L e
theorem hd_append (A B : List Nat) (e : Int) : hd (A ++ B) e = hd A (hd B e) := by cases A <;> rfl
theorem lst_append (p : Int) : ∀ (A B : List Nat), lst p (A ++ B) = lst (lst p A) B
  | [], _ => rfl
  | a :: A, B => lst_append (a : Int) A B
theorem seg_append (ah be : Nat → Int) (e : Int) (B : List Nat) : ∀ (p : Int) (A : List Nat), Seg ah be p (A ++ B) e ↔ Seg ah be p A (hd B e) ∧ Seg ah be (lst p A) B e
  | p, [] => by simp [Seg, lst]
  | p, a :: A => by
    simp only [List.cons_append, Seg, lst, hd_append, seg_append ah be e B (a : Int) A, and_assoc]
theorem seg_congr {ah be ah' be' : Nat → Int} {e : Int} : ∀ {p : Int} {L : List Nat}, (∀ a ∈ L, ah' a = ah a ∧ be' a = be a) → Seg ah be p L e → Seg ah' be' p L e
  | _, [], _, _ => trivial
  | p, a :: L, h, ⟨h1, h2, h3⟩ => ⟨(h a (List.mem_cons_self ..)).1.trans h1, (h a (List.mem_cons_self ..)).2.trans h2, seg_congr (fun x hx => h x (List.mem_cons_of_mem _ hx)) h3⟩
theorem hd_mem {L : List Nat} (h : L ≠ []) : ∃ a, a ∈ L ∧ ∀ e, hd L e = (a : Int) := by
  cases L with
  | nil => exact absurd rfl h
  | cons a L => exact ⟨a, List.mem_cons_self .., fun _ => rfl⟩
theorem lst_snoc (p : Int) (A : List Nat) (z : Nat) : lst p (A ++ [z]) = (z : Int) := by rw [lst_append]; rfl
theorem snoc_of {L : List Nat} (h : L ≠ []) : ∃ A z, L = A ++ [z] := ⟨L.dropLast, L.getLast h, (List.dropLast_concat_getLast h).symm⟩

/-- Rows that may be. -/
structure Good (n : Nat) (R : Nat → List Nat) : Prop where
  nd : ∀ l, l < 4 → (R l).Nodup
  lt : ∀ l, l < 4 → ∀ i ∈ R l, i < n
  apart : ∀ l k, l < 4 → k < 4 → ∀ i, i ∈ R l → i ∈ R k → l = k
/-- 57 numbers are the rows. -/
structure Rep (F : Nat → Int) (n : Nat) (R : Nat → List Nat) : Prop where
  n16 : n ≤ 16
  n0 : F 0 = (n : Int)
  good : Good n R
  on : ∀ l, l < 4 → ∀ i ∈ R l, F (1 + i) = (l : Int)
  off : ∀ i, i < 16 → (∀ l, l < 4 → i ∉ R l) → F (1 + i) = -1
  first : ∀ l, l < 4 → F (49 + l) = hd (R l) (-1)
  last : ∀ l, l < 4 → F (53 + l) = lst (-1) (R l)
  seg : ∀ l, l < 4 → Seg (fun i => F (17 + i)) (fun i => F (33 + i)) (-1) (R l) (-1)
def updR (R : Nat → List Nat) (l : Nat) (L : List Nat) : Nat → List Nat := fun k => if k = l then L else R k
theorem updR_at (R : Nat → List Nat) (l : Nat) (L : List Nat) : updR R l L l = L := if_pos rfl
theorem updR_ne (R : Nat → List Nat) {l k : Nat} (L : List Nat) (h : k ≠ l) : updR R l L k = R k := if_neg h
theorem Good.congr {n : Nat} {R R' : Nat → List Nat} (h : Good n R) (e : ∀ l, l < 4 → R' l = R l) : Good n R' :=
  ⟨fun l hl => by rw [e l hl]; exact h.nd l hl, fun l hl => by rw [e l hl]; exact h.lt l hl, fun l k hl hk => by rw [e l hl, e k hk]; exact h.apart l k hl hk⟩
theorem Rep.congr {F : Nat → Int} {n : Nat} {R R' : Nat → List Nat} (h : Rep F n R) (e : ∀ l, l < 4 → R' l = R l) : Rep F n R' :=
  ⟨h.n16, h.n0, h.good.congr e, fun l hl => by rw [e l hl]; exact h.on l hl, fun i hi ho => h.off i hi (fun l hl => by rw [← e l hl]; exact ho l hl), fun l hl => by rw [e l hl]; exact h.first l hl, fun l hl => by rw [e l hl]; exact h.last l hl, fun l hl => by rw [e l hl]; exact h.seg l hl⟩

theorem good_put {n : Nat} {R : Nat → List Nat} (h : Good n R) {i l : Nat} (hi : i < n) (hl : l < 4) (ho : ∀ k, k < 4 → i ∉ R k) : Good n (updR R l (R l ++ [i])) := by
  refine ⟨fun k hk => ?_, fun k hk j hj => ?_, fun a b ha hb j hja hjb => ?_⟩
  · by_cases e : k = l
    · subst e
      rw [updR_at]
      refine List.nodup_append.2 ⟨h.nd k hk, by simp, fun a ha b hb => ?_⟩
      simp at hb
      subst hb
      rintro rfl
      exact ho k hk ha
    · rw [updR_ne _ _ e]; exact h.nd k hk
  · by_cases e : k = l
    · subst e
      rw [updR_at] at hj
      simp at hj
      rcases hj with hj | rfl
      · exact h.lt k hk j hj
      · exact hi
    · rw [updR_ne _ _ e] at hj; exact h.lt k hk j hj
  · have key : ∀ a, a < 4 → j ∈ updR R l (R l ++ [i]) a → j ∈ R a ∨ (j = i ∧ a = l) := fun a ha hj => by
      by_cases e : a = l
      · subst e
        rw [updR_at] at hj
        simp at hj
        rcases hj with hj | hj
        · exact .inl hj
        · exact .inr ⟨hj, rfl⟩
      · rw [updR_ne _ _ e] at hj; exact .inl hj
    rcases key a ha hja with h1 | ⟨h1, rfl⟩
    · rcases key b hb hjb with h2 | ⟨h2, rfl⟩
      · exact h.apart a b ha hb j h1 h2
      · subst h2; exact absurd h1 (ho a ha)
    · rcases key b hb hjb with h2 | ⟨h2, rfl⟩
      · subst h1; exact absurd h2 (ho b hb)
      · rfl
theorem good_cut {n : Nat} {R : Nat → List Nat} (h : Good n R) {i l : Nat} {A B : List Nat} (hl : l < 4) (e0 : R l = A ++ i :: B) : Good n (updR R l (A ++ B)) ∧ (∀ k, k < 4 → i ∉ updR R l (A ++ B) k) := by
  have hnd := h.nd l hl
  rw [e0] at hnd
  have hnd' : (A ++ B).Nodup ∧ i ∉ A ++ B := by
    rw [List.nodup_append] at hnd ⊢
    obtain ⟨h1, h2, h3⟩ := hnd
    rw [List.nodup_cons] at h2
    refine ⟨⟨h1, h2.2, fun a ha b hb => h3 a ha b (List.mem_cons_of_mem _ hb)⟩, fun hm => ?_⟩
    rcases List.mem_append.1 hm with hm | hm
    · exact h3 i hm i (List.mem_cons_self ..) rfl
    · exact h2.1 hm
  have hsub : ∀ k, k < 4 → ∀ j, j ∈ updR R l (A ++ B) k → j ∈ R k := fun k hk j hj => by
    by_cases e : k = l
    · subst e
      rw [updR_at] at hj
      rw [e0]
      rcases List.mem_append.1 hj with hj | hj
      · exact List.mem_append_left _ hj
      · exact List.mem_append_right _ (List.mem_cons_of_mem _ hj)
    · rwa [updR_ne _ _ e] at hj
  refine ⟨⟨fun k hk => ?_, fun k hk j hj => h.lt k hk j (hsub k hk j hj), fun a b ha hb j hja hjb => h.apart a b ha hb j (hsub a ha j hja) (hsub b hb j hjb)⟩, fun k hk hj => ?_⟩
  · by_cases e : k = l
    · subst e; rw [updR_at]; exact hnd'.1
    · rw [updR_ne _ _ e]; exact h.nd k hk
  · by_cases e : k = l
    · subst e; rw [updR_at] at hj; exact hnd'.2 hj
    · rw [updR_ne _ _ e] at hj
      exact e (h.apart k l hk hl i hj (by rw [e0]; simp))

/-- What putting a thing makes of the numbers. -/
theorem rep_put {F F' : Nat → Int} {n : Nat} {R : Nat → List Nat} (h : Rep F n R) {i l : Nat} (hi : i < n) (hl : l < 4) (ho : ∀ k, k < 4 → i ∉ R k)
    (e0 : F' 0 = F 0) (eon : ∀ j, j < 16 → F' (1 + j) = if j = i then (l : Int) else F (1 + j))
    (eah : ∀ j, j < 16 → F' (17 + j) = if j = i then lst (-1) (R l) else F (17 + j))
    (ebe : ∀ j, j < 16 → F' (33 + j) = if j = i then -1 else if (j : Int) = lst (-1) (R l) then (i : Int) else F (33 + j))
    (efi : ∀ k, k < 4 → F' (49 + k) = if k = l then hd (R l ++ [i]) (-1) else F (49 + k))
    (ela : ∀ k, k < 4 → F' (53 + k) = if k = l then (i : Int) else F (53 + k)) : Rep F' n (updR R l (R l ++ [i])) := by
  have hn := h.n16
  have lt16 : ∀ k, k < 4 → ∀ j ∈ R k, j < 16 := fun k hk j hj => by have := h.good.lt k hk j hj; omega
  refine ⟨h.n16, e0.trans h.n0, good_put h.good hi hl ho, fun k hk j hj => ?_, fun j hj hno => ?_, fun k hk => ?_, fun k hk => ?_, fun k hk => ?_⟩
  · by_cases e : k = l
    · subst e
      rw [updR_at] at hj
      simp at hj
      rcases hj with hj | rfl
      · rw [eon j (lt16 k hk j hj), if_neg (fun (e : j = i) => ho k hk (e ▸ hj))]
        exact h.on k hk j hj
      · rw [eon j (by omega), if_pos rfl]
    · rw [updR_ne _ _ e] at hj
      rw [eon j (lt16 k hk j hj), if_neg (fun (e : j = i) => ho k hk (e ▸ hj))]
      exact h.on k hk j hj
  · have hji : j ≠ i := by
      rintro rfl
      exact hno l hl (by rw [updR_at]; simp)
    rw [eon j hj, if_neg hji]
    refine h.off j hj (fun k hk hm => hno k hk ?_)
    by_cases e : k = l
    · subst e; rw [updR_at]; exact List.mem_append_left _ hm
    · rw [updR_ne _ _ e]; exact hm
  · rw [efi k hk]
    by_cases e : k = l
    · subst e; rw [if_pos rfl, updR_at]
    · rw [if_neg e, updR_ne _ _ e]; exact h.first k hk
  · rw [ela k hk]
    by_cases e : k = l
    · subst e; rw [if_pos rfl, updR_at, lst_snoc]
    · rw [if_neg e, updR_ne _ _ e]; exact h.last k hk
  · by_cases e : k = l
    · subst e
      rw [updR_at, seg_append]
      refine ⟨?_, ?_⟩
      · by_cases hnil : R k = []
        · rw [hnil]; trivial
        · obtain ⟨A, z, hA⟩ := snoc_of hnil
          have hs := h.seg k hk
          have hz : z < 16 := lt16 k hk z (by rw [hA]; simp)
          have hzi : z ≠ i := by
            rintro rfl
            exact ho k hk (by rw [hA]; simp)
          have hnd := h.good.nd k hk
          rw [hA] at hs hnd ⊢
          rw [List.nodup_append] at hnd
          rw [seg_append] at hs ⊢
          refine ⟨seg_congr (fun a ha => ?_) hs.1, ?_, ?_, trivial⟩
          · have ha' : a ∈ R k := by rw [hA]; exact List.mem_append_left _ ha
            have hai : a ≠ i := fun e => ho k hk (e ▸ ha')
            have haz : a ≠ z := fun e => hnd.2.2 a ha z (by simp) e
            refine ⟨?_, ?_⟩
            · show F' (17 + a) = F (17 + a)
              rw [eah a (lt16 k hk a ha'), if_neg hai]
            · show F' (33 + a) = F (33 + a)
              rw [ebe a (lt16 k hk a ha'), if_neg hai, hA, lst_snoc, if_neg (by omega)]
          · show F' (17 + z) = _
            rw [eah z hz, if_neg hzi]
            exact hs.2.1
          · show F' (33 + z) = _
            rw [ebe z hz, if_neg hzi, hA, lst_snoc, if_pos rfl]
            rfl
      · refine ⟨?_, ?_, trivial⟩
        · show F' (17 + i) = _
          rw [eah i (by omega), if_pos rfl]
        · show F' (33 + i) = _
          rw [ebe i (by omega), if_pos rfl]
          rfl
    · rw [updR_ne _ _ e]
      refine seg_congr (fun a ha => ?_) (h.seg k hk)
      have hai : a ≠ i := fun e => ho k hk (e ▸ ha)
      refine ⟨?_, ?_⟩
      · show F' (17 + a) = F (17 + a)
        rw [eah a (lt16 k hk a ha), if_neg hai]
      · show F' (33 + a) = F (33 + a)
        rw [ebe a (lt16 k hk a ha), if_neg hai, if_neg]
        intro e2
        by_cases hnil : R l = []
        · rw [hnil] at e2
          have e3 : (a : Int) = -1 := e2
          omega
        · obtain ⟨A, z, hA⟩ := snoc_of hnil
          rw [hA, lst_snoc] at e2
          have : a = z := by omega
          subst this
          exact e (h.good.apart k l hk hl a ha (by rw [hA]; simp))
theorem lst_mem {A : List Nat} {p : Int} (h : A ≠ []) : ∃ z, z ∈ A ∧ lst p A = (z : Int) := by
  obtain ⟨B, z, rfl⟩ := snoc_of h
  exact ⟨z, by simp, lst_snoc _ _ _⟩
/-- What taking a thing out makes of the numbers. -/
theorem rep_cut {F F' : Nat → Int} {n : Nat} {R : Nat → List Nat} (h : Rep F n R) {i l : Nat} {A B : List Nat} (hl : l < 4) (hR : R l = A ++ i :: B)
    (e0 : F' 0 = F 0) (eon : ∀ j, j < 16 → F' (1 + j) = if j = i then -1 else F (1 + j))
    (eah : ∀ j, j < 16 → j ≠ i → F' (17 + j) = if (j : Int) = hd B (-1) then lst (-1) A else F (17 + j))
    (ebe : ∀ j, j < 16 → j ≠ i → F' (33 + j) = if (j : Int) = lst (-1) A then hd B (-1) else F (33 + j))
    (efi : ∀ k, k < 4 → F' (49 + k) = if k = l then hd (A ++ B) (-1) else F (49 + k))
    (ela : ∀ k, k < 4 → F' (53 + k) = if k = l then lst (-1) (A ++ B) else F (53 + k)) : Rep F' n (updR R l (A ++ B)) := by
  have hn := h.n16
  obtain ⟨hg, hno⟩ := good_cut h.good hl hR
  have lt16 : ∀ k, k < 4 → ∀ j ∈ R k, j < 16 := fun k hk j hj => by have := h.good.lt k hk j hj; omega
  have hnd := h.good.nd l hl
  rw [hR, List.nodup_append] at hnd
  obtain ⟨hA, hiB, hAB⟩ := hnd
  rw [List.nodup_cons] at hiB
  have hmA : ∀ a, a ∈ A → a ∈ R l := fun a ha => by rw [hR]; exact List.mem_append_left _ ha
  have hmB : ∀ a, a ∈ B → a ∈ R l := fun a ha => by rw [hR]; exact List.mem_append_right _ (List.mem_cons_of_mem _ ha)
  have hmi : i ∈ R l := by rw [hR]; simp
  have hdB : ∀ a : Nat, (a : Int) = hd B (-1) → a ∈ B := fun a ha => by
    cases B with
    | nil =>
      have e3 : (a : Int) = -1 := ha
      omega
    | cons b B =>
      have e3 : (a : Int) = (b : Int) := ha
      have e4 : a = b := by omega
      rw [e4]
      exact List.mem_cons_self ..
  have hlA : ∀ a : Nat, (a : Int) = lst (-1) A → a ∈ A := fun a ha => by
    by_cases hn : A = []
    · rw [hn] at ha
      have e3 : (a : Int) = -1 := ha
      omega
    · obtain ⟨z, hz, e⟩ := lst_mem (p := -1) hn
      rw [e] at ha
      have : a = z := by omega
      exact this ▸ hz
  refine ⟨h.n16, e0.trans h.n0, hg, fun k hk j hj => ?_, fun j hj hno2 => ?_, fun k hk => ?_, fun k hk => ?_, fun k hk => ?_⟩
  · have hji : j ≠ i := by rintro rfl; exact hno k hk hj
    have hjR : j ∈ R k := by
      by_cases e : k = l
      · subst e
        rw [updR_at] at hj
        rcases List.mem_append.1 hj with hj | hj
        · exact hmA j hj
        · exact hmB j hj
      · rwa [updR_ne _ _ e] at hj
    rw [eon j (lt16 k hk j hjR), if_neg hji]
    exact h.on k hk j hjR
  · rw [eon j hj]
    by_cases hji : j = i
    · rw [if_pos hji]
    · rw [if_neg hji]
      refine h.off j hj (fun k hk hm => hno2 k hk ?_)
      by_cases e : k = l
      · subst e
        rw [updR_at]
        rw [hR] at hm
        rcases List.mem_append.1 hm with hm | hm
        · exact List.mem_append_left _ hm
        · rcases List.mem_cons.1 hm with hm | hm
          · exact absurd hm hji
          · exact List.mem_append_right _ hm
      · rw [updR_ne _ _ e]; exact hm
  · rw [efi k hk]
    by_cases e : k = l
    · subst e; rw [if_pos rfl, updR_at]
    · rw [if_neg e, updR_ne _ _ e]; exact h.first k hk
  · rw [ela k hk]
    by_cases e : k = l
    · subst e; rw [if_pos rfl, updR_at]
    · rw [if_neg e, updR_ne _ _ e]; exact h.last k hk
  · by_cases e : k = l
    · subst e
      rw [updR_at, seg_append]
      have hs := h.seg k hk
      rw [hR, seg_append] at hs
      obtain ⟨hs1, hs2, hs3, hs4⟩ := hs
      refine ⟨?_, ?_⟩
      · by_cases hn : A = []
        · rw [hn]; trivial
        · obtain ⟨A', z, rfl⟩ := snoc_of hn
          rw [seg_append] at hs1 ⊢
          rw [List.nodup_append] at hA
          have hzi : z ≠ i := hAB z (by simp) i (by simp)
          refine ⟨seg_congr (fun a ha => ?_) hs1.1, ?_, ?_, trivial⟩
          · have ha' : a ∈ A' ++ [z] := List.mem_append_left _ ha
            have hai : a ≠ i := hAB a ha' i (by simp)
            refine ⟨?_, ?_⟩
            · show F' (17 + a) = F (17 + a)
              rw [eah a (lt16 k hk a (hmA a ha')) hai, if_neg (fun e => hAB a ha' a (List.mem_cons_of_mem _ (hdB a e)) rfl)]
            · show F' (33 + a) = F (33 + a)
              rw [ebe a (lt16 k hk a (hmA a ha')) hai, lst_snoc, if_neg]
              intro e
              have : a = z := by omega
              exact hA.2.2 a ha z (by simp) this
          · show F' (17 + z) = _
            rw [eah z (lt16 k hk z (hmA z (by simp))) hzi, if_neg (fun e => hAB z (by simp) z (List.mem_cons_of_mem _ (hdB z e)) rfl)]
            exact hs1.2.1
          · show F' (33 + z) = _
            rw [ebe z (lt16 k hk z (hmA z (by simp))) hzi, lst_snoc, if_pos rfl]
            rfl
      · cases B with
        | nil => trivial
        | cons b B =>
          have hbi : b ≠ i := fun e => hiB.1 (e ▸ List.mem_cons_self ..)
          obtain ⟨hb1, hb2, hb3⟩ := hs4
          refine ⟨?_, ?_, seg_congr (fun a ha => ?_) hb3⟩
          · show F' (17 + b) = _
            rw [eah b (lt16 k hk b (hmB b (by simp))) hbi, if_pos (show (b : Int) = hd (b :: B) (-1) from rfl)]
          · show F' (33 + b) = _
            rw [ebe b (lt16 k hk b (hmB b (by simp))) hbi, if_neg (fun e => hAB b (hlA b e) b (by simp) rfl)]
            exact hb2
          · have ha' : a ∈ b :: B := List.mem_cons_of_mem _ ha
            have hai : a ≠ i := fun e => hiB.1 (e ▸ ha')
            have hab : a ≠ b := fun e => (List.nodup_cons.1 hiB.2).1 (e ▸ ha)
            refine ⟨?_, ?_⟩
            · show F' (17 + a) = F (17 + a)
              rw [eah a (lt16 k hk a (hmB a ha')) hai, if_neg (show ¬ (a : Int) = hd (b :: B) (-1) from fun e => hab (by have e3 : (a : Int) = (b : Int) := e; omega))]
            · show F' (33 + a) = F (33 + a)
              rw [ebe a (lt16 k hk a (hmB a ha')) hai, if_neg (fun e => hAB a (hlA a e) a (List.mem_cons_of_mem _ ha') rfl)]
    · rw [updR_ne _ _ e]
      refine seg_congr (fun a ha => ?_) (h.seg k hk)
      have hai : a ≠ i := by
        rintro rfl
        exact e (h.good.apart k l hk hl a ha hmi)
      refine ⟨?_, ?_⟩
      · show F' (17 + a) = F (17 + a)
        rw [eah a (lt16 k hk a ha) hai, if_neg (fun e2 => e (h.good.apart k l hk hl a ha (hmB a (hdB a e2))))]
      · show F' (33 + a) = F (33 + a)
        rw [ebe a (lt16 k hk a ha) hai, if_neg (fun e2 => e (h.good.apart k l hk hl a ha (hmA a (hlA a e2))))]
end Go.Proofs.Ytadlfebpaijbhaa.Lv
