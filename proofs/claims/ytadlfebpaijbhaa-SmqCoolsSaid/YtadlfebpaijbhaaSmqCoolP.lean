/- What is not asked for leaves: told in plain Lean. No program is in sight. -/
import Derived.Test.YtadlfebpaijbhaaSmqAwakeP
namespace Go.Proofs.Ytadlfebpaijbhaa.Lv
open Go.RowKit Go.Proofs.Ytadlfebpaijbhaa.W Go.Proofs.Ytadlfebpaijbhaa.Dice
set_option linter.unusedVariables false
set_option linter.unusedSimpArgs false

theorem mem_rem (R : Nat → List Nat) (g i k : Nat) : i ∈ rem R g k ↔ i ∈ R k ∧ i ≠ g := by
  unfold rem
  rw [List.mem_filter]
  simp
theorem mem_putR (R : Nat → List Nat) (g l i k : Nat) : i ∈ putR R g l k ↔ (k = l ∧ i = g) ∨ (i ∈ R k ∧ i ≠ g) := by
  unfold putR
  by_cases h : k = l
  · rw [if_pos h, List.mem_append, mem_rem, h]
    simp
    constructor
    · rintro (h | h)
      · exact .inr h
      · exact .inl h
    · rintro (h | h)
      · exact .inr h
      · exact .inl h
  · rw [if_neg h, mem_rem]
    constructor
    · exact .inr
    · rintro (h1 | h1)
      · exact absurd h1.1 h
      · exact h1
theorem wh_same {R R' : Nat → List Nat} {i : Nat} (h : ∀ k, i ∈ R' k ↔ i ∈ R k) : wh R' i = wh R i := by
  unfold wh
  simp only [h]
theorem wh_put_ne (R : Nat → List Nat) (g l i : Nat) (h : i ≠ g) : wh (putR R g l) i = wh R i := wh_same (fun k => by rw [mem_putR]; simp [h])
theorem wh_rem_ne (R : Nat → List Nat) (g i : Nat) (h : i ≠ g) : wh (rem R g) i = wh R i := wh_same (fun k => by rw [mem_rem]; simp [h])
theorem wh_rem_eq (R : Nat → List Nat) (g : Nat) : wh (rem R g) g = 4 := by
  have h : ∀ k, g ∉ rem R g k := fun k hk => ((mem_rem R g g k).1 hk).2 rfl
  unfold wh
  rw [if_neg (h 0), if_neg (h 1), if_neg (h 2), if_neg (h 3)]
theorem wh_put_eq (R : Nat → List Nat) (g l : Nat) (hl : l < 4) : wh (putR R g l) g = l := by
  have hm : ∀ k, g ∈ putR R g l k ↔ k = l := fun k => by rw [mem_putR]; simp
  have : l = 0 ∨ l = 1 ∨ l = 2 ∨ l = 3 := by omega
  unfold wh
  simp only [hm]
  rcases this with rfl | rfl | rfl | rfl <;> simp
theorem wh_le_mem {R : Nat → List Nat} {i k : Nat} (hk : k < 4) (h : i ∈ R k) : wh R i ≤ k := by
  have : k = 0 ∨ k = 1 ∨ k = 2 ∨ k = 3 := by omega
  unfold wh
  rcases this with rfl | rfl | rfl | rfl
  all_goals
    simp only [h, if_true]
    (repeat' split) <;> omega
theorem wh_four {R : Nat → List Nat} {i : Nat} (h : ∀ k, k < 4 → i ∉ R k) : wh R i = 4 := by
  unfold wh
  rw [if_neg (h 0 (by omega)), if_neg (h 1 (by omega)), if_neg (h 2 (by omega)), if_neg (h 3 (by omega))]
theorem not_mem_four {R : Nat → List Nat} {i : Nat} (h : wh R i = 4) : ∀ k, k < 4 → i ∉ R k := fun k hk hm => by
  have := wh_le_mem hk hm
  omega
/-- All levels lie below m. -/
def Low (m : Nat) (R : Nat → List Nat) : Prop := ∀ i, i < 16 → wh R i = 4 ∨ wh R i < m
theorem low_bal {m : Nat} {R : Nat → List Nat} (h : Low m R) (l t : Nat) (h1 : 1 ≤ l) (h4 : l < 4) : Low m (bal R l t) := fun i hi => by
  rcases h i hi with hw | hw
  · left
    refine wh_four (fun k hk hm => ?_)
    have hn := not_mem_four hw
    unfold bal at hm
    split at hm
    · exact hn l h4 (List.mem_of_mem_drop hm)
    · split at hm
      · rcases List.mem_append.1 hm with hm | hm
        · exact hn k hk hm
        · exact hn l h4 (List.mem_of_mem_take hm)
      · exact hn k hk hm
  · by_cases h3 : wh R i = 4
    · left
      refine wh_four (fun k hk hm => ?_)
      have hn := not_mem_four h3
      unfold bal at hm
      split at hm
      · exact hn l h4 (List.mem_of_mem_drop hm)
      · split at hm
        · rcases List.mem_append.1 hm with hm | hm
          · exact hn k hk hm
          · exact hn l h4 (List.mem_of_mem_take hm)
        · exact hn k hk hm
    · right
      have hlt := wh_lt h3
      have hm := wh_mem hlt
      obtain ⟨j, hj⟩ : ∃ j, wh R i = j := ⟨_, rfl⟩
      rw [hj] at hm hlt hw
      suffices hs : ∃ j', j' ≤ j ∧ i ∈ bal R l t j' by
        obtain ⟨j', h5, h6⟩ := hs
        have := wh_le_mem (by omega : j' < 4) h6
        omega
      by_cases hjl : j = l
      · subst hjl
        rw [← List.take_append_drop t (R j)] at hm
        rcases List.mem_append.1 hm with hm | hm
        · refine ⟨j - 1, by omega, ?_⟩
          unfold bal
          rw [if_neg (by omega), if_pos (by omega)]
          exact List.mem_append_right _ hm
        · refine ⟨j, Nat.le_refl _, ?_⟩
          unfold bal
          rw [if_pos rfl]
          exact hm
      · refine ⟨j, Nat.le_refl _, ?_⟩
        unfold bal
        rw [if_neg hjl]
        split
        · exact List.mem_append_left _ hm
        · exact hm
theorem low_st {m : Nat} {R : Nat → List Nat} (h : Low m R) (M : Nat) : ∀ j, j ≤ 3 → Low m (stR' R M j)
  | 0, _ => h
  | j + 1, hj => low_bal (low_st h M j (by omega)) (3 - j) _ (by omega) (by omega)
theorem grps_cool (H : Nat → List Nat) : ∀ g, ∀ i, (i < g → wh (grps H (fun _ => 0) g) i = 4 ∨ (wh (grps H (fun _ => 0) g) i + 1 = wh H i ∧ wh H i < 4)) ∧ (g ≤ i → wh (grps H (fun _ => 0) g) i = wh H i)
  | 0, i => ⟨fun h => absurd h (by omega), fun _ => rfl⟩
  | g + 1, i => by
    have ih := grps_cool H g
    show (i < g + 1 → wh (grp (grps H (fun _ => 0) g) (fun _ => 0) g) i = 4 ∨ _) ∧ _
    obtain ⟨R, hR⟩ : ∃ R, grps H (fun _ => 0) g = R := ⟨_, rfl⟩
    have hgr : grps H (fun _ => 0) (g + 1) = grp R (fun _ => 0) g := by rw [← hR]; rfl
    rw [hgr]
    rw [hR] at ih ⊢
    have hg := (ih g).2 (Nat.le_refl _)
    have hother : i ≠ g → wh (grp R (fun _ => 0) g) i = wh R i := fun hne => by
      unfold grp
      split
      · rfl
      · rw [if_pos (show cN (fun _ => 0) g = 0 from rfl)]
        split
        · exact wh_rem_ne R g i hne
        · exact wh_put_ne R g _ i hne
    refine ⟨fun h => ?_, fun h => ?_⟩
    · by_cases hne : i = g
      · subst hne
        unfold grp
        by_cases h4 : wh R i = 4
        · rw [if_pos h4]
          exact .inl h4
        · rw [if_neg h4, if_pos (show cN (fun _ => 0) i = 0 from rfl)]
          by_cases h0 : wh R i = 0
          · rw [if_pos h0]
            exact .inl (wh_rem_eq R i)
          · rw [if_neg h0]
            right
            have hlt := wh_lt h4
            unfold mv
            rw [wh_put_eq R i _ (moved_lt _ _), ← hg]
            unfold moved
            omega
      · rw [hother hne]
        exact (ih i).1 (by omega)
    · rw [hother (by omega)]
      exact (ih i).2 (by omega)
theorem low_grps {m : Nat} {H : Nat → List Nat} (h : Low (m + 1) H) : Low m (grps H (fun _ => 0) 16) := fun i hi => by
  rcases (grps_cool H 16 i).1 hi with h1 | ⟨h1, h2⟩
  · exact .inl h1
  · rcases h i hi with h3 | h3
    · omega
    · right
      omega
theorem low_four (R : Nat → List Nat) : Low 4 R := fun i _ => by
  have := wh_le R i
  omega
theorem low_mono {m m' : Nat} {R : Nat → List Nat} (h : Low m R) (hm : m ≤ m') : Low m' R := fun i hi => by
  rcases h i hi with h | h
  · exact .inl h
  · exact .inr (by omega)
theorem tickN_t' (s : Sm) : ∀ n, (tickN n s).t = s.t + n
  | 0 => rfl
  | n + 1 => by
    show (tickS (tickN n s)).t = _
    have := tickN_t' s n
    unfold tickS
    split
    · show (tickN n s).t + 1 = _
      omega
    · show (tickN n s).t + 1 = _
      omega
theorem cool (s : Sm) : ∀ n, 1 ≤ (s.t + n) / 8 - s.t / 8 → (tickN n s).C = (fun _ => 0) ∧ Low (5 - ((s.t + n) / 8 - s.t / 8)) (tickN n s).H
  | 0, h => absurd h (by omega)
  | n + 1, h => by
    show (tickS (tickN n s)).C = _ ∧ Low _ (tickS (tickN n s)).H
    have ht := tickN_t' s n
    unfold tickS
    rw [ht]
    by_cases he : (s.t + n + 1) % 8 = 0
    · rw [if_pos he]
      refine ⟨rfl, ?_⟩
      show Low _ (stR' (grps (tickN n s).H (tickN n s).C 16) 4 3)
      refine low_st ?_ 4 3 (Nat.le_refl _)
      by_cases hq : 1 ≤ (s.t + n) / 8 - s.t / 8
      · obtain ⟨h1, h2⟩ := cool s n hq
        rw [h1]
        exact low_grps (low_mono h2 (by omega))
      · exact low_mono (low_four _) (by omega)
    · rw [if_neg he]
      have hq : (s.t + (n + 1)) / 8 = (s.t + n) / 8 := by omega
      rw [hq] at h ⊢
      exact cool s n h
theorem cold (s : Sm) (i : Nat) (hi : i < 16) : wh (tickN 48 s).H i = 4 := by
  have h := (cool s 48 (by omega)).2
  have : 5 - ((s.t + 48) / 8 - s.t / 8) = 0 := by omega
  rw [this] at h
  rcases h i hi with h | h
  · exact h
  · omega
theorem isum_snoc : ∀ (L : List Int) (x : Int), isum (L ++ [x]) = isum L + x
  | [], x => by simp [isum]
  | y :: L, x => by
    simp only [List.cons_append, isum, isum_snoc L x]
    omega
theorem cold_wts (R : Nat → List Nat) (C : Nat → Bool) (h : ∀ i, i < 16 → wh R i = 4) : ∀ i, i ≤ 16 → isum (wts R C i) = 0
  | 0, _ => rfl
  | i + 1, hi => by
    show isum (wts R C i ++ [wt R C i]) = 0
    rw [isum_snoc, cold_wts R C h i (by omega)]
    have h4 : ¬ wh R i < 4 := by
      have := h i (by omega)
      omega
    unfold wt hl
    rw [if_neg h4]
    split <;> rfl
theorem cold_pro (s : Sm) (C : Nat → Bool) (d : Int) : proB (wts (tickN 48 s).H C 16) d = false := by
  unfold proB
  rw [cold_wts _ C (cold s) 16 (Nat.le_refl _)]
  simp
theorem cold_heat (s : Sm) (i : Nat) (hi : i < 16) : heatV 16 (tickN 48 s).H (i : Int) = .tuple #[.int .i64 0, .bool false] := by
  unfold heatV
  rw [Int.toNat_natCast, cold s i hi, if_neg (by omega)]
end Go.Proofs.Ytadlfebpaijbhaa.Lv
