/- What the law's own policy comes to. No program is in sight. -/
import Derived.Test.YtadlfebpaijbhaaSmqWts
namespace Go.Proofs.Ytadlfebpaijbhaa.Lv
open Go.RowKit Go.Proofs.Ytadlfebpaijbhaa.W Go.Proofs.Ytadlfebpaijbhaa.Dice
set_option linter.unusedVariables false
set_option linter.unusedSimpArgs false

/-- One thing, in one row. -/
def E1 (i l : Nat) : Nat → List Nat := fun k => if k = l then [i] else []
theorem wh_E1 (i l : Nat) (hl : l < 4) : wh (E1 i l) i = l := by
  have : l = 0 ∨ l = 1 ∨ l = 2 ∨ l = 3 := by omega
  rcases this with rfl | rfl | rfl | rfl <;> simp [wh, E1]
theorem wh_E1' (i l j : Nat) (h : j ≠ i) : wh (E1 i l) j = 4 := by
  have hm : ∀ k, j ∉ E1 i l k := fun k hk => by
    unfold E1 at hk
    split at hk
    · simp at hk
      exact h hk
    · cases hk
  unfold wh
  rw [if_neg (hm 0), if_neg (hm 1), if_neg (hm 2), if_neg (hm 3)]
theorem rem_E1 (i l : Nat) : ∀ k, rem (E1 i l) i k = [] := fun k => by
  unfold rem E1
  split <;> simp
theorem putR_E1 (i l m : Nat) : putR (E1 i l) i m = E1 i m := by
  funext k
  unfold putR
  rw [rem_E1, rem_E1]
  rfl
theorem putR_nil (i m : Nat) : putR (fun _ => []) i m = E1 i m := by
  funext k
  unfold putR rem E1
  split <;> rfl
theorem mv_E1 (i l : Nat) (b : Int) (hl : l < 4) : mv (E1 i l) i b = E1 i (moved l b) := by
  unfold mv
  rw [wh_E1 i l hl, putR_E1]
def hitN : Nat → Sm → Nat → Sm
  | 0, s, _ => s
  | n + 1, s, g => hitS (hitN n s g) g
def tickN : Nat → Sm → Sm
  | 0, s => s
  | n + 1, s => tickS (tickN n s)
/-- The counts behind n hits. -/
def C3 (n : Nat) : Nat → Nat := fun c => if c = 12 then n else 0
theorem hit3 (n : Nat) (h1 : n < 4) : hitN (n + 1) sm0 3 = ⟨E1 3 0, fun _ => [], C3 (n + 1), fun _ => false, 0⟩ := by
  induction n with
  | zero =>
    show hitS sm0 3 = _
    unfold hitS
    have e : hitC sm0 3 = 12 := rfl
    rw [e]
    have hw : ¬ wh sm0.H 3 < 4 := by decide
    rw [if_neg hw]
    have e1 : putR sm0.H 3 0 = E1 3 0 := putR_nil 3 0
    rw [e1]
    congr 1
  | succ n ih =>
    show hitS (hitN (n + 1) sm0 3) 3 = _
    rw [ih (by omega)]
    unfold hitS
    have e : hitC ⟨E1 3 0, fun _ => [], C3 (n + 1), fun _ => false, 0⟩ 3 = 12 := rfl
    rw [e]
    show (⟨if wh (E1 3 0) 3 < 4 then mv (E1 3 0) 3 0 else putR (E1 3 0) 3 0, _, upd (C3 (n + 1)) 12 (min (C3 (n + 1) 12 + 1) 1048576), _, _⟩ : Sm) = _
    rw [wh_E1 3 0 (by omega), if_pos (by omega), mv_E1 3 0 0 (by omega)]
    have e2 : upd (C3 (n + 1)) 12 (min (C3 (n + 1) 12 + 1) 1048576) = C3 (n + 1 + 1) := by
      funext c
      unfold upd C3
      by_cases hc : c = 12
      · rw [if_pos hc, if_pos hc, if_pos rfl]
        omega
      · rw [if_neg hc, if_neg hc, if_neg hc]
    rw [e2]
    rfl
theorem tick7 (s : Sm) (h : s.t = 0) : ∀ n, n < 8 → tickN n s = { s with t := n }
  | 0, _ => by show s = _; cases s; simp at h; subst h; rfl
  | n + 1, hn => by
    show tickS (tickN n s) = _
    rw [tick7 s h n (by omega)]
    unfold tickS
    rw [if_neg (show ¬ (n + 1) % 8 = 0 by omega)]
theorem grps_low (C : Nat → Nat) (i l : Nat) : ∀ g, g ≤ i → grps (E1 i l) C g = E1 i l
  | 0, _ => rfl
  | g + 1, h => by
    show grp (grps (E1 i l) C g) C g = _
    rw [grps_low C i l g (by omega)]
    unfold grp
    rw [if_pos (wh_E1' i l g (by omega))]
theorem grps_high (C : Nat → Nat) (i l m : Nat) (R : Nat → List Nat) (h : grps R C (i + 1) = E1 i m) : ∀ k, grps R C (i + 1 + k) = E1 i m
  | 0 => h
  | k + 1 => by
    show grp (grps R C (i + 1 + k)) C (i + 1 + k) = _
    rw [grps_high C i l m R h k]
    unfold grp
    rw [if_pos (wh_E1' i m (i + 1 + k) (by omega))]
theorem grp3 : grp (E1 3 0) (C3 4) 3 = E1 3 2 := by
  unfold grp
  rw [wh_E1 3 0 (by omega), if_neg (by omega), if_neg (by decide), if_neg (by decide), if_pos (by decide), mv_E1 3 0 1 (by omega), mv_E1 3 _ 1 (by decide)]
  rfl
theorem bal_le (R : Nat → List Nat) (l m : Nat) (h : (R l).length ≤ m) : bal R l ((R l).length - m) = R := by
  rw [show (R l).length - m = 0 by omega, bal_zero]
theorem stR_le (R : Nat → List Nat) (m : Nat) (h : ∀ l, (R l).length ≤ m) : ∀ j, stR' R m j = R
  | 0 => rfl
  | j + 1 => by
    show bal (stR' R m j) (3 - j) ((stR' R m j (3 - j)).length - m) = R
    rw [stR_le R m h j, bal_le R _ _ (h _)]
theorem awake_H : (tickN 8 (hitN 4 sm0 3)).H = E1 3 2 ∧ (tickN 8 (hitN 4 sm0 3)).t = 8 := by
  show (tickS (tickN 7 (hitN 4 sm0 3))).H = _ ∧ (tickS (tickN 7 (hitN 4 sm0 3))).t = 8
  rw [hit3 3 (by omega), tick7 _ rfl 7 (by omega)]
  unfold tickS
  rw [if_pos (by decide)]
  refine ⟨?_, rfl⟩
  show stR' (grps (E1 3 0) (C3 4) 16) 4 3 = E1 3 2
  have h1 : grps (E1 3 0) (C3 4) (3 + 1) = E1 3 2 := by
    show grp (grps (E1 3 0) (C3 4) 3) (C3 4) 3 = _
    rw [grps_low (C3 4) 3 0 3 (by omega), grp3]
  rw [show grps (E1 3 0) (C3 4) 16 = E1 3 2 from grps_high (C3 4) 3 0 2 (E1 3 0) h1 12]
  exact stR_le _ 4 (fun l => by unfold E1; split <;> simp) 3
theorem awake_wts : wts (E1 3 2) (fun _ => false) 16 = [0, 0, 0, 4, 0, 0, 0, 0, 0, 0, 0, 0, 0, 0, 0, 0] := by decide
theorem awake_pro : proG (wts (E1 3 2) (fun _ => false) 16) 5 = 3 ∧ proB (wts (E1 3 2) (fun _ => false) 16) 5 = true := by
  rw [awake_wts]
  exact ⟨by decide, by decide⟩
end Go.Proofs.Ytadlfebpaijbhaa.Lv
