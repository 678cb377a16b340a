/- What a tally counts: plain functions. No program is in sight. -/
import Derived.Test.YtmkhicaaemghiaaSlices
import Derived.Test.YtmkhicaaemghiaaRow
import Derived.Test.YtmkhicaaemghiaaFloat
namespace Go.Proofs.Ytmkhicaaemghiaa.Ta
open Go.RowKit Go.Proofs.Ytmkhicaaemghiaa.W Go.Proofs.Ytmkhicaaemghiaa.Fl
set_option linter.unusedVariables false
set_option linter.unusedSimpArgs false

def slotK (k : Int) : Nat := if 0 ≤ k ∧ k < 24 then k.toNat else 0
def slotE (e : Int) : Nat := if 0 ≤ e ∧ e < 31 then e.toNat else 31
theorem slotK_lt (k : Int) : slotK k < 24 := by unfold slotK; split <;> omega
theorem slotE_lt (e : Int) : slotE e < 32 := by unfold slotE; split <;> omega
/-- How many of the first n are in a slot. -/
def cnt (s : Nat → Nat) : Nat → Nat → Nat
  | 0, _ => 0
  | n + 1, c => cnt s n c + (if s n = c then 1 else 0)
theorem cnt_le (s : Nat → Nat) (c : Nat) : ∀ n, cnt s n c ≤ n
  | 0 => Nat.le_refl _
  | n + 1 => by
    have := cnt_le s c n
    unfold cnt
    split <;> omega
def reads (K E : Nat → Int) (i : Nat) : Bool := decide (K i = 1) && decide (E i = 0)
def byts (K E : Nat → Int) (Ln : Nat → Nat) : Nat → Int
  | 0 => 0
  | n + 1 => if reads K E n then wrap64 (byts K E Ln n + (Ln n : Int)) else byts K E Ln n
def qre (i : Nat) : Int := if i % 4 = 0 then 1 else if i % 4 = 2 then -1 else 0
def qim (i : Nat) : Int := if i % 4 = 1 then 1 else if i % 4 = 3 then -1 else 0
def beatR (K E : Nat → Int) : Nat → Int
  | 0 => 0
  | n + 1 => if reads K E n then beatR K E n + qre n else beatR K E n
def beatI (K E : Nat → Int) : Nat → Int
  | 0 => 0
  | n + 1 => if reads K E n then beatI K E n + qim n else beatI K E n
theorem beatR_le (K E : Nat → Int) : ∀ n : Nat, -(n : Int) ≤ beatR K E n ∧ beatR K E n ≤ n
  | 0 => ⟨Int.le_refl _, Int.le_refl _⟩
  | n + 1 => by
    have := beatR_le K E n
    unfold beatR qre
    split <;> (try split) <;> (try split) <;> omega
theorem beatI_le (K E : Nat → Int) : ∀ n : Nat, -(n : Int) ≤ beatI K E n ∧ beatI K E n ≤ n
  | 0 => ⟨Int.le_refl _, Int.le_refl _⟩
  | n + 1 => by
    have := beatI_le K E n
    unfold beatI qim
    split <;> (try split) <;> (try split) <;> omega
/-- The cells of a tally. -/
def tcell (as es : Nat → Int) (by_ : Int) (br bi : Nat) : Nat → Value := fun c =>
  if c < 24 then .int .i64 (as c) else if c < 56 then .int .i64 (es (c - 24)) else if c = 56 then .int .i64 by_ else .complex .f64 br bi
theorem tcell_act (as es : Nat → Int) (by_ : Int) (br bi : Nat) {c : Nat} (h : c < 24) : tcell as es by_ br bi c = .int .i64 (as c) := by simp [tcell, h]
theorem tcell_err (as es : Nat → Int) (by_ : Int) (br bi : Nat) {c : Nat} (h : c < 32) : tcell as es by_ br bi (24 + c) = .int .i64 (es c) := by
  unfold tcell
  rw [if_neg (by omega), if_pos (by omega), Nat.add_sub_cancel_left]
theorem tcell_bytes (as es : Nat → Int) (by_ : Int) (br bi : Nat) : tcell as es by_ br bi 56 = .int .i64 by_ := by simp [tcell]
theorem tcell_beat (as es : Nat → Int) (by_ : Int) (br bi : Nat) : tcell as es by_ br bi 57 = .complex .f64 br bi := by simp [tcell]
theorem upd_act (as es : Nat → Int) (by_ : Int) (br bi : Nat) {c : Nat} (h : c < 24) (x : Int) : upd (tcell as es by_ br bi) c (.int .i64 x) = tcell (upd as c x) es by_ br bi := by
  funext j
  unfold upd tcell
  by_cases hj : j = c
  · subst hj; simp [h]
  · simp [hj]
theorem upd_err (as es : Nat → Int) (by_ : Int) (br bi : Nat) {c : Nat} (h : c < 32) (x : Int) : upd (tcell as es by_ br bi) (24 + c) (.int .i64 x) = tcell as (upd es c x) by_ br bi := by
  funext j
  unfold upd tcell
  by_cases hj : j = 24 + c
  · subst hj
    rw [if_pos rfl, if_neg (by omega), if_pos (by omega)]
    show _ = Value.int .i64 (if 24 + c - 24 = c then x else _)
    rw [if_pos (by omega)]
  · rw [if_neg hj]
    by_cases h1 : j < 24
    · rw [if_pos h1, if_pos h1]
    · rw [if_neg h1, if_neg h1]
      by_cases h2 : j < 56
      · rw [if_pos h2, if_pos h2]
        show _ = Value.int .i64 (if j - 24 = c then x else _)
        rw [if_neg (by omega)]
      · rw [if_neg h2, if_neg h2]
theorem upd_bytes (as es : Nat → Int) (by_ : Int) (br bi : Nat) (x : Int) : upd (tcell as es by_ br bi) 56 (.int .i64 x) = tcell as es x br bi := by
  funext j
  unfold upd tcell
  by_cases hj : j = 56
  · subst hj; simp
  · simp [hj]
theorem upd_beat (as es : Nat → Int) (by_ : Int) (br bi r s : Nat) {c : Nat} (h : c < 58) : upd (tcell as es by_ br bi) 57 (.complex .f64 r s) c = tcell as es by_ r s c := by
  unfold upd tcell
  by_cases hc : c = 57
  · subst hc; rfl
  · rw [if_neg hc]
    by_cases h1 : c < 24
    · rw [if_pos h1, if_pos h1]
    · rw [if_neg h1, if_neg h1]
      by_cases h2 : c < 56
      · rw [if_pos h2, if_pos h2]
      · rw [if_neg h2, if_neg h2, if_pos (by omega), if_pos (by omega)]
theorem cnt_step (s : Nat → Nat) (i x : Nat) (h : cnt s i (s i) = x) : upd (fun c => (cnt s i c : Int)) (s i) ((x : Int) + 1) = fun c => (cnt s (i + 1) c : Int) := by
  funext c
  unfold upd
  by_cases hc : c = s i
  · subst hc
    rw [if_pos rfl, cnt, if_pos rfl, h]
    rfl
  · rw [if_neg hc, cnt, if_neg (fun e => hc e.symm)]
    rfl
end Go.Proofs.Ytmkhicaaemghiaa.Ta
