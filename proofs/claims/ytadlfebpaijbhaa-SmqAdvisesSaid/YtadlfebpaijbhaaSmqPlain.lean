/- A policy's state and what the calls make of it, in plain words. No program is in sight. -/
import Derived.Test.YtadlfebpaijbhaaLevPlain2
namespace Go.Proofs.Ytadlfebpaijbhaa.Lv
open Go.RowKit Go.Proofs.Ytadlfebpaijbhaa.W
set_option linter.unusedVariables false
set_option linter.unusedSimpArgs false

/-- Hot rows, held rows, counts, used slots, the clock. -/
structure Sm where
  H : Nat → List Nat
  L : Nat → List Nat
  C : Nat → Nat
  U : Nat → Bool
  t : Nat
def stR' (R : Nat → List Nat) (m : Nat) : Nat → Nat → List Nat
  | 0 => R
  | j + 1 => bal (stR' R m j) (3 - j) ((stR' R m j (3 - j)).length - m)
def mv (R : Nat → List Nat) (i : Nat) (b : Int) : Nat → List Nat := putR R i (moved (wh R i) b)
def sm0 : Sm := ⟨fun _ => [], fun _ => [], fun _ => 0, fun _ => false, 0⟩
def hitC (s : Sm) (g : Nat) : Nat := 4 * g + s.t % 4
def hitS (s : Sm) (g : Nat) : Sm := { s with C := upd s.C (hitC s g) (min (s.C (hitC s g) + 1) 1048576), H := if wh s.H g < 4 then mv s.H g 0 else putR s.H g 0 }
def enterS (s : Sm) (i : Nat) : Sm := { s with L := putR s.L i 1 }
def leaveS (s : Sm) (i : Nat) : Sm := { s with L := rem s.L i, U := upd s.U i false }
def useS (s : Sm) (i : Nat) : Sm := { s with L := mv s.L i 0, U := upd s.U i true }
def cN (C : Nat → Nat) (g : Nat) : Nat := C (4 * g) + C (4 * g + 1) + C (4 * g + 2) + C (4 * g + 3)
def nC (C : Nat → Nat) (g : Nat) : Nat → Int := fun q => (C (4 * g + q) : Int)
/-- Has it a beat? -/
def beats (n : Nat → Int) : Bool := !(n 0 == n 2 && n 1 == n 3 && n 0 == n 1)
def grp (H : Nat → List Nat) (C : Nat → Nat) (g : Nat) : Nat → List Nat :=
  if wh H g = 4 then H
  else if cN C g = 0 then (if wh H g = 0 then rem H g else mv H g (-1))
  else if cN C g < 3 then H
  else if 4 ≤ cN C g ∧ beats (nC C g) = true then mv (mv H g 1) g 1 else mv H g 1
def grps (H : Nat → List Nat) (C : Nat → Nat) : Nat → Nat → List Nat
  | 0 => H
  | g + 1 => grp (grps H C g) C g
def slt (L : Nat → List Nat) (U : Nat → Bool) (s : Nat) : Nat → List Nat := if wh L s = 4 then L else mv L s (if U s then 1 else -1)
def slts (L : Nat → List Nat) (U : Nat → Bool) : Nat → Nat → List Nat
  | 0 => L
  | s + 1 => slt (slts L U s) U s
def endS (s : Sm) : Sm := ⟨stR' (grps s.H s.C 16) 4 3, stR' (slts s.L s.U 8) 2 3, fun _ => 0, fun _ => false, s.t⟩
def tickS (s : Sm) : Sm := if (s.t + 1) % 8 = 0 then endS { s with t := s.t + 1 } else { s with t := s.t + 1 }
/-- What holds of every state that the calls make. -/
structure Ok (s : Sm) : Prop where
  h : Good 16 s.H
  l : Good 8 s.L
  c : ∀ c, s.C c ≤ 1048576
theorem good_mv {n : Nat} {R : Nat → List Nat} (g : Good n R) {i : Nat} (hi : i < n) (b : Int) : Good n (mv R i b) := good_putR g hi (moved_lt _ _)
theorem wh_putR {n : Nat} {R : Nat → List Nat} (g : Good n R) {i l : Nat} (hi : i < n) (hl : l < 4) : wh (putR R i l) i = l :=
  wh_eq (good_putR g hi hl) hl (by unfold putR; rw [if_pos rfl]; simp)
theorem wh_mv {n : Nat} {R : Nat → List Nat} (g : Good n R) {i : Nat} (hi : i < n) (b : Int) : wh (mv R i b) i = moved (wh R i) b := wh_putR g hi (moved_lt _ _)
theorem wh_lt {R : Nat → List Nat} {i : Nat} (h : wh R i ≠ 4) : wh R i < 4 := by
  have := wh_le R i
  omega
theorem good_grp {H : Nat → List Nat} (C : Nat → Nat) (h : Good 16 H) {g : Nat} (hg : g < 16) : Good 16 (grp H C g) := by
  unfold grp
  split
  · exact h
  · split
    · split
      · exact good_rem h g
      · exact good_mv h hg _
    · split
      · exact h
      · split
        · exact good_mv (good_mv h hg _) hg _
        · exact good_mv h hg _
theorem good_grps {H : Nat → List Nat} (C : Nat → Nat) (h : Good 16 H) : ∀ g, g ≤ 16 → Good 16 (grps H C g)
  | 0, _ => h
  | g + 1, hg => good_grp C (good_grps C h g (by omega)) (by omega)
theorem good_slt {L : Nat → List Nat} (U : Nat → Bool) (h : Good 8 L) {s : Nat} (hs : s < 8) : Good 8 (slt L U s) := by
  unfold slt
  split
  · exact h
  · exact good_mv h hs _
theorem good_slts {L : Nat → List Nat} (U : Nat → Bool) (h : Good 8 L) : ∀ s, s ≤ 8 → Good 8 (slts L U s)
  | 0, _ => h
  | s + 1, hs => good_slt U (good_slts U h s (by omega)) (by omega)
theorem ok_hit {s : Sm} (h : Ok s) {g : Nat} (hg : g < 16) : Ok (hitS s g) := by
  refine ⟨?_, h.l, fun c => ?_⟩
  · show Good 16 (if wh s.H g < 4 then mv s.H g 0 else putR s.H g 0)
    split
    · exact good_mv h.h hg 0
    · exact good_putR h.h hg (by omega)
  · show upd s.C (hitC s g) _ c ≤ _
    unfold upd
    split
    · exact Nat.min_le_right _ _
    · exact h.c c
theorem ok_enter {s : Sm} (h : Ok s) {i : Nat} (hi : i < 8) : Ok (enterS s i) := ⟨h.h, good_putR h.l hi (by omega), h.c⟩
theorem ok_leave {s : Sm} (h : Ok s) (i : Nat) : Ok (leaveS s i) := ⟨h.h, good_rem h.l i, h.c⟩
theorem ok_use {s : Sm} (h : Ok s) {i : Nat} (hi : i < 8) : Ok (useS s i) := ⟨h.h, good_mv h.l hi 0, h.c⟩
end Go.Proofs.Ytadlfebpaijbhaa.Lv
