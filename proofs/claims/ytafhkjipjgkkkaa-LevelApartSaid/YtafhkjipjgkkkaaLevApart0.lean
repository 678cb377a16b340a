/- The law that a copy goes its own way, and that a nil queue has nothing in it: walked. -/
import Derived.Test.YtafhkjipjgkkkaaLevBal
import Derived.Test.YtafhkjipjgkkkaaLevNil
namespace Go.Proofs.Ytafhkjipjgkkkaa.Lv
open Go.RowKit Go.Proofs.Ytafhkjipjgkkkaa.W
set_option linter.unusedVariables false
set_option linter.unusedSimpArgs false

structure ApAt (w : World) (gq gx ga n : Nat) (R : Nat → List Nat) (Ka Ia Na : Int) (wr : World) : Prop where
  law : LawAt w gq gx n R wr
  a : Blk wr ga 35 #[.int .i64 Ka, .int .i64 Ia, .int .i64 Na]
theorem ApAt.later {w wr wx : World} {gq gx ga n : Nat} {R : Nat → List Nat} {Ka Ia Na : Int} (h : ApAt w gq gx ga n R Ka Ia Na wr) (hb : Below wr.heap.size wr wx) : ApAt w gq gx ga n R Ka Ia Na wx := ⟨h.law.later hb, W.later hb h.a⟩
def Ap1 (w : World) (gq gx ga n M len : Nat) (Ka Ia Na : Int) (k : Nat) (s : Value) (wr : World) : Prop := ∃ (i : Nat) (R : Nat → List Nat), s = .int .i64 (i : Int) ∧ i + k = M ∧ i ≤ len ∧ ApAt w gq gx ga n R Ka Ia Na wr
def Ap2 (w : World) (gq gx ga gc n M len : Nat) (R : Nat → List Nat) (Ka Ia Na : Int) (k : Nat) (s : Value) (wr : World) : Prop := ∃ (i : Nat) (Rc : Nat → List Nat), s = .int .i64 (i : Int) ∧ i + k = M ∧ i ≤ len ∧ ApAt w gq gx ga n R Ka Ia Na wr ∧ QAt wr gc n Rc
theorem ApAt.do1 {w wr w' : World} {gq gx ga n : Nat} {R : Nat → List Nat} {Ka Ia Na K I N : Int} {e : Ending} (h : ApAt w gq gx ga n R Ka Ia Na wr) (hd : DoE gq gx n K I N R R wr e w') : e = .returned (.bool true) ∧ ApAt w gq gx ga n (stepR n R K I N) Ka Ia Na w' := by
  obtain ⟨h1, h2⟩ := hd.law h.law
  obtain ⟨b, _, _, _, _, hc⟩ := hd
  obtain ⟨cs, hb⟩ := h.law.q.blk
  obtain ⟨cs', hb'⟩ := h.law.x.blk
  exact ⟨h1, h2, h.a.chg hc (fun e => by
    rcases e with e | e
    · exact (Blk.ne_ hb h.a (by decide)) e.symm
    · exact (Blk.ne_ hb' h.a (by decide)) e.symm)⟩
/-- A call of the copy, and of a reference of its own. -/
theorem ApAt.do2 {w wr w' : World} {gq gx ga gc gy n : Nat} {R Rc Ry : Nat → List Nat} {Ka Ia Na K I N : Int} {e : Ending} (h : ApAt w gq gx ga n R Ka Ia Na wr) (hc0 : QAt wr gc n Rc) (hy : RefAt wr gy Ry) (hqc : gq ≠ gc) (hxy : gx ≠ gy) (hcw : w.heap.size ≤ gc) (hyw : w.heap.size ≤ gy) (hd : DoE gc gy n K I N Rc Ry wr e w') :
    ∃ b, e = .returned (.bool b) ∧ ApAt w gq gx ga n R Ka Ia Na w' ∧ QAt w' gc n (stepR n Rc K I N) := by
  obtain ⟨b, he, _, h1, h2, hc⟩ := hd
  obtain ⟨cq, hbq⟩ := h.law.q.blk
  obtain ⟨cx, hbx⟩ := h.law.x.blk
  obtain ⟨cc, hbc⟩ := hc0.blk
  obtain ⟨cy, hby⟩ := hy.blk
  have nq : ¬ two gc gy gq := fun e => by
    rcases e with e | e
    · exact hqc e
    · exact (Blk.ne_ hbq hby (by decide)) e
  have nx : ¬ two gc gy gx := fun e => by
    rcases e with e | e
    · exact (Blk.ne_ hbx hbc (by decide)) e
    · exact hxy e
  refine ⟨b, he, ⟨⟨h.law.q.chg hc nq, ?_, h.law.below.trans (hc.below h.law.below.size (fun i hi => by
    rcases hi with rfl | rfl
    · exact hcw
    · exact hyw)), h.law.lq, h.law.lx⟩, h.a.chg hc (fun e => by
    rcases e with e | e
    · exact (Blk.ne_ hbc h.a (by decide)) e.symm
    · exact (Blk.ne_ hby h.a (by decide)) e.symm)⟩, h1⟩
  obtain ⟨V, hV⟩ := h.law.x
  exact ⟨V, hV.blk.chg hc nx, fun l hl => (hV.row l hl).keep (fun b cs hb => hb.chg hc (fun e => by
    rcases e with e | e
    · exact (Blk.ne_ hb hbc (by decide)) e
    · exact (Blk.ne_ hb hby (by decide)) e))⟩
end Go.Proofs.Ytafhkjipjgkkkaa.Lv
