/- A slice of changes, opened. -/
import Derived.Test.YtmocaabdfiffnaaVwAwake
namespace Go.Proofs.Ytmocaabdfiffnaa.Ct
open Go.RowKit Go.Proofs.Ytmocaabdfiffnaa.W Go.ChangeShapes Go.WideShapes
set_option linter.unusedVariables false
set_option linter.unusedSimpArgs false

theorem open_changes {H : Type} {enc : TypeId × Value → H} {w : World} {A : Option Addr} {n : Nat} {f : Nat → Nat → Value} (hA : Holds w w.heap.size 2 A n f)
    (h0 : ∀ i, i < n → ∃ (y : DataW H × List MemPlace) (k : Nat), DataW.trod enc Try.prog w 0 (fun _ => true) true k 3 [f i 0] = some y)
    (h1 : ∀ i, i < n → ∃ (y : DataW H × List MemPlace) (k : Nat), DataW.trod enc Try.prog w 0 (fun _ => true) true k 9 [f i 1] = some y) :
    ∃ (K : Nat → Int) (S : Nat → ByteArray), Holds w w.heap.size 2 A n (chAt K S) ∧ ∀ i, i < n → (S i).size ≤ maxLen := by
  obtain ⟨g, hg⟩ := choose1 (α := Int × ByteArray) (n := n) (Q := fun i q => f i 0 = .int .i64 q.1 ∧ f i 1 = .string q.2 ∧ q.2.size ≤ maxLen) (fun i hi => by
    obtain ⟨y0, j0, t0⟩ := h0 i hi
    obtain ⟨y1, j1, t1⟩ := h1 i hi
    obtain ⟨q0, z0, _, _⟩ := DataW.trod_int Try.underlying3 t0
    obtain ⟨q1, z1, _, b1⟩ := DataW.trod_string Try.underlying9 t1
    simp only [List.cons.injEq, and_true] at z0 z1
    exact ⟨(q0, q1), z0, z1, b1⟩)
  refine ⟨fun i => (g i).1, fun i => (g i).2, hA.congr (fun i j hi hj => ?_), fun i hi => (hg i hi).2.2⟩
  unfold chAt
  have hj' : j = 0 ∨ j = 1 := by have : j < 2 := hj; omega
  rcases hj' with rfl | rfl
  · exact (hg i hi).1
  · exact (hg i hi).2.1
end Go.Proofs.Ytmocaabdfiffnaa.Ct
