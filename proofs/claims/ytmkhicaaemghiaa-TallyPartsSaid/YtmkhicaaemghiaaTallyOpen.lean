/- Acts and answers as arguments, opened. -/
import Derived.Test.YtmkhicaaemghiaaTallyLaws
import Derived.Lib.SmallJoins
namespace Go.Proofs.Ytmkhicaaemghiaa.Ta
open Go.RowKit Go.ChangeShapes Go.WideShapes Go.Deep Go.Proofs.Ytmkhicaaemghiaa.W Go.Proofs.Ytmkhicaaemghiaa.Fl
set_option linter.unusedVariables false
set_option linter.unusedSimpArgs false

theorem cAct : Try.prog.cellsOf 54 = 11 := by kernel_rfl
theorem cTold : Try.prog.cellsOf 57 = 3 := by kernel_rfl
theorem cInt : Try.prog.cellsOf 3 = 1 := by kernel_rfl
theorem cStr : Try.prog.cellsOf 9 = 1 := by kernel_rfl
theorem cErr : Try.prog.cellsOf 55 = 1 := by kernel_rfl
theorem cLoss : Try.prog.cellsOf 52 = 3 := by kernel_rfl
theorem cBools : Try.prog.cellsOf 50 = 1 := by kernel_rfl

section
variable {H : Type} {enc : TypeId × Value → H} {w : World}
theorem int_cell {t : TypeId} {c : Value} {fuel : Nat} {y : DataW H × List MemPlace} (ht : Try.prog.underlying t = some (.int .i64)) (h : DataW.trod enc Try.prog w 0 (fun _ => true) true fuel t [c] = some y) : ∃ a, c = .int .i64 a := by
  obtain ⟨a, z0, rfl, w0⟩ := DataW.trod_int ht h
  simp only [List.cons.injEq, and_true] at z0
  exact ⟨a, z0⟩
theorem string_cell {t : TypeId} {c : Value} {fuel : Nat} {y : DataW H × List MemPlace} (ht : Try.prog.underlying t = some .string) (h : DataW.trod enc Try.prog w 0 (fun _ => true) true fuel t [c] = some y) : ∃ s, c = .string s := by
  obtain ⟨s, z0, _⟩ := DataW.trod_string ht h
  simp only [List.cons.injEq, and_true] at z0
  exact ⟨s, z0⟩
theorem loss_cells {c0 c1 c2 : Value} {fuel : Nat} {y : DataW H × List MemPlace} (h : DataW.trod enc Try.prog w 0 (fun _ => true) true fuel 52 [c0, c1, c2] = some y) : c0.oneCell' = true ∧ c1.oneCell' = true ∧ c2.oneCell' = true := by
  obtain ⟨y0, y1, y2, n, hx, _, e0, e1, e2⟩ := Go.Deep.trod_struct3 Try.underlying52 h
  simp [cInt, cBools] at e0 e1 e2
  obtain ⟨_, _, _, rfl⟩ : ∃ a l c, c0 = .slice a l c := by
    obtain ⟨a, l, c, hs⟩ := Go.Joins.slice_form Try.underlying50 e0
    exact ⟨a, l, c, by simpa using hs⟩
  obtain ⟨_, rfl⟩ := int_cell Try.underlying3 e1
  obtain ⟨_, rfl⟩ := int_cell Try.underlying3 e2
  exact ⟨rfl, rfl, rfl⟩
theorem act_cells {f : Nat → Value} {fuel : Nat} {y : DataW H × List MemPlace} (h : DataW.trod enc Try.prog w 0 (fun _ => true) true fuel 54 [f 0, f 1, f 2, f 3, f 4, f 5, f 6, f 7, f 8, f 9, f 10] = some y) :
    (∃ a, f 0 = .int .i64 a) ∧ ∀ j, j < 11 → (f j).oneCell' = true := by
  obtain ⟨ys, n, _, _, _, hyl, hf⟩ := DataW.trod_struct Try.underlying54 h
  have hys : ∀ j, j < 7 → ∃ z, ys[j]? = some z := fun j hj => ⟨_, List.getElem?_eq_getElem (by rw [hyl]; exact hj)⟩
  obtain ⟨z0, k0⟩ := hys 0 (by omega)
  obtain ⟨z1, k1⟩ := hys 1 (by omega)
  obtain ⟨z2, k2⟩ := hys 2 (by omega)
  obtain ⟨z3, k3⟩ := hys 3 (by omega)
  obtain ⟨z4, k4⟩ := hys 4 (by omega)
  obtain ⟨z5, k5⟩ := hys 5 (by omega)
  obtain ⟨z6, k6⟩ := hys 6 (by omega)
  have h0 := (hf 0 _ rfl).trans k0
  have h1 := (hf 1 _ rfl).trans k1
  have h2 := (hf 2 _ rfl).trans k2
  have h3 := (hf 3 _ rfl).trans k3
  have h4 := (hf 4 _ rfl).trans k4
  have h5 := (hf 5 _ rfl).trans k5
  have h6 := (hf 6 _ rfl).trans k6
  simp [cInt, cStr, cLoss] at h0 h1 h2 h3 h4 h5 h6
  obtain ⟨a0, e0⟩ := int_cell Try.underlying3 h0
  obtain ⟨a1, e1⟩ := int_cell Try.underlying3 h1
  obtain ⟨a2, e2⟩ := int_cell Try.underlying3 h2
  obtain ⟨a3, e3⟩ := int_cell Try.underlying3 h3
  obtain ⟨a4, e4⟩ := string_cell Try.underlying9 h4
  obtain ⟨e5, e6, e7⟩ := loss_cells h5
  obtain ⟨e8, e9, e10⟩ := loss_cells h6
  refine ⟨⟨a0, e0⟩, fun j hj => ?_⟩
  have hj' : j = 0 ∨ j = 1 ∨ j = 2 ∨ j = 3 ∨ j = 4 ∨ j = 5 ∨ j = 6 ∨ j = 7 ∨ j = 8 ∨ j = 9 ∨ j = 10 := by omega
  rcases hj' with rfl | rfl | rfl | rfl | rfl | rfl | rfl | rfl | rfl | rfl | rfl
  · rw [e0]; rfl
  · rw [e1]; rfl
  · rw [e2]; rfl
  · rw [e3]; rfl
  · rw [e4]; rfl
  · exact e5
  · exact e6
  · exact e7
  · exact e8
  · exact e9
  · exact e10
theorem told_cells {f : Nat → Value} {fuel : Nat} {y : DataW H × List MemPlace} (h : DataW.trod enc Try.prog w 0 (fun _ => true) true fuel 57 [f 0, f 1, f 2] = some y) :
    (∃ a, f 0 = .int .i64 a) ∧ (∃ s, f 1 = .string s) ∧ ∀ j, j < 3 → (f j).oneCell' = true := by
  obtain ⟨y0, y1, y2, n, hx, _, h0, h1, h2⟩ := Go.Deep.trod_struct3 Try.underlying57 h
  simp [cInt, cStr, cErr] at h0 h1 h2
  obtain ⟨a0, e0⟩ := int_cell Try.underlying55 h0
  obtain ⟨a1, e1⟩ := string_cell Try.underlying9 h1
  obtain ⟨a2, e2⟩ := int_cell Try.underlying3 h2
  refine ⟨⟨a0, e0⟩, ⟨a1, e1⟩, fun j hj => ?_⟩
  have hj' : j = 0 ∨ j = 1 ∨ j = 2 := by omega
  rcases hj' with rfl | rfl | rfl
  · rw [e0]; rfl
  · rw [e1]; rfl
  · rw [e2]; rfl

theorem open_acts {v : Value} {d : DataW H} {p : List MemPlace} {b0 : Nat} (hv : Value.okWide Try.prog w .any b0 22 v) (h : DataW.Trod enc Try.prog w 0 (fun _ => true) true 22 v d p) (hlt : ∀ x ∈ p, x.block < w.heap.size) :
    ∃ (A : Option Addr) (n c : Nat) (F : Nat → Nat → Value) (K : Nat → Int), v = .slice A n c ∧ n ≤ c ∧ c ≤ maxLen ∧ ActsAt w w.heap.size A n F K ∧ (d = .nil ∧ n = 0 ∨ ∃ es sp, d = .slice es sp ∧ es.length = n) := by
  obtain ⟨A, n, c, F, rfl, hn, hc, hH, hd, hel⟩ := open_slice_arg Try.underlying22 cAct (by omega) hv h hlt
  have hc2 : ∀ i, i < n → ∃ a, F i 0 = .int .i64 a ∧ ∀ j, j < 11 → (F i j).oneCell' = true := fun i hi => by
    obtain ⟨z, k, ht, _⟩ := hel i hi
    obtain ⟨⟨a, ha⟩, ho⟩ := act_cells (f := F i) ht
    exact ⟨a, ha, ho⟩
  obtain ⟨K, hK⟩ := choose1 hc2
  exact ⟨A, n, c, F, K, rfl, hn, hc, ⟨hH, fun i hi => (hK i hi).1, fun i j hi hj => (hK i hi).2 j hj⟩, hd⟩
theorem open_tolds {v : Value} {d : DataW H} {p : List MemPlace} {b0 : Nat} (hv : Value.okWide Try.prog w .any b0 23 v) (h : DataW.Trod enc Try.prog w 0 (fun _ => true) true 23 v d p) (hlt : ∀ x ∈ p, x.block < w.heap.size) :
    ∃ (A : Option Addr) (n c : Nat) (F : Nat → Nat → Value) (E : Nat → Int) (S : Nat → ByteArray), v = .slice A n c ∧ n ≤ c ∧ c ≤ maxLen ∧ ToldAt w w.heap.size A n F E S ∧ (d = .nil ∧ n = 0 ∨ ∃ es sp, d = .slice es sp ∧ es.length = n) := by
  obtain ⟨A, n, c, F, rfl, hn, hc, hH, hd, hel⟩ := open_slice_arg Try.underlying23 cTold (by omega) hv h hlt
  have hc2 : ∀ i, i < n → ∃ a : Int × ByteArray, F i 0 = .int .i64 a.1 ∧ F i 1 = .string a.2 ∧ ∀ j, j < 3 → (F i j).oneCell' = true := fun i hi => by
    obtain ⟨z, k, ht, _⟩ := hel i hi
    obtain ⟨⟨a, ha⟩, ⟨s, hs⟩, ho⟩ := told_cells (f := F i) ht
    exact ⟨(a, s), ha, hs, ho⟩
  obtain ⟨K, hK⟩ := choose1 hc2
  exact ⟨A, n, c, F, fun i => (K i).1, fun i => (K i).2, rfl, hn, hc, ⟨hH, fun i hi => (hK i hi).1, fun i hi => (hK i hi).2.1, fun i j hi hj => (hK i hi).2.2 j hj⟩, hd⟩
end
theorem bAct : Try.prog.bytesOf 54 = 128 := by kernel_rfl
end Go.Proofs.Ytmkhicaaemghiaa.Ta
