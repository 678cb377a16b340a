/- A slice of structs that lies in a cell (a struct's field): opened. No program is in sight. -/
import Derived.Test.YtadlfebpaijbhaaLists
namespace Go.Proofs.Ytadlfebpaijbhaa.W
open Go.RowKit Go.ChangeShapes Go.WideShapes Go.Deep
set_option linter.unusedVariables false
set_option linter.unusedSimpArgs false

section
variable {H : Type} {enc : TypeId × Value → H} {P : Program} {w : World}
/-- A slice of structs of one-cell fields in a cell, opened: its value; each cell with a reading of its own. The places lie below the heap's end. -/
theorem open_structs_cell {t e : TypeId} {fs : Array Field} {v : Value} {x : DataW H × List MemPlace} {fuel : Nat} (ht : P.underlying t = some (.slice e)) (he : P.underlying e = some (.struct fs))
    (hone : oneCellFields P fs = true) (hC : P.cellsOf e = fs.size) (hpos : 0 < fs.size)
    (h : DataW.trod enc P w 0 (fun _ => true) true fuel t [v] = some x) (hlt : ∀ y ∈ x.2, y.block < w.heap.size) :
    ∃ (A : Option Addr) (n c : Nat) (f : Nat → Nat → Value), v = .slice A n c ∧ n ≤ c ∧ c ≤ maxLen ∧ Holds w w.heap.size fs.size A n f ∧
      ∀ i j g, i < n → fs[j]? = some g → ∃ (y : DataW H × List MemPlace) (k : Nat), DataW.trod enc P w 0 (fun _ => true) true k g.type [f i j] = some y ∧ ∀ x ∈ y.2, x.block < w.heap.size := by
  rcases open_slice_fields ht he hone hC h with ⟨hcs, hx⟩ | ⟨a, len0, cap0, m, D, Pl, hcs, hb, hl, hm, hmm, hx, hi⟩
  · simp at hcs
    subst hcs
    exact ⟨none, 0, 0, fun _ _ => undef, rfl, Nat.le_refl _, Nat.zero_le _, fun h => absurd h (by omega), fun i j g h => absurd h (by omega)⟩
  · simp at hcs
    subst hcs
    simp at hmm
    subst hmm
    obtain ⟨b, off, spot⟩ := a
    have hcell : ∀ i j, i < len0 → j < fs.size → ∃ v y n, w.cell? ((⟨b, off, spot⟩ : Addr).add (i * fs.size + j)) = some v ∧ (∃ g, fs[j]? = some g ∧ DataW.trod enc P w 0 (fun _ => true) true n g.type [v] = some y) ∧ ∀ x ∈ y.2, x.block < w.heap.size := by
      intro i j hi' hj
      obtain ⟨ys, n, _, hPl, hyl, hy⟩ := hi i (by omega)
      obtain ⟨v, y, h1, h2, h3⟩ := hy j fs[j] (Array.getElem?_eq_getElem hj)
      refine ⟨v, y, n, h1, ⟨_, Array.getElem?_eq_getElem hj, h3⟩, fun z hx' => hlt z ?_⟩
      subst hx
      refine List.mem_append_right _ (List.mem_flatMap.2 ⟨i, by simp; omega, ?_⟩)
      rw [hPl]
      exact List.mem_flatMap.2 ⟨y, List.mem_of_getElem? h2, hx'⟩
    by_cases hn : 0 < len0
    · have hspot : spot = none := by
        obtain ⟨v, _, _, h1, _⟩ := hcell 0 0 hn hpos
        simpa [Addr.add] using World.cell?_spot h1
      subst hspot
      have hpl : ∀ k, (⟨b, off, none⟩ : Addr).add k = ⟨b, off + k, none⟩ := fun k => Go.WideShapes.add_plain b off k
      classical
      refine ⟨_, len0, _, fun i j => if h : i < len0 ∧ j < fs.size then Classical.choose (hcell i j h.1 h.2) else undef, rfl, hl, hm, fun _ => ⟨b, off, rfl, ?_, fun i j h1 h2 => ?_⟩, fun i j g h1 h2 => ?_⟩
      · obtain ⟨v, _, _, h1, _⟩ := hcell 0 0 hn hpos
        exact World.block_lt_of_cell? (a := ⟨b, off, none⟩) (w := w) (by simpa [Addr.add] using h1)
      · simp only [dif_pos (show i < len0 ∧ j < fs.size from ⟨h1, h2⟩)]
        obtain ⟨y, n, h3, _⟩ := Classical.choose_spec (hcell i j h1 h2)
        exact (congrArg w.cell? (by rw [hpl, Nat.add_assoc])).trans h3
      · have hj : j < fs.size := (Array.getElem?_eq_some_iff.1 h2).1
        simp only [dif_pos (show i < len0 ∧ j < fs.size from ⟨h1, hj⟩)]
        obtain ⟨y, n, h3, ⟨g', h4, h5⟩, h6⟩ := Classical.choose_spec (hcell i j h1 hj)
        rw [h2] at h4
        obtain rfl := Option.some.inj h4
        exact ⟨y, n, h5, h6⟩
    · exact ⟨_, len0, _, fun _ _ => undef, rfl, hl, hm, fun h => absurd h hn, fun i j g h => absurd h (by omega)⟩
end

theorem cells6 {α : Type} {cs : Array α} (h : cs.size = 6) : ∃ c0 c1 c2 c3 c4 c5, cs = #[c0, c1, c2, c3, c4, c5] := by
  obtain ⟨l⟩ := cs
  match l, h with
  | [c0, c1, c2, c3, c4, c5], _ => exact ⟨c0, c1, c2, c3, c4, c5, rfl⟩
end Go.Proofs.Ytadlfebpaijbhaa.W
