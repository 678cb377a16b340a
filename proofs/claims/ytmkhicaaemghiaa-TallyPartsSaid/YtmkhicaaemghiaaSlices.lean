/- A slice of any elements, opened cell by cell: each element's cells with a reading of the whole element. No program is in sight. -/
import Derived.Test.YtmkhicaaemghiaaLists
import Derived.SizedLaws
namespace Go.Proofs.Ytmkhicaaemghiaa.W
open Go.RowKit Go.ChangeShapes Go.WideShapes Go.Deep
set_option linter.unusedVariables false
set_option linter.unusedSimpArgs false

section
variable {H : Type} {enc : TypeId × Value → H} {P : Program} {w : World}
/-- Element i's cells. -/
def elem (f : Nat → Nat → Value) (size i : Nat) : List Value := (List.range size).map (f i)
theorem open_slice_cells {t e : TypeId} {c : Value} {y : DataW H × List MemPlace} {fuel size : Nat} (ht : P.underlying t = some (.slice e)) (hC : P.cellsOf e = size) (hpos : 0 < size)
    (h : DataW.trod enc P w 0 (fun _ => true) true fuel t [c] = some y) (hlt : ∀ x ∈ y.2, x.block < w.heap.size) :
    ∃ (A : Option Addr) (n c' : Nat) (f : Nat → Nat → Value), c = .slice A n c' ∧ n ≤ c' ∧ c' ≤ maxLen ∧ Holds w w.heap.size size A n f ∧ (y.1 = .nil ∧ n = 0 ∨ ∃ es sp, y.1 = .slice es sp ∧ es.length = n) ∧
      ∀ i, i < n → ∃ (z : DataW H × List MemPlace) (k : Nat), DataW.trod enc P w 0 (fun _ => true) true k e (elem f size i) = some z ∧ ∀ x ∈ z.2, x.block < w.heap.size := by
  rcases open_slice ht h with ⟨hcs, hx⟩ | ⟨a, len, cap, m, n, D, Pl, hcs, hb, hl, hm, hmm, hx, hi⟩
  · simp at hcs
    subst hcs
    exact ⟨none, 0, 0, fun _ _ => undef, rfl, Nat.le_refl _, Nat.zero_le _, fun h => absurd h (by omega), .inl ⟨by rw [hx], rfl⟩, fun i h => absurd h (by omega)⟩
  · simp at hcs
    subst hcs
    simp at hmm
    subst hmm
    obtain ⟨b, off, spot⟩ := a
    rw [hC] at hx hi
    have hel : ∀ i, i < len → ∃ (cs : List Value) (z : DataW H × List MemPlace), (cs.length = size ∧ ∀ j, j < size → w.cell? ((⟨b, off, spot⟩ : Addr).add (i * size + j)) = cs[j]?) ∧ DataW.trod enc P w 0 (fun _ => true) true n e cs = some z ∧ ∀ x ∈ z.2, x.block < w.heap.size := by
      intro i hin
      obtain ⟨cs', hc, ht'⟩ := hi i (by omega)
      obtain ⟨_, hcl, hat⟩ := World.cells?_some hc
      refine ⟨cs', (D i, Pl i), ⟨hcl, fun j hj => ?_⟩, ht', fun x hx' => hlt x ?_⟩
      · rw [← Go.Deep.add_add]
        exact hat j hj
      · rw [hx]
        exact List.mem_append_right _ (List.mem_flatMap.2 ⟨i, by simp; omega, hx'⟩)
    by_cases hn : 0 < len
    · have hspot : spot = none := by
        obtain ⟨cs, z, ⟨h1, h2⟩, _⟩ := hel 0 hn
        have := h2 0 hpos
        rw [List.getElem?_eq_getElem (by omega)] at this
        simpa [Addr.add] using World.cell?_spot this
      subst hspot
      have hpl : ∀ k, (⟨b, off, none⟩ : Addr).add k = ⟨b, off + k, none⟩ := fun k => Go.WideShapes.add_plain b off k
      classical
      refine ⟨_, len, _, fun i j => if h : i < len then (Classical.choose (hel i h)).getD j undef else undef, rfl, hl, hm, fun _ => ⟨b, off, rfl, ?_, fun i j h1 h2 => ?_⟩, .inr ⟨_, _, by rw [hx], by simp⟩, fun i h1 => ?_⟩
      · obtain ⟨cs, z, ⟨h1, h2⟩, _⟩ := hel 0 hn
        have h3 := h2 0 hpos
        rw [List.getElem?_eq_getElem (by omega)] at h3
        exact World.block_lt_of_cell? (a := ⟨b, off, none⟩) (w := w) (by simpa [Addr.add] using h3)
      · simp only [dif_pos h1]
        obtain ⟨z, ⟨h3, h4⟩, _⟩ := Classical.choose_spec (hel i h1)
        have h5 := h4 j h2
        rw [hpl] at h5
        rw [Nat.add_assoc, h5, List.getD_eq_getElem?_getD, List.getElem?_eq_getElem (by omega)]
        rfl
      · obtain ⟨z, ⟨h3, h4⟩, h5, h6⟩ := Classical.choose_spec (hel i h1)
        refine ⟨z, n, ?_, h6⟩
        have e : elem (fun i j => if h : i < len then (Classical.choose (hel i h)).getD j undef else undef) size i = Classical.choose (hel i h1) := by
          apply List.ext_getElem?
          intro j
          simp only [elem, List.getElem?_map, dif_pos h1]
          by_cases hj : j < size
          · rw [List.getElem?_range hj, List.getElem?_eq_getElem (by omega)]
            simp only [Option.map_some, List.getD_eq_getElem?_getD]
            rw [List.getElem?_eq_getElem (by omega)]
            rfl
          · rw [List.getElem?_eq_none (by simp; omega), List.getElem?_eq_none (by omega)]
            rfl
        rw [e]
        exact h5
    · exact ⟨_, len, _, fun _ _ => undef, rfl, hl, hm, fun h => absurd h hn, .inr ⟨_, _, by rw [hx], by simp⟩, fun i h => absurd h (by omega)⟩

/-- An argument that is a slice. -/
theorem open_slice_arg {r : Reach} {t e : TypeId} {v : Value} {d : DataW H} {p : List MemPlace} {size : Nat} (ht : P.underlying t = some (.slice e)) (hC : P.cellsOf e = size) (hpos : 0 < size) {b0 : Nat} (hv : Value.okWide P w r b0 t v)
    (h : DataW.Trod enc P w 0 (fun _ => true) true t v d p) (hlt : ∀ x ∈ p, x.block < w.heap.size) :
    ∃ (A : Option Addr) (n c' : Nat) (f : Nat → Nat → Value), v = .slice A n c' ∧ n ≤ c' ∧ c' ≤ maxLen ∧ Holds w w.heap.size size A n f ∧ (d = .nil ∧ n = 0 ∨ ∃ es sp, d = .slice es sp ∧ es.length = n) ∧
      ∀ i, i < n → ∃ (z : DataW H × List MemPlace) (k : Nat), DataW.trod enc P w 0 (fun _ => true) true k e (elem f size i) = some z ∧ ∀ x ∈ z.2, x.block < w.heap.size := by
  obtain ⟨a0, len0, cap0, rfl⟩ := okWide_slice ht hv
  obtain ⟨fuel, hf⟩ := h
  exact open_slice_cells (y := (d, p)) ht hC hpos (by simpa [Value.cells] using hf) hlt
end
end Go.Proofs.Ytmkhicaaemghiaa.W
