/- Slices that are read: their elements' cells. No program is in sight. -/
import Derived.Test.YtadlfebpaijbhaaWords
import Derived.Deep.Slices
import Derived.Deep.Fields
namespace Go.Proofs.Ytadlfebpaijbhaa.W
open Go.RowKit Go.ChangeShapes Go.WideShapes Go.Deep
set_option linter.unusedVariables false
set_option linter.unusedSimpArgs false

/-- Cell j of element i of the slice is f i j. -/
def Holds (w : World) (B size : Nat) (A : Option Addr) (n : Nat) (f : Nat → Nat → Value) : Prop :=
  0 < n → ∃ b off, A = some ⟨b, off, none⟩ ∧ b < B ∧ ∀ i j, i < n → j < size → w.cell? ⟨b, off + i * size + j, none⟩ = some (f i j)
theorem Holds.below {w w' : World} {B size n : Nat} {A : Option Addr} {f : Nat → Nat → Value} (h : Holds w B size A n f) (hb : Below B w w') : Holds w' B size A n f := fun hn => by
  obtain ⟨b, off, hA, hB, hc⟩ := h hn
  exact ⟨b, off, hA, hB, fun i j hi hj => (hb.cell (p := ⟨b, _, none⟩) hB).trans (hc i j hi hj)⟩
theorem Holds.same {w w' : World} {B size n : Nat} {A : Option Addr} {f : Nat → Nat → Value} (h : Holds w B size A n f) (e : w'.heap = w.heap) : Holds w' B size A n f := fun hn => by
  obtain ⟨b, off, hA, hB, hc⟩ := h hn
  exact ⟨b, off, hA, hB, fun i j hi hj => (World.cell?_of_block (by rw [e])).trans (hc i j hi hj)⟩

theorem Holds.congr {w : World} {B size n : Nat} {A : Option Addr} {f g : Nat → Nat → Value} (h : Holds w B size A n f) (e : ∀ i j, i < n → j < size → f i j = g i j) : Holds w B size A n g := fun hn => by
  obtain ⟨b, off, hA, hB, hc⟩ := h hn
  exact ⟨b, off, hA, hB, fun i j hi hj => by rw [← e i j hi hj]; exact hc i j hi hj⟩

section
variable {H : Type} {enc : TypeId × Value → H} {P : Program} {w : World} {base : Nat} {spare : Nat → Bool} {held : Bool}
theorem open_slice_fields {t e : TypeId} {fs : Array Field} {fuel : Nat} {cs : List Value} {x : DataW H × List MemPlace} (ht : P.underlying t = some (.slice e)) (he : P.underlying e = some (.struct fs))
    (hone : oneCellFields P fs = true) (hC : P.cellsOf e = fs.size) (h : DataW.trod enc P w base spare held fuel t cs = some x) :
    (cs = [.slice none 0 0] ∧ x = (.nil, [])) ∨
    ∃ (a : Addr) (len cap m : Nat) (D : Nat → DataW H) (Pl : Nat → List MemPlace), cs = [.slice (some a) len cap] ∧ base ≤ a.block ∧ len ≤ cap ∧ cap ≤ maxLen ∧ m = (if spare a.block then cap else len) ∧
      x = (.slice ((List.range len).map D) ((List.range (m - len)).map fun j => D (len + j)), MemPlace.row a (m * fs.size) ++ (List.range m).flatMap Pl) ∧
      ∀ i, i < m → ∃ (ys : List (DataW H × List MemPlace)) (n : Nat), D i = .agg (ys.map (·.1)) ∧ Pl i = ys.flatMap (·.2) ∧ ys.length = fs.size ∧
        ∀ (j : Nat) (f : Field), fs[j]? = some f → ∃ (v : Value) (y : DataW H × List MemPlace), w.cell? (a.add (i * fs.size + j)) = some v ∧ ys[j]? = some y ∧ DataW.trod enc P w base spare held n f.type [v] = some y := by
  rcases open_slice ht h with h0 | ⟨a, len, cap, m, n, D, Pl, hcs, hb, hl, hm, hmm, hx, hi⟩
  · exact .inl h0
  · refine .inr ⟨a, len, cap, m, D, Pl, hcs, hb, hl, hm, hmm, by rw [hC] at hx; exact hx, fun i him => ?_⟩
    obtain ⟨cs', hc, ht'⟩ := hi i him
    rw [hC] at hc
    obtain ⟨ys, n', hn', hy, hlen, hyl, hf⟩ := DataW.trod_struct he ht'
    obtain ⟨_, hcl, hat⟩ := World.cells?_some hc
    simp only [Prod.mk.injEq] at hy
    refine ⟨ys, n', hy.1, hy.2, hyl, fun j f hj => ?_⟩
    obtain ⟨ho, hk⟩ := hone_of hone j f hj
    have hjl : j < fs.size := (Array.getElem?_eq_some_iff.1 hj).1
    have hcell := hat j hjl
    have hv : cs'[j]? = some (cs'[j]'(by omega)) := List.getElem?_eq_getElem (by omega)
    have h1 := hf j f hj
    rw [ho, hk] at h1
    have hone' : (cs'.drop j).take 1 = [cs'[j]'(by omega)] := by
      rw [List.drop_eq_getElem_cons (by omega)]
      rfl
    rw [hone'] at h1
    have hys : ys[j]? = some (ys[j]'(by omega)) := List.getElem?_eq_getElem (by omega)
    refine ⟨_, _, ?_, hys, h1.trans hys⟩
    rw [← Go.Deep.add_add, hcell, hv]

/-- A slice of structs of one-cell fields, opened: its value; each cell with a reading of its own. The places lie below the heap's end. -/
theorem open_structs {r : Reach} {t e : TypeId} {fs : Array Field} {v : Value} {d : DataW H} {p : List MemPlace} (ht : P.underlying t = some (.slice e)) (he : P.underlying e = some (.struct fs))
    (hone : oneCellFields P fs = true) (hC : P.cellsOf e = fs.size) (hpos : 0 < fs.size) {b0 : Nat} (hv : Value.okWide P w r b0 t v)
    (h : DataW.Trod enc P w 0 (fun _ => true) true t v d p) (hlt : ∀ x ∈ p, x.block < w.heap.size) :
    ∃ (A : Option Addr) (n c : Nat) (f : Nat → Nat → Value), v = .slice A n c ∧ n ≤ c ∧ c ≤ maxLen ∧ Holds w w.heap.size fs.size A n f ∧
      ∀ i j g, i < n → fs[j]? = some g → ∃ (y : DataW H × List MemPlace) (k : Nat), DataW.trod enc P w 0 (fun _ => true) true k g.type [f i j] = some y ∧ ∀ x ∈ y.2, x.block < w.heap.size := by
  obtain ⟨a0, len0, cap0, rfl⟩ := okWide_slice ht hv
  obtain ⟨fuel, hf⟩ := h
  rcases open_slice_fields ht he hone hC hf with ⟨hcs, hx⟩ | ⟨a, len, cap, m, D, Pl, hcs, hb, hl, hm, hmm, hx, hi⟩
  · simp [Value.cells] at hcs
    obtain ⟨rfl, rfl, rfl⟩ := hcs
    exact ⟨none, 0, 0, fun _ _ => undef, rfl, Nat.le_refl _, Nat.zero_le _, fun h => absurd h (by omega), fun i j g h => absurd h (by omega)⟩
  · simp [Value.cells] at hcs
    obtain ⟨rfl, rfl, rfl⟩ := hcs
    simp at hmm
    subst hmm
    obtain ⟨b, off, spot⟩ := a
    have hcell : ∀ i j, i < len0 → j < fs.size → ∃ v y n, w.cell? ((⟨b, off, spot⟩ : Addr).add (i * fs.size + j)) = some v ∧ (∃ g, fs[j]? = some g ∧ DataW.trod enc P w 0 (fun _ => true) true n g.type [v] = some y) ∧ ∀ x ∈ y.2, x.block < w.heap.size := by
      intro i j hi' hj
      obtain ⟨ys, n, _, hPl, hyl, hy⟩ := hi i (by omega)
      obtain ⟨v, y, h1, h2, h3⟩ := hy j fs[j] (Array.getElem?_eq_getElem hj)
      refine ⟨v, y, n, h1, ⟨_, Array.getElem?_eq_getElem hj, h3⟩, fun x hx' => hlt x ?_⟩
      simp only [Prod.mk.injEq] at hx
      rw [hx.2]
      refine List.mem_append_right _ (List.mem_flatMap.2 ⟨i, by simp; omega, ?_⟩)
      rw [hPl]
      exact List.mem_flatMap.2 ⟨y, List.mem_of_getElem? h2, hx'⟩
    by_cases hn : 0 < len0
    · have hspot : spot = none := by
        obtain ⟨v, _, _, h1, _⟩ := hcell 0 0 hn hpos
        simpa [Addr.add] using World.cell?_spot h1
      subst hspot
      have hpl : ∀ k, (⟨b, off, none⟩ : Addr).add k = ⟨b, off + k, none⟩ := fun k => Go.WideShapes.add_plain b off k
      classical
      refine ⟨_, len0, _, fun i j => if h : i < len0 ∧ j < fs.size then Classical.choose (hcell i j h.1 h.2) else undef, rfl, hl, hm, fun _ => ⟨b, off, rfl, ?_, fun i j h1 h2 => ?_⟩, fun i j g h1 h2 => ?_⟩
      · obtain ⟨v, _, _, h1, _⟩ := hcell 0 0 hn hpos
        exact World.block_lt_of_cell? (a := ⟨b, off, none⟩) (w := w) (by simpa [Addr.add] using h1)
      · simp only [dif_pos (show i < len0 ∧ j < fs.size from ⟨h1, h2⟩)]
        obtain ⟨y, n, h3, _⟩ := Classical.choose_spec (hcell i j h1 h2)
        exact (congrArg w.cell? (by rw [hpl, Nat.add_assoc])).trans h3
      · have hj : j < fs.size := (Array.getElem?_eq_some_iff.1 h2).1
        simp only [dif_pos (show i < len0 ∧ j < fs.size from ⟨h1, hj⟩)]
        obtain ⟨y, n, h3, ⟨g', h4, h5⟩, h6⟩ := Classical.choose_spec (hcell i j h1 hj)
        rw [h2] at h4
        obtain rfl := Option.some.inj h4
        exact ⟨y, n, h5, h6⟩
    · exact ⟨_, len0, _, fun _ _ => undef, rfl, hl, hm, fun h => absurd h hn, fun i j g h => absurd h (by omega)⟩
end

theorem choose1 {α : Type} [Inhabited α] {n : Nat} {Q : Nat → α → Prop} (h : ∀ i, i < n → ∃ a, Q i a) : ∃ f : Nat → α, ∀ i, i < n → Q i (f i) := by
  classical
  exact ⟨fun i => if h' : i < n then Classical.choose (h i h') else default, fun i hi => by
    simp only [dif_pos hi]
    exact Classical.choose_spec (h i hi)⟩
end Go.Proofs.Ytadlfebpaijbhaa.W
