/- Arguments opened: a struct's fields, an array's elements, floats. No program is in sight. -/
import Derived.Test.YtadlfebpaijbhaaRow
import Derived.ChangeSame
import Derived.OpenShut
import Derived.Laws.Cover2
namespace Go.Proofs.Ytadlfebpaijbhaa.W
open Go.RowKit Go.ChangeShapes Go.WideShapes
set_option linter.unusedVariables false
set_option linter.unusedSimpArgs false

section
variable {H : Type} {enc : TypeId × Value → H} {P : Program} {w : World} {base : Nat} {spare : Nat → Bool} {held : Bool}
/-- A struct's fields, each with its reading. -/
theorem open_fields {r : Reach} {b0 : Nat} {t : TypeId} {fs : Array Field} {v : Value} {dd : DataW H} {p : List MemPlace} (ht : P.underlying t = some (.struct fs))
    (hv : Value.okWide P w r b0 t v) (h : DataW.Trod enc P w base spare held t v dd p) :
    ∃ (cs : Array Value) (n : Nat), v = .agg cs ∧ cs.size = P.cellsOf t ∧
      ∀ (j : Nat) (f : Field), fs[j]? = some f → ∃ y, DataW.trod enc P w base spare held n f.type ((cs.toList.drop f.offset).take (P.cellsOf f.type)) = some y ∧ ∀ q ∈ y.2, q ∈ p := by
  obtain ⟨cs, rfl, hsz⟩ := okWide_struct ht hv
  obtain ⟨fuel, hf⟩ := h
  obtain ⟨xs, n, _, hx, hl, hlen, hg⟩ := DataW.trod_struct ht hf
  refine ⟨cs, n, rfl, hsz, fun j f hj => ?_⟩
  have hlt : j < fs.size := (Array.getElem?_eq_some_iff.1 hj).1
  have h1 := hg j f hj
  rw [List.getElem?_eq_getElem (by omega)] at h1
  refine ⟨_, by simpa [Value.cells] using h1, fun q hq => ?_⟩
  simp only [Prod.mk.injEq] at hx
  rw [hx.2]
  exact List.mem_flatMap.2 ⟨_, List.getElem_mem _, hq⟩
theorem trod_float {t : TypeId} {k : FloatKind} {fuel : Nat} {c : Value} {y : DataW H × List MemPlace} (ht : P.underlying t = some (.float k)) (h : DataW.trod enc P w base spare held fuel t [c] = some y) :
    ∃ b, c = .float k b ∧ (Lit.float k b).wf = true := by
  cases fuel with
  | zero => simp [DataW.trod] at h
  | succ n =>
    unfold DataW.trod at h
    rw [ht] at h
    split at h <;> simp_all
theorem float_lt {b : Nat} (h : (Lit.float .f64 b).wf = true) : b < 18446744073709551616 := by
  simp [Lit.wf] at h
  omega
/-- An array of one-cell elements. -/
theorem open_elems {r : Reach} {b0 : Nat} {t e : TypeId} {n : Nat} {v : Value} {dd : DataW H} {p : List MemPlace} (ht : P.underlying t = some (.array n e)) (hce : P.cellsOf e = 1) (hct : P.cellsOf t = n)
    (hv : Value.okWide P w r b0 t v) (h : DataW.Trod enc P w base spare held t v dd p) :
    ∃ f : Nat → Value, v = .agg (row n f) ∧ ∀ i, i < n → ∃ (k : Nat) (y : DataW H × List MemPlace), DataW.trod enc P w base spare held k e [f i] = some y := by
  have hv' := hv
  simp only [Value.okWide, ht] at hv'
  obtain ⟨cs, rfl, hsz, _⟩ := hv'
  rw [hct] at hsz
  obtain ⟨fuel, hf⟩ := h
  obtain ⟨xs, m, _, hx, hl, hlen, hg⟩ := DataW.trod_array ht hf
  refine ⟨fun i => cs.getD i undef, ?_, fun i hi => ?_⟩
  · congr 1
    apply Array.ext
    · rw [row_size]; exact hsz
    · intro i h1 h2
      simp [row, Array.getD, h1]
  · have h1 := hg i hi
    rw [List.getElem?_eq_getElem (by omega), hce, Nat.mul_one] at h1
    refine ⟨m, xs[i]'(by omega), ?_⟩
    · rw [← h1]
      congr 1
      have hlt : i < cs.toList.length := by simp; omega
      simp only [Value.cells]
      rw [List.drop_eq_getElem_cons hlt]
      simp [Array.getD, show i < cs.size by omega]
theorem open_floats {r : Reach} {b0 : Nat} {t e : TypeId} {n : Nat} {v : Value} {dd : DataW H} {p : List MemPlace} (ht : P.underlying t = some (.array n e)) (he : P.underlying e = some (.float .f64)) (hce : P.cellsOf e = 1) (hct : P.cellsOf t = n)
    (hv : Value.okWide P w r b0 t v) (h : DataW.Trod enc P w base spare held t v dd p) :
    ∃ f : Nat → Nat, v = .agg (row n fun i => .float .f64 (f i)) ∧ ∀ i, i < n → f i < 18446744073709551616 := by
  obtain ⟨f, rfl, hf⟩ := open_elems ht hce hct hv h
  refine ⟨fun i => match f i with | .float _ b => b | _ => 0, congrArg _ (row_congr fun i hi => ?_), fun i hi => ?_⟩
  · obtain ⟨k, y, hy⟩ := hf i hi
    obtain ⟨b, hb, _⟩ := trod_float he hy
    simp only [hb]
  · obtain ⟨k, y, hy⟩ := hf i hi
    obtain ⟨b, hb, hw⟩ := trod_float he hy
    simp only [hb]
    exact float_lt hw
theorem open_ints_array {r : Reach} {b0 : Nat} {t e : TypeId} {n : Nat} {q : IntKind} {v : Value} {dd : DataW H} {p : List MemPlace} (ht : P.underlying t = some (.array n e)) (he : P.underlying e = some (.int q)) (hce : P.cellsOf e = 1) (hct : P.cellsOf t = n)
    (hv : Value.okWide P w r b0 t v) (h : DataW.Trod enc P w base spare held t v dd p) :
    ∃ f : Nat → Int, v = .agg (row n fun i => .int q (f i)) ∧ ∀ i, i < n → (Lit.int q (f i)).wf = true := by
  obtain ⟨f, rfl, hf⟩ := open_elems ht hce hct hv h
  refine ⟨fun i => match f i with | .int _ b => b | _ => 0, congrArg _ (row_congr fun i hi => ?_), fun i hi => ?_⟩
  · obtain ⟨k, y, hy⟩ := hf i hi
    obtain ⟨b, hb, _⟩ := DataW.trod_int he hy
    simp only [List.cons.injEq, and_true] at hb
    simp only [hb]
  · obtain ⟨k, y, hy⟩ := hf i hi
    obtain ⟨b, hb, _, hw⟩ := DataW.trod_int he hy
    simp only [List.cons.injEq, and_true] at hb
    simp only [hb]
    exact hw
theorem cells5 {α : Type} {cs : Array α} (h : cs.size = 5) : ∃ c0 c1 c2 c3 c4, cs = #[c0, c1, c2, c3, c4] := by
  obtain ⟨l⟩ := cs
  match l, h with
  | [c0, c1, c2, c3, c4], _ => exact ⟨c0, c1, c2, c3, c4, rfl⟩
theorem cells4 {α : Type} {cs : Array α} (h : cs.size = 4) : ∃ c0 c1 c2 c3, cs = #[c0, c1, c2, c3] := by
  obtain ⟨l⟩ := cs
  match l, h with
  | [c0, c1, c2, c3], _ => exact ⟨c0, c1, c2, c3, rfl⟩
theorem cells7 {α : Type} {cs : Array α} (h : cs.size = 7) : ∃ c0 c1 c2 c3 c4 c5 c6, cs = #[c0, c1, c2, c3, c4, c5, c6] := by
  obtain ⟨l⟩ := cs
  match l, h with
  | [c0, c1, c2, c3, c4, c5, c6], _ => exact ⟨c0, c1, c2, c3, c4, c5, c6, rfl⟩
end
end Go.Proofs.Ytadlfebpaijbhaa.W
