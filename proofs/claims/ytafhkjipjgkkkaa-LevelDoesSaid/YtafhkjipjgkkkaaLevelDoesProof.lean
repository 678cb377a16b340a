/- Every call of a queue is answered as the document says. PROVED: 'Rows.LevelDoesSaid' ('cellaret/cellaretlaw24.LevelDoes'), for every input, without a condition. -/
import Derived.Test.YtafhkjipjgkkkaaRows
import Derived.WalkKit
import Derived.ProofKit
import Derived.Test.YtafhkjipjgkkkaaLevDoes
namespace Go.Proofs.Ytafhkjipjgkkkaa.levelDoes
open Go.ChangeShapes Go.WideShapes Go.ChangeAt Go.RowKit Go.Proofs.Ytafhkjipjgkkkaa.W
set_option linter.unusedVariables false
set_option linter.unusedSimpArgs false

theorem own : ownKnob Try.prog.godebug = none := by kernel_rfl

theorem cells : Try.prog.cellsOf 35 = 3 := by kernel_rfl

theorem walk {H : Type} (enc : TypeId × Value → H) (w : World) (base : Nat) (v0 : Value) (d0 : DataW H) (p0 : List MemPlace) (v1 : Value) (d1 : DataW H) (p1 : List MemPlace)
    (k0 : Value.okWide Try.prog w .any base 3 v0) (h0 : DataW.Trod enc Try.prog w 0 (fun _ => true) true 3 v0 d0 p0) (l0 : ∀ x ∈ p0, x.block < w.heap.size)
    (k1 : Value.okWide Try.prog w .any base 22 v1) (h1 : DataW.Trod enc Try.prog w 0 (fun _ => true) true 22 v1 d1 p1) (l1 : ∀ x ∈ p1, x.block < w.heap.size)
    : Calls Try.prog 3 #[v0, v1] w fun e w' => e = .returned (.bool true) ∧ Below w.heap.size w w' := by
  obtain ⟨m, rfl, rfl, rfl, w0⟩ := open_int Try.underlying3 k0 h0
  obtain ⟨A, len, c, f, rfl, hlc, hc, hA, hf⟩ := open_structs Try.underlying22 Try.underlying35 (by kernel_rfl) cells (by decide) k1 h1 l1
  obtain ⟨g, hg⟩ := choose1 (α := Int × Int × Int) (n := len) (Q := fun i q => f i 0 = .int .i64 q.1 ∧ f i 1 = .int .i64 q.2.1 ∧ f i 2 = .int .i64 q.2.2 ∧ (Lit.int .i64 q.2.2).wf = true) (fun i hi => by
    obtain ⟨y0, j0, t0, _⟩ := hf i 0 _ hi rfl
    obtain ⟨y1, j1, t1, _⟩ := hf i 1 _ hi rfl
    obtain ⟨y2, j2, t2, _⟩ := hf i 2 _ hi rfl
    obtain ⟨q0, z0, _, _⟩ := DataW.trod_int Try.underlying3 t0
    obtain ⟨q1, z1, _, _⟩ := DataW.trod_int Try.underlying3 t1
    obtain ⟨q2, z2, _, b2⟩ := DataW.trod_int Try.underlying3 t2
    simp only [List.cons.injEq, and_true] at z0 z1 z2
    exact ⟨(q0, q1, q2), z0, z1, z2, b2⟩)
  have hA' : Holds w w.heap.size 3 A len (Lv.actAt (fun i => (g i).1) (fun i => (g i).2.1) (fun i => (g i).2.2)) := hA.congr (fun i j hi hj => by
    unfold Lv.actAt
    have hj' : j = 0 ∨ j = 1 ∨ j = 2 := by have : j < 3 := hj; omega
    rcases hj' with rfl | rfl | rfl
    · exact (hg i hi).1
    · exact (hg i hi).2.1
    · exact (hg i hi).2.2.1)
  by_cases hm : m < 1 ∨ 16 < m
  · exact Lv.levelDoes_bad m hm _ w
  · obtain ⟨n, rfl⟩ : ∃ n : Nat, m = (n : Int) := ⟨m.toNat, by omega⟩
    exact Lv.levelDoes_ok n (by omega) (by omega) A len c _ _ _ w (Nat.le_trans hlc hc) hA' (fun i hi => by
      have := bounds_i64 (hg i hi).2.2.2
      omega)

set_option maxRecDepth 100000 in
theorem lifted (os : Os) (started : os.Started) (H : Type) (enc : TypeId × Value → H) :
    ReturnsInHanded {} Try.checked os 3 .any (Rows.levelDoesSpec.pre6 enc Try.prog Try.f3 Rows.levelDoesRow.domain false) (Rows.levelDoesSpec.post enc Try.prog Try.f3 false true false false) := by
  refine returnsInHanded_of_change (C := Try.checked) own started (by kernel_rfl) Try.func3
    (ChangeSpec.witness6 (enc := enc) (C := Try.checked) false ⟨#[], #[.int .i64 0,.slice none 0 0], []⟩ 8 (by kernel_rfl) (by kernel_rfl) (by kernel_rfl) (by kernel_rfl)) ?_
  intro W base args ds gs before hval0 hW hcnd _
  have hval : ∀ (j : Nat) t v, Try.f3.params[j]? = some t → args[j]? = some v → Value.okWide Try.prog W .any base t v := hval0
  have hW' := hW
  obtain ⟨p, q, hA0, hV, hpq, hfz, hnd⟩ := hW
  have hlt : ∀ x ∈ p, x.block < W.heap.size := fun x hx => hW'.lt x (by rw [hpq]; exact List.mem_append_left _ hx)
  have hA : DataW.TrodAll enc Try.prog W 0 (fun _ => true) true Try.f3.params.toList args.toList ds p := hA0
  rw [Try.params3] at hA hval
  obtain ⟨v0, vs0, d0, ds0, p0, q0, hargs, rfl, rfl, h0, r0⟩ := trodAll_cons hA
  obtain ⟨v1, vs1, d1, ds1, p1, q1, rfl, rfl, rfl, h1, r1⟩ := trodAll_cons r0
  obtain ⟨rfl, rfl, rfl⟩ := trodAll_nil r1
  obtain rfl : args = #[v0, v1] := by cases args; simp_all
  obtain ⟨rfl, rfl⟩ := trodVars_none hV
  clear hA0 hval0
  refine (walk enc W base v0 d0 p0 v1 d1 p1 (hval 0 3 v0 rfl rfl) h0 (fun x hx => hlt x (by simp [hx])) (hval 1 22 v1 rfl rfl) h1 (fun x hx => hlt x (by simp [hx]))).mono fun e W' ⟨he, hg⟩ => ?_
  subst he
  exact ⟨_, rfl, law_post (by kernel_rfl) (by rw [Try.params3]; simp only [List.forall_mem_cons, List.not_mem_nil, false_imp_iff, implies_true, and_true]; exact ⟨⟨by kernel_rfl, of_decide_eq_true (by kernel_rfl)⟩, ⟨by kernel_rfl, of_decide_eq_true (by kernel_rfl)⟩⟩) rfl Try.underlying4 hW' rfl rfl rfl rfl hg⟩

theorem over : Rows.levelDoesRow.holds Try.pinned (OpenSpec.ofChange Rows.levelDoesSpec) :=
  OpenClaim.holds_of_wide 3 Try.f3 rfl rfl rfl rfl rfl rfl rfl ⟨rfl, rfl, rfl, rfl, rfl⟩ rfl rfl rfl rfl rfl (by kernel_rfl) Try.func3 (by kernel_rfl)
    (of_decide_eq_true (by kernel_rfl)) (by unfold Func.isWrapper; first | (rw [if_pos (by decide +kernel)]; kernel_rfl) | (rw [if_neg (by decide +kernel)]; exact ⟨rfl, rfl⟩))
    (fun os started H enc _ => lifted os started H enc)

theorem proved : Rows.LevelDoesSaid :=
  over
#print axioms proved
end Go.Proofs.Ytafhkjipjgkkkaa.levelDoes
