/- Any key's stream of any number, and any text xored with it, are what the document says. PROVED: 'Rows.CtrStreamsSaid' ('cellaret/cellaretlaw05.CtrStreams'), for every input, without a condition. -/
import Derived.Test.YtikhaocpohfcnaaRows
import Derived.WalkKit
import Derived.ProofKit
import Derived.Test.YtikhaocpohfcnaaCtrStreamsLaw
import Derived.Test.YtikhaocpohfcnaaOpen
namespace Go.Proofs.Ytikhaocpohfcnaa.ctrStreams
open Go.ChangeShapes Go.WideShapes Go.ChangeAt Go.RowKit Go.Proofs.Ytikhaocpohfcnaa.W
set_option linter.unusedVariables false
set_option linter.unusedSimpArgs false

theorem own : ownKnob Try.prog.godebug = none := by kernel_rfl

theorem cF : Try.prog.cellsOf 23 = 4 := by kernel_rfl
theorem c1 : Try.prog.cellsOf 9 = 1 := by kernel_rfl
theorem c2 : Try.prog.cellsOf 3 = 1 := by kernel_rfl

theorem walk {H : Type} (enc : TypeId × Value → H) (w : World) (base : Nat) (v0 : Value) (d0 : DataW H) (p0 : List MemPlace)
    (k0 : Value.okWide Try.prog w .any base 23 v0) (h0 : DataW.Trod enc Try.prog w 0 (fun _ => true) true 23 v0 d0 p0) (l0 : ∀ x ∈ p0, x.block < w.heap.size)
    : Calls Try.prog 3 #[v0] w fun e w' => e = .returned (.bool true) ∧ Below w.heap.size w w' := by
  obtain ⟨cs, n, rfl, hsz, hf⟩ := open_fields Try.underlying23 k0 h0
  obtain ⟨c0, c1, c2, c3, rfl⟩ := cells4 (hsz.trans cF)
  obtain ⟨y0, e0, _⟩ := hf 0 _ rfl
  obtain ⟨y1, e1, _⟩ := hf 1 _ rfl
  obtain ⟨y2, e2, _⟩ := hf 2 _ rfl
  obtain ⟨y3, e3, _⟩ := hf 3 _ rfl
  simp [ctrStreams.c1, ctrStreams.c2] at e0 e1 e2 e3
  obtain ⟨a, z0, _, _⟩ := DataW.trod_string Try.underlying9 e0
  obtain ⟨m, z1, _, _⟩ := DataW.trod_int Try.underlying3 e1
  obtain ⟨k, z2, _, _⟩ := DataW.trod_int Try.underlying3 e2
  obtain ⟨t, z3, _, _⟩ := DataW.trod_string Try.underlying9 e3
  simp only [List.cons.injEq, and_true] at z0 z1 z2 z3
  subst z0 z1 z2 z3
  exact Ct.ctrStreams_walk a t m k w

set_option maxRecDepth 100000 in
theorem lifted (os : Os) (started : os.Started) (H : Type) (enc : TypeId × Value → H) :
    ReturnsInHanded {} Try.checked os 3 .any (Rows.ctrStreamsSpec.pre6 enc Try.prog Try.f3 Rows.ctrStreamsRow.domain false) (Rows.ctrStreamsSpec.post enc Try.prog Try.f3 false true false false) := by
  refine returnsInHanded_of_change (C := Try.checked) own started (by kernel_rfl) Try.func3
    (ChangeSpec.witness6 (enc := enc) (C := Try.checked) false ⟨#[], #[.agg #[.string ⟨#[]⟩, .int .i64 0, .int .i64 0, .string ⟨#[]⟩]], []⟩ 8 (by kernel_rfl) (by kernel_rfl) (by kernel_rfl) (by kernel_rfl)) ?_
  intro W base args ds gs before hval0 hW hcnd _
  have hval : ∀ (j : Nat) t v, Try.f3.params[j]? = some t → args[j]? = some v → Value.okWide Try.prog W .any base t v := hval0
  have hW' := hW
  obtain ⟨p, q, hA0, hV, hpq, hfz, hnd⟩ := hW
  have hlt : ∀ x ∈ p, x.block < W.heap.size := fun x hx => hW'.lt x (by rw [hpq]; exact List.mem_append_left _ hx)
  have hA : DataW.TrodAll enc Try.prog W 0 (fun _ => true) true Try.f3.params.toList args.toList ds p := hA0
  rw [Try.params3] at hA hval
  obtain ⟨v0, vs0, d0, ds0, p0, q0, hargs, rfl, rfl, h0, r0⟩ := trodAll_cons hA
  obtain ⟨rfl, rfl, rfl⟩ := trodAll_nil r0
  obtain rfl : args = #[v0] := by cases args; simp_all
  obtain ⟨rfl, rfl⟩ := trodVars_none hV
  clear hA0 hval0
  refine (walk enc W base v0 d0 p0 (hval 0 23 v0 rfl rfl) h0 (fun x hx => hlt x (by simp [hx]))).mono fun e W' ⟨he, hg⟩ => ?_
  subst he
  exact ⟨_, rfl, law_post (by kernel_rfl) (by rw [Try.params3]; simp only [List.forall_mem_cons, List.not_mem_nil, false_imp_iff, implies_true, and_true]; exact ⟨by kernel_rfl, of_decide_eq_true (by kernel_rfl)⟩) rfl Try.underlying4 hW' rfl rfl rfl rfl hg⟩

theorem over : Rows.ctrStreamsRow.holds Try.pinned (OpenSpec.ofChange Rows.ctrStreamsSpec) :=
  OpenClaim.holds_of_wide 3 Try.f3 rfl rfl rfl rfl rfl rfl rfl ⟨rfl, rfl, rfl, rfl, rfl⟩ rfl rfl rfl rfl rfl (by kernel_rfl) Try.func3 (by kernel_rfl)
    (of_decide_eq_true (by kernel_rfl)) (by unfold Func.isWrapper; first | (rw [if_pos (by decide +kernel)]; kernel_rfl) | (rw [if_neg (by decide +kernel)]; exact ⟨rfl, rfl⟩))
    (fun os started H enc _ => lifted os started H enc)

theorem proved : Rows.CtrStreamsSaid :=
  over
#print axioms proved
end Go.Proofs.Ytikhaocpohfcnaa.ctrStreams
