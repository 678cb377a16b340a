/- Any two phases' product, and any one's square, rounded as the page says. PROVED: 'Rows.PhaseMulsSaid' ('cellaret/cellaretlaw07.PhaseMuls'), for every input, without a condition. -/
import Derived.Test.YtknchfalmjpiiaaRows
import Derived.WalkKit
import Derived.ProofKit
import Derived.Test.YtknchfalmjpiiaaPhaseMulsLaw
import Derived.Test.YtknchfalmjpiiaaOpen
namespace Go.Proofs.Ytknchfalmjpiiaa.phaseMuls
open Go.ChangeShapes Go.WideShapes Go.ChangeAt Go.RowKit Go.Proofs.Ytknchfalmjpiiaa.W
set_option linter.unusedVariables false
set_option linter.unusedSimpArgs false

theorem own : ownKnob Try.prog.godebug = none := by kernel_rfl

theorem cF : Try.prog.cellsOf 24 = 5 := by kernel_rfl
theorem c1 : Try.prog.cellsOf 22 = 1 := by kernel_rfl
theorem c2 : Try.prog.cellsOf 3 = 1 := by kernel_rfl

theorem walk {H : Type} (enc : TypeId × Value → H) (w : World) (base : Nat) (v0 : Value) (d0 : DataW H) (p0 : List MemPlace)
    (k0 : Value.okWide Try.prog w .any base 24 v0) (h0 : DataW.Trod enc Try.prog w 0 (fun _ => true) true 24 v0 d0 p0) (l0 : ∀ x ∈ p0, x.block < w.heap.size)
    : Calls Try.prog 7 #[v0] w fun e w' => e = .returned (.bool true) ∧ Below w.heap.size w w' := by
  obtain ⟨cs, n, rfl, hsz, hf⟩ := open_fields Try.underlying24 k0 h0
  obtain ⟨c0, c1, c2, c3, c4, rfl⟩ := cells5 (hsz.trans cF)
  obtain ⟨y0, e0, _⟩ := hf 0 _ rfl
  obtain ⟨y1, e1, _⟩ := hf 1 _ rfl
  obtain ⟨y2, e2, _⟩ := hf 2 _ rfl
  obtain ⟨y3, e3, _⟩ := hf 3 _ rfl
  obtain ⟨y4, e4, _⟩ := hf 4 _ rfl
  simp [phaseMuls.c1, phaseMuls.c2] at e0 e1 e2 e3 e4
  obtain ⟨x, rfl, b0⟩ := trod_float Try.underlying22 e0
  obtain ⟨y, rfl, b1⟩ := trod_float Try.underlying22 e1
  obtain ⟨n, z0, _, b2⟩ := DataW.trod_int Try.underlying3 e2
  obtain ⟨u, rfl, b3⟩ := trod_float Try.underlying22 e3
  obtain ⟨v, rfl, b4⟩ := trod_float Try.underlying22 e4
  simp only [List.cons.injEq, and_true] at z0
  subst z0
  exact Ph.phaseMuls_walk x y u v n (float_lt b0) (float_lt b1) (float_lt b3) (float_lt b4) w

set_option maxRecDepth 100000 in
theorem lifted (os : Os) (started : os.Started) (H : Type) (enc : TypeId × Value → H) :
    ReturnsInHanded {} Try.checked os 7 .any (Rows.phaseMulsSpec.pre6 enc Try.prog Try.f7 Rows.phaseMulsRow.domain false) (Rows.phaseMulsSpec.post enc Try.prog Try.f7 false true false false) := by
  refine returnsInHanded_of_change (C := Try.checked) own started (by kernel_rfl) Try.func7
    (ChangeSpec.witness6 (enc := enc) (C := Try.checked) false ⟨#[], #[.agg #[.float .f64 0, .float .f64 0, .int .i64 0, .float .f64 0, .float .f64 0]], []⟩ 8 (by kernel_rfl) (by kernel_rfl) (by kernel_rfl) (by kernel_rfl)) ?_
  intro W base args ds gs before hval0 hW hcnd _
  have hval : ∀ (j : Nat) t v, Try.f7.params[j]? = some t → args[j]? = some v → Value.okWide Try.prog W .any base t v := hval0
  have hW' := hW
  obtain ⟨p, q, hA0, hV, hpq, hfz, hnd⟩ := hW
  have hlt : ∀ x ∈ p, x.block < W.heap.size := fun x hx => hW'.lt x (by rw [hpq]; exact List.mem_append_left _ hx)
  have hA : DataW.TrodAll enc Try.prog W 0 (fun _ => true) true Try.f7.params.toList args.toList ds p := hA0
  rw [Try.params7] at hA hval
  obtain ⟨v0, vs0, d0, ds0, p0, q0, hargs, rfl, rfl, h0, r0⟩ := trodAll_cons hA
  obtain ⟨rfl, rfl, rfl⟩ := trodAll_nil r0
  obtain rfl : args = #[v0] := by cases args; simp_all
  obtain ⟨rfl, rfl⟩ := trodVars_none hV
  clear hA0 hval0
  refine (walk enc W base v0 d0 p0 (hval 0 24 v0 rfl rfl) h0 (fun x hx => hlt x (by simp [hx]))).mono fun e W' ⟨he, hg⟩ => ?_
  subst he
  exact ⟨_, rfl, law_post (by kernel_rfl) (by rw [Try.params7]; simp only [List.forall_mem_cons, List.not_mem_nil, false_imp_iff, implies_true, and_true]; exact ⟨by kernel_rfl, of_decide_eq_true (by kernel_rfl)⟩) rfl Try.underlying4 hW' rfl rfl rfl rfl hg⟩

theorem over : Rows.phaseMulsRow.holds Try.pinned (OpenSpec.ofChange Rows.phaseMulsSpec) :=
  OpenClaim.holds_of_wide 7 Try.f7 rfl rfl rfl rfl rfl rfl rfl ⟨rfl, rfl, rfl, rfl, rfl⟩ rfl rfl rfl rfl rfl (by kernel_rfl) Try.func7 (by kernel_rfl)
    (of_decide_eq_true (by kernel_rfl)) (by unfold Func.isWrapper; first | (rw [if_pos (by decide +kernel)]; kernel_rfl) | (rw [if_neg (by decide +kernel)]; exact ⟨rfl, rfl⟩))
    (fun os started H enc _ => lifted os started H enc)

theorem proved : Rows.PhaseMulsSaid :=
  over
#print axioms proved
end Go.Proofs.Ytknchfalmjpiiaa.phaseMuls
