/- Any counts added, and any beats, whatever they are, turned by any quarters. PROVED: 'Rows.TallyAddsSaid' ('cellaret/cellaretlaw35.TallyAdds'), for every input, without a condition. -/
import Derived.Test.YtmkhicaaemghiaaRows
import Derived.WalkKit
import Derived.ProofKit
import Derived.Test.YtmkhicaaemghiaaTallyAddsLaw
import Derived.Test.YtmkhicaaemghiaaOpen
namespace Go.Proofs.Ytmkhicaaemghiaa.tallyAdds
open Go.ChangeShapes Go.WideShapes Go.ChangeAt Go.RowKit Go.Proofs.Ytmkhicaaemghiaa.W
set_option linter.unusedVariables false
set_option linter.unusedSimpArgs false

theorem own : ownKnob Try.prog.godebug = none := by kernel_rfl

theorem cF : Try.prog.cellsOf 41 = 7 := by kernel_rfl
theorem c1 : Try.prog.cellsOf 35 = 1 := by kernel_rfl
theorem c2 : Try.prog.cellsOf 3 = 1 := by kernel_rfl

theorem walk {H : Type} (enc : TypeId × Value → H) (w : World) (base : Nat) (v0 : Value) (d0 : DataW H) (p0 : List MemPlace)
    (k0 : Value.okWide Try.prog w .any base 41 v0) (h0 : DataW.Trod enc Try.prog w 0 (fun _ => true) true 41 v0 d0 p0) (l0 : ∀ x ∈ p0, x.block < w.heap.size)
    : Calls Try.prog 5 #[v0] w fun e w' => e = .returned (.bool true) ∧ Below w.heap.size w w' := by
  obtain ⟨cs, n, rfl, hsz, hf⟩ := open_fields Try.underlying41 k0 h0
  obtain ⟨c0, c1, c2, c3, c4, c5, c6, rfl⟩ := cells7 (hsz.trans cF)
  obtain ⟨y0, e0, _⟩ := hf 0 _ rfl
  obtain ⟨y1, e1, _⟩ := hf 1 _ rfl
  obtain ⟨y2, e2, _⟩ := hf 2 _ rfl
  obtain ⟨y3, e3, _⟩ := hf 3 _ rfl
  obtain ⟨y4, e4, _⟩ := hf 4 _ rfl
  obtain ⟨y5, e5, _⟩ := hf 5 _ rfl
  obtain ⟨y6, e6, _⟩ := hf 6 _ rfl
  simp [tallyAdds.c1, tallyAdds.c2] at e0 e1 e2 e3 e4 e5 e6
  obtain ⟨n, z0, _, b0⟩ := DataW.trod_int Try.underlying3 e0
  obtain ⟨m, z1, _, b1⟩ := DataW.trod_int Try.underlying3 e1
  obtain ⟨x, rfl, b2⟩ := trod_float Try.underlying35 e2
  obtain ⟨y, rfl, b3⟩ := trod_float Try.underlying35 e3
  obtain ⟨u, rfl, b4⟩ := trod_float Try.underlying35 e4
  obtain ⟨v, rfl, b5⟩ := trod_float Try.underlying35 e5
  obtain ⟨k, z6, _, b6⟩ := DataW.trod_int Try.underlying3 e6
  simp only [List.cons.injEq, and_true] at z0 z1 z6
  subst z0
  subst z1
  subst z6
  have hb := bounds_i64 b6
  exact Ta.tallyAdds_walk n m k x y u v (float_lt b2) (float_lt b3) (float_lt b4) (float_lt b5) (by omega) hb.2 w

set_option maxRecDepth 100000 in
theorem lifted (os : Os) (started : os.Started) (H : Type) (enc : TypeId × Value → H) :
    ReturnsInHanded {} Try.checked os 5 .any (Rows.tallyAddsSpec.pre6 enc Try.prog Try.f5 Rows.tallyAddsRow.domain false) (Rows.tallyAddsSpec.post enc Try.prog Try.f5 false true false false) := by
  refine returnsInHanded_of_change (C := Try.checked) own started (by kernel_rfl) Try.func5
    (ChangeSpec.witness6 (enc := enc) (C := Try.checked) false ⟨#[], #[.agg #[.int .i64 0, .int .i64 0, .float .f64 0, .float .f64 0, .float .f64 0, .float .f64 0, .int .i64 0]], []⟩ 8 (by kernel_rfl) (by kernel_rfl) (by kernel_rfl) (by kernel_rfl)) ?_
  intro W base args ds gs before hval0 hW hcnd _
  have hval : ∀ (j : Nat) t v, Try.f5.params[j]? = some t → args[j]? = some v → Value.okWide Try.prog W .any base t v := hval0
  have hW' := hW
  obtain ⟨p, q, hA0, hV, hpq, hfz, hnd⟩ := hW
  have hlt : ∀ x ∈ p, x.block < W.heap.size := fun x hx => hW'.lt x (by rw [hpq]; exact List.mem_append_left _ hx)
  have hA : DataW.TrodAll enc Try.prog W 0 (fun _ => true) true Try.f5.params.toList args.toList ds p := hA0
  rw [Try.params5] at hA hval
  obtain ⟨v0, vs0, d0, ds0, p0, q0, hargs, rfl, rfl, h0, r0⟩ := trodAll_cons hA
  obtain ⟨rfl, rfl, rfl⟩ := trodAll_nil r0
  obtain rfl : args = #[v0] := by cases args; simp_all
  obtain ⟨rfl, rfl⟩ := trodVars_none hV
  clear hA0 hval0
  refine (walk enc W base v0 d0 p0 (hval 0 41 v0 rfl rfl) h0 (fun x hx => hlt x (by simp [hx]))).mono fun e W' ⟨he, hg⟩ => ?_
  subst he
  exact ⟨_, rfl, law_post (by kernel_rfl) (by rw [Try.params5]; simp only [List.forall_mem_cons, List.not_mem_nil, false_imp_iff, implies_true, and_true]; exact ⟨by kernel_rfl, of_decide_eq_true (by kernel_rfl)⟩) rfl Try.underlying4 hW' rfl rfl rfl rfl hg⟩

theorem over : Rows.tallyAddsRow.holds Try.pinned (OpenSpec.ofChange Rows.tallyAddsSpec) :=
  OpenClaim.holds_of_wide 5 Try.f5 rfl rfl rfl rfl rfl rfl rfl ⟨rfl, rfl, rfl, rfl, rfl⟩ rfl rfl rfl rfl rfl (by kernel_rfl) Try.func5 (by kernel_rfl)
    (of_decide_eq_true (by kernel_rfl)) (by unfold Func.isWrapper; first | (rw [if_pos (by decide +kernel)]; kernel_rfl) | (rw [if_neg (by decide +kernel)]; exact ⟨rfl, rfl⟩))
    (fun os started H enc _ => lifted os started H enc)

theorem proved : Rows.TallyAddsSaid :=
  over
#print axioms proved
end Go.Proofs.Ytmkhicaaemghiaa.tallyAdds
