/- Of every two columns of four elements gf.Column is the product that the document says, and of every two rows gf.Row is. PROVED: 'Rows.GfColumnsSaid' ('cellaret/cellaretlaw02.GfColumns'), for every input, without a condition. -/
import Derived.Test.YtegimagdlcbljaaRows
import Derived.WalkKit
import Derived.ProofKit
import Derived.Test.YtegimagdlcbljaaGfColLaw
import Derived.Lib.SmallJoins
namespace Go.Proofs.Ytegimagdlcbljaa.gfColumns
open Go.ChangeShapes Go.WideShapes Go.ChangeAt Go.RowKit Go.Proofs.Ytegimagdlcbljaa.W
set_option linter.unusedVariables false
set_option linter.unusedSimpArgs false

theorem own : ownKnob Try.prog.godebug = none := by kernel_rfl

theorem cU : Try.prog.cellsOf 36 = 4 := by kernel_rfl
theorem cB : Try.prog.cellsOf 37 = 1 := by kernel_rfl
theorem c8 : Try.prog.cellsOf 5 = 1 := by kernel_rfl
theorem cC : Try.prog.cellsOf 39 = 10 := by kernel_rfl
theorem array10 {α : Type} {cs : Array α} (h : cs.size = 10) : ∃ c0 c1 c2 c3 c4 c5 c6 c7 c8 c9, cs = #[c0, c1, c2, c3, c4, c5, c6, c7, c8, c9] := by
  obtain ⟨l⟩ := cs
  match l, h with
  | [c0, c1, c2, c3, c4, c5, c6, c7, c8, c9], _ => exact ⟨c0, c1, c2, c3, c4, c5, c6, c7, c8, c9, rfl⟩
theorem open_u8 {H : Type} {enc : TypeId × Value → H} {w : World} {fuel : Nat} {c : Value} {y : DataW H × List MemPlace} (h : DataW.trod enc Try.prog w 0 (fun _ => true) true fuel 5 [c] = some y) : ∃ x : BitVec 8, c = .int .u8 (x.toNat : Int) := by
  obtain ⟨a, z0, rfl, w0⟩ := DataW.trod_int Try.underlying5 h
  simp only [List.cons.injEq, and_true] at z0
  subst z0
  obtain ⟨x, rfl⟩ := byte_of w0
  exact ⟨x, rfl⟩

theorem walk {H : Type} (enc : TypeId × Value → H) (w : World) (base : Nat) (v0 : Value) (d0 : DataW H) (p0 : List MemPlace)
    (k0 : Value.okWide Try.prog w .any base 39 v0) (h0 : DataW.Trod enc Try.prog w 0 (fun _ => true) true 39 v0 d0 p0) (l0 : ∀ x ∈ p0, x.block < w.heap.size)
    : Calls Try.prog 7 #[v0] w fun e w' => e = .returned (.bool true) ∧ Below w.heap.size w w' := by
  obtain ⟨cs, rfl, hsz⟩ := okWide_struct Try.underlying39 k0
  obtain ⟨c0, c1, c2, c3, c4, c5, c6, c7, c8', c9, rfl⟩ := array10 (hsz.trans cC)
  obtain ⟨fuel, hf⟩ := h0
  obtain ⟨y0, y1, y2, y3, n, hx, _, e0, e1, e2, e3⟩ := Go.Joins.trod_struct4 Try.underlying39 hf
  simp [Value.cells, cU, cB] at e0 e1 e2 e3
  obtain ⟨_, _, _, _, _, _, g0, g1, g2, g3⟩ := trod_array4 Try.underlying36 c8 e0
  obtain ⟨_, _, _, _, _, _, g4, g5, g6, g7⟩ := trod_array4 Try.underlying36 c8 e1
  obtain ⟨x0, rfl⟩ := open_u8 g0
  obtain ⟨x1, rfl⟩ := open_u8 g1
  obtain ⟨x2, rfl⟩ := open_u8 g2
  obtain ⟨x3, rfl⟩ := open_u8 g3
  obtain ⟨x4, rfl⟩ := open_u8 g4
  obtain ⟨x5, rfl⟩ := open_u8 g5
  obtain ⟨x6, rfl⟩ := open_u8 g6
  obtain ⟨x7, rfl⟩ := open_u8 g7
  obtain ⟨A, la, ca, p, rfl, hla, hca, hA⟩ := open_bytes_cell Try.underlying37 Try.underlying5 c8 e2
  obtain ⟨B, lb, cb, q, rfl, hlb, hcb, hB⟩ := open_bytes_cell Try.underlying37 Try.underlying5 c8 e3
  exact Gf.gfColumns_walk x0 x1 x2 x3 x4 x5 x6 x7 A B la lb ca cb p q w hA hB (Nat.le_trans hla hca) (Nat.le_trans hlb hcb)

set_option maxRecDepth 100000 in
theorem lifted (os : Os) (started : os.Started) (H : Type) (enc : TypeId × Value → H) :
    ReturnsInHanded {} Try.checked os 7 .any (Rows.gfColumnsSpec.pre6 enc Try.prog Try.f7 Rows.gfColumnsRow.domain false) (Rows.gfColumnsSpec.post enc Try.prog Try.f7 false true false false) := by
  refine returnsInHanded_of_change (C := Try.checked) own started (by kernel_rfl) Try.func7
    (ChangeSpec.witness6 (enc := enc) (C := Try.checked) false ⟨#[], #[.agg #[.int .u8 0, .int .u8 0, .int .u8 0, .int .u8 0, .int .u8 0, .int .u8 0, .int .u8 0, .int .u8 0, .slice none 0 0, .slice none 0 0]], []⟩ 8 (by kernel_rfl) (by kernel_rfl) (by kernel_rfl) (by kernel_rfl)) ?_
  intro W base args ds gs before hval0 hW hcnd _
  have hval : ∀ (j : Nat) t v, Try.f7.params[j]? = some t → args[j]? = some v → Value.okWide Try.prog W .any base t v := hval0
  have hW' := hW
  obtain ⟨p, q, hA0, hV, hpq, hfz, hnd⟩ := hW
  have hlt : ∀ x ∈ p, x.block < W.heap.size := fun x hx => hW'.lt x (by rw [hpq]; exact List.mem_append_left _ hx)
  have hA : DataW.TrodAll enc Try.prog W 0 (fun _ => true) true Try.f7.params.toList args.toList ds p := hA0
  rw [Try.params7] at hA hval
  obtain ⟨v0, vs0, d0, ds0, p0, q0, hargs, rfl, rfl, h0, r0⟩ := trodAll_cons hA
  obtain ⟨rfl, rfl, rfl⟩ := trodAll_nil r0
  obtain rfl : args = #[v0] := by cases args; simp_all
  obtain ⟨rfl, rfl⟩ := trodVars_none hV
  clear hA0 hval0
  refine (walk enc W base v0 d0 p0 (hval 0 39 v0 rfl rfl) h0 (fun x hx => hlt x (by simp [hx]))).mono fun e W' ⟨he, hg⟩ => ?_
  subst he
  exact ⟨_, rfl, law_post (by kernel_rfl) (by rw [Try.params7]; simp only [List.forall_mem_cons, List.not_mem_nil, false_imp_iff, implies_true, and_true]; exact ⟨by kernel_rfl, of_decide_eq_true (by kernel_rfl)⟩) rfl Try.underlying4 hW' rfl rfl rfl rfl hg⟩

theorem over : Rows.gfColumnsRow.holds Try.pinned (OpenSpec.ofChange Rows.gfColumnsSpec) :=
  OpenClaim.holds_of_wide 7 Try.f7 rfl rfl rfl rfl rfl rfl rfl ⟨rfl, rfl, rfl, rfl, rfl⟩ rfl rfl rfl rfl rfl (by kernel_rfl) Try.func7 (by kernel_rfl)
    (of_decide_eq_true (by kernel_rfl)) (by unfold Func.isWrapper; first | (rw [if_pos (by decide +kernel)]; kernel_rfl) | (rw [if_neg (by decide +kernel)]; exact ⟨rfl, rfl⟩))
    (fun os started H enc _ => lifted os started H enc)

theorem proved : Rows.GfColumnsSaid :=
  over
#print axioms proved
end Go.Proofs.Ytegimagdlcbljaa.gfColumns
