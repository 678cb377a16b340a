/- What is advised may be. PROVED: 'Rows.SmqAdvisesSaid' ('cellaret/cellaretlaw25.SmqAdvises'), for every input, without a condition. -/
import Derived.Test.YtadlfebpaijbhaaRows
import Derived.WalkKit
import Derived.ProofKit
import Derived.Test.YtadlfebpaijbhaaSmqAdv
import Derived.Test.YtadlfebpaijbhaaOpen
import Derived.Test.YtadlfebpaijbhaaListsCell
namespace Go.Proofs.Ytadlfebpaijbhaa.smqAdvises
open Go.ChangeShapes Go.WideShapes Go.ChangeAt Go.RowKit Go.Proofs.Ytadlfebpaijbhaa.W
set_option linter.unusedVariables false
set_option linter.unusedSimpArgs false

theorem own : ownKnob Try.prog.godebug = none := by kernel_rfl

theorem cells : Try.prog.cellsOf 30 = 2 := by kernel_rfl
theorem cF : Try.prog.cellsOf 40 = 26 := by kernel_rfl
theorem cS : Try.prog.cellsOf 22 = 1 := by kernel_rfl
theorem c16 : Try.prog.cellsOf 35 = 16 := by kernel_rfl
theorem c8 : Try.prog.cellsOf 38 = 8 := by kernel_rfl
theorem cB : Try.prog.cellsOf 4 = 1 := by kernel_rfl
theorem cI : Try.prog.cellsOf 3 = 1 := by kernel_rfl
theorem one_at (cs : Array Value) {j : Nat} (h : j < cs.size) : (cs.toList.drop j).take 1 = [cs.getD j undef] := by
  have hlt : j < cs.toList.length := by simpa using h
  rw [List.drop_eq_getElem_cons hlt]
  simp [Array.getD, h]
theorem part_at (cs : Array Value) {o m i : Nat} (hi : i < m) (h : o + m ≤ cs.size) : (((cs.toList.drop o).take m).drop i).take 1 = [cs.getD (o + i) undef] := by
  rw [List.drop_take, List.take_take, List.drop_drop, Nat.min_eq_left (by omega)]
  exact one_at cs (by omega)
theorem acts {H : Type} {enc : TypeId × Value → H} {w : World} {fuel : Nat} {v : Value} {x : DataW H × List MemPlace} (h : DataW.trod enc Try.prog w 0 (fun _ => true) true fuel 22 [v] = some x) (hlt : ∀ y ∈ x.2, y.block < w.heap.size) :
    ∃ (A : Option Addr) (len c : Nat) (K I : Nat → Int), v = .slice A len c ∧ len ≤ maxLen ∧ Holds w w.heap.size 2 A len (Lv.actA K I) := by
  obtain ⟨A, len, c, f, rfl, hlc, hc, hA, hf⟩ := open_structs_cell Try.underlying22 Try.underlying30 (by kernel_rfl) cells (by decide) h hlt
  obtain ⟨g, hg⟩ := choose1 (α := Int × Int) (n := len) (Q := fun i q => f i 0 = .int .i64 q.1 ∧ f i 1 = .int .i64 q.2) (fun i hi => by
    obtain ⟨y0, j0, t0, _⟩ := hf i 0 _ hi rfl
    obtain ⟨y1, j1, t1, _⟩ := hf i 1 _ hi rfl
    obtain ⟨q0, z0, _, _⟩ := DataW.trod_int Try.underlying3 t0
    obtain ⟨q1, z1, _, _⟩ := DataW.trod_int Try.underlying3 t1
    simp only [List.cons.injEq, and_true] at z0 z1
    exact ⟨(q0, q1), z0, z1⟩)
  refine ⟨A, len, c, fun i => (g i).1, fun i => (g i).2, rfl, Nat.le_trans hlc hc, hA.congr (fun i j hi hj => ?_)⟩
  unfold Lv.actA
  have hj' : j = 0 ∨ j = 1 := by have : j < 2 := hj; omega
  rcases hj' with rfl | rfl
  · rw [if_pos rfl]; exact (hg i hi).1
  · rw [if_neg (by omega)]; exact (hg i hi).2

theorem walk {H : Type} (enc : TypeId × Value → H) (w : World) (base : Nat) (v0 : Value) (d0 : DataW H) (p0 : List MemPlace)
    (k0 : Value.okWide Try.prog w .any base 40 v0) (h0 : DataW.Trod enc Try.prog w 0 (fun _ => true) true 40 v0 d0 p0) (l0 : ∀ x ∈ p0, x.block < w.heap.size)
    : Calls Try.prog 5 #[v0] w fun e w' => e = .returned (.bool true) ∧ Below w.heap.size w w' := by
  obtain ⟨cs, n, rfl, hsz, hf⟩ := open_fields Try.underlying40 k0 h0
  have hsz' : cs.size = 26 := hsz.trans smqAdvises.cF
  obtain ⟨y0, e0, p0'⟩ := hf 0 _ rfl
  obtain ⟨y1, e1, p1⟩ := hf 1 _ rfl
  obtain ⟨y2, e2, p2⟩ := hf 2 _ rfl
  obtain ⟨y3, e3, p3⟩ := hf 3 _ rfl
  have e0' : DataW.trod enc Try.prog w 0 (fun _ => true) true n 22 [cs.getD 0 undef] = some y0 := by
    rw [← smqAdvises.one_at cs (j := 0) (by omega), ← smqAdvises.cS]
    exact e0
  have e1' : DataW.trod enc Try.prog w 0 (fun _ => true) true n 35 ((cs.toList.drop 1).take 16) = some y1 := by
    rw [← smqAdvises.c16]
    exact e1
  have e2' : DataW.trod enc Try.prog w 0 (fun _ => true) true n 38 ((cs.toList.drop 17).take 8) = some y2 := by
    rw [← smqAdvises.c8]
    exact e2
  have e3' : DataW.trod enc Try.prog w 0 (fun _ => true) true n 3 [cs.getD 25 undef] = some y3 := by
    rw [← smqAdvises.one_at cs (j := 25) (by omega), ← smqAdvises.cI]
    exact e3
  obtain ⟨A, len, c, K, I, v0, hl, hA⟩ := smqAdvises.acts e0' (fun z hz => l0 z (p0' z hz))
  obtain ⟨xs, m, _, hx, hxl, hlen, hg⟩ := DataW.trod_array Try.underlying35 e1'
  obtain ⟨C, hC⟩ := choose1 (α := Bool) (n := 16) (Q := fun i q => cs.getD (1 + i) undef = .bool q) (fun i hi => by
    have h1 := hg i hi
    rw [smqAdvises.cB, Nat.mul_one, smqAdvises.part_at cs hi (by omega), List.getElem?_eq_getElem (by omega)] at h1
    obtain ⟨q, z0, _⟩ := DataW.trod_bool Try.underlying4 h1
    simp only [List.cons.injEq, and_true] at z0
    exact ⟨q, z0⟩)
  obtain ⟨xs2, m2, _, hx2, hxl2, hlen2, hg2⟩ := DataW.trod_array Try.underlying38 e2'
  obtain ⟨M, hM⟩ := choose1 (α := Bool) (n := 8) (Q := fun i q => cs.getD (17 + i) undef = .bool q) (fun i hi => by
    have h1 := hg2 i hi
    rw [smqAdvises.cB, Nat.mul_one, smqAdvises.part_at cs hi (by omega), List.getElem?_eq_getElem (by omega)] at h1
    obtain ⟨q, z0, _⟩ := DataW.trod_bool Try.underlying4 h1
    simp only [List.cons.injEq, and_true] at z0
    exact ⟨q, z0⟩)
  obtain ⟨draw, z3, _, b3⟩ := DataW.trod_int Try.underlying3 e3'
  simp only [List.cons.injEq, and_true] at z3
  have hb := bounds_i64 b3
  have hcs : cs = row 26 (fun i => cs.getD i undef) := by
    apply Array.ext
    · rw [row_size]; exact hsz'
    · intro i h1 h2
      simp [row, Array.getD, h1]
  rw [hcs]
  exact Lv.smqAdvises_walk A len c K I C M draw (fun i => cs.getD i undef) v0 (fun j hj => hC j hj) (fun j hj => hM j hj) z3 (by omega) (by omega) w hl hA

set_option maxRecDepth 100000 in
theorem lifted (os : Os) (started : os.Started) (H : Type) (enc : TypeId × Value → H) :
    ReturnsInHanded {} Try.checked os 5 .any (Rows.smqAdvisesSpec.pre6 enc Try.prog Try.f5 Rows.smqAdvisesRow.domain false) (Rows.smqAdvisesSpec.post enc Try.prog Try.f5 false true false false) := by
  refine returnsInHanded_of_change (C := Try.checked) own started (by kernel_rfl) Try.func5
    (ChangeSpec.witness6 (enc := enc) (C := Try.checked) false ⟨#[], #[.agg #[.slice none 0 0, .bool false, .bool false, .bool false, .bool false, .bool false, .bool false, .bool false, .bool false, .bool false, .bool false, .bool false, .bool false, .bool false, .bool false, .bool false, .bool false, .bool false, .bool false, .bool false, .bool false, .bool false, .bool false, .bool false, .bool false, .int .i64 0]], []⟩ 8 (by kernel_rfl) (by kernel_rfl) (by kernel_rfl) (by kernel_rfl)) ?_
  intro W base args ds gs before hval0 hW hcnd _
  have hval : ∀ (j : Nat) t v, Try.f5.params[j]? = some t → args[j]? = some v → Value.okWide Try.prog W .any base t v := hval0
  have hW' := hW
  obtain ⟨p, q, hA0, hV, hpq, hfz, hnd⟩ := hW
  have hlt : ∀ x ∈ p, x.block < W.heap.size := fun x hx => hW'.lt x (by rw [hpq]; exact List.mem_append_left _ hx)
  have hA : DataW.TrodAll enc Try.prog W 0 (fun _ => true) true Try.f5.params.toList args.toList ds p := hA0
  rw [Try.params5] at hA hval
  obtain ⟨v0, vs0, d0, ds0, p0, q0, hargs, rfl, rfl, h0, r0⟩ := trodAll_cons hA
  obtain ⟨rfl, rfl, rfl⟩ := trodAll_nil r0
  obtain rfl : args = #[v0] := by cases args; simp_all
  obtain ⟨rfl, rfl⟩ := trodVars_none hV
  clear hA0 hval0
  refine (walk enc W base v0 d0 p0 (hval 0 40 v0 rfl rfl) h0 (fun x hx => hlt x (by simp [hx]))).mono fun e W' ⟨he, hg⟩ => ?_
  subst he
  exact ⟨_, rfl, law_post (by kernel_rfl) (by rw [Try.params5]; simp only [List.forall_mem_cons, List.not_mem_nil, false_imp_iff, implies_true, and_true]; exact ⟨by kernel_rfl, of_decide_eq_true (by kernel_rfl)⟩) rfl Try.underlying4 hW' rfl rfl rfl rfl hg⟩

theorem over : Rows.smqAdvisesRow.holds Try.pinned (OpenSpec.ofChange Rows.smqAdvisesSpec) :=
  OpenClaim.holds_of_wide 5 Try.f5 rfl rfl rfl rfl rfl rfl rfl ⟨rfl, rfl, rfl, rfl, rfl⟩ rfl rfl rfl rfl rfl (by kernel_rfl) Try.func5 (by kernel_rfl)
    (of_decide_eq_true (by kernel_rfl)) (by unfold Func.isWrapper; first | (rw [if_pos (by decide +kernel)]; kernel_rfl) | (rw [if_neg (by decide +kernel)]; exact ⟨rfl, rfl⟩))
    (fun os started H enc _ => lifted os started H enc)

theorem proved : Rows.SmqAdvisesSaid :=
  over
#print axioms proved
end Go.Proofs.Ytadlfebpaijbhaa.smqAdvises
