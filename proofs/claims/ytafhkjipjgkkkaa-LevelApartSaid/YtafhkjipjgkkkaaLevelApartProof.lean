/- A copied queue and its source go their own ways. PROVED: 'Rows.LevelApartSaid' ('cellaret/cellaretlaw24.LevelApart'), for every input, without a condition. -/
import Derived.Test.YtafhkjipjgkkkaaRows
import Derived.WalkKit
import Derived.ProofKit
import Derived.Test.YtafhkjipjgkkkaaLevApart
import Derived.Test.YtafhkjipjgkkkaaOpen
import Derived.Test.YtafhkjipjgkkkaaListsCell
namespace Go.Proofs.Ytafhkjipjgkkkaa.levelApart
open Go.ChangeShapes Go.WideShapes Go.ChangeAt Go.RowKit Go.Proofs.Ytafhkjipjgkkkaa.W
set_option linter.unusedVariables false
set_option linter.unusedSimpArgs false

theorem own : ownKnob Try.prog.godebug = none := by kernel_rfl

theorem cells : Try.prog.cellsOf 35 = 3 := by kernel_rfl
theorem cF : Try.prog.cellsOf 47 = 6 := by kernel_rfl
theorem cS : Try.prog.cellsOf 22 = 1 := by kernel_rfl
theorem cU : Try.prog.cellsOf 5 = 1 := by kernel_rfl
theorem cI : Try.prog.cellsOf 3 = 1 := by kernel_rfl
theorem acts {H : Type} {enc : TypeId × Value → H} {w : World} {fuel : Nat} {v : Value} {x : DataW H × List MemPlace} (h : DataW.trod enc Try.prog w 0 (fun _ => true) true fuel 22 [v] = some x) (hlt : ∀ y ∈ x.2, y.block < w.heap.size) :
    ∃ (A : Option Addr) (len c : Nat) (K I N : Nat → Int), v = .slice A len c ∧ len ≤ maxLen ∧ Holds w w.heap.size 3 A len (Lv.actAt K I N) ∧ ∀ i, i < len → -9223372036854775808 ≤ N i ∧ N i ≤ 9223372036854775807 := by
  obtain ⟨A, len, c, f, rfl, hlc, hc, hA, hf⟩ := open_structs_cell Try.underlying22 Try.underlying35 (by kernel_rfl) cells (by decide) h hlt
  obtain ⟨g, hg⟩ := choose1 (α := Int × Int × Int) (n := len) (Q := fun i q => f i 0 = .int .i64 q.1 ∧ f i 1 = .int .i64 q.2.1 ∧ f i 2 = .int .i64 q.2.2 ∧ (Lit.int .i64 q.2.2).wf = true) (fun i hi => by
    obtain ⟨y0, j0, t0, _⟩ := hf i 0 _ hi rfl
    obtain ⟨y1, j1, t1, _⟩ := hf i 1 _ hi rfl
    obtain ⟨y2, j2, t2, _⟩ := hf i 2 _ hi rfl
    obtain ⟨q0, z0, _, _⟩ := DataW.trod_int Try.underlying3 t0
    obtain ⟨q1, z1, _, _⟩ := DataW.trod_int Try.underlying3 t1
    obtain ⟨q2, z2, _, b2⟩ := DataW.trod_int Try.underlying3 t2
    simp only [List.cons.injEq, and_true] at z0 z1 z2
    exact ⟨(q0, q1, q2), z0, z1, z2, b2⟩)
  refine ⟨A, len, c, _, _, _, rfl, Nat.le_trans hlc hc, hA.congr (g := Lv.actAt (fun i => (g i).1) (fun i => (g i).2.1) (fun i => (g i).2.2)) (fun i j hi hj => ?_), fun i hi => ?_⟩
  · unfold Lv.actAt
    have hj' : j = 0 ∨ j = 1 ∨ j = 2 := by have : j < 3 := hj; omega
    rcases hj' with rfl | rfl | rfl
    · exact (hg i hi).1
    · exact (hg i hi).2.1
    · exact (hg i hi).2.2.1
  · have := bounds_i64 (hg i hi).2.2.2
    omega

theorem walk {H : Type} (enc : TypeId × Value → H) (w : World) (base : Nat) (v0 : Value) (d0 : DataW H) (p0 : List MemPlace)
    (k0 : Value.okWide Try.prog w .any base 47 v0) (h0 : DataW.Trod enc Try.prog w 0 (fun _ => true) true 47 v0 d0 p0) (l0 : ∀ x ∈ p0, x.block < w.heap.size)
    : Calls Try.prog 6 #[v0] w fun e w' => e = .returned (.bool true) ∧ Below w.heap.size w w' := by
  obtain ⟨cs, n, rfl, hsz, hf⟩ := open_fields Try.underlying47 k0 h0
  obtain ⟨c0, c1, c2, c3, c4, c5, rfl⟩ := cells6 (hsz.trans cF)
  obtain ⟨y0, e0, _⟩ := hf 0 _ rfl
  obtain ⟨y1, e1, p1⟩ := hf 1 _ rfl
  obtain ⟨y2, e2, p2⟩ := hf 2 _ rfl
  obtain ⟨y3, e3, _⟩ := hf 3 _ rfl
  simp [levelApart.cS, levelApart.cU, levelApart.cells] at e0 e1 e2 e3
  obtain ⟨m, z0, _, w0⟩ := DataW.trod_int Try.underlying5 e0
  obtain ⟨x, rfl⟩ := byte_of w0
  obtain ⟨xs, n', _, _, _, hlen, hg⟩ := DataW.trod_struct Try.underlying35 e3
  have g0 := hg 0 _ rfl
  have g1 := hg 1 _ rfl
  have g2 := hg 2 _ rfl
  have hlen' : xs.length = 3 := hlen
  rw [List.getElem?_eq_getElem (by omega)] at g0 g1 g2
  simp [levelApart.cI] at g0 g1 g2
  obtain ⟨q0, z3, _, _⟩ := DataW.trod_int Try.underlying3 g0
  obtain ⟨q1, z4, _, _⟩ := DataW.trod_int Try.underlying3 g1
  obtain ⟨q2, z5, _, _⟩ := DataW.trod_int Try.underlying3 g2
  obtain ⟨A1, len1, d1, K1, I1, N1, rfl, hl1, hA1, hN1⟩ := levelApart.acts e1 (fun z hz => l0 z (p1 z hz))
  obtain ⟨A2, len2, d2, K2, I2, N2, rfl, hl2, hA2, hN2⟩ := levelApart.acts e2 (fun z hz => l0 z (p2 z hz))
  simp only [List.cons.injEq, and_true] at z0 z3 z4 z5
  subst z0 z3 z4 z5
  exact Lv.levelApart_walk x.toNat x.isLt A1 A2 len1 d1 len2 d2 K1 I1 N1 K2 I2 N2 q0 q1 q2 w hl1 hl2 hA1 hN1 hA2 hN2

set_option maxRecDepth 100000 in
theorem lifted (os : Os) (started : os.Started) (H : Type) (enc : TypeId × Value → H) :
    ReturnsInHanded {} Try.checked os 6 .any (Rows.levelApartSpec.pre6 enc Try.prog Try.f6 Rows.levelApartRow.domain false) (Rows.levelApartSpec.post enc Try.prog Try.f6 false true false false) := by
  refine returnsInHanded_of_change (C := Try.checked) own started (by kernel_rfl) Try.func6
    (ChangeSpec.witness6 (enc := enc) (C := Try.checked) false ⟨#[], #[.agg #[.int .u8 0, .slice none 0 0, .slice none 0 0, .int .i64 0, .int .i64 0, .int .i64 0]], []⟩ 8 (by kernel_rfl) (by kernel_rfl) (by kernel_rfl) (by kernel_rfl)) ?_
  intro W base args ds gs before hval0 hW hcnd _
  have hval : ∀ (j : Nat) t v, Try.f6.params[j]? = some t → args[j]? = some v → Value.okWide Try.prog W .any base t v := hval0
  have hW' := hW
  obtain ⟨p, q, hA0, hV, hpq, hfz, hnd⟩ := hW
  have hlt : ∀ x ∈ p, x.block < W.heap.size := fun x hx => hW'.lt x (by rw [hpq]; exact List.mem_append_left _ hx)
  have hA : DataW.TrodAll enc Try.prog W 0 (fun _ => true) true Try.f6.params.toList args.toList ds p := hA0
  rw [Try.params6] at hA hval
  obtain ⟨v0, vs0, d0, ds0, p0, q0, hargs, rfl, rfl, h0, r0⟩ := trodAll_cons hA
  obtain ⟨rfl, rfl, rfl⟩ := trodAll_nil r0
  obtain rfl : args = #[v0] := by cases args; simp_all
  obtain ⟨rfl, rfl⟩ := trodVars_none hV
  clear hA0 hval0
  refine (walk enc W base v0 d0 p0 (hval 0 47 v0 rfl rfl) h0 (fun x hx => hlt x (by simp [hx]))).mono fun e W' ⟨he, hg⟩ => ?_
  subst he
  exact ⟨_, rfl, law_post (by kernel_rfl) (by rw [Try.params6]; simp only [List.forall_mem_cons, List.not_mem_nil, false_imp_iff, implies_true, and_true]; exact ⟨by kernel_rfl, of_decide_eq_true (by kernel_rfl)⟩) rfl Try.underlying4 hW' rfl rfl rfl rfl hg⟩

theorem over : Rows.levelApartRow.holds Try.pinned (OpenSpec.ofChange Rows.levelApartSpec) :=
  OpenClaim.holds_of_wide 6 Try.f6 rfl rfl rfl rfl rfl rfl rfl ⟨rfl, rfl, rfl, rfl, rfl⟩ rfl rfl rfl rfl rfl (by kernel_rfl) Try.func6 (by kernel_rfl)
    (of_decide_eq_true (by kernel_rfl)) (by unfold Func.isWrapper; first | (rw [if_pos (by decide +kernel)]; kernel_rfl) | (rw [if_neg (by decide +kernel)]; exact ⟨rfl, rfl⟩))
    (fun os started H enc _ => lifted os started H enc)

theorem proved : Rows.LevelApartSaid :=
  over
#print axioms proved
end Go.Proofs.Ytafhkjipjgkkkaa.levelApart
