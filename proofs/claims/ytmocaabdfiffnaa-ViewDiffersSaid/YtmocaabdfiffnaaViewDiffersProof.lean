/- Where any two images differ; the check of the key does not count. PROVED: 'Rows.ViewDiffersSaid' ('cellaret/cellaretlaw33.ViewDiffers'), for every input, without a condition. -/
import Derived.Test.YtmocaabdfiffnaaRows
import Derived.WalkKit
import Derived.ProofKit
import Derived.Test.YtmocaabdfiffnaaVwDifLaw
import Derived.Test.YtmocaabdfiffnaaVwOpen
import Derived.Test.YtmocaabdfiffnaaLists
import Derived.Test.YtmocaabdfiffnaaListsCell
import Derived.Test.YtmocaabdfiffnaaOpen
namespace Go.Proofs.Ytmocaabdfiffnaa.viewDiffers
open Go.ChangeShapes Go.WideShapes Go.ChangeAt Go.RowKit Go.Proofs.Ytmocaabdfiffnaa.W
set_option linter.unusedVariables false
set_option linter.unusedSimpArgs false

theorem own : ownKnob Try.prog.godebug = none := by kernel_rfl

theorem cells : Try.prog.cellsOf 51 = 2 := by kernel_rfl
theorem cF : Try.prog.cellsOf 25 = 35 := by kernel_rfl
theorem cS : Try.prog.cellsOf 22 = 1 := by kernel_rfl
theorem cB : Try.prog.cellsOf 4 = 1 := by kernel_rfl
theorem cU : Try.prog.cellsOf 5 = 1 := by kernel_rfl
theorem cC : Try.prog.cellsOf 23 = 32 := by kernel_rfl
theorem one_at (cs : Array Value) {j : Nat} (h : j < cs.size) : (cs.toList.drop j).take 1 = [cs.getD j undef] := by
  have hlt : j < cs.toList.length := by simpa using h
  rw [List.drop_eq_getElem_cons hlt]
  simp [Array.getD, h]
theorem part_at (cs : Array Value) {i : Nat} (hi : i < 32) (h : cs.size = 35) : (((cs.toList.drop 3).take 32).drop i).take 1 = [cs.getD (3 + i) undef] := by
  rw [List.drop_take, List.take_take, List.drop_drop, Nat.min_eq_left (by omega)]
  exact one_at cs (by omega)
theorem changes {H : Type} {enc : TypeId × Value → H} {w : World} {fuel : Nat} {v : Value} {x : DataW H × List MemPlace} (h : DataW.trod enc Try.prog w 0 (fun _ => true) true fuel 22 [v] = some x) (hlt : ∀ y ∈ x.2, y.block < w.heap.size) :
    ∃ (A : Option Addr) (n c : Nat) (K : Nat → Int) (S : Nat → ByteArray), v = .slice A n c ∧ n ≤ maxLen ∧ Holds w w.heap.size 2 A n (Ct.chAt K S) ∧ ∀ i, i < n → (S i).size ≤ maxLen := by
  obtain ⟨A, len, c, f, rfl, hlc, hc, hA, hf⟩ := open_structs_cell Try.underlying22 Try.underlying51 (by kernel_rfl) cells (by decide) h hlt
  obtain ⟨K, S, hA', hS⟩ := Ct.open_changes hA (fun i hi => by obtain ⟨y, k, t, _⟩ := hf i 0 _ hi rfl; exact ⟨y, k, t⟩) (fun i hi => by obtain ⟨y, k, t, _⟩ := hf i 1 _ hi rfl; exact ⟨y, k, t⟩)
  exact ⟨A, len, c, K, S, rfl, Nat.le_trans hlc hc, hA', hS⟩
theorem image_on {A : Option Addr} {n c : Nat} {K : Nat → Int} {S : Nat → ByteArray} {w : World} (hn : n ≤ maxLen) (hA : Holds w w.heap.size 2 A n (Ct.chAt K S)) (hS : ∀ i, i < n → (S i).size ≤ maxLen) :
    ∀ W, Below w.heap.size w W → Calls Try.prog 6 #[.slice A n c] W fun e w' => e = .returned (.string (Ct.imgB K S n)) ∧ Below W.heap.size W w' := fun W hb =>
  Ct.image_any A n c K S hn W (fun h => by
    obtain ⟨b, off, h1, h2, h3⟩ := hA h
    exact ⟨b, off, h1, Nat.lt_of_lt_of_le h2 hb.size, fun i j hi hj => (hb.cell (p := ⟨b, off + i * 2 + j, none⟩) h2).trans (h3 i j hi hj)⟩) hS

theorem walk {H : Type} (enc : TypeId × Value → H) (w : World) (base : Nat) (v0 : Value) (d0 : DataW H) (p0 : List MemPlace)
    (k0 : Value.okWide Try.prog w .any base 25 v0) (h0 : DataW.Trod enc Try.prog w 0 (fun _ => true) true 25 v0 d0 p0) (l0 : ∀ x ∈ p0, x.block < w.heap.size)
    : Calls Try.prog 3 #[v0] w fun e w' => e = .returned (.bool true) ∧ Below w.heap.size w w' := by
  obtain ⟨cs, n, rfl, hsz, hf⟩ := open_fields Try.underlying25 k0 h0
  have hsz' : cs.size = 35 := hsz.trans viewDiffers.cF
  obtain ⟨y0, e0, p0'⟩ := hf 0 _ rfl
  obtain ⟨y1, e1, p1⟩ := hf 1 _ rfl
  obtain ⟨y2, e2, p2⟩ := hf 2 _ rfl
  obtain ⟨y3, e3, p3⟩ := hf 3 _ rfl
  have e0' : DataW.trod enc Try.prog w 0 (fun _ => true) true n 22 [cs.getD 0 undef] = some y0 := by
    rw [← viewDiffers.one_at cs (j := 0) (by omega), ← viewDiffers.cS]
    exact e0
  have e1' : DataW.trod enc Try.prog w 0 (fun _ => true) true n 22 [cs.getD 1 undef] = some y1 := by
    rw [← viewDiffers.one_at cs (j := 1) (by omega), ← viewDiffers.cS]
    exact e1
  have e2' : DataW.trod enc Try.prog w 0 (fun _ => true) true n 4 [cs.getD 2 undef] = some y2 := by
    rw [← viewDiffers.one_at cs (j := 2) (by omega), ← viewDiffers.cB]
    exact e2
  have e3' : DataW.trod enc Try.prog w 0 (fun _ => true) true n 23 ((cs.toList.drop 3).take 32) = some y3 := by
    rw [← viewDiffers.cC]
    exact e3
  obtain ⟨A1, n1, c1, K1, S1, v0, hn1, hA1, hS1⟩ := viewDiffers.changes e0' (fun z hz => l0 z (p0' z hz))
  obtain ⟨A2, n2, c2, K2, S2, v1, hn2, hA2, hS2⟩ := viewDiffers.changes e1' (fun z hz => l0 z (p1 z hz))
  obtain ⟨slow, v2, _⟩ := DataW.trod_bool Try.underlying4 e2'
  obtain ⟨xs, m, _, hx, hl, hlen, hg⟩ := DataW.trod_array Try.underlying23 e3'
  obtain ⟨k, hk⟩ := choose1 (α := BitVec 8) (n := 32) (Q := fun i q => cs.getD (3 + i) undef = .int .u8 (q.toNat : Int)) (fun i hi => by
    have h1 := hg i hi
    rw [viewDiffers.cU, Nat.mul_one, viewDiffers.part_at cs hi hsz', List.getElem?_eq_getElem (by omega)] at h1
    obtain ⟨q, z0, _, w0⟩ := DataW.trod_int Try.underlying5 h1
    obtain ⟨x, rfl⟩ := byte_of w0
    simp only [List.cons.injEq, and_true] at z0
    exact ⟨x, z0⟩)
  have hcs : cs = row 35 (fun i => cs.getD i undef) := by
    apply Array.ext
    · rw [row_size]; exact hsz'
    · intro i h1 h2
      simp [row, Array.getD, h1]
  simp only [List.cons.injEq, and_true] at v2
  rw [hcs]
  exact Ct.viewDiffers_walk A1 A2 n1 c1 n2 c2 slow k (fun i => cs.getD i undef) v0 v1 v2 (fun j hj => hk j hj) _ _ (Ct.imgB_size _ _ _) (Ct.imgB_size _ _ _) w (viewDiffers.image_on hn1 hA1 hS1) (viewDiffers.image_on hn2 hA2 hS2)

set_option maxRecDepth 100000 in
theorem lifted (os : Os) (started : os.Started) (H : Type) (enc : TypeId × Value → H) :
    ReturnsInHanded {} Try.checked os 3 .any (Rows.viewDiffersSpec.pre6 enc Try.prog Try.f3 Rows.viewDiffersRow.domain false) (Rows.viewDiffersSpec.post enc Try.prog Try.f3 false true false false) := by
  refine returnsInHanded_of_change (C := Try.checked) own started (by kernel_rfl) Try.func3
    (ChangeSpec.witness6 (enc := enc) (C := Try.checked) false ⟨#[], #[.agg #[.slice none 0 0, .slice none 0 0, .bool false, .int .u8 0, .int .u8 0, .int .u8 0, .int .u8 0, .int .u8 0, .int .u8 0, .int .u8 0, .int .u8 0, .int .u8 0, .int .u8 0, .int .u8 0, .int .u8 0, .int .u8 0, .int .u8 0, .int .u8 0, .int .u8 0, .int .u8 0, .int .u8 0, .int .u8 0, .int .u8 0, .int .u8 0, .int .u8 0, .int .u8 0, .int .u8 0, .int .u8 0, .int .u8 0, .int .u8 0, .int .u8 0, .int .u8 0, .int .u8 0, .int .u8 0, .int .u8 0]], []⟩ 8 (by kernel_rfl) (by kernel_rfl) (by kernel_rfl) (by kernel_rfl)) ?_
  intro W base args ds gs before hval0 hW hcnd _
  have hval : ∀ (j : Nat) t v, Try.f3.params[j]? = some t → args[j]? = some v → Value.okWide Try.prog W .any base t v := hval0
  have hW' := hW
  obtain ⟨p, q, hA0, hV, hpq, hfz, hnd⟩ := hW
  have hlt : ∀ x ∈ p, x.block < W.heap.size := fun x hx => hW'.lt x (by rw [hpq]; exact List.mem_append_left _ hx)
  have hA : DataW.TrodAll enc Try.prog W 0 (fun _ => true) true Try.f3.params.toList args.toList ds p := hA0
  rw [Try.params3] at hA hval
  obtain ⟨v0, vs0, d0, ds0, p0, q0, hargs, rfl, rfl, h0, r0⟩ := trodAll_cons hA
  obtain ⟨rfl, rfl, rfl⟩ := trodAll_nil r0
  obtain rfl : args = #[v0] := by cases args; simp_all
  obtain ⟨rfl, rfl⟩ := trodVars_none hV
  clear hA0 hval0
  refine (walk enc W base v0 d0 p0 (hval 0 25 v0 rfl rfl) h0 (fun x hx => hlt x (by simp [hx]))).mono fun e W' ⟨he, hg⟩ => ?_
  subst he
  exact ⟨_, rfl, law_post (by kernel_rfl) (by rw [Try.params3]; simp only [List.forall_mem_cons, List.not_mem_nil, false_imp_iff, implies_true, and_true]; exact ⟨by kernel_rfl, of_decide_eq_true (by kernel_rfl)⟩) rfl Try.underlying4 hW' rfl rfl rfl rfl hg⟩

theorem over : Rows.viewDiffersRow.holds Try.pinned (OpenSpec.ofChange Rows.viewDiffersSpec) :=
  OpenClaim.holds_of_wide 3 Try.f3 rfl rfl rfl rfl rfl rfl rfl ⟨rfl, rfl, rfl, rfl, rfl⟩ rfl rfl rfl rfl rfl (by kernel_rfl) Try.func3 (by kernel_rfl)
    (of_decide_eq_true (by kernel_rfl)) (by unfold Func.isWrapper; first | (rw [if_pos (by decide +kernel)]; kernel_rfl) | (rw [if_neg (by decide +kernel)]; exact ⟨rfl, rfl⟩))
    (fun os started H enc _ => lifted os started H enc)

theorem proved : Rows.ViewDiffersSaid :=
  over
#print axioms proved
end Go.Proofs.Ytmocaabdfiffnaa.viewDiffers
