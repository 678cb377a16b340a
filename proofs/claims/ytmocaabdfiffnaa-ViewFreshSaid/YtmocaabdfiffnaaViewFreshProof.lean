/- How many numbers any two images have, or that one number has two blocks. PROVED: 'Rows.ViewFreshSaid' ('cellaret/cellaretlaw33.ViewFresh'), for every input, without a condition. -/
import Derived.Test.YtmocaabdfiffnaaRows
import Derived.WalkKit
import Derived.ProofKit
import Derived.Test.YtmocaabdfiffnaaVwFreLaw
import Derived.Test.YtmocaabdfiffnaaVwOpen
import Derived.Test.YtmocaabdfiffnaaLists
namespace Go.Proofs.Ytmocaabdfiffnaa.viewFresh
open Go.ChangeShapes Go.WideShapes Go.ChangeAt Go.RowKit Go.Proofs.Ytmocaabdfiffnaa.W
set_option linter.unusedVariables false
set_option linter.unusedSimpArgs false

theorem own : ownKnob Try.prog.godebug = none := by kernel_rfl

theorem cells : Try.prog.cellsOf 51 = 2 := by kernel_rfl
theorem image_on {A : Option Addr} {n c : Nat} {K : Nat → Int} {S : Nat → ByteArray} {w : World} (hn : n ≤ maxLen) (hA : Holds w w.heap.size 2 A n (Ct.chAt K S)) (hS : ∀ i, i < n → (S i).size ≤ maxLen) :
    ∀ W, Below w.heap.size w W → Calls Try.prog 6 #[.slice A n c] W fun e w' => e = .returned (.string (Ct.imgB K S n)) ∧ Below W.heap.size W w' := fun W hb =>
  Ct.image_any A n c K S hn W (fun h => by
    obtain ⟨b, off, h1, h2, h3⟩ := hA h
    exact ⟨b, off, h1, Nat.lt_of_lt_of_le h2 hb.size, fun i j hi hj => (hb.cell (p := ⟨b, off + i * 2 + j, none⟩) h2).trans (h3 i j hi hj)⟩) hS

theorem walk {H : Type} (enc : TypeId × Value → H) (w : World) (base : Nat) (v0 : Value) (d0 : DataW H) (p0 : List MemPlace) (v1 : Value) (d1 : DataW H) (p1 : List MemPlace)
    (k0 : Value.okWide Try.prog w .any base 22 v0) (h0 : DataW.Trod enc Try.prog w 0 (fun _ => true) true 22 v0 d0 p0) (l0 : ∀ x ∈ p0, x.block < w.heap.size)
    (k1 : Value.okWide Try.prog w .any base 22 v1) (h1 : DataW.Trod enc Try.prog w 0 (fun _ => true) true 22 v1 d1 p1) (l1 : ∀ x ∈ p1, x.block < w.heap.size)
    : Calls Try.prog 4 #[v0, v1] w fun e w' => e = .returned (.bool true) ∧ Below w.heap.size w w' := by
  obtain ⟨A1, n1, c1, f1, rfl, hlc1, hc1, hA1, hf1⟩ := open_structs Try.underlying22 Try.underlying51 (by kernel_rfl) cells (by decide) k0 h0 l0
  obtain ⟨A2, n2, c2, f2, rfl, hlc2, hc2, hA2, hf2⟩ := open_structs Try.underlying22 Try.underlying51 (by kernel_rfl) cells (by decide) k1 h1 l1
  obtain ⟨K1, S1, hA1', hS1⟩ := Ct.open_changes hA1 (fun i hi => by obtain ⟨y, k, t, _⟩ := hf1 i 0 _ hi rfl; exact ⟨y, k, t⟩) (fun i hi => by obtain ⟨y, k, t, _⟩ := hf1 i 1 _ hi rfl; exact ⟨y, k, t⟩)
  obtain ⟨K2, S2, hA2', hS2⟩ := Ct.open_changes hA2 (fun i hi => by obtain ⟨y, k, t, _⟩ := hf2 i 0 _ hi rfl; exact ⟨y, k, t⟩) (fun i hi => by obtain ⟨y, k, t, _⟩ := hf2 i 1 _ hi rfl; exact ⟨y, k, t⟩)
  exact Ct.viewFresh_walk A1 A2 n1 c1 n2 c2 (fun d => if d = 0 then Ct.imgB K1 S1 n1 else Ct.imgB K2 S2 n2) (fun d hd => by
    show (if d = 0 then Ct.imgB K1 S1 n1 else Ct.imgB K2 S2 n2).size = 18432
    split <;> exact Ct.imgB_size _ _ _) w (viewFresh.image_on (Nat.le_trans hlc1 hc1) hA1' hS1) (viewFresh.image_on (Nat.le_trans hlc2 hc2) hA2' hS2)

set_option maxRecDepth 100000 in
theorem lifted (os : Os) (started : os.Started) (H : Type) (enc : TypeId × Value → H) :
    ReturnsInHanded {} Try.checked os 4 .any (Rows.viewFreshSpec.pre6 enc Try.prog Try.f4 Rows.viewFreshRow.domain false) (Rows.viewFreshSpec.post enc Try.prog Try.f4 false true false false) := by
  refine returnsInHanded_of_change (C := Try.checked) own started (by kernel_rfl) Try.func4
    (ChangeSpec.witness6 (enc := enc) (C := Try.checked) false ⟨#[], #[.slice none 0 0,.slice none 0 0], []⟩ 8 (by kernel_rfl) (by kernel_rfl) (by kernel_rfl) (by kernel_rfl)) ?_
  intro W base args ds gs before hval0 hW hcnd _
  have hval : ∀ (j : Nat) t v, Try.f4.params[j]? = some t → args[j]? = some v → Value.okWide Try.prog W .any base t v := hval0
  have hW' := hW
  obtain ⟨p, q, hA0, hV, hpq, hfz, hnd⟩ := hW
  have hlt : ∀ x ∈ p, x.block < W.heap.size := fun x hx => hW'.lt x (by rw [hpq]; exact List.mem_append_left _ hx)
  have hA : DataW.TrodAll enc Try.prog W 0 (fun _ => true) true Try.f4.params.toList args.toList ds p := hA0
  rw [Try.params4] at hA hval
  obtain ⟨v0, vs0, d0, ds0, p0, q0, hargs, rfl, rfl, h0, r0⟩ := trodAll_cons hA
  obtain ⟨v1, vs1, d1, ds1, p1, q1, rfl, rfl, rfl, h1, r1⟩ := trodAll_cons r0
  obtain ⟨rfl, rfl, rfl⟩ := trodAll_nil r1
  obtain rfl : args = #[v0, v1] := by cases args; simp_all
  obtain ⟨rfl, rfl⟩ := trodVars_none hV
  clear hA0 hval0
  refine (walk enc W base v0 d0 p0 v1 d1 p1 (hval 0 22 v0 rfl rfl) h0 (fun x hx => hlt x (by simp [hx])) (hval 1 22 v1 rfl rfl) h1 (fun x hx => hlt x (by simp [hx]))).mono fun e W' ⟨he, hg⟩ => ?_
  subst he
  exact ⟨_, rfl, law_post (by kernel_rfl) (by rw [Try.params4]; simp only [List.forall_mem_cons, List.not_mem_nil, false_imp_iff, implies_true, and_true]; exact ⟨⟨by kernel_rfl, of_decide_eq_true (by kernel_rfl)⟩, ⟨by kernel_rfl, of_decide_eq_true (by kernel_rfl)⟩⟩) rfl Try.underlying4 hW' rfl rfl rfl rfl hg⟩

theorem over : Rows.viewFreshRow.holds Try.pinned (OpenSpec.ofChange Rows.viewFreshSpec) :=
  OpenClaim.holds_of_wide 4 Try.f4 rfl rfl rfl rfl rfl rfl rfl ⟨rfl, rfl, rfl, rfl, rfl⟩ rfl rfl rfl rfl rfl (by kernel_rfl) Try.func4 (by kernel_rfl)
    (of_decide_eq_true (by kernel_rfl)) (by unfold Func.isWrapper; first | (rw [if_pos (by decide +kernel)]; kernel_rfl) | (rw [if_neg (by decide +kernel)]; exact ⟨rfl, rfl⟩))
    (fun os started H enc _ => lifted os started H enc)

theorem proved : Rows.ViewFreshSaid :=
  over
#print axioms proved
end Go.Proofs.Ytmocaabdfiffnaa.viewFresh
