/- The rate of OK answers and the error answered most of any acts and answers are what the document says. PROVED: 'Rows.TallyRatesSaid' ('cellaret/cellaretlaw35.TallyRates'), for every input, without a condition. -/
import Derived.Test.YtmkhicaaemghiaaRows
import Derived.WalkKit
import Derived.ProofKit
import Derived.Test.YtmkhicaaemghiaaTallyOpen
import Derived.Test.YtmkhicaaemghiaaTallyRatesLaw
import Derived.SizedLaws
namespace Go.Proofs.Ytmkhicaaemghiaa.tallyRates
open Go.ChangeShapes Go.WideShapes Go.ChangeAt Go.RowKit Go.Proofs.Ytmkhicaaemghiaa.W
set_option linter.unusedVariables false
set_option linter.unusedSimpArgs false

theorem own : ownKnob Try.prog.godebug = none := by kernel_rfl

theorem walk {H : Type} (enc : TypeId × Value → H) (w : World) (base : Nat) (v0 : Value) (d0 : DataW H) (p0 : List MemPlace) (v1 : Value) (d1 : DataW H) (p1 : List MemPlace)
    (k0 : Value.okWide Try.prog w .any base 22 v0) (h0 : DataW.Trod enc Try.prog w 0 (fun _ => true) true 22 v0 d0 p0) (l0 : ∀ x ∈ p0, x.block < w.heap.size)
    (k1 : Value.okWide Try.prog w .any base 23 v1) (h1 : DataW.Trod enc Try.prog w 0 (fun _ => true) true 23 v1 d1 p1) (l1 : ∀ x ∈ p1, x.block < w.heap.size)
    (hsz : (DataW.weightsEach Try.prog [22, 23] [d0, d1]).all (· ≤ reachBytes) = true)
    : Calls Try.prog 4 #[v0, v1] w fun e w' => e = .returned (.bool true) ∧ Below w.heap.size w w' := by
  obtain ⟨A, n, c, F, K, rfl, hn, hc, hA, hd⟩ := Ta.open_acts k0 h0 l0
  obtain ⟨B, m, c', G, E, S, rfl, hm, hc', hB, _⟩ := Ta.open_tolds k1 h1 l1
  have hl : n < 140737488355328 := by
    rcases hd with ⟨_, rfl⟩ | ⟨es, sp, rfl, he⟩
    · omega
    · have h := sized_slice hsz (j := 0) (t := 22) (e := 54) rfl rfl Try.underlying22
      rw [Ta.bAct, he, reachBytes] at h
      omega
  exact Ta.rates_walk n m c c' (min n m) A B F G K E S w hA hB rfl (by omega) (Nat.le_trans hn hc) (Nat.le_trans hm hc')

set_option maxRecDepth 100000 in
theorem lifted (os : Os) (started : os.Started) (H : Type) (enc : TypeId × Value → H) :
    ReturnsInHanded {} Try.checked os 4 .any (Rows.tallyRatesSpec.pre6 enc Try.prog Try.f4 Rows.tallyRatesRow.domain false) (Rows.tallyRatesSpec.post enc Try.prog Try.f4 false true false false) := by
  refine returnsInHanded_of_change_sized (C := Try.checked) own started (by kernel_rfl) Try.func4
    (ChangeSpec.witness6 (enc := enc) (C := Try.checked) false ⟨#[], #[.slice none 0 0, .slice none 0 0], []⟩ 8 (by kernel_rfl) (by kernel_rfl) (by kernel_rfl) (by kernel_rfl)) ?_
  intro W base args ds gs before hval0 hW hcnd hsz0 _
  have hsz : (DataW.weightsEach Try.prog (Try.f4.params.toList ++ Rows.tallyRatesSpec.plain.varTypes Try.prog) (ds ++ gs)).all (· ≤ reachBytes) = true := hsz0
  have hval : ∀ (j : Nat) t v, Try.f4.params[j]? = some t → args[j]? = some v → Value.okWide Try.prog W .any base t v := hval0
  have hW' := hW
  obtain ⟨p, q, hA0, hV, hpq, hfz, hnd⟩ := hW
  have hlt : ∀ x ∈ p, x.block < W.heap.size := fun x hx => hW'.lt x (by rw [hpq]; exact List.mem_append_left _ hx)
  have hA : DataW.TrodAll enc Try.prog W 0 (fun _ => true) true Try.f4.params.toList args.toList ds p := hA0
  rw [Try.params4] at hA hval hsz
  obtain ⟨v0, vs0, d0, ds0, p0, q0, hargs, rfl, rfl, h0, r0⟩ := trodAll_cons hA
  obtain ⟨v1, vs1, d1, ds1, p1, q1, rfl, rfl, rfl, h1, r1⟩ := trodAll_cons r0
  obtain ⟨rfl, rfl, rfl⟩ := trodAll_nil r1
  obtain rfl : args = #[v0, v1] := by cases args; simp_all
  obtain ⟨rfl, rfl⟩ := trodVars_none hV
  clear hA0 hval0
  refine (walk enc W base v0 d0 p0 v1 d1 p1 (hval 0 22 v0 rfl rfl) h0 (fun x hx => hlt x (by simp [hx])) (hval 1 23 v1 rfl rfl) h1 (fun x hx => hlt x (by simp [hx])) hsz).mono fun e W' ⟨he, hg⟩ => ?_
  subst he
  exact ⟨_, rfl, law_post (by kernel_rfl) (by rw [Try.params4]; simp only [List.forall_mem_cons, List.not_mem_nil, false_imp_iff, implies_true, and_true]; exact ⟨⟨by kernel_rfl, of_decide_eq_true (by kernel_rfl)⟩, ⟨by kernel_rfl, of_decide_eq_true (by kernel_rfl)⟩⟩) rfl Try.underlying4 hW' rfl rfl rfl rfl hg⟩

theorem over : Rows.tallyRatesRow.holds Try.pinned (OpenSpec.ofChange Rows.tallyRatesSpec) :=
  OpenClaim.holds_of_wide 4 Try.f4 rfl rfl rfl rfl rfl rfl rfl ⟨rfl, rfl, rfl, rfl, rfl⟩ rfl rfl rfl rfl rfl (by kernel_rfl) Try.func4 (by kernel_rfl)
    (of_decide_eq_true (by kernel_rfl)) (by unfold Func.isWrapper; first | (rw [if_pos (by decide +kernel)]; kernel_rfl) | (rw [if_neg (by decide +kernel)]; exact ⟨rfl, rfl⟩))
    (fun os started H enc _ => lifted os started H enc)

theorem proved : Rows.TallyRatesSaid :=
  over
#print axioms proved
end Go.Proofs.Ytmkhicaaemghiaa.tallyRates
