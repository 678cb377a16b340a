/- The law of spectra, walked. -/
import Derived.Test.YtknchfalmjpiiaaPhaseAwake
import Derived.Test.YtknchfalmjpiiaaPhaseRef
import Derived.Deep.QuietTactic
import Derived.BigQuiet
namespace Go.Proofs.Ytknchfalmjpiiaa.Ph
open Go.RowKit Go.Proofs.Ytknchfalmjpiiaa.W Go.Proofs.Ytknchfalmjpiiaa.Fl
set_option linter.unusedVariables false
set_option linter.unusedSimpArgs false

theorem V_fin {b : Nat} {n : Int} (h : V b n) : finB b = true := by
  obtain ⟨s, m, e, h1, _⟩ := h
  unfold finB
  rw [h1]
theorem res_lt {a b r : Nat} {n : Int} (h : Res (Fl.d.add a b) r) (v : V r n) : r < 18446744073709551616 := by
  rcases h with h | ⟨_, hn⟩
  · exact Fl.add_lt h
  · obtain ⟨s, m, e, h1, _⟩ := v
    unfold Nan Ieee.Datum.isNaN at hn
    rw [h1] at hn
    cases hn
theorem sum_lt {l : Nat → Nat × Nat} {b : Int} {n r s : Nat} {x y : Int} (h : SumIs l b (n + 1) r s) (hr : V r x) (hs : V s y) : r < 18446744073709551616 ∧ s < 18446744073709551616 := by
  obtain ⟨r0, s0, _, h1, h2⟩ := h
  exact ⟨res_lt h1 hr, res_lt h2 hs⟩
/-- The sum of the squares of the first ones. -/
def sumTo (f : Nat → Int) : Nat → Int
  | 0 => 0
  | i + 1 => sumTo f i + f i
theorem sumTo_bound {f : Nat → Int} {M : Int} (h : ∀ i, i < 4 → 0 ≤ f i ∧ f i ≤ M) : ∀ i : Nat, i ≤ 4 → 0 ≤ sumTo f i ∧ sumTo f i ≤ (i : Int) * M
  | 0, _ => by simp [sumTo]
  | i + 1, hi => by
    have h1 := sumTo_bound h i (by omega)
    have h2 := h i (by omega)
    have e : ((i + 1 : Nat) : Int) * M = (i : Int) * M + M := by rw [Int.natCast_add, Int.add_mul]; simp
    rw [e, sumTo]
    omega
theorem parseval (n : Nat → Int) : sumTo (sqI n) 4 = 4 * sumTo (fun i => n i * n i) 4 := by
  simp only [sumTo, sqI, specR, specI]
  simp
  generalize n 0 = a
  generalize n 1 = b
  generalize n 2 = c
  generalize n 3 = e
  simp only [Int.add_mul, Int.mul_add, Int.sub_mul, Int.mul_sub]
  rw [Int.mul_comm b a, Int.mul_comm c a, Int.mul_comm e a, Int.mul_comm c b, Int.mul_comm e b, Int.mul_comm e c]
  omega
theorem count_sq {n : Int} (h : isCount n = true) : 0 ≤ n * n ∧ n * n ≤ 1099511627776 := by
  have hb := natAbs_count h
  constructor
  · exact Int.mul_nonneg hb.1 hb.1
  · exact Int.mul_le_mul hb.2 hb.2 hb.1 (by omega)
theorem neq_no {a b : Nat} {x : Int} (ha : V a x) (hb : V b x) : (FloatKind.f64.format.order a b != some .eq) = false := by
  have := eqV ha hb
  simpa using this
structure SLAt (w : World) (g gr gi : Nat) (n : Nat → Int) (x : Nat → Nat × Nat) (wr : World) : Prop where
  a : Blk wr w.heap.size 43 (row 4 (i64f n))
  x : Blk wr g 44 (row 4 (cpx x))
  r : Blk wr gr 3 (row 4 (i64f (specR n)))
  i : Blk wr gi 3 (row 4 (i64f (specI n)))
  below : Below w.heap.size w wr
theorem SLAt.drewN {w wr : World} {g gr gi : Nat} {n : Nat → Int} {x : Nat → Nat × Nat} (h : SLAt w g gr gi n x wr) (k : Nat) : SLAt w g gr gi n x (wr.drewN k) := ⟨h.a, h.x, h.r, h.i, below_drewN h.below k⟩
def SL1 (w : World) (g gr gi : Nat) (n : Nat → Int) (x : Nat → Nat × Nat) (k : Nat) (s9 s10 s11 s12 : Value) (wr : World) : Prop :=
  ∃ i : Nat, s9 = .int .i64 (bestN (sqI n) (i - 1)).1 ∧ s10 = .int .i64 ((bestN (sqI n) (i - 1)).2 : Int) ∧ s11 = .int .i64 (sumTo (sqI n) i) ∧ s12 = .int .i64 (i : Int) ∧ i + k = 4 ∧ SLAt w g gr gi n x wr
def SL2 (w : World) (gy : Nat) (n : Nat → Int) (y : Nat → Nat × Nat) (k : Nat) (s16 s17 : Value) (wr : World) : Prop :=
  ∃ i : Nat, s16 = .int .i64 (sumTo (fun i => n i * n i) i) ∧ s17 = .int .i64 (i : Int) ∧ i + k = 4 ∧ Blk wr w.heap.size 43 (row 4 (i64f n)) ∧ Blk wr gy 44 (row 4 (cpx y)) ∧ Below w.heap.size w wr
set_option maxRecDepth 100000 in
set_option maxHeartbeats 4000000 in
theorem spectra_no (n : Nat → Int) (h : allC n = false) (w : World) :
    Calls Try.prog 5 #[.agg (row 4 (i64f n))] w fun e w' => e = .returned (.bool true) ∧ Below w.heap.size w w' := by
  have hz := zero_cplx4
  have hlz : ∀ w, (binOp .eql 44 (.agg (row 4 (cpx fun _ => (0, 0)))) (.agg (row 4 (cpx fun _ => (0, 0))))).run Try.prog w = .ok (.bool true) w := fun w => by kernel_rfl
  have HSp := hide (fun W => spectrum_no h W)
  have HBt := hide (fun W => beat_no h W)
  have hrt := fun W => right_any n W
  rw [h] at hrt
  have HRt := hide hrt
  clear h hrt
  go_enter Try.func5, Try.ntmps5
  go_upto_region 1 with fail
  have HA := hide (Blk.newAt w 43 (row 4 (i64f n)) _ rfl)
  have HBl := hide ((Below.refl w.heap.size w).alloc (Nat.le_refl _) (.cells (row 4 (i64f n)) 43))
  generalize hW : w.alloc (.cells (row 4 (i64f n)) 43) = W at HA HBl ⊢
  clear hW
  go_upto_region 2 with (first
    | (with_reducible refine wpList_load_all rfl 43 (.tmp 1) rfl w.heap.size rfl 43 4 _ _ HA.out rfl Try.underlying43 info_i4 ?_)
    | (go_at_call 18; (with_reducible refine (HSp.out _).mono ?_); rintro e w1 ⟨rfl, hb1⟩; have HB1 := hide hb1; clear hb1)
    | (with_reducible refine wpList_store_all rfl 44 (.tmp 3) (.tmp 21) rfl w1.heap.size rfl 44 4 _ _ rfl (Blk.newAt w1 _ _ _ rfl) info_c4 (fun j _ => cpx_one _ j) ?_))
  have hs1 := HB1.out.size
  have hs0 := HBl.out.size
  have HA1 := hide ((((later HB1.out HA.out).alloc (.cells (row 4 (cpx fun _ => (0, 0))) 44))).farRow (p := w1.heap.size) (by have := HA.out.lt; omega) (row 4 (cpx fun _ => (0, 0))))
  have HX1 := hide ((Blk.newAt w1 44 (row 4 (cpx fun _ => (0, 0))) _ rfl).row_ (row 4 (cpx fun _ => (0, 0))))
  have HBl1 := hide (below_setRow ((HBl.out.trans (HB1.out.mono hs0)).alloc (by omega) (.cells (row 4 (cpx fun _ => (0, 0))) 44)) (show w.heap.size ≤ w1.heap.size by omega) (row 4 (cpx fun _ => (0, 0))))
  generalize hW1 : (w1.alloc (.cells (row 4 (cpx fun _ => (0, 0))) 44)).setRow w1.heap.size (row 4 (cpx fun _ => (0, 0))) = W1 at HA1 HX1 HBl1 ⊢
  clear hW1 hs1 hs0
  go_wp2_with (first
    | (with_reducible refine wpList_load_all rfl 43 (.tmp 1) rfl w.heap.size rfl 43 4 _ _ HA1.out rfl Try.underlying43 info_i4 ?_)
    | (go_at_call 19; (with_reducible refine (HBt.out _).mono ?_); rintro e w2 ⟨rfl, hb2⟩; have HB2 := hide hb2; have HA2 := hide (later hb2 HA1.out); clear hb2)
    | (with_reducible refine wpList_load_all rfl 43 (.tmp 1) rfl w.heap.size rfl 43 4 _ _ HA2.out rfl Try.underlying43 info_i4 ?_)
    | (go_at_call 20; (with_reducible refine (HRt.out _).mono ?_); rintro e w3 ⟨rfl, hb3⟩; have HB3 := hide hb3; clear hb3)
    | (go_at_call 16; (with_reducible refine (awake_any _).mono ?_); rintro e w4 ⟨rfl, hb4⟩; have HB4 := hide hb4; clear hb4)
    | (refine wpList_load_met 44 (.tmp 3) rfl (by rfl) w1.heap.size rfl 44 _ _ (later HB4.out (later HB3.out (later HB2.out HX1.out))) rfl Try.underlying44 (by rw [row_size]; kernel_rfl) ?_))
  go_ret
  have a1 := HBl1.out.trans (HB2.out.mono HBl1.out.size)
  have a2 := a1.trans (HB3.out.mono a1.size)
  exact ⟨rfl, a2.trans (HB4.out.mono a2.size)⟩
theorem x_lt {n : Nat → Int} (h : ∀ i, i < 4 → isCount (n i) = true) {x : Nat → Nat × Nat} (hx : ∀ k : Nat, k < 4 → SumIs (inN n 4) (-(k : Int)) 4 (x k).1 (x k).2) : ∀ k, k < 4 → ltP (x k) := fun k hk => by
  obtain ⟨h1, h2⟩ := V_spec h hk (hx k hk)
  exact sum_lt (hx k hk) h1 h2
theorem x_fin {n : Nat → Int} (h : ∀ i, i < 4 → isCount (n i) = true) {x : Nat → Nat × Nat} (hx : ∀ k : Nat, k < 4 → SumIs (inN n 4) (-(k : Int)) 4 (x k).1 (x k).2) : allP x = true := by
  have hf : ∀ k, k < 4 → finP (x k) = true := fun k hk => by
    obtain ⟨h1, h2⟩ := V_spec h hk (hx k hk)
    rw [finP, V_fin h1, V_fin h2]; rfl
  rw [allP, hf 0 (by omega), hf 1 (by omega), hf 2 (by omega), hf 3 (by omega)]
  rfl
theorem V_back {n : Nat → Int} (h : ∀ i, i < 4 → isCount (n i) = true) {x : Nat → Nat × Nat} (hx : ∀ k : Nat, k < 4 → SumIs (inN n 4) (-(k : Int)) 4 (x k).1 (x k).2) {t : Nat} (ht : t < 4) {q : Nat × Nat} (hb : BackIs x t q) : V q.1 (n t) ∧ V q.2 0 := by
  obtain ⟨r, s, h1, h2, h3⟩ := hb
  have hl : ∀ i, i < 4 → V (x i).1 (specR n i) ∧ V (x i).2 (specI n i) ∧ (specR n i).natAbs ≤ 4194304 ∧ (specI n i).natAbs ≤ 4194304 := fun i hi => by
    obtain ⟨e1, e2⟩ := V_spec h hi (hx i hi)
    obtain ⟨e3, e4⟩ := spec_abs h i
    exact ⟨e1, e2, e3, e4⟩
  have hv := V_sum (by decide) hl 4 r s (by omega) h1
  rw [sum_back n ht] at hv
  have hb := natAbs_count (h t ht)
  have h0 : V s (4 * 0) := hv.2.1
  exact ⟨V_quarter hv.1 (by omega) h2, V_quarter h0 (by decide) h3⟩
def BackY (l : Nat → Nat × Nat) (w : World) (e : Ending) (w' : World) : Prop :=
  Below w.heap.size w w' ∧ ∃ x, (∀ k : Nat, k < 4 → BackIs l k (x k)) ∧ e = .returned (.tuple #[.agg (row 4 (cpx x)), .int .i64 0])
theorem back_yes {l : Nat → Nat × Nat} (hlt : ∀ i, i < 4 → ltP (l i)) (h : allP l = true) (w : World) : Calls Try.prog 22 #[.agg (row 4 (cpx l))] w (BackY l w) := by
  refine (back_any l hlt w).mono ?_
  rintro e w' ⟨hb, ⟨_, hx⟩ | ⟨h1, _⟩⟩
  · exact ⟨hb, hx⟩
  · rw [h] at h1; cases h1
set_option maxRecDepth 100000 in
set_option maxHeartbeats 8000000 in
theorem spectra_yes (n : Nat → Int) (h : allC n = true) (w : World) :
    Calls Try.prog 5 #[.agg (row 4 (i64f n))] w fun e w' => e = .returned (.bool true) ∧ Below w.heap.size w w' := by
  have hz := zero_cplx4
  have HSp := hide (fun W => spectrum_yes h W)
  have HBt := hide (fun W => beat_yes h W)
  have hrt := fun W => right_any n W
  rw [h] at hrt
  have HRt := hide hrt
  have HRS := hide (rSpectrum_any n h)
  have HC := hide (allC_yes h)
  clear h hrt
  go_enter Try.func5, Try.ntmps5
  go_upto_region 1 with fail
  have HA := hide (Blk.newAt w 43 (row 4 (i64f n)) _ rfl)
  have HBl := hide ((Below.refl w.heap.size w).alloc (Nat.le_refl _) (.cells (row 4 (i64f n)) 43))
  generalize hW : w.alloc (.cells (row 4 (i64f n)) 43) = W at HA HBl ⊢
  clear hW
  go_upto_region 2 with (first
    | (with_reducible refine wpList_load_all rfl 43 (.tmp 1) rfl w.heap.size rfl 43 4 _ _ HA.out rfl Try.underlying43 info_i4 ?_)
    | (go_at_call 18; (with_reducible refine (HSp.out _).mono ?_); rintro e w1 ⟨hb1, x, hx, rfl⟩; have HB1 := hide hb1; have HX := hide hx; clear hb1 hx)
    | (with_reducible refine wpList_store_all rfl 44 (.tmp 3) (.tmp 21) rfl w1.heap.size rfl 44 4 _ _ rfl (Blk.newAt w1 _ _ _ rfl) info_c4 (fun j _ => cpx_one _ j) ?_))
  have hs1 := HB1.out.size
  have hs0 := HBl.out.size
  have HA1 := hide ((((later HB1.out HA.out).alloc (.cells (row 4 (cpx fun _ => (0, 0))) 44))).farRow (p := w1.heap.size) (by have := HA.out.lt; omega) (row 4 (cpx x)))
  have HX1 := hide ((Blk.newAt w1 44 (row 4 (cpx fun _ => (0, 0))) _ rfl).row_ (row 4 (cpx x)))
  have HBl1 := hide (below_setRow ((HBl.out.trans (HB1.out.mono hs0)).alloc (by omega) (.cells (row 4 (cpx fun _ => (0, 0))) 44)) (show w.heap.size ≤ w1.heap.size by omega) (row 4 (cpx x)))
  generalize hW1 : (w1.alloc (.cells (row 4 (cpx fun _ => (0, 0))) 44)).setRow w1.heap.size (row 4 (cpx x)) = W1 at HA1 HX1 HBl1 ⊢
  clear hW1 hs1 hs0
  obtain ⟨gx, hgx⟩ : ∃ g, w1.heap.size = g := ⟨_, rfl⟩
  rw [hgx] at HX1 ⊢
  go_wp2_with (first
    | (with_reducible refine wpList_load_all rfl 43 (.tmp 1) rfl w.heap.size rfl 43 4 _ _ HA1.out rfl Try.underlying43 info_i4 ?_)
    | (go_at_call 19; (with_reducible refine (HBt.out _).mono ?_); rintro e w2 ⟨rfl, hb2⟩; have HB2 := hide hb2; have HA2 := hide (later hb2 HA1.out); clear hb2)
    | (with_reducible refine wpList_load_all rfl 43 (.tmp 1) rfl w.heap.size rfl 43 4 _ _ HA2.out rfl Try.underlying43 info_i4 ?_)
    | (go_at_call 20; (with_reducible refine (HRt.out _).mono ?_); rintro e w3 ⟨rfl, hb3⟩; have HB3 := hide hb3; have HA3 := hide (later hb3 HA2.out); clear hb3)
    | (with_reducible refine wpList_load_all rfl 43 (.tmp 1) rfl w.heap.size rfl 43 4 _ _ HA3.out rfl Try.underlying43 info_i4 ?_)
    | (go_at_call 21; (with_reducible refine (HRS.out _).mono ?_); rintro e w4 ⟨gr, gi, hr4, hi4, hb4, rfl⟩; have HB4 := hide hb4; have HR4 := hide hr4; have HI4 := hide hi4; clear hb4 hr4 hi4))
  have HS4 : Hid (SLAt w gx gr gi n x w4) := hide (by
    have a1 := HBl1.out.trans (HB2.out.mono HBl1.out.size)
    have a2 := a1.trans (HB3.out.mono a1.size)
    exact ⟨later HB4.out HA3.out, later HB4.out (later HB3.out (later HB2.out HX1.out)), HR4.out, HI4.out, a2.trans (HB4.out.mono a2.size)⟩)
  clear HA HBl HA1 HX1 HBl1 HA2 HA3 HR4 HI4 HB4 HB3 HB2 HB1 hgx
  go_loopg [9, 10, 11, 12] 4 (fun k s9 s10 s11 s12 wr => SL1 w gx gr gi n x k s9 s10 s11 s12 wr)
  case atStart => exact ⟨0, rfl, rfl, rfl, rfl, rfl, HS4.out⟩
  case round =>
    clear HS4
    obtain ⟨i, rfl, rfl, rfl, rfl, hk, hs⟩ := hrel
    have HS := hide hs
    clear hs
    obtain ⟨bv, hbv⟩ : ∃ z, bestN (sqI n) (i - 1) = z := ⟨_, rfl⟩
    obtain ⟨S, hS⟩ : ∃ z, sumTo (sqI n) i = z := ⟨_, rfl⟩
    rw [hbv, hS]
    have hSb := sumTo_bound (fun j _ => sqI_bound HC.out j) i (by omega)
    rw [hS] at hSb
    obtain ⟨hS0, hS1⟩ := hSb
    have hS2 : S ≤ 140737488355328 := by
      have : (i : Int) * 35184372088832 ≤ 4 * 35184372088832 := Int.mul_le_mul_of_nonneg_right (by omega) (by omega)
      omega
    have HBV := hide hbv
    have HSS := hide hS
    clear hbv hS hS1
    by_cases hi : i < 4
    · have hgk : 0 < gk := by omega
      have hi' : (i : Int) < 4 := by omega
      have cx := HS.out.x.at hi
      have cr := HS.out.r.at hi
      have ci := HS.out.i.at hi
      unfold cpx at cx
      unfold i64f at cr ci
      obtain ⟨v1, v2⟩ := V_spec HC.out hi (HX.out i hi)
      obtain ⟨b1, b2⟩ := spec_abs HC.out i
      have n1 := neq_no v1 (V_ofInt (specR n i) (by omega))
      have n2 := neq_no v2 (V_ofInt (specI n i) (by omega))
      have hsq := sqI_bound HC.out i
      obtain ⟨c1, c2⟩ := sq_bound b1
      obtain ⟨c3, c4⟩ := sq_bound b2
      have hsqe : sqI n i = specR n i * specR n i + specI n i * specI n i := rfl
      obtain ⟨a, ha⟩ : ∃ a, specR n i = a := ⟨_, rfl⟩
      obtain ⟨b, hb⟩ : ∃ a, specI n i = a := ⟨_, rfl⟩
      obtain ⟨m, hm⟩ : ∃ a, sqI n i = a := ⟨_, rfl⟩
      rw [ha] at cr n1 c1 c2 hsqe
      rw [hb] at ci n2 c3 c4 hsqe
      rw [hm] at hsqe hsq
      obtain ⟨p, hp⟩ : ∃ p, a * a = p := ⟨_, rfl⟩
      obtain ⟨q, hq⟩ : ∃ p, b * b = p := ⟨_, rfl⟩
      rw [hp] at c1 c2 hsqe
      rw [hq] at c3 c4 hsqe
      have w1 : IntKind.i64.wrap (a * a) = p := by rw [hp]; exact IntWalk.i64_in _ (by omega)
      have w2 : IntKind.i64.wrap (b * b) = q := by rw [hq]; exact IntWalk.i64_in _ (by omega)
      have w3 : IntKind.i64.wrap (p + q) = m := by rw [← hsqe]; exact IntWalk.i64_in _ (by omega)
      obtain ⟨hm0, hm1⟩ := hsq
      have HM := hide hm
      clear v1 v2 b1 b2 c1 c2 c3 c4 hsqe ha hb hm hp hq
      go_wp2_with fail
      go_quiet (fail)
      go_wp2_with fail
      go_quiet (fail)
      clear w1 w2 w3 n1 n2 cx cr ci
      have HRel : Hid (∀ (bb : Int) (at_ : Nat), bestN (sqI n) i = (bb, at_) → ∀ W, SLAt w gx gr gi n x W → SL1 w gx gr gi n x (gk - 1) (.int .i64 bb) (.int .i64 (at_ : Int)) (.int .i64 (S + m)) (.int .i64 ((i : Int) + 1)) W) := hide (by
        intro bb at_ h1 W h2
        refine ⟨i + 1, ?_, ?_, ?_, by go_num, by omega, h2⟩
        · rw [Nat.add_sub_cancel, h1]
        · rw [Nat.add_sub_cancel, h1]
        · rw [sumTo, HSS.out, HM.out])
      by_cases hi0 : i = 0
      · subst hi0
        have HB0 : Hid (bestN (sqI n) 0 = (bv.1, bv.2)) := hide HBV.out
        go_wp2_with fail
        go_roundg (gk - 1)
        case measure => omega
        case rel => exact HRel.out _ _ HB0.out _ (HS.out.drewN _)
      · have hi1 : 0 < i := by omega
        have hi2 : decide (0 < (i : Int)) = true := by simp; omega
        have HST : Hid (bestN (sqI n) i = if bv.1 < m then (m, i) else bv) := hide (by
          obtain ⟨j, rfl⟩ : ∃ j, i = j + 1 := ⟨i - 1, by omega⟩
          have e1 := HBV.out
          rw [Nat.add_sub_cancel] at e1
          rw [bestN, e1, HM.out])
        clear hi0
        by_cases hlt : bv.1 < m
        · have HL := hide hlt
          have hlt' : decide (bv.1 < m) = true := by simpa using hlt
          clear hlt
          go_wp2_with fail
          go_roundg (gk - 1)
          case measure => omega
          case rel => exact HRel.out _ _ (by rw [HST.out, if_pos HL.out]) _ (HS.out.drewN _)
        · have HL := hide hlt
          have hlt' : decide (bv.1 < m) = false := by simpa using hlt
          clear hlt
          go_wp2_with fail
          go_roundg (gk - 1)
          case measure => omega
          case rel => exact HRel.out _ _ (by rw [HST.out, if_neg (Int.not_lt.2 HL.out)]) _ (HS.out.drewN _)
    · have hi' : decide (i < 4) = false := by simp; omega
      obtain rfl : i = 4 := by omega
      have HBk := hide (fun W => back_yes (x_lt HC.out HX.out) (x_fin HC.out HX.out) W)
      obtain ⟨bt, hbt⟩ : ∃ z : Nat, bv.2 = z := ⟨_, rfl⟩
      have hbt3 : (bestN (sqI n) 3).2 = bt := by rw [← hbt, ← HBV.out]
      rw [hbt, hbt3]
      clear hi hbt hbt3
      go_wp2_with (first
        | (with_reducible refine wpList_load_all rfl 44 (.tmp 3) rfl gx rfl 44 4 _ _ HS.out.x rfl Try.underlying44 info_c4 ?_)
        | (go_at_call 22; (with_reducible refine (HBk.out _).mono ?_); rintro e w5 ⟨hb5, y, hy, rfl⟩; have HB5 := hide hb5; have HY := hide hy; clear hb5 hy)
        | (with_reducible refine wpList_store_all rfl 44 (.tmp 14) (.tmp 114) rfl w5.heap.size rfl 44 4 _ _ rfl (Blk.newAt w5 _ _ _ rfl) info_c4 (fun j _ => cpx_one _ j) ?_))
      go_loopg [16, 17] 4 (fun k s16 s17 wr => SL2 w w5.heap.size n y k s16 s17 wr)
      case atStart =>
        have l0 := HS.out.a.lt
        have l1 := HB5.out.size
        have l2 := HS.out.below.size
        exact ⟨0, rfl, rfl, rfl, ((later HB5.out HS.out.a).alloc _).farRow (by omega) _, (Blk.newAt w5 _ _ _ rfl).row_ _, below_setRow ((HS.out.below.trans (HB5.out.mono l2)).alloc (by omega) _) (by omega) _⟩
      case round =>
        clear HS
        obtain ⟨i, rfl, rfl, hk, hba, hby, hbl⟩ := hrel
        have HBA := hide hba
        have HBY := hide hby
        have HBL := hide hbl
        clear hba hby hbl
        obtain ⟨T, hT⟩ : ∃ z, sumTo (fun i => n i * n i) i = z := ⟨_, rfl⟩
        rw [hT]
        have hTb := sumTo_bound (f := fun i => n i * n i) (fun j hj => count_sq (HC.out j hj)) i (by omega)
        rw [hT] at hTb
        obtain ⟨hT0, hT1⟩ := hTb
        have hT2 : T ≤ 4398046511104 := by
          have : (i : Int) * 1099511627776 ≤ 4 * 1099511627776 := Int.mul_le_mul_of_nonneg_right (by omega) (by omega)
          omega
        have HT := hide hT
        clear hT hT1
        by_cases hi : i < 4
        · have hgk2 : 0 < gk := by omega
          have hi' : (i : Int) < 4 := by omega
          have ca := HBA.out.at hi
          have cy := HBY.out.at hi
          unfold cpx at cy
          unfold i64f at ca
          obtain ⟨v1, v2⟩ := V_back HC.out HX.out hi (HY.out i hi)
          have hbd := natAbs_count (HC.out i hi)
          have n1 := neq_no v1 (V_ofInt (n i) (by omega))
          have n2 := neq_no v2 V_zero
          have hsq := count_sq (HC.out i hi)
          obtain ⟨a, ha⟩ : ∃ a, n i = a := ⟨_, rfl⟩
          rw [ha] at ca n1 hsq
          obtain ⟨p, hp⟩ : ∃ p, a * a = p := ⟨_, rfl⟩
          rw [hp] at hsq
          have w1 : IntKind.i64.wrap (a * a) = p := by rw [hp]; exact IntWalk.i64_in _ (by omega)
          have w2 : IntKind.i64.wrap (T + p) = T + p := IntWalk.i64_in _ (by omega)
          have HP : Hid (n i * n i = p) := hide (by rw [ha, hp])
          clear v1 v2 hbd hsq ha hp
          go_wp2_with fail
          go_quiet (fail)
          clear w1 w2
          go_wp2_with fail
          go_quiet (fail)
          clear n1 n2 ca cy
          go_wp2_with fail
          go_roundg (gk - 1)
          case measure => omega
          case rel => exact ⟨i + 1, by rw [sumTo, HT.out, HP.out], by go_num, by omega, HBA.out.drewN _, HBY.out.drewN _, below_drewN HBL.out _⟩
        · have hi'' : decide (i < 4) = false := by simp; omega
          obtain rfl : i = 4 := by omega
          have hpar : (S == 4 * T) = true := by
            have := parseval n
            rw [HSS.out, HT.out] at this
            simpa using this
          clear hi
          go_wp2_with (first
            | (go_at_call 16; (with_reducible refine (awake_any _).mono ?_); rintro e w6 ⟨rfl, hb6⟩; have HB6 := hide hb6; clear hb6))
          go_ret
          exact ⟨rfl, HBL.out.trans (HB6.out.mono HBL.out.size)⟩
theorem phaseSpectra_walk (n : Nat → Int) (w : World) :
    Calls Try.prog 5 #[.agg (row 4 (i64f n))] w fun e w' => e = .returned (.bool true) ∧ Below w.heap.size w w' := by
  cases h : allC n
  · exact spectra_no n h w
  · exact spectra_yes n h w
end Go.Proofs.Ytknchfalmjpiiaa.Ph
