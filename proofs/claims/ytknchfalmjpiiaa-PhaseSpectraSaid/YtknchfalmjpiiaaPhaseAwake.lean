/- The contract of the law's awake, and of its comparison with parts that differ. -/
import Derived.Test.YtknchfalmjpiiaaPhaseOps
import Derived.Test.YtknchfalmjpiiaaPhaseBeat
namespace Go.Proofs.Ytknchfalmjpiiaa.Ph
open Go.RowKit Go.Proofs.Ytknchfalmjpiiaa.W Go.Proofs.Ytknchfalmjpiiaa.Fl
set_option linter.unusedVariables false
set_option linter.unusedSimpArgs false

def n5 : Nat → Int := fun i => if i % 2 = 0 then 5 else 0
theorem eqV {a b : Nat} {x : Int} (ha : V a x) (hb : V b x) : (FloatKind.f64.format.order a b == some .eq) = true := (V_eq ha hb).trans (by simp)
theorem V_ten : V 4621819117588971520 10 := by
  have h := V_ofInt 10 (by decide)
  have e : floatOfInt .f64 10 = 4621819117588971520 := by decide
  rwa [e] at h
theorem n5_row : row 4 (i64f n5) = #[.int .i64 5, .int .i64 0, .int .i64 5, .int .i64 0] := rfl
set_option maxRecDepth 100000 in
set_option maxHeartbeats 1000000 in
theorem awake_any (w : World) : Calls Try.prog 16 #[] w fun e w' => e = .returned (.bool true) ∧ Below w.heap.size w w' := by
  have hall : allC n5 = true := by decide
  have hs := fun W => spectrum_yes hall W
  have hb := fun W => beat_yes hall W
  rw [n5_row] at hs hb
  rw [show (bestN (sqI n5) 3).2 = 2 by decide] at hb
  have HS := hide hs
  have HB := hide hb
  have HC := hide (allC_yes hall)
  have hz := zero_cplx4
  have o1 : (FloatKind.f64.format.order (Op.negFloat .f64 0) 0 == some .eq) = true := by decide
  have o2 : (FloatKind.f64.format.order 4607182418800017408 4607182418800017408 == some .eq) = true := by decide
  have ht : ∀ W, Calls Try.prog 11 #[.complex .f64 4607182418800017408 0, .int .i64 1] W fun e w' => e = .returned (.complex .f64 (Op.negFloat .f64 0) 4607182418800017408) ∧ W = w' := fun W => turn_any 4607182418800017408 0 1 W
  have HT := hide ht
  obtain ⟨z, hz0⟩ : ∃ z, Op.negFloat .f64 0 = z := ⟨_, rfl⟩
  rw [hz0] at o1 HT
  clear hs hb hall ht hz0
  go_enter Try.func16, Try.ntmps16
  go_upto_region 3 with (first
    | (go_at_call 18; (with_reducible refine (HS.out _).mono ?_); rintro e w1 ⟨hb1, x, hx, rfl⟩; have HB1 := hide hb1; have HX := hide hx; clear hb1 hx)
    | (with_reducible refine wpList_store_all rfl 44 (.tmp 1) (.tmp 8) rfl w1.heap.size rfl 44 4 _ _ rfl (Blk.newAt w1 _ _ _ rfl) info_c4 (fun j _ => cpx_one _ j) ?_)
    | (go_at_call 19; (with_reducible refine (HB.out _).mono ?_); rintro e w2 ⟨rfl, hb2⟩))
  have hs1 := HB1.out.size
  have hbw : Below w.heap.size w ((w1.alloc (.cells (row 4 (cpx fun _ => (0, 0))) 44)).setRow w1.heap.size (row 4 (cpx x))) := below_setRow (HB1.out.alloc (by omega) _) (by omega) _
  have hblk := W.later hb2 ((Blk.newAt w1 44 (row 4 (cpx fun _ => (0, 0))) _ rfl).row_ (row 4 (cpx x)))
  have hbw2 := hbw.trans (hb2.mono hbw.size)
  have HBW := hide hbw2
  have c0 := hblk.at (i := 0) (by omega)
  have c1 := hblk.at (i := 1) (by omega)
  have c2 := hblk.at (i := 2) (by omega)
  have c3 := hblk.at (i := 3) (by omega)
  unfold cpx at c0 c1 c2 c3
  have v0 := V_spec HC.out (k := 0) (by omega) (HX.out 0 (by omega))
  have v1 := V_spec HC.out (k := 1) (by omega) (HX.out 1 (by omega))
  have v2 := V_spec HC.out (k := 2) (by omega) (HX.out 2 (by omega))
  have v3 := V_spec HC.out (k := 3) (by omega) (HX.out 3 (by omega))
  rw [show specR n5 0 = 10 by decide, show specI n5 0 = 0 by decide] at v0
  rw [show specR n5 1 = 0 by decide, show specI n5 1 = 0 by decide] at v1
  rw [show specR n5 2 = 10 by decide, show specI n5 2 = 0 by decide] at v2
  rw [show specR n5 3 = 0 by decide, show specI n5 3 = 0 by decide] at v3
  have q0 := eqV v0.1 V_ten
  have q0' := eqV v0.2 V_zero
  have q1 := eqV v1.1 V_zero
  have q1' := eqV v1.2 V_zero
  have q2 := eqV v2.1 V_ten
  have q2' := eqV v2.2 V_zero
  have q3 := eqV v3.1 V_zero
  have q3' := eqV v3.2 V_zero
  clear v0 v1 v2 v3 hblk hbw hbw2 hs1 hb2
  go_wp2_with (first
    | (go_at_call 11; (with_reducible refine (HT.out _).mono ?_); rintro e w' ⟨rfl, rfl⟩))
  go_ret
  exact ⟨rfl, HBW.out⟩
end Go.Proofs.Ytknchfalmjpiiaa.Ph
