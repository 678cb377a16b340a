/- The contract of phase's beat. -/
import Derived.Test.YtadlfebpaijbhaaPhaseExact
namespace Go.Proofs.Ytadlfebpaijbhaa.Ph
open Go.RowKit Go.Proofs.Ytadlfebpaijbhaa.W Go.Proofs.Ytadlfebpaijbhaa.Fl
set_option linter.unusedVariables false
set_option linter.unusedSimpArgs false

def NormE (a b : Nat) (w : World) (e : Ending) (w' : World) : Prop :=
  Drew w w' ∧ ∃ x y r, Res (Fl.d.mul a a) x ∧ Res (Fl.d.mul b b) y ∧ Res (Fl.d.add x y) r ∧ e = .returned (.float .f64 r)
theorem norm_any (a b : Nat) (w : World) : Calls Try.prog 58 #[.complex .f64 a b] w (NormE a b w) := by
  have h1 := fun t w => run_fmul Try.prog w t a a
  have h2 := fun t w => run_fmul Try.prog w t b b
  have h3 := fun t w x y => run_fadd Try.prog w t x y
  go_enter Try.func58, Try.ntmps58
  go_wp2_with fail
  go_ret
  exact ⟨⟨_, rfl⟩, _, _, _, fpick_res _ _ _ _, fpick_res _ _ _ _, fpick_res _ _ _ _, rfl⟩
/-- The greatest of some numbers from place 1 on, above 0, and its place. -/
def bestN (f : Nat → Int) : Nat → Int × Nat
  | 0 => (0, 0)
  | m + 1 => if (bestN f m).1 < f (m + 1) then (f (m + 1), m + 1) else bestN f m
def SpecY (n : Nat → Int) (w : World) (e : Ending) (w' : World) : Prop :=
  Below w.heap.size w w' ∧ ∃ x, (∀ k : Nat, k < 4 → SumIs (inN n 4) (-(k : Int)) 4 (x k).1 (x k).2) ∧ e = .returned (.tuple #[.agg (row 4 (cpx x)), .int .i64 0])
def allC (n : Nat → Int) : Bool := isCount (n 0) && isCount (n 1) && isCount (n 2) && isCount (n 3)
theorem allC_yes {n : Nat → Int} (h : allC n = true) : ∀ i, i < 4 → isCount (n i) = true := by
  intro i hi
  have h4 : i = 0 ∨ i = 1 ∨ i = 2 ∨ i = 3 := by omega
  simp only [allC, Bool.and_eq_true] at h
  rcases h4 with rfl | rfl | rfl | rfl
  · exact h.1.1.1
  · exact h.1.1.2
  · exact h.1.2
  · exact h.2
theorem allC_no {n : Nat → Int} (h : allC n = false) {i : Nat} (hi : i < 4) (hc : ∀ j, j < 4 → isCount (n j) = true) : False := by
  rw [allC, hc 0 (by omega), hc 1 (by omega), hc 2 (by omega), hc 3 (by omega)] at h
  cases h
theorem spectrum_yes {n : Nat → Int} (h : allC n = true) (w : World) : Calls Try.prog 57 #[.agg (row 4 (i64f n))] w (SpecY n w) := by
  refine (spectrum_any n w).mono ?_
  rintro e w' ⟨hb, ⟨hc, x, hx, rfl⟩ | ⟨⟨i, hi, hn⟩, rfl⟩⟩
  · exact ⟨hb, x, hx, rfl⟩
  · rw [allC_yes h i hi] at hn; cases hn
theorem spectrum_no {n : Nat → Int} (h : allC n = false) (w : World) : Calls Try.prog 57 #[.agg (row 4 (i64f n))] w fun e w' => e = .returned (.tuple #[.agg (row 4 (cpx fun _ => (0, 0))), .int .i64 2]) ∧ Below w.heap.size w w' := by
  refine (spectrum_any n w).mono ?_
  rintro e w' ⟨hb, ⟨hc, x, hx, rfl⟩ | ⟨⟨i, hi, hn⟩, rfl⟩⟩
  · exact (allC_no h (i := 0) (by omega) hc).elim
  · exact ⟨rfl, hb⟩
def BeatRel (w : World) (g : Nat) (n : Nat → Int) (x : Nat → Nat × Nat) (k : Nat) (s6 s7 s8 : Value) (wr : World) : Prop :=
  ∃ (i b : Nat), s6 = .float .f64 b ∧ V b (bestN (sqI n) i).1 ∧ s7 = .int .i64 ((bestN (sqI n) i).2 : Int) ∧ s8 = .int .i64 (((i + 1 : Nat)) : Int) ∧ i + k = 3 ∧ Blk wr g 81 (row 4 (cpx x)) ∧ Below w.heap.size w wr
theorem beat_no {n : Nat → Int} (h : allC n = false) (w : World) : Calls Try.prog 56 #[.agg (row 4 (i64f n))] w fun e w' => e = .returned (.tuple #[.int .i64 0, .int .i64 2]) ∧ Below w.heap.size w w' := by
  have hz := zero_cplx4
  have HSp := hide (fun W => spectrum_no h W)
  clear h
  go_enter Try.func56, Try.ntmps56
  go_wp2_with (first
    | (with_reducible refine wpList_load_all rfl 49 (.tmp 1) rfl w.heap.size rfl 49 4 _ _ (Blk.newAt w _ _ _ rfl) rfl Try.underlying49 info_i4 ?_)
    | (go_at_call 57; (with_reducible refine (HSp.out _).mono ?_); rintro e w1 ⟨rfl, hb⟩; have HB := hide hb; clear hb)
    | (with_reducible refine wpList_store_all rfl 81 (.tmp 4) (.tmp 13) rfl w1.heap.size rfl 81 4 _ _ rfl (Blk.newAt w1 _ _ _ rfl) info_c4 (fun j _ => cpx_one _ j) ?_))
  go_ret2
  have hb := HB.out
  have hs := hb.size
  simp at hs
  exact ⟨rfl, below_setRow ((((Below.refl _ _).alloc (Nat.le_refl _) _).trans (hb.mono (by simp))).alloc (by omega) _) (by omega) _⟩
theorem gt_yes {a b : Nat} {x y : Int} (ha : V a x) (hb : V b y) {c : Bool} (h : decide (y < x) = c) : (FloatKind.f64.format.order a b == some .gt) = c := (V_gt ha hb).trans h
set_option maxRecDepth 100000 in
set_option maxHeartbeats 2000000 in
theorem beat_yes {n : Nat → Int} (h : allC n = true) (w : World) : Calls Try.prog 56 #[.agg (row 4 (i64f n))] w fun e w' => e = .returned (.tuple #[.int .i64 ((bestN (sqI n) 3).2 : Int), .int .i64 0]) ∧ Below w.heap.size w w' := by
  have hz := zero_cplx4
  have HSp := hide (fun W => spectrum_yes h W)
  have HC := hide (allC_yes h)
  clear h
  go_enter Try.func56, Try.ntmps56
  go_wp2_with (first
    | (with_reducible refine wpList_load_all rfl 49 (.tmp 1) rfl w.heap.size rfl 49 4 _ _ (Blk.newAt w _ _ _ rfl) rfl Try.underlying49 info_i4 ?_)
    | (go_at_call 57; (with_reducible refine (HSp.out _).mono ?_); rintro e w1 ⟨hb, x, hx, rfl⟩; have HB := hide hb; have HX := hide hx; clear hb hx)
    | (with_reducible refine wpList_store_all rfl 81 (.tmp 4) (.tmp 13) rfl w1.heap.size rfl 81 4 _ _ rfl (Blk.newAt w1 _ _ _ rfl) info_c4 (fun j _ => cpx_one _ j) ?_))
  go_loopg [6, 7, 8] 3 (fun k s6 s7 s8 wr => BeatRel w w1.heap.size n x k s6 s7 s8 wr)
  case atStart =>
    have hb := HB.out
    have hs := hb.size
    simp at hs
    exact ⟨0, 0, rfl, V_zero, rfl, rfl, rfl, (Blk.newAt w1 _ _ _ rfl).row_ _, below_setRow ((((Below.refl _ _).alloc (Nat.le_refl _) _).trans (hb.mono (by simp))).alloc (by omega) _) (by omega) _⟩
  case round =>
    obtain ⟨i, b, rfl, hv, rfl, rfl, hk, hblk, hbl⟩ := hrel
    obtain ⟨bv, hbv⟩ : ∃ z, (bestN (sqI n) i) = z := ⟨_, rfl⟩
    rw [hbv] at hv ⊢
    have HBV := hide hbv
    have HV := hide hv
    have HBK := hide hblk
    have HBl := hide hbl
    clear hbv hv hbl
    by_cases hi : i + 1 < 4
    · have hgk : 0 < gk := by omega
      have hi' : ((i + 1 : Nat) : Int) < 4 := by omega
      have cx := hblk.at hi
      unfold cpx at cx
      have hsum := HX.out (i + 1) hi
      have vs := V_spec HC.out hi hsum
      have HVS := hide vs
      clear hblk vs hsum
      go_upto_region 9 with (first
        | (go_at_call 58; (with_reducible refine (norm_any _ _ _).mono ?_); rintro e w2 ⟨⟨q, rfl⟩, y1, y2, r, h1, h2, h3, rfl⟩; have HR := hide (V_norm HC.out HVS.out.1 HVS.out.2 h1 h2 h3); clear h1 h2 h3))
      by_cases hlt : bv.1 < sqI n (i + 1)
      · have hg := gt_yes HR.out HV.out (decide_eq_true hlt)
        have HL := hide hlt
        clear hlt
        go_wp2_with fail
        go_roundg (gk - 1)
        case measure => omega
        case rel =>
          have e1 : bestN (sqI n) (i + 1) = (sqI n (i + 1), i + 1) := by rw [bestN, HBV.out, if_pos HL.out]
          exact ⟨i + 1, r, rfl, by rw [e1]; exact HR.out, by rw [e1]; go_num, by go_num, by omega, HBK.out.drewN q, below_drewN HBl.out q⟩
      · have hg := gt_yes HR.out HV.out (decide_eq_false hlt)
        have HL := hide hlt
        clear hlt
        go_wp2_with fail
        go_roundg (gk - 1)
        case measure => omega
        case rel =>
          have e1 : bestN (sqI n) (i + 1) = bv := by rw [bestN, HBV.out, if_neg (Int.not_lt.2 HL.out)]
          exact ⟨i + 1, b, rfl, by rw [e1]; exact HV.out, by rw [e1], by go_num, by omega, HBK.out.drewN q, below_drewN HBl.out q⟩
    · have hi' : decide (((i + 1 : Nat) : Int) < 4) = false := by simp; omega
      obtain rfl : i = 3 := by omega
      clear hi hblk
      go_wp2_with fail
      go_ret2
      exact ⟨by rw [HBV.out]; rfl, HBl.out⟩
end Go.Proofs.Ytadlfebpaijbhaa.Ph
