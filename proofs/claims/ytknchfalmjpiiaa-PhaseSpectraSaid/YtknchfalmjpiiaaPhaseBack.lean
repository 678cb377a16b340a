/- The contract of phase.Back. -/
import Derived.Test.YtknchfalmjpiiaaPhaseOps
namespace Go.Proofs.Ytknchfalmjpiiaa.Ph
open Go.RowKit Go.Proofs.Ytknchfalmjpiiaa.W Go.Proofs.Ytknchfalmjpiiaa.Fl
set_option linter.unusedVariables false
set_option linter.unusedSimpArgs false

def finP (q : Nat × Nat) : Bool := finB q.1 && finB q.2
def ltP (q : Nat × Nat) : Prop := q.1 < 18446744073709551616 ∧ q.2 < 18446744073709551616
def allP (l : Nat → Nat × Nat) : Bool := finP (l 0) && finP (l 1) && finP (l 2) && finP (l 3)
theorem allP_yes {l : Nat → Nat × Nat} (h : allP l = true) : ∀ i, i < 4 → finP (l i) = true := by
  intro i hi
  have h4 : i = 0 ∨ i = 1 ∨ i = 2 ∨ i = 3 := by omega
  simp only [allP, Bool.and_eq_true] at h
  rcases h4 with rfl | rfl | rfl | rfl
  · exact h.1.1.1
  · exact h.1.1.2
  · exact h.1.2
  · exact h.2
theorem allP_no {l : Nat → Nat × Nat} (h : allP l = false) (hc : ∀ j, j < 4 → finP (l j) = true) : False := by
  rw [allP, hc 0 (by omega), hc 1 (by omega), hc 2 (by omega), hc 3 (by omega)] at h
  cases h
structure BackAt (w : World) (l x : Nat → Nat × Nat) (wr : World) : Prop where
  a : Blk wr w.heap.size 44 (row 4 (cpx l))
  z : Blk wr (w.heap.size + 1) 44 (row 4 (cpx fun _ => (0, 0)))
  o : Blk wr (w.heap.size + 2) 44 (row 4 (cpx x))
  below : Below w.heap.size w wr
theorem BackAt.setO {w wr : World} {l x : Nat → Nat × Nat} (h : BackAt w l x wr) (i r s : Nat) : BackAt w l (upd x i (r, s)) (wr.setCell ⟨w.heap.size + 2, i, none⟩ (.complex .f64 r s)) := by
  have hi := h.o.upd i (.complex .f64 r s)
  rw [cpx_upd] at hi
  exact ⟨h.a.far (by simp) _, h.z.far (by simp) _, hi, h.below.setCell (by simp) _⟩
theorem BackAt.later {w wr wx : World} {l x : Nat → Nat × Nat} (h : BackAt w l x wr) (hb : Below wr.heap.size wr wx) : BackAt w l x wx :=
  ⟨W.later hb h.a, W.later hb h.z, W.later hb h.o, h.below.trans (hb.mono h.below.size)⟩
theorem BackAt.drewN {w wr : World} {l x : Nat → Nat × Nat} (h : BackAt w l x wr) (k : Nat) : BackAt w l x (wr.drewN k) := ⟨h.a, h.z, h.o, below_drewN h.below k⟩
def BackIn (w : World) (l : Nat → Nat × Nat) (k : Nat) (s10 : Value) (wr : World) : Prop :=
  ∃ i : Nat, s10 = .int .i64 (i : Int) ∧ i + k = 4 ∧ (∀ j, j < i → finP (l j) = true) ∧ BackAt w l (fun _ => (0, 0)) wr
/-- What a quarter of a sum may be. -/
def BackIs (l : Nat → Nat × Nat) (t : Nat) (q : Nat × Nat) : Prop := ∃ r s, SumIs l (t : Int) 4 r s ∧ Res (Fl.d.mul r 4598175219545276416) q.1 ∧ Res (Fl.d.mul s 4598175219545276416) q.2
def BackOut (w : World) (l : Nat → Nat × Nat) (k : Nat) (s18 : Value) (wr : World) : Prop :=
  ∃ i : Nat, ∃ x, s18 = .int .i64 (i : Int) ∧ i + k = 4 ∧ (∀ j, j < i → BackIs l j (x j)) ∧ BackAt w l x wr
def BackE (l : Nat → Nat × Nat) (w : World) (e : Ending) (w' : World) : Prop :=
  Below w.heap.size w w' ∧ (allP l = true ∧ (∃ x, (∀ k : Nat, k < 4 → BackIs l k (x k)) ∧ e = .returned (.tuple #[.agg (row 4 (cpx x)), .int .i64 0])) ∨
    allP l = false ∧ e = .returned (.tuple #[.agg (row 4 (cpx fun _ => (0, 0))), .int .i64 20]))
set_option maxRecDepth 100000 in
set_option maxHeartbeats 2000000 in
theorem back_any (l : Nat → Nat × Nat) (hlt : ∀ i, i < 4 → ltP (l i)) (w : World) : Calls Try.prog 22 #[.agg (row 4 (cpx l))] w (BackE l w) := by
  have hz := zero_cplx4
  have HLT := hide hlt
  clear hlt
  go_enter Try.func22, Try.ntmps22
  go_wp2_with (first
    | (with_reducible refine wpList_load_all rfl 44 (.tmp 1) rfl w.heap.size rfl 44 4 _ _ (((Blk.newAt w _ _ _ rfl).alloc _).alloc _) rfl Try.underlying44 info_c4 ?_))
  go_loopg [10] 4 (fun k s10 wr => BackIn w l k s10 wr)
  case atStart =>
    refine ⟨0, rfl, rfl, fun j hj => absurd hj (by omega), ?_, ?_, ?_, ?_⟩
    · exact ((Blk.newAt w _ _ _ rfl).alloc _).alloc _
    · exact (Blk.newAt (w.alloc _) _ _ _ (by simp)).alloc _
    · exact Blk.newAt ((w.alloc _).alloc _) _ _ _ (by simp)
    · exact (((Below.refl _ _).alloc (Nat.le_refl _) _).alloc (by simp) _).alloc (by simp; omega) _
  case round =>
    obtain ⟨i, rfl, hk, hc, hs⟩ := hrel
    have HS := hide hs
    have HC := hide hc
    clear hs hc
    by_cases hi : i < 4
    · have hi' : (i : Int) < 4 := by omega
      have hix := fun w => index_c4 l i hi w
      have HN := hide (counts_any (l i).1 (l i).2 (HLT.out i hi).1 (HLT.out i hi).2)
      obtain ⟨m, hm⟩ : ∃ m, l i = m := ⟨_, rfl⟩
      rw [hm] at hix HN
      have HM := hide hm
      clear hm
      cases hcm : (finB m.1 && finB m.2)
      · rw [hcm] at HN
        have HCM := hide hcm
        clear hcm
        go_wp2_with (first
          | (go_at_call 12; with_reducible refine (HN.out _).mono ?_; rintro e w' ⟨rfl, rfl⟩)
          | (with_reducible refine wpList_load_all rfl 44 (.tmp 4) rfl (w.heap.size + 2) rfl 44 4 _ _ HS.out.o rfl Try.underlying44 info_c4 ?_)
          | (with_reducible refine wpList_store_all rfl 44 (.tmp 2) (.tmp 16) rfl (w.heap.size + 1) rfl 44 4 _ _ rfl HS.out.z info_c4 (fun j _ => cpx_one _ j) ?_))
        refine bodyPost_ret (v := .tuple #[.agg (row 4 (cpx fun _ => (0, 0))), .int .i64 20]) (results_sub_tmp rfl _ _ (w.heap.size + 1) 44 4 _ _ _ rfl rfl (HS.out.z.row_ _) rfl Try.underlying44 info_c4) rfl ⟨?_, .inr ⟨?_, rfl⟩⟩
        · exact below_setRow HS.out.below (by omega) _
        · cases ha : allP l
          · rfl
          · have := allP_yes ha i hi
            rw [HM.out, finP, HCM.out] at this
            cases this
      · rw [hcm] at HN
        have HCM := hide hcm
        clear hcm
        have hgk : 0 < gk := by omega
        go_wp2_with (first
          | (go_at_call 12; with_reducible refine (HN.out _).mono ?_; rintro e w' ⟨rfl, rfl⟩))
        go_roundg (gk - 1)
        case measure => omega
        case rel =>
          refine ⟨i + 1, by go_num, by omega, fun j hj => ?_, HS.out⟩
          rcases Nat.lt_or_ge j i with h | h
          · exact HC.out j h
          · obtain rfl : j = i := by omega
            rw [HM.out]; exact HCM.out
    · have hi' : decide (i < 4) = false := by simp; omega
      obtain rfl : i = 4 := by omega
      clear hi
      go_wp2_with fail
      go_loopg [18] 4 (fun k s18 wr => BackOut w l k s18 wr)
      case atStart => exact ⟨0, _, rfl, rfl, fun j hj => absurd hj (by omega), HS.out⟩
      case round =>
        clear HS hi'
        obtain ⟨i, x, rfl, hk, hx, hs⟩ := hrel
        have HS := hide hs
        have HX := hide hx
        clear hs hx
        by_cases hi : i < 4
        · have hi' : (i : Int) < 4 := by omega
          have hgk : 0 < gk := by omega
          have fi := HS.out.o.frozen i
          have hm := fun t w x y => run_fmul Try.prog w t x y
          go_wp2_with (first
            | (with_reducible refine wpList_load_all rfl 44 (.tmp 1) rfl w.heap.size rfl 44 4 _ _ HS.out.a rfl Try.underlying44 info_c4 ?_)
            | (go_at_call 31; (with_reducible refine (sum_any _ _ (by omega) (by omega) _).mono ?_); rintro e w' ⟨r, s, hrs, rfl, hb⟩; have HRS := hide hrs; have HS1 := hide (HS.out.later hb); have c1 := HS1.out.o.at hi; unfold cpx at c1; have f1 := HS1.out.o.frozen i; clear hrs hb))
          go_roundg (gk - 1)
          case measure => omega
          case rel =>
            refine ⟨i + 1, _, by go_num, by omega, fun j hj => ?_, (HS1.out.setO i _ _).drewN _⟩
            by_cases hji : j = i
            · subst hji; simp only [upd, if_pos rfl]; exact ⟨r, s, HRS.out, fpick_res _ _ _ _, fpick_res _ _ _ _⟩
            · simp only [upd, if_neg hji]; exact HX.out j (by omega)
        · have hi' : decide (i < 4) = false := by simp; omega
          obtain rfl : i = 4 := by omega
          clear hi
          go_wp2_with (first
            | (with_reducible refine wpList_load_all rfl 44 (.tmp 4) rfl (w.heap.size + 2) rfl 44 4 _ _ HS.out.o rfl Try.underlying44 info_c4 ?_)
            | (with_reducible refine wpList_store_all rfl 44 (.tmp 2) (.tmp 34) rfl (w.heap.size + 1) rfl 44 4 _ _ rfl HS.out.z info_c4 (fun j _ => cpx_one _ j) ?_))
          refine bodyPost_ret (v := .tuple #[.agg (row 4 (cpx x)), .int .i64 0]) (results_sub_tmp rfl _ _ (w.heap.size + 1) 44 4 _ _ _ rfl rfl (HS.out.z.row_ _) rfl Try.underlying44 info_c4) rfl ⟨?_, .inl ⟨?_, x, HX.out, rfl⟩⟩
          · exact below_setRow HS.out.below (by omega) _
          · cases ha : allP l
            · exact (allP_no ha HC.out).elim
            · rfl
end Go.Proofs.Ytknchfalmjpiiaa.Ph
