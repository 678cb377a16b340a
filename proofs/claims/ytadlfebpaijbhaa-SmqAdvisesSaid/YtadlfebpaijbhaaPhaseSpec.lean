/- Contracts of phase's spectrum and what it is of. -/
import Derived.Test.YtadlfebpaijbhaaPhaseSum
namespace Go.Proofs.Ytadlfebpaijbhaa.Ph
open Go.RowKit Go.Proofs.Ytadlfebpaijbhaa.W Go.Proofs.Ytadlfebpaijbhaa.Fl
set_option linter.unusedVariables false
set_option linter.unusedSimpArgs false

def isCount (n : Int) : Bool := decide (0 ≤ n) && decide (n ≤ 1048576)
theorem count_any (n : Int) (w : World) : Calls Try.prog 59 #[.int .i64 n] w fun e w' => e = .returned (.bool (isCount n)) ∧ w = w' := by
  by_cases h1 : 0 ≤ n
  · by_cases h2 : n ≤ 1048576
    · have h2' : decide (n ≤ 1048576) = true := by simpa using h2
      go_enter Try.func59, Try.ntmps59
      go_wp2
      go_ret
      exact ⟨ret_bool (by simp [isCount, h1, h2]), rfl⟩
    · have h2' : decide (n ≤ 1048576) = false := by simpa using h2
      go_enter Try.func59, Try.ntmps59
      go_wp2
      go_ret
      exact ⟨ret_bool (by unfold isCount; rw [h2']; simp), rfl⟩
  · have h1' : decide (0 ≤ n) = false := by simpa using h1
    go_enter Try.func59, Try.ntmps59
    go_wp2
    go_ret
    exact ⟨ret_bool (by unfold isCount; rw [h1']; rfl), rfl⟩

def i64f (n : Nat → Int) : Nat → Value := fun i => .int .i64 (n i)
/-- The first i of the counts, as phases. -/
def inN (n : Nat → Int) (i : Nat) : Nat → Nat × Nat := fun j => if j < i then (floatOfInt .f64 (n j), 0) else (0, 0)
theorem cpx_upd (l : Nat → Nat × Nat) (i r s : Nat) : upd (cpx l) i (.complex .f64 r s) = cpx (upd l i (r, s)) := by
  funext j
  simp only [upd, cpx]
  split <;> rfl
theorem inN_succ (n : Nat → Int) (i : Nat) : upd (inN n i) i (floatOfInt .f64 (n i), 0) = inN n (i + 1) := by
  funext j
  simp only [upd, inN]
  by_cases h : j = i
  · subst h; rw [if_pos rfl, if_pos (by omega)]
  · rw [if_neg h]
    by_cases h2 : j < i
    · rw [if_pos h2, if_pos (by omega)]
    · rw [if_neg h2, if_neg (by omega)]
theorem zero_cplx4 (w : World) : (zeroValue 81).run Try.prog w = .ok (.agg (row 4 (cpx fun _ => (0, 0)))) w := by kernel_rfl
theorem cpx_one (l : Nat → Nat × Nat) (i : Nat) : (cpx l i).oneCell' = true := rfl
theorem info_c4 : (Try.prog.info? 81).map (·.size) = some 4 := by kernel_rfl
theorem info_i4 : (Try.prog.info? 49).map (·.size) = some 4 := by kernel_rfl
theorem info_c : (Try.prog.info? 80).map (·.size) = some 1 := by kernel_rfl
theorem info_i : (Try.prog.info? 3).map (·.size) = some 1 := by kernel_rfl
theorem index_i4 (n : Nat → Int) (i : Nat) (hi : i < 4) (w : World) : (Instr.index 49 (.agg (row 4 (i64f n))) (.int .i64 (i : Int))).run Try.prog w = .ok (.int .i64 (n i)) w :=
  run_index_row 49 3 4 _ i hi _ Try.underlying49 rfl Try.underlying3 info_i w
theorem index_c4 (l : Nat → Nat × Nat) (i : Nat) (hi : i < 4) (w : World) : (Instr.index 81 (.agg (row 4 (cpx l))) (.int .i64 (i : Int))).run Try.prog w = .ok (.complex .f64 (l i).1 (l i).2) w :=
  run_index_row 81 80 4 _ i hi _ Try.underlying81 rfl Try.underlying80 info_c w

structure SpecAt (w : World) (n : Nat → Int) (l x : Nat → Nat × Nat) (wr : World) : Prop where
  a : Blk wr w.heap.size 49 (row 4 (i64f n))
  z : Blk wr (w.heap.size + 1) 81 (row 4 (cpx fun _ => (0, 0)))
  i : Blk wr (w.heap.size + 2) 81 (row 4 (cpx l))
  o : Blk wr (w.heap.size + 3) 81 (row 4 (cpx x))
  below : Below w.heap.size w wr
theorem SpecAt.setI {w wr : World} {n : Nat → Int} {l x : Nat → Nat × Nat} (h : SpecAt w n l x wr) (i r s : Nat) : SpecAt w n (upd l i (r, s)) x (wr.setCell ⟨w.heap.size + 2, i, none⟩ (.complex .f64 r s)) := by
  have hi := h.i.upd i (.complex .f64 r s)
  rw [cpx_upd] at hi
  exact ⟨h.a.far (by simp) _, h.z.far (by simp) _, hi, h.o.far (by simp) _, h.below.setCell (by simp) _⟩
theorem SpecAt.setO {w wr : World} {n : Nat → Int} {l x : Nat → Nat × Nat} (h : SpecAt w n l x wr) (i r s : Nat) : SpecAt w n l (upd x i (r, s)) (wr.setCell ⟨w.heap.size + 3, i, none⟩ (.complex .f64 r s)) := by
  have hi := h.o.upd i (.complex .f64 r s)
  rw [cpx_upd] at hi
  exact ⟨h.a.far (by simp) _, h.z.far (by simp) _, h.i.far (by simp) _, hi, h.below.setCell (by simp) _⟩
theorem SpecAt.later {w wr wx : World} {n : Nat → Int} {l x : Nat → Nat × Nat} (h : SpecAt w n l x wr) (hb : Below wr.heap.size wr wx) : SpecAt w n l x wx :=
  ⟨W.later hb h.a, W.later hb h.z, W.later hb h.i, W.later hb h.o, h.below.trans (hb.mono h.below.size)⟩
def SpecIn (w : World) (n : Nat → Int) (k : Nat) (s10 : Value) (wr : World) : Prop :=
  ∃ i : Nat, s10 = .int .i64 (i : Int) ∧ i + k = 4 ∧ (∀ j, j < i → isCount (n j) = true) ∧ SpecAt w n (inN n i) (fun _ => (0, 0)) wr
def SpecOut (w : World) (n : Nat → Int) (k : Nat) (s24 : Value) (wr : World) : Prop :=
  ∃ i : Nat, ∃ x, s24 = .int .i64 (i : Int) ∧ i + k = 4 ∧ (∀ j, j < i → SumIs (inN n 4) (-(j : Int)) 4 (x j).1 (x j).2) ∧ SpecAt w n (inN n 4) x wr
/-- What a spectrum is. -/
def SpecE (n : Nat → Int) (w : World) (e : Ending) (w' : World) : Prop :=
  Below w.heap.size w w' ∧ ((∀ i, i < 4 → isCount (n i) = true) ∧ (∃ x, (∀ k : Nat, k < 4 → SumIs (inN n 4) (-(k : Int)) 4 (x k).1 (x k).2) ∧ e = .returned (.tuple #[.agg (row 4 (cpx x)), .int .i64 0])) ∨
    (∃ i, i < 4 ∧ isCount (n i) = false) ∧ e = .returned (.tuple #[.agg (row 4 (cpx fun _ => (0, 0))), .int .i64 2]))

set_option maxRecDepth 100000 in
set_option maxHeartbeats 2000000 in
theorem spectrum_any (n : Nat → Int) (w : World) : Calls Try.prog 57 #[.agg (row 4 (i64f n))] w (SpecE n w) := by
  have hz := zero_cplx4
  go_enter Try.func57, Try.ntmps57
  go_wp2_with (first
    | (with_reducible refine wpList_load_all rfl 49 (.tmp 1) rfl w.heap.size rfl 49 4 _ _ ((((Blk.newAt w _ _ _ rfl).alloc _).alloc _).alloc _) rfl Try.underlying49 info_i4 ?_))
  go_loopg [10] 4 (fun k s10 wr => SpecIn w n k s10 wr)
  case atStart =>
    refine ⟨0, rfl, rfl, fun j hj => absurd hj (by omega), ?_, ?_, ?_, ?_, ?_⟩
    · exact (((Blk.newAt w _ _ _ rfl).alloc _).alloc _).alloc _
    · exact ((Blk.newAt (w.alloc _) _ _ _ (by simp)).alloc _).alloc _
    · exact (Blk.newAt ((w.alloc _).alloc _) _ _ _ (by simp)).alloc _
    · exact Blk.newAt (((w.alloc _).alloc _).alloc _) _ _ _ (by simp)
    · exact ((((Below.refl _ _).alloc (Nat.le_refl _) _).alloc (by simp) _).alloc (by simp; omega) _).alloc (by simp; omega) _
  case round =>
    obtain ⟨i, rfl, hk, hc, hs⟩ := hrel
    have HS := hide hs
    have HC := hide hc
    clear hs hc
    by_cases hi : i < 4
    · have hi' : (i : Int) < 4 := by omega
      have hix := fun w => index_i4 n i hi w
      have fi := HS.out.i.frozen i
      have ci := HS.out.i.at hi
      unfold cpx at ci
      obtain ⟨m, hm⟩ : ∃ m, n i = m := ⟨_, rfl⟩
      rw [hm] at hix
      have HN := hide (count_any m)
      have HM := hide hm
      clear hm
      cases hcm : isCount m
      · rw [hcm] at HN
        have HCM := hide hcm
        clear hcm
        go_wp2_with (first
          | (go_at_call 59; with_reducible refine (HN.out _).mono ?_; rintro e w' ⟨rfl, rfl⟩)
          | (with_reducible refine wpList_load_all rfl 81 (.tmp 5) rfl (w.heap.size + 3) rfl 81 4 _ _ HS.out.o rfl Try.underlying81 info_c4 ?_)
          | (with_reducible refine wpList_store_all rfl 81 (.tmp 2) (.tmp 17) rfl (w.heap.size + 1) rfl 81 4 _ _ rfl HS.out.z info_c4 (fun j _ => cpx_one _ j) ?_))
        refine bodyPost_ret (v := .tuple #[.agg (row 4 (cpx fun _ => (0, 0))), .int .i64 2]) (results_sub_tmp rfl _ _ (w.heap.size + 1) 81 4 _ _ _ rfl rfl (HS.out.z.row_ _) rfl Try.underlying81 info_c4) rfl ⟨?_, .inr ⟨⟨i, hi, by rw [HM.out]; exact HCM.out⟩, rfl⟩⟩
        exact below_setRow HS.out.below (by omega) _
      · rw [hcm] at HN
        have HCM := hide hcm
        clear hcm
        have hgk : 0 < gk := by omega
        go_wp2_with (first
          | (go_at_call 59; with_reducible refine (HN.out _).mono ?_; rintro e w' ⟨rfl, rfl⟩))
        go_roundg (gk - 1)
        case measure => omega
        case rel =>
          refine ⟨i + 1, by go_num, by omega, fun j hj => ?_, ?_⟩
          · rcases Nat.lt_or_ge j i with h | h
            · exact HC.out j h
            · obtain rfl : j = i := by omega
              rw [HM.out]; exact HCM.out
          · have := HS.out.setI i (floatOfInt .f64 m) 0
            rw [← HM.out, inN_succ] at this
            rw [← HM.out]
            exact this
    · have hi' : decide (i < 4) = false := by simp; omega
      obtain rfl : i = 4 := by omega
      clear hi
      go_wp2_with fail
      go_loopg [24] 4 (fun k s24 wr => SpecOut w n k s24 wr)
      case atStart => exact ⟨0, _, rfl, rfl, fun j hj => absurd hj (by omega), HS.out⟩
      case round =>
        clear HS hi'
        obtain ⟨i, x, rfl, hk, hx, hs⟩ := hrel
        have HS := hide hs
        have HX := hide hx
        clear hs hx
        by_cases hi : i < 4
        · have hi' : (i : Int) < 4 := by omega
          have hgk : 0 < gk := by omega
          have fi := HS.out.o.frozen i
          go_wp2_with (first
            | (with_reducible refine wpList_load_all rfl 81 (.tmp 4) rfl (w.heap.size + 2) rfl 81 4 _ _ HS.out.i rfl Try.underlying81 info_c4 ?_)
            | (go_at_call 60; (with_reducible refine (sum_any _ _ (by omega) (by omega) _).mono ?_); rintro e w' ⟨r, s, hrs, rfl, hb⟩; have HRS := hide hrs; have HS1 := hide (HS.out.later hb); have c1 := HS1.out.o.at hi; unfold cpx at c1; have f1 := HS1.out.o.frozen i; clear hrs hb))
          go_roundg (gk - 1)
          case measure => omega
          case rel =>
            refine ⟨i + 1, _, by go_num, by omega, fun j hj => ?_, HS1.out.setO i r s⟩
            by_cases hji : j = i
            · subst hji; simp only [upd, if_pos rfl]; exact HRS.out
            · simp only [upd, if_neg hji]; exact HX.out j (by omega)
        · have hi' : decide (i < 4) = false := by simp; omega
          obtain rfl : i = 4 := by omega
          clear hi
          go_wp2_with (first
            | (with_reducible refine wpList_load_all rfl 81 (.tmp 5) rfl (w.heap.size + 3) rfl 81 4 _ _ HS.out.o rfl Try.underlying81 info_c4 ?_)
            | (with_reducible refine wpList_store_all rfl 81 (.tmp 2) (.tmp 34) rfl (w.heap.size + 1) rfl 81 4 _ _ rfl HS.out.z info_c4 (fun j _ => cpx_one _ j) ?_))
          refine bodyPost_ret (v := .tuple #[.agg (row 4 (cpx x)), .int .i64 0]) (results_sub_tmp rfl _ _ (w.heap.size + 1) 81 4 _ _ _ rfl rfl (HS.out.z.row_ _) rfl Try.underlying81 info_c4) rfl ⟨?_, .inl ⟨HC.out, x, HX.out, rfl⟩⟩
          exact below_setRow HS.out.below (by omega) _
end Go.Proofs.Ytadlfebpaijbhaa.Ph
