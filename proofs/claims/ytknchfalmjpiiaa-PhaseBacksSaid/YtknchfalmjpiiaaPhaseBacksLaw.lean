/- The law of phase's way back, walked. -/
import Derived.Test.YtknchfalmjpiiaaPhaseAwake
import Derived.Test.YtknchfalmjpiiaaPhaseBack
import Derived.Deep.QuietTactic
import Derived.BigQuiet
namespace Go.Proofs.Ytknchfalmjpiiaa.Ph
open Go.RowKit Go.Proofs.Ytknchfalmjpiiaa.W Go.Proofs.Ytknchfalmjpiiaa.Fl
set_option linter.unusedVariables false
set_option linter.unusedSimpArgs false

def flt (f : Nat → Nat) : Nat → Value := fun i => .float .f64 (f i)
def prs (x y : Nat → Nat) : Nat → Nat × Nat := fun i => (x i, y i)
def inP (l : Nat → Nat × Nat) (i : Nat) : Nat → Nat × Nat := fun j => if j < i then l j else (0, 0)
theorem inP_succ (l : Nat → Nat × Nat) (i : Nat) : upd (inP l i) i (l i) = inP l (i + 1) := by
  funext j
  simp only [upd, inP]
  by_cases h : j = i
  · subst h; rw [if_pos rfl, if_pos (by omega)]
  · rw [if_neg h]
    by_cases h2 : j < i
    · rw [if_pos h2, if_pos (by omega)]
    · rw [if_neg h2, if_neg (by omega)]
def allTo (l : Nat → Nat × Nat) : Nat → Bool
  | 0 => true
  | i + 1 => allTo l i && finP (l i)
theorem allTo4 (l : Nat → Nat × Nat) : allTo l 4 = allP l := by simp [allTo, allP, Bool.and_assoc]
theorem SumIs.E {l : Nat → Nat × Nat} {b : Int} : ∀ {n r s r' s' : Nat}, SumIs l b n r s → SumIs l b n r' s' → Fl.E r r' ∧ Fl.E s s'
  | 0, _, _, _, _, ⟨rfl, rfl⟩, ⟨rfl, rfl⟩ => ⟨.refl _, .refl _⟩
  | n + 1, _, _, _, _, ⟨r0, s0, h0, h1, h2⟩, ⟨r1, s1, k0, k1, k2⟩ => by
    obtain ⟨e1, e2⟩ := SumIs.E h0 k0
    rw [add_E e1 (.refl _)] at h1
    rw [add_E e2 (.refl _)] at h2
    exact ⟨h1.E k1, h2.E k2⟩
structure BLAt (w : World) (x y : Nat → Nat) (l : Nat → Nat × Nat) (wr : World) : Prop where
  a : Blk wr w.heap.size 54 (row 4 (flt x))
  b : Blk wr (w.heap.size + 1) 54 (row 4 (flt y))
  i : Blk wr (w.heap.size + 2) 44 (row 4 (cpx l))
  below : Below w.heap.size w wr
theorem BLAt.setI {w wr : World} {x y : Nat → Nat} {l : Nat → Nat × Nat} (h : BLAt w x y l wr) (i r s : Nat) : BLAt w x y (upd l i (r, s)) (wr.setCell ⟨w.heap.size + 2, i, none⟩ (.complex .f64 r s)) := by
  have hi := h.i.upd i (.complex .f64 r s)
  rw [cpx_upd] at hi
  exact ⟨h.a.far (by simp) _, h.b.far (by simp) _, hi, h.below.setCell (by simp) _⟩
theorem BLAt.later {w wr wx : World} {x y : Nat → Nat} {l : Nat → Nat × Nat} (h : BLAt w x y l wr) (hb : Below wr.heap.size wr wx) : BLAt w x y l wx :=
  ⟨W.later hb h.a, W.later hb h.b, W.later hb h.i, h.below.trans (hb.mono h.below.size)⟩
theorem BLAt.drewN {w wr : World} {x y : Nat → Nat} {l : Nat → Nat × Nat} (h : BLAt w x y l wr) (k : Nat) : BLAt w x y l (wr.drewN k) := ⟨h.a, h.b, h.i, below_drewN h.below k⟩
theorem BLAt.alloc {w wr : World} {x y : Nat → Nat} {l : Nat → Nat × Nat} (h : BLAt w x y l wr) (o : Obj) : BLAt w x y l (wr.alloc o) := ⟨h.a.alloc o, h.b.alloc o, h.i.alloc o, h.below.alloc h.below.size o⟩
theorem BLAt.farRow {w wr : World} {x y : Nat → Nat} {l : Nat → Nat × Nat} (h : BLAt w x y l wr) {g : Nat} (hg : w.heap.size + 2 < g) (cs : Array Value) : BLAt w x y l (wr.setRow g cs) :=
  ⟨h.a.farRow (by omega) _, h.b.farRow (by omega) _, h.i.farRow (by omega) _, below_setRow h.below (by omega) _⟩
def BLIn (w : World) (x y : Nat → Nat) (k : Nat) (s6 s7 : Value) (wr : World) : Prop :=
  ∃ i : Nat, s6 = .bool (allTo (prs x y) i) ∧ s7 = .int .i64 (i : Int) ∧ i + k = 4 ∧ BLAt w x y (inP (prs x y) i) wr
def BLOut (w : World) (g : Nat) (x y : Nat → Nat) (z : Nat → Nat × Nat) (k : Nat) (s10 : Value) (wr : World) : Prop :=
  ∃ i : Nat, s10 = .int .i64 (i : Int) ∧ i + k = 4 ∧ BLAt w x y (inP (prs x y) 4) wr ∧ Blk wr g 44 (row 4 (cpx z))
def BLSum (w : World) (g : Nat) (x y : Nat → Nat) (z : Nat → Nat × Nat) (t : Nat) (k : Nat) (s11 s12 s13 : Value) (wr : World) : Prop :=
  ∃ i r s : Nat, s11 = .float .f64 r ∧ s12 = .float .f64 s ∧ s13 = .int .i64 (i : Int) ∧ i + k = 4 ∧ SumIs (prs x y) (t : Int) i r s ∧ BLAt w x y (inP (prs x y) 4) wr ∧ Blk wr g 44 (row 4 (cpx z))
theorem SumIs_congr {l l' : Nat → Nat × Nat} {b : Int} : ∀ {n r s : Nat}, (∀ i, i < n → l i = l' i) → SumIs l b n r s → SumIs l' b n r s
  | 0, _, _, _, h => h
  | n + 1, _, _, he, ⟨r0, s0, h0, h1, h2⟩ => by
    rw [he n (by omega)] at h1 h2
    exact ⟨r0, s0, SumIs_congr (fun i hi => he i (by omega)) h0, h1, h2⟩
theorem inP4 (l : Nat → Nat × Nat) (i : Nat) (hi : i < 4) : inP l 4 i = l i := by simp [inP, hi]
theorem allP_in (l : Nat → Nat × Nat) : allP (inP l 4) = allP l := by simp [allP, inP]
def BackY (l : Nat → Nat × Nat) (w : World) (e : Ending) (w' : World) : Prop :=
  Below w.heap.size w w' ∧ ∃ x, (∀ k : Nat, k < 4 → BackIs l k (x k)) ∧ e = .returned (.tuple #[.agg (row 4 (cpx x)), .int .i64 0])
theorem back_yes {l : Nat → Nat × Nat} (hlt : ∀ i, i < 4 → ltP (l i)) (h : allP l = true) (w : World) : Calls Try.prog 22 #[.agg (row 4 (cpx l))] w (BackY l w) := by
  refine (back_any l hlt w).mono ?_
  rintro e w' ⟨hb, ⟨_, hx⟩ | ⟨h1, _⟩⟩
  · exact ⟨hb, hx⟩
  · rw [h] at h1; cases h1
theorem back_no {l : Nat → Nat × Nat} (hlt : ∀ i, i < 4 → ltP (l i)) (h : allP l = false) (w : World) : Calls Try.prog 22 #[.agg (row 4 (cpx l))] w fun e w' => e = .returned (.tuple #[.agg (row 4 (cpx fun _ => (0, 0))), .int .i64 20]) ∧ Below w.heap.size w w' := by
  refine (back_any l hlt w).mono ?_
  rintro e w' ⟨hb, ⟨h1, _⟩ | ⟨_, rfl⟩⟩
  · rw [h] at h1; cases h1
  · exact ⟨rfl, hb⟩
set_option maxRecDepth 100000 in
set_option maxHeartbeats 4000000 in
theorem phaseBacks_walk (x y : Nat → Nat) (hx : ∀ i, i < 4 → x i < 18446744073709551616) (hy : ∀ i, i < 4 → y i < 18446744073709551616) (w : World) :
    Calls Try.prog 6 #[.agg (row 4 (flt x)), .agg (row 4 (flt y))] w fun e w' => e = .returned (.bool true) ∧ Below w.heap.size w w' := by
  have hz := zero_cplx4
  have hlt : ∀ i, i < 4 → ltP (inP (prs x y) 4 i) := fun i hi => by
    rw [inP4 _ _ hi]
    exact ⟨hx i hi, hy i hi⟩
  have HLT := hide hlt
  clear hx hy hlt
  go_enter Try.func6, Try.ntmps6
  go_wp2_with fail
  go_loopg [6, 7] 4 (fun k s6 s7 wr => BLIn w x y k s6 s7 wr)
  case atStart =>
    refine ⟨0, rfl, rfl, rfl, ?_, ?_, ?_, ?_⟩
    · exact ((Blk.newAt w _ _ _ rfl).alloc _).alloc _
    · exact (Blk.newAt (w.alloc _) _ _ _ (by simp)).alloc _
    · exact Blk.newAt ((w.alloc _).alloc _) _ _ _ (by simp)
    · exact (((Below.refl _ _).alloc (Nat.le_refl _) _).alloc (by simp) _).alloc (by simp; omega) _
  case round =>
    obtain ⟨i, rfl, rfl, hk, hs⟩ := hrel
    have HS := hide hs
    clear hs
    by_cases hi : i < 4
    · have hi' : (i : Int) < 4 := by omega
      have hgk : 0 < gk := by omega
      have fi := HS.out.i.frozen i
      have ci := HS.out.i.at hi
      have ca := HS.out.a.at hi
      have cb := HS.out.b.at hi
      unfold cpx at ci
      unfold flt at ca cb
      obtain ⟨b, hb⟩ : ∃ b, allTo (prs x y) i = b := ⟨_, rfl⟩
      have HB := hide hb
      have HN := hide (rCounts_any (x i) (y i))
      obtain ⟨f, hf⟩ : ∃ f, (finB (x i) && finB (y i)) = f := ⟨_, rfl⟩
      rw [hf] at HN
      have HF := hide hf
      rw [hb]
      clear hb hf
      go_wp2_with fail
      refine wp_region_still_tail 8 (by kernel_rfl) (by kernel_rfl) ?_
      simp only [List.take_succ_cons, List.take_zero, List.drop_succ_cons, List.drop_zero]
      repeat (first
        | (refine wpStill_step (fun K hK => ?_); go_simp; refine hK _ ?_; clear hK K))
      refine wpStill_nil ?_
      change wpList _ _ _ _ _ wr.drew
      go_wp2_with fail
      have h1 : BLAt w x y (inP (prs x y) (i + 1)) ((wr.setCell ⟨w.heap.size + 1 + 1, i, none⟩ (.complex .f64 (x i) (y i))).drew) := by
        have h2 := (HS.out.setI i (x i) (y i)).drewN 1
        have h3 := inP_succ (prs x y) i
        unfold prs at h2 h3
        rw [h3] at h2
        exact h2
      generalize (wr.setCell ⟨w.heap.size + 1 + 1, i, none⟩ (.complex .f64 (x i) (y i))).drew = W1 at h1 ⊢
      have H1 := hide h1
      have ca := H1.out.a.at hi
      have cb := H1.out.b.at hi
      unfold flt at ca cb
      clear h1 fi ci
      have hend : ∀ c, (b && f) = c → c = allTo (prs x y) (i + 1) := by
        intro c hc
        rw [← hc, allTo, HB.out]
        show _ = (b && (finB (x i) && finB (y i)))
        rw [HF.out]
      have HE := hide hend
      clear hend
      cases b
      · go_quiet (fail)
        go_wp2_with fail
        go_roundg (gk - 1)
        case measure => omega
        case rel => exact ⟨i + 1, congrArg _ (HE.out _ rfl), by go_num, by omega, H1.out.drewN _⟩
      · go_quiet ((go_at_call 13; exact Calls.quiet_of (HN.out _)))
        go_wp2_with fail
        go_roundg (gk - 1)
        case measure => omega
        case rel => exact ⟨i + 1, congrArg _ (HE.out _ (by simp)), by go_num, by omega, H1.out.drewN _⟩
    · have hi' : decide (i < 4) = false := by simp; omega
      obtain rfl : i = 4 := by omega
      clear hi
      rw [allTo4]
      have hlz : ∀ w, (binOp .eql 44 (.agg (row 4 (cpx fun _ => (0, 0)))) (.agg (row 4 (cpx fun _ => (0, 0))))).run Try.prog w = .ok (.bool true) w := fun w => by kernel_rfl
      cases hall : allP (prs x y)
      · have HBk := hide (fun W => back_no HLT.out ((allP_in _).trans hall) W)
        clear hall
        go_wp2_with (first
          | (with_reducible refine wpList_load_all rfl 44 (.tmp 5) rfl (w.heap.size + 2) rfl 44 4 _ _ HS.out.i rfl Try.underlying44 info_c4 ?_)
          | (go_at_call 22; (with_reducible refine (HBk.out _).mono ?_); rintro e w1 ⟨rfl, hb1⟩; have HB1 := hide hb1; clear hb1)
          | (with_reducible refine wpList_store_all rfl 44 (.tmp 8) (.tmp 42) rfl w1.heap.size rfl 44 4 _ _ rfl (Blk.newAt w1 _ _ _ rfl) info_c4 (fun j _ => cpx_one _ j) ?_)
          | (go_at_call 16; (with_reducible refine (awake_any _).mono ?_); rintro e w4 ⟨rfl, hb4⟩; have HB4 := hide hb4; clear hb4)
          | (refine wpList_load_met 44 (.tmp 8) rfl (by rfl) w1.heap.size rfl 44 _ _ (W.later HB4.out ((Blk.newAt w1 44 _ _ rfl).row_ _)) rfl Try.underlying44 (by rw [row_size]; kernel_rfl) ?_))
        go_ret
        have hb1 := HS.out.below.trans (HB1.out.mono HS.out.below.size)
        have hb2 := below_setRow (hb1.alloc hb1.size (.cells (row 4 (cpx fun _ => (0, 0))) 44)) hb1.size (row 4 (cpx fun _ => (0, 0)))
        exact ⟨rfl, hb2.trans (HB4.out.mono hb2.size)⟩
      · have HBk := hide (fun W => back_yes HLT.out ((allP_in _).trans hall) W)
        clear hall
        go_wp2_with (first
          | (with_reducible refine wpList_load_all rfl 44 (.tmp 5) rfl (w.heap.size + 2) rfl 44 4 _ _ HS.out.i rfl Try.underlying44 info_c4 ?_)
          | (go_at_call 22; (with_reducible refine (HBk.out _).mono ?_); rintro e w1 ⟨hb1, z, hzz, rfl⟩; have HB1 := hide hb1; have HZ := hide hzz; clear hb1 hzz)
          | (with_reducible refine wpList_store_all rfl 44 (.tmp 8) (.tmp 42) rfl w1.heap.size rfl 44 4 _ _ rfl (Blk.newAt w1 _ _ _ rfl) info_c4 (fun j _ => cpx_one _ j) ?_))
        have hs1 := HB1.out.size
        have hs2 := HS.out.i.lt
        go_loopg [10] 4 (fun k s10 wr => BLOut w w1.heap.size x y z k s10 wr)
        case atStart => exact ⟨0, rfl, rfl, ((HS.out.later HB1.out).alloc _).farRow (by omega) _, (Blk.newAt w1 _ _ _ rfl).row_ _⟩
        case round =>
          clear HS
          obtain ⟨t, rfl, hk, hs, hzb⟩ := hrel
          have HS := hide hs
          have HZB := hide hzb
          clear hs hzb
          by_cases ht : t < 4
          · have ht' : (t : Int) < 4 := by omega
            have hgk : 0 < gk := by omega
            go_wp2_with fail
            obtain ⟨ko, hko⟩ : ∃ ko, gk = ko := ⟨_, rfl⟩
            rw [hko] at hk hgk
            go_loopg [11, 12, 13] 4 (fun k s11 s12 s13 wr => BLSum w w1.heap.size x y z t k s11 s12 s13 wr)
            case atStart => exact ⟨0, 0, 0, rfl, rfl, rfl, rfl, ⟨rfl, rfl⟩, HS.out, HZB.out⟩
            case round =>
              clear HS HZB
              obtain ⟨i, r, s, rfl, rfl, rfl, hk2, hsm, hs, hzb⟩ := hrel
              have HS := hide hs
              have HZB := hide hzb
              have HSM := hide hsm
              clear hs hzb hsm
              by_cases hi : i < 4
              · have hi' : (i : Int) < 4 := by omega
                have hgk2 : 0 < gk := by omega
                have ca := HS.out.a.at hi
                have cb := HS.out.b.at hi
                unfold flt at ca cb
                obtain ⟨m, hm⟩ : ∃ m : Nat, i * t = m := ⟨_, rfl⟩
                have hm9 : m ≤ 9 := by
                  rw [← hm]
                  exact Nat.mul_le_mul (show i ≤ 3 by omega) (show t ≤ 3 by omega)
                have e1 : (i : Int) * (t : Int) = (m : Int) := by rw [← hm]; simp
                have hm2 : IntKind.i64.wrap ((i : Int) * (t : Int)) = (m : Int) := by
                  rw [e1]
                  exact IntWalk.i64_in _ (by omega)
                obtain ⟨q, hq⟩ : ∃ q : Nat, m % 4 = q := ⟨_, rfl⟩
                have hq4 : q < 4 := by omega
                have hq2 : Int.tmod (m : Int) 4 = (q : Int) := by
                  rw [Int.tmod_eq_emod_of_nonneg (by omega)]
                  omega
                have HQ : Hid (((t : Int) * (i : Int) % 4).toNat = q) := hide (by rw [Int.mul_comm, e1]; omega)
                have HT := hide (fun W => rTurn_any (x i) (y i) q hq4 W)
                have hadd := fun t w x y => run_fadd Try.prog w t x y
                clear hm e1 hq
                go_wp2_with fail
                go_quiet ((go_at_call 8; with_reducible exact Calls.quiet_of_same (flipped (HT.out _))))
                clear hm2 hq2
                go_wp2_with fail
                go_roundg (gk - 1)
                case measure => omega
                case rel =>
                  refine ⟨i + 1, _, _, rfl, rfl, by go_num, by omega, ⟨r, s, HSM.out, ?_, ?_⟩, ?_, ?_⟩
                  · rw [HQ.out]; exact fpick_res _ _ _ _
                  · rw [HQ.out]; exact fpick_res _ _ _ _
                  · exact HS.out.drewN _
                  · exact HZB.out.drewN _
              · have hi' : decide (i < 4) = false := by simp; omega
                obtain rfl : i = 4 := by omega
                clear hi
                have cz := HZB.out.at ht
                unfold cpx at cz
                have hmul := fun t w x y => run_fmul Try.prog w t x y
                have hee : (∀ w1, E (z t).1 (fpick w1 (Fl.d.mul r 4598175219545276416) r 4598175219545276416)) ∧ ∀ w2, E (z t).2 (fpick w2 (Fl.d.mul s 4598175219545276416) s 4598175219545276416) := by
                  obtain ⟨r', s', h1, h2, h3⟩ := HZ.out t ht
                  obtain ⟨e1, e2⟩ := SumIs.E (SumIs_congr (fun i hi => inP4 _ i hi) h1) HSM.out
                  rw [mul_E e1 (.refl _)] at h2
                  rw [mul_E e2 (.refl _)] at h3
                  exact ⟨fun _ => h2.E (fpick_res _ _ _ _), fun _ => h3.E (fpick_res _ _ _ _)⟩
                have HE1 := hide hee.1
                have HE2 := hide hee.2
                clear hee
                go_wp2_with (first
                  | (go_at_call 10; (with_reducible refine (same_yes _ _ _ _ (HE1.out _) (HE2.out _) _).mono ?_); rintro e w' ⟨rfl, rfl⟩))
                go_roundg (ko - 1)
                case measure => omega
                case rel => exact ⟨t + 1, by go_num, by omega, HS.out.drewN _, HZB.out.drewN _⟩
          · have ht' : decide (t < 4) = false := by simp; omega
            obtain rfl : t = 4 := by omega
            clear ht
            go_wp2_with (first
              | (go_at_call 16; (with_reducible refine (awake_any _).mono ?_); rintro e w4 ⟨rfl, hb4⟩; have HB4 := hide hb4; clear hb4))
            go_ret
            exact ⟨rfl, HS.out.below.trans (HB4.out.mono HS.out.below.size)⟩
end Go.Proofs.Ytknchfalmjpiiaa.Ph
