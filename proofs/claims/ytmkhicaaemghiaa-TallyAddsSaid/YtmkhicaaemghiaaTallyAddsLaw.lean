/- The law of counts and beats added, walked. -/
import Derived.Test.YtmkhicaaemghiaaTallyAdd
import Derived.Test.YtmkhicaaemghiaaTallyCountsLaw
namespace Go.Proofs.Ytmkhicaaemghiaa.Ta
open Go.RowKit Go.Proofs.Ytmkhicaaemghiaa.W Go.Proofs.Ytmkhicaaemghiaa.Fl
set_option linter.unusedVariables false
set_option linter.unusedSimpArgs false

structure PairAt (w : World) (cs : Array Value) (xs es : Nat → Int) (by_ : Int) (br bi : Nat) (xs' es' : Nat → Int) (by' : Int) (br' bi' : Nat) (wr : World) : Prop where
  t : Blk wr w.heap.size 41 cs
  a : Blk wr (w.heap.size + 1) 28 (row 58 (tcell xs es by_ br bi))
  b : Blk wr (w.heap.size + 2) 28 (row 58 (tcell xs' es' by' br' bi'))
  below : Below w.heap.size w wr
section
variable {w wr wx : World} {cs : Array Value} {xs es xs' es' : Nat → Int} {by_ by' : Int} {br bi br' bi' : Nat}
theorem PairAt.actA (h : PairAt w cs xs es by_ br bi xs' es' by' br' bi' wr) {i : Nat} (hi : i < 24) (x : Int) : PairAt w cs (upd xs i x) es by_ br bi xs' es' by' br' bi' (wr.setCell ⟨w.heap.size + 1, i, none⟩ (.int .i64 x)) := by
  have h1 := h.a.upd i (.int .i64 x)
  rw [upd_act _ _ _ _ _ hi] at h1
  exact ⟨h.t.far (by simp) _, h1, h.b.far (by simp) _, h.below.setCell (by simp) _⟩
theorem PairAt.errA (h : PairAt w cs xs es by_ br bi xs' es' by' br' bi' wr) {i : Nat} (hi : i < 32) (x : Int) : PairAt w cs xs (upd es i x) by_ br bi xs' es' by' br' bi' (wr.setCell ⟨w.heap.size + 1, 24 + i, none⟩ (.int .i64 x)) := by
  have h1 := h.a.upd (24 + i) (.int .i64 x)
  rw [upd_err _ _ _ _ _ hi] at h1
  exact ⟨h.t.far (by simp) _, h1, h.b.far (by simp) _, h.below.setCell (by simp) _⟩
theorem PairAt.bytesA (h : PairAt w cs xs es by_ br bi xs' es' by' br' bi' wr) (x : Int) : PairAt w cs xs es x br bi xs' es' by' br' bi' (wr.setCell ⟨w.heap.size + 1, 56, none⟩ (.int .i64 x)) := by
  have h1 := h.a.upd 56 (.int .i64 x)
  rw [upd_bytes] at h1
  exact ⟨h.t.far (by simp) _, h1, h.b.far (by simp) _, h.below.setCell (by simp) _⟩
theorem PairAt.beatA (h : PairAt w cs xs es by_ br bi xs' es' by' br' bi' wr) (r s : Nat) : PairAt w cs xs es by_ r s xs' es' by' br' bi' (wr.setCell ⟨w.heap.size + 1, 57, none⟩ (.complex .f64 r s)) := by
  have h1 := h.a.upd 57 (.complex .f64 r s)
  rw [row_congr (fun c hc => upd_beat _ _ _ _ _ r s hc)] at h1
  exact ⟨h.t.far (by simp) _, h1, h.b.far (by simp) _, h.below.setCell (by simp) _⟩
theorem PairAt.actB (h : PairAt w cs xs es by_ br bi xs' es' by' br' bi' wr) {i : Nat} (hi : i < 24) (x : Int) : PairAt w cs xs es by_ br bi (upd xs' i x) es' by' br' bi' (wr.setCell ⟨w.heap.size + 2, i, none⟩ (.int .i64 x)) := by
  have h1 := h.b.upd i (.int .i64 x)
  rw [upd_act _ _ _ _ _ hi] at h1
  exact ⟨h.t.far (by simp) _, h.a.far (by simp) _, h1, h.below.setCell (by simp) _⟩
theorem PairAt.bytesB (h : PairAt w cs xs es by_ br bi xs' es' by' br' bi' wr) (x : Int) : PairAt w cs xs es by_ br bi xs' es' x br' bi' (wr.setCell ⟨w.heap.size + 2, 56, none⟩ (.int .i64 x)) := by
  have h1 := h.b.upd 56 (.int .i64 x)
  rw [upd_bytes] at h1
  exact ⟨h.t.far (by simp) _, h.a.far (by simp) _, h1, h.below.setCell (by simp) _⟩
theorem PairAt.beatB (h : PairAt w cs xs es by_ br bi xs' es' by' br' bi' wr) (r s : Nat) : PairAt w cs xs es by_ br bi xs' es' by' r s (wr.setCell ⟨w.heap.size + 2, 57, none⟩ (.complex .f64 r s)) := by
  have h1 := h.b.upd 57 (.complex .f64 r s)
  rw [row_congr (fun c hc => upd_beat _ _ _ _ _ r s hc)] at h1
  exact ⟨h.t.far (by simp) _, h.a.far (by simp) _, h1, h.below.setCell (by simp) _⟩
theorem PairAt.later (h : PairAt w cs xs es by_ br bi xs' es' by' br' bi' wr) (hb : Below wr.heap.size wr wx) : PairAt w cs xs es by_ br bi xs' es' by' br' bi' wx :=
  ⟨W.later hb h.t, W.later hb h.a, W.later hb h.b, h.below.trans (hb.mono h.below.size)⟩
theorem PairAt.drewN (h : PairAt w cs xs es by_ br bi xs' es' by' br' bi' wr) (k : Nat) : PairAt w cs xs es by_ br bi xs' es' by' br' bi' (wr.drewN k) := ⟨h.t, h.a, h.b, below_drewN h.below k⟩
theorem PairAt.alloc (h : PairAt w cs xs es by_ br bi xs' es' by' br' bi' wr) (o : Obj) : PairAt w cs xs es by_ br bi xs' es' by' br' bi' (wr.alloc o) := ⟨h.t.alloc o, h.a.alloc o, h.b.alloc o, h.below.alloc h.below.size o⟩
theorem PairAt.farRow (h : PairAt w cs xs es by_ br bi xs' es' by' br' bi' wr) {g : Nat} (hg : w.heap.size + 2 < g) (r : Array Value) : PairAt w cs xs es by_ br bi xs' es' by' br' bi' (wr.setRow g r) :=
  ⟨h.t.farRow (by omega) _, h.a.farRow (by omega) _, h.b.farRow (by omega) _, below_setRow h.below (by omega) _⟩
end
def z0 : Nat → Int := fun _ => 0
theorem tmod_bd (n : Int) : -1000000 < n.tmod 1000000 ∧ n.tmod 1000000 < 1000000 := by
  have h1 := Int.tmod_lt_of_pos n (show (0 : Int) < 1000000 by omega)
  have h2 := Int.tmod_lt_of_pos (-n) (show (0 : Int) < 1000000 by omega)
  rw [Int.neg_tmod] at h2
  omega
theorem same_adds (a m : Int) (x y u v : Nat) : sameT (upd z0 3 a) (upd z0 5 m) a x y (upd z0 3 m) z0 m u v = ((a == m) && ((m == 0) && ((a == m) && (sameB x u && sameB y v)))) := by
  have e1 : eqTo (upd z0 3 a) (upd z0 3 m) 24 = (a == m) := by
    rw [Bool.eq_iff_iff, eqTo_iff]
    simp
    constructor
    · intro h; simpa [upd] using h 3 (by omega)
    · intro h i hi; rw [h]
  have e2 : eqTo (upd z0 5 m) z0 32 = (m == 0) := by
    rw [Bool.eq_iff_iff, eqTo_iff]
    simp
    constructor
    · intro h; simpa [upd, z0] using h 5 (by omega)
    · intro h i hi; rw [h]; simp [upd, z0]
  unfold sameT
  rw [e1, e2]
set_option maxRecDepth 100000 in
set_option maxHeartbeats 1600000 in
theorem tallyAdds_walk (N M k : Int) (x y u v : Nat) (hx : x < 18446744073709551616) (hy : y < 18446744073709551616) (hu : u < 18446744073709551616) (hv : v < 18446744073709551616)
    (h0 : -9223372036854775808 ≤ k) (h1 : k ≤ 9223372036854775807) (w : World) :
    Calls Try.prog 5 #[.agg #[.int .i64 N, .int .i64 M, .float .f64 x, .float .f64 y, .float .f64 u, .float .f64 v, .int .i64 k]] w fun e w' => e = .returned (.bool true) ∧ Below w.heap.size w w' := by
  have hz := zero_tally
  obtain ⟨hN1, hN2⟩ := tmod_bd N
  obtain ⟨hM1, hM2⟩ := tmod_bd M
  obtain ⟨a, ha⟩ : ∃ a, N.tmod 1000000 = a := ⟨_, rfl⟩
  obtain ⟨m, hm⟩ : ∃ a, M.tmod 1000000 = a := ⟨_, rfl⟩
  rw [ha] at hN1 hN2
  rw [hm] at hM1 hM2
  have hq := fun W => Ph.quarters_any k h0 h1 W
  obtain ⟨q, hqq⟩ : ∃ q : Nat, k % 4 = (q : Int) := ⟨(k % 4).toNat, by omega⟩
  have hq4 : q < 4 := by omega
  rw [hqq] at hq
  have HQ := hide hq
  have HRT := hide (fun W => Ph.rTurn_any u v q hq4 W)
  have HAdd := hide (fun W => add_any (upd z0 3 a) (upd z0 5 m) a x y (upd z0 3 m) z0 m u v k W)
  rw [hqq, Int.toNat_natCast] at HAdd
  have HRS := hide (fun W => Ph.rSame_any x y u v hx hy hu hv W)
  have HSm := hide (fun W => same_any (upd z0 3 a) (upd z0 5 m) a x y (upd z0 3 m) z0 m u v W)
  rw [same_adds] at HSm
  obtain ⟨t1, ht1⟩ : ∃ t, (Ph.rot q u v).1 = t := ⟨_, rfl⟩
  obtain ⟨t2, ht2⟩ : ∃ t, (Ph.rot q u v).2 = t := ⟨_, rfl⟩
  have het : Ph.rot q u v = (t1, t2) := by rw [← ht1, ← ht2]
  rw [ht1, ht2] at HRT
  rw [het] at HAdd
  have Wf1 : Hid (sumA (upd z0 3 a) (upd z0 3 m) 3 = a + m) := hide (by simp [sumA, upd]; unfold wrap64; omega)
  have Wf2 : Hid (sumA (upd z0 5 m) z0 5 = m) := hide (by simp [sumA, upd, z0]; unfold wrap64; omega)
  have Wf3 : Hid (wrap64 (a + m) = a + m) := hide (by unfold wrap64; omega)
  clear het ht1 ht2 hq hqq hx hy hu hv h0 h1
  go_enter Try.func5, Try.ntmps5
  go_wp2_with fail
  go_quiet (fail)
  clear ha hm
  go_upto_region 3 with fail
  generalize hW : World.drewN _ _ = W
  have HS0 : Hid (PairAt w #[.int .i64 N, .int .i64 M, .float .f64 x, .float .f64 y, .float .f64 u, .float .f64 v, .int .i64 k] z0 z0 0 0 0 z0 z0 0 0 0 W) := hide (by
    rw [← hW]
    exact ⟨((Blk.newAt w _ _ _ rfl).alloc _).alloc _, (Blk.newAt (w.alloc _) 28 (row 58 zero58) _ (by simp)).alloc _, Blk.newAt ((w.alloc _).alloc _) 28 (row 58 zero58) _ (by simp), below_drewN ((((Below.refl _ _).alloc (Nat.le_refl _) _).alloc (by simp) _).alloc (by simp; omega) _) _⟩)
  clear hW
  have f1 := HS0.out.a.frozen 3
  have f2 := HS0.out.a.frozen 29
  have f3 := HS0.out.a.frozen 56
  have f4 := HS0.out.a.frozen 57
  have f5 := HS0.out.b.frozen 3
  have f6 := HS0.out.b.frozen 56
  have f7 := HS0.out.b.frozen 57
  have b3 := HS0.out.a.at (i := 3) (by omega)
  have b4 := HS0.out.a.at (i := 29) (by omega)
  have b5 := HS0.out.a.at (i := 56) (by omega)
  have b6 := HS0.out.a.at (i := 57) (by omega)
  have b7 := HS0.out.b.at (i := 3) (by omega)
  have b8 := HS0.out.b.at (i := 56) (by omega)
  have b9 := HS0.out.b.at (i := 57) (by omega)
  have c2 : W.cell? ⟨w.heap.size, 2, none⟩ = some (.float .f64 x) := HS0.out.t.cell 2
  have c3 : W.cell? ⟨w.heap.size, 3, none⟩ = some (.float .f64 y) := HS0.out.t.cell 3
  have c4 : W.cell? ⟨w.heap.size, 4, none⟩ = some (.float .f64 u) := HS0.out.t.cell 4
  have c5 : W.cell? ⟨w.heap.size, 5, none⟩ = some (.float .f64 v) := HS0.out.t.cell 5
  go_upto_region 10 with fail
  clear f1 f2 f3 f4 f5 f6 f7 b3 b4 b5 b6 b7 b8 b9 c2 c3 c4 c5
  have hS1 := ((((((HS0.out.actA (i := 3) (by omega) a).actB (i := 3) (by omega) m).errA (i := 5) (by omega) m).bytesA a).bytesB m).beatA x y).beatB u v
  generalize hW1 : World.setCell _ _ _ = W1
  have HS1 : Hid (PairAt w #[.int .i64 N, .int .i64 M, .float .f64 x, .float .f64 y, .float .f64 u, .float .f64 v, .int .i64 k] (upd z0 3 a) (upd z0 5 m) a x y (upd z0 3 m) z0 m u v W1) := hide (by
    rw [← hW1]
    exact hS1)
  clear hW1 hS1 HS0
  have c6 : W1.cell? ⟨w.heap.size, 6, none⟩ = some (.int .i64 k) := HS1.out.t.cell 6
  go_upto_region 11 with (first
    | (with_reducible refine wpList_load_all rfl 28 (.tmp 5) rfl (w.heap.size + 1) rfl 28 58 _ _ HS1.out.a rfl Try.underlying28 info58 ?_)
    | (with_reducible refine wpList_load_all rfl 28 (.tmp 6) rfl (w.heap.size + 2) rfl 28 58 _ _ HS1.out.b rfl Try.underlying28 info58 ?_)
    | (go_at_call 15; (with_reducible refine (HAdd.out _).mono ?_); rintro e w1 ⟨hb1, r, s, hr, hs, rfl⟩; have HB1 := hide hb1; have HR := hide hr; have HSs := hide hs; clear hb1 hr hs)
    | (with_reducible refine wpList_store_all rfl 28 (.tmp 7) (.tmp 45) rfl w1.heap.size rfl 28 58 _ _ rfl (Blk.newAt w1 _ _ _ rfl) info58 (fun j _ => tcell_one _ _ _ _ _ j) ?_))
  have l1 := HB1.out.size
  have l2 := HS1.out.b.lt
  generalize hW2 : World.setRow _ _ _ = W2
  have HS2 : Hid (PairAt w #[.int .i64 N, .int .i64 M, .float .f64 x, .float .f64 y, .float .f64 u, .float .f64 v, .int .i64 k] (upd z0 3 a) (upd z0 5 m) a x y (upd z0 3 m) z0 m u v W2) := hide (by
    rw [← hW2]
    exact ((HS1.out.later HB1.out).alloc _).farRow (by omega) _)
  have HC2 : Hid (Blk W2 w1.heap.size 28 (row 58 (tcell (sumA (upd z0 3 a) (upd z0 3 m)) (sumA (upd z0 5 m) z0) (wrap64 (a + m)) r s))) := hide (by
    rw [← hW2]
    exact (Blk.newAt w1 _ _ _ rfl).row_ _)
  clear hW2 HS1 c6 l1 l2
  obtain ⟨g7, hg7⟩ : ∃ g, w1.heap.size = g := ⟨_, rfl⟩
  rw [hg7] at HC2 ⊢
  clear hg7
  have c2 : W2.cell? ⟨w.heap.size, 2, none⟩ = some (.float .f64 x) := HS2.out.t.cell 2
  have c3 : W2.cell? ⟨w.heap.size, 3, none⟩ = some (.float .f64 y) := HS2.out.t.cell 3
  have c4 : W2.cell? ⟨w.heap.size, 4, none⟩ = some (.float .f64 u) := HS2.out.t.cell 4
  have c5 : W2.cell? ⟨w.heap.size, 5, none⟩ = some (.float .f64 v) := HS2.out.t.cell 5
  have c6 : W2.cell? ⟨w.heap.size, 6, none⟩ = some (.int .i64 k) := HS2.out.t.cell 6
  have d3 := HC2.out.at (i := 3) (by omega)
  have d29 := HC2.out.at (i := 24 + 5) (by omega)
  have d56 := HC2.out.at (i := 56) (by omega)
  have d57 := HC2.out.at (i := 57) (by omega)
  rw [tcell_act _ _ _ _ _ (by omega), Wf1.out] at d3
  rw [tcell_err _ _ _ _ _ (by omega), Wf2.out] at d29
  rw [tcell_bytes, Wf3.out] at d56
  rw [tcell_beat] at d57
  simp only [Nat.reduceAdd] at d29
  go_wp2_with fail
  go_quiet (first
    | (go_at_call 17; with_reducible exact Calls.quiet_of_same (flipped (HQ.out _)))
    | (go_at_call 16; with_reducible exact Calls.quiet_of_same (flipped (HRT.out _))))
  have hadd := fun t w x y => run_fadd Try.prog w t x y
  go_upto_region 14 with (first
    | (go_at_call 18; (with_reducible refine (Ph.rSame_yes _ _ _ _ (HR.out.E (fpick_res _ _ _ _)) (HSs.out.E (fpick_res _ _ _ _)) _).mono ?_); rintro e w' ⟨rfl, rfl⟩))
  generalize hK : W2.drewN (nq + fdraws (Fl.d.add x t1) + fdraws (Fl.d.add y t2)) = W3
  have HS3 : Hid (PairAt w #[.int .i64 N, .int .i64 M, .float .f64 x, .float .f64 y, .float .f64 u, .float .f64 v, .int .i64 k] (upd z0 3 a) (upd z0 5 m) a x y (upd z0 3 m) z0 m u v W3) := hide (by
    rw [← hK]
    exact HS2.out.drewN _)
  have HC3 : Hid (Blk W3 g7 28 (row 58 (tcell (sumA (upd z0 3 a) (upd z0 3 m)) (sumA (upd z0 5 m) z0) (wrap64 (a + m)) r s))) := hide (by
    rw [← hK]
    exact HC2.out.drewN _)
  clear hK HS2 HC2 c2 c3 c4 c5 c6 d3 d29 d56 d57 hadd
  have HSC := hide (fun W => same_any (sumA (upd z0 3 a) (upd z0 3 m)) (sumA (upd z0 5 m) z0) (wrap64 (a + m)) r s (sumA (upd z0 3 a) (upd z0 3 m)) (sumA (upd z0 5 m) z0) (wrap64 (a + m)) r s W)
  have hself : ∀ (f g : Nat → Int) (z : Int) (r s : Nat), sameT f g z r s f g z r s = true := fun f g z r s => by simp [sameT, eqTo, sameB]
  rw [hself] at HSC
  clear hself
  have HA3 := hide HS3.out.a
  have HBb3 := hide HS3.out.b
  have HT3 := hide HS3.out.t
  have HBl3 := hide HS3.out.below
  obtain ⟨FA, hFA⟩ : ∃ F, tcell (upd z0 3 a) (upd z0 5 m) a x y = F := ⟨_, rfl⟩
  obtain ⟨FB, hFB⟩ : ∃ F, tcell (upd z0 3 m) z0 m u v = F := ⟨_, rfl⟩
  obtain ⟨FC, hFC⟩ : ∃ F, tcell (sumA (upd z0 3 a) (upd z0 3 m)) (sumA (upd z0 5 m) z0) (wrap64 (a + m)) r s = F := ⟨_, rfl⟩
  rw [hFA] at HA3 HSm
  rw [hFB] at HBb3 HSm
  rw [hFC] at HC3 HSC
  clear hFA hFB hFC HS3
  obtain ⟨b3, hb3⟩ : ∃ b, (sameB x u && sameB y v) = b := ⟨_, rfl⟩
  rw [hb3] at HRS HSm
  clear hb3
  obtain ⟨b4, hb4⟩ : ∃ b, ((a == m) && ((m == 0) && ((a == m) && b3))) = b := ⟨_, rfl⟩
  rw [hb4] at HSm
  have hcase : (a = m ∧ m = 0) ∨ (a = m ∧ (m == 0) = false) ∨ (a == m) = false := by
    by_cases h1 : a = m
    · by_cases h2 : m = 0
      · exact .inl ⟨h1, h2⟩
      · exact .inr (.inl ⟨h1, by simpa using h2⟩)
    · exact .inr (.inr (by simpa using h1))
  rcases hcase with ⟨rfl, rfl⟩ | ⟨rfl, hm0⟩ | hm0
  all_goals cases b3
  all_goals
    first
      | simp only [hm0, beq_self_eq_true, Bool.and_true, Bool.and_false, Bool.true_and, Bool.false_and] at hb4
      | simp only [beq_self_eq_true, Bool.and_true, Bool.and_false, Bool.true_and, Bool.false_and] at hb4
    subst hb4
    clear HAdd HRT HQ HR HSs Wf1 Wf2 Wf3 HB1 hz
    go_wp2_with (first
      | (go_at_call 11; (with_reducible refine (awake_any _).mono ?_); rintro e w4 ⟨rfl, hb4⟩; have HB4 := hide hb4; have HA4 := hide (later hb4 HA3.out); have HBb4 := hide (later hb4 HBb3.out); have HT4 := hide (later hb4 HT3.out); have HC4 := hide (later hb4 HC3.out); clear hb4)
      | ((with_reducible refine wpList_load_met 28 (.tmp 5) rfl ?_ (w.heap.size + 1) ?_ 28 _ _ HA4.out ?_ Try.underlying28 ?_ ?_); (· rfl); (· rfl); (· rfl); (· (rw [row_size]; exact info58)))
      | ((with_reducible refine wpList_load_met 28 (.tmp 6) rfl ?_ (w.heap.size + 2) ?_ 28 _ _ HBb4.out ?_ Try.underlying28 ?_ ?_); (· rfl); (· rfl); (· rfl); (· (rw [row_size]; exact info58)))
      | (go_at_call 19; (with_reducible refine (HSm.out _).mono ?_); rintro e w5 ⟨rfl, hb5⟩; have HB5 := hide hb5; have HT5 := hide (later hb5 HT4.out); have HC5 := hide (later hb5 HC4.out);
          have e2 : w5.cell? ⟨w.heap.size, 2, none⟩ = some (.float .f64 x) := HT5.out.cell 2;
          have e3 : w5.cell? ⟨w.heap.size, 3, none⟩ = some (.float .f64 y) := HT5.out.cell 3;
          have e4 : w5.cell? ⟨w.heap.size, 4, none⟩ = some (.float .f64 u) := HT5.out.cell 4;
          have e5 : w5.cell? ⟨w.heap.size, 5, none⟩ = some (.float .f64 v) := HT5.out.cell 5; clear hb5)
      | (go_at_call 18; (with_reducible refine (HRS.out _).mono ?_); rintro e w' ⟨rfl, rfl⟩)
      | ((with_reducible refine wpList_load_met 28 (.tmp 7) rfl ?_ (g7) ?_ 28 _ _ HC5.out ?_ Try.underlying28 ?_ ?_); (· rfl); (· rfl); (· rfl); (· (rw [row_size]; exact info58)))
      | (go_at_call 19; (with_reducible refine (HSC.out _).mono ?_); rintro e w6 ⟨rfl, hb6⟩; have HB6 := hide hb6; clear hb6))
    go_ret
    have q1 := HBl3.out.trans (HB4.out.mono HBl3.out.size)
    have q2 := q1.trans (HB5.out.mono q1.size)
    exact ⟨rfl, q2.trans (HB6.out.mono q2.size)⟩
end Go.Proofs.Ytmkhicaaemghiaa.Ta
