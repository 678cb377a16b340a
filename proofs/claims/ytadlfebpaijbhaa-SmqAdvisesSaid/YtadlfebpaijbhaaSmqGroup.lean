/- The end of a group's period. -/
import Derived.Test.YtadlfebpaijbhaaSmqHit
import Derived.Test.YtadlfebpaijbhaaSmqBeat
namespace Go.Proofs.Ytadlfebpaijbhaa.Lv
open Go.RowKit Go.Proofs.Ytadlfebpaijbhaa.W
set_option linter.unusedVariables false
set_option linter.unusedSimpArgs false

set_option maxRecDepth 100000 in
theorem group1_any (gp gq gh : Nat) (s : Sm) (g : Nat) (b : Int) (gb gi : Nat) (hg : g < 16) (hw : wh s.H g < 4) (w : World) (h : PA w gp gq gh s) (cb : w.cell? ⟨gb, 0, none⟩ = some (.pointer (some ⟨gp, 0, none⟩))) (ci : w.cell? ⟨gi, 0, none⟩ = some (.int .i64 (g : Int))) :
    Calls Try.prog 53 #[.int .i64 b, .pointer (some ⟨gb, 0, none⟩), .pointer (some ⟨gi, 0, none⟩)] w fun e w' => e = .returned (.tuple #[]) ∧ PA w' gp gq gh { s with H := mv s.H g b } ∧ Chg (one gq) w w' := by
  have c0 := h.c0
  have HM : Hid (Calls Try.prog 44 #[.pointer (some ⟨gq, 0, none⟩), .int .i64 (g : Int), .int .i64 b] w.drew (AE gq 16 (mv s.H g b) 0 w.drew)) := hide (move_on gq 16 s.H g b hg hw (w.drewN 1) (h.drewN 1).q)
  have HP : Hid (PA w.drew gp gq gh s) := hide (h.drewN 1)
  clear h hw
  go_enter Try.func53, Try.ntmps53
  go_upto_region 0 with fail
  go_region_with (first
    | (go_at_call 44; (with_reducible refine HM.out.mono ?_); intro e w1 ha; have HE := hide (HP.out.hot ha.2.1 ha.2.2); have HC := hide ha.2.2; obtain ⟨he, _, _⟩ := ha; subst he))
  all_goals
    go_wp2_with fail
    go_end0
    exact ⟨rfl, HE.out, ((Chg.refl (one gq) w).drewN 1).trans HC.out (fun _ _ h => h)⟩
theorem nC_count {s : Sm} (h : Ok s) (g : Nat) : Ph.allC (nC s.C g) = true := by
  have hc : ∀ q, Ph.isCount (nC s.C g q) = true := fun q => by
    have := h.c (4 * g + q)
    unfold Ph.isCount nC
    simp
    omega
  unfold Ph.allC
  rw [hc 0, hc 1, hc 2, hc 3]
  rfl
set_option maxRecDepth 100000 in
set_option maxHeartbeats 4000000 in
theorem group_any (gp gq gh : Nat) (s : Sm) (g : Nat) (hg : g < 16) (w : World) (h : PA w gp gq gh s) : Calls Try.prog 42 #[.pointer (some ⟨gp, 0, none⟩), .int .i64 (g : Int)] w fun e w' => e = .returned (.tuple #[]) ∧ PA w' gp gq gh { s with H := grp s.H s.C g } ∧ Chg (three gp gq gh) w w' := by
  have HP := hide h
  have g16 : (g : Int) < 16 := by omega
  obtain ⟨W2, hW2⟩ : ∃ W, (w.alloc (.cells #[.pointer (some ⟨gp, 0, none⟩)] 23)).alloc (.cells #[.int .i64 (g : Int)] 3) = W := ⟨_, rfl⟩
  have HW2 := hide hW2
  have hb2 : Below w.heap.size w W2 := by rw [← hW2]; exact ((Below.refl w.heap.size w).alloc (Nat.le_refl _) _).alloc (by simp) _
  have hp2 := h.later hb2
  have cb2 : Blk W2 w.heap.size 23 #[.pointer (some ⟨gp, 0, none⟩)] := by rw [← hW2]; exact (Blk.newAt w _ _ _ rfl).alloc _
  have ci2 : Blk W2 (w.heap.size + 1) 3 #[.int .i64 (g : Int)] := by rw [← hW2]; exact Blk.newAt (w.alloc _) _ _ _ (by simp)
  have c0 := hp2.c0
  have cb := cb2.one_
  have ci := ci2.one_
  have HP2 := hide hp2
  have HCb := hide cb2
  have HCi := hide ci2
  have HB2 := hide hb2
  clear h hb2 hp2 cb2 ci2 hW2
  by_cases hw : wh s.H g = 4
  · have hgr : grp s.H s.C g = s.H := if_pos hw
    rw [hgr]
    have HL := hide (fun q => level_off gq 16 s.H g hg hw (W2.drewN q) (HP2.out.drewN q).q)
    clear hw hgr
    go_enter Try.func42, Try.ntmps42
    go_upto_region 1 with fail
    rw [HW2.out]
    go_quiet (first
      | (go_at_call 26; exact Calls.quiet_of_same (HL.out _)))
    go_wp2_with fail
    refine bodyPost_ret (results_none rfl _ _ _) rfl ?_
    exact ⟨rfl, HP2.out.drewN _, (Chg.of_below (S := three gp gq gh) HB2.out).drewN _⟩
  · have hw4 := wh_lt hw
    have HL := hide (fun q => level_on gq 16 s.H g (wh s.H g) hg hw4 (wh_mem hw4) (W2.drewN q) (HP2.out.drewN q).q)
    have HAll := hide (nC_count HP.out.ok g)
    have x0 : W2.cell? ⟨gp, 2 + g * 4, none⟩ = some (.int .i64 (nC s.C g 0)) := by
      have h := HP2.out.p.at (i := 2 + (4 * g + 0)) (by omega)
      rw [pcell_count _ _ _ _ _ (by omega)] at h
      rw [show 2 + g * 4 = 2 + (4 * g + 0) by omega, h]
      rfl
    have x1 : W2.cell? ⟨gp, 2 + g * 4 + 1, none⟩ = some (.int .i64 (nC s.C g 1)) := by
      have h := HP2.out.p.at (i := 2 + (4 * g + 1)) (by omega)
      rw [pcell_count _ _ _ _ _ (by omega)] at h
      rw [show 2 + g * 4 + 1 = 2 + (4 * g + 1) by omega, h]
      rfl
    have x2 : W2.cell? ⟨gp, 2 + g * 4 + 2, none⟩ = some (.int .i64 (nC s.C g 2)) := by
      have h := HP2.out.p.at (i := 2 + (4 * g + 2)) (by omega)
      rw [pcell_count _ _ _ _ _ (by omega)] at h
      rw [show 2 + g * 4 + 2 = 2 + (4 * g + 2) by omega, h]
      rfl
    have x3 : W2.cell? ⟨gp, 2 + g * 4 + 3, none⟩ = some (.int .i64 (nC s.C g 3)) := by
      have h := HP2.out.p.at (i := 2 + (4 * g + 3)) (by omega)
      rw [pcell_count _ _ _ _ _ (by omega)] at h
      rw [show 2 + g * 4 + 3 = 2 + (4 * g + 3) by omega, h]
      rfl
    obtain ⟨j, hj⟩ : ∃ j, 2 + g * 4 = j := ⟨_, rfl⟩
    rw [hj] at x0 x1 x2 x3
    obtain ⟨n0, hn0⟩ : ∃ n, nC s.C g 0 = n := ⟨_, rfl⟩
    obtain ⟨n1, hn1⟩ : ∃ n, nC s.C g 1 = n := ⟨_, rfl⟩
    obtain ⟨n2, hn2⟩ : ∃ n, nC s.C g 2 = n := ⟨_, rfl⟩
    obtain ⟨n3, hn3⟩ : ∃ n, nC s.C g 3 = n := ⟨_, rfl⟩
    rw [hn0] at x0
    rw [hn1] at x1
    rw [hn2] at x2
    rw [hn3] at x3
    have hrow : row 4 (Ph.i64f (nC s.C g)) = #[.int .i64 n0, .int .i64 n1, .int .i64 n2, .int .i64 n3] := by
      rw [← hn0, ← hn1, ← hn2, ← hn3]
      rfl
    have HRow := hide hrow
    have hb0 : 0 ≤ n0 ∧ n0 ≤ 1048576 := by
      have := HP.out.ok.c (4 * g + 0)
      rw [← hn0]
      unfold nC
      omega
    have hb1 : 0 ≤ n1 ∧ n1 ≤ 1048576 := by
      have := HP.out.ok.c (4 * g + 1)
      rw [← hn1]
      unfold nC
      omega
    have hb2 : 0 ≤ n2 ∧ n2 ≤ 1048576 := by
      have := HP.out.ok.c (4 * g + 2)
      rw [← hn2]
      unfold nC
      omega
    have hb3 : 0 ≤ n3 ∧ n3 ≤ 1048576 := by
      have := HP.out.ok.c (4 * g + 3)
      rw [← hn3]
      unfold nC
      omega
    obtain ⟨m, hm⟩ : ∃ m, cN s.C g = m := ⟨_, rfl⟩
    have hsum : n0 + n1 + n2 + n3 = (m : Int) := by
      rw [← hn0, ← hn1, ← hn2, ← hn3, ← hm]
      unfold nC cN
      simp
    have w1 : IntKind.i64.wrap (n0 + n1) = n0 + n1 := IntWalk.i64_in _ (by omega)
    have w2 : IntKind.i64.wrap (n0 + n1 + n2) = n0 + n1 + n2 := IntWalk.i64_in _ (by omega)
    have w3 : IntKind.i64.wrap (n0 + n1 + n2 + n3) = (m : Int) := by rw [hsum]; exact IntWalk.i64_in _ (by omega)
    have glp := HP2.out.p.lt
    have glb := HCb.out.lt
    have gli := HCi.out.lt
    obtain ⟨l, hl⟩ : ∃ l, wh s.H g = l := ⟨_, rfl⟩
    rw [hl] at HL hw4
    have HLl := hide hl
    have HM := hide hm
    have HBd := hide (And.intro hb0 (And.intro hb1 (And.intro hb2 hb3)))
    clear hw hn0 hn1 hn2 hn3 hrow hb0 hb1 hb2 hb3 hm hl hsum
    go_enter Try.func42, Try.ntmps42
    go_upto_region 1 with fail
    rw [HW2.out]
    go_quiet (first
      | (go_at_call 26; exact Calls.quiet_of_same (HL.out _)))
    go_upto_region 3 with fail
    go_region
    go_upto_region 6 with fail
    have hk3 : Blk ((W2.alloc (.cells #[.int .i64 n0, .int .i64 n1, .int .i64 n2, .int .i64 n3] 49)).drewN (nq + 1)) W2.heap.size 49 (row 4 (Ph.i64f (nC s.C g))) := by
      rw [HRow.out]
      exact (Blk.newAt W2 _ _ _ rfl).drewN _
    have hb3 : Below W2.heap.size W2 ((W2.alloc (.cells #[.int .i64 n0, .int .i64 n1, .int .i64 n2, .int .i64 n3] 49)).drewN (nq + 1)) := below_drewN ((Below.refl _ _).alloc (Nat.le_refl _) _) _
    generalize (W2.alloc (.cells #[.int .i64 n0, .int .i64 n1, .int .i64 n2, .int .i64 n3] 49)).drewN (nq + 1) = W3 at hk3 hb3 ⊢
    obtain ⟨gc, hgc⟩ : ∃ x, W2.heap.size = x := ⟨_, rfl⟩
    have HP3 := hide (HP2.out.later hb3)
    have HCb3 := hide (W.later hb3 HCb.out)
    have HCi3 := hide (W.later hb3 HCi.out)
    have HB3 := hide (HB2.out.trans (hb3.mono HB2.out.size))
    rw [hgc] at hk3
    simp only [hgc]
    obtain ⟨gb, hgb⟩ : ∃ x, w.heap.size = x := ⟨_, rfl⟩
    have HGb := hide hgb
    have HK3 := hide hk3
    have hS3 : Hid (Chg (three gp gq gh) w W3) := hide (Chg.of_below HB3.out)
    rw [hgb] at HCb3 HCi3
    simp only [hgb]
    clear hk3 hb3 hgc hgb x0 x1 x2 x3 cb ci c0 glp glb gli HL HCb HCi HP2 HB2 HW2 w1 w2 w3 hj HRow HBd HP HB3
    have cb3 := HCb3.out.one_
    have ci3 := HCi3.out.one_
    have c03 := HP3.out.c0
    have glb := HCb3.out.lt
    have gli := HCi3.out.lt
    have HQ1 : Hid (∀ b, Calls Try.prog 53 #[.int .i64 b, .pointer (some ⟨gb, 0, none⟩), .pointer (some ⟨gb + 1, 0, none⟩)] W3 fun e w' => e = .returned (.tuple #[]) ∧ PA w' gp gq gh { s with H := mv s.H g b } ∧ Chg (one gq) W3 w') := hide (fun b => group1_any gp gq gh s g b gb (gb + 1) hg (by rw [HLl.out]; exact hw4) W3 HP3.out cb3 ci3)
    by_cases hm0 : m = 0
    · subst hm0
      by_cases hl0 : l = 0
      · subst hl0
        have hgr : grp s.H s.C g = rem s.H g := by
          unfold grp
          rw [if_neg (by rw [HLl.out]; omega), if_pos HM.out, if_pos HLl.out]
        have HGr := hide hgr
        have HRm : Hid (Calls Try.prog 51 #[.pointer (some ⟨gq, 0, none⟩), .int .i64 (g : Int)] W3.drew (AE gq 16 (rem s.H g) 0 W3.drew)) := hide (remove_on gq 16 s.H g hg (by rw [HLl.out]; exact hw4) (W3.drewN 1) (HP3.out.drewN 1).q)
        have HP4 : Hid (PA W3.drew gp gq gh s) := hide (HP3.out.drewN 1)
        clear hgr
        go_upto_region 7 with fail
        go_region_with (first
          | (go_at_call 51; (with_reducible refine HRm.out.mono ?_); intro e w4 ha; have HE := hide (HP4.out.hot ha.2.1 ha.2.2); have HC := hide ha.2.2; obtain ⟨he, _, _⟩ := ha; subst he))
        all_goals
          go_wp2_with fail
          go_end0
          exact ⟨rfl, by rw [HGr.out]; exact HE.out, (hS3.out.drewN 1).trans HC.out (fun _ _ => one_three)⟩
      · have hgr : grp s.H s.C g = mv s.H g (-1) := by
          unfold grp
          rw [if_neg (by rw [HLl.out]; omega), if_pos HM.out, if_neg (by rw [HLl.out]; exact hl0)]
        have HGr := hide hgr
        have t1 : ((l : Int) == 0) = false := by simp; omega
        have t2 : (l == 0) = false := by simp; omega
        clear hgr hl0
        go_wp2_with (first
          | (go_at_call 53; (with_reducible refine (HQ1.out _).mono ?_); rintro e w4 ⟨rfl, h1, h2⟩; have HE := hide h1; have HC := hide h2; clear h1 h2))
        go_end0
        exact ⟨rfl, by rw [HGr.out]; exact HE.out, hS3.out.trans HC.out (fun _ _ => one_three)⟩
    · have t1 : ((m : Int) == 0) = false := by simp; omega
      have t2 : (m == 0) = false := by simp; omega
      by_cases hm3 : m < 3
      · have hgr : grp s.H s.C g = s.H := by
          unfold grp
          rw [if_neg (by rw [HLl.out]; omega), if_neg (by rw [HM.out]; exact hm0), if_pos (by rw [HM.out]; exact hm3)]
        have HGr := hide hgr
        have t3 : decide ((3 : Int) ≤ (m : Int)) = false := by simp; omega
        have t4 : decide (3 ≤ m) = false := by simp; omega
        clear hgr hm0 hm3
        go_wp2_with fail
        go_end0
        exact ⟨rfl, by rw [HGr.out]; exact HP3.out, hS3.out⟩
      · have t3 : (3 : Int) ≤ (m : Int) := by omega
        have hgr : grp s.H s.C g = if 4 ≤ m ∧ beats (nC s.C g) = true then mv (mv s.H g 1) g 1 else mv s.H g 1 := by
          unfold grp
          rw [if_neg (by rw [HLl.out]; omega), if_neg (by rw [HM.out]; exact hm0), if_neg (by rw [HM.out]; exact hm3), HM.out]
        by_cases hm4 : m < 4
        · rw [if_neg (by omega)] at hgr
          have HGr := hide hgr
          have t4 : decide ((4 : Int) ≤ (m : Int)) = false := by simp; omega
          have t5 : decide (4 ≤ m) = false := by simp; omega
          clear hgr hm0 hm3 hm4
          go_wp2_with (first
            | (go_at_call 53; (with_reducible refine (HQ1.out _).mono ?_); rintro e w4 ⟨rfl, h1, h2⟩; have HE := hide h1; have HC := hide h2; clear h1 h2))
          go_end0
          exact ⟨rfl, by rw [HGr.out]; exact HE.out, hS3.out.trans HC.out (fun _ _ => one_three)⟩
        · have t4 : (4 : Int) ≤ (m : Int) := by omega
          have h4m : 4 ≤ m := by omega
          have HRg := hide (fun W => Ph.regular_any HAll.out W)
          obtain ⟨b, hb⟩ : ∃ b, beats (nC s.C g) = b := ⟨_, rfl⟩
          rw [hb] at HRg hgr
          have nqc : gc ≠ gq := by
            obtain ⟨cs, hcs⟩ := HP3.out.q.blk
            exact HK3.out.ne_ hcs (by decide)
          have nqb : gb ≠ gq := by
            obtain ⟨cs, hcs⟩ := HP3.out.q.blk
            exact HCb3.out.ne_ hcs (by decide)
          have nqi : gb + 1 ≠ gq := by
            obtain ⟨cs, hcs⟩ := HP3.out.q.blk
            exact HCi3.out.ne_ hcs (by decide)
          clear hm0 hm3 hm4 hb
          cases b with
          | false =>
            rw [if_neg (by simp)] at hgr
            have HGr := hide hgr
            clear hgr
            go_wp2_with (first
              | (go_at_call 53; (with_reducible refine (HQ1.out _).mono ?_); rintro e w4 ⟨rfl, h1, h2⟩; have HE := hide h1; have HC := hide h2; have HK4 := hide (HK3.out.chg h2 nqc); clear h1 h2)
              | (refine wpList_load_met 49 (.tmp 6) rfl (by rfl) gc rfl 49 _ _ HK4.out rfl Try.underlying49 (by rw [row_size]; kernel_rfl) ?_)
              | (go_at_call 54; (with_reducible refine (HRg.out _).mono ?_); rintro e w5 ⟨rfl, hb⟩; have HE5 := hide (HE.out.later hb); have HC5 := hide (HC.out.trans (Chg.of_below (S := one gq) hb) (fun _ _ h => h)); clear hb))
            go_end0
            exact ⟨rfl, by rw [HGr.out]; exact HE5.out, hS3.out.trans HC5.out (fun _ _ => one_three)⟩
          | true =>
            rw [if_pos ⟨h4m, rfl⟩] at hgr
            have HGr := hide hgr
            clear hgr
            have hw5 : wh (mv s.H g 1) g < 4 := by rw [wh_mv HP3.out.ok.h hg]; exact moved_lt _ _
            go_upto_region 13 with (first
              | (go_at_call 53; (with_reducible refine (HQ1.out _).mono ?_); rintro e w4 ⟨rfl, h1, h2⟩; have HE := hide h1; have HC := hide h2; have HK4 := hide (HK3.out.chg h2 nqc); have HCb4 := hide (HCb3.out.chg h2 nqb); have HCi4 := hide (HCi3.out.chg h2 nqi); clear h1 h2)
              | (refine wpList_load_met 49 (.tmp 6) rfl (by rfl) gc rfl 49 _ _ HK4.out rfl Try.underlying49 (by rw [row_size]; kernel_rfl) ?_)
              | (go_at_call 54; (with_reducible refine (HRg.out _).mono ?_); rintro e w5 ⟨rfl, hb⟩; have HE5 := hide (HE.out.later hb); have HC5 := hide (HC.out.trans (Chg.of_below (S := one gq) hb) (fun _ _ h => h)); have HCb5 := hide (W.later hb HCb4.out); have HCi5 := hide (W.later hb HCi4.out); clear hb))
            have HQ2 := hide (group1_any gp gq gh { s with H := mv s.H g 1 } g 1 gb (gb + 1) hg hw5 w5 HE5.out HCb5.out.one_ HCi5.out.one_)
            go_wp2_with (first
              | (go_at_call 53; (with_reducible refine HQ2.out.mono ?_); rintro e w6 ⟨rfl, h1, h2⟩; have HE6 := hide h1; have HC6 := hide h2; clear h1 h2))
            go_end0
            exact ⟨rfl, by rw [HGr.out]; exact HE6.out, (hS3.out.trans HC5.out (fun _ _ => one_three)).trans HC6.out (fun _ _ => one_three)⟩
end Go.Proofs.Ytadlfebpaijbhaa.Lv
