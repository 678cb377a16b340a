/- The document's end of a period. -/
import Derived.Test.YtadlfebpaijbhaaSmqRAt
namespace Go.Proofs.Ytadlfebpaijbhaa.Lv
open Go.RowKit Go.Proofs.Ytadlfebpaijbhaa.W
set_option linter.unusedVariables false
set_option linter.unusedSimpArgs false

def R1Rel (w : World) (gx ga gb : Nat) (s : Sm) (k : Nat) (s2 : Value) (wr : World) : Prop := ∃ i : Nat, s2 = .int .i64 (i : Int) ∧ i + k = 16 ∧ XA wr gx ga gb { s with H := grps s.H s.C i } ∧ Chg (three gx ga gb) w wr
def R2Rel (w : World) (gx ga gb : Nat) (s : Sm) (H : Nat → List Nat) (k : Nat) (s6 : Value) (wr : World) : Prop := ∃ i : Nat, s6 = .int .i64 (i : Int) ∧ i + k = 8 ∧ XA wr gx ga gb ⟨H, slts s.L s.U i, s.C, s.U, s.t⟩ ∧ Chg (three gx ga gb) w wr
set_option maxRecDepth 100000 in
set_option maxHeartbeats 4000000 in
theorem rend_any (gx ga gb : Nat) (s : Sm) (w : World) (h : XA w gx ga gb s) : Calls Try.prog 24 #[.pointer (some ⟨gx, 0, none⟩)] w (XE gx ga gb (endS s) w) := by
  have hz1 := zero64
  have hz2 := zero8
  have HX := hide h
  clear h
  go_enter Try.func24, Try.ntmps24
  go_wp2_with fail
  go_loopg [2, 3, 4, 5] 16 (fun k s2 s3 s4 s5 wr => R1Rel w gx ga gb s k s2 wr)
  case atStart => exact ⟨0, rfl, rfl, HX.out, Chg.refl _ _⟩
  case round =>
    obtain ⟨i, rfl, hk, hx, hc⟩ := hrel
    have HXi := hide hx
    have HCi := hide hc
    have HK := hide hk
    clear hx hc hk
    by_cases hi : i < 16
    · have hlt : (i : Int) < 16 := by omega
      obtain ⟨R, hR⟩ : ∃ R, grps s.H s.C i = R := ⟨_, rfl⟩
      have hnx : grps s.H s.C (i + 1) = grp R s.C i := by rw [← hR]; rfl
      have HNx := hide hnx
      rw [hR] at HXi
      have c0 := HXi.out.c0
      have HWh := hide (where_any ga i R (len16 HXi.out.ok.h (by omega)) wr HXi.out.q)
      have HLen := hide (len16 HXi.out.ok.h (by omega))
      have HAll := hide (nC_count HXi.out.ok i)
      clear hR hnx
      have x0 : wr.cell? ⟨gx, 2 + i * 4, none⟩ = some (.int .i64 (nC s.C i 0)) := by
        have h := HXi.out.p.at (i := 2 + (4 * i + 0)) (by omega)
        rw [pcell_count _ _ _ _ _ (by omega)] at h
        rw [show 2 + i * 4 = 2 + (4 * i + 0) by omega, h]
        rfl
      have x1 : wr.cell? ⟨gx, 2 + i * 4 + 1, none⟩ = some (.int .i64 (nC s.C i 1)) := by
        have h := HXi.out.p.at (i := 2 + (4 * i + 1)) (by omega)
        rw [pcell_count _ _ _ _ _ (by omega)] at h
        rw [show 2 + i * 4 + 1 = 2 + (4 * i + 1) by omega, h]
        rfl
      have x2 : wr.cell? ⟨gx, 2 + i * 4 + 2, none⟩ = some (.int .i64 (nC s.C i 2)) := by
        have h := HXi.out.p.at (i := 2 + (4 * i + 2)) (by omega)
        rw [pcell_count _ _ _ _ _ (by omega)] at h
        rw [show 2 + i * 4 + 2 = 2 + (4 * i + 2) by omega, h]
        rfl
      have x3 : wr.cell? ⟨gx, 2 + i * 4 + 3, none⟩ = some (.int .i64 (nC s.C i 3)) := by
        have h := HXi.out.p.at (i := 2 + (4 * i + 3)) (by omega)
        rw [pcell_count _ _ _ _ _ (by omega)] at h
        rw [show 2 + i * 4 + 3 = 2 + (4 * i + 3) by omega, h]
        rfl
      obtain ⟨j, hj⟩ : ∃ j, 2 + i * 4 = j := ⟨_, rfl⟩
      rw [hj] at x0 x1 x2 x3
      obtain ⟨n0, hn0⟩ : ∃ n, nC s.C i 0 = n := ⟨_, rfl⟩
      obtain ⟨n1, hn1⟩ : ∃ n, nC s.C i 1 = n := ⟨_, rfl⟩
      obtain ⟨n2, hn2⟩ : ∃ n, nC s.C i 2 = n := ⟨_, rfl⟩
      obtain ⟨n3, hn3⟩ : ∃ n, nC s.C i 3 = n := ⟨_, rfl⟩
      rw [hn0] at x0
      rw [hn1] at x1
      rw [hn2] at x2
      rw [hn3] at x3
      have hrow : row 4 (Ph.i64f (nC s.C i)) = #[.int .i64 n0, .int .i64 n1, .int .i64 n2, .int .i64 n3] := by
        rw [← hn0, ← hn1, ← hn2, ← hn3]
        rfl
      have HRow := hide hrow
      have hb0 : 0 ≤ n0 ∧ n0 ≤ 1048576 := by
        have : s.C (4 * i + 0) ≤ 1048576 := HXi.out.ok.c (4 * i + 0)
        rw [← hn0]
        unfold nC
        omega
      have hb1 : 0 ≤ n1 ∧ n1 ≤ 1048576 := by
        have : s.C (4 * i + 1) ≤ 1048576 := HXi.out.ok.c (4 * i + 1)
        rw [← hn1]
        unfold nC
        omega
      have hb2 : 0 ≤ n2 ∧ n2 ≤ 1048576 := by
        have : s.C (4 * i + 2) ≤ 1048576 := HXi.out.ok.c (4 * i + 2)
        rw [← hn2]
        unfold nC
        omega
      have hb3 : 0 ≤ n3 ∧ n3 ≤ 1048576 := by
        have : s.C (4 * i + 3) ≤ 1048576 := HXi.out.ok.c (4 * i + 3)
        rw [← hn3]
        unfold nC
        omega
      obtain ⟨m, hm⟩ : ∃ m, cN s.C i = m := ⟨_, rfl⟩
      have hsum : n0 + n1 + n2 + n3 = (m : Int) := by
        rw [← hn0, ← hn1, ← hn2, ← hn3, ← hm]
        unfold nC cN
        simp
      have w1 : IntKind.i64.wrap (n0 + n1) = n0 + n1 := IntWalk.i64_in _ (by omega)
      have w2 : IntKind.i64.wrap (n0 + n1 + n2) = n0 + n1 + n2 := IntWalk.i64_in _ (by omega)
      have w3 : IntKind.i64.wrap (n0 + n1 + n2 + n3) = (m : Int) := by rw [hsum]; exact IntWalk.i64_in _ (by omega)
      have glp := HXi.out.p.lt
      have HM := hide hm
      have HBd := hide (And.intro hb0 (And.intro hb1 (And.intro hb2 hb3)))
      have HRow := hide hrow
      clear hn0 hn1 hn2 hn3 hrow hb0 hb1 hb2 hb3 hm hsum
      by_cases hw : wh R i = 4
      · have hv : whV R i = -1 := if_neg (by omega)
        rw [hv] at HWh
        have hgr : grp R s.C i = R := if_pos hw
        rw [hgr] at HNx
        clear hv hw hgr
        go_wp2_with (first
          | (go_at_call 29; (with_reducible refine HWh.out.mono ?_); rintro e wx ⟨rfl, hw⟩; subst wx))
        have hk := HK.out
        go_roundg (gk - 1)
        case measure => omega
        case rel =>
          have hb := (Below.refl wr.heap.size wr).alloc (Nat.le_refl _) (.cells #[.int .i64 n0, .int .i64 n1, .int .i64 n2, .int .i64 n3] 49)
          exact ⟨i + 1, by go_num, by omega, by rw [HNx.out]; exact HXi.out.later hb, HCi.out.trans (Chg.of_below (S := three gx ga gb) hb) (fun _ _ h => h)⟩
      · have hw4 := wh_lt hw
        have hv : whV R i = (wh R i : Int) := if_pos hw4
        rw [hv] at HWh
        obtain ⟨l, hl⟩ : ∃ l, wh R i = l := ⟨_, rfl⟩
        have HL := hide hl
        rw [hl] at HWh hw4
        have t0 : decide ((l : Int) < 0) = false := by simp
        clear hv hw hl
        go_upto_region 6 with (first
          | (go_at_call 29; (with_reducible refine HWh.out.mono ?_); rintro e wx ⟨rfl, hw⟩; subst wx))
        have hk3 : Blk (wr.alloc (.cells #[.int .i64 n0, .int .i64 n1, .int .i64 n2, .int .i64 n3] 49)) wr.heap.size 49 (row 4 (Ph.i64f (nC s.C i))) := by
          rw [HRow.out]
          exact Blk.newAt wr _ _ _ rfl
        have hb3 : Below wr.heap.size wr (wr.alloc (.cells #[.int .i64 n0, .int .i64 n1, .int .i64 n2, .int .i64 n3] 49)) := (Below.refl _ _).alloc (Nat.le_refl _) _
        generalize wr.alloc (.cells #[.int .i64 n0, .int .i64 n1, .int .i64 n2, .int .i64 n3] 49) = W3 at hk3 hb3 ⊢
        obtain ⟨gc, hgc⟩ : ∃ x, wr.heap.size = x := ⟨_, rfl⟩
        have HX3 := hide (HXi.out.later hb3)
        have HC3 := hide (HCi.out.trans (Chg.of_below (S := three gx ga gb) hb3) (fun _ _ h => h))
        rw [hgc] at hk3
        simp only [hgc]
        have HK3 := hide hk3
        clear hk3 hb3 hgc x0 x1 x2 x3 c0 glp HWh HXi HCi w1 w2 w3 hj HRow HBd
        have c03 := HX3.out.c0
        have HMv : Hid (∀ b : Int, -9223372036854775808 ≤ b → b ≤ 9223372036854775807 → Calls Try.prog 34 #[.pointer (some ⟨ga, 0, none⟩), .int .i64 (i : Int), .int .i64 b] W3 (RE ga (mv R i b) W3)) := hide (fun b b1 b2 => rmove_any ga i b R b1 b2 (by rw [HL.out]; exact hw4) HLen.out W3 HX3.out.q)
        by_cases hm0 : m = 0
        · subst hm0
          by_cases hl0 : l = 0
          · subst hl0
            have hgr : grp R s.C i = rem R i := by
              unfold grp
              rw [if_neg (by rw [HL.out]; omega), if_pos HM.out, if_pos HL.out]
            rw [hgr] at HNx
            have HRm := hide (rremove_any ga i R HLen.out W3 HX3.out.q)
            clear hgr
            go_wp2_with (first
              | (go_at_call 37; (with_reducible refine HRm.out.mono ?_); intro e w4 ha; have HE := hide (HX3.out.hot (good_rem HX3.out.ok.h i) ha.2.1 ha.2.2); have HC := hide (HC3.out.trans ha.2.2 (fun _ _ => one_three)); obtain ⟨he, _, _⟩ := ha; subst he))
            have hk := HK.out
            go_roundg (gk - 1)
            case measure => omega
            case rel => exact ⟨i + 1, by go_num, by omega, by rw [HNx.out]; exact HE.out, HC.out⟩
          · have hgr : grp R s.C i = mv R i (-1) := by
              unfold grp
              rw [if_neg (by rw [HL.out]; omega), if_pos HM.out, if_neg (by rw [HL.out]; exact hl0)]
            rw [hgr] at HNx
            have t1 : ((l : Int) == 0) = false := by simp; omega
            have t2 : (l == 0) = false := by simp; omega
            have t3 : (0 : Int) < (l : Int) := by omega
            have HM1 := hide (HMv.out (-1) (by omega) (by omega))
            clear hgr hl0
            go_wp2_with (first
              | (go_at_call 34; (with_reducible refine HM1.out.mono ?_); intro e w4 ha; have HE := hide (HX3.out.hot (good_mv HX3.out.ok.h hi (-1)) ha.2.1 ha.2.2); have HC := hide (HC3.out.trans ha.2.2 (fun _ _ => one_three)); obtain ⟨he, _, _⟩ := ha; subst he))
            have hk := HK.out
            go_roundg (gk - 1)
            case measure => omega
            case rel => exact ⟨i + 1, by go_num, by omega, by rw [HNx.out]; exact HE.out, HC.out⟩
        · have t1 : ((m : Int) == 0) = false := by simp; omega
          have t2 : (m == 0) = false := by simp; omega
          by_cases hm3 : m < 3
          · have hgr : grp R s.C i = R := by
              unfold grp
              rw [if_neg (by rw [HL.out]; omega), if_neg (by rw [HM.out]; exact hm0), if_pos (by rw [HM.out]; exact hm3)]
            rw [hgr] at HNx
            have t3 : decide ((3 : Int) ≤ (m : Int)) = false := by simp; omega
            have t4 : decide (3 ≤ m) = false := by simp; omega
            have t5 : decide ((4 : Int) ≤ (m : Int)) = false := by simp; omega
            have t6 : decide (4 ≤ m) = false := by simp; omega
            clear hgr hm0 hm3
            go_wp2_with fail
            have hk := HK.out
            go_roundg (gk - 1)
            case measure => omega
            case rel => exact ⟨i + 1, by go_num, by omega, by rw [HNx.out]; exact HX3.out, HC3.out⟩
          · have t3 : (3 : Int) ≤ (m : Int) := by omega
            have hgr : grp R s.C i = if 4 ≤ m ∧ beats (nC s.C i) = true then mv (mv R i 1) i 1 else mv R i 1 := by
              unfold grp
              rw [if_neg (by rw [HL.out]; omega), if_neg (by rw [HM.out]; exact hm0), if_neg (by rw [HM.out]; exact hm3), HM.out]
            rw [hgr] at HNx
            have HM1 := hide (HMv.out 1 (by omega) (by omega))
            by_cases hm4 : m < 4
            · rw [if_neg (by omega)] at HNx
              have t4 : decide ((4 : Int) ≤ (m : Int)) = false := by simp; omega
              have t5 : decide (4 ≤ m) = false := by simp; omega
              clear hgr hm0 hm3 hm4
              go_wp2_with (first
                | (go_at_call 34; (with_reducible refine HM1.out.mono ?_); intro e w4 ha; have HE := hide (HX3.out.hot (good_mv HX3.out.ok.h hi 1) ha.2.1 ha.2.2); have HC := hide (HC3.out.trans ha.2.2 (fun _ _ => one_three)); obtain ⟨he, _, _⟩ := ha; subst he))
              have hk := HK.out
              go_roundg (gk - 1)
              case measure => omega
              case rel => exact ⟨i + 1, by go_num, by omega, by rw [HNx.out]; exact HE.out, HC.out⟩
            · have t4 : (4 : Int) ≤ (m : Int) := by omega
              have h4m : 4 ≤ m := by omega
              have HRg := hide (fun W => Ph.rBeats_any HAll.out W)
              obtain ⟨b, hb⟩ : ∃ b, beats (nC s.C i) = b := ⟨_, rfl⟩
              rw [hb] at HRg HNx
              have nqc : gc ≠ ga := by
                obtain ⟨cs, hcs⟩ := HX3.out.q.blk_
                exact HK3.out.ne_ hcs (by decide)
              clear hgr hm0 hm3 hm4 hb
              cases b with
              | false =>
                rw [if_neg (by simp)] at HNx
                go_wp2_with (first
                  | (go_at_call 34; (with_reducible refine HM1.out.mono ?_); intro e w4 ha; have HE := hide (HX3.out.hot (good_mv HX3.out.ok.h hi 1) ha.2.1 ha.2.2); have HC := hide (HC3.out.trans ha.2.2 (fun _ _ => one_three)); have HK4 := hide (HK3.out.chg ha.2.2 nqc); obtain ⟨he, _, _⟩ := ha; subst he)
                  | (refine wpList_load_met 49 (.tmp 4) rfl (by rfl) gc rfl 49 _ _ HK4.out rfl Try.underlying49 (by rw [row_size]; kernel_rfl) ?_)
                  | (go_at_call 40; (with_reducible refine (HRg.out _).mono ?_); rintro e w5 ⟨rfl, hb⟩; have HE5 := hide (HE.out.later hb); have HC5 := hide (HC.out.trans (Chg.of_below (S := three gx ga gb) hb) (fun _ _ h => h)); clear hb))
                have hk := HK.out
                go_roundg (gk - 1)
                case measure => omega
                case rel => exact ⟨i + 1, by go_num, by omega, by rw [HNx.out]; exact HE5.out, HC5.out⟩
              | true =>
                rw [if_pos ⟨h4m, rfl⟩] at HNx
                go_upto_region 14 with (first
                  | (go_at_call 34; (with_reducible refine HM1.out.mono ?_); intro e w4 ha; have HE := hide (HX3.out.hot (good_mv HX3.out.ok.h hi 1) ha.2.1 ha.2.2); have HC := hide (HC3.out.trans ha.2.2 (fun _ _ => one_three)); have HK4 := hide (HK3.out.chg ha.2.2 nqc); obtain ⟨he, _, _⟩ := ha; subst he)
                  | (refine wpList_load_met 49 (.tmp 4) rfl (by rfl) gc rfl 49 _ _ HK4.out rfl Try.underlying49 (by rw [row_size]; kernel_rfl) ?_)
                  | (go_at_call 40; (with_reducible refine (HRg.out _).mono ?_); rintro e w5 ⟨rfl, hb⟩; have HE5 := hide (HE.out.later hb); have HC5 := hide (HC.out.trans (Chg.of_below (S := three gx ga gb) hb) (fun _ _ h => h)); clear hb))
                have hw5 : wh (mv R i 1) i < 4 := by rw [wh_mv HX3.out.ok.h hi]; exact moved_lt _ _
                have HM2 : Hid (Calls Try.prog 34 #[.pointer (some ⟨ga, 0, none⟩), .int .i64 (i : Int), .int .i64 1] w5 (RE ga (mv (mv R i 1) i 1) w5)) := hide (rmove_any ga i 1 (mv R i 1) (by omega) (by omega) hw5 (len16 HE5.out.ok.h (by omega)) w5 HE5.out.q)
                have c05 := HE5.out.c0
                clear hw5 c03
                go_wp2_with (first
                  | (go_at_call 34; (with_reducible refine HM2.out.mono ?_); intro e w6 ha; have HE6 := hide (HE5.out.hot (good_mv HE5.out.ok.h hi 1) ha.2.1 ha.2.2); have HC6 := hide (HC5.out.trans ha.2.2 (fun _ _ => one_three)); obtain ⟨he, _, _⟩ := ha; subst he))
                have hk := HK.out
                go_roundg (gk - 1)
                case measure => omega
                case rel => exact ⟨i + 1, by go_num, by omega, by rw [HNx.out]; exact HE6.out, HC6.out⟩
    · obtain rfl : i = 16 := by have := HK.out; omega
      obtain ⟨G, hG⟩ : ∃ G, grps s.H s.C 16 = G := ⟨_, rfl⟩
      have HG := hide hG
      have HXj : Hid (XA wr gx ga gb ⟨G, s.L, s.C, s.U, s.t⟩) := hide (by rw [← hG]; exact HXi.out)
      clear HXi hG
      have HXi := HXj
      clear HXj hi HK
      have c0 := HXi.out.c0
      have hgG : Good 16 G := HXi.out.ok.h
      have HBal := hide (rbalance_any ga 16 G (by omega) hgG 4 4 (by decide) wr HXi.out.q)
      have HGd := hide (good_stR 4 hgG 3 (by omega))
      obtain ⟨G2, hG2⟩ : ∃ G2, stR G 4 3 = G2 := ⟨_, rfl⟩
      rw [hG2] at HBal HGd
      have HG2 := hide hG2
      clear hG2 hgG
      go_wp2_with (first
        | (go_at_call 41; (with_reducible refine HBal.out.mono ?_); rintro e w3 ⟨rfl, h1, h2⟩; have HX3 : Hid (XA w3 gx ga gb ⟨G2, s.L, s.C, s.U, s.t⟩) := hide (HXi.out.hot HGd.out h1 h2); have HC3 := hide (HCi.out.trans h2 (fun _ _ => one_three)); clear h1 h2))
      clear c0 HBal HXi HCi
      go_loopg [6] 8 (fun k s6 wr => R2Rel w gx ga gb s G2 k s6 wr)
      case atStart => exact ⟨0, rfl, rfl, HX3.out, HC3.out⟩
      case round =>
        obtain ⟨i, rfl, hk, hx, hc⟩ := hrel
        have HXi := hide hx
        have HCi := hide hc
        have HK := hide hk
        clear hx hc hk
        by_cases hi : i < 8
        · have hlt : (i : Int) < 8 := by omega
          obtain ⟨R, hR⟩ : ∃ R, slts s.L s.U i = R := ⟨_, rfl⟩
          have hnx : slts s.L s.U (i + 1) = slt R s.U i := by rw [← hR]; rfl
          have HNx := hide hnx
          rw [hR] at HXi
          have c1 := HXi.out.c1
          have hgR : Good 8 R := HXi.out.ok.l
          have HWh := hide (where_any gb i R (len16 hgR (by omega)) wr HXi.out.h)
          have HLen := hide (len16 hgR (by omega))
          have cu : wr.cell? ⟨gx, 66 + i, none⟩ = some (.bool (s.U i)) := by
            have h := HXi.out.p.at (i := 66 + i) (by omega)
            rw [pcell_used _ _ _ _ _ hi] at h
            exact h
          have HGR := hide hgR
          clear hR hnx hgR
          by_cases hw : wh R i = 4
          · have hv : whV R i = -1 := if_neg (by omega)
            rw [hv] at HWh
            have hsl : slt R s.U i = R := if_pos hw
            rw [hsl] at HNx
            clear hv hw hsl
            go_wp2_with (first
              | (go_at_call 29; (with_reducible refine HWh.out.mono ?_); rintro e wx ⟨rfl, hw⟩; subst wx))
            have hk := HK.out
            go_roundg (gk - 1)
            case measure => omega
            case rel => exact ⟨i + 1, by go_num, by omega, by rw [HNx.out]; exact HXi.out, HCi.out⟩
          · have hw4 := wh_lt hw
            have hv : whV R i = (wh R i : Int) := if_pos hw4
            rw [hv] at HWh
            have hsl : slt R s.U i = mv R i (if s.U i then 1 else -1) := if_neg hw
            rw [hsl] at HNx
            have HM1 := hide (rmove_any gb i 1 R (by omega) (by omega) hw4 HLen.out wr HXi.out.h)
            have HM2 := hide (rmove_any gb i (-1) R (by omega) (by omega) hw4 HLen.out wr HXi.out.h)
            obtain ⟨l, hl⟩ : ∃ l, wh R i = l := ⟨_, rfl⟩
            rw [hl] at HWh
            have t0 : decide ((l : Int) < 0) = false := by simp
            obtain ⟨b, hb⟩ : ∃ b, s.U i = b := ⟨_, rfl⟩
            rw [hb] at cu HNx
            clear hv hw hw4 hsl hl hb
            cases b with
            | true =>
              have HN2 : Hid (slts s.L s.U (i + 1) = mv R i 1) := HNx
              go_wp2_with (first
                | (go_at_call 29; (with_reducible refine HWh.out.mono ?_); rintro e wx ⟨rfl, hw⟩; subst wx)
                | (go_at_call 34; (with_reducible refine HM1.out.mono ?_); intro e w4 ha; have HE := hide (HXi.out.held (good_mv HGR.out hi 1) ha.2.1 ha.2.2); have HC := hide (HCi.out.trans ha.2.2 (fun _ _ => one_three')); obtain ⟨he, _, _⟩ := ha; subst he))
              have hk := HK.out
              go_roundg (gk - 1)
              case measure => omega
              case rel => exact ⟨i + 1, by go_num, by omega, by rw [HN2.out]; exact HE.out, HC.out⟩
            | false =>
              have HN2 : Hid (slts s.L s.U (i + 1) = mv R i (-1)) := HNx
              go_wp2_with (first
                | (go_at_call 29; (with_reducible refine HWh.out.mono ?_); rintro e wx ⟨rfl, hw⟩; subst wx)
                | (go_at_call 34; (with_reducible refine HM2.out.mono ?_); intro e w4 ha; have HE := hide (HXi.out.held (good_mv HGR.out hi (-1)) ha.2.1 ha.2.2); have HC := hide (HCi.out.trans ha.2.2 (fun _ _ => one_three')); obtain ⟨he, _, _⟩ := ha; subst he))
              have hk := HK.out
              go_roundg (gk - 1)
              case measure => omega
              case rel => exact ⟨i + 1, by go_num, by omega, by rw [HN2.out]; exact HE.out, HC.out⟩
        · obtain rfl : i = 8 := by have := HK.out; omega
          obtain ⟨Lx, hLx⟩ : ∃ L, slts s.L s.U 8 = L := ⟨_, rfl⟩
          have HLx := hide hLx
          have HXj : Hid (XA wr gx ga gb ⟨G2, Lx, s.C, s.U, s.t⟩) := hide (by rw [← hLx]; exact HXi.out)
          clear HXi hLx
          have HXi := HXj
          clear HXj hi HK HX3 HC3
          have c1 := HXi.out.c1
          have hgL : Good 8 Lx := HXi.out.ok.l
          have HBal := hide (rbalance_any gb 8 Lx (by omega) hgL 2 2 (by decide) wr HXi.out.h)
          have HGd2 := hide (good_stR 2 hgL 3 (by omega))
          obtain ⟨L2, hL2⟩ : ∃ L2, stR Lx 2 3 = L2 := ⟨_, rfl⟩
          rw [hL2] at HBal HGd2
          have HL2 := hide hL2
          clear hL2 hgL
          go_upto_region 24 with (first
            | (go_at_call 41; (with_reducible refine HBal.out.mono ?_); rintro e w5 ⟨rfl, h1, h2⟩; have HX5 : Hid (XA w5 gx ga gb ⟨G2, L2, s.C, s.U, s.t⟩) := hide (HXi.out.held HGd2.out h1 h2); have HC5 := hide (HCi.out.trans h2 (fun _ _ => one_three')); clear h1 h2))
          have gl5 := HX5.out.p.lt
          clear c1 HBal HXi HCi
          go_upto_region 25 with (first
            | (with_reducible refine wpList_store_sub rfl 50 (.tmp 122) (.tmp 120) rfl gx 2 rfl 61 75 64 _ _ rfl HX5.out.p info64 (by omega) (fun j _ => rfl) ?_))
          have hx6 : XA (w5.setRow gx (row 75 (over (pcell ga gb s.C s.U s.t) 2 64 fun _ => .int .i64 0))) gx ga gb ⟨G2, L2, fun _ => 0, s.U, s.t⟩ := HX5.out.zeroC
          have hc6 : Chg (three gx ga gb) w (w5.setRow gx (row 75 (over (pcell ga gb s.C s.U s.t) 2 64 fun _ => .int .i64 0))) := HC5.out.setRow (.inl (.inl rfl)) _
          generalize w5.setRow gx (row 75 (over (pcell ga gb s.C s.U s.t) 2 64 fun _ => .int .i64 0)) = W6 at hx6 hc6 ⊢
          have HX6 := hide hx6
          have HC6 := hide hc6
          have gl6 := hx6.p.lt
          clear hx6 hc6 gl5 HX5 HC5
          simp only [Act.put, List.setIfInBounds_toArray, List.set_cons_succ, List.set_cons_zero]
          go_wp2_with (first
            | (with_reducible refine wpList_store_sub rfl 38 (.tmp 126) (.tmp 124) rfl gx 66 rfl 61 75 8 _ _ rfl HX6.out.p info8 (by omega) (fun j _ => rfl) ?_))
          have hx7 : XA (W6.setRow gx (row 75 (over (pcell ga gb (fun _ => 0) s.U s.t) 66 8 fun _ => .bool false))) gx ga gb ⟨G2, L2, fun _ => 0, fun _ => false, s.t⟩ := HX6.out.zeroU
          have hc7 : Chg (three gx ga gb) w (W6.setRow gx (row 75 (over (pcell ga gb (fun _ => 0) s.U s.t) 66 8 fun _ => .bool false))) := HC6.out.setRow (.inl (.inl rfl)) _
          go_end0
          refine ⟨rfl, ?_, hc7⟩
          rw [endS_is, HG.out, HG2.out, HLx.out, HL2.out]
          exact hx7
end Go.Proofs.Ytadlfebpaijbhaa.Lv
