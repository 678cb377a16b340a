/- The law that a copy goes its own way: walked, one way of its two loops' ends. -/
import Derived.Test.YtafhkjipjgkkkaaLevApart0
import Derived.Deep.RegionHeld3
namespace Go.Proofs.Ytafhkjipjgkkkaa.Lv
open Go.RowKit Go.Proofs.Ytafhkjipjgkkkaa.W
set_option linter.unusedVariables false
set_option linter.unusedSimpArgs false

set_option maxRecDepth 100000 in
set_option maxHeartbeats 8000000 in
theorem levelApart_BB (a : Nat) (ha : a < 256) (A1 A2 : Option Addr) (len1 d1 len2 d2 : Nat) (K1 I1 N1 K2 I2 N2 : Nat → Int) (Ka Ia Na : Int) (w : World) (hl1 : len1 ≤ maxLen) (hl2 : len2 ≤ maxLen)
    (hA1 : Holds w w.heap.size 3 A1 len1 (actAt K1 I1 N1)) (hN1 : ∀ i, i < len1 → -9223372036854775808 ≤ N1 i ∧ N1 i ≤ 9223372036854775807)
    (hA2 : Holds w w.heap.size 3 A2 len2 (actAt K2 I2 N2)) (hN2 : ∀ i, i < len2 → -9223372036854775808 ≤ N2 i ∧ N2 i ≤ 9223372036854775807)
    (hM1 : 30 < len1) (hM2 : 30 < len2)
    (hsame : ∀ (gq gx n : Nat) (R : Nat → List Nat) (_ : n ≤ 16) (w : World) (_ : QAt w gq n R) (_ : RefAt w gx R), Calls Try.prog 10 #[.pointer (some ⟨gq, 0, none⟩), .pointer (some ⟨gx, 0, none⟩)] w fun e w' => e = .returned (.bool true) ∧ Below w.heap.size w w') :
    Calls Try.prog 6 #[.agg #[.int .u8 (a : Int), .slice A1 len1 d1, .slice A2 len2 d2, .int .i64 Ka, .int .i64 Ia, .int .i64 Na]] w fun e w' => e = .returned (.bool true) ∧ Below w.heap.size w w' := by
  unfold maxLen at hl1 hl2
  obtain ⟨r, hr⟩ : ∃ r : Nat, a % 16 = r := ⟨_, rfl⟩
  obtain ⟨n, hn⟩ : ∃ n : Nat, r + 1 = n := ⟨_, rfl⟩
  have e1 : Int.tmod (a : Int) 16 = (r : Int) := by rw [Int.tmod_eq_emod_of_nonneg (by omega)]; omega
  have e2 : IntKind.u8.wrap (r : Int) = (r : Int) := wrap_u8 (by omega) (by omega)
  have e3 : IntKind.i64.wrap (r : Int) = (r : Int) := IntWalk.i64_in _ (by omega)
  have e4 : IntKind.i64.wrap ((r : Int) + 1) = (n : Int) := by rw [show (r : Int) + 1 = (n : Int) by omega]; exact IntWalk.i64_in _ (by omega)
  have hn1 : 1 ≤ n := by omega
  have hn16 : n ≤ 16 := by omega
  have HN1 := hide hN1
  have HA1 := hide hA1
  have HN2 := hide hN2
  have HA2 := hide hA2
  have HSm := hide hsame
  clear hr hn hN1 hA1 hN2 hA2 hsame
  go_enter Try.func6, Try.ntmps6
  go_upto_region 1 with fail
  go_region
  have hb0 := below_drewN (((Below.refl w.heap.size w).alloc (Nat.le_refl _) (.cells #[.int .u8 (a : Int), .slice A1 len1 d1, .slice A2 len2 d2, .int .i64 Ka, .int .i64 Ia, .int .i64 Na] 47)).alloc (by simp) (.cells #[.int .i64 Ka, .int .i64 Ia, .int .i64 Na] 35)) 1
  have ha0 : Blk ((w.alloc (.cells #[.int .u8 (a : Int), .slice A1 len1 d1, .slice A2 len2 d2, .int .i64 Ka, .int .i64 Ia, .int .i64 Na] 47)).alloc (.cells #[.int .i64 Ka, .int .i64 Ia, .int .i64 Na] 35)).drew (w.heap.size + 1) 35 #[.int .i64 Ka, .int .i64 Ia, .int .i64 Na] := (Blk.newAt (w.alloc _) _ _ _ (by simp)).drew
  have HB0 : Hid (Below w.heap.size w ((w.alloc (.cells #[.int .u8 (a : Int), .slice A1 len1 d1, .slice A2 len2 d2, .int .i64 Ka, .int .i64 Ia, .int .i64 Na] 47)).alloc (.cells #[.int .i64 Ka, .int .i64 Ia, .int .i64 Na] 35)).drew) := hide hb0
  have HA0 := hide ha0
  clear hb0 ha0
  generalize ((w.alloc (.cells #[.int .u8 (a : Int), .slice A1 len1 d1, .slice A2 len2 d2, .int .i64 Ka, .int .i64 Ia, .int .i64 Na] 47)).alloc (.cells #[.int .i64 Ka, .int .i64 Ia, .int .i64 Na] 35)).drew = W0 at HB0 HA0 ⊢
  generalize Value.agg #[.int .u8 (a : Int), .slice A1 len1 d1, .slice A2 len2 d2, .int .i64 Ka, .int .i64 Ia, .int .i64 Na] = v0
  generalize Value.agg #[.int .i64 Ka, .int .i64 Ia, .int .i64 Na] = v1
  obtain ⟨gf, hgf⟩ : ∃ g, w.heap.size = g := ⟨_, rfl⟩
  obtain ⟨ga, hga⟩ : ∃ g, gf + 1 = g := ⟨_, rfl⟩
  rw [hgf, hga] at HA0
  simp only [hgf, hga]
  have hz := zeroRef
  clear hgf hga
  go_upto_region 7 with (first
    | (go_at_call 7; (with_reducible refine (new_ok n hn1 hn16 _).mono ?_); rintro e w1 ⟨rfl, hq, hb⟩; (obtain ⟨gq, hgq⟩ : ∃ g, W0.heap.size = g := ⟨_, rfl⟩); (have HG := hide hgq); rw [hgq] at hq; simp only [hgq]; (have HQ1 := hide hq); (have HB1 := hide hb); clear hq hb hgq)
    | (go_at_call 8; (with_reducible refine (awake_any _).mono ?_); rintro e w2 ⟨rfl, hb⟩; have HB2 := hide hb; clear hb))
  obtain ⟨gx, hgx⟩ : ∃ g, w1.heap.size = g := ⟨_, rfl⟩
  have HAp : Hid (ApAt w gq gx ga n E0 Ka Ia Na w2) := hide (by
    have hb1 := HB1.out
    have s0 := HB0.out.size
    have s1 := hb1.size
    have h0 := ref_new w1 gx hgx.symm
    have b1 : Below w1.heap.size w1 (w1.alloc (.cells (row 4 fun _ => .slice none 0 0) 32)) := (Below.refl _ _).alloc (Nat.le_refl _) _
    have b2 : Below w.heap.size w w1 := HB0.out.trans (hb1.mono s0)
    refine ⟨⟨(HQ1.out.later b1).later HB2.out, h0.later HB2.out, (b2.alloc b2.size _).trans (HB2.out.mono (by have := b2.size; simp; omega)), by have := HG.out; omega, by omega⟩, W.later HB2.out (W.later b1 (W.later hb1 HA0.out))⟩)
  simp only [hgx]
  clear HQ1 HB1 HB2 hgx hz e1 e2 e3 e4 HA0 HB0 HG
  generalize Value.agg (row 4 fun _ => Value.slice none 0 0) = vv
  go_wp2_with fail
  go_loopg [11] 30 (fun k s11 wr => Ap1 w gq gx ga n 30 len1 Ka Ia Na k s11 wr)
  case atStart => exact ⟨0, E0, rfl, by omega, by omega, HAp.out⟩
  case round =>
    clear HAp
    obtain ⟨i, R, rfl, hk, hil, hap⟩ := hrel
    have HAp := hide hap
    clear hap
    by_cases hgo : i < len1 ∧ i < 30
    · have hgk : 0 < gk := by omega
      have hi1 : (i : Int) < (len1 : Int) := by omega
      have hi2 : (i : Int) < 30 := by omega
      obtain ⟨b, off, rfl, hbB, hc⟩ := HA1.out (by omega)
      have c0 := (HAp.out.law.below.cell (p := ⟨b, off + i * 3 + 0, none⟩) hbB).trans (hc i 0 hgo.1 (by omega))
      have c1 := (HAp.out.law.below.cell (p := ⟨b, off + i * 3 + 1, none⟩) hbB).trans (hc i 1 hgo.1 (by omega))
      have c2 := (HAp.out.law.below.cell (p := ⟨b, off + i * 3 + 2, none⟩) hbB).trans (hc i 2 hgo.1 (by omega))
      simp [actAt] at c0 c1 c2
      have HDo := hide (do_any gq gx n (K1 i) (I1 i) (N1 i) (HN1.out i hgo.1).1 (HN1.out i hgo.1).2 R R hn16 HAp.out.law.q.good wr HAp.out.law.q HAp.out.law.x)
      clear hc hgo
      go_wp2_with (first
        | (go_at_call 9; (with_reducible refine HDo.out.mono ?_); rintro e w3 hd; (obtain ⟨he, hl3⟩ := HAp.out.do1 hd); subst he; (have HAp3 := hide hl3); clear hd hl3))
      go_roundg (gk - 1)
      case measure => omega
      case rel => exact ⟨i + 1, _, by go_num, by omega, by omega, HAp3.out⟩
    · have t1 : (i : Int) < (len1 : Int) := by omega
      have t2 : decide ((i : Int) < 30) = false := by simp; omega
      have t3 : decide (i < 30) = false := by simp; omega
      clear hgo
      all_goals
        go_upto_region 12 with (first
          | (go_at_call 15; (with_reducible refine (copy_ok gq n R _ HAp.out.law.q).mono ?_); rintro e w3 ⟨rfl, hq, hb⟩; (obtain ⟨gc, hgc⟩ : ∃ g, wr.heap.size = g := ⟨_, rfl⟩); (have HGc : Hid (gq ≠ gc ∧ w.heap.size ≤ gc) := hide ⟨(by obtain ⟨cs, h⟩ := HAp.out.law.q.blk; have := h.lt; omega), by have := HAp.out.law.below.size; omega⟩); rw [hgc] at hq; simp only [hgc]; (have HAp3 := hide (HAp.out.later hb)); (have HQ3 := hide hq); clear hq hb hgc))
        go_wp2_with fail
        go_loopg [13] 30 (fun k s13 wx => Ap2 w gq gx ga gc n 30 len2 R Ka Ia Na k s13 wx)
        case atStart => exact ⟨0, R, rfl, by omega, by omega, HAp3.out, HQ3.out⟩
        case round =>
          clear HAp3 HQ3 t1 HAp
          obtain ⟨j, Rc, rfl, hk2, hjl, hap, hqc⟩ := hrel
          have HAp := hide hap
          have HQc := hide hqc
          have HX0 := hide hap.law.x
          clear hap hqc
          by_cases hgo : j < len2 ∧ j < 30
          · have hgk : 0 < gk := by omega
            have hi1 : (j : Int) < (len2 : Int) := by omega
            have hi2 : (j : Int) < 30 := by omega
            obtain ⟨b, off, rfl, hbB, hc⟩ := HA2.out (by omega)
            have c0 := (HAp.out.law.below.cell (p := ⟨b, off + j * 3 + 0, none⟩) hbB).trans (hc j 0 hgo.1 (by omega))
            have c1 := (HAp.out.law.below.cell (p := ⟨b, off + j * 3 + 1, none⟩) hbB).trans (hc j 1 hgo.1 (by omega))
            have c2 := (HAp.out.law.below.cell (p := ⟨b, off + j * 3 + 2, none⟩) hbB).trans (hc j 2 hgo.1 (by omega))
            simp [actAt] at c0 c1 c2
            obtain ⟨V, hV⟩ := HX0.out
            have v0 := hV.blk.at (i := 0) (by omega)
            have v1 := hV.blk.at (i := 1) (by omega)
            have v2 := hV.blk.at (i := 2) (by omega)
            have v3 := hV.blk.at (i := 3) (by omega)
            have gxl := hV.blk.lt
            have HV := hide hV
            have HGo := hide hgo
            have HX : Hid (RefAt (wr.alloc (.cells #[V 0, V 1, V 2, V 3] 32)).drew wr.heap.size R) := hide ⟨V, (Blk.newAt wr 32 (row 4 V) _ rfl).drew, fun l hl => ((hV.row l hl).later ((Below.refl _ _).alloc (Nat.le_refl _) _)).keep (fun b cs h => h.drew)⟩
            have hbX := below_drewN ((Below.refl wr.heap.size wr).alloc (Nat.le_refl _) (.cells #[V 0, V 1, V 2, V 3] 32)) 1
            have hblt : b < wr.heap.size := by have := HAp.out.law.below.size; omega
            have x0 := (hbX.cell (p := ⟨b, off + j * 3, none⟩) hblt).trans c0
            have x1 := (hbX.cell (p := ⟨b, off + j * 3 + 1, none⟩) hblt).trans c1
            have x2 := (hbX.cell (p := ⟨b, off + j * 3 + 2, none⟩) hblt).trans c2
            have HQX : Hid (QAt (wr.alloc (.cells #[V 0, V 1, V 2, V 3] 32)).drew gc n Rc) := hide (HQc.out.later hbX)
            have HApX : Hid (ApAt w gq gx ga n R Ka Ia Na (wr.alloc (.cells #[V 0, V 1, V 2, V 3] 32)).drew) := hide (HAp.out.later hbX)
            have HDo := hide (do_any gc wr.heap.size n (K2 j) (I2 j) (N2 j) (HN2.out j hgo.1).1 (HN2.out j hgo.1).2 Rc R hn16 HAp.out.law.q.good _ HQX.out HX.out)
            have hz4 : ∀ w, (zeroValue 32).run Try.prog w = .ok (.agg #[.slice none 0 0, .slice none 0 0, .slice none 0 0, .slice none 0 0]) w := fun w => by kernel_rfl
            have HLt : Hid (gx ≠ wr.heap.size ∧ w.heap.size ≤ wr.heap.size) := hide ⟨by omega, HAp.out.law.below.size⟩
            clear hc hgo hV hbX
            go_upto_region 15 with fail
            go_region_with (first
              | (go_at_call 9; (with_reducible refine HDo.out.mono ?_); rintro e w5 hd; (obtain ⟨bb, rfl, h1, h2⟩ := HApX.out.do2 HQX.out HX.out HGc.out.1 HLt.out.1 HGc.out.2 HLt.out.2 hd); (have HAp5 := hide h1); (have HQ5 := hide h2); clear hd h1 h2))
            all_goals
              go_wp2_with fail
              go_roundg (gk - 1)
              case measure => omega
              case rel => exact ⟨j + 1, _, by go_num, by omega, by have := HGo.out; omega, HAp5.out, HQ5.out⟩
          · have t1 : (j : Int) < (len2 : Int) := by omega
            have t2 : decide ((j : Int) < 30) = false := by simp; omega
            have t3 : decide (j < 30) = false := by simp; omega
            have ca1 : wr.cell? ⟨ga, 1, none⟩ = some (.int .i64 Ia) := HAp.out.a.cell 1
            have ca2 : wr.cell? ⟨ga, 2, none⟩ = some (.int .i64 Na) := HAp.out.a.cell 2
            have HApd : Hid (ApAt w gq gx ga n R Ka Ia Na wr.drew) := hide (HAp.out.later (below_drewN (Below.refl _ _) 1))
            clear hgo
            go_upto_region 20 with (first
              | (go_at_call 12; (with_reducible refine (level_nil _ _).mono ?_); rintro e wx ⟨rfl, hw⟩; subst wx)
              | (go_at_call 16; (with_reducible refine (front_nil _ _).mono ?_); rintro e wx ⟨rfl, hw⟩; subst wx)
              | (go_at_call 17; (with_reducible refine (least_nil _).mono ?_); rintro e wx ⟨rfl, hw⟩; subst wx))
            clear t1 t2 HAp HX0 HQc HN1 HA1 HN2 HA2
            simp only [List.append]
            go_region_held3 (fun W => W.cell? ⟨ga, 1, none⟩ = some (.int .i64 Ia) ∧ W.cell? ⟨ga, 2, none⟩ = some (.int .i64 Na)) (first | exact ⟨ca1, ca2⟩ | exact ⟨cb1, cb2⟩ | exact ⟨cc1, cc2⟩ | exact ⟨cd1, cd2⟩ | exact ⟨ce1, ce2⟩) (first
              | (go_at_call 10; (with_reducible refine (HSm.out gq gx n R hn16 _ HApd.out.law.q HApd.out.law.x).mono ?_); rintro e w5 ⟨rfl, hb⟩; (have HAp5 := hide (HApd.out.later hb)); (have cb1 : w5.cell? ⟨ga, 1, none⟩ = some (.int .i64 Ia) := HAp5.out.a.cell 1); (have cb2 : w5.cell? ⟨ga, 2, none⟩ = some (.int .i64 Na) := HAp5.out.a.cell 2); clear hb)
              | (go_at_call 18; (with_reducible refine (add_nil _ _ _).mono ?_); rintro e wx ⟨rfl, hw⟩; subst wx)
              | (go_at_call 19; (with_reducible refine (remove_nil _ _).mono ?_); rintro e wx ⟨rfl, hw⟩; subst wx)
              | (go_at_call 20; (with_reducible refine (touch_nil _ _).mono ?_); rintro e wx ⟨rfl, hw⟩; subst wx)
              | (go_at_call 21; (with_reducible refine (move_nil _ _ _).mono ?_); rintro e wx ⟨rfl, hw⟩; subst wx)
              | (go_at_call 13; (with_reducible refine (len_nil _).mono ?_); rintro e w6 ⟨rfl, hb⟩; (have HAp6 := hide (HAp5.out.later hb)); (have cc1 : w6.cell? ⟨ga, 1, none⟩ = some (.int .i64 Ia) := HAp6.out.a.cell 1); (have cc2 : w6.cell? ⟨ga, 2, none⟩ = some (.int .i64 Na) := HAp6.out.a.cell 2); clear hb)
              | (go_at_call 14; (with_reducible refine (balance_nil _ _).mono ?_); rintro e w7 ⟨rfl, hb⟩; (have HAp7 := hide (HAp6.out.later hb)); (have cd1 : w7.cell? ⟨ga, 1, none⟩ = some (.int .i64 Ia) := HAp7.out.a.cell 1); (have cd2 : w7.cell? ⟨ga, 2, none⟩ = some (.int .i64 Na) := HAp7.out.a.cell 2); clear hb)
              | (go_at_call 11; (with_reducible refine (list_nil _ _).mono ?_); rintro e w8 ⟨rfl, hb⟩; (have HAp8 := hide (HAp7.out.later hb)); (have ce1 : w8.cell? ⟨ga, 1, none⟩ = some (.int .i64 Ia) := HAp8.out.a.cell 1); (have ce2 : w8.cell? ⟨ga, 2, none⟩ = some (.int .i64 Na) := HAp8.out.a.cell 2); clear hb)
              | (go_at_call 15; (with_reducible refine (copy_nil _).mono ?_); rintro e wx ⟨rfl, hw⟩; subst wx))
            all_goals
              go_wp2_with fail
              go_ret
              exact ⟨rfl, HAp8.out.law.below⟩
end Go.Proofs.Ytafhkjipjgkkkaa.Lv
