/- ViewLooks, walked. -/
import Derived.Test.YtmocaabdfiffnaaVwAwake
import Derived.Test.YtmocaabdfiffnaaRowEq
namespace Go.Proofs.Ytmocaabdfiffnaa.Ct
open Go.RowKit Go.Proofs.Ytmocaabdfiffnaa.W Go.Maps
set_option linter.unusedVariables false
set_option linter.unusedSimpArgs false

theorem count_lit (s : ByteArray) (hs : s.size = 18432) (w : World) : Calls Try.prog 14 #[.string s] w fun e w' => e = .returned (.tuple #[.agg #[.int .i64 (cntS s 288 0 : Int), .int .i64 (cntS s 288 1 : Int), .int .i64 (cntS s 288 2 : Int), .int .i64 (cntS s 288 3 : Int), .int .i64 (cntS s 288 4 : Int)], .int .i64 0]) ∧ Below w.heap.size w w' := by
  have h := count_yes s hs w
  have e : row 5 (cvs s 288) = #[.int .i64 (cntS s 288 0 : Int), .int .i64 (cntS s 288 1 : Int), .int .i64 (cntS s 288 2 : Int), .int .i64 (cntS s 288 3 : Int), .int .i64 (cntS s 288 4 : Int)] := by
    refine Array.ext_getElem? (fun i => ?_)
    by_cases hi : i < 5
    · rw [row_get _ hi]
      have h5 : i = 0 ∨ i = 1 ∨ i = 2 ∨ i = 3 ∨ i = 4 := by omega
      rcases h5 with rfl | rfl | rfl | rfl | rfl <;> rfl
    · rw [Array.getElem?_eq_none (by rw [row_size]; omega), Array.getElem?_eq_none (by simp; omega)]
  rw [e] at h
  exact h
theorem eq5 (w : World) (a b c d e : Int) : (Op.equalIn 10000 46 (.agg #[.int .i64 a, .int .i64 b, .int .i64 c, .int .i64 d, .int .i64 e]) (.agg #[.int .i64 a, .int .i64 b, .int .i64 c, .int .i64 d, .int .i64 e])).run Try.prog w = .ok true w := by
  have h := run_equalIn_ints (P := Try.prog) (t := 46) (e := 3) (n := 5) (d := 9998) (k := .i64) (fun i => [a, b, c, d, e].getD i 0) (fun i => [a, b, c, d, e].getD i 0) Try.underlying46 Try.underlying3 (by kernel_rfl) w
  rw [eqTo_iff.2 (fun _ _ => rfl)] at h
  exact h
theorem count_nolit (s : ByteArray) (hs : s.size ≠ 18432) (w : World) : Calls Try.prog 14 #[.string s] w fun e w' => e = .returned (.tuple #[.agg #[.int .i64 0, .int .i64 0, .int .i64 0, .int .i64 0, .int .i64 0], .int .i64 6]) ∧ Below w.heap.size w w' := count_no s hs w
set_option maxRecDepth 100000 in
set_option maxHeartbeats 2000000 in
theorem viewLooks_cut (A : Option Addr) (n c : Nat) (K : Nat → Int) (S : Nat → ByteArray) (cut m : Nat) (hm : cut % 3 = m) (hm0 : 0 < m) (w : World)
    (hI : ∀ W, Below w.heap.size w W → Calls Try.prog 6 #[.slice A n c] W fun e w' => e = .returned (.string (imgB K S n)) ∧ Below W.heap.size W w') :
    Calls Try.prog 5 #[.slice A n c, .int .u8 (cut : Int)] w fun e w' => e = .returned (.bool true) ∧ Below w.heap.size w w' := by
  have hsz := imgB_size K S n
  obtain ⟨s, hs⟩ : ∃ s, imgB K S n = s := ⟨_, rfl⟩
  rw [hs] at hI hsz
  have HI := hide (hI w (Below.refl _ _))
  have b1 : (m : Int) ≤ (s.size : Int) := by omega
  have b2 : m ≤ s.size := by omega
  have e1 : Int.tmod (cut : Int) 3 = (m : Int) := by rw [Int.tmod_eq_emod_of_nonneg (by omega)]; omega
  have e2 : IntKind.i64.wrap (m : Int) = (m : Int) := IntWalk.i64_in _ (by omega)
  have e3 : IntKind.u8.wrap (m : Int) = (m : Int) := wrap_u8 (by omega) (by omega)
  have e4 : (0 : Int) < (m : Int) := by omega
  have ht : (s.extract m s.size).size ≠ 18432 := by rw [ByteArray.size_extract]; omega
  obtain ⟨t, hte⟩ : ∃ t, s.extract m s.size = t := ⟨_, rfl⟩
  rw [hte] at ht
  have HL := hide (fun W => looks_no t ht W)
  have HC := hide (fun W => count_nolit t ht W)
  have he5 := eq5
  clear hI hs hm ht hm0 hsz
  go_enter Try.func5, Try.ntmps5
  go_upto_region 4 with (first
    | (go_at_call 6; (with_reducible refine HI.out.mono ?_); rintro e w1 ⟨rfl, hb⟩; have HB1 := hide hb; clear hb)
    | (go_at_call 13; (with_reducible refine (HL.out _).mono ?_); rintro e w2 ⟨rfl, hb⟩; subst w2)
    | (go_at_call 14; (with_reducible refine (HC.out _).mono ?_); rintro e w3 ⟨rfl, hb⟩; have HB3 := hide (HB1.out.trans (hb.mono HB1.out.size)); clear hb))
  have HBk := hide (Blk.newAt w3 46 #[.int .i64 0, .int .i64 0, .int .i64 0, .int .i64 0, .int .i64 0] _ rfl)
  have HB4 := hide (HB3.out.alloc HB3.out.size (.cells #[.int .i64 0, .int .i64 0, .int .i64 0, .int .i64 0, .int .i64 0] 46))
  go_wp2_with (first
    | (go_at_call 9; (with_reducible refine (awake_any _).mono ?_); rintro e w4 ⟨rfl, hb⟩; (have hbk := W.later hb HBk.out); (have d0 : w4.cell? ⟨w3.heap.size, 0, none⟩ = some (.int .i64 0) := hbk.cell 0); (have d1 : w4.cell? ⟨w3.heap.size, 1, none⟩ = some (.int .i64 0) := hbk.cell 1); (have d2 : w4.cell? ⟨w3.heap.size, 2, none⟩ = some (.int .i64 0) := hbk.cell 2); (have d3 : w4.cell? ⟨w3.heap.size, 3, none⟩ = some (.int .i64 0) := hbk.cell 3); (have d4 : w4.cell? ⟨w3.heap.size, 4, none⟩ = some (.int .i64 0) := hbk.cell 4); have HB5 := hide (HB4.out.trans (hb.mono HB4.out.size)); clear hb hbk))
  go_ret
  exact ⟨rfl, HB5.out⟩
def VlRel (w : World) (s : ByteArray) (gl gn gw : Nat) (N : Array Value) (k : Nat) (s11 : Value) (wr : World) : Prop :=
  ∃ i : Nat, s11 = .int .i64 (i : Int) ∧ i + k = 288 ∧ Blk wr gw 46 (row 5 (cvs s i)) ∧ Blk wr gn 46 N ∧ (∀ i j, i < 288 → j < 4 → wr.cell? ⟨gl, i * 4 + j, none⟩ = some (seenF s i j)) ∧ gl < gw ∧ gn < gw ∧ Below w.heap.size w wr
set_option maxRecDepth 100000 in
set_option maxHeartbeats 4000000 in
theorem viewLooks_all (A : Option Addr) (n c : Nat) (K : Nat → Int) (S : Nat → ByteArray) (cut : Nat) (hm : cut % 3 = 0) (w : World)
    (hI : ∀ W, Below w.heap.size w W → Calls Try.prog 6 #[.slice A n c] W fun e w' => e = .returned (.string (imgB K S n)) ∧ Below W.heap.size W w') :
    Calls Try.prog 5 #[.slice A n c, .int .u8 (cut : Int)] w fun e w' => e = .returned (.bool true) ∧ Below w.heap.size w w' := by
  have hsz := imgB_size K S n
  obtain ⟨s, hs⟩ : ∃ s, imgB K S n = s := ⟨_, rfl⟩
  rw [hs] at hI hsz
  have HI := hide (hI w (Below.refl _ _))
  have b1 : (0 : Int) ≤ (s.size : Int) := by omega
  have e1 : Int.tmod (cut : Int) 3 = 0 := by rw [Int.tmod_eq_emod_of_nonneg (by omega)]; omega
  have ht : s.extract 0 s.size = s := by simp
  have HL := hide (fun W => looks_at s hsz W)
  have HC := hide (fun W => count_lit s hsz W)
  have HR := hide (fun i hi W => rlook_any s i hsz hi W)
  have HSc := hide (fun k (h : zB s k = false) => cvs_some s k h)
  have HZc := hide (fun k (h : zB s k = true) => cvs_zero s k h)
  obtain ⟨n0, hn0⟩ : ∃ z : Int, (cntS s 288 0 : Int) = z := ⟨_, rfl⟩
  obtain ⟨n1, hn1⟩ : ∃ z : Int, (cntS s 288 1 : Int) = z := ⟨_, rfl⟩
  obtain ⟨n2, hn2⟩ : ∃ z : Int, (cntS s 288 2 : Int) = z := ⟨_, rfl⟩
  obtain ⟨n3, hn3⟩ : ∃ z : Int, (cntS s 288 3 : Int) = z := ⟨_, rfl⟩
  obtain ⟨n4, hn4⟩ : ∃ z : Int, (cntS s 288 4 : Int) = z := ⟨_, rfl⟩
  rw [hn0, hn1, hn2, hn3, hn4] at HC
  have HCv : Hid (cvs s 288 0 = .int .i64 n0 ∧ cvs s 288 1 = .int .i64 n1 ∧ cvs s 288 2 = .int .i64 n2 ∧ cvs s 288 3 = .int .i64 n3 ∧ cvs s 288 4 = .int .i64 n4) := hide ⟨by rw [← hn0]; rfl, by rw [← hn1]; rfl, by rw [← hn2]; rfl, by rw [← hn3]; rfl, by rw [← hn4]; rfl⟩
  have hC0 : Hid (row 5 (cvs s 0) = #[.int .i64 0, .int .i64 0, .int .i64 0, .int .i64 0, .int .i64 0]) := hide rfl
  have he5 := eq5
  clear hI hs hm hsz hn0 hn1 hn2 hn3 hn4
  go_enter Try.func5, Try.ntmps5
  go_upto_region 4 with (first
    | (go_at_call 6; (with_reducible refine HI.out.mono ?_); rintro e w1 ⟨rfl, hb⟩; have HB1 := hide hb; clear hb)
    | (go_at_call 13; (with_reducible refine (HL.out _).mono ?_); rintro e w2 ⟨gl, cl, rfl, hgl, hcl, hb⟩; have HB2 := hide (HB1.out.trans (hb.mono HB1.out.size)); have HGl := hide hgl; have HCl := hide hcl; clear hb hgl hcl)
    | (go_at_call 14; (with_reducible refine (HC.out _).mono ?_); rintro e w3 ⟨rfl, hb⟩; have HX3 := hide hb; have HB3 := hide (HB2.out.trans (hb.mono HB2.out.size)); clear hb))
  obtain ⟨N, hN⟩ : ∃ N, (#[.int .i64 n0, .int .i64 n1, .int .i64 n2, .int .i64 n3, .int .i64 n4] : Array Value) = N := ⟨_, rfl⟩
  have HNe := hide hN
  have HN : Hid (Blk (w3.alloc (.cells #[.int .i64 n0, .int .i64 n1, .int .i64 n2, .int .i64 n3, .int .i64 n4] 46)) w3.heap.size 46 N) := hide (by rw [← hN]; exact Blk.newAt w3 _ _ _ rfl)
  have HC4 : Hid (∀ i j, i < 288 → j < 4 → (w3.alloc (.cells #[.int .i64 n0, .int .i64 n1, .int .i64 n2, .int .i64 n3, .int .i64 n4] 46)).cell? ⟨gl, i * 4 + j, none⟩ = some (seenF s i j)) := hide (fun i j hi hj =>
    (((HX3.out).alloc HX3.out.size _).cell (p := ⟨gl, i * 4 + j, none⟩) HGl.out).trans (HCl.out i j hi hj))
  have HG4 : Hid (gl < w3.heap.size) := hide (Nat.lt_of_lt_of_le HGl.out HX3.out.size)
  have HB4 := hide (HB3.out.alloc HB3.out.size (.cells #[.int .i64 n0, .int .i64 n1, .int .i64 n2, .int .i64 n3, .int .i64 n4] 46))
  have hs4 : (w3.alloc (.cells #[.int .i64 n0, .int .i64 n1, .int .i64 n2, .int .i64 n3, .int .i64 n4] 46)).heap.size = w3.heap.size + 1 := by simp
  have HS4 := hide hs4
  clear hN HCl HGl HX3 HB3 hs4
  generalize w3.alloc (.cells #[.int .i64 n0, .int .i64 n1, .int .i64 n2, .int .i64 n3, .int .i64 n4] 46) = W4 at HN HC4 HB4 HS4 ⊢
  obtain ⟨gn, hgn⟩ : ∃ g, w3.heap.size = g := ⟨_, rfl⟩
  rw [hgn] at HN HG4 HS4
  simp only [hgn]
  clear hgn
  go_wp2_with fail
  go_loopg [11, 12] 288 (fun k s11 s12 wr => VlRel w s gl gn W4.heap.size N k s11 wr)
  case atStart =>
    have h0 := Blk.newAt W4 46 #[.int .i64 0, .int .i64 0, .int .i64 0, .int .i64 0, .int .i64 0] _ rfl
    refine ⟨0, rfl, rfl, by rw [hC0.out]; exact h0, HN.out.alloc _, fun i j hi hj => ?_, by have := HG4.out; have := HS4.out; omega, by have := HS4.out; omega, HB4.out.alloc HB4.out.size _⟩
    exact ((Below.refl W4.heap.size W4).alloc (Nat.le_refl _) _).cell (p := ⟨gl, i * 4 + j, none⟩) (by have := HG4.out; have := HS4.out; show gl < _; omega) |>.trans (HC4.out i j hi hj)
  case round =>
    obtain ⟨i, rfl, hk, hw, hn, hcl, hgl, hgn, hb⟩ := hrel
    obtain ⟨gw, hgw⟩ : ∃ g, W4.heap.size = g := ⟨_, rfl⟩
    rw [hgw] at hw hgl hgn
    have HW := hide hw
    have HN' := hide hn
    have HCL := hide hcl
    have HB := hide hb
    have HGW := hide hgw
    have HK := hide hk
    by_cases hi : i < 288
    · have hlt : (i : Int) < 288 := by omega
      have HRi : Hid (∀ W, Calls Try.prog 12 #[.string s, .int .i64 (i : Int)] W fun e w' => e = .returned (.agg #[.int .i64 (whatOf i : Int), .int .i64 (idxOf i : Int), .int .i64 (numOf (blk s i) i), .bool (zB s i)]) ∧ Below W.heap.size W w') := hide (fun W => HR.out i hi W)
      have x0 : wr.cell? ⟨gl, i * 4 + 0, none⟩ = some (.int .i64 (whatOf i : Int)) := hcl i 0 hi (by omega)
      have x1 : wr.cell? ⟨gl, i * 4 + 1, none⟩ = some (.int .i64 (idxOf i : Int)) := hcl i 1 hi (by omega)
      have x2 : wr.cell? ⟨gl, i * 4 + 2, none⟩ = some (.int .i64 (numOf (blk s i) i)) := hcl i 2 hi (by omega)
      have x3 : wr.cell? ⟨gl, i * 4 + 3, none⟩ = some (.bool (zB s i)) := hcl i 3 hi (by omega)
      obtain ⟨v0, hv0⟩ : ∃ v, whatOf i = v := ⟨_, rfl⟩
      obtain ⟨v1, hv1⟩ : ∃ v, (idxOf i : Int) = v := ⟨_, rfl⟩
      obtain ⟨v2, hv2⟩ : ∃ v, numOf (blk s i) i = v := ⟨_, rfl⟩
      have hw5 : v0 < 5 := hv0 ▸ what_lt i
      have hSo := HSc.out i
      have hZe := HZc.out i
      rw [hv0] at x0 hSo HRi
      rw [hv1] at x1 HRi
      rw [hv2] at x2 HRi
      obtain ⟨j, hj⟩ : ∃ j, i * 4 = j := ⟨_, rfl⟩
      rw [hj] at x0 x1 x2 x3
      rw [Nat.add_zero] at x0
      obtain ⟨z, hz⟩ : ∃ z, zB s i = z := ⟨_, rfl⟩
      rw [hz] at x3 hSo hZe HRi
      have HSo := hide hSo
      have HZe := hide hZe
      have HX0 := hide x0
      have HX1 := hide x1
      have HX2 := hide x2
      have HX3 := hide x3
      have hgr := hw.lt
      have HGR := hide hgr
      obtain ⟨n, hnn⟩ : ∃ n, cntS s i v0 = n := ⟨_, rfl⟩
      have hnl : n ≤ 288 := by
        have := cntS_le s v0 i
        omega
      have co : wr.cell? ⟨gw, v0, none⟩ = some (.int .i64 (n : Int)) := by rw [hw.at hw5, ← hnn]; rfl
      have e1' : IntKind.i64.wrap ((n : Int) + 1) = ((n + 1 : Nat) : Int) := by rw [show (n : Int) + 1 = ((n + 1 : Nat) : Int) by omega]; exact IntWalk.i64_in _ (by omega)
      have hv5 : (v0 : Int) < 5 := by omega
      have HNn := hide hnn
      have HCO := hide co
      clear co hnn x0 x1 x2 x3 hSo hZe hv0 hv1 hv2 hz hk hw hn hcl hb hgr hgw
      go_upto_region 13 with (first
        | (go_at_call 12; (with_reducible refine (HRi.out _).mono ?_); rintro e w5 ⟨rfl, hb⟩; have HX5 := hide hb; clear hb))
      have hgw := HGW.out
      simp only [hgw]
      clear hgw
      have hb5 := HX5.out
      have k0 : Blk (w5.alloc (.cells #[.int .i64 (v0 : Int), .int .i64 v1, .int .i64 v2, .bool z] 40)) w5.heap.size 40 #[.int .i64 (v0 : Int), .int .i64 v1, .int .i64 v2, .bool z] := Blk.newAt w5 _ _ _ rfl
      have hb6 : Below wr.heap.size wr (w5.alloc (.cells #[.int .i64 (v0 : Int), .int .i64 v1, .int .i64 v2, .bool z] 40)) := hb5.alloc hb5.size _
      generalize w5.alloc (.cells #[.int .i64 (v0 : Int), .int .i64 v1, .int .i64 v2, .bool z] 40) = W6 at k0 hb6 ⊢
      obtain ⟨gx, hgx⟩ : ∃ g, w5.heap.size = g := ⟨_, rfl⟩
      rw [hgx] at k0
      simp only [hgx]
      have hglr : gl < wr.heap.size := Nat.lt_trans hgl HGR.out
      have x0 := (hb6.cell (p := ⟨gl, j, none⟩) hglr).trans HX0.out
      have x1 := (hb6.cell (p := ⟨gl, j + 1, none⟩) hglr).trans HX1.out
      have x2 := (hb6.cell (p := ⟨gl, j + 2, none⟩) hglr).trans HX2.out
      have x3 := (hb6.cell (p := ⟨gl, j + 3, none⟩) hglr).trans HX3.out
      have co := (hb6.cell (p := ⟨gw, v0, none⟩) HGR.out).trans HCO.out
      have hw6 := W.later hb6 HW.out
      have fo := hw6.frozen v0
      have go := hw6.lt
      have y0 : W6.cell? ⟨gx, 0, none⟩ = some (.int .i64 (v0 : Int)) := k0.cell 0
      have y1 : W6.cell? ⟨gx, 1, none⟩ = some (.int .i64 v1) := k0.cell 1
      have y2 : W6.cell? ⟨gx, 2, none⟩ = some (.int .i64 v2) := k0.cell 2
      have y3 : W6.cell? ⟨gx, 3, none⟩ = some (.bool z) := k0.cell 3
      have gk0 := k0.lt
      have gl6 : gl < W6.heap.size := Nat.lt_of_lt_of_le hglr hb6.size
      have HW6 := hide hw6
      have HB6 := hide hb6
      clear hgx hb5 hb6 hw6 k0 HX0 HX1 HX2 HX3 HX5 HCO
      go_quiet (fail)
      have hk := HK.out
      have hnl' : W4.heap.size = gw := HGW.out
      have hN6 := W.later HB6.out HN'.out
      have hC6 : ∀ i j, i < 288 → j < 4 → W6.cell? ⟨gl, i * 4 + j, none⟩ = some (seenF s i j) := fun i j hi hj => (HB6.out.cell (p := ⟨gl, i * 4 + j, none⟩) hglr).trans (HCL.out i j hi hj)
      have hB6 := HB.out.trans (HB6.out.mono HB.out.size)
      have HN6 := hide hN6
      have HC6 := hide hC6
      have HBB := hide hB6
      clear hN6 hC6 hB6 hk hnl'
      cases z with
      | true =>
        clear co fo
        go_wp2_with fail
        have hk := HK.out
        have hgw := HGW.out
        subst hgw
        go_roundg (gk - 1)
        case measure => omega
        case rel =>
          refine ⟨i + 1, by go_num, by omega, ?_, HN6.out.same rfl, fun i j hi hj => HC6.out i j hi hj, hgl, hgn, below_drewN HBB.out _⟩
          rw [HZe.out (by first | trivial | rfl)]
          exact HW6.out.same rfl
      | false =>
        have hwl : w.heap.size ≤ gw := by have := HB4.out.size; have := HGW.out; omega
        have HWL := hide hwl
        clear hwl
        go_wp2_with fail
        have hk := HK.out
        have hgw := HGW.out
        subst hgw
        go_roundg (gk - 1)
        case measure => omega
        case rel =>
          refine ⟨i + 1, by go_num, by omega, ?_, ?_, fun i j hi hj => ?_, hgl, hgn, ?_⟩
          · rw [HSo.out (by first | trivial | rfl), HNn.out]
            exact (HW6.out.upd v0 _).same rfl
          · exact (HN6.out.far (p := ⟨W4.heap.size, v0, none⟩) (by show gn ≠ W4.heap.size; omega) _).same rfl
          · refine (World.cell?_of_block (a := ⟨gl, i * 4 + j, none⟩) (w := W6) ?_).trans (HC6.out i j hi hj)
            exact Below.heap_setCell W6 _ _ gl (by show gl ≠ W4.heap.size; omega)
          · exact below_drewN (HBB.out.setCell (p := ⟨W4.heap.size, v0, none⟩) HWL.out _) _
    · obtain rfl : i = 288 := by omega
      have hwr := hw
      have HW288 : Hid (wr.cell? ⟨gw, 0, none⟩ = some (.int .i64 n0) ∧ wr.cell? ⟨gw, 1, none⟩ = some (.int .i64 n1) ∧ wr.cell? ⟨gw, 2, none⟩ = some (.int .i64 n2) ∧ wr.cell? ⟨gw, 3, none⟩ = some (.int .i64 n3) ∧ wr.cell? ⟨gw, 4, none⟩ = some (.int .i64 n4)) := hide (by
        obtain ⟨h0, h1, h2, h3, h4⟩ := HCv.out
        exact ⟨by rw [hw.at (by omega), h0], by rw [hw.at (by omega), h1], by rw [hw.at (by omega), h2], by rw [hw.at (by omega), h3], by rw [hw.at (by omega), h4]⟩)
      have HN288 : Hid (wr.cell? ⟨gn, 0, none⟩ = some (.int .i64 n0) ∧ wr.cell? ⟨gn, 1, none⟩ = some (.int .i64 n1) ∧ wr.cell? ⟨gn, 2, none⟩ = some (.int .i64 n2) ∧ wr.cell? ⟨gn, 3, none⟩ = some (.int .i64 n3) ∧ wr.cell? ⟨gn, 4, none⟩ = some (.int .i64 n4)) := hide (by
        have h := hn
        rw [← HNe.out] at h
        exact ⟨h.cell 0, h.cell 1, h.cell 2, h.cell 3, h.cell 4⟩)
      have hlw := hw.lt
      have hln := hn.lt
      have HLW := hide hlw
      have HLN := hide hln
      have hgw' := HGW.out
      simp only [hgw']
      clear hwr hw hn hcl hlw hln hgw hgw' hi hk hb HC4 HB4 HS4 HG4 HN HCL HW HN' HGW
      go_wp2_with (first
        | (go_at_call 9; (with_reducible refine (awake_any _).mono ?_); rintro e w9 ⟨rfl, hb⟩; (obtain ⟨a0, a1, a2, a3, a4⟩ := HW288.out); (obtain ⟨b0, b1', b2, b3, b4⟩ := HN288.out); (have d0 := (hb.cell (p := ⟨gw, 0, none⟩) HLW.out).trans a0); (have d1 := (hb.cell (p := ⟨gw, 1, none⟩) HLW.out).trans a1); (have d2 := (hb.cell (p := ⟨gw, 2, none⟩) HLW.out).trans a2); (have d3 := (hb.cell (p := ⟨gw, 3, none⟩) HLW.out).trans a3); (have d4 := (hb.cell (p := ⟨gw, 4, none⟩) HLW.out).trans a4); (have f0 := (hb.cell (p := ⟨gn, 0, none⟩) HLN.out).trans b0); (have f1 := (hb.cell (p := ⟨gn, 1, none⟩) HLN.out).trans b1'); (have f2 := (hb.cell (p := ⟨gn, 2, none⟩) HLN.out).trans b2); (have f3 := (hb.cell (p := ⟨gn, 3, none⟩) HLN.out).trans b3); (have f4 := (hb.cell (p := ⟨gn, 4, none⟩) HLN.out).trans b4); have HB9 := hide (HB.out.trans (hb.mono HB.out.size)); clear hb a0 a1 a2 a3 a4 b0 b1' b2 b3 b4))
      go_ret
      exact ⟨rfl, HB9.out⟩
theorem viewLooks_walk (A : Option Addr) (n c : Nat) (K : Nat → Int) (S : Nat → ByteArray) (cut : Nat) (w : World) (hn : n ≤ maxLen) (hA : Holds w w.heap.size 2 A n (chAt K S)) (hS : ∀ i, i < n → (S i).size ≤ maxLen) :
    Calls Try.prog 5 #[.slice A n c, .int .u8 (cut : Int)] w fun e w' => e = .returned (.bool true) ∧ Below w.heap.size w w' := by
  have hI : ∀ W, Below w.heap.size w W → Calls Try.prog 6 #[.slice A n c] W fun e w' => e = .returned (.string (imgB K S n)) ∧ Below W.heap.size W w' := fun W hb =>
    image_any A n c K S hn W (fun h => by
      obtain ⟨b, off, h1, h2, h3⟩ := hA h
      exact ⟨b, off, h1, Nat.lt_of_lt_of_le h2 hb.size, fun i j hi hj => (hb.cell (p := ⟨b, off + i * 2 + j, none⟩) h2).trans (h3 i j hi hj)⟩) hS
  by_cases h : cut % 3 = 0
  · exact viewLooks_all A n c K S cut h w hI
  · exact viewLooks_cut A n c K S cut _ rfl (by omega) w hI
end Go.Proofs.Ytmocaabdfiffnaa.Ct
