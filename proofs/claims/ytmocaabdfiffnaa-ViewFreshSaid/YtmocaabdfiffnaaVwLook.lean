/- The contract of view's look. -/
import Derived.Test.YtmocaabdfiffnaaVwWalk
namespace Go.Proofs.Ytmocaabdfiffnaa.Ct
open Go.RowKit Go.Proofs.Ytmocaabdfiffnaa.W
set_option linter.unusedVariables false
set_option linter.unusedSimpArgs false

set_option maxRecDepth 100000 in
theorem look_core (s : ByteArray) (i : Nat) (hs : s.size = 18432) (hi : i < 288) (q x : Nat) (hq : whatOf i = q) (hx : idxOf i = x) (z : Bool) (hz : ((blk s i).toList == (zerosB 64).toList) = z) (kn kk ke : Int)
    (hk : ∀ W, Calls Try.prog 24 #[.string (blk s i)] W fun e w' => e = .returned (.tuple #[.int .i64 kn, .int .i64 kk, .int .i64 ke]) ∧ Below W.heap.size W w')
    (num : Int) (w : World)
    (hc : (q ≠ 4 ∧ num = -1) ∨ (q = 4 ∧ ke = 6 ∧ num = -1) ∨ (q = 4 ∧ ke = 0 ∧ kk = 2 ∧ num = -1) ∨ (q = 4 ∧ ke = 0 ∧ kk = 1 ∧ num = kn)) :
    Calls Try.prog 19 #[.string s, .int .i64 (i : Int)] w fun e w' => e = .returned (.agg #[.int .i64 (q : Int), .int .i64 (x : Int), .int .i64 num, .bool z]) ∧ Below w.heap.size w w' := by
  have HB := hide (fun W => block_any s i hs hi W)
  have HW := hide (fun W => what_any i hi W)
  rw [hq, hx] at HW
  have HK := hide hk
  obtain ⟨b, hb⟩ : ∃ b, blk s i = b := ⟨_, rfl⟩
  rw [hb] at HB HK hz
  have hmk := make_bytes 64 (by omega)
  have HZ := hide hz
  clear hs hi hq hx hk hb hz
  go_enter Try.func19, Try.ntmps19
  go_upto_region 2 with (first
    | (go_at_call 17; (with_reducible refine (HB.out _).mono ?_); rintro e w1 ⟨rfl, hb⟩; subst w1))
  have hcv : ∀ (W : World) (g : Nat), Blk W g 5 (row 64 (u8s fun _ => 0#8)) → (convert 32 9 (.slice (some ⟨g, 0, none⟩) 64 64)).run Try.prog W = .ok (.string (zerosB 64)) W := fun W g hb =>
    run_convert_row W _ _ _ Try.underlying32 Try.underlying5 Try.underlying9 _ _ _ _ (fun _ => 0#8) (fun j hj => by
      rw [Nat.zero_add, hb.at hj]
      rfl)
  have hz := HZ.out
  have hmk' : ∀ w : World, (Instr.makeSlice 32 (.int .i64 64) (.int .i64 64)).run Try.prog w = .ok (.slice (some ⟨w.heap.size, 0, none⟩) 64 64) (w.alloc (.cells (row 64 (u8s fun _ => 0#8)) 5)) := hmk
  clear hmk
  generalize hR : row 64 (u8s fun _ => 0#8) = R at hmk' hcv
  generalize hW1 : w.alloc (Obj.cells #[Value.int IntKind.i64 0, Value.int IntKind.i64 0, Value.int IntKind.i64 0, Value.bool false] 40) = W1
  have c1 := hcv (W1.alloc (.cells R 5)) _ (Blk.newAt W1 _ _ _ rfl)
  have hx0 : Blk W1 w.heap.size 40 #[.int .i64 0, .int .i64 0, .int .i64 0, .bool false] := hW1 ▸ Blk.newAt w _ _ _ rfl
  have hb0 : Below w.heap.size w W1 := hW1 ▸ (Below.refl _ _).alloc (Nat.le_refl _) _
  have hs1 : W1.heap.size = w.heap.size + 1 := by rw [← hW1]; simp
  have HX0 := hide hx0
  have HB0 := hide hb0
  have HS1 := hide hs1
  clear hcv hx0 hb0 hs1 hW1
  have HR := hide hR
  clear hR
  go_upto_region 4 with (first
    | (go_at_call 23; (with_reducible refine (HW.out _).mono ?_); rintro e w2 ⟨rfl, hb⟩; subst w2))
  have hx6 : Blk ((W1.alloc (.cells R 5)).alloc (.cells #[.int .i64 (q : Int), .int .i64 (x : Int), .int .i64 (-1), .bool z] 40)) (W1.heap.size + 1) 40 #[.int .i64 (q : Int), .int .i64 (x : Int), .int .i64 (-1), .bool z] := Blk.newAt (W1.alloc _) _ _ _ (by simp)
  have hx0 : Blk ((W1.alloc (.cells R 5)).alloc (.cells #[.int .i64 (q : Int), .int .i64 (x : Int), .int .i64 (-1), .bool z] 40)) w.heap.size 40 #[.int .i64 0, .int .i64 0, .int .i64 0, .bool false] := (HX0.out.alloc _).alloc _
  have hb2 : Below w.heap.size w ((W1.alloc (.cells R 5)).alloc (.cells #[.int .i64 (q : Int), .int .i64 (x : Int), .int .i64 (-1), .bool z] 40)) := (HB0.out.alloc (by have := HS1.out; omega) _).alloc (by have := HS1.out; simp; omega) _
  have hg : w.heap.size < W1.heap.size + 1 := by have := HS1.out; omega
  generalize (W1.alloc (.cells R 5)).alloc (.cells #[.int .i64 (q : Int), .int .i64 (x : Int), .int .i64 (-1), .bool z] 40) = W2 at hx6 hx0 hb2 ⊢
  have HG := hide hg
  obtain ⟨g, hgg⟩ : ∃ g, W1.heap.size + 1 = g := ⟨_, rfl⟩
  rw [hgg] at hx6 HG
  simp only [hgg]
  clear hgg hg c1 hmk' hz HX0 HB0 HS1 HR
  have HX6 := hide hx6
  have HX0 := hide hx0
  have HB2 := hide hb2
  clear hx6 hx0 hb2
  rcases hc with ⟨h4, rfl⟩ | ⟨rfl, rfl, rfl⟩ | ⟨rfl, rfl, rfl, rfl⟩ | ⟨rfl, rfl, rfl, rfl⟩
  · have t1 : ((q : Int) == 4) = false := by simp; omega
    have t2 : (q == 4) = false := by simp; omega
    clear h4
    go_upto_region 5 with (first
      | (go_at_call 24; (with_reducible refine (HK.out _).mono ?_); rintro e w3 ⟨rfl, hb⟩; (have b6 := W.later hb HX6.out); (have b0 := W.later hb HX0.out); (have hb3 := HB2.out.trans (hb.mono HB2.out.size)); (have HB3 := hide hb3); (have H6 := hide b6); (have H0 := hide b0); clear hb hb3 b6 b0))
    have d0 : w3.cell? ⟨g, 0, none⟩ = some (.int .i64 (q : Int)) := H6.out.cell 0
    have d1 : w3.cell? ⟨g, 1, none⟩ = some (.int .i64 (x : Int)) := H6.out.cell 1
    have d2 : w3.cell? ⟨g, 2, none⟩ = some (.int .i64 (-1)) := H6.out.cell 2
    have d3 : w3.cell? ⟨g, 3, none⟩ = some (.bool z) := H6.out.cell 3
    have f2 := H6.out.frozen 2
    have e0 : w3.cell? ⟨w.heap.size, 0, none⟩ = some (.int .i64 0) := H0.out.cell 0
    have g1 := H6.out.lt
    have g2 := H0.out.lt
    clear HK HW HB
    go_upto_region 7 with fail
    have k6 : Blk w3 g 40 #[.int .i64 (q : Int), .int .i64 (x : Int), .int .i64 (-1), .bool z] := H6.out
    have k0 : Blk w3 w.heap.size 40 #[.int .i64 0, .int .i64 0, .int .i64 0, .bool false] := H0.out
    have kb : Below w.heap.size w w3 := HB3.out
    obtain ⟨W4, hW4⟩ : ∃ W, w3 = W := ⟨_, rfl⟩
    rw [hW4] at k6 k0 kb ⊢
    clear hW4
    clear d0 d1 d2 d3 f2 e0 g1 g2
    have d0 : W4.cell? ⟨g, 0, none⟩ = some (.int .i64 (q : Int)) := k6.cell 0
    have d1 : W4.cell? ⟨g, 1, none⟩ = some (.int .i64 (x : Int)) := k6.cell 1
    have d2 : W4.cell? ⟨g, 2, none⟩ = some (.int .i64 (-1)) := k6.cell 2
    have d3 : W4.cell? ⟨g, 3, none⟩ = some (.bool z) := k6.cell 3
    have e0 : W4.cell? ⟨w.heap.size, 0, none⟩ = some (.int .i64 0) := k0.cell 0
    have e1 : W4.cell? ⟨w.heap.size, 1, none⟩ = some (.int .i64 0) := k0.cell 1
    have e2 : W4.cell? ⟨w.heap.size, 2, none⟩ = some (.int .i64 0) := k0.cell 2
    have e3 : W4.cell? ⟨w.heap.size, 3, none⟩ = some (.bool false) := k0.cell 3
    have f0 := k0.frozen 0
    have f1 := k0.frozen 1
    have f2 := k0.frozen 2
    have f3 := k0.frozen 3
    have g1 := k6.lt
    have g2 := k0.lt
    have K6 := hide k6
    have K0 := hide k0
    have KB := hide kb
    clear k6 k0 kb
    go_wp2_with fail
    have hm := (((K0.out.set_ 0 (.int .i64 (q : Int))).set_ 1 (.int .i64 (x : Int))).set_ 2 (.int .i64 (-1))).set_ 3 (.bool z)
    have hbf := (((KB.out.setCell (p := ⟨w.heap.size, 0, none⟩) (Nat.le_refl _) (.int .i64 (q : Int))).setCell (p := ⟨w.heap.size, 1, none⟩) (Nat.le_refl _) (.int .i64 (x : Int))).setCell (p := ⟨w.heap.size, 2, none⟩) (Nat.le_refl _) (.int .i64 (-1))).setCell (p := ⟨w.heap.size, 3, none⟩) (Nat.le_refl _) (.bool z)
    exact bodyPost_ret (results_cell_row rfl _ _ w.heap.size 40 #[.int .i64 (q : Int), .int .i64 (x : Int), .int .i64 (-1), .bool z] (0, 0) _ rfl hm Try.underlying40 rfl (by kernel_rfl)) rfl ⟨rfl, hbf⟩
  · skip
    go_upto_region 5 with (first
      | (go_at_call 24; (with_reducible refine (HK.out _).mono ?_); rintro e w3 ⟨rfl, hb⟩; (have b6 := W.later hb HX6.out); (have b0 := W.later hb HX0.out); (have hb3 := HB2.out.trans (hb.mono HB2.out.size)); (have HB3 := hide hb3); (have H6 := hide b6); (have H0 := hide b0); clear hb hb3 b6 b0))
    have d0 : w3.cell? ⟨g, 0, none⟩ = some (.int .i64 (4 : Int)) := H6.out.cell 0
    have d1 : w3.cell? ⟨g, 1, none⟩ = some (.int .i64 (x : Int)) := H6.out.cell 1
    have d2 : w3.cell? ⟨g, 2, none⟩ = some (.int .i64 (-1)) := H6.out.cell 2
    have d3 : w3.cell? ⟨g, 3, none⟩ = some (.bool z) := H6.out.cell 3
    have f2 := H6.out.frozen 2
    have e0 : w3.cell? ⟨w.heap.size, 0, none⟩ = some (.int .i64 0) := H0.out.cell 0
    have g1 := H6.out.lt
    have g2 := H0.out.lt
    clear HK HW HB
    go_upto_region 7 with fail
    have k6 : Blk w3 g 40 #[.int .i64 ((4 : Nat) : Int), .int .i64 (x : Int), .int .i64 (-1), .bool z] := H6.out
    have k0 : Blk w3 w.heap.size 40 #[.int .i64 0, .int .i64 0, .int .i64 0, .bool false] := H0.out
    have kb : Below w.heap.size w w3 := HB3.out
    obtain ⟨W4, hW4⟩ : ∃ W, w3 = W := ⟨_, rfl⟩
    rw [hW4] at k6 k0 kb ⊢
    clear hW4
    clear d0 d1 d2 d3 f2 e0 g1 g2
    have d0 : W4.cell? ⟨g, 0, none⟩ = some (.int .i64 ((4 : Nat) : Int)) := k6.cell 0
    have d1 : W4.cell? ⟨g, 1, none⟩ = some (.int .i64 (x : Int)) := k6.cell 1
    have d2 : W4.cell? ⟨g, 2, none⟩ = some (.int .i64 (-1)) := k6.cell 2
    have d3 : W4.cell? ⟨g, 3, none⟩ = some (.bool z) := k6.cell 3
    have e0 : W4.cell? ⟨w.heap.size, 0, none⟩ = some (.int .i64 0) := k0.cell 0
    have e1 : W4.cell? ⟨w.heap.size, 1, none⟩ = some (.int .i64 0) := k0.cell 1
    have e2 : W4.cell? ⟨w.heap.size, 2, none⟩ = some (.int .i64 0) := k0.cell 2
    have e3 : W4.cell? ⟨w.heap.size, 3, none⟩ = some (.bool false) := k0.cell 3
    have f0 := k0.frozen 0
    have f1 := k0.frozen 1
    have f2 := k0.frozen 2
    have f3 := k0.frozen 3
    have g1 := k6.lt
    have g2 := k0.lt
    have K6 := hide k6
    have K0 := hide k0
    have KB := hide kb
    clear k6 k0 kb
    go_wp2_with fail
    have hm := (((K0.out.set_ 0 (.int .i64 ((4 : Nat) : Int))).set_ 1 (.int .i64 (x : Int))).set_ 2 (.int .i64 (-1))).set_ 3 (.bool z)
    have hbf := (((KB.out.setCell (p := ⟨w.heap.size, 0, none⟩) (Nat.le_refl _) (.int .i64 ((4 : Nat) : Int))).setCell (p := ⟨w.heap.size, 1, none⟩) (Nat.le_refl _) (.int .i64 (x : Int))).setCell (p := ⟨w.heap.size, 2, none⟩) (Nat.le_refl _) (.int .i64 (-1))).setCell (p := ⟨w.heap.size, 3, none⟩) (Nat.le_refl _) (.bool z)
    exact bodyPost_ret (results_cell_row rfl _ _ w.heap.size 40 #[.int .i64 ((4 : Nat) : Int), .int .i64 (x : Int), .int .i64 (-1), .bool z] (0, 0) _ rfl hm Try.underlying40 rfl (by kernel_rfl)) rfl ⟨rfl, hbf⟩
  · skip
    go_upto_region 5 with (first
      | (go_at_call 24; (with_reducible refine (HK.out _).mono ?_); rintro e w3 ⟨rfl, hb⟩; (have b6 := W.later hb HX6.out); (have b0 := W.later hb HX0.out); (have hb3 := HB2.out.trans (hb.mono HB2.out.size)); (have HB3 := hide hb3); (have H6 := hide b6); (have H0 := hide b0); clear hb hb3 b6 b0))
    have d0 : w3.cell? ⟨g, 0, none⟩ = some (.int .i64 (4 : Int)) := H6.out.cell 0
    have d1 : w3.cell? ⟨g, 1, none⟩ = some (.int .i64 (x : Int)) := H6.out.cell 1
    have d2 : w3.cell? ⟨g, 2, none⟩ = some (.int .i64 (-1)) := H6.out.cell 2
    have d3 : w3.cell? ⟨g, 3, none⟩ = some (.bool z) := H6.out.cell 3
    have f2 := H6.out.frozen 2
    have e0 : w3.cell? ⟨w.heap.size, 0, none⟩ = some (.int .i64 0) := H0.out.cell 0
    have g1 := H6.out.lt
    have g2 := H0.out.lt
    clear HK HW HB
    go_upto_region 7 with fail
    have k6 : Blk w3 g 40 #[.int .i64 ((4 : Nat) : Int), .int .i64 (x : Int), .int .i64 (-1), .bool z] := H6.out
    have k0 : Blk w3 w.heap.size 40 #[.int .i64 0, .int .i64 0, .int .i64 0, .bool false] := H0.out
    have kb : Below w.heap.size w w3 := HB3.out
    obtain ⟨W4, hW4⟩ : ∃ W, w3 = W := ⟨_, rfl⟩
    rw [hW4] at k6 k0 kb ⊢
    clear hW4
    clear d0 d1 d2 d3 f2 e0 g1 g2
    have d0 : W4.cell? ⟨g, 0, none⟩ = some (.int .i64 ((4 : Nat) : Int)) := k6.cell 0
    have d1 : W4.cell? ⟨g, 1, none⟩ = some (.int .i64 (x : Int)) := k6.cell 1
    have d2 : W4.cell? ⟨g, 2, none⟩ = some (.int .i64 (-1)) := k6.cell 2
    have d3 : W4.cell? ⟨g, 3, none⟩ = some (.bool z) := k6.cell 3
    have e0 : W4.cell? ⟨w.heap.size, 0, none⟩ = some (.int .i64 0) := k0.cell 0
    have e1 : W4.cell? ⟨w.heap.size, 1, none⟩ = some (.int .i64 0) := k0.cell 1
    have e2 : W4.cell? ⟨w.heap.size, 2, none⟩ = some (.int .i64 0) := k0.cell 2
    have e3 : W4.cell? ⟨w.heap.size, 3, none⟩ = some (.bool false) := k0.cell 3
    have f0 := k0.frozen 0
    have f1 := k0.frozen 1
    have f2 := k0.frozen 2
    have f3 := k0.frozen 3
    have g1 := k6.lt
    have g2 := k0.lt
    have K6 := hide k6
    have K0 := hide k0
    have KB := hide kb
    clear k6 k0 kb
    go_wp2_with fail
    have hm := (((K0.out.set_ 0 (.int .i64 ((4 : Nat) : Int))).set_ 1 (.int .i64 (x : Int))).set_ 2 (.int .i64 (-1))).set_ 3 (.bool z)
    have hbf := (((KB.out.setCell (p := ⟨w.heap.size, 0, none⟩) (Nat.le_refl _) (.int .i64 ((4 : Nat) : Int))).setCell (p := ⟨w.heap.size, 1, none⟩) (Nat.le_refl _) (.int .i64 (x : Int))).setCell (p := ⟨w.heap.size, 2, none⟩) (Nat.le_refl _) (.int .i64 (-1))).setCell (p := ⟨w.heap.size, 3, none⟩) (Nat.le_refl _) (.bool z)
    exact bodyPost_ret (results_cell_row rfl _ _ w.heap.size 40 #[.int .i64 ((4 : Nat) : Int), .int .i64 (x : Int), .int .i64 (-1), .bool z] (0, 0) _ rfl hm Try.underlying40 rfl (by kernel_rfl)) rfl ⟨rfl, hbf⟩
  · skip
    go_upto_region 5 with (first
      | (go_at_call 24; (with_reducible refine (HK.out _).mono ?_); rintro e w3 ⟨rfl, hb⟩; (have b6 := W.later hb HX6.out); (have b0 := W.later hb HX0.out); (have hb3 := HB2.out.trans (hb.mono HB2.out.size)); (have HB3 := hide hb3); (have H6 := hide b6); (have H0 := hide b0); clear hb hb3 b6 b0))
    have d0 : w3.cell? ⟨g, 0, none⟩ = some (.int .i64 (4 : Int)) := H6.out.cell 0
    have d1 : w3.cell? ⟨g, 1, none⟩ = some (.int .i64 (x : Int)) := H6.out.cell 1
    have d2 : w3.cell? ⟨g, 2, none⟩ = some (.int .i64 (-1)) := H6.out.cell 2
    have d3 : w3.cell? ⟨g, 3, none⟩ = some (.bool z) := H6.out.cell 3
    have f2 := H6.out.frozen 2
    have e0 : w3.cell? ⟨w.heap.size, 0, none⟩ = some (.int .i64 0) := H0.out.cell 0
    have g1 := H6.out.lt
    have g2 := H0.out.lt
    clear HK HW HB
    go_upto_region 7 with fail
    have k6 : Blk (w3.setCell ⟨g, 2, none⟩ (.int .i64 num)) g 40 #[.int .i64 ((4 : Nat) : Int), .int .i64 (x : Int), .int .i64 num, .bool z] := H6.out.set_ 2 _
    have k0 : Blk (w3.setCell ⟨g, 2, none⟩ (.int .i64 num)) w.heap.size 40 #[.int .i64 0, .int .i64 0, .int .i64 0, .bool false] := H0.out.far (by have := HG.out; simp; omega) _
    have kb : Below w.heap.size w (w3.setCell ⟨g, 2, none⟩ (.int .i64 num)) := HB3.out.setCell (by have := HG.out; simp; omega) _
    generalize w3.setCell ⟨g, 2, none⟩ (.int .i64 num) = W4 at k6 k0 kb ⊢
    clear d0 d1 d2 d3 f2 e0 g1 g2
    have d0 : W4.cell? ⟨g, 0, none⟩ = some (.int .i64 ((4 : Nat) : Int)) := k6.cell 0
    have d1 : W4.cell? ⟨g, 1, none⟩ = some (.int .i64 (x : Int)) := k6.cell 1
    have d2 : W4.cell? ⟨g, 2, none⟩ = some (.int .i64 num) := k6.cell 2
    have d3 : W4.cell? ⟨g, 3, none⟩ = some (.bool z) := k6.cell 3
    have e0 : W4.cell? ⟨w.heap.size, 0, none⟩ = some (.int .i64 0) := k0.cell 0
    have e1 : W4.cell? ⟨w.heap.size, 1, none⟩ = some (.int .i64 0) := k0.cell 1
    have e2 : W4.cell? ⟨w.heap.size, 2, none⟩ = some (.int .i64 0) := k0.cell 2
    have e3 : W4.cell? ⟨w.heap.size, 3, none⟩ = some (.bool false) := k0.cell 3
    have f0 := k0.frozen 0
    have f1 := k0.frozen 1
    have f2 := k0.frozen 2
    have f3 := k0.frozen 3
    have g1 := k6.lt
    have g2 := k0.lt
    have K6 := hide k6
    have K0 := hide k0
    have KB := hide kb
    clear k6 k0 kb
    go_wp2_with fail
    have hm := (((K0.out.set_ 0 (.int .i64 ((4 : Nat) : Int))).set_ 1 (.int .i64 (x : Int))).set_ 2 (.int .i64 num)).set_ 3 (.bool z)
    have hbf := (((KB.out.setCell (p := ⟨w.heap.size, 0, none⟩) (Nat.le_refl _) (.int .i64 ((4 : Nat) : Int))).setCell (p := ⟨w.heap.size, 1, none⟩) (Nat.le_refl _) (.int .i64 (x : Int))).setCell (p := ⟨w.heap.size, 2, none⟩) (Nat.le_refl _) (.int .i64 num)).setCell (p := ⟨w.heap.size, 3, none⟩) (Nat.le_refl _) (.bool z)
    exact bodyPost_ret (results_cell_row rfl _ _ w.heap.size 40 #[.int .i64 ((4 : Nat) : Int), .int .i64 (x : Int), .int .i64 num, .bool z] (0, 0) _ rfl hm Try.underlying40 rfl (by kernel_rfl)) rfl ⟨rfl, hbf⟩

theorem what4 {i : Nat} : whatOf i = 4 ↔ 224 ≤ i := by
  unfold whatOf
  by_cases h1 : i < 1
  · rw [if_pos h1]; omega
  · rw [if_neg h1]
    by_cases h2 : i < 81
    · rw [if_pos h2]; omega
    · rw [if_neg h2]
      by_cases h3 : i < 161
      · rw [if_pos h3]; omega
      · rw [if_neg h3]
        by_cases h4 : i < 224
        · rw [if_pos h4]; omega
        · rw [if_neg h4]; omega
open Classical in
/-- The number that is seen at a block, or -1. -/
noncomputable def numOf (b : ByteArray) (i : Nat) : Int := if 224 ≤ i ∧ isK b ∧ (sbyte b 8).toNat = 1 then (val (sbyte b) 8 : Int) else -1
noncomputable def seenV (s : ByteArray) (i : Nat) : Value := .agg #[.int .i64 (whatOf i : Int), .int .i64 (idxOf i : Int), .int .i64 (numOf (blk s i) i), .bool ((blk s i).toList == (zerosB 64).toList)]
theorem look_any (s : ByteArray) (i : Nat) (hs : s.size = 18432) (hi : i < 288) (w : World) : Calls Try.prog 19 #[.string s, .int .i64 (i : Int)] w fun e w' => e = .returned (seenV s i) ∧ Below w.heap.size w w' := by
  by_cases hK : isK (blk s i)
  · obtain ⟨k, hk⟩ : ∃ k : Nat, (sbyte (blk s i) 8).toNat = k := ⟨_, rfl⟩
    refine look_core s i hs hi _ _ rfl rfl _ rfl (val (sbyte (blk s i)) 8 : Int) (k : Int) 0 (fun W => kind_yes _ hK k hk W) _ w ?_
    unfold numOf
    by_cases h4 : 224 ≤ i
    · by_cases h1 : k = 1
      · rw [if_pos ⟨h4, hK, by omega⟩]
        exact .inr (.inr (.inr ⟨what4.2 h4, rfl, by omega, rfl⟩))
      · rw [if_neg (fun h => h1 (by have := h.2.2; omega))]
        have := hK.2.2.2.1
        exact .inr (.inr (.inl ⟨what4.2 h4, rfl, by omega, rfl⟩))
    · rw [if_neg (fun h => h4 h.1)]
      exact .inl ⟨fun h => h4 (what4.1 h), rfl⟩
  · refine look_core s i hs hi _ _ rfl rfl _ rfl 0 0 6 (fun W => kind_no _ hK W) _ w ?_
    unfold numOf
    rw [if_neg (fun h => hK h.2.1)]
    by_cases h4 : 224 ≤ i
    · exact .inr (.inl ⟨what4.2 h4, rfl, rfl⟩)
    · exact .inl ⟨fun h => h4 (what4.1 h), rfl⟩
end Go.Proofs.Ytmocaabdfiffnaa.Ct
