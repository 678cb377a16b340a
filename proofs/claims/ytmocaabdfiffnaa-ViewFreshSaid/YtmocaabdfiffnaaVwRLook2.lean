/- The contract of the document's look. -/
import Derived.Test.YtmocaabdfiffnaaVwRLook
namespace Go.Proofs.Ytmocaabdfiffnaa.Ct
open Go.RowKit Go.Proofs.Ytmocaabdfiffnaa.W
set_option linter.unusedVariables false
set_option linter.unusedSimpArgs false
set_option maxRecDepth 100000 in
theorem rlook_0 (s : ByteArray) (i : Nat) (hs : s.size = 18432) (hi : i < 288) (z : Bool) (hz : ((blk s i).toList == (zerosB 64).toList) = z) (w : World) (b : ByteArray) (hb : blk s i = b) (h1 : i < 1) : Calls Try.prog 12 #[.string s, .int .i64 (i : Int)] w fun e w' => e = .returned (.agg #[.int .i64 0, .int .i64 0, .int .i64 (-1), .bool z]) ∧ Below w.heap.size w w' := by
  have HB := hide (fun W => rblock_any s i hs hi W)
  have HZ := hide (show ∀ W : World, Calls Try.prog 20 #[.int .i64 64] W fun e w' => e = .returned (.string (zerosB 64)) ∧ Below W.heap.size W w' from fun W => zeros_any 64 (by omega) W)
  rw [hb] at HB hz
  have t1 : decide ((1 : Int) ≤ (i : Int)) = false := by simp; omega
  have u1 : decide (1 ≤ i) = false := by simp; omega
  have t81 : decide ((81 : Int) ≤ (i : Int)) = false := by simp; omega
  have u81 : decide (81 ≤ i) = false := by simp; omega
  have t161 : decide ((161 : Int) ≤ (i : Int)) = false := by simp; omega
  have u161 : decide (161 ≤ i) = false := by simp; omega
  have t224 : decide ((224 : Int) ≤ (i : Int)) = false := by simp; omega
  have u224 : decide (224 ≤ i) = false := by simp; omega
  clear hs hi hb h1
  go_enter Try.func12, Try.ntmps12
  go_upto_region 3 with (first
    | (go_at_call 8; (with_reducible refine (HB.out _).mono ?_); rintro e w1 ⟨rfl, hb⟩; subst w1)
    | (go_at_call 20; (with_reducible refine (HZ.out _).mono ?_); rintro e w2 ⟨rfl, hb⟩; have HB2 := hide hb; clear hb))
  have k0 : Blk (w2.alloc (.cells #[.int .i64 0, .int .i64 0, .int .i64 (-1), .bool z] 40)) w.heap.size 40 #[.int .i64 0, .int .i64 0, .int .i64 0, .bool false] := (W.later HB2.out (Blk.newAt w 40 _ _ rfl)).alloc _
  have k6 : Blk (w2.alloc (.cells #[.int .i64 0, .int .i64 0, .int .i64 (-1), .bool z] 40)) w2.heap.size 40 #[.int .i64 0, .int .i64 0, .int .i64 (-1), .bool z] := Blk.newAt w2 _ _ _ rfl
  have hlt : w.heap.size < w2.heap.size := by have := HB2.out.size; simp at this; omega
  have kb : Below w.heap.size w (w2.alloc (.cells #[.int .i64 0, .int .i64 0, .int .i64 (-1), .bool z] 40)) := ((((Below.refl w.heap.size w).alloc (Nat.le_refl _) _).trans (HB2.out.mono (by simp)))).alloc (Nat.le_of_lt hlt) _
  obtain ⟨g, hg⟩ : ∃ g, w2.heap.size = g := ⟨_, rfl⟩
  rw [hg] at k6 hlt
  simp only [hg]
  generalize w2.alloc (.cells #[.int .i64 0, .int .i64 0, .int .i64 (-1), .bool z] 40) = W3 at k0 k6 kb ⊢
  clear hg HB2 HB HZ
  have HLT := hide hlt
  clear hlt
  have d0 : W3.cell? ⟨g, 0, none⟩ = some (.int .i64 0) := k6.cell 0
  have d1 : W3.cell? ⟨g, 1, none⟩ = some (.int .i64 0) := k6.cell 1
  have d2 : W3.cell? ⟨g, 2, none⟩ = some (.int .i64 (-1)) := k6.cell 2
  have d3 : W3.cell? ⟨g, 3, none⟩ = some (.bool z) := k6.cell 3
  have g1 := k6.lt
  have e0 : W3.cell? ⟨w.heap.size, 0, none⟩ = some (.int .i64 0) := k0.cell 0
  have e1 : W3.cell? ⟨w.heap.size, 1, none⟩ = some (.int .i64 0) := k0.cell 1
  have e2 : W3.cell? ⟨w.heap.size, 2, none⟩ = some (.int .i64 0) := k0.cell 2
  have e3 : W3.cell? ⟨w.heap.size, 3, none⟩ = some (.bool false) := k0.cell 3
  have z0 := k0.frozen 0
  have z1 := k0.frozen 1
  have z2 := k0.frozen 2
  have z3 := k0.frozen 3
  have g2 := k0.lt
  have K6 := hide k6
  have K0 := hide k0
  have KB := hide kb
  clear k6 k0 kb
  go_wp2_with fail
  have hm := ((((K0.out.set_ 0 (.int .i64 0)).set_ 1 (.int .i64 0)).set_ 2 (.int .i64 (-1))).set_ 3 (.bool z))
  have hbf := ((((KB.out.setCell (p := ⟨w.heap.size, 0, none⟩) (Nat.le_refl _) (.int .i64 0)).setCell (p := ⟨w.heap.size, 1, none⟩) (Nat.le_refl _) (.int .i64 0)).setCell (p := ⟨w.heap.size, 2, none⟩) (Nat.le_refl _) (.int .i64 (-1))).setCell (p := ⟨w.heap.size, 3, none⟩) (Nat.le_refl _) (.bool z))
  exact bodyPost_ret (results_cell_row rfl _ _ w.heap.size 40 #[.int .i64 0, .int .i64 0, .int .i64 (-1), .bool z] (0, 0) _ rfl hm Try.underlying40 rfl (by kernel_rfl)) rfl ⟨rfl, hbf⟩
set_option maxRecDepth 100000 in
theorem rlook_1 (s : ByteArray) (i : Nat) (hs : s.size = 18432) (hi : i < 288) (z : Bool) (hz : ((blk s i).toList == (zerosB 64).toList) = z) (w : World) (b : ByteArray) (hb : blk s i = b) (h1 : 1 ≤ i) (h2 : i < 81) : Calls Try.prog 12 #[.string s, .int .i64 (i : Int)] w fun e w' => e = .returned (.agg #[.int .i64 1, .int .i64 (((i - 1 : Nat)) : Int), .int .i64 (-1), .bool z]) ∧ Below w.heap.size w w' := by
  have HB := hide (fun W => rblock_any s i hs hi W)
  have HZ := hide (show ∀ W : World, Calls Try.prog 20 #[.int .i64 64] W fun e w' => e = .returned (.string (zerosB 64)) ∧ Below W.heap.size W w' from fun W => zeros_any 64 (by omega) W)
  rw [hb] at HB hz
  have t1 : (1 : Int) ≤ (i : Int) := by omega
  have t81 : decide ((81 : Int) ≤ (i : Int)) = false := by simp; omega
  have u81 : decide (81 ≤ i) = false := by simp; omega
  have t161 : decide ((161 : Int) ≤ (i : Int)) = false := by simp; omega
  have u161 : decide (161 ≤ i) = false := by simp; omega
  have t224 : decide ((224 : Int) ≤ (i : Int)) = false := by simp; omega
  have u224 : decide (224 ≤ i) = false := by simp; omega
  have v81 : (i : Int) < 81 := by omega
  obtain ⟨x, hx⟩ : ∃ x : Nat, i - 1 = x := ⟨_, rfl⟩
  rw [hx]
  have ex : IntKind.i64.wrap ((i : Int) - 1) = (x : Int) := by rw [show (i : Int) - 1 = (x : Int) by omega]; exact IntWalk.i64_in _ (by omega)
  clear hs hi hb h1 h2 hx
  go_enter Try.func12, Try.ntmps12
  go_upto_region 3 with (first
    | (go_at_call 8; (with_reducible refine (HB.out _).mono ?_); rintro e w1 ⟨rfl, hb⟩; subst w1)
    | (go_at_call 20; (with_reducible refine (HZ.out _).mono ?_); rintro e w2 ⟨rfl, hb⟩; have HB2 := hide hb; clear hb))
  have k0 : Blk (w2.alloc (.cells #[.int .i64 0, .int .i64 0, .int .i64 (-1), .bool z] 40)) w.heap.size 40 #[.int .i64 0, .int .i64 0, .int .i64 0, .bool false] := (W.later HB2.out (Blk.newAt w 40 _ _ rfl)).alloc _
  have k6 : Blk (w2.alloc (.cells #[.int .i64 0, .int .i64 0, .int .i64 (-1), .bool z] 40)) w2.heap.size 40 #[.int .i64 0, .int .i64 0, .int .i64 (-1), .bool z] := Blk.newAt w2 _ _ _ rfl
  have hlt : w.heap.size < w2.heap.size := by have := HB2.out.size; simp at this; omega
  have kb : Below w.heap.size w (w2.alloc (.cells #[.int .i64 0, .int .i64 0, .int .i64 (-1), .bool z] 40)) := ((((Below.refl w.heap.size w).alloc (Nat.le_refl _) _).trans (HB2.out.mono (by simp)))).alloc (Nat.le_of_lt hlt) _
  obtain ⟨g, hg⟩ : ∃ g, w2.heap.size = g := ⟨_, rfl⟩
  rw [hg] at k6 hlt
  simp only [hg]
  generalize w2.alloc (.cells #[.int .i64 0, .int .i64 0, .int .i64 (-1), .bool z] 40) = W3 at k0 k6 kb ⊢
  clear hg HB2 HB HZ
  have HLT := hide hlt
  clear hlt
  have d0 : W3.cell? ⟨g, 0, none⟩ = some (.int .i64 0) := k6.cell 0
  have d1 : W3.cell? ⟨g, 1, none⟩ = some (.int .i64 0) := k6.cell 1
  have d2 : W3.cell? ⟨g, 2, none⟩ = some (.int .i64 (-1)) := k6.cell 2
  have d3 : W3.cell? ⟨g, 3, none⟩ = some (.bool z) := k6.cell 3
  have f0 := k6.frozen 0
  have f1 := k6.frozen 1
  have f2 := k6.frozen 2
  have f3 := k6.frozen 3
  have g1 := k6.lt
  have K6 := hide k6
  have K0 := hide k0
  have KB := hide kb
  clear k6 k0 kb
  go_upto_region 18 with fail
  clear d0 d1 d2 d3 f0 f1 f2 f3 g1
  have k6 : Blk ((W3.setCell ⟨g, 0, none⟩ (.int .i64 1)).setCell ⟨g, 1, none⟩ (.int .i64 (x : Int))) g 40 #[.int .i64 1, .int .i64 (x : Int), .int .i64 (-1), .bool z] := (K6.out.set_ 0 _).set_ 1 _
  have k0 : Blk ((W3.setCell ⟨g, 0, none⟩ (.int .i64 1)).setCell ⟨g, 1, none⟩ (.int .i64 (x : Int))) w.heap.size 40 #[.int .i64 0, .int .i64 0, .int .i64 0, .bool false] := (K0.out.far (by have := HLT.out; simp; omega) _).far (by have := HLT.out; simp; omega) _
  have kb : Below w.heap.size w ((W3.setCell ⟨g, 0, none⟩ (.int .i64 1)).setCell ⟨g, 1, none⟩ (.int .i64 (x : Int))) := (KB.out.setCell (by have := HLT.out; simp; omega) _).setCell (by have := HLT.out; simp; omega) _
  generalize ((W3.setCell ⟨g, 0, none⟩ (.int .i64 1)).setCell ⟨g, 1, none⟩ (.int .i64 (x : Int))) = W4 at k6 k0 kb ⊢
  have d0 : W4.cell? ⟨g, 0, none⟩ = some (.int .i64 1) := k6.cell 0
  have d1 : W4.cell? ⟨g, 1, none⟩ = some (.int .i64 (x : Int)) := k6.cell 1
  have d2 : W4.cell? ⟨g, 2, none⟩ = some (.int .i64 (-1)) := k6.cell 2
  have d3 : W4.cell? ⟨g, 3, none⟩ = some (.bool z) := k6.cell 3
  have g1 := k6.lt
  have e0 : W4.cell? ⟨w.heap.size, 0, none⟩ = some (.int .i64 0) := k0.cell 0
  have e1 : W4.cell? ⟨w.heap.size, 1, none⟩ = some (.int .i64 0) := k0.cell 1
  have e2 : W4.cell? ⟨w.heap.size, 2, none⟩ = some (.int .i64 0) := k0.cell 2
  have e3 : W4.cell? ⟨w.heap.size, 3, none⟩ = some (.bool false) := k0.cell 3
  have z0 := k0.frozen 0
  have z1 := k0.frozen 1
  have z2 := k0.frozen 2
  have z3 := k0.frozen 3
  have g2 := k0.lt
  have K6 := hide k6
  have K0 := hide k0
  have KB := hide kb
  clear k6 k0 kb
  go_wp2_with fail
  have hm := ((((K0.out.set_ 0 (.int .i64 1)).set_ 1 (.int .i64 (x : Int))).set_ 2 (.int .i64 (-1))).set_ 3 (.bool z))
  have hbf := ((((KB.out.setCell (p := ⟨w.heap.size, 0, none⟩) (Nat.le_refl _) (.int .i64 1)).setCell (p := ⟨w.heap.size, 1, none⟩) (Nat.le_refl _) (.int .i64 (x : Int))).setCell (p := ⟨w.heap.size, 2, none⟩) (Nat.le_refl _) (.int .i64 (-1))).setCell (p := ⟨w.heap.size, 3, none⟩) (Nat.le_refl _) (.bool z))
  exact bodyPost_ret (results_cell_row rfl _ _ w.heap.size 40 #[.int .i64 1, .int .i64 (x : Int), .int .i64 (-1), .bool z] (0, 0) _ rfl hm Try.underlying40 rfl (by kernel_rfl)) rfl ⟨rfl, hbf⟩
set_option maxRecDepth 100000 in
theorem rlook_2 (s : ByteArray) (i : Nat) (hs : s.size = 18432) (hi : i < 288) (z : Bool) (hz : ((blk s i).toList == (zerosB 64).toList) = z) (w : World) (b : ByteArray) (hb : blk s i = b) (h1 : 81 ≤ i) (h2 : i < 161) : Calls Try.prog 12 #[.string s, .int .i64 (i : Int)] w fun e w' => e = .returned (.agg #[.int .i64 2, .int .i64 (((i - 81 : Nat)) : Int), .int .i64 (-1), .bool z]) ∧ Below w.heap.size w w' := by
  have HB := hide (fun W => rblock_any s i hs hi W)
  have HZ := hide (show ∀ W : World, Calls Try.prog 20 #[.int .i64 64] W fun e w' => e = .returned (.string (zerosB 64)) ∧ Below W.heap.size W w' from fun W => zeros_any 64 (by omega) W)
  rw [hb] at HB hz
  have t1 : (1 : Int) ≤ (i : Int) := by omega
  have t81 : (81 : Int) ≤ (i : Int) := by omega
  have t161 : decide ((161 : Int) ≤ (i : Int)) = false := by simp; omega
  have u161 : decide (161 ≤ i) = false := by simp; omega
  have t224 : decide ((224 : Int) ≤ (i : Int)) = false := by simp; omega
  have u224 : decide (224 ≤ i) = false := by simp; omega
  have v81 : decide ((i : Int) < 81) = false := by simp; omega
  have y81 : decide (i < 81) = false := by simp; omega
  have v161 : (i : Int) < 161 := by omega
  obtain ⟨x, hx⟩ : ∃ x : Nat, i - 81 = x := ⟨_, rfl⟩
  rw [hx]
  have ex : IntKind.i64.wrap ((i : Int) - 81) = (x : Int) := by rw [show (i : Int) - 81 = (x : Int) by omega]; exact IntWalk.i64_in _ (by omega)
  clear hs hi hb h1 h2 hx
  go_enter Try.func12, Try.ntmps12
  go_upto_region 3 with (first
    | (go_at_call 8; (with_reducible refine (HB.out _).mono ?_); rintro e w1 ⟨rfl, hb⟩; subst w1)
    | (go_at_call 20; (with_reducible refine (HZ.out _).mono ?_); rintro e w2 ⟨rfl, hb⟩; have HB2 := hide hb; clear hb))
  have k0 : Blk (w2.alloc (.cells #[.int .i64 0, .int .i64 0, .int .i64 (-1), .bool z] 40)) w.heap.size 40 #[.int .i64 0, .int .i64 0, .int .i64 0, .bool false] := (W.later HB2.out (Blk.newAt w 40 _ _ rfl)).alloc _
  have k6 : Blk (w2.alloc (.cells #[.int .i64 0, .int .i64 0, .int .i64 (-1), .bool z] 40)) w2.heap.size 40 #[.int .i64 0, .int .i64 0, .int .i64 (-1), .bool z] := Blk.newAt w2 _ _ _ rfl
  have hlt : w.heap.size < w2.heap.size := by have := HB2.out.size; simp at this; omega
  have kb : Below w.heap.size w (w2.alloc (.cells #[.int .i64 0, .int .i64 0, .int .i64 (-1), .bool z] 40)) := ((((Below.refl w.heap.size w).alloc (Nat.le_refl _) _).trans (HB2.out.mono (by simp)))).alloc (Nat.le_of_lt hlt) _
  obtain ⟨g, hg⟩ : ∃ g, w2.heap.size = g := ⟨_, rfl⟩
  rw [hg] at k6 hlt
  simp only [hg]
  generalize w2.alloc (.cells #[.int .i64 0, .int .i64 0, .int .i64 (-1), .bool z] 40) = W3 at k0 k6 kb ⊢
  clear hg HB2 HB HZ
  have HLT := hide hlt
  clear hlt
  have d0 : W3.cell? ⟨g, 0, none⟩ = some (.int .i64 0) := k6.cell 0
  have d1 : W3.cell? ⟨g, 1, none⟩ = some (.int .i64 0) := k6.cell 1
  have d2 : W3.cell? ⟨g, 2, none⟩ = some (.int .i64 (-1)) := k6.cell 2
  have d3 : W3.cell? ⟨g, 3, none⟩ = some (.bool z) := k6.cell 3
  have f0 := k6.frozen 0
  have f1 := k6.frozen 1
  have f2 := k6.frozen 2
  have f3 := k6.frozen 3
  have g1 := k6.lt
  have K6 := hide k6
  have K0 := hide k0
  have KB := hide kb
  clear k6 k0 kb
  go_upto_region 18 with fail
  clear d0 d1 d2 d3 f0 f1 f2 f3 g1
  have k6 : Blk ((W3.setCell ⟨g, 0, none⟩ (.int .i64 2)).setCell ⟨g, 1, none⟩ (.int .i64 (x : Int))) g 40 #[.int .i64 2, .int .i64 (x : Int), .int .i64 (-1), .bool z] := (K6.out.set_ 0 _).set_ 1 _
  have k0 : Blk ((W3.setCell ⟨g, 0, none⟩ (.int .i64 2)).setCell ⟨g, 1, none⟩ (.int .i64 (x : Int))) w.heap.size 40 #[.int .i64 0, .int .i64 0, .int .i64 0, .bool false] := (K0.out.far (by have := HLT.out; simp; omega) _).far (by have := HLT.out; simp; omega) _
  have kb : Below w.heap.size w ((W3.setCell ⟨g, 0, none⟩ (.int .i64 2)).setCell ⟨g, 1, none⟩ (.int .i64 (x : Int))) := (KB.out.setCell (by have := HLT.out; simp; omega) _).setCell (by have := HLT.out; simp; omega) _
  generalize ((W3.setCell ⟨g, 0, none⟩ (.int .i64 2)).setCell ⟨g, 1, none⟩ (.int .i64 (x : Int))) = W4 at k6 k0 kb ⊢
  have d0 : W4.cell? ⟨g, 0, none⟩ = some (.int .i64 2) := k6.cell 0
  have d1 : W4.cell? ⟨g, 1, none⟩ = some (.int .i64 (x : Int)) := k6.cell 1
  have d2 : W4.cell? ⟨g, 2, none⟩ = some (.int .i64 (-1)) := k6.cell 2
  have d3 : W4.cell? ⟨g, 3, none⟩ = some (.bool z) := k6.cell 3
  have g1 := k6.lt
  have e0 : W4.cell? ⟨w.heap.size, 0, none⟩ = some (.int .i64 0) := k0.cell 0
  have e1 : W4.cell? ⟨w.heap.size, 1, none⟩ = some (.int .i64 0) := k0.cell 1
  have e2 : W4.cell? ⟨w.heap.size, 2, none⟩ = some (.int .i64 0) := k0.cell 2
  have e3 : W4.cell? ⟨w.heap.size, 3, none⟩ = some (.bool false) := k0.cell 3
  have z0 := k0.frozen 0
  have z1 := k0.frozen 1
  have z2 := k0.frozen 2
  have z3 := k0.frozen 3
  have g2 := k0.lt
  have K6 := hide k6
  have K0 := hide k0
  have KB := hide kb
  clear k6 k0 kb
  go_wp2_with fail
  have hm := ((((K0.out.set_ 0 (.int .i64 2)).set_ 1 (.int .i64 (x : Int))).set_ 2 (.int .i64 (-1))).set_ 3 (.bool z))
  have hbf := ((((KB.out.setCell (p := ⟨w.heap.size, 0, none⟩) (Nat.le_refl _) (.int .i64 2)).setCell (p := ⟨w.heap.size, 1, none⟩) (Nat.le_refl _) (.int .i64 (x : Int))).setCell (p := ⟨w.heap.size, 2, none⟩) (Nat.le_refl _) (.int .i64 (-1))).setCell (p := ⟨w.heap.size, 3, none⟩) (Nat.le_refl _) (.bool z))
  exact bodyPost_ret (results_cell_row rfl _ _ w.heap.size 40 #[.int .i64 2, .int .i64 (x : Int), .int .i64 (-1), .bool z] (0, 0) _ rfl hm Try.underlying40 rfl (by kernel_rfl)) rfl ⟨rfl, hbf⟩
set_option maxRecDepth 100000 in
theorem rlook_3 (s : ByteArray) (i : Nat) (hs : s.size = 18432) (hi : i < 288) (z : Bool) (hz : ((blk s i).toList == (zerosB 64).toList) = z) (w : World) (b : ByteArray) (hb : blk s i = b) (h1 : 161 ≤ i) (h2 : i < 224) : Calls Try.prog 12 #[.string s, .int .i64 (i : Int)] w fun e w' => e = .returned (.agg #[.int .i64 3, .int .i64 (((i - 161 : Nat)) : Int), .int .i64 (-1), .bool z]) ∧ Below w.heap.size w w' := by
  have HB := hide (fun W => rblock_any s i hs hi W)
  have HZ := hide (show ∀ W : World, Calls Try.prog 20 #[.int .i64 64] W fun e w' => e = .returned (.string (zerosB 64)) ∧ Below W.heap.size W w' from fun W => zeros_any 64 (by omega) W)
  rw [hb] at HB hz
  have t1 : (1 : Int) ≤ (i : Int) := by omega
  have t81 : (81 : Int) ≤ (i : Int) := by omega
  have t161 : (161 : Int) ≤ (i : Int) := by omega
  have t224 : decide ((224 : Int) ≤ (i : Int)) = false := by simp; omega
  have u224 : decide (224 ≤ i) = false := by simp; omega
  have v81 : decide ((i : Int) < 81) = false := by simp; omega
  have y81 : decide (i < 81) = false := by simp; omega
  have v161 : decide ((i : Int) < 161) = false := by simp; omega
  have y161 : decide (i < 161) = false := by simp; omega
  have v224 : (i : Int) < 224 := by omega
  obtain ⟨x, hx⟩ : ∃ x : Nat, i - 161 = x := ⟨_, rfl⟩
  rw [hx]
  have ex : IntKind.i64.wrap ((i : Int) - 161) = (x : Int) := by rw [show (i : Int) - 161 = (x : Int) by omega]; exact IntWalk.i64_in _ (by omega)
  clear hs hi hb h1 h2 hx
  go_enter Try.func12, Try.ntmps12
  go_upto_region 3 with (first
    | (go_at_call 8; (with_reducible refine (HB.out _).mono ?_); rintro e w1 ⟨rfl, hb⟩; subst w1)
    | (go_at_call 20; (with_reducible refine (HZ.out _).mono ?_); rintro e w2 ⟨rfl, hb⟩; have HB2 := hide hb; clear hb))
  have k0 : Blk (w2.alloc (.cells #[.int .i64 0, .int .i64 0, .int .i64 (-1), .bool z] 40)) w.heap.size 40 #[.int .i64 0, .int .i64 0, .int .i64 0, .bool false] := (W.later HB2.out (Blk.newAt w 40 _ _ rfl)).alloc _
  have k6 : Blk (w2.alloc (.cells #[.int .i64 0, .int .i64 0, .int .i64 (-1), .bool z] 40)) w2.heap.size 40 #[.int .i64 0, .int .i64 0, .int .i64 (-1), .bool z] := Blk.newAt w2 _ _ _ rfl
  have hlt : w.heap.size < w2.heap.size := by have := HB2.out.size; simp at this; omega
  have kb : Below w.heap.size w (w2.alloc (.cells #[.int .i64 0, .int .i64 0, .int .i64 (-1), .bool z] 40)) := ((((Below.refl w.heap.size w).alloc (Nat.le_refl _) _).trans (HB2.out.mono (by simp)))).alloc (Nat.le_of_lt hlt) _
  obtain ⟨g, hg⟩ : ∃ g, w2.heap.size = g := ⟨_, rfl⟩
  rw [hg] at k6 hlt
  simp only [hg]
  generalize w2.alloc (.cells #[.int .i64 0, .int .i64 0, .int .i64 (-1), .bool z] 40) = W3 at k0 k6 kb ⊢
  clear hg HB2 HB HZ
  have HLT := hide hlt
  clear hlt
  have d0 : W3.cell? ⟨g, 0, none⟩ = some (.int .i64 0) := k6.cell 0
  have d1 : W3.cell? ⟨g, 1, none⟩ = some (.int .i64 0) := k6.cell 1
  have d2 : W3.cell? ⟨g, 2, none⟩ = some (.int .i64 (-1)) := k6.cell 2
  have d3 : W3.cell? ⟨g, 3, none⟩ = some (.bool z) := k6.cell 3
  have f0 := k6.frozen 0
  have f1 := k6.frozen 1
  have f2 := k6.frozen 2
  have f3 := k6.frozen 3
  have g1 := k6.lt
  have K6 := hide k6
  have K0 := hide k0
  have KB := hide kb
  clear k6 k0 kb
  go_upto_region 18 with fail
  clear d0 d1 d2 d3 f0 f1 f2 f3 g1
  have k6 : Blk ((W3.setCell ⟨g, 0, none⟩ (.int .i64 3)).setCell ⟨g, 1, none⟩ (.int .i64 (x : Int))) g 40 #[.int .i64 3, .int .i64 (x : Int), .int .i64 (-1), .bool z] := (K6.out.set_ 0 _).set_ 1 _
  have k0 : Blk ((W3.setCell ⟨g, 0, none⟩ (.int .i64 3)).setCell ⟨g, 1, none⟩ (.int .i64 (x : Int))) w.heap.size 40 #[.int .i64 0, .int .i64 0, .int .i64 0, .bool false] := (K0.out.far (by have := HLT.out; simp; omega) _).far (by have := HLT.out; simp; omega) _
  have kb : Below w.heap.size w ((W3.setCell ⟨g, 0, none⟩ (.int .i64 3)).setCell ⟨g, 1, none⟩ (.int .i64 (x : Int))) := (KB.out.setCell (by have := HLT.out; simp; omega) _).setCell (by have := HLT.out; simp; omega) _
  generalize ((W3.setCell ⟨g, 0, none⟩ (.int .i64 3)).setCell ⟨g, 1, none⟩ (.int .i64 (x : Int))) = W4 at k6 k0 kb ⊢
  have d0 : W4.cell? ⟨g, 0, none⟩ = some (.int .i64 3) := k6.cell 0
  have d1 : W4.cell? ⟨g, 1, none⟩ = some (.int .i64 (x : Int)) := k6.cell 1
  have d2 : W4.cell? ⟨g, 2, none⟩ = some (.int .i64 (-1)) := k6.cell 2
  have d3 : W4.cell? ⟨g, 3, none⟩ = some (.bool z) := k6.cell 3
  have g1 := k6.lt
  have e0 : W4.cell? ⟨w.heap.size, 0, none⟩ = some (.int .i64 0) := k0.cell 0
  have e1 : W4.cell? ⟨w.heap.size, 1, none⟩ = some (.int .i64 0) := k0.cell 1
  have e2 : W4.cell? ⟨w.heap.size, 2, none⟩ = some (.int .i64 0) := k0.cell 2
  have e3 : W4.cell? ⟨w.heap.size, 3, none⟩ = some (.bool false) := k0.cell 3
  have z0 := k0.frozen 0
  have z1 := k0.frozen 1
  have z2 := k0.frozen 2
  have z3 := k0.frozen 3
  have g2 := k0.lt
  have K6 := hide k6
  have K0 := hide k0
  have KB := hide kb
  clear k6 k0 kb
  go_wp2_with fail
  have hm := ((((K0.out.set_ 0 (.int .i64 3)).set_ 1 (.int .i64 (x : Int))).set_ 2 (.int .i64 (-1))).set_ 3 (.bool z))
  have hbf := ((((KB.out.setCell (p := ⟨w.heap.size, 0, none⟩) (Nat.le_refl _) (.int .i64 3)).setCell (p := ⟨w.heap.size, 1, none⟩) (Nat.le_refl _) (.int .i64 (x : Int))).setCell (p := ⟨w.heap.size, 2, none⟩) (Nat.le_refl _) (.int .i64 (-1))).setCell (p := ⟨w.heap.size, 3, none⟩) (Nat.le_refl _) (.bool z))
  exact bodyPost_ret (results_cell_row rfl _ _ w.heap.size 40 #[.int .i64 3, .int .i64 (x : Int), .int .i64 (-1), .bool z] (0, 0) _ rfl hm Try.underlying40 rfl (by kernel_rfl)) rfl ⟨rfl, hbf⟩
set_option maxRecDepth 100000 in
theorem rlook_4 (s : ByteArray) (i : Nat) (hs : s.size = 18432) (hi : i < 288) (z : Bool) (hz : ((blk s i).toList == (zerosB 64).toList) = z) (w : World) (b : ByteArray) (hb : blk s i = b) (h1 : 224 ≤ i) (kn kk : Int) (ke : Bool)
    (hk : ∀ W, Calls Try.prog 21 #[.string b] W fun e w' => e = .returned (.tuple #[.int .i64 kn, .int .i64 kk, .bool ke]) ∧ Below W.heap.size W w')
    (num : Int) (hc : (ke = false ∧ num = -1) ∨ (ke = true ∧ kk = 2 ∧ num = -1) ∨ (ke = true ∧ kk = 1 ∧ num = kn)) : Calls Try.prog 12 #[.string s, .int .i64 (i : Int)] w fun e w' => e = .returned (.agg #[.int .i64 4, .int .i64 (((i - 224 : Nat)) : Int), .int .i64 num, .bool z]) ∧ Below w.heap.size w w' := by
  have HB := hide (fun W => rblock_any s i hs hi W)
  have HZ := hide (show ∀ W : World, Calls Try.prog 20 #[.int .i64 64] W fun e w' => e = .returned (.string (zerosB 64)) ∧ Below W.heap.size W w' from fun W => zeros_any 64 (by omega) W)
  rw [hb] at HB hz
  have t1 : (1 : Int) ≤ (i : Int) := by omega
  have t81 : (81 : Int) ≤ (i : Int) := by omega
  have t161 : (161 : Int) ≤ (i : Int) := by omega
  have t224 : (224 : Int) ≤ (i : Int) := by omega
  have v81 : decide ((i : Int) < 81) = false := by simp; omega
  have y81 : decide (i < 81) = false := by simp; omega
  have v161 : decide ((i : Int) < 161) = false := by simp; omega
  have y161 : decide (i < 161) = false := by simp; omega
  have v224 : decide ((i : Int) < 224) = false := by simp; omega
  have y224 : decide (i < 224) = false := by simp; omega
  obtain ⟨x, hx⟩ : ∃ x : Nat, i - 224 = x := ⟨_, rfl⟩
  rw [hx]
  have ex : IntKind.i64.wrap ((i : Int) - 224) = (x : Int) := by rw [show (i : Int) - 224 = (x : Int) by omega]; exact IntWalk.i64_in _ (by omega)
  clear hs hi hb h1 hx
  have HK := hide hk
  clear hk
  go_enter Try.func12, Try.ntmps12
  go_upto_region 3 with (first
    | (go_at_call 8; (with_reducible refine (HB.out _).mono ?_); rintro e w1 ⟨rfl, hb⟩; subst w1)
    | (go_at_call 20; (with_reducible refine (HZ.out _).mono ?_); rintro e w2 ⟨rfl, hb⟩; have HB2 := hide hb; clear hb))
  have k0 : Blk (w2.alloc (.cells #[.int .i64 0, .int .i64 0, .int .i64 (-1), .bool z] 40)) w.heap.size 40 #[.int .i64 0, .int .i64 0, .int .i64 0, .bool false] := (W.later HB2.out (Blk.newAt w 40 _ _ rfl)).alloc _
  have k6 : Blk (w2.alloc (.cells #[.int .i64 0, .int .i64 0, .int .i64 (-1), .bool z] 40)) w2.heap.size 40 #[.int .i64 0, .int .i64 0, .int .i64 (-1), .bool z] := Blk.newAt w2 _ _ _ rfl
  have hlt : w.heap.size < w2.heap.size := by have := HB2.out.size; simp at this; omega
  have kb : Below w.heap.size w (w2.alloc (.cells #[.int .i64 0, .int .i64 0, .int .i64 (-1), .bool z] 40)) := ((((Below.refl w.heap.size w).alloc (Nat.le_refl _) _).trans (HB2.out.mono (by simp)))).alloc (Nat.le_of_lt hlt) _
  obtain ⟨g, hg⟩ : ∃ g, w2.heap.size = g := ⟨_, rfl⟩
  rw [hg] at k6 hlt
  simp only [hg]
  generalize w2.alloc (.cells #[.int .i64 0, .int .i64 0, .int .i64 (-1), .bool z] 40) = W3 at k0 k6 kb ⊢
  clear hg HB2 HB HZ
  have HLT := hide hlt
  clear hlt
  have d0 : W3.cell? ⟨g, 0, none⟩ = some (.int .i64 0) := k6.cell 0
  have d1 : W3.cell? ⟨g, 1, none⟩ = some (.int .i64 0) := k6.cell 1
  have d2 : W3.cell? ⟨g, 2, none⟩ = some (.int .i64 (-1)) := k6.cell 2
  have d3 : W3.cell? ⟨g, 3, none⟩ = some (.bool z) := k6.cell 3
  have f0 := k6.frozen 0
  have f1 := k6.frozen 1
  have f2 := k6.frozen 2
  have f3 := k6.frozen 3
  have g1 := k6.lt
  have K6 := hide k6
  have K0 := hide k0
  have KB := hide kb
  clear k6 k0 kb
  go_upto_region 15 with fail
  clear d0 d1 d2 d3 f0 f1 f2 f3 g1
  have k6 : Blk ((W3.setCell ⟨g, 0, none⟩ (.int .i64 4)).setCell ⟨g, 1, none⟩ (.int .i64 (x : Int))) g 40 #[.int .i64 4, .int .i64 (x : Int), .int .i64 (-1), .bool z] := (K6.out.set_ 0 _).set_ 1 _
  have k0 : Blk ((W3.setCell ⟨g, 0, none⟩ (.int .i64 4)).setCell ⟨g, 1, none⟩ (.int .i64 (x : Int))) w.heap.size 40 #[.int .i64 0, .int .i64 0, .int .i64 0, .bool false] := (K0.out.far (by have := HLT.out; simp; omega) _).far (by have := HLT.out; simp; omega) _
  have kb : Below w.heap.size w ((W3.setCell ⟨g, 0, none⟩ (.int .i64 4)).setCell ⟨g, 1, none⟩ (.int .i64 (x : Int))) := (KB.out.setCell (by have := HLT.out; simp; omega) _).setCell (by have := HLT.out; simp; omega) _
  generalize ((W3.setCell ⟨g, 0, none⟩ (.int .i64 4)).setCell ⟨g, 1, none⟩ (.int .i64 (x : Int))) = W4 at k6 k0 kb ⊢
  have HX6 := hide k6
  have HX0 := hide k0
  have HB2 := hide kb
  clear k6 k0 kb K6 K0 KB
  go_upto_region 16 with (first
    | (go_at_call 21; (with_reducible refine (HK.out _).mono ?_); rintro e w3 ⟨rfl, hb⟩; (have b6 := W.later hb HX6.out); (have b0 := W.later hb HX0.out); (have hb3 := HB2.out.trans (hb.mono HB2.out.size)); (have KB := hide hb3); (have K6 := hide b6); (have K0 := hide b0); clear hb hb3 b6 b0))
  clear HK HX6 HX0 HB2
  rcases hc with ⟨rfl, rfl⟩ | ⟨rfl, rfl, rfl⟩ | ⟨rfl, rfl, rfl⟩
  · skip
    go_upto_region 18 with fail
    have k6 := K6.out
    have k0 := K0.out
    have kb := KB.out
    have d0 : w3.cell? ⟨g, 0, none⟩ = some (.int .i64 4) := k6.cell 0
    have d1 : w3.cell? ⟨g, 1, none⟩ = some (.int .i64 (x : Int)) := k6.cell 1
    have d2 : w3.cell? ⟨g, 2, none⟩ = some (.int .i64 (-1)) := k6.cell 2
    have d3 : w3.cell? ⟨g, 3, none⟩ = some (.bool z) := k6.cell 3
    have g1 := k6.lt
    have e0 : w3.cell? ⟨w.heap.size, 0, none⟩ = some (.int .i64 0) := k0.cell 0
    have e1 : w3.cell? ⟨w.heap.size, 1, none⟩ = some (.int .i64 0) := k0.cell 1
    have e2 : w3.cell? ⟨w.heap.size, 2, none⟩ = some (.int .i64 0) := k0.cell 2
    have e3 : w3.cell? ⟨w.heap.size, 3, none⟩ = some (.bool false) := k0.cell 3
    have z0 := k0.frozen 0
    have z1 := k0.frozen 1
    have z2 := k0.frozen 2
    have z3 := k0.frozen 3
    have g2 := k0.lt
    have K6 := hide k6
    have K0 := hide k0
    have KB := hide kb
    clear k6 k0 kb
    go_wp2_with fail
    have hm := ((((K0.out.set_ 0 (.int .i64 4)).set_ 1 (.int .i64 (x : Int))).set_ 2 (.int .i64 (-1))).set_ 3 (.bool z))
    have hbf := ((((KB.out.setCell (p := ⟨w.heap.size, 0, none⟩) (Nat.le_refl _) (.int .i64 4)).setCell (p := ⟨w.heap.size, 1, none⟩) (Nat.le_refl _) (.int .i64 (x : Int))).setCell (p := ⟨w.heap.size, 2, none⟩) (Nat.le_refl _) (.int .i64 (-1))).setCell (p := ⟨w.heap.size, 3, none⟩) (Nat.le_refl _) (.bool z))
    exact bodyPost_ret (results_cell_row rfl _ _ w.heap.size 40 #[.int .i64 4, .int .i64 (x : Int), .int .i64 (-1), .bool z] (0, 0) _ rfl hm Try.underlying40 rfl (by kernel_rfl)) rfl ⟨rfl, hbf⟩
  · skip
    go_upto_region 18 with fail
    have k6 := K6.out
    have k0 := K0.out
    have kb := KB.out
    have d0 : w3.cell? ⟨g, 0, none⟩ = some (.int .i64 4) := k6.cell 0
    have d1 : w3.cell? ⟨g, 1, none⟩ = some (.int .i64 (x : Int)) := k6.cell 1
    have d2 : w3.cell? ⟨g, 2, none⟩ = some (.int .i64 (-1)) := k6.cell 2
    have d3 : w3.cell? ⟨g, 3, none⟩ = some (.bool z) := k6.cell 3
    have g1 := k6.lt
    have e0 : w3.cell? ⟨w.heap.size, 0, none⟩ = some (.int .i64 0) := k0.cell 0
    have e1 : w3.cell? ⟨w.heap.size, 1, none⟩ = some (.int .i64 0) := k0.cell 1
    have e2 : w3.cell? ⟨w.heap.size, 2, none⟩ = some (.int .i64 0) := k0.cell 2
    have e3 : w3.cell? ⟨w.heap.size, 3, none⟩ = some (.bool false) := k0.cell 3
    have z0 := k0.frozen 0
    have z1 := k0.frozen 1
    have z2 := k0.frozen 2
    have z3 := k0.frozen 3
    have g2 := k0.lt
    have K6 := hide k6
    have K0 := hide k0
    have KB := hide kb
    clear k6 k0 kb
    go_wp2_with fail
    have hm := ((((K0.out.set_ 0 (.int .i64 4)).set_ 1 (.int .i64 (x : Int))).set_ 2 (.int .i64 (-1))).set_ 3 (.bool z))
    have hbf := ((((KB.out.setCell (p := ⟨w.heap.size, 0, none⟩) (Nat.le_refl _) (.int .i64 4)).setCell (p := ⟨w.heap.size, 1, none⟩) (Nat.le_refl _) (.int .i64 (x : Int))).setCell (p := ⟨w.heap.size, 2, none⟩) (Nat.le_refl _) (.int .i64 (-1))).setCell (p := ⟨w.heap.size, 3, none⟩) (Nat.le_refl _) (.bool z))
    exact bodyPost_ret (results_cell_row rfl _ _ w.heap.size 40 #[.int .i64 4, .int .i64 (x : Int), .int .i64 (-1), .bool z] (0, 0) _ rfl hm Try.underlying40 rfl (by kernel_rfl)) rfl ⟨rfl, hbf⟩
  · skip
    have k6 := K6.out
    have d0 : w3.cell? ⟨g, 0, none⟩ = some (.int .i64 4) := k6.cell 0
    have d1 : w3.cell? ⟨g, 1, none⟩ = some (.int .i64 (x : Int)) := k6.cell 1
    have d2 : w3.cell? ⟨g, 2, none⟩ = some (.int .i64 (-1)) := k6.cell 2
    have d3 : w3.cell? ⟨g, 3, none⟩ = some (.bool z) := k6.cell 3
    have f0 := k6.frozen 0
    have f1 := k6.frozen 1
    have f2 := k6.frozen 2
    have f3 := k6.frozen 3
    have g1 := k6.lt
    clear k6
    go_upto_region 18 with fail
    clear d0 d1 d2 d3 f0 f1 f2 f3 g1
    have k6 : Blk (w3.setCell ⟨g, 2, none⟩ (.int .i64 num)) g 40 #[.int .i64 4, .int .i64 (x : Int), .int .i64 num, .bool z] := K6.out.set_ 2 _
    have k0 : Blk (w3.setCell ⟨g, 2, none⟩ (.int .i64 num)) w.heap.size 40 #[.int .i64 0, .int .i64 0, .int .i64 0, .bool false] := K0.out.far (by have := HLT.out; simp; omega) _
    have kb : Below w.heap.size w (w3.setCell ⟨g, 2, none⟩ (.int .i64 num)) := KB.out.setCell (by have := HLT.out; simp; omega) _
    generalize (w3.setCell ⟨g, 2, none⟩ (.int .i64 num)) = W5 at k6 k0 kb ⊢
    have d0 : W5.cell? ⟨g, 0, none⟩ = some (.int .i64 4) := k6.cell 0
    have d1 : W5.cell? ⟨g, 1, none⟩ = some (.int .i64 (x : Int)) := k6.cell 1
    have d2 : W5.cell? ⟨g, 2, none⟩ = some (.int .i64 num) := k6.cell 2
    have d3 : W5.cell? ⟨g, 3, none⟩ = some (.bool z) := k6.cell 3
    have g1 := k6.lt
    have e0 : W5.cell? ⟨w.heap.size, 0, none⟩ = some (.int .i64 0) := k0.cell 0
    have e1 : W5.cell? ⟨w.heap.size, 1, none⟩ = some (.int .i64 0) := k0.cell 1
    have e2 : W5.cell? ⟨w.heap.size, 2, none⟩ = some (.int .i64 0) := k0.cell 2
    have e3 : W5.cell? ⟨w.heap.size, 3, none⟩ = some (.bool false) := k0.cell 3
    have z0 := k0.frozen 0
    have z1 := k0.frozen 1
    have z2 := k0.frozen 2
    have z3 := k0.frozen 3
    have g2 := k0.lt
    have K6 := hide k6
    have K0 := hide k0
    have KB := hide kb
    clear k6 k0 kb
    go_wp2_with fail
    have hm := ((((K0.out.set_ 0 (.int .i64 4)).set_ 1 (.int .i64 (x : Int))).set_ 2 (.int .i64 num)).set_ 3 (.bool z))
    have hbf := ((((KB.out.setCell (p := ⟨w.heap.size, 0, none⟩) (Nat.le_refl _) (.int .i64 4)).setCell (p := ⟨w.heap.size, 1, none⟩) (Nat.le_refl _) (.int .i64 (x : Int))).setCell (p := ⟨w.heap.size, 2, none⟩) (Nat.le_refl _) (.int .i64 num)).setCell (p := ⟨w.heap.size, 3, none⟩) (Nat.le_refl _) (.bool z))
    exact bodyPost_ret (results_cell_row rfl _ _ w.heap.size 40 #[.int .i64 4, .int .i64 (x : Int), .int .i64 num, .bool z] (0, 0) _ rfl hm Try.underlying40 rfl (by kernel_rfl)) rfl ⟨rfl, hbf⟩
theorem rlook_any (s : ByteArray) (i : Nat) (hs : s.size = 18432) (hi : i < 288) (w : World) : Calls Try.prog 12 #[.string s, .int .i64 (i : Int)] w fun e w' => e = .returned (seenV s i) ∧ Below w.heap.size w w' := by
  unfold seenV whatOf idxOf
  by_cases h1 : i < 1
  · have hn : numOf (blk s i) i = -1 := if_neg (fun h => by omega)
    rw [if_pos h1, if_pos h1, hn]
    exact rlook_0 s i hs hi _ rfl w _ rfl h1
  rw [if_neg h1, if_neg h1]
  by_cases h2 : i < 81
  · have hn : numOf (blk s i) i = -1 := if_neg (fun h => by omega)
    rw [if_pos h2, if_pos h2, hn]
    exact rlook_1 s i hs hi _ rfl w _ rfl (by omega) h2
  rw [if_neg h2, if_neg h2]
  by_cases h3 : i < 161
  · have hn : numOf (blk s i) i = -1 := if_neg (fun h => by omega)
    rw [if_pos h3, if_pos h3, hn]
    exact rlook_2 s i hs hi _ rfl w _ rfl (by omega) h3
  rw [if_neg h3, if_neg h3]
  by_cases h4 : i < 224
  · have hn : numOf (blk s i) i = -1 := if_neg (fun h => by omega)
    rw [if_pos h4, if_pos h4, hn]
    exact rlook_3 s i hs hi _ rfl w _ rfl (by omega) h4
  rw [if_neg h4, if_neg h4]
  by_cases hK : isK (blk s i)
  · obtain ⟨k, hk⟩ : ∃ k : Nat, (sbyte (blk s i) 8).toNat = k := ⟨_, rfl⟩
    refine rlook_4 s i hs hi _ rfl w _ rfl (by omega) (val (sbyte (blk s i)) 8 : Int) (k : Int) true (fun W => rkind_yes _ hK k hk W) _ ?_
    unfold numOf
    by_cases h1 : k = 1
    · rw [if_pos ⟨by omega, hK, by omega⟩]
      exact .inr (.inr ⟨rfl, by omega, rfl⟩)
    · rw [if_neg (fun h => h1 (by have := h.2.2; omega))]
      have := hK.2.2.2.1
      exact .inr (.inl ⟨rfl, by omega, rfl⟩)
  · refine rlook_4 s i hs hi _ rfl w _ rfl (by omega) 0 0 false (fun W => rkind_no _ hK W) _ ?_
    unfold numOf
    rw [if_neg (fun h => hK h.2.1)]
    exact .inl ⟨rfl, rfl⟩
end Go.Proofs.Ytmocaabdfiffnaa.Ct
