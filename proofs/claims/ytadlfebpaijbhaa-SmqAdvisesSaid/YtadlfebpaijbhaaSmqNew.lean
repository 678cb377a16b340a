/- The making of policies. -/
import Derived.Test.YtadlfebpaijbhaaSmqREnd
namespace Go.Proofs.Ytadlfebpaijbhaa.Lv
open Go.RowKit Go.Proofs.Ytadlfebpaijbhaa.W
set_option linter.unusedVariables false
set_option linter.unusedSimpArgs false

def zcell : Nat → Value := fun c => if c < 2 then .pointer none else if c < 66 then .int .i64 0 else if c < 74 then .bool false else .int .i64 0
theorem zeroP (w : World) : (zeroValue 52).run Try.prog w = .ok (.agg (row 75 zcell)) w := by kernel_rfl
theorem good0 (n : Nat) : Good n (fun _ => []) := ⟨fun _ _ => List.nodup_nil, fun _ _ _ hx => (by cases hx), fun _ _ _ _ _ hx => (by cases hx)⟩
theorem ok0 : Ok sm0 := ⟨good0 16, good0 8, fun _ => Nat.zero_le _⟩
theorem row_new (gq gh : Nat) : row 75 (upd (upd zcell 0 (.pointer (some ⟨gq, 0, none⟩))) 1 (.pointer (some ⟨gh, 0, none⟩))) = row 75 (pcell gq gh (fun _ => 0) (fun _ => false) 0) := by
  apply row_congr
  intro i hi
  unfold upd
  by_cases h1 : i = 1
  · subst h1; rfl
  · rw [if_neg h1]
    by_cases h0 : i = 0
    · subst h0; rfl
    · rw [if_neg h0]
      unfold zcell pcell
      rw [if_neg (by omega), if_neg h0, if_neg h1]
      rfl
set_option maxRecDepth 100000 in
theorem pnew_any (w : World) : Calls Try.prog 6 #[] w fun e w' => ∃ gp gq gh, e = .returned (.pointer (some ⟨gp, 0, none⟩)) ∧ PA w' gp gq gh sm0 ∧ Below w.heap.size w w' ∧ w.heap.size ≤ gp ∧ w.heap.size ≤ gq ∧ w.heap.size ≤ gh := by
  have hz := zeroP
  have HN16 := hide (fun W => new_ok 16 (by omega) (by omega) W)
  have HN8 := hide (fun W => new_ok 8 (by omega) (by omega) W)
  have H16 : Hid (∀ W, Calls Try.prog 19 #[.int .i64 16] W fun e w' => e = .returned (.tuple #[.pointer (some ⟨W.heap.size, 0, none⟩), .int .i64 0]) ∧ QAt w' W.heap.size 16 (fun _ => []) ∧ Below W.heap.size W w') := HN16
  have H8 : Hid (∀ W, Calls Try.prog 19 #[.int .i64 8] W fun e w' => e = .returned (.tuple #[.pointer (some ⟨W.heap.size, 0, none⟩), .int .i64 0]) ∧ QAt w' W.heap.size 8 (fun _ => []) ∧ Below W.heap.size W w') := HN8
  have hb0 : Blk (w.alloc (.cells (row 75 zcell) 52)) w.heap.size 52 (row 75 zcell) := Blk.newAt w _ _ _ rfl
  have HB0 := hide hb0
  have hbl0 := (Below.refl w.heap.size w).alloc (Nat.le_refl _) (.cells (row 75 zcell) 52)
  have HBl0 := hide hbl0
  have hs0 : (w.alloc (.cells (row 75 zcell) 52)).heap.size = w.heap.size + 1 := by simp
  have HS0 := hide hs0
  clear HN16 HN8 hb0 hbl0 hs0
  go_enter Try.func6, Try.ntmps6
  go_upto_region 2 with fail
  generalize w.alloc (.cells (row 75 zcell) 52) = W1 at HB0 HBl0 HS0 ⊢
  obtain ⟨gp, hgp⟩ : ∃ g, w.heap.size = g := ⟨_, rfl⟩
  have HGp := hide hgp
  rw [hgp] at HB0 HS0
  simp only [hgp]
  clear hgp hz
  go_upto_region 3 with (first
    | (go_at_call 19; (with_reducible refine (H16.out _).mono ?_); rintro e w2 ⟨rfl, hq, hb⟩; (have hk2 := W.later hb HB0.out); (have k0 := hk2.at (i := 0) (by omega)); (have f0 := hk2.frozen 0); (have gl := hk2.lt); (have HQ := hide hq); (have HK2 := hide hk2); (have HB2 := hide hb); clear hq hb hk2))
  obtain ⟨gq, hgq⟩ : ∃ g, W1.heap.size = g := ⟨_, rfl⟩
  have hgq' : gp + 1 = gq := HS0.out ▸ hgq
  have hc0 := chg_self gp 0 (.pointer (some ⟨gq, 0, none⟩)) w2
  have hq2 := HQ.out
  have hb2 := HB2.out
  rw [hgq] at hq2 hb2
  simp only [hgq]
  have hW := HK2.out.upd 0 (.pointer (some ⟨gq, 0, none⟩))
  have hqW : QAt (w2.setCell ⟨gp, 0, none⟩ (.pointer (some ⟨gq, 0, none⟩))) gq 16 (fun _ => []) := hq2.chg hc0 (fun (e : gq = gp) => by omega)
  have hsW : (w2.setCell ⟨gp, 0, none⟩ (.pointer (some ⟨gq, 0, none⟩))).heap.size = w2.heap.size := by simp
  have hbl := HBl0.out
  rw [HGp.out] at hbl
  have hbW : Below gp w (w2.setCell ⟨gp, 0, none⟩ (.pointer (some ⟨gq, 0, none⟩))) := (hbl.trans (hb2.mono (by omega))).setCell (Nat.le_refl _) _
  have hltq : gq < w2.heap.size := by
    obtain ⟨cs, hc⟩ := hq2.blk
    exact hc.lt
  have HLt := hide hltq
  generalize w2.setCell ⟨gp, 0, none⟩ (.pointer (some ⟨gq, 0, none⟩)) = W3 at hW hqW hsW hbW ⊢
  clear k0 f0 gl HQ HK2 HB2 hc0 hq2 hb2 hbl HB0 HBl0 hltq
  have HW := hide hW
  have HQW := hide hqW
  have HSW := hide hsW
  have HBW := hide hbW
  have HGQ := hide hgq'
  clear hW hqW hsW hbW hgq' hgq HS0
  go_upto_region 4 with (first
    | (go_at_call 19; (with_reducible refine (H8.out _).mono ?_); rintro e w4 ⟨rfl, hq, hb⟩; (have hk2 := W.later hb HW.out); (have k0 := hk2.at (i := 1) (by omega)); (have f0 := hk2.frozen 1); (have gl := hk2.lt); (have HQ := hide hq); (have HK2 := hide hk2); (have HB2 := hide hb); clear hq hb hk2))
  obtain ⟨gh, hgh⟩ : ∃ g, W3.heap.size = g := ⟨_, rfl⟩
  have hq4 := HQ.out
  have hb4 := HB2.out
  rw [hgh] at hq4 hb4
  simp only [hgh]
  have e1 := HGQ.out
  have e2 := HSW.out
  have e3 := HLt.out
  have hc1 := chg_self gp 1 (.pointer (some ⟨gh, 0, none⟩)) w4
  have hP := HK2.out.upd 1 (.pointer (some ⟨gh, 0, none⟩))
  rw [row_new] at hP
  have hqP : QAt (w4.setCell ⟨gp, 1, none⟩ (.pointer (some ⟨gh, 0, none⟩))) gh 8 (fun _ => []) := hq4.chg hc1 (fun (e : gh = gp) => by omega)
  have hqQ : QAt (w4.setCell ⟨gp, 1, none⟩ (.pointer (some ⟨gh, 0, none⟩))) gq 16 (fun _ => []) := (HQW.out.later (hgh ▸ hb4)).chg hc1 (fun (e : gq = gp) => by omega)
  have hbP : Below gp w (w4.setCell ⟨gp, 1, none⟩ (.pointer (some ⟨gh, 0, none⟩))) := (HBW.out.trans (hb4.mono (by omega))).setCell (Nat.le_refl _) _
  generalize w4.setCell ⟨gp, 1, none⟩ (.pointer (some ⟨gh, 0, none⟩)) = W5 at hP hqP hqQ hbP ⊢
  clear k0 f0 gl hc1
  go_wp2_with fail
  go_ret
  exact ⟨gp, gq, gh, rfl, ⟨hP, hqQ, hqP, by omega, ok0, by decide⟩, by rw [HGp.out]; exact hbP, by rw [HGp.out]; omega, by rw [HGp.out]; omega, by rw [HGp.out]; omega⟩
theorem zeroX (w : World) : (zeroValue 61).run Try.prog w = .ok (.agg (row 75 zcell)) w := by kernel_rfl
theorem zeroRQ (w : World) : (zeroValue 59).run Try.prog w = .ok (.agg (row 4 fun _ => .slice none 0 0)) w := by kernel_rfl
theorem ref_zero (w : World) : RefAt (w.alloc (.cells (row 4 fun _ => .slice none 0 0) 59)) w.heap.size (fun _ => []) :=
  ⟨_, Blk.newAt w _ _ _ rfl, fun l hl => .inl ⟨rfl, rfl⟩⟩
theorem rowx_new (ga gb : Nat) : ((row 75 zcell).setIfInBounds 0 (.pointer (some ⟨ga, 0, none⟩))).setIfInBounds 1 (.pointer (some ⟨gb, 0, none⟩)) = row 75 (pcell ga gb (fun _ => 0) (fun _ => false) 0) := by
  rw [← row_new, row_set, row_set]
set_option maxRecDepth 100000 in
theorem xnew_any (w : World) : Calls Try.prog 7 #[] w fun e w' => ∃ gx ga gb, e = .returned (.pointer (some ⟨gx, 0, none⟩)) ∧ XA w' gx ga gb sm0 ∧ Below w.heap.size w w' ∧ w.heap.size ≤ gx ∧ w.heap.size ≤ ga ∧ w.heap.size ≤ gb := by
  have hz1 := zeroX
  have hz2 := zeroRQ
  go_enter Try.func7, Try.ntmps7
  go_wp2_with fail
  have e1 := Below.refl w.heap.size w
  have hw1 := e1.alloc (Nat.le_refl _) (.cells (row 4 fun _ => .slice none 0 0) 59)
  have ra := ref_zero w
  have sz1 : (w.alloc (.cells (row 4 fun _ => .slice none 0 0) 59)).heap.size = w.heap.size + 1 := by simp
  generalize w.alloc (.cells (row 4 fun _ => .slice none 0 0) 59) = w1 at ra hw1 sz1 ⊢
  have rb := ref_zero w1
  have hw2 := hw1.alloc (by omega) (.cells (row 4 fun _ => .slice none 0 0) 59)
  have sz2 : (w1.alloc (.cells (row 4 fun _ => .slice none 0 0) 59)).heap.size = w1.heap.size + 1 := by simp
  have ra2 := ra.later ((Below.refl w1.heap.size w1).alloc (Nat.le_refl _) (.cells (row 4 fun _ => .slice none 0 0) 59))
  generalize w1.alloc (.cells (row 4 fun _ => .slice none 0 0) 59) = w2 at rb ra2 hw2 sz2 ⊢
  rw [rowx_new]
  have hn : Blk (w2.alloc (.cells (row 75 (pcell w.heap.size (w.heap.size + 1) (fun _ => 0) (fun _ => false) 0)) 61)) w2.heap.size 61 (row 75 (pcell w.heap.size (w.heap.size + 1) (fun _ => 0) (fun _ => false) 0)) := Blk.newAt w2 _ _ _ rfl
  have hb := (Below.refl w2.heap.size w2).alloc (Nat.le_refl _) (.cells (row 75 (pcell w.heap.size (w.heap.size + 1) (fun _ => 0) (fun _ => false) 0)) 61)
  have hw3 := hw2.alloc (by omega) (.cells (row 75 (pcell w.heap.size (w.heap.size + 1) (fun _ => 0) (fun _ => false) 0)) 61)
  rw [sz1] at rb
  rw [sz2, sz1] at hn
  go_ret
  refine ⟨w.heap.size + 1 + 1, w.heap.size, w.heap.size + 1, rfl, ⟨hn, ra2.later hb, rb.later hb, by omega, ok0, by decide⟩, hw3, by omega, by omega, by omega⟩
end Go.Proofs.Ytadlfebpaijbhaa.Lv
