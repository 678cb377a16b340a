/- The document's steps on states, walked. -/
import Derived.Test.YtikhaocpohfcnaaAesRefRow
import Derived.Test.YtikhaocpohfcnaaAesImage
namespace Go.Proofs.Ytikhaocpohfcnaa.Ae
open Go.RowKit Go.Proofs.Ytikhaocpohfcnaa.W Go.Proofs.Ytikhaocpohfcnaa.Gf
set_option linter.unusedVariables false
set_option linter.unusedSimpArgs false

/-- Words as they are read. -/
def Wk (w : World) (g : Nat) (key : St) : Prop := g < w.heap.size ∧ ∀ j, j < 60 → ∃ q c, w.cell? ⟨g, j, none⟩ = some (.slice (some ⟨q, 0, none⟩) 4 c) ∧ Ns w q 4 (kword key j)
theorem Wk.later {w w' : World} {g : Nat} {key : St} (h : Wk w g key) (hb : Below w.heap.size w w') : Wk w' g key := ⟨Nat.lt_of_lt_of_le h.1 hb.size, fun j hj => by
  obtain ⟨q, c, h1, h2⟩ := h.2 j hj
  exact ⟨q, c, (hb.cell (p := ⟨g, j, none⟩) h.1).trans h1, h2.later hb⟩⟩
theorem make16i (w : World) : (Instr.makeSlice 76 (.int .i64 16) (.int .i64 16)).run Try.prog w = .ok (.slice (some ⟨w.heap.size, 0, none⟩) 16 16) (w.alloc (.cells (row 16 fun _ => .int .i64 0) 3)) := by kernel_rfl
theorem Ns.zero (w : World) (g : Nat) (hg : g = w.heap.size) : Ns (w.alloc (.cells (row 16 fun _ => .int .i64 0) 3)) g 16 (fun _ => 0#8) := ⟨_, Blk.newAt w _ _ _ hg, fun r hr => by rw [row_get _ hr]; rfl⟩
/-- Two loops of four as one of sixteen. -/
def StepRel (w : World) (f : St) (k : Nat) (s8 : Value) (wr : World) : Prop := ∃ c : Nat, s8 = .int .i64 (c : Int) ∧ c + k = 4 ∧ Ns wr w.heap.size 16 (mixA f (fun _ => 0#8) (4 * c)) ∧ Below w.heap.size w wr
def StepIn (w : World) (f : St) (c : Nat) (k : Nat) (s9 : Value) (wr : World) : Prop := ∃ r : Nat, s9 = .int .i64 (r : Int) ∧ r + k = 4 ∧ Ns wr w.heap.size 16 (mixA f (fun _ => 0#8) (4 * c + r)) ∧ Below w.heap.size w wr
set_option maxRecDepth 100000 in
set_option maxHeartbeats 1000000 in
theorem radded_any (gs cs gw cw n : Nat) (hn : n < 15) (s key : St) (w : World) (hs : Ns w gs 16 s) (hw : Wk w gw key) :
    Calls Try.prog 45 #[.slice (some ⟨gs, 0, none⟩) 16 cs, .slice (some ⟨gw, 0, none⟩) 60 cw, .int .i64 (n : Int)] w fun e w' => e = .returned (.slice (some ⟨w.heap.size, 0, none⟩) 16 16) ∧ Ns w' w.heap.size 16 (addS (kfun key) n s) ∧ Below w.heap.size w w' := by
  have hmk := make16i
  have HS := hide hs
  have HWk := hide hw
  have lgs := hs.lt
  have lgw := hw.1
  clear hs hw
  go_enter Try.func45, Try.ntmps45
  go_wp2_with fail
  go_loopg [8] 4 (fun k s8 wr => StepRel w (addS (kfun key) n s) k s8 wr)
  case atStart => exact ⟨0, rfl, rfl, (Ns.zero w _ rfl).as (fun r hr => by simp [mixA]), (Below.refl _ _).alloc (Nat.le_refl _) _⟩
  case round =>
    obtain ⟨c, rfl, hk, hx, hbx⟩ := hrel
    have HX := hide hx
    have HBx := hide hbx
    clear hx hbx
    by_cases hc : c < 4
    · have hgk : 0 < gk := by omega
      have hc' : (c : Int) < 4 := by omega
      obtain ⟨g0, hg0⟩ : ∃ g, g = gk := ⟨gk, rfl⟩
      subst hg0
      go_wp2_with fail
      go_loopg [9] 4 (fun k s9 wr => StepIn w (addS (kfun key) n s) c k s9 wr)
      case atStart => exact ⟨0, rfl, rfl, HX.out, HBx.out⟩
      case round =>
        obtain ⟨r, rfl, hk2, hx, hbx⟩ := hrel
        have HX := hide hx
        have HBx := hide hbx
        clear hx hbx
        by_cases hr : r < 4
        · have hgk2 : 0 < gk := by omega
          have hr' : (r : Int) < 4 := by omega
          obtain ⟨c4, hc4⟩ : ∃ t : Nat, 4 * c = t := ⟨_, rfl⟩
          obtain ⟨t, ht⟩ : ∃ t : Nat, r + c4 = t := ⟨_, rfl⟩
          obtain ⟨n4, hn4⟩ : ∃ t : Nat, 4 * n = t := ⟨_, rfl⟩
          obtain ⟨m, hm⟩ : ∃ t : Nat, n4 + c = t := ⟨_, rfl⟩
          have e1 : IntKind.i64.wrap (4 * (c : Int)) = (c4 : Int) := by rw [show 4 * (c : Int) = (c4 : Int) by omega]; exact IntWalk.i64_in _ (by omega)
          have e2 : IntKind.i64.wrap ((r : Int) + (c4 : Int)) = (t : Int) := by rw [show (r : Int) + (c4 : Int) = (t : Int) by omega]; exact IntWalk.i64_in _ (by omega)
          have e3 : IntKind.i64.wrap (4 * (n : Int)) = (n4 : Int) := by rw [show 4 * (n : Int) = (n4 : Int) by omega]; exact IntWalk.i64_in _ (by omega)
          have e4 : IntKind.i64.wrap ((n4 : Int) + (c : Int)) = (m : Int) := by rw [show (n4 : Int) + (c : Int) = (m : Int) by omega]; exact IntWalk.i64_in _ (by omega)
          have ht16 : (t : Int) < 16 := by omega
          have hm60 : (m : Int) < 60 := by omega
          have cs1 := (HS.out.later HBx.out).at (r := t) (by omega)
          obtain ⟨q, cq, cw1, hnq⟩ := (HWk.out.later HBx.out).2 m (by omega)
          have cq1 := hnq.at hr
          have fx := HX.out.frozen t
          have ck := HX.out.at (r := t) (by omega)
          have hne : ¬ gs = w.heap.size := by omega
          obtain ⟨x, hx⟩ : ∃ x, s t = x := ⟨_, rfl⟩
          obtain ⟨y, hy⟩ : ∃ x, kword key m r = x := ⟨_, rfl⟩
          have HV : Hid (addS (kfun key) n s t = ad x y) := hide (by
            unfold addS kfun ad
            rw [show (16 * n + t) / 4 = m by omega, show (16 * n + t) % 4 = r by omega, hx, hy])
          have HT : Hid (4 * c + r = t) := hide (by omega)
          rw [hx] at cs1
          rw [hy] at cq1
          clear hx hy hc4 ht hn4 hm hnq
          go_wp2_with fail
          refine wp_region_still_tail 24 (by kernel_rfl) (by kernel_rfl) ?_
          simp only [List.take_succ_cons, List.take_zero, List.drop_succ_cons, List.drop_zero]
          repeat (first
            | (refine wpStill_step (fun K hK => ?_); go_simp; refine hK _ ?_; clear hK K)
            | (refine wpStill_step (fun K hK => ?_); go_simp; with_reducible refine ⟨_, flipped (radd_any x y _), hK _ ?_⟩; clear hK K))
          refine wpStill_nil ?_
          change wpList _ _ _ _ _ wr.drew
          clear e1 e2 e3 e4
          go_wp2_with fail
          go_roundg (gk - 1)
          case measure => omega
          case rel =>
            have h1 := (HX.out.set_ t (ad x y)).drewN 1
            rw [← HV.out, HT.out, mixA_succ] at h1
            refine ⟨r + 1, by go_num, by omega, ?_, below_drewN (HBx.out.setCell (Nat.le_refl _) _) 1⟩
            rw [show 4 * c + (r + 1) = t + 1 by have := HT.out; omega, ← HV.out]
            exact h1
        · have hr' : decide (r < 4) = false := by simp; omega
          have hr'' : decide ((r : Int) < 4) = false := by simp; omega
          obtain rfl : r = 4 := by omega
          clear hr
          go_wp2_with fail
          go_roundg (g0 - 1)
          case measure => omega
          case rel => exact ⟨c + 1, by go_num, by omega, HX.out, HBx.out⟩
    · have hc' : decide (c < 4) = false := by simp; omega
      have hc'' : decide ((c : Int) < 4) = false := by simp; omega
      obtain rfl : c = 4 := by omega
      clear hc
      go_wp2_with fail
      go_ret
      exact ⟨rfl, HX.out.as (fun j hj => by simp [mixA, hj]), HBx.out⟩
theorem imgs_at' (b : BitVec 8) : imgs b.toNat = sb b := by unfold imgs; rw [BitVec.ofNat_toNat, BitVec.setWidth_eq]
set_option maxRecDepth 100000 in
set_option maxHeartbeats 1000000 in
theorem rshifted_any (gs cs gb cb : Nat) (s : St) (w : World) (hs : Ns w gs 16 s) (hw : Ns w gb 256 imgs) :
    Calls Try.prog 47 #[.slice (some ⟨gs, 0, none⟩) 16 cs, .slice (some ⟨gb, 0, none⟩) 256 cb] w fun e w' => e = .returned (.slice (some ⟨w.heap.size, 0, none⟩) 16 16) ∧ Ns w' w.heap.size 16 (imgS s) ∧ Below w.heap.size w w' := by
  have hmk := make16i
  have HS := hide hs
  have HWk := hide hw
  have lgs := hs.lt
  have lgw := hw.lt
  clear hs hw
  go_enter Try.func47, Try.ntmps47
  go_wp2_with fail
  go_loopg [6] 4 (fun k s8 wr => StepRel w (imgS s) k s8 wr)
  case atStart => exact ⟨0, rfl, rfl, (Ns.zero w _ rfl).as (fun r hr => by simp [mixA]), (Below.refl _ _).alloc (Nat.le_refl _) _⟩
  case round =>
    obtain ⟨c, rfl, hk, hx, hbx⟩ := hrel
    have HX := hide hx
    have HBx := hide hbx
    clear hx hbx
    by_cases hc : c < 4
    · have hgk : 0 < gk := by omega
      have hc' : (c : Int) < 4 := by omega
      obtain ⟨g0, hg0⟩ : ∃ g, g = gk := ⟨gk, rfl⟩
      subst hg0
      go_wp2_with fail
      go_loopg [7] 4 (fun k s9 wr => StepIn w (imgS s) c k s9 wr)
      case atStart => exact ⟨0, rfl, rfl, HX.out, HBx.out⟩
      case round =>
        obtain ⟨r, rfl, hk2, hx, hbx⟩ := hrel
        have HX := hide hx
        have HBx := hide hbx
        clear hx hbx
        by_cases hr : r < 4
        · have hgk2 : 0 < gk := by omega
          have hr' : (r : Int) < 4 := by omega
          obtain ⟨c4, hc4⟩ : ∃ t : Nat, 4 * c = t := ⟨_, rfl⟩
          obtain ⟨t, ht⟩ : ∃ t : Nat, r + c4 = t := ⟨_, rfl⟩
          obtain ⟨cr, hcr⟩ : ∃ t : Nat, c + r = t := ⟨_, rfl⟩
          obtain ⟨m4, hm4⟩ : ∃ t : Nat, cr % 4 = t := ⟨_, rfl⟩
          obtain ⟨p4, hp4⟩ : ∃ t : Nat, 4 * m4 = t := ⟨_, rfl⟩
          obtain ⟨q, hq⟩ : ∃ t : Nat, r + p4 = t := ⟨_, rfl⟩
          have e1 : IntKind.i64.wrap (4 * (c : Int)) = (c4 : Int) := by rw [show 4 * (c : Int) = (c4 : Int) by omega]; exact IntWalk.i64_in _ (by omega)
          have e2 : IntKind.i64.wrap ((r : Int) + (c4 : Int)) = (t : Int) := by rw [show (r : Int) + (c4 : Int) = (t : Int) by omega]; exact IntWalk.i64_in _ (by omega)
          have e3 : IntKind.i64.wrap ((c : Int) + (r : Int)) = (cr : Int) := by rw [show (c : Int) + (r : Int) = (cr : Int) by omega]; exact IntWalk.i64_in _ (by omega)
          have e4 : Int.tmod (cr : Int) 4 = (m4 : Int) := by rw [Int.tmod_eq_emod_of_nonneg (by omega)]; omega
          have e5 : IntKind.i64.wrap (4 * (m4 : Int)) = (p4 : Int) := by rw [show 4 * (m4 : Int) = (p4 : Int) by omega]; exact IntWalk.i64_in _ (by omega)
          have e6 : IntKind.i64.wrap ((r : Int) + (p4 : Int)) = (q : Int) := by rw [show (r : Int) + (p4 : Int) = (q : Int) by omega]; exact IntWalk.i64_in _ (by omega)
          have ht16 : (t : Int) < 16 := by omega
          have hq16 : (q : Int) < 16 := by omega
          have cs1 := (HS.out.later HBx.out).at (r := q) (by omega)
          obtain ⟨x, hx⟩ : ∃ x, s q = x := ⟨_, rfl⟩
          have cb1 := (HWk.out.later HBx.out).at (r := x.toNat) x.isLt
          rw [imgs_at'] at cb1
          have hxl := x.isLt
          have hxl' : (x.toNat : Int) < 256 := by omega
          have fx := HX.out.frozen t
          have ck := HX.out.at (r := t) (by omega)
          have HV : Hid (imgS s t = sb x) := hide (by
            unfold imgS
            rw [show (t + 4 * (t % 4)) % 16 = q by omega, hx])
          have HT : Hid (4 * c + r = t) := hide (by omega)
          rw [hx] at cs1
          clear hx hc4 ht hcr hm4 hp4 hq
          go_wp2_with fail
          go_roundg (gk - 1)
          case measure => omega
          case rel =>
            have h1 := HX.out.set_ t (sb x)
            rw [← HV.out, HT.out, mixA_succ] at h1
            refine ⟨r + 1, by go_num, by omega, ?_, HBx.out.setCell (Nat.le_refl _) _⟩
            rw [show 4 * c + (r + 1) = t + 1 by have := HT.out; omega, ← HV.out]
            exact h1
        · have hr' : decide (r < 4) = false := by simp; omega
          have hr'' : decide ((r : Int) < 4) = false := by simp; omega
          obtain rfl : r = 4 := by omega
          clear hr
          go_wp2_with fail
          go_roundg (g0 - 1)
          case measure => omega
          case rel => exact ⟨c + 1, by go_num, by omega, HX.out, HBx.out⟩
    · have hc' : decide (c < 4) = false := by simp; omega
      have hc'' : decide ((c : Int) < 4) = false := by simp; omega
      obtain rfl : c = 4 := by omega
      clear hc
      go_wp2_with fail
      go_ret
      exact ⟨rfl, HX.out.as (fun j hj => by simp [mixA, hj]), HBx.out⟩
end Go.Proofs.Ytikhaocpohfcnaa.Ae
