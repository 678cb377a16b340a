/- Contracts of aes's images, of what undoes them, and of mixing. -/
import Derived.Test.YtikhaocpohfcnaaAesWalk
namespace Go.Proofs.Ytikhaocpohfcnaa.Ae
open Go.RowKit Go.Proofs.Ytikhaocpohfcnaa.W Go.Proofs.Ytikhaocpohfcnaa.Gf
set_option linter.unusedVariables false
set_option linter.unusedSimpArgs false

def zs : St := fun _ => 0#8
structure ThreeAt (w : World) (g : Nat) (kf s z o : St) (wr : World) : Prop where
  key : KeyAt wr g kf
  a : Blk wr w.heap.size 71 (row 16 (u8s s))
  z : Blk wr (w.heap.size + 1) 71 (row 16 (u8s z))
  o : Blk wr (w.heap.size + 2) 71 (row 16 (u8s o))
  below : Below w.heap.size w wr
theorem ThreeAt.start {w : World} {g : Nat} {kf s : St} (hk : KeyAt w g kf) : ThreeAt w g kf s zs zs (((w.alloc (.cells (row 16 (u8s s)) 71)).alloc (.cells (row 16 (u8s zs)) 71)).alloc (.cells (row 16 (u8s zs)) 71)) :=
  ⟨((Blk.alloc hk _).alloc _).alloc _, ((Blk.newAt w _ _ _ rfl).alloc _).alloc _, (Blk.newAt (w.alloc _) _ _ _ (by simp)).alloc _, Blk.newAt ((w.alloc _).alloc _) _ _ _ (by simp), (((Below.refl _ _).alloc (Nat.le_refl _) _).alloc (by simp) _).alloc (by simp; omega) _⟩
theorem ThreeAt.setO {w wr : World} {g : Nat} {kf s z o : St} (h : ThreeAt w g kf s z o wr) (hg : g < w.heap.size) (i : Nat) (x : BitVec 8) : ThreeAt w g kf s z (upd o i x) (wr.setCell ⟨w.heap.size + 2, i, none⟩ (.int .u8 (x.toNat : Int))) := by
  have h1 := h.o.upd i (.int .u8 (x.toNat : Int))
  rw [u8s_upd] at h1
  exact ⟨Blk.far h.key (by simp; omega) _, h.a.far (by simp) _, h.z.far (by simp) _, h1, h.below.setCell (by simp) _⟩
theorem ThreeAt.drew {w wr : World} {g : Nat} {kf s z o : St} (h : ThreeAt w g kf s z o wr) : ThreeAt w g kf s z o wr.drew := ⟨h.key, h.a, h.z, h.o, below_drewN h.below 1⟩
theorem ThreeAt.drewN {w wr : World} {g : Nat} {kf s z o : St} (h : ThreeAt w g kf s z o wr) (k : Nat) : ThreeAt w g kf s z o (wr.drewN k) := ⟨h.key, h.a, h.z, h.o, below_drewN h.below k⟩
def ImgRel (w : World) (g : Nat) (kf s : St) (k : Nat) (s7 : Value) (wr : World) : Prop :=
  ∃ i : Nat, s7 = .int .i64 (i : Int) ∧ i + k = 16 ∧ ThreeAt w g kf s zs (mixA (imgS s) zs i) wr
theorem mixA_all (f : St) : row 16 (u8s (mixA f zs 16)) = row 16 (u8s f) := row_congr (fun j hj => by simp [u8s, mixA, hj])
set_option maxRecDepth 100000 in
set_option maxHeartbeats 1000000 in
theorem images_any (g : Nat) (kf s : St) (w : World) (hk : KeyAt w g kf) :
    Calls Try.prog 42 #[.pointer (some ⟨g, 0, none⟩), .agg (row 16 (u8s s))] w fun e w' => e = .returned (.agg (row 16 (u8s (imgS s)))) ∧ Below w.heap.size w w' := by
  have hz := zero16
  have HK := hide hk
  have gl := hk.lt
  clear hk
  go_enter Try.func42, Try.ntmps42
  go_wp2_with fail
  go_loopg [7] 16 (fun k s7 wr => ImgRel w g kf s k s7 wr)
  case atStart => exact ⟨0, rfl, rfl, ThreeAt.start HK.out⟩
  case round =>
    obtain ⟨i, rfl, hk, hs⟩ := hrel
    have HS := hide hs
    clear hs
    by_cases hi : i < 16
    · have hi' : (i : Int) < 16 := by omega
      have hgk : 0 < gk := by omega
      obtain ⟨r, hr⟩ : ∃ r : Nat, i % 4 = r := ⟨_, rfl⟩
      obtain ⟨m, hm⟩ : ∃ m : Nat, i + 4 * r = m := ⟨_, rfl⟩
      obtain ⟨j, hj⟩ : ∃ j : Nat, m % 16 = j := ⟨_, rfl⟩
      have hj16 : j < 16 := by omega
      have hj16' : (j : Int) < 16 := by omega
      have ca := HS.out.a.at hj16
      have fo := HS.out.o.frozen i
      have co := HS.out.o.at hi
      simp only [u8s] at ca co
      obtain ⟨x, hx⟩ : ∃ x, s j = x := ⟨_, rfl⟩
      rw [hx] at ca
      have HV : Hid (imgS s i = sb x) := hide (by unfold imgS; rw [hr, hm, hj, hx])
      have cb := HS.out.key.box x
      have hx256 := x.isLt
      have hx256' : (x.toNat : Int) < 256 := by omega
      have e1 : Int.tmod (i : Int) 4 = (r : Int) := by rw [Int.tmod_eq_emod_of_nonneg (by omega)]; omega
      have e2 : IntKind.i64.wrap (4 * (r : Int)) = 4 * (r : Int) := IntWalk.i64_in _ (by omega)
      have e3 : IntKind.i64.wrap ((i : Int) + 4 * (r : Int)) = (m : Int) := by rw [← hm]; rw [show (i : Int) + 4 * (r : Int) = ((i + 4 * r : Nat) : Int) by simp]; exact IntWalk.i64_in _ (by omega)
      have e4 : Int.tmod (m : Int) 16 = (j : Int) := by rw [Int.tmod_eq_emod_of_nonneg (by omega)]; omega
      clear hx hr hm hj
      go_wp2_with fail
      refine wp_region_still_tail 14 (by kernel_rfl) (by kernel_rfl) ?_
      simp only [List.take_succ_cons, List.take_zero, List.drop_succ_cons, List.drop_zero]
      repeat (refine wpStill_step (fun K hK => ?_); go_simp; refine hK _ ?_; clear hK K)
      refine wpStill_nil ?_
      change wpList _ _ _ _ _ wr.drew
      clear e1 e2 e3 e4
      go_wp2_with fail
      go_roundg (gk - 1)
      case measure => omega
      case rel =>
        have h1 := (HS.out.setO gl i (sb x)).drew
        rw [← HV.out, mixA_succ] at h1
        rw [← HV.out]
        exact ⟨i + 1, by go_num, by omega, h1⟩
    · have hi' : decide (i < 16) = false := by simp; omega
      have hi'' : decide ((i : Int) < 16) = false := by simp; omega
      obtain rfl : i = 16 := by omega
      clear hi
      go_wp2_with (first
        | (with_reducible refine wpList_load_all rfl 71 (.tmp 5) rfl (w.heap.size + 2) rfl 71 16 _ _ HS.out.o rfl Try.underlying71 info16 ?_)
        | (with_reducible refine wpList_store_all rfl 71 (.tmp 4) (.tmp 26) rfl (w.heap.size + 1) rfl 71 16 _ _ rfl HS.out.z info16 (fun j _ => u8_one _ j) ?_))
      refine bodyPost_ret (results_cell_sub rfl _ _ (w.heap.size + 1) 71 16 _ _ rfl (HS.out.z.row_ _) rfl Try.underlying71 info16) rfl ⟨?_, below_setRow HS.out.below (by omega) _⟩
      rw [mixA_all]
/-- The bytes put back by the first i. -/
def bkA (s : St) (i : Nat) : St := fun j => if (j + 12 * (j % 4)) % 16 < i ∧ j < 16 then backS s j else 0#8
theorem bkA_succ (s : St) {i : Nat} (hi : i < 16) : ∀ c, c < 16 → upd (bkA s i) ((i + 4 * (i % 4)) % 16) (ub (s i)) c = bkA s (i + 1) c := by
  intro c hc
  simp only [upd, bkA]
  by_cases h : c = (i + 4 * (i % 4)) % 16
  · rw [if_pos h]
    have e : (c + 12 * (c % 4)) % 16 = i := by subst h; omega
    rw [if_pos ⟨by omega, hc⟩]
    unfold backS
    rw [e]
  · rw [if_neg h]
    have e : (c + 12 * (c % 4)) % 16 ≠ i := by
      intro he
      apply h
      subst he
      omega
    by_cases h2 : (c + 12 * (c % 4)) % 16 < i
    · rw [if_pos ⟨h2, hc⟩, if_pos ⟨by omega, hc⟩]
    · rw [if_neg (by omega), if_neg (by omega)]
theorem bkA_all (s : St) : row 16 (u8s (bkA s 16)) = row 16 (u8s (backS s)) := row_congr (fun j hj => by
  simp only [u8s, bkA]
  rw [if_pos ⟨Nat.mod_lt _ (by omega), hj⟩])
def BackRel (w : World) (g : Nat) (kf s : St) (k : Nat) (s7 : Value) (wr : World) : Prop :=
  ∃ i : Nat, s7 = .int .i64 (i : Int) ∧ i + k = 16 ∧ ThreeAt w g kf s zs (bkA s i) wr
structure MixAt (w : World) (s z o : St) (wr : World) : Prop where
  a : Blk wr w.heap.size 71 (row 16 (u8s s))
  z : Blk wr (w.heap.size + 1) 71 (row 16 (u8s z))
  o : Blk wr (w.heap.size + 2) 71 (row 16 (u8s o))
  below : Below w.heap.size w wr
theorem MixAt.setO {w wr : World} {s z o : St} (h : MixAt w s z o wr) (i : Nat) (x : BitVec 8) : MixAt w s z (upd o i x) (wr.setCell ⟨w.heap.size + 2, i, none⟩ (.int .u8 (x.toNat : Int))) := by
  have h1 := h.o.upd i (.int .u8 (x.toNat : Int))
  rw [u8s_upd] at h1
  exact ⟨h.a.far (by simp) _, h.z.far (by simp) _, h1, h.below.setCell (by simp) _⟩
theorem MixAt.drewN {w wr : World} {s z o : St} (h : MixAt w s z o wr) (k : Nat) : MixAt w s z o (wr.drewN k) := ⟨h.a, h.z, h.o, below_drewN h.below k⟩
def MixRel (w : World) (s : St) (k : Nat) (s4 : Value) (wr : World) : Prop :=
  ∃ c : Nat, s4 = .int .i64 (c : Int) ∧ c % 4 = 0 ∧ c + 4 * k = 16 ∧ MixAt w s zs (mixA (mixS s) zs c) wr
def MixIn (w : World) (s : St) (c : Nat) (k : Nat) (s31 : Value) (wr : World) : Prop :=
  ∃ r : Nat, s31 = .int .i64 (r : Int) ∧ r + k = 4 ∧ MixAt w s zs (mixA (mixS s) zs (c + r)) wr
set_option maxRecDepth 100000 in
set_option maxHeartbeats 2000000 in
theorem mix_any (s : St) (w : World) :
    Calls Try.prog 41 #[.agg (row 16 (u8s s))] w fun e w' => e = .returned (.agg (row 16 (u8s (mixS s)))) ∧ Below w.heap.size w w' := by
  have hz := zero16
  go_enter Try.func41, Try.ntmps41
  go_wp2_with fail
  go_loopg [4] 4 (fun k s4 wr => MixRel w s k s4 wr)
  case atStart =>
    exact ⟨0, rfl, rfl, rfl, ((Blk.newAt w _ _ _ rfl).alloc _).alloc _, (Blk.newAt (w.alloc _) _ _ _ (by simp)).alloc _, Blk.newAt ((w.alloc _).alloc _) _ _ _ (by simp), (((Below.refl _ _).alloc (Nat.le_refl _) _).alloc (by simp) _).alloc (by simp; omega) _⟩
  case round =>
    obtain ⟨c, rfl, hc4, hk, hs⟩ := hrel
    have HS := hide hs
    have HC4 := hide hc4
    clear hs
    by_cases hi : c < 16
    · have hi' : (c : Int) < 16 := by omega
      have hgk : 0 < gk := by omega
      have hc12 : c + 3 < 16 := by omega
      have c0 := HS.out.a.at hi
      have c1 := HS.out.a.at (i := c + 1) (by omega)
      have c2 := HS.out.a.at (i := c + 2) (by omega)
      have c3 := HS.out.a.at hc12
      simp only [u8s] at c0 c1 c2 c3
      obtain ⟨x0, h0⟩ : ∃ x, s c = x := ⟨_, rfl⟩
      obtain ⟨x1, h1⟩ : ∃ x, s (c + 1) = x := ⟨_, rfl⟩
      obtain ⟨x2, h2⟩ : ∃ x, s (c + 2) = x := ⟨_, rfl⟩
      obtain ⟨x3, h3⟩ : ∃ x, s (c + 3) = x := ⟨_, rfl⟩
      have HA : Hid (all4 s c = ad (ad (ad x0 x1) x2) x3) := hide (by unfold all4 ad; rw [h0, h1, h2, h3])
      rw [h0] at c0
      rw [h1] at c1
      rw [h2] at c2
      rw [h3] at c3
      obtain ⟨d1, g1⟩ : ∃ d, c + 1 = d := ⟨_, rfl⟩
      obtain ⟨d2, g2⟩ : ∃ d, c + 2 = d := ⟨_, rfl⟩
      obtain ⟨d3, g3⟩ : ∃ d, c + 3 = d := ⟨_, rfl⟩
      rw [g1] at c1
      rw [g2] at c2
      rw [g3] at c3
      have e1 : IntKind.i64.wrap ((c : Int) + 1) = (d1 : Int) := by rw [← g1]; rw [show (c : Int) + 1 = ((c + 1 : Nat) : Int) by simp]; exact IntWalk.i64_in _ (by omega)
      have e2 : IntKind.i64.wrap ((c : Int) + 2) = (d2 : Int) := by rw [← g2]; rw [show (c : Int) + 2 = ((c + 2 : Nat) : Int) by simp]; exact IntWalk.i64_in _ (by omega)
      have e3 : IntKind.i64.wrap ((c : Int) + 3) = (d3 : Int) := by rw [← g3]; rw [show (c : Int) + 3 = ((c + 3 : Nat) : Int) by simp]; exact IntWalk.i64_in _ (by omega)
      have l1 : (d1 : Int) < 16 := by omega
      have l2 : (d2 : Int) < 16 := by omega
      have l3 : (d3 : Int) < 16 := by omega
      have hxr := xor_ad
      clear h0 h1 h2 h3 g1 g2 g3 hc4
      go_wp2_with fail
      go_quiet (fail)
      clear e1 e2 e3 c0 c1 c2 c3 l1 l2 l3 hxr
      go_wp2_with fail
      obtain ⟨al, hal⟩ : ∃ z, ad (ad (ad x0 x1) x2) x3 = z := ⟨_, rfl⟩
      rw [hal]
      have HAL : Hid (all4 s c = al) := hide (by rw [HA.out, hal])
      clear hal
      obtain ⟨ko, hko⟩ : ∃ ko, gk = ko := ⟨_, rfl⟩
      rw [hko] at hk hgk
      go_loopg [31] 4 (fun k s31 wr => MixIn w s c k s31 wr)
      case atStart => exact ⟨0, rfl, rfl, HS.out.drewN _⟩
      case round =>
        clear HS
        obtain ⟨r, rfl, hk2, hs⟩ := hrel
        have HS := hide hs
        clear hs
        by_cases hr : r < 4
        · have hr' : (r : Int) < 4 := by omega
          have hgk2 : 0 < gk := by omega
          obtain ⟨cr, hcr⟩ : ∃ m : Nat, c + r = m := ⟨_, rfl⟩
          obtain ⟨r1, hr1⟩ : ∃ m : Nat, r + 1 = m := ⟨_, rfl⟩
          obtain ⟨r2, hr2⟩ : ∃ m : Nat, r1 % 4 = m := ⟨_, rfl⟩
          obtain ⟨c2, hc2⟩ : ∃ m : Nat, c + r2 = m := ⟨_, rfl⟩
          have q1 : cr < 16 := by omega
          have q2 : c2 < 16 := by omega
          have q1' : (cr : Int) < 16 := by omega
          have q2' : (c2 : Int) < 16 := by omega
          have ca := HS.out.a.at q1
          have cb := HS.out.a.at q2
          have fo := HS.out.o.frozen cr
          have co := HS.out.o.at q1
          simp only [u8s] at ca cb co
          obtain ⟨x, hx⟩ : ∃ x, s cr = x := ⟨_, rfl⟩
          obtain ⟨y, hy⟩ : ∃ x, s c2 = x := ⟨_, rfl⟩
          rw [hx] at ca
          rw [hy] at cb
          have HV : Hid (mixS s cr = ad (ad x al) (tw (ad x y))) := hide (by
            have m1 : cr - cr % 4 = c := by have := HC4.out; omega
            have m2 : cr % 4 = r := by have := HC4.out; omega
            unfold mixS
            rw [m1, m2, hr1, hr2, hc2, HAL.out, hx, hy]
            rfl)
          have hst := mixA_succ (mixS s) zs cr
          have HST := hide hst
          have HCR := hide hcr
          have e1 : IntKind.i64.wrap ((c : Int) + (r : Int)) = (cr : Int) := by rw [← hcr]; rw [show (c : Int) + (r : Int) = ((c + r : Nat) : Int) by simp]; exact IntWalk.i64_in _ (by omega)
          have e2 : IntKind.i64.wrap ((r : Int) + 1) = (r1 : Int) := by rw [← hr1]; rw [show (r : Int) + 1 = ((r + 1 : Nat) : Int) by simp]; exact IntWalk.i64_in _ (by omega)
          have e3 : Int.tmod (r1 : Int) 4 = (r2 : Int) := by rw [Int.tmod_eq_emod_of_nonneg (by omega)]; omega
          have e4 : IntKind.i64.wrap ((c : Int) + (r2 : Int)) = (c2 : Int) := by rw [← hc2]; rw [show (c : Int) + (r2 : Int) = ((c + r2 : Nat) : Int) by simp]; exact IntWalk.i64_in _ (by omega)
          have e5 : (c : Int) + (r : Int) = (cr : Int) := by rw [← hcr]; simp
          have hxr := xor_ad
          clear hcr hr1 hr2 hc2 hx hy hst
          go_wp2_with fail
          go_quiet (fail)
          clear e1 e2 e3 e4 ca cb
          go_wp2_with (first
            | (go_at_call 38; (with_reducible refine (twice_any _ _).mono ?_); rintro e w' ⟨rfl, rfl⟩))
          clear e5 hxr
          go_roundg (gk - 1)
          case measure => omega
          case rel =>
            have h1 := HS.out.setO cr (ad (ad x al) (tw (ad x y)))
            rw [← HV.out, HCR.out, HST.out] at h1
            rw [← HV.out]
            exact ⟨r + 1, by go_num, by omega, by rw [show c + (r + 1) = cr + 1 by have := HCR.out; omega]; exact h1.drewN _⟩
        · have hr' : decide (r < 4) = false := by simp; omega
          have hr'' : decide ((r : Int) < 4) = false := by simp; omega
          obtain rfl : r = 4 := by omega
          clear hr
          go_wp2_with fail
          go_roundg (ko - 1)
          case measure => omega
          case rel =>
            have := HC4.out
            exact ⟨c + 4, by go_num, by omega, by omega, HS.out⟩
    · have hi' : decide (c < 16) = false := by simp; omega
      have hi'' : decide ((c : Int) < 16) = false := by simp; omega
      obtain rfl : c = 16 := by omega
      clear hi
      go_wp2_with (first
        | (with_reducible refine wpList_load_all rfl 71 (.tmp 3) rfl (w.heap.size + 2) rfl 71 16 _ _ HS.out.o rfl Try.underlying71 info16 ?_)
        | (with_reducible refine wpList_store_all rfl 71 (.tmp 2) (.tmp 59) rfl (w.heap.size + 1) rfl 71 16 _ _ rfl HS.out.z info16 (fun j _ => u8_one _ j) ?_))
      refine bodyPost_ret (results_cell_sub rfl _ _ (w.heap.size + 1) 71 16 _ _ rfl (HS.out.z.row_ _) rfl Try.underlying71 info16) rfl ⟨?_, below_setRow HS.out.below (by omega) _⟩
      rw [mixA_all]
end Go.Proofs.Ytikhaocpohfcnaa.Ae
