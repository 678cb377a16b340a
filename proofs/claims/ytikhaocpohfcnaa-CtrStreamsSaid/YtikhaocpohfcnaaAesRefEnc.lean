/- The document's encryption, walked. -/
import Derived.Test.YtikhaocpohfcnaaAesRefMix
import Derived.Test.YtikhaocpohfcnaaAesRefWords
import Derived.Test.YtikhaocpohfcnaaAesBase
namespace Go.Proofs.Ytikhaocpohfcnaa.Ae
open Go.RowKit Go.Proofs.Ytikhaocpohfcnaa.W Go.Proofs.Ytikhaocpohfcnaa.Gf
set_option linter.unusedVariables false
set_option linter.unusedSimpArgs false

theorem Wds.read {w wr : World} {key : St} {gw c : Nat} {V : Nat → Value} (h : Wds w key 60 (.slice (some ⟨gw, 0, none⟩) 60 c) V wr) : Wk wr gw key := by
  obtain ⟨gB, curB, hAB, hgB, hbkB, hcurB⟩ := own_at h.own (by omega)
  have hgg : gw = gB := by injection hAB with h; injection h
  subst hgg
  refine ⟨hbkB.lt, fun j hj => ?_⟩
  obtain ⟨q, c, a1, _, _, a2⟩ := h.word j hj
  refine ⟨q, c, ?_, a2⟩
  rw [hbkB.cell, hcurB j hj]
  simp only [List.getElem?_map, List.getElem?_range hj, Option.map_some, a1]
theorem radded0 (gs cs gw cw : Nat) (s key : St) (w : World) (hs : Ns w gs 16 s) (hw : Wk w gw key) :
    Calls Try.prog 45 #[.slice (some ⟨gs, 0, none⟩) 16 cs, .slice (some ⟨gw, 0, none⟩) 60 cw, .int .i64 0] w fun e w' => e = .returned (.slice (some ⟨w.heap.size, 0, none⟩) 16 16) ∧ Ns w' w.heap.size 16 (addS (kfun key) 0 s) ∧ Below w.heap.size w w' := radded_any gs cs gw cw 0 (by omega) s key w hs hw
theorem radded14 (gs cs gw cw : Nat) (s key : St) (w : World) (hs : Ns w gs 16 s) (hw : Wk w gw key) :
    Calls Try.prog 45 #[.slice (some ⟨gs, 0, none⟩) 16 cs, .slice (some ⟨gw, 0, none⟩) 60 cw, .int .i64 14] w fun e w' => e = .returned (.slice (some ⟨w.heap.size, 0, none⟩) 16 16) ∧ Ns w' w.heap.size 16 (addS (kfun key) 14 s) ∧ Below w.heap.size w w' := radded_any gs cs gw cw 14 (by omega) s key w hs hw
def FillRel (w2 : World) (f : St) (k : Nat) (s8 : Value) (wr : World) : Prop := ∃ i : Nat, s8 = .int .i64 (i : Int) ∧ i + k = 16 ∧ Ns wr w2.heap.size 16 (mixA f (fun _ => 0#8) i) ∧ Below w2.heap.size w2 wr
def RndRel (w2 : World) (kf s : St) (k : Nat) (s7 s9 : Value) (wr : World) : Prop := ∃ n g : Nat, s7 = .slice (some ⟨g, 0, none⟩) 16 16 ∧ s9 = .int .i64 (n : Int) ∧ 1 ≤ n ∧ n + k = 14 ∧ Ns wr g 16 (rndS kf (n - 1) s) ∧ Below w2.heap.size w2 wr
def OutRel (w5 : World) (f : St) (k : Nat) (s11 : Value) (wr : World) : Prop := ∃ i : Nat, s11 = .int .i64 (i : Int) ∧ i + k = 16 ∧ Blk wr w5.heap.size 5 (row 16 (u8s (mixA f (fun _ => 0#8) i))) ∧ Below w5.heap.size w5 wr
set_option maxRecDepth 100000 in
set_option maxHeartbeats 1000000 in
theorem rencrypt_any (k0 s : ByteArray) (hk : k0.size = 32) (hs : s.size = 16) (w : World) : Calls Try.prog 31 #[.string k0, .string s] w fun e w' => e = .returned (.string (strB 16 (encS (kfun (sbyte k0)) (sbyte s)))) ∧ Below w.heap.size w w' := by
  have hmk := make16i
  have hmb := make16
  have HK := hide hk
  have HS := hide hs
  clear hk hs
  go_enter Try.func31, Try.ntmps31
  go_upto_region 4 with (first
    | (go_at_call 43; (with_reducible refine (rboxes_any _).mono ?_); rintro e w1 ⟨gb, cb, rfl, hgb, hnb, hb⟩; have HNB1 := hide hnb; have HB1 := hide hb; clear hb hnb hgb)
    | (go_at_call 44; (with_reducible refine (rwords_any _ HK.out _ _ _ HNB1.out).mono ?_); rintro e w2 ⟨gw, cw, V, rfl, hw⟩; have HW2 := hide hw.read; have HNB2 := hide (HNB1.out.later hw.below); have HB2 := hide (HB1.out.trans (hw.below.mono HB1.out.size)); clear hw))
  go_wp2_with fail
  go_loopg [8] 16 (fun k s8 wr => FillRel w2 (sbyte s) k s8 wr)
  case atStart => exact ⟨0, rfl, rfl, (Ns.zero w2 _ rfl).as (fun r hr => by simp [mixA]), (Below.refl _ _).alloc (Nat.le_refl _) _⟩
  case round =>
    obtain ⟨i, rfl, hk, hx, hbx⟩ := hrel
    have HX := hide hx
    have HBx := hide hbx
    clear hx hbx
    by_cases hi : i < 16
    · have hgk : 0 < gk := by omega
      have hi' : (i : Int) < 16 := by omega
      have l0 : i < s.size := by rw [HS.out]; omega
      have g0 := getElem_sbyte s i l0
      have p0 : IntKind.i64.wrap ((sbyte s i).toNat : Int) = ((sbyte s i).toNat : Int) := IntWalk.i64_in _ (by have := (sbyte s i).isLt; omega)
      have fx := HX.out.frozen i
      have ck := HX.out.at hi
      go_wp2_with fail
      go_roundg (gk - 1)
      case measure => omega
      case rel =>
        have h1 := HX.out.set_ i (sbyte s i)
        rw [mixA_succ] at h1
        exact ⟨i + 1, by go_num, by omega, h1, HBx.out.setCell (Nat.le_refl _) _⟩
    · have hi' : decide (i < 16) = false := by simp; omega
      have hi'' : decide ((i : Int) < 16) = false := by simp; omega
      obtain rfl : i = 16 := by omega
      clear hi
      have HX3 := hide (HX.out.as (f' := sbyte s) (fun j hj => by simp [mixA, hj]))
      have HW3 := hide (HW2.out.later HBx.out)
      go_upto_region 9 with (first
        | (go_at_call 45; (with_reducible refine (radded0 _ _ _ _ _ _ _ HX3.out HW3.out).mono ?_); rintro e w3 ⟨rfl, hx, hb⟩; have HX4 := hide hx; have HB4 := hide (HBx.out.trans (hb.mono HBx.out.size)); clear hx hb))
      go_wp2_with fail
      go_loopg [7, 9] 13 (fun k s7 s9 wr => RndRel w2 (kfun (sbyte k0)) (sbyte s) k s7 s9 wr)
      case atStart => exact ⟨1, _, rfl, rfl, by omega, by omega, HX4.out, HB4.out⟩
      case round =>
        obtain ⟨n, g, rfl, rfl, h1n, hk, hx, hbx⟩ := hrel
        clear HX HBx HX3 HW3 HX4 HB4
        have HX := hide hx
        have HBx := hide hbx
        clear hx hbx
        have HNBx := hide (HNB2.out.later HBx.out)
        have HWx := hide (HW2.out.later HBx.out)
        by_cases hn : n < 14
        · have hgk : 0 < gk := by omega
          have hn' : (n : Int) < 14 := by omega
          have hn15 : n < 15 := by omega
          go_wp2_with (first
            | (go_at_call 47; (with_reducible refine (rshifted_any _ _ _ _ _ _ HX.out HNBx.out).mono ?_); rintro e w4 ⟨rfl, hx, hb⟩; have HX4 := hide hx; have HB4 := hide (HBx.out.trans (hb.mono HBx.out.size)); clear hx hb)
            | (go_at_call 46; (with_reducible refine (rmixed_any _ _ _ _ HX4.out).mono ?_); rintro e w5 ⟨rfl, hx, hb⟩; have HX5 := hide hx; have HB5 := hide (HB4.out.trans (hb.mono HB4.out.size)); have HW5 := hide (HW2.out.later HB5.out); clear hx hb)
            | (go_at_call 45; (with_reducible refine (radded_any _ _ _ _ n hn15 _ _ _ HX5.out HW5.out).mono ?_); rintro e w6 ⟨rfl, hx, hb⟩; have HX6 := hide hx; have HB6 := hide (HB5.out.trans (hb.mono HB5.out.size)); clear hx hb))
          go_roundg (gk - 1)
          case measure => omega
          case rel =>
            refine ⟨n + 1, _, rfl, by go_num, by omega, by omega, ?_, HB6.out⟩
            have h := HX6.out
            obtain ⟨m, rfl⟩ : ∃ m, n = m + 1 := ⟨n - 1, by omega⟩
            exact h
        · have hn' : decide (n < 14) = false := by simp; omega
          have hn'' : decide ((n : Int) < 14) = false := by simp; omega
          obtain rfl : n = 14 := by omega
          clear hn
          go_upto_region 14 with (first
            | (go_at_call 47; (with_reducible refine (rshifted_any _ _ _ _ _ _ HX.out HNBx.out).mono ?_); rintro e w4 ⟨rfl, hx, hb⟩; have HX4 := hide hx; have HB4 := hide (HBx.out.trans (hb.mono HBx.out.size)); have HW4 := hide (HW2.out.later HB4.out); clear hx hb)
            | (go_at_call 45; (with_reducible refine (radded14 _ _ _ _ _ _ _ HX4.out HW4.out).mono ?_); rintro e w5 ⟨rfl, hx, hb⟩; have HX5 := hide hx; have HB5 := hide (HB4.out.trans (hb.mono HB4.out.size)); clear hx hb))
          have HE : Hid (Ns w5 w4.heap.size 16 (encS (kfun (sbyte k0)) (sbyte s))) := HX5
          have HQ : Hid (w4.heap.size < w5.heap.size) := hide HE.out.lt
          generalize w4.heap.size = g5 at HE HQ ⊢
          clear HX HBx HNBx HWx HX4 HB4 HW4 HX5
          obtain ⟨f, hf⟩ : ∃ f, encS (kfun (sbyte k0)) (sbyte s) = f := ⟨_, rfl⟩
          rw [hf] at HE
          have HF := hide hf
          clear hf
          go_wp2_with fail
          go_loopg [11] 16 (fun k s11 wr => OutRel w5 f k s11 wr)
          case atStart => exact ⟨0, rfl, rfl, Blk.newAt w5 _ _ _ rfl, (Below.refl _ _).alloc (Nat.le_refl _) _⟩
          case round =>
            obtain ⟨i, rfl, hk, hx, hbx⟩ := hrel
            have HX := hide hx
            have HBx := hide hbx
            clear hx hbx
            by_cases hi : i < 16
            · have hgk : 0 < gk := by omega
              have hi' : (i : Int) < 16 := by omega
              have cf := (HE.out.later HBx.out).at hi
              obtain ⟨x, hx⟩ : ∃ x, f i = x := ⟨_, rfl⟩
              have HV := hide hx
              rw [hx] at cf
              have hcv : IntKind.u8.wrap (x.toNat : Int) = (x.toNat : Int) := wrap_u8 (by omega) (by have := x.isLt; omega)
              have fx := HX.out.frozen i
              have ck := HX.out.at hi
              simp only [u8s] at ck
              clear hx
              go_wp2_with fail
              go_roundg (gk - 1)
              case measure => omega
              case rel =>
                have h1 := HX.out.upd i (.int .u8 (x.toNat : Int))
                rw [u8s_upd, ← HV.out, mixA_succ] at h1
                rw [← HV.out]
                exact ⟨i + 1, by go_num, by omega, h1, HBx.out.setCell (Nat.le_refl _) _⟩
            · have hi' : decide (i < 16) = false := by simp; omega
              have hi'' : decide ((i : Int) < 16) = false := by simp; omega
              obtain rfl : i = 16 := by omega
              clear hi
              have hcv := run_convert_row wr _ _ _ Try.underlying56 Try.underlying5 Try.underlying9 w5.heap.size 0 16 16 f (fun j hj => by
                rw [Nat.zero_add, HX.out.at hj]
                simp only [u8s, mixA]
                rw [if_pos hj])
              go_wp2_with fail
              go_ret
              rw [HF.out]
              exact ⟨rfl, (HB2.out.trans (HB5.out.mono HB2.out.size)).trans (HBx.out.mono (HB2.out.trans (HB5.out.mono HB2.out.size)).size)⟩
end Go.Proofs.Ytikhaocpohfcnaa.Ae
