/- The document's stream, walked. -/
import Derived.Test.YtikhaocpohfcnaaCtrXor
import Derived.Test.YtikhaocpohfcnaaAesRefEnc
import Derived.Deep.RegionHeld3
namespace Go.Proofs.Ytikhaocpohfcnaa.Ct
open Go.RowKit Go.Proofs.Ytikhaocpohfcnaa.W Go.Proofs.Ytikhaocpohfcnaa.Gf Go.Proofs.Ytikhaocpohfcnaa.Ae
set_option linter.unusedVariables false
set_option linter.unusedSimpArgs false

theorem conv1 (W : World) (g : Nat) (x : BitVec 8) (h : W.cell? ⟨g, 0, none⟩ = some (.int .u8 (x.toNat : Int))) : (convert 56 9 (.slice (some ⟨g, 0, none⟩) 1 1)).run Try.prog W = .ok (.string (strB 1 fun _ => x)) W :=
  run_convert_row _ _ _ _ Try.underlying56 Try.underlying5 Try.underlying9 g 0 1 1 (fun _ => x) (fun j hj => by
    have : j = 0 := by omega
    subst this
    exact h)
theorem blk_eq2 (n j : Nat) (x : BitVec 8) (hx : BitVec.ofNat 8 j = x) : Eq16 (sbyte (numB n ++ zerosB 7 ++ strB 1 fun _ => x)) (blkS n j) := by
  have e : numB n ++ zerosB 7 ++ strB 1 (fun _ => x) = numB n ++ strB 8 (tail8 j) := by
    unfold numB zerosB
    rw [strB_append, strB_append, strB_append]
    refine strB_congr (fun i hi => ?_)
    unfold tail8
    by_cases h1 : i < 8
    · rw [if_pos (by omega), if_pos h1, if_pos h1]
    · by_cases h2 : i < 15
      · rw [if_pos (by omega), if_neg h1, if_neg h1, if_neg (by omega)]
      · rw [if_neg (by omega), if_neg h1, if_pos (by omega), hx]
  rw [e]
  exact blk_eq n j
theorem stream_snoc (kf : St) (n j : Nat) : streamB kf n (16 * j) ++ strB 16 (encS kf (blkS n j)) = streamB kf n (16 * (j + 1)) := by
  unfold streamB
  rw [strB_append]
  refine strB_congr (fun i hi => ?_)
  by_cases h : i < 16 * j
  · rw [if_pos h]
  · rw [if_neg h, strm_blk kf n j _ (by omega), show 16 * j + (i - 16 * j) = i by omega]
theorem cell_keep1 {W w' : World} {v : Value} {t : TypeId} (hb : Below (W.alloc (.cells #[v] t)).drew.heap.size (W.alloc (.cells #[v] t)).drew w') : w'.cell? ⟨W.heap.size, 0, none⟩ = some v :=
  (hb.cell (p := ⟨W.heap.size, 0, none⟩) (by show W.heap.size < (W.alloc (.cells #[v] t)).heap.size; simp)).trans (Blk.newAt W t #[v] _ rfl).one_
theorem cell_keep2 {W w' : World} {v : Value} {t : TypeId} (hb : Below (W.alloc (.cells #[v] t)).heap.size (W.alloc (.cells #[v] t)) w') : w'.cell? ⟨W.heap.size, 0, none⟩ = some v :=
  (hb.cell (p := ⟨W.heap.size, 0, none⟩) (by show W.heap.size < (W.alloc (.cells #[v] t)).heap.size; simp)).trans (Blk.newAt W t #[v] _ rfl).one_
theorem cell_keep3 {w1 w2 : World} {g : Nat} {v : Value} (hb : Below w1.heap.size w1 w2) (hc : w1.cell? ⟨g, 0, none⟩ = some v) : w2.cell? ⟨g, 0, none⟩ = some v := by
  refine (hb.cell (p := ⟨g, 0, none⟩) ?_).trans hc
  rcases Nat.lt_or_ge g w1.heap.size with h | h
  · exact h
  · simp [World.cell?, Array.getElem?_eq_none h] at hc
def RStmRel (w : World) (kf : St) (n M k : Nat) (s7 s8 : Value) (wr : World) : Prop := ∃ j p : Nat, p = 16 * j ∧ s7 = .string (streamB kf n p) ∧ s8 = .int .i64 (j : Int) ∧ j + k = M ∧ Below w.heap.size w wr
set_option maxRecDepth 100000 in
set_option maxHeartbeats 4000000 in
theorem rstream_any (key : ByteArray) (hk : key.size = 32) (n m : Nat) (hn : n ≤ 1099511627776) (hm : m ≤ 1000) (w : World) : Calls Try.prog 15 #[.string key, .int .i64 (n : Int), .int .i64 (m : Int)] w fun e w' => e = .returned (.string (streamB (kfun (sbyte key)) n m)) ∧ Below w.heap.size w w' := by
  obtain ⟨kf, hkf⟩ : ∃ kf, kfun (sbyte key) = kf := ⟨_, rfl⟩
  have HE := hide (fun (s : ByteArray) (hs : s.size = 16) (W : World) => rencrypt_any key s hk hs W)
  rw [hkf] at HE ⊢
  have HN := hide hn
  clear hk hkf hn
  go_enter Try.func15, Try.ntmps15
  go_wp2_with fail
  go_loopg [7, 8] 64 (fun k s7 s8 wr => RStmRel w kf n 64 k s7 s8 wr)
  case atStart => exact ⟨0, 0, rfl, by unfold streamB; rw [strB_zero], rfl, rfl, Below.refl _ _⟩
  case round =>
    obtain ⟨j, p, hp, rfl, rfl, hjk, hbx⟩ := hrel
    have HBx := hide hbx
    have HP := hide hp
    have hps : (streamB kf n p).size = p := strB_size _ _
    have hps' : ((streamB kf n p).size : Int) = (p : Int) := by omega
    clear hbx
    by_cases hi : p < m
    · have hgk : 0 < gk := by omega
      have hi' : (p : Int) < (m : Int) := by omega
      obtain ⟨x, hx⟩ : ∃ x, BitVec.ofNat 8 j = x := ⟨_, rfl⟩
      have e1 : IntKind.u8.wrap (j : Int) = (x.toNat : Int) := by
        rw [← hx, BitVec.toNat_ofNat]
        simp [IntKind.wrap, IntKind.bits, IntKind.signed]
      have hq := blk_eq2 n j x hx
      have hnum : numB n ++ zerosB 7 ++ strB 1 (fun _ => x) = numB n ++ zerosB 7 ++ strB 1 (fun _ => x) := rfl
      obtain ⟨y, hy⟩ : ∃ y, numB n ++ zerosB 7 = y := ⟨_, rfl⟩
      obtain ⟨t, ht⟩ : ∃ t, y ++ strB 1 (fun _ => x) = t := ⟨_, rfl⟩
      have hys : y.size = 15 := by rw [← hy, ByteArray.size_append, numB_size]; simp [zerosB, strB_size]
      have hts : t.size = 16 := by rw [← ht, ByteArray.size_append, hys, strB_size]
      have ha1 : ∀ w, (Op.stringOp .add (numB n) (zerosB 7)).run Try.prog w = .ok (.string y) w := fun w => by
        rw [← hy]
        exact run_string_add_sum w _ _ (by simp only [numB_size, zerosB, strB_size]; omega)
      have ha2 : ∀ w, (Op.stringOp .add y (strB 1 fun _ => x)).run Try.prog w = .ok (.string t) w := fun w => by
        rw [← ht]
        exact run_string_add_sum w _ _ (by simp only [hys, strB_size]; omega)
      rw [hy, ht] at hq
      have hse : strB 16 (encS kf (sbyte t)) = strB 16 (encS kf (blkS n j)) := strB_congr (enc_congr kf hq)
      have HEt := hide (fun W => HE.out t hts W)
      rw [hse] at HEt
      obtain ⟨u, hu⟩ : ∃ u, strB 16 (encS kf (blkS n j)) = u := ⟨_, rfl⟩
      rw [hu] at HEt
      have hus : u.size = 16 := by rw [← hu]; exact strB_size _ _
      have hst := stream_snoc kf n j
      rw [← hp, hu] at hst
      obtain ⟨v, hv⟩ : ∃ v, streamB kf n p ++ u = v := ⟨_, rfl⟩
      have ha3 : ∀ w, (Op.stringOp .add (streamB kf n p) u).run Try.prog w = .ok (.string v) w := fun w => by
        rw [← hv]
        exact run_string_add_sum w _ _ (by rw [hps, hus]; omega)
      rw [hv] at hst
      have HV := hide hst
      clear hx hnum hy ht hys hts hq hse hu hus hst hv hp hps
      have HNb : Hid (n < 9223372036854775808) := hide (by have := HN.out; omega)
      go_upto_region 5 with fail
      obtain ⟨s0, hs0⟩ : ∃ s0, streamB kf n p = s0 := ⟨_, rfl⟩
      rw [hs0] at ha3 hps'
      simp only [hs0]
      clear hs0
      have hcv : ∀ (W : World) (g : Nat), W.cell? ⟨g, 0, none⟩ = some (.int .u8 (x.toNat : Int)) → (convert 56 9 (.slice (some ⟨g, 0, none⟩) 1 1)).run Try.prog W = .ok (.string (strB 1 fun _ => x)) W := fun W g h => conv1 W g x h
      go_region_with (first
        | (go_at_call 32; (with_reducible refine (rn8 n HNb.out _).mono ?_); rintro e w1 ⟨rfl, hb⟩; (have HB1 : Hid (Below wr.heap.size wr w1) := hide (by first | exact (below_drewN (Below.refl _ _) 1).trans (hb.mono (by simp)) | exact (below_drewN ((Below.refl _ _).alloc (Nat.le_refl _) _) 1).trans (hb.mono (by simp)))); (first | (have hc1 := cell_keep1 hb) | skip); clear hb)
        | (go_at_call 21; (with_reducible refine (zeros7 _).mono ?_); rintro e w2 ⟨rfl, hb⟩; (have HB2 : Hid (Below wr.heap.size wr w2) := hide (by first | exact HB1.out.trans (hb.mono HB1.out.size) | exact (HB1.out.alloc HB1.out.size _).trans (hb.mono (by have := HB1.out.size; simp; omega)))); (first | (have hc2 := cell_keep3 hb hc1) | (have hc2 := cell_keep2 hb) | skip); clear hb)
        | (go_at_call 31; (with_reducible refine (HEt.out _).mono ?_); rintro e w3 ⟨rfl, hb⟩; (have HB3 : Hid (Below wr.heap.size wr w3) := hide (by first | exact HB2.out.trans (hb.mono HB2.out.size) | exact (HB2.out.alloc HB2.out.size _).trans (hb.mono (by have := HB2.out.size; simp; omega)))); clear hb))
      all_goals
        go_wp2_with fail
        go_roundg (gk - 1)
        case measure => omega
        case rel => exact ⟨j + 1, 16 * (j + 1), rfl, by rw [HV.out], by go_num, by omega, HBx.out.trans (HB3.out.mono HBx.out.size)⟩
    · have hi' : decide (p < m) = false := by simp; omega
      have hi'' : decide ((p : Int) < (m : Int)) = false := by simp; omega
      have l1 : (m : Int) ≤ ((streamB kf n p).size : Int) := by omega
      have l2 : m ≤ (streamB kf n p).size := by omega
      have HX : Hid ((streamB kf n p).extract 0 m = streamB kf n m) := hide (by
        unfold streamB
        rw [extract_strB _ (by omega) (by omega)]
        exact strB_congr (fun i hi => by rw [Nat.zero_add]))
      clear hi hp hps
      go_wp2_with fail
      go_ret
      rw [HX.out]
      exact ⟨rfl, HBx.out⟩
end Go.Proofs.Ytikhaocpohfcnaa.Ct
