/- The law that two texts that are sealed with one number differ just where their bodies do, walked. -/
import Derived.Test.YtikhaocpohfcnaaCtrXor
namespace Go.Proofs.Ytikhaocpohfcnaa.Ct
open Go.RowKit Go.Proofs.Ytikhaocpohfcnaa.W Go.Proofs.Ytikhaocpohfcnaa.Gf Go.Proofs.Ytikhaocpohfcnaa.Ae
set_option linter.unusedVariables false
set_option linter.unusedSimpArgs false

theorem zeros16 (w : World) : Calls Try.prog 21 #[.int .i64 16] w fun e w' => e = .returned (.string (zerosB 16)) ∧ Below w.heap.size w w' := zeros_any 16 (by omega) w
theorem alike (kf : St) (m : Nat) {s t : ByteArray} (hs : s.size = 48) (ht : t.size = 48) : xorB 64 (sbyte (sealB kf m s)) (sbyte (sealB kf m t)) = zerosB 16 ++ xorB 48 (sbyte s) (sbyte t) := by
  unfold xorB zerosB
  rw [strB_append]
  refine strB_congr (fun i hi => ?_)
  unfold sealB
  by_cases h : i < 16
  · rw [if_pos h, sbyte_append_left (by rw [headB_size]; exact h), sbyte_append_left (by rw [headB_size]; exact h), BitVec.xor_self]
  · obtain ⟨j, rfl⟩ : ∃ j, i = 16 + j := ⟨i - 16, by omega⟩
    rw [if_neg h, sbyte_append_right (headB_size m 1), sbyte_append_right (headB_size m 1)]
    unfold cryB xorB
    rw [sbyte_strB _ (by omega), sbyte_strB _ (by omega), show 16 + j - 16 = j by omega]
    have key : ∀ a b c : BitVec 8, (a ^^^ c) ^^^ (b ^^^ c) = a ^^^ b := fun a b c => by
      rw [BitVec.xor_comm b c, ← BitVec.xor_assoc, BitVec.xor_assoc a c c, BitVec.xor_self, BitVec.xor_zero]
    exact key _ _ _
set_option maxRecDepth 100000 in
set_option maxHeartbeats 1000000 in
theorem ctrAlike_walk (key s0 t0 : ByteArray) (n : Int) (w : World) : Calls Try.prog 5 #[.agg #[.string key, .int .i64 n, .string s0, .string t0]] w fun e w' => e = .returned (.bool true) ∧ Below w.heap.size w w' := by
  obtain ⟨s, hs⟩ : ∃ d, dataS s0 = d := ⟨_, rfl⟩
  obtain ⟨t, ht⟩ : ∃ d, dataS t0 = d := ⟨_, rfl⟩
  have HS := hide (fun W => data_any s0 W)
  have HT := hide (fun W => data_any t0 W)
  rw [hs] at HS
  rw [ht] at HT
  have hzs : s.size = 48 := by rw [← hs]; exact dataS_size _
  have hzt : t.size = 48 := by rw [← ht]; exact dataS_size _
  have HZS := hide hzs
  have HZT := hide hzt
  have HK := hide (fun W => Key_any key W)
  clear hs ht
  by_cases hn : n < 0 ∨ 1099511627776 < n
  · have HN := hide hn
    clear hn hzs hzt
    go_enter Try.func5, Try.ntmps5
    go_upto_region 1 with fail
    go_quiet (fail)
    have HB0 := hide ((Below.refl w.heap.size w).alloc (Nat.le_refl _) (.cells #[.string key, .int .i64 n, .string s0, .string t0] 43))
    generalize (w.alloc (.cells #[.string key, .int .i64 n, .string s0, .string t0] 43)) = W0 at HB0 ⊢
    go_wp2_with (first
      | (go_at_call 9; (with_reducible refine (HK.out _).mono ?_); rintro e w1 ⟨g, rfl, hk, hb⟩; have HB1 := hide hb; clear hb hk)
      | (go_at_call 19; first
          | ((with_reducible refine (HS.out _).mono ?_); rintro e w2 ⟨rfl, hb⟩; have HB2 := hide hb; clear hb)
          | ((with_reducible refine (HT.out _).mono ?_); rintro e w3 ⟨rfl, hb⟩; have HB3 := hide (HB2.out.trans (hb.mono HB2.out.size)); clear hb))
      | (go_at_call 20; first
          | ((with_reducible refine (seal_arg g n HN.out s _).mono ?_); rintro e w4 ⟨rfl, hb⟩; have HB4 := hide (HB3.out.trans (hb.mono HB3.out.size)); clear hb)
          | ((with_reducible refine (seal_arg g n HN.out t _).mono ?_); rintro e w5 ⟨rfl, hb⟩; have HB5 := hide (HB4.out.trans (hb.mono HB4.out.size)); clear hb))
      | (go_at_call 12; (with_reducible refine (lright_no n HN.out _).mono ?_); rintro e wx ⟨rfl, hw⟩; subst wx)
      | (go_at_call 13; (with_reducible refine (awake_any _).mono ?_); rintro e w6 ⟨rfl, hb⟩; have HB6 := hide (HB5.out.trans (hb.mono HB5.out.size)); clear hb))
    go_ret
    have h0 := below_drewN HB0.out nq
    have h1 := h0.trans (HB1.out.mono h0.size)
    exact ⟨rfl, h1.trans (HB6.out.mono h1.size)⟩
  · obtain ⟨m, rfl⟩ : ∃ m : Nat, n = (m : Int) := ⟨n.toNat, by omega⟩
    have HN : Hid (m ≤ 1099511627776) := hide (by omega)
    have HX := hide (fun kf W => rxor_any (sealB kf m s) (sealB kf m t) 64 (isK_seal kf HN.out hzs).1 (isK_seal kf HN.out hzt).1 (by omega) W)
    have HY := hide (fun W => rxor_any s t 48 hzs hzt (by omega) W)
    obtain ⟨x, hx⟩ : ∃ x, xorB 48 (sbyte s) (sbyte t) = x := ⟨_, rfl⟩
    have HA := hide (fun kf => alike kf m hzs hzt)
    rw [hx] at HY HA
    have hxs : x.size = 48 := by rw [← hx]; exact strB_size _ _
    have hadd : ∀ w, (Op.stringOp .add (zerosB 16) x).run Try.prog w = .ok (.string (zerosB 16 ++ x)) w := fun w => run_string_add_sum w _ _ (by simp only [zerosB, strB_size, hxs]; omega)
    clear hn hzs hzt hx hxs
    go_enter Try.func5, Try.ntmps5
    go_upto_region 1 with fail
    go_quiet (fail)
    have HB0 := hide ((Below.refl w.heap.size w).alloc (Nat.le_refl _) (.cells #[.string key, .int .i64 (m : Int), .string s0, .string t0] 43))
    generalize (w.alloc (.cells #[.string key, .int .i64 (m : Int), .string s0, .string t0] 43)) = W0 at HB0 ⊢
    go_wp2_with (first
      | (go_at_call 9; (with_reducible refine (HK.out _).mono ?_); rintro e w1 ⟨g, rfl, hk, hb⟩; have HK1 := hide hk; have HB1 := hide hb; clear hb hk; (obtain ⟨kf, hkf⟩ : ∃ kf, kfun (sbyte (keyS key)) = kf := ⟨_, rfl⟩); rw [hkf] at HK1; clear hkf; (have HXk := hide (HX.out kf)); (have hak := HA.out kf); rw [hak] at HXk; clear hak)
      | (go_at_call 19; first
          | ((with_reducible refine (HS.out _).mono ?_); rintro e w2 ⟨rfl, hb⟩; have HB2 := hide hb; clear hb)
          | ((with_reducible refine (HT.out _).mono ?_); rintro e w3 ⟨rfl, hb⟩; have HB3 := hide (HB2.out.trans (hb.mono HB2.out.size)); clear hb))
      | (go_at_call 20; first
          | ((with_reducible refine (seal_ok g m kf HN.out s HZS.out _ (HK1.out.later HB3.out)).mono ?_); rintro e w4 ⟨rfl, hb⟩; have HB4 := hide (HB3.out.trans (hb.mono HB3.out.size)); clear hb)
          | ((with_reducible refine (seal_ok g m kf HN.out t HZT.out _ (HK1.out.later HB4.out)).mono ?_); rintro e w5 ⟨rfl, hb⟩; have HB5 := hide (HB4.out.trans (hb.mono HB4.out.size)); clear hb))
      | (go_at_call 12; (with_reducible refine (lright_yes m HN.out _).mono ?_); rintro e wx ⟨rfl, hw⟩; subst wx)
      | (go_at_call 13; (with_reducible refine (awake_any _).mono ?_); rintro e w6 ⟨rfl, hb⟩; have HB6 := hide (HB5.out.trans (hb.mono HB5.out.size)); clear hb)
      | (go_at_call 14; first
          | ((with_reducible refine (HXk.out _).mono ?_); rintro e w7 ⟨rfl, hb⟩; have HB7 := hide (HB6.out.trans (hb.mono HB6.out.size)); clear hb)
          | ((with_reducible refine (HY.out _).mono ?_); rintro e w9 ⟨rfl, hb⟩; have HB9 := hide (HB8.out.trans (hb.mono HB8.out.size)); clear hb))
      | (go_at_call 21; (with_reducible refine (zeros16 _).mono ?_); rintro e w8 ⟨rfl, hb⟩; have HB8 := hide (HB7.out.trans (hb.mono HB7.out.size)); clear hb))
    go_ret
    have h0 := below_drewN HB0.out nq
    have h1 := h0.trans (HB1.out.mono h0.size)
    exact ⟨rfl, h1.trans (HB9.out.mono h1.size)⟩
end Go.Proofs.Ytikhaocpohfcnaa.Ct
