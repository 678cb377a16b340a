/- The laws on sealed and plain blocks, and on kinds, walked. -/
import Derived.Test.YtikhaocpohfcnaaCtrRStream
import Derived.Test.YtikhaocpohfcnaaCtrRKind
namespace Go.Proofs.Ytikhaocpohfcnaa.Ct
open Go.RowKit Go.Proofs.Ytikhaocpohfcnaa.W Go.Proofs.Ytikhaocpohfcnaa.Gf Go.Proofs.Ytikhaocpohfcnaa.Ae
set_option linter.unusedVariables false
set_option linter.unusedSimpArgs false

theorem rkind_no (s : ByteArray) (h : ¬ isK s) (w : World) : Calls Try.prog 18 #[.string s] w fun e w' => e = .returned (.tuple #[.int .i64 0, .int .i64 0, .bool false]) ∧ Below w.heap.size w w' := by
  by_cases hs : s.size = 64
  · by_cases h0 : (sbyte s 0).toNat < 128
    · by_cases h1 : val (sbyte s) 8 ≤ 1099511627776
      · by_cases h2 : (sbyte s 8).toNat = 1 ∨ (sbyte s 8).toNat = 2
        · refine rkind_cmp s false _ hs h0 h1 rfl h2 ?_ w
          cases hc : ((s.extract 9 16).toList == (zerosB 7).toList)
          · rfl
          · exact absurd ⟨hs, h0, h1, h2, (cmp7 hs).1 hc⟩ h
        · exact rkind_cls s hs h0 h1 (by omega) w
      · exact rkind_num s hs h0 h1 w
    · exact rkind_top s hs h0 w
  · exact rkind_len s hs w
theorem rkind_yes (s : ByteArray) (h : isK s) (k : Nat) (hk : (sbyte s 8).toNat = k) (w : World) : Calls Try.prog 18 #[.string s] w fun e w' => e = .returned (.tuple #[.int .i64 (val (sbyte s) 8 : Int), .int .i64 (k : Int), .bool true]) ∧ Below w.heap.size w w' := by
  obtain ⟨hs, h0, h1, h2, h3⟩ := h
  exact rkind_cmp s true k hs h0 h1 hk (hk ▸ h2) ((cmp7 hs).2 h3) w
theorem rstream48 (key : ByteArray) (hk : key.size = 32) (n : Nat) (hn : n ≤ 1099511627776) (w : World) : Calls Try.prog 15 #[.string key, .int .i64 (n : Int), .int .i64 48] w fun e w' => e = .returned (.string (streamB (kfun (sbyte key)) n 48)) ∧ Below w.heap.size w w' := rstream_any key hk n 48 hn (by omega) w
theorem rxor_stream (kf : St) (n m : Nat) (s : ByteArray) (hs : s.size = m) (hm : m ≤ 1000) (w : World) : Calls Try.prog 14 #[.string s, .string (streamB kf n m)] w fun e w' => e = .returned (.string (cryB kf n s)) ∧ Below w.heap.size w w' := by
  have h := rxor_any s (streamB kf n m) m hs (strB_size _ _) hm w
  have e : xorB m (sbyte s) (sbyte (streamB kf n m)) = cryB kf n s := by
    unfold cryB xorB
    rw [hs]
    exact strB_congr (fun i hi => by rw [show sbyte (streamB kf n m) i = strm kf n i from sbyte_strB _ hi])
  rw [e] at h
  exact h
set_option maxRecDepth 100000 in
set_option maxHeartbeats 1000000 in
theorem ctrSeals_walk (key s : ByteArray) (n : Int) (w : World) : Calls Try.prog 7 #[.string key, .int .i64 n, .string s] w fun e w' => e = .returned (.bool true) ∧ Below w.heap.size w w' := by
  have HK := hide (fun W => Key_any key W)
  have HKS := hide (keyS_size key)
  have hnn : ((⟨#[]⟩ : ByteArray) ++ ⟨#[]⟩) = ⟨#[]⟩ := rfl
  have hnl : (⟨#[]⟩ : ByteArray).toList = [] := by rw [ByteArray.toList_eq]
  by_cases hn : n < 0 ∨ 1099511627776 < n
  · have HN := hide hn
    clear hn
    go_enter Try.func7, Try.ntmps7
    go_wp2_with (first
      | (go_at_call 9; (with_reducible refine (HK.out _).mono ?_); rintro e w1 ⟨g, rfl, hk, hb⟩; have HK1 := hide hk; have HB1 := hide hb; clear hb hk)
      | (go_at_call 20; (with_reducible refine (seal_arg g n HN.out s _).mono ?_); rintro e w2 ⟨rfl, hb⟩; have HB2 := hide (HB1.out.trans (hb.mono HB1.out.size)); clear hb)
      | (go_at_call 23; (with_reducible refine (Lay_arg n HN.out s _).mono ?_); rintro e w3 ⟨rfl, hb⟩; have HB3 := hide (HB2.out.trans (hb.mono HB2.out.size)); clear hb)
      | (go_at_call 12; (with_reducible refine (lright_no n HN.out _).mono ?_); rintro e wx ⟨rfl, hw⟩; subst wx)
      | (go_at_call 13; (with_reducible refine (awake_any _).mono ?_); rintro e w4 ⟨rfl, hb⟩; have HB4 := hide (HB3.out.trans (hb.mono HB3.out.size)); clear hb))
    go_ret
    exact ⟨rfl, HB4.out⟩
  · obtain ⟨m, rfl⟩ : ∃ m : Nat, n = (m : Int) := ⟨n.toNat, by omega⟩
    have HN : Hid (m ≤ 1099511627776) := hide (by omega)
    have HNb : Hid (m < 9223372036854775808) := hide (by omega)
    clear hn
    by_cases hs : s.size = 48
    · have t1 : ((s.size : Int) != 48) = false := by simp; omega
      have t2 : (s.size != 48) = false := by simp; omega
      have HS := hide hs
      have ha1 : ∀ (c : ByteArray), Hid (c.size = 48) → ∀ w, (Op.stringOp .add (headB m 1) c).run Try.prog w = .ok (.string (headB m 1 ++ c)) w := fun c hc w => run_string_add_sum w _ _ (by simp only [headB_size, hc.out]; omega)
      have ha2 : ∀ w, (Op.stringOp .add (headB m 2) s).run Try.prog w = .ok (.string (headB m 2 ++ s)) w := fun w => run_string_add_sum w _ _ (by simp only [headB_size, hs]; omega)
      have HC := hide (fun kf => show (cryB kf m s).size = 48 by rw [cryB_size, HS.out])
      clear hs
      go_enter Try.func7, Try.ntmps7
      go_wp2_with (first
        | (go_at_call 9; (with_reducible refine (HK.out _).mono ?_); rintro e w1 ⟨g, rfl, hk, hb⟩; have HK1 := hide hk; have HB1 := hide hb; clear hb hk; (have HRS := hide (fun W => rstream48 (keyS key) HKS.out m HN.out W)); (obtain ⟨kf, hkf⟩ : ∃ kf, kfun (sbyte (keyS key)) = kf := ⟨_, rfl⟩); rw [hkf] at HK1 HRS; clear hkf; (have ha3 := ha1 (cryB kf m s) (hide (HC.out kf))); (have hse : sealB kf m s = headB m 1 ++ cryB kf m s := rfl))
        | (go_at_call 20; (with_reducible refine (seal_ok g m kf HN.out s HS.out _ HK1.out).mono ?_); rintro e w2 ⟨rfl, hb⟩; have HB2 := hide (HB1.out.trans (hb.mono HB1.out.size)); clear hb)
        | (go_at_call 23; (with_reducible refine (Lay_ok m HN.out s HS.out _).mono ?_); rintro e w3 ⟨rfl, hb⟩; have HB3 := hide (HB2.out.trans (hb.mono HB2.out.size)); clear hb)
        | (go_at_call 12; (with_reducible refine (lright_yes m HN.out _).mono ?_); rintro e wx ⟨rfl, hw⟩; subst wx)
        | (go_at_call 13; (with_reducible refine (awake_any _).mono ?_); rintro e w4 ⟨rfl, hb⟩; have HB4 := hide (HB3.out.trans (hb.mono HB3.out.size)); clear hb)
        | (go_at_call 22; first
            | ((with_reducible refine (headk1 m HNb.out _).mono ?_); rintro e w5 ⟨rfl, hb⟩; have HB5 := hide (HB4.out.trans (hb.mono HB4.out.size)); clear hb)
            | ((with_reducible refine (headk2 m HNb.out _).mono ?_); rintro e w8 ⟨rfl, hb⟩; have HB8 := hide (HB7.out.trans (hb.mono HB7.out.size)); clear hb))
        | (go_at_call 15; (with_reducible refine (HRS.out _).mono ?_); rintro e w6 ⟨rfl, hb⟩; have HB6 := hide (HB5.out.trans (hb.mono HB5.out.size)); clear hb)
        | (go_at_call 14; (with_reducible refine (rxor_stream kf m 48 s HS.out (by omega) _).mono ?_); rintro e w7 ⟨rfl, hb⟩; have HB7 := hide (HB6.out.trans (hb.mono HB6.out.size)); clear hb))
      go_ret
      exact ⟨rfl, HB8.out⟩
    · have t1 : ((s.size : Int) != 48) = true := by simp; omega
      have t2 : (s.size != 48) = true := by simp; omega
      have HS := hide hs
      clear hs
      go_enter Try.func7, Try.ntmps7
      go_wp2_with (first
        | (go_at_call 9; (with_reducible refine (HK.out _).mono ?_); rintro e w1 ⟨g, rfl, hk, hb⟩; have HK1 := hide hk; have HB1 := hide hb; clear hb hk)
        | (go_at_call 20; (with_reducible refine (seal_form g m HN.out s HS.out _).mono ?_); rintro e w2 ⟨rfl, hb⟩; have HB2 := hide (HB1.out.trans (hb.mono HB1.out.size)); clear hb)
        | (go_at_call 23; (with_reducible refine (Lay_form m HN.out s HS.out _).mono ?_); rintro e w3 ⟨rfl, hb⟩; have HB3 := hide (HB2.out.trans (hb.mono HB2.out.size)); clear hb)
        | (go_at_call 12; (with_reducible refine (lright_yes m HN.out _).mono ?_); rintro e wx ⟨rfl, hw⟩; subst wx)
        | (go_at_call 13; (with_reducible refine (awake_any _).mono ?_); rintro e w4 ⟨rfl, hb⟩; have HB4 := hide (HB3.out.trans (hb.mono HB3.out.size)); clear hb))
      go_ret
      exact ⟨rfl, HB4.out⟩
set_option maxRecDepth 100000 in
set_option maxHeartbeats 1000000 in
theorem ctrKinds_walk (key s : ByteArray) (w : World) : Calls Try.prog 4 #[.string key, .string s] w fun e w' => e = .returned (.bool true) ∧ Below w.heap.size w w' := by
  have HK := hide (fun W => Key_any key W)
  have HKS := hide (keyS_size key)
  have hnl : (⟨#[]⟩ : ByteArray).toList = [] := by rw [ByteArray.toList_eq]
  by_cases hk : isK s
  · have hsz := hk.1
    have l1 : (16 : Int) ≤ (s.size : Int) := by omega
    have l2 : 16 ≤ s.size := by omega
    have HE : s.extract 16 s.size = s.extract 16 64 := by rw [hsz]
    obtain ⟨v, hv⟩ : ∃ v, val (sbyte s) 8 = v := ⟨_, rfl⟩
    have HN : Hid (v ≤ 1099511627776) := hide (by rw [← hv]; exact hk.2.2.1)
    have HBs : Hid ((s.extract 16 64).size = 48) := hide (by rw [ByteArray.size_extract, hsz]; rfl)
    rcases hk.2.2.2.1 with h1 | h1
    · have HKi := hide (fun W => kind_yes s hk 1 h1 W)
      have HRK := hide (fun W => rkind_yes s hk 1 h1 W)
      have HU := hide (fun g kf W hkey => unseal_ok g kf s hk h1 W hkey)
      rw [hv] at HKi HRK HU
      obtain ⟨b, hb⟩ : ∃ b, s.extract 16 64 = b := ⟨_, rfl⟩
      rw [hb] at HE HBs HU
      clear hk h1 hv hb hsz
      go_enter Try.func4, Try.ntmps4
      go_wp2_with (first
        | (go_at_call 9; (with_reducible refine (HK.out _).mono ?_); rintro e w1 ⟨g, rfl, hk, hb⟩; have HK1 := hide hk; have HB1 := hide hb; clear hb hk; (have HRS := hide (fun W => rstream48 (keyS key) HKS.out v HN.out W)); (obtain ⟨kf, hkf⟩ : ∃ kf, kfun (sbyte (keyS key)) = kf := ⟨_, rfl⟩); rw [hkf] at HK1 HRS; clear hkf)
        | (go_at_call 16; refine (HKi.out _).mono ?_; rintro e w2 ⟨rfl, hb⟩; have HB2 := hide (HB1.out.trans (hb.mono HB1.out.size)); have HK2 := hide (HK1.out.later hb); clear hb)
        | (go_at_call 17; (with_reducible refine (HU.out g kf _ HK2.out).mono ?_); rintro e w3 ⟨rfl, hb⟩; have HB3 := hide (HB2.out.trans (hb.mono HB2.out.size)); clear hb)
        | (go_at_call 18; refine (HRK.out _).mono ?_; rintro e w4 ⟨rfl, hb⟩; have HB4 := hide (HB3.out.trans (hb.mono HB3.out.size)); clear hb)
        | (go_at_call 15; (with_reducible refine (HRS.out _).mono ?_); rintro e w5 ⟨rfl, hb⟩; have HB5 := hide (HB4.out.trans (hb.mono HB4.out.size)); clear hb)
        | (go_at_call 14; (with_reducible refine (rxor_stream kf v 48 b HBs.out (by omega) _).mono ?_); rintro e w6 ⟨rfl, hb⟩; have HB6 := hide (HB5.out.trans (hb.mono HB5.out.size)); clear hb)
        | (go_at_call 13; (with_reducible refine (awake_any _).mono ?_); rintro e w7 ⟨rfl, hb⟩; have HB7 := hide (HB6.out.trans (hb.mono HB6.out.size)); clear hb))
      go_ret
      exact ⟨rfl, HB7.out⟩
    · have HKi := hide (fun W => kind_yes s hk 2 h1 W)
      have HRK := hide (fun W => rkind_yes s hk 2 h1 W)
      have HU := hide (fun p W => unseal_plain p s hk h1 W)
      rw [hv] at HKi HRK
      obtain ⟨b, hb⟩ : ∃ b, s.extract 16 64 = b := ⟨_, rfl⟩
      rw [hb] at HE HBs HU
      clear hk h1 hv hb hsz
      go_enter Try.func4, Try.ntmps4
      go_wp2_with (first
        | (go_at_call 9; (with_reducible refine (HK.out _).mono ?_); rintro e w1 ⟨g, rfl, hk, hb⟩; have HK1 := hide hk; have HB1 := hide hb; clear hb hk)
        | (go_at_call 16; refine (HKi.out _).mono ?_; rintro e w2 ⟨rfl, hb⟩; have HB2 := hide (HB1.out.trans (hb.mono HB1.out.size)); have HK2 := hide (HK1.out.later hb); clear hb)
        | (go_at_call 17; (with_reducible refine (HU.out _ _).mono ?_); rintro e w3 ⟨rfl, hb⟩; have HB3 := hide (HB2.out.trans (hb.mono HB2.out.size)); clear hb)
        | (go_at_call 18; refine (HRK.out _).mono ?_; rintro e w4 ⟨rfl, hb⟩; have HB4 := hide (HB3.out.trans (hb.mono HB3.out.size)); clear hb)
        | (go_at_call 13; (with_reducible refine (awake_any _).mono ?_); rintro e w7 ⟨rfl, hb⟩; have HB7 := hide (HB4.out.trans (hb.mono HB4.out.size)); clear hb))
      go_ret
      exact ⟨rfl, HB7.out⟩
  · have HI := hide hk
    clear hk
    go_enter Try.func4, Try.ntmps4
    go_wp2_with (first
      | (go_at_call 9; (with_reducible refine (HK.out _).mono ?_); rintro e w1 ⟨g, rfl, hk, hb⟩; have HK1 := hide hk; have HB1 := hide hb; clear hb hk)
      | (go_at_call 16; (with_reducible refine (kind_no s HI.out _).mono ?_); rintro e w2 ⟨rfl, hb⟩; have HB2 := hide (HB1.out.trans (hb.mono HB1.out.size)); clear hb)
      | (go_at_call 17; (with_reducible refine (unseal_no _ s HI.out _).mono ?_); rintro e w3 ⟨rfl, hb⟩; have HB3 := hide (HB2.out.trans (hb.mono HB2.out.size)); clear hb)
      | (go_at_call 18; (with_reducible refine (rkind_no s HI.out _).mono ?_); rintro e w4 ⟨rfl, hb⟩; have HB4 := hide (HB3.out.trans (hb.mono HB3.out.size)); clear hb)
      | (go_at_call 13; (with_reducible refine (awake_any _).mono ?_); rintro e w7 ⟨rfl, hb⟩; have HB7 := hide (HB4.out.trans (hb.mono HB4.out.size)); clear hb))
    go_ret
    exact ⟨rfl, HB7.out⟩
end Go.Proofs.Ytikhaocpohfcnaa.Ct
