/- The law on streams, and on texts that are xored with them, walked. -/
import Derived.Test.YtikhaocpohfcnaaCtrSealsLaw
namespace Go.Proofs.Ytikhaocpohfcnaa.Ct
open Go.RowKit Go.Proofs.Ytikhaocpohfcnaa.W Go.Proofs.Ytikhaocpohfcnaa.Gf Go.Proofs.Ytikhaocpohfcnaa.Ae
set_option linter.unusedVariables false
set_option linter.unusedSimpArgs false

/-- The law's own cut of a text: how the walk meets it. -/
def cut100 (s : ByteArray) : ByteArray := if 100 < s.size then s.extract 0 100 else s
theorem cut100_size (s : ByteArray) : (cut100 s).size ≤ 100 := by
  unfold cut100
  split
  · rw [ByteArray.size_extract]; omega
  · omega
theorem stream100 (g n : Nat) (kf : St) (hn : n ≤ 1099511627776) (w : World) (hk : KeyAt w g kf) : Calls Try.prog 10 #[.pointer (some ⟨g, 0, none⟩), .int .i64 (n : Int), .int .i64 100] w fun e w' => e = .returned (.tuple #[.string (streamB kf n 100), .int .i64 0]) ∧ Below w.heap.size w w' := stream_ok g n 100 kf hn (by omega) w hk
theorem rstream100 (key : ByteArray) (hk : key.size = 32) (n : Nat) (hn : n ≤ 1099511627776) (w : World) : Calls Try.prog 15 #[.string key, .int .i64 (n : Int), .int .i64 100] w fun e w' => e = .returned (.string (streamB (kfun (sbyte key)) n 100)) ∧ Below w.heap.size w w' := rstream_any key hk n 100 hn (by omega) w
set_option maxRecDepth 100000 in
set_option maxHeartbeats 2000000 in
theorem ctrStreams_arg (key s : ByteArray) (n m : Int) (hn : n < 0 ∨ 1099511627776 < n) (w : World) : Calls Try.prog 3 #[.agg #[.string key, .int .i64 n, .int .i64 m, .string s]] w fun e w' => e = .returned (.bool true) ∧ Below w.heap.size w w' := by
  have HK := hide (fun W => Key_any key W)
  have hnn : ((⟨#[]⟩ : ByteArray) ++ ⟨#[]⟩) = ⟨#[]⟩ := rfl
  have hnl : (⟨#[]⟩ : ByteArray).toList = [] := by rw [ByteArray.toList_eq]
  have HN := hide hn
  have hm : (decide ((100 : Int) < m) = false) ∨ (decide ((100 : Int) < m) = true ∧ decide (m ≤ 4096) = false) ∨ (decide ((100 : Int) < m) = true ∧ decide (m ≤ 4096) = true) := by
    simp; omega
  have hs : (decide ((100 : Int) < (s.size : Int)) = false ∧ decide (100 < s.size) = false) ∨ (decide ((100 : Int) < (s.size : Int)) = true ∧ (100 : Int) ≤ (s.size : Int)) := by
    simp; omega
  clear hn
  rcases hm with m1 | ⟨m1, m2⟩ | ⟨m1, m2⟩ <;> rcases hs with ⟨s1, s2⟩ | ⟨s1, s2⟩
  all_goals
    go_enter Try.func3, Try.ntmps3
    go_upto_region 1 with fail
    go_quiet (fail)
    have HB0 := hide ((Below.refl w.heap.size w).alloc (Nat.le_refl _) (.cells #[.string key, .int .i64 n, .int .i64 m, .string s] 23))
    generalize (w.alloc (.cells #[.string key, .int .i64 n, .int .i64 m, .string s] 23)) = W0 at HB0 ⊢
    go_wp2_with (first
      | (go_at_call 9; (with_reducible refine (HK.out _).mono ?_); rintro e w1 ⟨g, rfl, hk, hb⟩; have HB1 := hide hb; clear hb hk)
      | (go_at_call 10; (with_reducible refine (stream_arg g n _ HN.out _).mono ?_); rintro e w2 ⟨rfl, hb⟩; have HB2 := hide (HB1.out.trans (hb.mono HB1.out.size)); clear hb)
      | (go_at_call 11; (with_reducible refine (crypt_arg g n HN.out _ _).mono ?_); rintro e w3 ⟨rfl, hb⟩; have HB3 := hide (HB2.out.trans (hb.mono HB2.out.size)); clear hb)
      | (go_at_call 12; (with_reducible refine (lright_no n HN.out _).mono ?_); rintro e wx ⟨rfl, hw⟩; subst wx)
      | (go_at_call 13; (with_reducible refine (awake_any _).mono ?_); rintro e w4 ⟨rfl, hb⟩; have HB4 := hide (HB3.out.trans (hb.mono HB3.out.size)); clear hb))
    go_ret
    have h0 := below_drewN HB0.out nq
    exact ⟨rfl, h0.trans (HB4.out.mono h0.size)⟩
set_option maxRecDepth 100000 in
set_option maxHeartbeats 4000000 in
theorem ctrStreams_big (key s : ByteArray) (n : Nat) (m : Int) (hn : n ≤ 1099511627776) (hm : m < 0 ∨ 4096 < m) (w : World) : Calls Try.prog 3 #[.agg #[.string key, .int .i64 (n : Int), .int .i64 m, .string s]] w fun e w' => e = .returned (.bool true) ∧ Below w.heap.size w w' := by
  have HK := hide (fun W => Key_any key W)
  have HKS := hide (keyS_size key)
  have hnl : (⟨#[]⟩ : ByteArray).toList = [] := by rw [ByteArray.toList_eq]
  have HN := hide hn
  have HM := hide hm
  have hm : (decide ((100 : Int) < m) = false ∧ decide (m < 0) = true) ∨ (decide ((100 : Int) < m) = true ∧ decide (m ≤ 4096) = false ∧ decide (m < 0) = false ∧ decide ((4096 : Int) < m) = true) := by
    simp; omega
  obtain ⟨t, ht⟩ : ∃ t, cut100 s = t := ⟨_, rfl⟩
  have hts : t.size ≤ 100 := by rw [← ht]; exact cut100_size s
  have HT : Hid (t.size ≤ 1000) := hide (by omega)
  have hs : (decide ((100 : Int) < (s.size : Int)) = false ∧ decide (100 < s.size) = false ∧ s = t) ∨ (decide ((100 : Int) < (s.size : Int)) = true ∧ (100 : Int) ≤ (s.size : Int) ∧ s.extract 0 100 = t) := by
    unfold cut100 at ht
    by_cases h : 100 < s.size
    · rw [if_pos h] at ht
      exact .inr ⟨by simp; omega, by omega, ht⟩
    · rw [if_neg h] at ht
      exact .inl ⟨by simp; omega, by simp; omega, ht⟩
  clear hn hts ht
  rcases hm with ⟨m1, m2⟩ | ⟨m1, m2, m3, m4⟩ <;> rcases hs with ⟨s1, s2, rfl⟩ | ⟨s1, s2, s3⟩
  all_goals
    go_enter Try.func3, Try.ntmps3
    go_upto_region 1 with fail
    go_quiet (fail)
    have HB0 := hide ((Below.refl w.heap.size w).alloc (Nat.le_refl _) (.cells #[.string key, .int .i64 (n : Int), .int .i64 m, .string s] 23))
    generalize (w.alloc (.cells #[.string key, .int .i64 (n : Int), .int .i64 m, .string s] 23)) = W0 at HB0 ⊢
    go_wp2_with (first
      | (go_at_call 9; (with_reducible refine (HK.out _).mono ?_); rintro e w1 ⟨g, rfl, hk, hb⟩; have HK1 := hide hk; have HB1 := hide hb; clear hb hk; (have HRS := hide (fun (m : Nat) (hm : m ≤ 1000) W => rstream_any (keyS key) HKS.out n m HN.out hm W)); (obtain ⟨kf, hkf⟩ : ∃ kf, kfun (sbyte (keyS key)) = kf := ⟨_, rfl⟩); rw [hkf] at HK1 HRS; clear hkf)
      | (go_at_call 10; (with_reducible refine (stream_big g n HN.out m HM.out _).mono ?_); rintro e w2 ⟨rfl, hb⟩; have HB2 := hide (HB1.out.trans (hb.mono HB1.out.size)); have HK2 := hide (HK1.out.later hb); clear hb)
      | (go_at_call 11; (with_reducible refine (crypt_ok g n kf HN.out _ HT.out _ HK2.out).mono ?_); rintro e w3 ⟨rfl, hb⟩; have HB3 := hide (HB2.out.trans (hb.mono HB2.out.size)); clear hb)
      | (go_at_call 12; (with_reducible refine (lright_yes n HN.out _).mono ?_); rintro e wx ⟨rfl, hw⟩; subst wx)
      | (go_at_call 15; (with_reducible refine (HRS.out _ HT.out _).mono ?_); rintro e w5 ⟨rfl, hb⟩; have HB5 := hide (HB3.out.trans (hb.mono HB3.out.size)); clear hb)
      | (go_at_call 14; (with_reducible refine (rxor_stream kf n _ _ rfl HT.out _).mono ?_); rintro e w6 ⟨rfl, hb⟩; have HB6 := hide (HB5.out.trans (hb.mono HB5.out.size)); clear hb)
      | (go_at_call 13; (with_reducible refine (awake_any _).mono ?_); rintro e w7 ⟨rfl, hb⟩; have HB7 := hide (HB6.out.trans (hb.mono HB6.out.size)); clear hb))
    go_ret
    have h0 := below_drewN HB0.out nq
    exact ⟨rfl, h0.trans (HB7.out.mono h0.size)⟩
set_option maxRecDepth 100000 in
set_option maxHeartbeats 4000000 in
theorem ctrStreams_ok (key s : ByteArray) (n m : Nat) (hn : n ≤ 1099511627776) (hm : m ≤ 4096) (w : World) : Calls Try.prog 3 #[.agg #[.string key, .int .i64 (n : Int), .int .i64 (m : Int), .string s]] w fun e w' => e = .returned (.bool true) ∧ Below w.heap.size w w' := by
  have HK := hide (fun W => Key_any key W)
  have HKS := hide (keyS_size key)
  have HN := hide hn
  obtain ⟨t, ht⟩ : ∃ t, cut100 s = t := ⟨_, rfl⟩
  have hts : t.size ≤ 100 := by rw [← ht]; exact cut100_size s
  have HT : Hid (t.size ≤ 1000) := hide (by omega)
  have hs : (decide ((100 : Int) < (s.size : Int)) = false ∧ decide (100 < s.size) = false ∧ s = t) ∨ (decide ((100 : Int) < (s.size : Int)) = true ∧ (100 : Int) ≤ (s.size : Int) ∧ s.extract 0 100 = t) := by
    unfold cut100 at ht
    by_cases h : 100 < s.size
    · rw [if_pos h] at ht
      exact .inr ⟨by simp; omega, by omega, ht⟩
    · rw [if_neg h] at ht
      exact .inl ⟨by simp; omega, by simp; omega, ht⟩
  clear hn hts ht
  by_cases h100 : m ≤ 100
  · have m1 : decide ((100 : Int) < (m : Int)) = false := by simp; omega
    have m2 : decide (100 < m) = false := by simp; omega
    have m3 : decide ((m : Int) < 0) = false := by simp
    have m4 : decide ((4096 : Int) < (m : Int)) = false := by simp; omega
    have m5 : decide (4096 < m) = false := by simp; omega
    have HM : Hid (m ≤ 1000) := hide (by omega)
    have HM2 := hide hm
    clear h100 hm
    rcases hs with ⟨s1, s2, rfl⟩ | ⟨s1, s2, s3⟩
    all_goals
      go_enter Try.func3, Try.ntmps3
      go_upto_region 1 with fail
      go_quiet (fail)
      have HB0 := hide ((Below.refl w.heap.size w).alloc (Nat.le_refl _) (.cells #[.string key, .int .i64 (n : Int), .int .i64 (m : Int), .string s] 23))
      generalize (w.alloc (.cells #[.string key, .int .i64 (n : Int), .int .i64 (m : Int), .string s] 23)) = W0 at HB0 ⊢
      go_wp2_with (first
        | (go_at_call 9; (with_reducible refine (HK.out _).mono ?_); rintro e w1 ⟨g, rfl, hk, hb⟩; have HK1 := hide hk; have HB1 := hide hb; clear hb hk; (have HRS := hide (fun (m : Nat) (hm : m ≤ 1000) W => rstream_any (keyS key) HKS.out n m HN.out hm W)); (obtain ⟨kf, hkf⟩ : ∃ kf, kfun (sbyte (keyS key)) = kf := ⟨_, rfl⟩); rw [hkf] at HK1 HRS; clear hkf)
        | (go_at_call 10; (with_reducible refine (stream_ok g n m kf HN.out HM2.out _ HK1.out).mono ?_); rintro e w2 ⟨rfl, hb⟩; have HB2 := hide (HB1.out.trans (hb.mono HB1.out.size)); have HK2 := hide (HK1.out.later hb); clear hb)
        | (go_at_call 11; (with_reducible refine (crypt_ok g n kf HN.out _ HT.out _ HK2.out).mono ?_); rintro e w3 ⟨rfl, hb⟩; have HB3 := hide (HB2.out.trans (hb.mono HB2.out.size)); clear hb)
        | (go_at_call 12; (with_reducible refine (lright_yes n HN.out _).mono ?_); rintro e wx ⟨rfl, hw⟩; subst wx)
        | (go_at_call 15; first
            | ((with_reducible refine (HRS.out _ HM.out _).mono ?_); rintro e w8 ⟨rfl, hb⟩; have HB8 := hide (HB7.out.trans (hb.mono HB7.out.size)); clear hb)
            | ((with_reducible refine (HRS.out _ HT.out _).mono ?_); rintro e w5 ⟨rfl, hb⟩; have HB5 := hide (HB3.out.trans (hb.mono HB3.out.size)); clear hb))
        | (go_at_call 14; (with_reducible refine (rxor_stream kf n _ _ rfl HT.out _).mono ?_); rintro e w6 ⟨rfl, hb⟩; have HB6 := hide (HB5.out.trans (hb.mono HB5.out.size)); clear hb)
        | (go_at_call 13; (with_reducible refine (awake_any _).mono ?_); rintro e w7 ⟨rfl, hb⟩; have HB7 := hide (HB6.out.trans (hb.mono HB6.out.size)); clear hb))
      go_ret
      have h0 := below_drewN HB0.out nq
      exact ⟨rfl, h0.trans (HB8.out.mono h0.size)⟩
  · have m1 : decide ((100 : Int) < (m : Int)) = true := by simp; omega
    have m2 : decide ((m : Int) ≤ 4096) = true := by simp; omega
    have m3 : decide (m ≤ 4096) = true := by simp; omega
    have m4 : decide (100 < m) = true := by simp; omega
    clear h100 hm
    rcases hs with ⟨s1, s2, rfl⟩ | ⟨s1, s2, s3⟩
    all_goals
      go_enter Try.func3, Try.ntmps3
      go_upto_region 1 with fail
      go_quiet (fail)
      have HB0 := hide ((Below.refl w.heap.size w).alloc (Nat.le_refl _) (.cells #[.string key, .int .i64 (n : Int), .int .i64 (m : Int), .string s] 23))
      generalize (w.alloc (.cells #[.string key, .int .i64 (n : Int), .int .i64 (m : Int), .string s] 23)) = W0 at HB0 ⊢
      go_wp2_with (first
        | (go_at_call 9; (with_reducible refine (HK.out _).mono ?_); rintro e w1 ⟨g, rfl, hk, hb⟩; have HK1 := hide hk; have HB1 := hide hb; clear hb hk; (have HRS := hide (fun (m : Nat) (hm : m ≤ 1000) W => rstream_any (keyS key) HKS.out n m HN.out hm W)); (have HR1 := hide (fun W => rstream100 (keyS key) HKS.out n HN.out W)); (obtain ⟨kf, hkf⟩ : ∃ kf, kfun (sbyte (keyS key)) = kf := ⟨_, rfl⟩); rw [hkf] at HK1 HRS HR1; clear hkf)
        | (go_at_call 10; (with_reducible refine (stream100 g n kf HN.out _ HK1.out).mono ?_); rintro e w2 ⟨rfl, hb⟩; have HB2 := hide (HB1.out.trans (hb.mono HB1.out.size)); have HK2 := hide (HK1.out.later hb); clear hb)
        | (go_at_call 11; (with_reducible refine (crypt_ok g n kf HN.out _ HT.out _ HK2.out).mono ?_); rintro e w3 ⟨rfl, hb⟩; have HB3 := hide (HB2.out.trans (hb.mono HB2.out.size)); clear hb)
        | (go_at_call 12; (with_reducible refine (lright_yes n HN.out _).mono ?_); rintro e wx ⟨rfl, hw⟩; subst wx)
        | (go_at_call 15; first
            | ((with_reducible refine (HR1.out _).mono ?_); rintro e w8 ⟨rfl, hb⟩; have HB8 := hide (HB7.out.trans (hb.mono HB7.out.size)); clear hb)
            | ((with_reducible refine (HRS.out _ HT.out _).mono ?_); rintro e w5 ⟨rfl, hb⟩; have HB5 := hide (HB3.out.trans (hb.mono HB3.out.size)); clear hb))
        | (go_at_call 14; (with_reducible refine (rxor_stream kf n _ _ rfl HT.out _).mono ?_); rintro e w6 ⟨rfl, hb⟩; have HB6 := hide (HB5.out.trans (hb.mono HB5.out.size)); clear hb)
        | (go_at_call 13; (with_reducible refine (awake_any _).mono ?_); rintro e w7 ⟨rfl, hb⟩; have HB7 := hide (HB6.out.trans (hb.mono HB6.out.size)); clear hb))
      go_ret
      have h0 := below_drewN HB0.out nq
      exact ⟨rfl, h0.trans (HB8.out.mono h0.size)⟩
theorem ctrStreams_walk (key s : ByteArray) (n m : Int) (w : World) : Calls Try.prog 3 #[.agg #[.string key, .int .i64 n, .int .i64 m, .string s]] w fun e w' => e = .returned (.bool true) ∧ Below w.heap.size w w' := by
  by_cases hn : n < 0 ∨ 1099511627776 < n
  · exact ctrStreams_arg key s n m hn w
  · obtain ⟨a, rfl⟩ : ∃ a : Nat, n = (a : Int) := ⟨n.toNat, by omega⟩
    by_cases hm : m < 0 ∨ 4096 < m
    · exact ctrStreams_big key s a m (by omega) hm w
    · obtain ⟨b, rfl⟩ : ∃ b : Nat, m = (b : Int) := ⟨m.toNat, by omega⟩
      exact ctrStreams_ok key s a b (by omega) (by omega) w
end Go.Proofs.Ytikhaocpohfcnaa.Ct
