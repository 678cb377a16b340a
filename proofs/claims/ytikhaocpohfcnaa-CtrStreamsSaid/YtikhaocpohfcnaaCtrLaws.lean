/- Contracts of ctr's Unseal, and of the laws' own helpers. -/
import Derived.Test.YtikhaocpohfcnaaCtrKind
namespace Go.Proofs.Ytikhaocpohfcnaa.Ct
open Go.RowKit Go.Proofs.Ytikhaocpohfcnaa.W Go.Proofs.Ytikhaocpohfcnaa.Gf Go.Proofs.Ytikhaocpohfcnaa.Ae
set_option linter.unusedVariables false
set_option linter.unusedSimpArgs false

theorem cmp7 {s : ByteArray} (hs : s.size = 64) : ((s.extract 9 16).toList == (strB 7 fun _ => 0#8).toList) = true ↔ ∀ i, 9 ≤ i → i < 16 → sbyte s i = 0#8 := by
  rw [toList_eq_iff]
  simp only [decide_eq_true_eq]
  constructor
  · intro he i h9 h16
    have h : sbyte (s.extract 9 16) (i - 9) = sbyte (strB 7 fun _ => 0#8) (i - 9) := congrArg (fun x => sbyte x (i - 9)) he
    rw [sbyte_extract (by omega) (by omega), sbyte_strB _ (by omega), show 9 + (i - 9) = i by omega] at h
    exact h
  · intro h
    refine strB_ext (by rw [ByteArray.size_extract, strB_size, hs]; rfl) (fun i hi => ?_)
    rw [ByteArray.size_extract, hs] at hi
    have hi' : i < 7 := hi
    rw [sbyte_extract (by omega) (by omega), sbyte_strB _ hi']
    exact h _ (by omega) (by omega)
theorem kind_no (s : ByteArray) (h : ¬ isK s) (w : World) : Calls Try.prog 16 #[.string s] w fun e w' => e = .returned (.tuple #[.int .i64 0, .int .i64 0, .int .i64 6]) ∧ Below w.heap.size w w' := by
  by_cases hs : s.size = 64
  · by_cases h0 : (sbyte s 0).toNat < 128
    · by_cases h1 : val (sbyte s) 8 ≤ 1099511627776
      · by_cases h2 : (sbyte s 8).toNat = 1 ∨ (sbyte s 8).toNat = 2
        · refine kind_cmp s false _ hs h0 h1 rfl h2 ?_ w
          cases hc : ((s.extract 9 16).toList == (strB 7 fun _ => 0#8).toList)
          · rfl
          · exact absurd ⟨hs, h0, h1, h2, (cmp7 hs).1 hc⟩ h
        · exact kind_cls s hs h0 h1 (by omega) w
      · exact kind_num s hs h0 h1 w
    · exact kind_top s hs h0 w
  · exact kind_len s hs w
theorem kind_yes (s : ByteArray) (h : isK s) (k : Nat) (hk : (sbyte s 8).toNat = k) (w : World) : Calls Try.prog 16 #[.string s] w fun e w' => e = .returned (.tuple #[.int .i64 (val (sbyte s) 8 : Int), .int .i64 (k : Int), .int .i64 0]) ∧ Below w.heap.size w w' := by
  obtain ⟨hs, h0, h1, h2, h3⟩ := h
  exact kind_cmp s true k hs h0 h1 hk (hk ▸ h2) ((cmp7 hs).2 h3) w
theorem unseal_no (p : Option Addr) (s : ByteArray) (h : ¬ isK s) (w : World) : Calls Try.prog 17 #[.pointer p, .string s] w fun e w' => e = .returned (.tuple #[.string ⟨#[]⟩, .int .i64 6]) ∧ Below w.heap.size w w' := by
  have H := hide h
  clear h
  go_enter Try.func17, Try.ntmps17
  go_wp2_with (first
    | (go_at_call 16; (with_reducible refine (kind_no _ H.out _).mono ?_); rintro e w1 ⟨rfl, hb⟩; have HB1 := hide hb; clear hb))
  go_ret2
  exact ⟨rfl, HB1.out⟩
theorem unseal_plain (p : Option Addr) (s : ByteArray) (h : isK s) (hk : (sbyte s 8).toNat = 2) (w : World) : Calls Try.prog 17 #[.pointer p, .string s] w fun e w' => e = .returned (.tuple #[.string (s.extract 16 64), .int .i64 0]) ∧ Below w.heap.size w w' := by
  have hs := h.1
  have l1 : (16 : Int) ≤ (s.size : Int) := by omega
  have l2 : 16 ≤ s.size := by omega
  have H := hide (fun W => kind_yes s h 2 hk W)
  have HE : Hid (s.extract 16 s.size = s.extract 16 64) := hide (by rw [hs])
  clear h hk hs
  go_enter Try.func17, Try.ntmps17
  go_wp2_with (first
    | (go_at_call 16; refine (H.out _).mono ?_; rintro e w1 ⟨rfl, hb⟩; have HB1 := hide hb; clear hb))
  go_ret2
  rw [HE.out]
  exact ⟨rfl, HB1.out⟩
theorem unseal_ok (g : Nat) (kf : St) (s : ByteArray) (h : isK s) (hk : (sbyte s 8).toNat = 1) (w : World) (hkey : KeyAt w g kf) : Calls Try.prog 17 #[.pointer (some ⟨g, 0, none⟩), .string s] w fun e w' => e = .returned (.tuple #[.string (cryB kf (val (sbyte s) 8) (s.extract 16 64)), .int .i64 0]) ∧ Below w.heap.size w w' := by
  have hs := h.1
  have l1 : (16 : Int) ≤ (s.size : Int) := by omega
  have l2 : 16 ≤ s.size := by omega
  have H := hide (fun W => kind_yes s h 1 hk W)
  have HE : Hid (s.extract 16 s.size = s.extract 16 64) := hide (by rw [hs])
  have HV := hide h.2.2.1
  have HZ : Hid ((s.extract 16 s.size).size ≤ 1000) := hide (by rw [ByteArray.size_extract]; omega)
  have HK := hide hkey
  clear h hk hs hkey
  go_enter Try.func17, Try.ntmps17
  go_wp2_with (first
    | (go_at_call 16; refine (H.out _).mono ?_; rintro e w1 ⟨rfl, hb⟩; have HB1 := hide hb; clear hb)
    | (go_at_call 11; (with_reducible refine (crypt_ok g _ kf HV.out _ HZ.out _ (HK.out.later HB1.out)).mono ?_); rintro e w2 ⟨rfl, hb⟩; have HB2 := hide hb; clear hb))
  go_ret2
  rw [HE.out]
  exact ⟨rfl, HB1.out.trans (HB2.out.mono HB1.out.size)⟩
theorem unseal_nil (s : ByteArray) (h : isK s) (hk : (sbyte s 8).toNat = 1) (w : World) : Calls Try.prog 17 #[.pointer none, .string s] w fun e w' => e = .returned (.tuple #[.string ⟨#[]⟩, .int .i64 1]) ∧ Below w.heap.size w w' := by
  have hs := h.1
  have l1 : (16 : Int) ≤ (s.size : Int) := by omega
  have l2 : 16 ≤ s.size := by omega
  have H := hide (fun W => kind_yes s h 1 hk W)
  clear h hk hs
  go_enter Try.func17, Try.ntmps17
  go_wp2_with (first
    | (go_at_call 16; refine (H.out _).mono ?_; rintro e w1 ⟨rfl, hb⟩; have HB1 := hide hb; clear hb)
    | (go_at_call 11; (with_reducible refine (crypt_nil _ _ _).mono ?_); rintro e w2 ⟨rfl, hb⟩; have HB2 := hide hb; clear hb))
  go_ret2
  exact ⟨rfl, HB1.out.trans (HB2.out.mono HB1.out.size)⟩
/-- The law's key. -/
def keyS (s : ByteArray) : ByteArray := if 32 < s.size then fullB (s.extract 0 32) 32 else fullB s 32
theorem keyS_size (s : ByteArray) : (keyS s).size = 32 := by
  unfold keyS
  split
  · exact fullB_size (by rw [ByteArray.size_extract]; omega)
  · exact fullB_size (by omega)
def KeyE (s : ByteArray) (w : World) (e : Ending) (w' : World) : Prop := ∃ g, e = .returned (.tuple #[.string (keyS s), .pointer (some ⟨g, 0, none⟩)]) ∧ KeyAt w' g (kfun (sbyte (keyS s))) ∧ Below w.heap.size w w'
theorem Key_any (s : ByteArray) (w : World) : Calls Try.prog 9 #[.string s] w (KeyE s w) := by
  have hz := keyS_size s
  have HN := hide (fun W => new_ok (keyS s) hz W)
  by_cases h : 32 < s.size
  · have t1 : decide ((32 : Int) < (s.size : Int)) = true := by simp; omega
    have l1 : (32 : Int) ≤ (s.size : Int) := by omega
    have e : keyS s = fullB (s.extract 0 32) 32 := if_pos h
    have HF := hide (fun W => full32 (s.extract 0 32) W)
    rw [← e] at HF
    clear h hz e
    go_enter Try.func9, Try.ntmps9
    go_wp2_with (first
      | (go_at_call 24; (with_reducible refine (HF.out _).mono ?_); rintro e w1 ⟨rfl, hb⟩; have HB1 := hide hb; clear hb)
      | (go_at_call 25; (with_reducible refine (HN.out _).mono ?_); rintro e w2 ⟨rfl, hk, hb⟩; have HK := hide hk; have HB2 := hide (HB1.out.trans (hb.mono HB1.out.size)); clear hb hk))
    go_ret2
    exact ⟨_, rfl, HK.out, HB2.out⟩
  · have t1 : decide ((32 : Int) < (s.size : Int)) = false := by simp; omega
    have t2 : decide (32 < s.size) = false := by simp; omega
    have e : keyS s = fullB s 32 := if_neg h
    have HF := hide (fun W => full32 s W)
    rw [← e] at HF
    clear h hz e
    go_enter Try.func9, Try.ntmps9
    go_wp2_with (first
      | (go_at_call 24; (with_reducible refine (HF.out _).mono ?_); rintro e w1 ⟨rfl, hb⟩; have HB1 := hide hb; clear hb)
      | (go_at_call 25; (with_reducible refine (HN.out _).mono ?_); rintro e w2 ⟨rfl, hk, hb⟩; have HK := hide hk; have HB2 := hide (HB1.out.trans (hb.mono HB1.out.size)); clear hb hk))
    go_ret2
    exact ⟨_, rfl, HK.out, HB2.out⟩
def dataS (s : ByteArray) : ByteArray := if 48 < s.size then s.extract 0 48 else fullB s 48
theorem dataS_size (s : ByteArray) : (dataS s).size = 48 := by
  unfold dataS
  split
  · rw [ByteArray.size_extract]; omega
  · exact fullB_size (by omega)
theorem full48 (s : ByteArray) (w : World) : Calls Try.prog 24 #[.string s, .int .i64 48] w fun e w' => e = .returned (.string (fullB s 48)) ∧ Below w.heap.size w w' := full_any s 48 (by omega) w
theorem data_any (s : ByteArray) (w : World) : Calls Try.prog 19 #[.string s] w fun e w' => e = .returned (.string (dataS s)) ∧ Below w.heap.size w w' := by
  unfold dataS
  by_cases h : 48 < s.size
  · rw [if_pos h]
    have t1 : decide ((48 : Int) < (s.size : Int)) = true := by simp; omega
    have l1 : (48 : Int) ≤ (s.size : Int) := by omega
    clear h
    go_enter Try.func19, Try.ntmps19
    go_wp2_with fail
    go_ret
    exact ⟨rfl, Below.refl _ _⟩
  · rw [if_neg h]
    have t1 : decide ((48 : Int) < (s.size : Int)) = false := by simp; omega
    have t2 : decide (48 < s.size) = false := by simp; omega
    clear h
    go_enter Try.func19, Try.ntmps19
    go_wp2_with (first
      | (go_at_call 24; (with_reducible refine (full48 _ _).mono ?_); rintro e w1 ⟨rfl, hb⟩; have HB1 := hide hb; clear hb))
    go_ret
    exact ⟨rfl, HB1.out⟩
theorem lright_yes (n : Nat) (h : n ≤ 1099511627776) (w : World) : Calls Try.prog 12 #[.int .i64 (n : Int)] w fun e w' => e = .returned (.bool true) ∧ w' = w := by
  have h1 : decide ((0 : Int) ≤ (n : Int)) = true := by simp
  have h2 : decide ((n : Int) ≤ 1099511627776) = true := by simp; omega
  go_enter Try.func12, Try.ntmps12
  go_wp2_with fail
  go_ret
  exact ⟨rfl, rfl⟩
theorem lright_no (n : Int) (h : n < 0 ∨ 1099511627776 < n) (w : World) : Calls Try.prog 12 #[.int .i64 n] w fun e w' => e = .returned (.bool false) ∧ w' = w := by
  by_cases h0 : n < 0
  · have h1 : decide ((0 : Int) ≤ n) = false := by simp; omega
    clear h h0
    go_enter Try.func12, Try.ntmps12
    go_wp2_with fail
    go_ret
    exact ⟨rfl, rfl⟩
  · have h1 : decide ((0 : Int) ≤ n) = true := by simp; omega
    have h2 : decide (n ≤ 1099511627776) = false := by simp; omega
    clear h h0
    go_enter Try.func12, Try.ntmps12
    go_wp2_with fail
    go_ret
    exact ⟨rfl, rfl⟩
/-- What was sealed is a block, and what was in it comes back. -/
theorem isK_seal (kf : St) {n : Nat} (hn : n ≤ 1099511627776) {s : ByteArray} (hs : s.size = 48) : isK (sealB kf n s) := isK_head hn (.inl rfl) (by rw [cryB_size, hs])
theorem unseal_sealed (g : Nat) (kf : St) (n : Nat) (hn : n ≤ 1099511627776) (s : ByteArray) (hs : s.size = 48) (w : World) (hkey : KeyAt w g kf) : Calls Try.prog 17 #[.pointer (some ⟨g, 0, none⟩), .string (sealB kf n s)] w fun e w' => e = .returned (.tuple #[.string s, .int .i64 0]) ∧ Below w.heap.size w w' := by
  have h := unseal_ok g kf (sealB kf n s) (isK_seal kf hn hs) (kind_head (by omega)) w hkey
  have e1 : val (sbyte (sealB kf n s)) 8 = n := val_head hn _
  have e2 : (sealB kf n s).extract 16 64 = cryB kf n s := body_head (by rw [cryB_size, hs])
  rw [e1, e2, cryB_twice] at h
  exact h
theorem unseal_laid (p : Option Addr) (n : Nat) (hn : n ≤ 1099511627776) (s : ByteArray) (hs : s.size = 48) (w : World) : Calls Try.prog 17 #[.pointer p, .string (headB n 2 ++ s)] w fun e w' => e = .returned (.tuple #[.string s, .int .i64 0]) ∧ Below w.heap.size w w' := by
  have h := unseal_plain p (headB n 2 ++ s) (isK_head hn (.inr rfl) hs) (kind_head (by omega)) w
  rw [body_head hs] at h
  exact h
theorem seal7 (g : Nat) (kf : St) (s : ByteArray) (hs : s.size = 48) (w : World) (hk : KeyAt w g kf) : Calls Try.prog 20 #[.pointer (some ⟨g, 0, none⟩), .int .i64 7, .string s] w fun e w' => e = .returned (.tuple #[.string (sealB kf 7 s), .int .i64 0]) ∧ Below w.heap.size w w' := seal_ok g 7 kf (by omega) s hs w hk
theorem kind7 (kf : St) (s : ByteArray) (hs : s.size = 48) (w : World) : Calls Try.prog 16 #[.string (sealB kf 7 s)] w fun e w' => e = .returned (.tuple #[.int .i64 7, .int .i64 1, .int .i64 0]) ∧ Below w.heap.size w w' := by
  have h := kind_yes (sealB kf 7 s) (isK_seal kf (by omega) hs) 1 (kind_head (by omega)) w
  have e1 : val (sbyte (sealB kf 7 s)) 8 = 7 := val_head (by omega) _
  rw [e1] at h
  exact h
set_option maxRecDepth 100000 in
set_option maxHeartbeats 1000000 in
theorem awake_any (w : World) : Calls Try.prog 13 #[] w fun e w' => e = .returned (.bool true) ∧ Below w.heap.size w w' := by
  obtain ⟨d, hd⟩ : ∃ d, dataS ⟨#[97, 98, 99]⟩ = d := ⟨_, rfl⟩
  have HD := hide (fun W => data_any ⟨#[97, 98, 99]⟩ W)
  rw [hd] at HD
  have HZ : Hid (d.size = 48) := hide (by rw [← hd]; exact dataS_size _)
  have HK := hide (fun W => Key_any ⟨#[97]⟩ W)
  have HS := hide (fun kf => show (sealB kf 7 d).size = 64 from (isK_seal kf (by omega) HZ.out).1)
  clear hd
  go_enter Try.func13, Try.ntmps13
  go_wp2_with (first
    | (go_at_call 9; (with_reducible refine (HK.out _).mono ?_); rintro e w1 ⟨g, rfl, hk, hb⟩; have HK1 := hide hk; have HB1 := hide hb; clear hb hk; (obtain ⟨kf, hkf⟩ : ∃ kf, kfun (sbyte (keyS ⟨#[97]⟩)) = kf := ⟨_, rfl⟩); rw [hkf] at HK1; clear hkf; have hsz := HS.out kf)
    | (go_at_call 20; (with_reducible refine (seal7 g kf d HZ.out _ (HK1.out.later HB2.out)).mono ?_); rintro e w3 ⟨rfl, hb⟩; have HB3 := hide (HB2.out.trans (hb.mono HB2.out.size)); clear hb)
    | (go_at_call 16; (with_reducible refine (kind7 kf d HZ.out _).mono ?_); rintro e w4 ⟨rfl, hb⟩; have HB4 := hide (HB3.out.trans (hb.mono HB3.out.size)); clear hb)
    | (go_at_call 17; (with_reducible refine (unseal_sealed g kf 7 (by omega) d HZ.out _ (HK1.out.later HB4.out)).mono ?_); rintro e w5 ⟨rfl, hb⟩; have HB5 := hide (HB4.out.trans (hb.mono HB4.out.size)); clear hb)
    | (go_at_call 19; (with_reducible refine (HD.out _).mono ?_); rintro e w2 ⟨rfl, hb⟩; first | (have HB6 := hide (HB5.out.trans (hb.mono HB5.out.size)); clear hb) | (have HB2 := hide hb; clear hb)))
  go_ret
  exact ⟨rfl, HB1.out.trans (HB6.out.mono HB1.out.size)⟩
end Go.Proofs.Ytikhaocpohfcnaa.Ct
