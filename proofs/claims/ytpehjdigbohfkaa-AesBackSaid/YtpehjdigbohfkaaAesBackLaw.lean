/- The law of there and back, walked. -/
import Derived.Test.YtpehjdigbohfkaaAesFull
namespace Go.Proofs.Ytpehjdigbohfkaa.Ae
open Go.RowKit Go.Proofs.Ytpehjdigbohfkaa.W Go.Proofs.Ytpehjdigbohfkaa.Gf
set_option linter.unusedVariables false
set_option linter.unusedSimpArgs false

theorem decrypt_of (g : Nat) (kf : St) (s : ByteArray) (hs : s.size = 16) (w : World) (hk : KeyAt w g kf) :
    Calls Try.prog 14 #[.pointer (some ⟨g, 0, none⟩), .string (strB 16 (encS kf (sbyte s)))] w fun e w' => e = .returned (.tuple #[.string s, .int .i64 0]) ∧ Below w.heap.size w w' := by
  have h := decrypt_ok g kf _ (strB_size 16 (encS kf (sbyte s))) w hk
  rw [dec_enc_str kf s hs] at h
  exact h
theorem encrypt_of (g : Nat) (kf : St) (s : ByteArray) (hs : s.size = 16) (w : World) (hk : KeyAt w g kf) :
    Calls Try.prog 10 #[.pointer (some ⟨g, 0, none⟩), .string (strB 16 (decS kf (sbyte s)))] w fun e w' => e = .returned (.tuple #[.string s, .int .i64 0]) ∧ Below w.heap.size w w' := by
  have h := encrypt_ok g kf _ (strB_size 16 (decS kf (sbyte s))) w hk
  rw [enc_dec_str kf s hs] at h
  exact h
set_option maxRecDepth 100000 in
set_option maxHeartbeats 1000000 in
theorem aesBack_walk (s t : ByteArray) (w : World) : Calls Try.prog 4 #[.string s, .string t] w fun e w' => e = .returned (.bool true) ∧ Below w.heap.size w w' := by
  have z1 : ∀ f : St, (strB 16 f).size = 16 := strB_size 16
  have hts : ∃ u : ByteArray, (if 16 < t.size then t.extract 0 16 else t) = u ∧ u.size ≤ 16 := ⟨_, rfl, by
    split
    · simp; omega
    · omega⟩
  obtain ⟨u, hu, hu16⟩ := hts
  have HX := hide (fullB_size hu16)
  obtain ⟨x, hx⟩ : ∃ x, fullB u 16 = x := ⟨_, rfl⟩
  have HF := hide (full16 u)
  rw [hx] at HX HF
  clear hx hu16
  by_cases h : 16 < t.size
  all_goals
    first | rw [if_pos h] at hu | rw [if_neg h] at hu
  · have h1 : decide ((16 : Int) < (t.size : Int)) = true := by simp; omega
    have h2 : (16 : Int) ≤ (t.size : Int) := by omega
    have h3 : 16 ≤ t.size := by omega
    clear h
    go_enter Try.func4, Try.ntmps4
    go_wp2_with (first
      | (go_at_call 9; (with_reducible refine (key_any _ _).mono ?_); rintro e w1 ⟨rfl, hb⟩; have HB1 := hide hb; clear hb)
      | (go_at_call 8; (with_reducible refine (new_ok _ (keyB_size _) _).mono ?_); rintro e w2 ⟨rfl, hk, hb⟩; have HK := hide hk; have HB2 := hide (HB1.out.trans (hb.mono HB1.out.size)); clear hb hk)
      | (go_at_call 13; (try rw [hu]); (with_reducible refine (HF.out _).mono ?_); rintro e w3 ⟨rfl, hb⟩; have HK3 := hide (KeyAt.later hb HK.out); have HB3 := hide (HB2.out.trans (hb.mono HB2.out.size)); clear hb)
      | (go_at_call 10; (with_reducible refine (encrypt_of _ _ _ HX.out _ HK6.out).mono ?_); rintro e w7 ⟨rfl, hb⟩; have HB7 := hide (HB6.out.trans (hb.mono HB6.out.size)); clear hb)
      | (go_at_call 10; (with_reducible refine (encrypt_ok _ _ _ HX.out _ HK3.out).mono ?_); rintro e w4 ⟨rfl, hb⟩; have HK4 := hide (KeyAt.later hb HK3.out); have HB4 := hide (HB3.out.trans (hb.mono HB3.out.size)); clear hb)
      | (go_at_call 14; (with_reducible refine (decrypt_of _ _ _ HX.out _ HK4.out).mono ?_); rintro e w5 ⟨rfl, hb⟩; have HK5 := hide (KeyAt.later hb HK4.out); have HB5 := hide (HB4.out.trans (hb.mono HB4.out.size)); clear hb)
      | (go_at_call 14; (with_reducible refine (decrypt_ok _ _ _ HX.out _ HK5.out).mono ?_); rintro e w6 ⟨rfl, hb⟩; have HK6 := hide (KeyAt.later hb HK5.out); have HB6 := hide (HB5.out.trans (hb.mono HB5.out.size)); clear hb)
      | (go_at_call 11; (with_reducible refine (awake_any _).mono ?_); rintro e w8 ⟨rfl, hb⟩; have HB8 := hide (HB7.out.trans (hb.mono HB7.out.size)); clear hb))
    go_ret
    exact ⟨rfl, HB8.out⟩
  · have h1 : decide ((16 : Int) < (t.size : Int)) = false := by simp; omega
    subst hu
    clear h
    go_enter Try.func4, Try.ntmps4
    go_wp2_with (first
      | (go_at_call 9; (with_reducible refine (key_any _ _).mono ?_); rintro e w1 ⟨rfl, hb⟩; have HB1 := hide hb; clear hb)
      | (go_at_call 8; (with_reducible refine (new_ok _ (keyB_size _) _).mono ?_); rintro e w2 ⟨rfl, hk, hb⟩; have HK := hide hk; have HB2 := hide (HB1.out.trans (hb.mono HB1.out.size)); clear hb hk)
      | (go_at_call 13; (with_reducible refine (HF.out _).mono ?_); rintro e w3 ⟨rfl, hb⟩; have HK3 := hide (KeyAt.later hb HK.out); have HB3 := hide (HB2.out.trans (hb.mono HB2.out.size)); clear hb)
      | (go_at_call 10; (with_reducible refine (encrypt_of _ _ _ HX.out _ HK6.out).mono ?_); rintro e w7 ⟨rfl, hb⟩; have HB7 := hide (HB6.out.trans (hb.mono HB6.out.size)); clear hb)
      | (go_at_call 10; (with_reducible refine (encrypt_ok _ _ _ HX.out _ HK3.out).mono ?_); rintro e w4 ⟨rfl, hb⟩; have HK4 := hide (KeyAt.later hb HK3.out); have HB4 := hide (HB3.out.trans (hb.mono HB3.out.size)); clear hb)
      | (go_at_call 14; (with_reducible refine (decrypt_of _ _ _ HX.out _ HK4.out).mono ?_); rintro e w5 ⟨rfl, hb⟩; have HK5 := hide (KeyAt.later hb HK4.out); have HB5 := hide (HB4.out.trans (hb.mono HB4.out.size)); clear hb)
      | (go_at_call 14; (with_reducible refine (decrypt_ok _ _ _ HX.out _ HK5.out).mono ?_); rintro e w6 ⟨rfl, hb⟩; have HK6 := hide (KeyAt.later hb HK5.out); have HB6 := hide (HB5.out.trans (hb.mono HB5.out.size)); clear hb)
      | (go_at_call 11; (with_reducible refine (awake_any _).mono ?_); rintro e w8 ⟨rfl, hb⟩; have HB8 := hide (HB7.out.trans (hb.mono HB7.out.size)); clear hb))
    go_ret
    exact ⟨rfl, HB8.out⟩
end Go.Proofs.Ytpehjdigbohfkaa.Ae
