/- The law that any 16 bytes, by any key, are what the definition says, walked. -/
import Derived.Test.YtpehjdigbohfkaaAesFull
import Derived.Test.YtpehjdigbohfkaaAesRefEnc
namespace Go.Proofs.Ytpehjdigbohfkaa.Ae
open Go.RowKit Go.Proofs.Ytpehjdigbohfkaa.W Go.Proofs.Ytpehjdigbohfkaa.Gf
set_option linter.unusedVariables false
set_option linter.unusedSimpArgs false

set_option maxRecDepth 100000 in
set_option maxHeartbeats 1000000 in
theorem aesEncrypts_walk (s t : ByteArray) (w : World) : Calls Try.prog 3 #[.string s, .string t] w fun e w' => e = .returned (.bool true) ∧ Below w.heap.size w w' := by
  by_cases h16 : t.size = 16
  · have t1 : ((t.size : Int) != 16) = false := by simp; omega
    have t2 : (t.size != 16) = false := by simp; omega
    have HT := hide h16
    clear h16
    go_enter Try.func3, Try.ntmps3
    go_wp2_with (first
      | (go_at_call 9; (with_reducible refine (key_any _ w).mono ?_); rintro e w1 ⟨rfl, hb⟩; have HB1 := hide hb; clear hb)
      | (go_at_call 8; (with_reducible refine (new_ok _ (keyB_size _) _).mono ?_); rintro e w2 ⟨rfl, hk, hb⟩; have HK := hide hk; have HB2 := hide (HB1.out.trans (hb.mono HB1.out.size)); clear hb hk)
      | (go_at_call 10; (with_reducible refine (encrypt_ok _ _ _ HT.out _ HK.out).mono ?_); rintro e w3 ⟨rfl, hb⟩; have HB3 := hide (HB2.out.trans (hb.mono HB2.out.size)); clear hb)
      | (go_at_call 11; (with_reducible refine (awake_any _).mono ?_); rintro e w4 ⟨rfl, hb⟩; have HB4 := hide (HB3.out.trans (hb.mono HB3.out.size)); clear hb)
      | (go_at_call 9; (with_reducible refine (key_any _ _).mono ?_); rintro e w5 ⟨rfl, hb⟩; have HB5 := hide (HB4.out.trans (hb.mono HB4.out.size)); clear hb)
      | (go_at_call 12; (with_reducible refine (rencrypt_any _ _ (keyB_size _) HT.out _).mono ?_); rintro e w6 ⟨rfl, hb⟩; have HB6 := hide (HB5.out.trans (hb.mono HB5.out.size)); clear hb))
    go_ret
    exact ⟨rfl, HB6.out⟩
  · have t1 : ((t.size : Int) != 16) = true := by simp; omega
    have t2 : (t.size != 16) = true := by simp; omega
    have HT := hide h16
    clear h16
    go_enter Try.func3, Try.ntmps3
    go_wp2_with (first
      | (go_at_call 9; (with_reducible refine (key_any _ w).mono ?_); rintro e w1 ⟨rfl, hb⟩; have HB1 := hide hb; clear hb)
      | (go_at_call 8; (with_reducible refine (new_ok _ (keyB_size _) _).mono ?_); rintro e w2 ⟨rfl, hk, hb⟩; have HK := hide hk; have HB2 := hide (HB1.out.trans (hb.mono HB1.out.size)); clear hb hk)
      | (go_at_call 10; (with_reducible refine (encrypt_form _ _ HT.out _).mono ?_); rintro e w3 ⟨rfl, hb⟩; have HB3 := hide (HB2.out.trans (hb.mono HB2.out.size)); clear hb)
      | (go_at_call 11; (with_reducible refine (awake_any _).mono ?_); rintro e w4 ⟨rfl, hb⟩; have HB4 := hide (HB3.out.trans (hb.mono HB3.out.size)); clear hb))
    go_ret
    exact ⟨rfl, HB4.out⟩
end Go.Proofs.Ytpehjdigbohfkaa.Ae
