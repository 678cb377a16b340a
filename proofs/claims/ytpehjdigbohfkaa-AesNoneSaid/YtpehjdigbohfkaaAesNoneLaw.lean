/- The law of a nil key, and of texts that have not 16 bytes, walked. -/
import Derived.Test.YtpehjdigbohfkaaAesAwake
namespace Go.Proofs.Ytpehjdigbohfkaa.Ae
open Go.RowKit Go.Proofs.Ytpehjdigbohfkaa.W Go.Proofs.Ytpehjdigbohfkaa.Gf
set_option linter.unusedVariables false
set_option linter.unusedSimpArgs false

set_option maxRecDepth 100000 in
set_option maxHeartbeats 1000000 in
theorem aesNone_walk (s : ByteArray) (i : Int) (w : World) : Calls Try.prog 7 #[.string s, .int .i64 i] w fun e w' => e = .returned (.bool true) ∧ Below w.heap.size w w' := by
  have he : (({ data := #[] } : ByteArray) ++ { data := #[] }).toList = [] := by kernel_rfl
  have HE := hide (encrypt_nil s)
  have HD := hide (decrypt_nil s)
  by_cases h16 : s.size = 16
  · have ht : (s.size == 16) = true := by simp [h16]
    have ht' : ((s.size : Int) == 16) = true := by simp [h16]
    have HS := hide h16
    clear h16
    go_enter Try.func7, Try.ntmps7
    go_wp2_with (first
      | (go_at_call 10; (with_reducible refine (HE.out _).mono ?_); rintro e w1 ⟨rfl, hb⟩; have HB1 := hide hb; clear hb)
      | (go_at_call 14; (with_reducible refine (HD.out _).mono ?_); rintro e w2 ⟨rfl, hb⟩; have HB2 := hide (HB1.out.trans (hb.mono HB1.out.size)); clear hb)
      | (go_at_call 18; (with_reducible refine (word_nil _ _).mono ?_); rintro e w3 ⟨rfl, hb⟩; have HB3 := hide (HB2.out.trans (hb.mono HB2.out.size)); clear hb)
      | (go_at_call 21; (with_reducible refine (rising32 _).mono ?_); rintro e w4 ⟨rfl, hb⟩; have HB4 := hide (HB3.out.trans (hb.mono HB3.out.size)); clear hb)
      | (go_at_call 8; (with_reducible refine (new_ok _ (strB_size _ _) _).mono ?_); rintro e w5 ⟨rfl, hk, hb⟩; have HK := hide hk; have HB5 := hide (HB4.out.trans (hb.mono HB4.out.size)); clear hb hk)
      | (go_at_call 14; (with_reducible refine (decrypt_ok _ _ _ HS.out _ HK.out).mono ?_); rintro e w6 ⟨rfl, hb⟩; have HB6 := hide (HB5.out.trans (hb.mono HB5.out.size)); clear hb)
      | (go_at_call 11; (with_reducible refine (awake_any _).mono ?_); rintro e w7 ⟨rfl, hb⟩; have HB7 := hide (HB6.out.trans (hb.mono HB6.out.size)); clear hb))
    go_ret
    exact ⟨rfl, HB7.out⟩
  · have ht : (s.size == 16) = false := by simp [h16]
    have ht' : ((s.size : Int) == 16) = false := by simp; omega
    have HS := hide h16
    clear h16
    go_enter Try.func7, Try.ntmps7
    go_wp2_with (first
      | (go_at_call 10; (with_reducible refine (HE.out _).mono ?_); rintro e w1 ⟨rfl, hb⟩; have HB1 := hide hb; clear hb)
      | (go_at_call 14; (with_reducible refine (HD.out _).mono ?_); rintro e w2 ⟨rfl, hb⟩; have HB2 := hide (HB1.out.trans (hb.mono HB1.out.size)); clear hb)
      | (go_at_call 18; (with_reducible refine (word_nil _ _).mono ?_); rintro e w3 ⟨rfl, hb⟩; have HB3 := hide (HB2.out.trans (hb.mono HB2.out.size)); clear hb)
      | (go_at_call 21; (with_reducible refine (rising32 _).mono ?_); rintro e w4 ⟨rfl, hb⟩; have HB4 := hide (HB3.out.trans (hb.mono HB3.out.size)); clear hb)
      | (go_at_call 8; (with_reducible refine (new_ok _ (strB_size _ _) _).mono ?_); rintro e w5 ⟨rfl, hk, hb⟩; have HK := hide hk; have HB5 := hide (HB4.out.trans (hb.mono HB4.out.size)); clear hb hk)
      | (go_at_call 14; (with_reducible refine (decrypt_form _ _ HS.out _).mono ?_); rintro e w6 ⟨rfl, hb⟩; have HB6 := hide (HB5.out.trans (hb.mono HB5.out.size)); clear hb)
      | (go_at_call 11; (with_reducible refine (awake_any _).mono ?_); rintro e w7 ⟨rfl, hb⟩; have HB7 := hide (HB6.out.trans (hb.mono HB6.out.size)); clear hb))
    go_ret
    exact ⟨rfl, HB7.out⟩
end Go.Proofs.Ytpehjdigbohfkaa.Ae
