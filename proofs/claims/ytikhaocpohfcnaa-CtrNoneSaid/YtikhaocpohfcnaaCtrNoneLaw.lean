/- The law that without a key nothing is sealed, walked. -/
import Derived.Test.YtikhaocpohfcnaaCtrRef
namespace Go.Proofs.Ytikhaocpohfcnaa.Ct
open Go.RowKit Go.Proofs.Ytikhaocpohfcnaa.W Go.Proofs.Ytikhaocpohfcnaa.Gf Go.Proofs.Ytikhaocpohfcnaa.Ae
set_option linter.unusedVariables false
set_option linter.unusedSimpArgs false

set_option maxRecDepth 100000 in
set_option maxHeartbeats 1000000 in
theorem ctrNone_walk (n m : Int) (s : ByteArray) (w : World) : Calls Try.prog 6 #[.int .i64 n, .int .i64 m, .string s] w fun e w' => e = .returned (.bool true) ∧ Below w.heap.size w w' := by
  obtain ⟨d, hd⟩ : ∃ d, dataS s = d := ⟨_, rfl⟩
  have HD := hide (fun W => data_any s W)
  rw [hd] at HD
  have hz : d.size = 48 := by rw [← hd]; exact dataS_size _
  have HU := hide (fun W => unseal_nil (headB 7 1 ++ d) (isK_head (by omega) (.inl rfl) hz) (kind_head (by omega)) W)
  have hadd : ∀ w, (Op.stringOp .add (headB 7 1) d).run Try.prog w = .ok (.string (headB 7 1 ++ d)) w := fun w => run_string_add_sum w _ _ (by simp only [headB_size, hz]; omega)
  obtain ⟨y, hy⟩ : ∃ y, headB 7 1 ++ d = y := ⟨_, rfl⟩
  rw [hy] at hadd HU
  have hnn : ((⟨#[]⟩ : ByteArray) ++ ⟨#[]⟩) = ⟨#[]⟩ := rfl
  have hnl : (⟨#[]⟩ : ByteArray).toList = [] := by rw [ByteArray.toList_eq]
  clear hd hz hy
  go_enter Try.func6, Try.ntmps6
  go_wp2_with (first
    | (go_at_call 10; (with_reducible refine (stream_nil _ _ _).mono ?_); rintro e w1 ⟨rfl, hb⟩; have HB1 := hide hb; clear hb)
    | (go_at_call 11; (with_reducible refine (crypt_nil _ _ _).mono ?_); rintro e w2 ⟨rfl, hb⟩; have HB2 := hide (HB1.out.trans (hb.mono HB1.out.size)); clear hb)
    | (go_at_call 20; (with_reducible refine (seal_nil _ _ _).mono ?_); rintro e w3 ⟨rfl, hb⟩; have HB3 := hide (HB2.out.trans (hb.mono HB2.out.size)); clear hb)
    | (go_at_call 22; (with_reducible refine (head71 _).mono ?_); rintro e w4 ⟨rfl, hb⟩; have HB4 := hide (HB3.out.trans (hb.mono HB3.out.size)); clear hb)
    | (go_at_call 19; (with_reducible refine (HD.out _).mono ?_); rintro e w5 ⟨rfl, hb⟩; have HB5 := hide (HB4.out.trans (hb.mono HB4.out.size)); clear hb)
    | (go_at_call 17; (with_reducible refine (HU.out _).mono ?_); rintro e w6 ⟨rfl, hb⟩; have HB6 := hide (HB5.out.trans (hb.mono HB5.out.size)); clear hb)
    | (go_at_call 13; (with_reducible refine (awake_any _).mono ?_); rintro e w7 ⟨rfl, hb⟩; have HB7 := hide (HB6.out.trans (hb.mono HB6.out.size)); clear hb))
  go_ret
  exact ⟨rfl, HB7.out⟩
end Go.Proofs.Ytikhaocpohfcnaa.Ct
