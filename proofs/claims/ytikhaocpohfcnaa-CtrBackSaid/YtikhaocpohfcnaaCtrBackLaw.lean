/- The law that what was sealed, or laid, is unsealed as it was, walked. -/
import Derived.Test.YtikhaocpohfcnaaCtrLaws
namespace Go.Proofs.Ytikhaocpohfcnaa.Ct
open Go.RowKit Go.Proofs.Ytikhaocpohfcnaa.W Go.Proofs.Ytikhaocpohfcnaa.Gf Go.Proofs.Ytikhaocpohfcnaa.Ae
set_option linter.unusedVariables false
set_option linter.unusedSimpArgs false

set_option maxRecDepth 100000 in
set_option maxHeartbeats 1000000 in
theorem ctrBack_walk (key s : ByteArray) (n : Int) (w : World) : Calls Try.prog 8 #[.string key, .int .i64 n, .string s] w fun e w' => e = .returned (.bool true) ∧ Below w.heap.size w w' := by
  obtain ⟨d, hd⟩ : ∃ d, dataS s = d := ⟨_, rfl⟩
  have HD := hide (fun W => data_any s W)
  rw [hd] at HD
  have HZ : Hid (d.size = 48) := hide (by rw [← hd]; exact dataS_size _)
  have HK := hide (fun W => Key_any key W)
  clear hd
  by_cases hn : n < 0 ∨ 1099511627776 < n
  · have HN := hide hn
    clear hn
    go_enter Try.func8, Try.ntmps8
    go_wp2_with (first
      | (go_at_call 9; (with_reducible refine (HK.out _).mono ?_); rintro e w1 ⟨g, rfl, hk, hb⟩; have HK1 := hide hk; have HB1 := hide hb; clear hb hk; (obtain ⟨kf, hkf⟩ : ∃ kf, kfun (sbyte (keyS key)) = kf := ⟨_, rfl⟩); rw [hkf] at HK1; clear hkf)
      | (go_at_call 19; (with_reducible refine (HD.out _).mono ?_); rintro e w2 ⟨rfl, hb⟩; have HB2 := hide hb; clear hb)
      | (go_at_call 20; (with_reducible refine (seal_arg g n HN.out d _).mono ?_); rintro e w3 ⟨rfl, hb⟩; have HB3 := hide (HB2.out.trans (hb.mono HB2.out.size)); clear hb)
      | (go_at_call 23; (with_reducible refine (Lay_arg n HN.out d _).mono ?_); rintro e w4 ⟨rfl, hb⟩; have HB4 := hide (HB3.out.trans (hb.mono HB3.out.size)); clear hb)
      | (go_at_call 12; (with_reducible refine (lright_no n HN.out _).mono ?_); rintro e wx ⟨rfl, hw⟩; subst wx)
      | (go_at_call 13; (with_reducible refine (awake_any _).mono ?_); rintro e w5 ⟨rfl, hb⟩; have HB5 := hide (HB4.out.trans (hb.mono HB4.out.size)); clear hb))
    go_ret
    exact ⟨rfl, HB1.out.trans (HB5.out.mono HB1.out.size)⟩
  · obtain ⟨m, rfl⟩ : ∃ m : Nat, n = (m : Int) := ⟨n.toNat, by omega⟩
    have HN : Hid (m ≤ 1099511627776) := hide (by omega)
    clear hn
    go_enter Try.func8, Try.ntmps8
    go_wp2_with (first
      | (go_at_call 9; (with_reducible refine (HK.out _).mono ?_); rintro e w1 ⟨g, rfl, hk, hb⟩; have HK1 := hide hk; have HB1 := hide hb; clear hb hk; (obtain ⟨kf, hkf⟩ : ∃ kf, kfun (sbyte (keyS key)) = kf := ⟨_, rfl⟩); rw [hkf] at HK1; clear hkf)
      | (go_at_call 19; (with_reducible refine (HD.out _).mono ?_); rintro e w2 ⟨rfl, hb⟩; have HB2 := hide hb; clear hb)
      | (go_at_call 20; first
          | ((with_reducible refine (seal_ok g m kf HN.out d HZ.out _ (HK1.out.later HB6.out)).mono ?_); rintro e w7 ⟨rfl, hb⟩; have HB7 := hide (HB6.out.trans (hb.mono HB6.out.size)); clear hb)
          | ((with_reducible refine (seal_ok g m kf HN.out d HZ.out _ (HK1.out.later HB2.out)).mono ?_); rintro e w3 ⟨rfl, hb⟩; have HB3 := hide (HB2.out.trans (hb.mono HB2.out.size)); clear hb))
      | (go_at_call 23; (with_reducible refine (Lay_ok m HN.out d HZ.out _).mono ?_); rintro e w4 ⟨rfl, hb⟩; have HB4 := hide (HB3.out.trans (hb.mono HB3.out.size)); clear hb)
      | (go_at_call 12; (with_reducible refine (lright_yes m HN.out _).mono ?_); rintro e wx ⟨rfl, hw⟩; subst wx)
      | (go_at_call 17; first
          | ((with_reducible refine (unseal_laid none m HN.out d HZ.out _).mono ?_); rintro e w6 ⟨rfl, hb⟩; have HB6 := hide (HB5.out.trans (hb.mono HB5.out.size)); clear hb)
          | ((with_reducible refine (unseal_sealed g kf m HN.out d HZ.out _ (HK1.out.later HB4.out)).mono ?_); rintro e w5 ⟨rfl, hb⟩; have HB5 := hide (HB4.out.trans (hb.mono HB4.out.size)); clear hb))
      | (go_at_call 13; (with_reducible refine (awake_any _).mono ?_); rintro e w8 ⟨rfl, hb⟩; have HB8 := hide (HB7.out.trans (hb.mono HB7.out.size)); clear hb))
    go_ret
    exact ⟨rfl, HB1.out.trans (HB8.out.mono HB1.out.size)⟩
end Go.Proofs.Ytikhaocpohfcnaa.Ct
