/- One call of both, by the law's 'do': the last kind; and any. -/
import Derived.Test.YtafhkjipjgkkkaaLevDo2
namespace Go.Proofs.Ytafhkjipjgkkkaa.Lv
open Go.RowKit Go.Proofs.Ytafhkjipjgkkkaa.W
set_option linter.unusedVariables false
set_option linter.unusedSimpArgs false

set_option maxRecDepth 100000 in
set_option maxHeartbeats 4000000 in
theorem do_else (gq gx n : Nat) (K I N : Int) (hK : K < 0 ∨ 7 < K) (Rq Rx : Nat → List Nat) (hn : n ≤ 16) (hg : Good n Rx) (w : World) (hq : QAt w gq n Rq) (hx : RefAt w gx Rx) :
    Calls Try.prog 9 #[.pointer (some ⟨gq, 0, none⟩), .pointer (some ⟨gx, 0, none⟩), .int .i64 (n : Int), .agg #[.int .i64 K, .int .i64 I, .int .i64 N]] w (DoE gq gx n K I N Rq Rx w) := by
  have HD0 := hide (doAt_new hq hx K I N)
  have HL := hide (lens hn hg)
  have hst : ∀ R, stepR n R K I N = R := fun R => by
    unfold stepR
    rw [if_neg (by omega), if_neg (by omega), if_neg (by omega), if_neg (by omega), if_neg (by omega)]
  have q0 : (K == 0) = false := by simp; omega
  have q1 : (K == 1) = false := by simp; omega
  have q2 : (K == 2) = false := by simp; omega
  have q3 : (K == 3) = false := by simp; omega
  have q4 : (K == 4) = false := by simp; omega
  have q5 : (K == 5) = false := by simp; omega
  have q6 : (K == 6) = false := by simp; omega
  have q7 : (K == 7) = false := by simp; omega
  have HQ := hide (fun W h => level_any gq n Rq I W h)
  unfold LevE at HQ
  have hcs := xcase n Rx I
  clear hq hx hg hK
  unfold DoE
  rw [hst, hst]
  clear hst
  obtain ⟨c, hc⟩ : ∃ c, decide (wantC n Rq I = 0) = c := ⟨_, rfl⟩
  obtain ⟨v, hv⟩ : ∃ v, levV n Rq I = v := ⟨_, rfl⟩
  rw [hc, hv] at HQ
  have HC := hide hc
  have HVv := hide hv
  have hv0 : c = false → v = 0 := fun h => by
    rw [← hv]
    unfold levV
    rw [if_neg]
    rw [h] at hc
    simpa using hc
  clear hc hv
  rcases hcs with ⟨i1, hI⟩ | ⟨i1, i2, hI⟩ | ⟨i, rfl, hi, hw, hI⟩ | ⟨i, rfl, hi, hw, hI⟩
  · have HV : Hid (wantC n Rx I = 3) := hide (by simp [wantC, hI])
    clear hI
    cases c with
    | true =>
      clear hv0
      go_enter Try.func9, Try.ntmps9
      go_upto_region 1 with fail
      generalize w.alloc (.cells #[.int .i64 K, .int .i64 I, .int .i64 N] 35) = W0 at HD0 ⊢
      have k0 := HD0.out.k
      have k1 := HD0.out.i
      have k2 := HD0.out.nn
      go_wp2_with (first
        | (go_at_call 12; (with_reducible refine (HQ.out _ HD0.out.q).mono ?_); rintro e wx ⟨b, rfl, rfl, hw⟩; subst wx))
      go_ret
      refine ⟨_, rfl, fun he => ?_, HD0.out.q, HD0.out.x, HD0.out.chg⟩
      have h1 := HC.out
      rw [he, HV.out] at h1
      simp at h1
    | false =>
      obtain rfl := hv0 rfl
      clear hv0
      go_enter Try.func9, Try.ntmps9
      go_upto_region 1 with fail
      generalize w.alloc (.cells #[.int .i64 K, .int .i64 I, .int .i64 N] 35) = W0 at HD0 ⊢
      have k0 := HD0.out.k
      have k1 := HD0.out.i
      have k2 := HD0.out.nn
      go_wp2_with (first
        | (go_at_call 12; (with_reducible refine (HQ.out _ HD0.out.q).mono ?_); rintro e wx ⟨b, rfl, rfl, hw⟩; subst wx))
      go_ret
      exact ⟨_, rfl, fun _ => rfl, HD0.out.q, HD0.out.x, HD0.out.chg⟩
  · have HV : Hid (wantC n Rx I = 3) := hide (by simp [wantC, hI])
    clear hI
    cases c with
    | true =>
      clear hv0
      go_enter Try.func9, Try.ntmps9
      go_upto_region 1 with fail
      generalize w.alloc (.cells #[.int .i64 K, .int .i64 I, .int .i64 N] 35) = W0 at HD0 ⊢
      have k0 := HD0.out.k
      have k1 := HD0.out.i
      have k2 := HD0.out.nn
      go_wp2_with (first
        | (go_at_call 12; (with_reducible refine (HQ.out _ HD0.out.q).mono ?_); rintro e wx ⟨b, rfl, rfl, hw⟩; subst wx))
      go_ret
      refine ⟨_, rfl, fun he => ?_, HD0.out.q, HD0.out.x, HD0.out.chg⟩
      have h1 := HC.out
      rw [he, HV.out] at h1
      simp at h1
    | false =>
      obtain rfl := hv0 rfl
      clear hv0
      go_enter Try.func9, Try.ntmps9
      go_upto_region 1 with fail
      generalize w.alloc (.cells #[.int .i64 K, .int .i64 I, .int .i64 N] 35) = W0 at HD0 ⊢
      have k0 := HD0.out.k
      have k1 := HD0.out.i
      have k2 := HD0.out.nn
      go_wp2_with (first
        | (go_at_call 12; (with_reducible refine (HQ.out _ HD0.out.q).mono ?_); rintro e wx ⟨b, rfl, rfl, hw⟩; subst wx))
      go_ret
      exact ⟨_, rfl, fun _ => rfl, HD0.out.q, HD0.out.x, HD0.out.chg⟩
  · have HV : Hid (wantC n Rx (i : Int) = 7) := hide (by simp [wantC, hI, hw])
    have hwv : whV Rx i = -1 := by simp [whV, hw]
    have HWh := hide (fun W hW => where_any gx i Rx HL.out W hW)
    rw [hwv] at HWh
    have i1 : decide ((0 : Int) ≤ (i : Int)) = true := by simp
    have i2 : decide ((i : Int) < (n : Int)) = true := by simp; omega
    have i3 : decide (i < n) = true := by simp; omega
    clear hwv hI hi hw
    cases c with
    | true =>
      clear hv0
      go_enter Try.func9, Try.ntmps9
      go_upto_region 1 with fail
      generalize w.alloc (.cells #[.int .i64 K, .int .i64 (i : Int), .int .i64 N] 35) = W0 at HD0 ⊢
      have k0 := HD0.out.k
      have k1 := HD0.out.i
      have k2 := HD0.out.nn
      go_wp2_with (first
        | (go_at_call 23; (with_reducible refine (HWh.out _ HD0.out.x).mono ?_); rintro e wx ⟨rfl, hw⟩; subst wx)
        | (go_at_call 12; (with_reducible refine (HQ.out _ HD0.out.q).mono ?_); rintro e wx ⟨b, rfl, rfl, hw⟩; subst wx))
      go_ret
      refine ⟨_, rfl, fun he => ?_, HD0.out.q, HD0.out.x, HD0.out.chg⟩
      have h1 := HC.out
      rw [he, HV.out] at h1
      simp at h1
    | false =>
      obtain rfl := hv0 rfl
      clear hv0
      go_enter Try.func9, Try.ntmps9
      go_upto_region 1 with fail
      generalize w.alloc (.cells #[.int .i64 K, .int .i64 (i : Int), .int .i64 N] 35) = W0 at HD0 ⊢
      have k0 := HD0.out.k
      have k1 := HD0.out.i
      have k2 := HD0.out.nn
      go_wp2_with (first
        | (go_at_call 23; (with_reducible refine (HWh.out _ HD0.out.x).mono ?_); rintro e wx ⟨rfl, hw⟩; subst wx)
        | (go_at_call 12; (with_reducible refine (HQ.out _ HD0.out.q).mono ?_); rintro e wx ⟨b, rfl, rfl, hw⟩; subst wx))
      go_ret
      exact ⟨_, rfl, fun _ => rfl, HD0.out.q, HD0.out.x, HD0.out.chg⟩
  · have HV : Hid (wantC n Rx (i : Int) = 0) := hide (by simp [wantC, hI, hw])
    obtain ⟨k, hk⟩ : ∃ k, wh Rx i = k := ⟨_, rfl⟩
    have hwv : whV Rx i = (k : Int) := by unfold whV; rw [if_pos hw, hk]
    have HKk := hide hk
    have HWh := hide (fun W hW => where_any gx i Rx HL.out W hW)
    rw [hwv] at HWh
    have i1 : decide ((0 : Int) ≤ (i : Int)) = true := by simp
    have i2 : decide ((i : Int) < (n : Int)) = true := by simp; omega
    have i3 : decide (i < n) = true := by simp; omega
    have i4 : decide ((k : Int) < 0) = false := by simp
    clear hwv hI hi hw hk
    cases c with
    | true =>
      clear hv0
      by_cases hvk : v = (k : Int)
      · subst hvk
        go_enter Try.func9, Try.ntmps9
        go_upto_region 1 with fail
        generalize w.alloc (.cells #[.int .i64 K, .int .i64 (i : Int), .int .i64 N] 35) = W0 at HD0 ⊢
        have k0 := HD0.out.k
        have k1 := HD0.out.i
        have k2 := HD0.out.nn
        go_wp2_with (first
          | (go_at_call 23; (with_reducible refine (HWh.out _ HD0.out.x).mono ?_); rintro e wx ⟨rfl, hw⟩; subst wx)
          | (go_at_call 12; (with_reducible refine (HQ.out _ HD0.out.q).mono ?_); rintro e wx ⟨b, rfl, rfl, hw⟩; subst wx))
        go_ret
        exact ⟨_, rfl, fun _ => rfl, HD0.out.q, HD0.out.x, HD0.out.chg⟩
      · have hvk1 : (v == (k : Int)) = false := by simpa using hvk
        have HNe := hide hvk
        clear hvk
        go_enter Try.func9, Try.ntmps9
        go_upto_region 1 with fail
        generalize w.alloc (.cells #[.int .i64 K, .int .i64 (i : Int), .int .i64 N] 35) = W0 at HD0 ⊢
        have k0 := HD0.out.k
        have k1 := HD0.out.i
        have k2 := HD0.out.nn
        go_wp2_with (first
          | (go_at_call 23; (with_reducible refine (HWh.out _ HD0.out.x).mono ?_); rintro e wx ⟨rfl, hw⟩; subst wx)
          | (go_at_call 12; (with_reducible refine (HQ.out _ HD0.out.q).mono ?_); rintro e wx ⟨b, rfl, rfl, hw⟩; subst wx))
        go_ret
        refine ⟨_, rfl, fun he => ?_, HD0.out.q, HD0.out.x, HD0.out.chg⟩
        have h1 := HVv.out
        unfold levV at h1
        rw [he, if_pos HV.out] at h1
        exact absurd (h1.symm.trans (by simp [HKk.out])) HNe.out
    | false =>
      obtain rfl := hv0 rfl
      clear hv0
      go_enter Try.func9, Try.ntmps9
      go_upto_region 1 with fail
      generalize w.alloc (.cells #[.int .i64 K, .int .i64 (i : Int), .int .i64 N] 35) = W0 at HD0 ⊢
      have k0 := HD0.out.k
      have k1 := HD0.out.i
      have k2 := HD0.out.nn
      go_wp2_with (first
        | (go_at_call 23; (with_reducible refine (HWh.out _ HD0.out.x).mono ?_); rintro e wx ⟨rfl, hw⟩; subst wx)
        | (go_at_call 12; (with_reducible refine (HQ.out _ HD0.out.q).mono ?_); rintro e wx ⟨b, rfl, rfl, hw⟩; subst wx))
      go_ret
      refine ⟨_, rfl, fun he => ?_, HD0.out.q, HD0.out.x, HD0.out.chg⟩
      have h1 := HC.out
      rw [he, HV.out] at h1
      simp at h1
theorem do_any (gq gx n : Nat) (K I N : Int) (hN1 : -9223372036854775808 ≤ N) (hN2 : N ≤ 9223372036854775807) (Rq Rx : Nat → List Nat) (hn : n ≤ 16) (hg : Good n Rx) (w : World) (hq : QAt w gq n Rq) (hx : RefAt w gx Rx) :
    Calls Try.prog 9 #[.pointer (some ⟨gq, 0, none⟩), .pointer (some ⟨gx, 0, none⟩), .int .i64 (n : Int), .agg #[.int .i64 K, .int .i64 I, .int .i64 N]] w (DoE gq gx n K I N Rq Rx w) := by
  by_cases hK : K < 0 ∨ 7 < K
  · exact do_else gq gx n K I N hK Rq Rx hn hg w hq hx
  · have h8 : K = 0 ∨ K = 1 ∨ K = 2 ∨ K = 3 ∨ K = 4 ∨ K = 5 ∨ K = 6 ∨ K = 7 := by omega
    rcases h8 with rfl | rfl | rfl | rfl | rfl | rfl | rfl | rfl
    · exact do_add0 gq gx n I N Rq Rx hn hg w hq hx
    · exact do_add1 gq gx n I N Rq Rx hn hg w hq hx
    · exact do_add2 gq gx n I N Rq Rx hn hg w hq hx
    · exact do_rem gq gx n I N hN1 hN2 Rq Rx hn hg w hq hx
    · exact do_touch gq gx n I N hN1 hN2 Rq Rx hn hg w hq hx
    · exact do_move5 gq gx n I N hN1 hN2 Rq Rx hn hg w hq hx
    · exact do_move6 gq gx n I N hN1 hN2 Rq Rx hn hg w hq hx
    · exact do_bal gq gx n I N Rq Rx hn hg w hq hx
end Go.Proofs.Ytafhkjipjgkkkaa.Lv
