/- One call of both, by the law's 'do': adding, balancing, and asking. -/
import Derived.Test.YtafhkjipjgkkkaaLevDo
namespace Go.Proofs.Ytafhkjipjgkkkaa.Lv
open Go.RowKit Go.Proofs.Ytafhkjipjgkkkaa.W
set_option linter.unusedVariables false
set_option linter.unusedSimpArgs false

theorem ncase (N : Int) : (decide (N < 0) = true ∧ (N < 0 ∨ 4 ≤ N)) ∨ (decide (N < 0) = false ∧ decide ((3 : Int) < N) = true ∧ (N < 0 ∨ 4 ≤ N)) ∨ (∃ l : Nat, N = (l : Int) ∧ l < 4) := by
  by_cases h : N < 0
  · exact .inl ⟨by simpa using h, .inl h⟩
  · by_cases h2 : 3 < N
    · exact .inr (.inl ⟨by simpa using h, by simpa using h2, .inr (by omega)⟩)
    · exact .inr (.inr ⟨N.toNat, by omega, by omega⟩)
set_option maxRecDepth 100000 in
set_option maxHeartbeats 4000000 in
theorem do_add0 (gq gx n : Nat) (I N : Int) (Rq Rx : Nat → List Nat) (hn : n ≤ 16) (hg : Good n Rx) (w : World) (hq : QAt w gq n Rq) (hx : RefAt w gx Rx) :
    Calls Try.prog 9 #[.pointer (some ⟨gq, 0, none⟩), .pointer (some ⟨gx, 0, none⟩), .int .i64 (n : Int), .agg #[.int .i64 0, .int .i64 I, .int .i64 N]] w (DoE gq gx n 0 I N Rq Rx w) := by
  have HD0 := hide (doAt_new hq hx 0 I N)
  have HL := hide (lens hn hg)
  have hRq : stepR n Rq 0 I N = addR n Rq I N := by simp [stepR]
  have hRx : stepR n Rx 0 I N = addR n Rx I N := by simp [stepR]
  obtain ⟨c, hc⟩ : ∃ c, addC n Rq I N = c := ⟨_, rfl⟩
  have HQ := hide (fun W h => add_any gq n Rq I N W h)
  rw [hc] at HQ
  have HC := hide hc
  have hcs := xcase n Rx I
  have hns := ncase N
  clear hq hx hg hc
  unfold DoE
  rw [hRq, hRx]
  clear hRq hRx
  rcases hcs with ⟨i1, hI⟩ | ⟨i1, i2, hI⟩ | ⟨i, rfl, hi, hw, hI⟩ | ⟨i, rfl, hi, hw, hI⟩
  · have HV : Hid (addC n Rx I N = 3 ∧ addR n Rx I N = Rx) := hide ⟨by simp [addC, hI], by simp [addR, hI]⟩
    clear hI hns
    go_enter Try.func9, Try.ntmps9
    go_upto_region 1 with fail
    generalize w.alloc (.cells #[.int .i64 0, .int .i64 I, .int .i64 N] 35) = W0 at HD0 ⊢
    have k0 := HD0.out.k
    have k1 := HD0.out.i
    have k2 := HD0.out.nn
    go_wp2_with (first
      | (go_at_call 18; (with_reducible refine (HQ.out _ HD0.out.q).mono ?_); rintro e w2 ⟨rfl, h1, h2⟩; have HD2 := hide (HD0.out.setq h1 h2); clear h1 h2; have m0 := HD2.out.k; have m1 := HD2.out.i; have m2 := HD2.out.nn))
    go_ret
    refine ⟨_, rfl, fun he => ?_, HD2.out.q, ?_, HD2.out.chg⟩
    · have h1 := HC.out
      rw [he] at h1
      have h2 := HV.out.1
      rw [h1] at h2
      subst h2
      rfl
    · rw [HV.out.2]
      exact HD2.out.x
  · have HV : Hid (addC n Rx I N = 3 ∧ addR n Rx I N = Rx) := hide ⟨by simp [addC, hI], by simp [addR, hI]⟩
    clear hI hns
    go_enter Try.func9, Try.ntmps9
    go_upto_region 1 with fail
    generalize w.alloc (.cells #[.int .i64 0, .int .i64 I, .int .i64 N] 35) = W0 at HD0 ⊢
    have k0 := HD0.out.k
    have k1 := HD0.out.i
    have k2 := HD0.out.nn
    go_wp2_with (first
      | (go_at_call 18; (with_reducible refine (HQ.out _ HD0.out.q).mono ?_); rintro e w2 ⟨rfl, h1, h2⟩; have HD2 := hide (HD0.out.setq h1 h2); clear h1 h2; have m0 := HD2.out.k; have m1 := HD2.out.i; have m2 := HD2.out.nn))
    go_ret
    refine ⟨_, rfl, fun he => ?_, HD2.out.q, ?_, HD2.out.chg⟩
    · have h1 := HC.out
      rw [he] at h1
      have h2 := HV.out.1
      rw [h1] at h2
      subst h2
      rfl
    · rw [HV.out.2]
      exact HD2.out.x
  · rcases hns with ⟨n1, hN⟩ | ⟨n1, n2, hN⟩ | ⟨l, rfl, hl⟩
    · have HV : Hid (addC n Rx (i : Int) N = 3 ∧ addR n Rx (i : Int) N = Rx) := hide ⟨by simp [addC, hI, hN], by
        unfold addR
        rw [if_neg (by omega)]⟩
      have hwv : whV Rx i = -1 := by simp [whV, hw]
      have HWh := hide (fun W hW => where_any gx i Rx HL.out W hW)
      rw [hwv] at HWh
      have i1 : decide ((0 : Int) ≤ (i : Int)) = true := by simp
      have i2 : decide ((i : Int) < (n : Int)) = true := by simp; omega
      have i3 : decide (i < n) = true := by simp; omega
      clear hwv
      clear hI hi hw hN
      go_enter Try.func9, Try.ntmps9
      go_upto_region 1 with fail
      generalize w.alloc (.cells #[.int .i64 0, .int .i64 (i : Int), .int .i64 N] 35) = W0 at HD0 ⊢
      have k0 := HD0.out.k
      have k1 := HD0.out.i
      have k2 := HD0.out.nn
      go_wp2_with (first
        | (go_at_call 23; (with_reducible refine (HWh.out _ HD0.out.x).mono ?_); rintro e wx ⟨rfl, hw⟩; subst wx)
        | (go_at_call 18; (with_reducible refine (HQ.out _ HD0.out.q).mono ?_); rintro e w2 ⟨rfl, h1, h2⟩; have HD2 := hide (HD0.out.setq h1 h2); clear h1 h2; have m0 := HD2.out.k; have m1 := HD2.out.i; have m2 := HD2.out.nn))
      go_ret
      refine ⟨_, rfl, fun he => ?_, HD2.out.q, ?_, HD2.out.chg⟩
      · have h1 := HC.out
        rw [he] at h1
        have h2 := HV.out.1
        rw [h1] at h2
        subst h2
        rfl
      · rw [HV.out.2]
        exact HD2.out.x
    · have HV : Hid (addC n Rx (i : Int) N = 3 ∧ addR n Rx (i : Int) N = Rx) := hide ⟨by simp [addC, hI, hN], by
        unfold addR
        rw [if_neg (by omega)]⟩
      have hwv : whV Rx i = -1 := by simp [whV, hw]
      have HWh := hide (fun W hW => where_any gx i Rx HL.out W hW)
      rw [hwv] at HWh
      have i1 : decide ((0 : Int) ≤ (i : Int)) = true := by simp
      have i2 : decide ((i : Int) < (n : Int)) = true := by simp; omega
      have i3 : decide (i < n) = true := by simp; omega
      clear hwv
      clear hI hi hw hN
      go_enter Try.func9, Try.ntmps9
      go_upto_region 1 with fail
      generalize w.alloc (.cells #[.int .i64 0, .int .i64 (i : Int), .int .i64 N] 35) = W0 at HD0 ⊢
      have k0 := HD0.out.k
      have k1 := HD0.out.i
      have k2 := HD0.out.nn
      go_wp2_with (first
        | (go_at_call 23; (with_reducible refine (HWh.out _ HD0.out.x).mono ?_); rintro e wx ⟨rfl, hw⟩; subst wx)
        | (go_at_call 18; (with_reducible refine (HQ.out _ HD0.out.q).mono ?_); rintro e w2 ⟨rfl, h1, h2⟩; have HD2 := hide (HD0.out.setq h1 h2); clear h1 h2; have m0 := HD2.out.k; have m1 := HD2.out.i; have m2 := HD2.out.nn))
      go_ret
      refine ⟨_, rfl, fun he => ?_, HD2.out.q, ?_, HD2.out.chg⟩
      · have h1 := HC.out
        rw [he] at h1
        have h2 := HV.out.1
        rw [h1] at h2
        subst h2
        rfl
      · rw [HV.out.2]
        exact HD2.out.x
    · have HV : Hid (addC n Rx (i : Int) (l : Int) = 0 ∧ addR n Rx (i : Int) (l : Int) = putR Rx i l) := hide ⟨by
        unfold addC
        rw [if_pos hI, if_neg (by omega), if_neg (by simp; omega)], by
        unfold addR
        rw [if_pos ⟨hI, by omega, by omega, by simpa using hw⟩]
        simp⟩
      have hwv : whV Rx i = -1 := by simp [whV, hw]
      have HWh := hide (fun W hW => where_any gx i Rx HL.out W hW)
      rw [hwv] at HWh
      have i1 : decide ((0 : Int) ≤ (i : Int)) = true := by simp
      have i2 : decide ((i : Int) < (n : Int)) = true := by simp; omega
      have i3 : decide (i < n) = true := by simp; omega
      clear hwv
      have HX := hide (fun W hW => rput_any gx i l Rx hl HL.out W hW)
      have n1 : decide ((l : Int) < 0) = false := by simp
      have n2 : decide ((3 : Int) < (l : Int)) = false := by simp; omega
      have n3 : decide (3 < l) = false := by simp; omega
      clear hI hi hw hl
      go_enter Try.func9, Try.ntmps9
      go_upto_region 1 with fail
      generalize w.alloc (.cells #[.int .i64 0, .int .i64 (i : Int), .int .i64 (l : Int)] 35) = W0 at HD0 ⊢
      have k0 := HD0.out.k
      have k1 := HD0.out.i
      have k2 := HD0.out.nn
      go_wp2_with (first
        | (go_at_call 23; (with_reducible refine (HWh.out _ HD0.out.x).mono ?_); rintro e wx ⟨rfl, hw⟩; subst wx)
        | (go_at_call 18; (with_reducible refine (HQ.out _ HD0.out.q).mono ?_); rintro e w2 ⟨rfl, h1, h2⟩; have HD2 := hide (HD0.out.setq h1 h2); clear h1 h2; have m0 := HD2.out.k; have m1 := HD2.out.i; have m2 := HD2.out.nn)
        | (go_at_call 24; (with_reducible refine (HX.out _ HD2.out.x).mono ?_); rintro e w3 ⟨rfl, h1, h2⟩; have HD3 := hide (HD2.out.setx h1 h2); clear h1 h2))
      go_ret
      refine ⟨_, rfl, fun he => ?_, HD3.out.q, ?_, HD3.out.chg⟩
      · have h1 := HC.out
        rw [he] at h1
        have h2 := HV.out.1
        rw [h1] at h2
        subst h2
        rfl
      · rw [HV.out.2]
        exact HD3.out.x
  · rcases hns with ⟨n1, hN⟩ | ⟨n1, n2, hN⟩ | ⟨l, rfl, hl⟩
    · have HV : Hid (addC n Rx (i : Int) N = 3 ∧ addR n Rx (i : Int) N = Rx) := hide ⟨by simp [addC, hI, hN], by
        unfold addR
        rw [if_neg (by omega)]⟩
      obtain ⟨k, hk⟩ : ∃ k, wh Rx i = k := ⟨_, rfl⟩
      have hwv : whV Rx i = (k : Int) := by unfold whV; rw [if_pos hw, hk]
      have HWh := hide (fun W hW => where_any gx i Rx HL.out W hW)
      rw [hwv] at HWh
      have i1 : decide ((0 : Int) ≤ (i : Int)) = true := by simp
      have i2 : decide ((i : Int) < (n : Int)) = true := by simp; omega
      have i3 : decide (i < n) = true := by simp; omega
      have i4 : decide ((k : Int) < 0) = false := by simp
      clear hwv
      clear hI hi hw hN hk
      go_enter Try.func9, Try.ntmps9
      go_upto_region 1 with fail
      generalize w.alloc (.cells #[.int .i64 0, .int .i64 (i : Int), .int .i64 N] 35) = W0 at HD0 ⊢
      have k0 := HD0.out.k
      have k1 := HD0.out.i
      have k2 := HD0.out.nn
      go_wp2_with (first
        | (go_at_call 23; (with_reducible refine (HWh.out _ HD0.out.x).mono ?_); rintro e wx ⟨rfl, hw⟩; subst wx)
        | (go_at_call 18; (with_reducible refine (HQ.out _ HD0.out.q).mono ?_); rintro e w2 ⟨rfl, h1, h2⟩; have HD2 := hide (HD0.out.setq h1 h2); clear h1 h2; have m0 := HD2.out.k; have m1 := HD2.out.i; have m2 := HD2.out.nn))
      go_ret
      refine ⟨_, rfl, fun he => ?_, HD2.out.q, ?_, HD2.out.chg⟩
      · have h1 := HC.out
        rw [he] at h1
        have h2 := HV.out.1
        rw [h1] at h2
        subst h2
        rfl
      · rw [HV.out.2]
        exact HD2.out.x
    · have HV : Hid (addC n Rx (i : Int) N = 3 ∧ addR n Rx (i : Int) N = Rx) := hide ⟨by simp [addC, hI, hN], by
        unfold addR
        rw [if_neg (by omega)]⟩
      obtain ⟨k, hk⟩ : ∃ k, wh Rx i = k := ⟨_, rfl⟩
      have hwv : whV Rx i = (k : Int) := by unfold whV; rw [if_pos hw, hk]
      have HWh := hide (fun W hW => where_any gx i Rx HL.out W hW)
      rw [hwv] at HWh
      have i1 : decide ((0 : Int) ≤ (i : Int)) = true := by simp
      have i2 : decide ((i : Int) < (n : Int)) = true := by simp; omega
      have i3 : decide (i < n) = true := by simp; omega
      have i4 : decide ((k : Int) < 0) = false := by simp
      clear hwv
      clear hI hi hw hN hk
      go_enter Try.func9, Try.ntmps9
      go_upto_region 1 with fail
      generalize w.alloc (.cells #[.int .i64 0, .int .i64 (i : Int), .int .i64 N] 35) = W0 at HD0 ⊢
      have k0 := HD0.out.k
      have k1 := HD0.out.i
      have k2 := HD0.out.nn
      go_wp2_with (first
        | (go_at_call 23; (with_reducible refine (HWh.out _ HD0.out.x).mono ?_); rintro e wx ⟨rfl, hw⟩; subst wx)
        | (go_at_call 18; (with_reducible refine (HQ.out _ HD0.out.q).mono ?_); rintro e w2 ⟨rfl, h1, h2⟩; have HD2 := hide (HD0.out.setq h1 h2); clear h1 h2; have m0 := HD2.out.k; have m1 := HD2.out.i; have m2 := HD2.out.nn))
      go_ret
      refine ⟨_, rfl, fun he => ?_, HD2.out.q, ?_, HD2.out.chg⟩
      · have h1 := HC.out
        rw [he] at h1
        have h2 := HV.out.1
        rw [h1] at h2
        subst h2
        rfl
      · rw [HV.out.2]
        exact HD2.out.x
    · have HV : Hid (addC n Rx (i : Int) (l : Int) = 8 ∧ addR n Rx (i : Int) (l : Int) = Rx) := hide ⟨by
        unfold addC
        rw [if_pos hI, if_neg (by omega), if_pos (by simpa using hw)], by
        unfold addR
        rw [if_neg (by simp; omega)]⟩
      obtain ⟨k, hk⟩ : ∃ k, wh Rx i = k := ⟨_, rfl⟩
      have hwv : whV Rx i = (k : Int) := by unfold whV; rw [if_pos hw, hk]
      have HWh := hide (fun W hW => where_any gx i Rx HL.out W hW)
      rw [hwv] at HWh
      have i1 : decide ((0 : Int) ≤ (i : Int)) = true := by simp
      have i2 : decide ((i : Int) < (n : Int)) = true := by simp; omega
      have i3 : decide (i < n) = true := by simp; omega
      have i4 : decide ((k : Int) < 0) = false := by simp
      clear hwv
      have n1 : decide ((l : Int) < 0) = false := by simp
      have n2 : decide ((3 : Int) < (l : Int)) = false := by simp; omega
      have n3 : decide (3 < l) = false := by simp; omega
      clear hI hi hw hk hl
      go_enter Try.func9, Try.ntmps9
      go_upto_region 1 with fail
      generalize w.alloc (.cells #[.int .i64 0, .int .i64 (i : Int), .int .i64 (l : Int)] 35) = W0 at HD0 ⊢
      have k0 := HD0.out.k
      have k1 := HD0.out.i
      have k2 := HD0.out.nn
      go_wp2_with (first
        | (go_at_call 23; (with_reducible refine (HWh.out _ HD0.out.x).mono ?_); rintro e wx ⟨rfl, hw⟩; subst wx)
        | (go_at_call 18; (with_reducible refine (HQ.out _ HD0.out.q).mono ?_); rintro e w2 ⟨rfl, h1, h2⟩; have HD2 := hide (HD0.out.setq h1 h2); clear h1 h2; have m0 := HD2.out.k; have m1 := HD2.out.i; have m2 := HD2.out.nn))
      go_ret
      refine ⟨_, rfl, fun he => ?_, HD2.out.q, ?_, HD2.out.chg⟩
      · have h1 := HC.out
        rw [he] at h1
        have h2 := HV.out.1
        rw [h1] at h2
        subst h2
        rfl
      · rw [HV.out.2]
        exact HD2.out.x
set_option maxRecDepth 100000 in
set_option maxHeartbeats 4000000 in
theorem do_add1 (gq gx n : Nat) (I N : Int) (Rq Rx : Nat → List Nat) (hn : n ≤ 16) (hg : Good n Rx) (w : World) (hq : QAt w gq n Rq) (hx : RefAt w gx Rx) :
    Calls Try.prog 9 #[.pointer (some ⟨gq, 0, none⟩), .pointer (some ⟨gx, 0, none⟩), .int .i64 (n : Int), .agg #[.int .i64 1, .int .i64 I, .int .i64 N]] w (DoE gq gx n 1 I N Rq Rx w) := by
  have HD0 := hide (doAt_new hq hx 1 I N)
  have HL := hide (lens hn hg)
  have hRq : stepR n Rq 1 I N = addR n Rq I N := by simp [stepR]
  have hRx : stepR n Rx 1 I N = addR n Rx I N := by simp [stepR]
  obtain ⟨c, hc⟩ : ∃ c, addC n Rq I N = c := ⟨_, rfl⟩
  have HQ := hide (fun W h => add_any gq n Rq I N W h)
  rw [hc] at HQ
  have HC := hide hc
  have hcs := xcase n Rx I
  have hns := ncase N
  clear hq hx hg hc
  unfold DoE
  rw [hRq, hRx]
  clear hRq hRx
  rcases hcs with ⟨i1, hI⟩ | ⟨i1, i2, hI⟩ | ⟨i, rfl, hi, hw, hI⟩ | ⟨i, rfl, hi, hw, hI⟩
  · have HV : Hid (addC n Rx I N = 3 ∧ addR n Rx I N = Rx) := hide ⟨by simp [addC, hI], by simp [addR, hI]⟩
    clear hI hns
    go_enter Try.func9, Try.ntmps9
    go_upto_region 1 with fail
    generalize w.alloc (.cells #[.int .i64 1, .int .i64 I, .int .i64 N] 35) = W0 at HD0 ⊢
    have k0 := HD0.out.k
    have k1 := HD0.out.i
    have k2 := HD0.out.nn
    go_wp2_with (first
      | (go_at_call 18; (with_reducible refine (HQ.out _ HD0.out.q).mono ?_); rintro e w2 ⟨rfl, h1, h2⟩; have HD2 := hide (HD0.out.setq h1 h2); clear h1 h2; have m0 := HD2.out.k; have m1 := HD2.out.i; have m2 := HD2.out.nn))
    go_ret
    refine ⟨_, rfl, fun he => ?_, HD2.out.q, ?_, HD2.out.chg⟩
    · have h1 := HC.out
      rw [he] at h1
      have h2 := HV.out.1
      rw [h1] at h2
      subst h2
      rfl
    · rw [HV.out.2]
      exact HD2.out.x
  · have HV : Hid (addC n Rx I N = 3 ∧ addR n Rx I N = Rx) := hide ⟨by simp [addC, hI], by simp [addR, hI]⟩
    clear hI hns
    go_enter Try.func9, Try.ntmps9
    go_upto_region 1 with fail
    generalize w.alloc (.cells #[.int .i64 1, .int .i64 I, .int .i64 N] 35) = W0 at HD0 ⊢
    have k0 := HD0.out.k
    have k1 := HD0.out.i
    have k2 := HD0.out.nn
    go_wp2_with (first
      | (go_at_call 18; (with_reducible refine (HQ.out _ HD0.out.q).mono ?_); rintro e w2 ⟨rfl, h1, h2⟩; have HD2 := hide (HD0.out.setq h1 h2); clear h1 h2; have m0 := HD2.out.k; have m1 := HD2.out.i; have m2 := HD2.out.nn))
    go_ret
    refine ⟨_, rfl, fun he => ?_, HD2.out.q, ?_, HD2.out.chg⟩
    · have h1 := HC.out
      rw [he] at h1
      have h2 := HV.out.1
      rw [h1] at h2
      subst h2
      rfl
    · rw [HV.out.2]
      exact HD2.out.x
  · rcases hns with ⟨n1, hN⟩ | ⟨n1, n2, hN⟩ | ⟨l, rfl, hl⟩
    · have HV : Hid (addC n Rx (i : Int) N = 3 ∧ addR n Rx (i : Int) N = Rx) := hide ⟨by simp [addC, hI, hN], by
        unfold addR
        rw [if_neg (by omega)]⟩
      have hwv : whV Rx i = -1 := by simp [whV, hw]
      have HWh := hide (fun W hW => where_any gx i Rx HL.out W hW)
      rw [hwv] at HWh
      have i1 : decide ((0 : Int) ≤ (i : Int)) = true := by simp
      have i2 : decide ((i : Int) < (n : Int)) = true := by simp; omega
      have i3 : decide (i < n) = true := by simp; omega
      clear hwv
      clear hI hi hw hN
      go_enter Try.func9, Try.ntmps9
      go_upto_region 1 with fail
      generalize w.alloc (.cells #[.int .i64 1, .int .i64 (i : Int), .int .i64 N] 35) = W0 at HD0 ⊢
      have k0 := HD0.out.k
      have k1 := HD0.out.i
      have k2 := HD0.out.nn
      go_wp2_with (first
        | (go_at_call 23; (with_reducible refine (HWh.out _ HD0.out.x).mono ?_); rintro e wx ⟨rfl, hw⟩; subst wx)
        | (go_at_call 18; (with_reducible refine (HQ.out _ HD0.out.q).mono ?_); rintro e w2 ⟨rfl, h1, h2⟩; have HD2 := hide (HD0.out.setq h1 h2); clear h1 h2; have m0 := HD2.out.k; have m1 := HD2.out.i; have m2 := HD2.out.nn))
      go_ret
      refine ⟨_, rfl, fun he => ?_, HD2.out.q, ?_, HD2.out.chg⟩
      · have h1 := HC.out
        rw [he] at h1
        have h2 := HV.out.1
        rw [h1] at h2
        subst h2
        rfl
      · rw [HV.out.2]
        exact HD2.out.x
    · have HV : Hid (addC n Rx (i : Int) N = 3 ∧ addR n Rx (i : Int) N = Rx) := hide ⟨by simp [addC, hI, hN], by
        unfold addR
        rw [if_neg (by omega)]⟩
      have hwv : whV Rx i = -1 := by simp [whV, hw]
      have HWh := hide (fun W hW => where_any gx i Rx HL.out W hW)
      rw [hwv] at HWh
      have i1 : decide ((0 : Int) ≤ (i : Int)) = true := by simp
      have i2 : decide ((i : Int) < (n : Int)) = true := by simp; omega
      have i3 : decide (i < n) = true := by simp; omega
      clear hwv
      clear hI hi hw hN
      go_enter Try.func9, Try.ntmps9
      go_upto_region 1 with fail
      generalize w.alloc (.cells #[.int .i64 1, .int .i64 (i : Int), .int .i64 N] 35) = W0 at HD0 ⊢
      have k0 := HD0.out.k
      have k1 := HD0.out.i
      have k2 := HD0.out.nn
      go_wp2_with (first
        | (go_at_call 23; (with_reducible refine (HWh.out _ HD0.out.x).mono ?_); rintro e wx ⟨rfl, hw⟩; subst wx)
        | (go_at_call 18; (with_reducible refine (HQ.out _ HD0.out.q).mono ?_); rintro e w2 ⟨rfl, h1, h2⟩; have HD2 := hide (HD0.out.setq h1 h2); clear h1 h2; have m0 := HD2.out.k; have m1 := HD2.out.i; have m2 := HD2.out.nn))
      go_ret
      refine ⟨_, rfl, fun he => ?_, HD2.out.q, ?_, HD2.out.chg⟩
      · have h1 := HC.out
        rw [he] at h1
        have h2 := HV.out.1
        rw [h1] at h2
        subst h2
        rfl
      · rw [HV.out.2]
        exact HD2.out.x
    · have HV : Hid (addC n Rx (i : Int) (l : Int) = 0 ∧ addR n Rx (i : Int) (l : Int) = putR Rx i l) := hide ⟨by
        unfold addC
        rw [if_pos hI, if_neg (by omega), if_neg (by simp; omega)], by
        unfold addR
        rw [if_pos ⟨hI, by omega, by omega, by simpa using hw⟩]
        simp⟩
      have hwv : whV Rx i = -1 := by simp [whV, hw]
      have HWh := hide (fun W hW => where_any gx i Rx HL.out W hW)
      rw [hwv] at HWh
      have i1 : decide ((0 : Int) ≤ (i : Int)) = true := by simp
      have i2 : decide ((i : Int) < (n : Int)) = true := by simp; omega
      have i3 : decide (i < n) = true := by simp; omega
      clear hwv
      have HX := hide (fun W hW => rput_any gx i l Rx hl HL.out W hW)
      have n1 : decide ((l : Int) < 0) = false := by simp
      have n2 : decide ((3 : Int) < (l : Int)) = false := by simp; omega
      have n3 : decide (3 < l) = false := by simp; omega
      clear hI hi hw hl
      go_enter Try.func9, Try.ntmps9
      go_upto_region 1 with fail
      generalize w.alloc (.cells #[.int .i64 1, .int .i64 (i : Int), .int .i64 (l : Int)] 35) = W0 at HD0 ⊢
      have k0 := HD0.out.k
      have k1 := HD0.out.i
      have k2 := HD0.out.nn
      go_wp2_with (first
        | (go_at_call 23; (with_reducible refine (HWh.out _ HD0.out.x).mono ?_); rintro e wx ⟨rfl, hw⟩; subst wx)
        | (go_at_call 18; (with_reducible refine (HQ.out _ HD0.out.q).mono ?_); rintro e w2 ⟨rfl, h1, h2⟩; have HD2 := hide (HD0.out.setq h1 h2); clear h1 h2; have m0 := HD2.out.k; have m1 := HD2.out.i; have m2 := HD2.out.nn)
        | (go_at_call 24; (with_reducible refine (HX.out _ HD2.out.x).mono ?_); rintro e w3 ⟨rfl, h1, h2⟩; have HD3 := hide (HD2.out.setx h1 h2); clear h1 h2))
      go_ret
      refine ⟨_, rfl, fun he => ?_, HD3.out.q, ?_, HD3.out.chg⟩
      · have h1 := HC.out
        rw [he] at h1
        have h2 := HV.out.1
        rw [h1] at h2
        subst h2
        rfl
      · rw [HV.out.2]
        exact HD3.out.x
  · rcases hns with ⟨n1, hN⟩ | ⟨n1, n2, hN⟩ | ⟨l, rfl, hl⟩
    · have HV : Hid (addC n Rx (i : Int) N = 3 ∧ addR n Rx (i : Int) N = Rx) := hide ⟨by simp [addC, hI, hN], by
        unfold addR
        rw [if_neg (by omega)]⟩
      obtain ⟨k, hk⟩ : ∃ k, wh Rx i = k := ⟨_, rfl⟩
      have hwv : whV Rx i = (k : Int) := by unfold whV; rw [if_pos hw, hk]
      have HWh := hide (fun W hW => where_any gx i Rx HL.out W hW)
      rw [hwv] at HWh
      have i1 : decide ((0 : Int) ≤ (i : Int)) = true := by simp
      have i2 : decide ((i : Int) < (n : Int)) = true := by simp; omega
      have i3 : decide (i < n) = true := by simp; omega
      have i4 : decide ((k : Int) < 0) = false := by simp
      clear hwv
      clear hI hi hw hN hk
      go_enter Try.func9, Try.ntmps9
      go_upto_region 1 with fail
      generalize w.alloc (.cells #[.int .i64 1, .int .i64 (i : Int), .int .i64 N] 35) = W0 at HD0 ⊢
      have k0 := HD0.out.k
      have k1 := HD0.out.i
      have k2 := HD0.out.nn
      go_wp2_with (first
        | (go_at_call 23; (with_reducible refine (HWh.out _ HD0.out.x).mono ?_); rintro e wx ⟨rfl, hw⟩; subst wx)
        | (go_at_call 18; (with_reducible refine (HQ.out _ HD0.out.q).mono ?_); rintro e w2 ⟨rfl, h1, h2⟩; have HD2 := hide (HD0.out.setq h1 h2); clear h1 h2; have m0 := HD2.out.k; have m1 := HD2.out.i; have m2 := HD2.out.nn))
      go_ret
      refine ⟨_, rfl, fun he => ?_, HD2.out.q, ?_, HD2.out.chg⟩
      · have h1 := HC.out
        rw [he] at h1
        have h2 := HV.out.1
        rw [h1] at h2
        subst h2
        rfl
      · rw [HV.out.2]
        exact HD2.out.x
    · have HV : Hid (addC n Rx (i : Int) N = 3 ∧ addR n Rx (i : Int) N = Rx) := hide ⟨by simp [addC, hI, hN], by
        unfold addR
        rw [if_neg (by omega)]⟩
      obtain ⟨k, hk⟩ : ∃ k, wh Rx i = k := ⟨_, rfl⟩
      have hwv : whV Rx i = (k : Int) := by unfold whV; rw [if_pos hw, hk]
      have HWh := hide (fun W hW => where_any gx i Rx HL.out W hW)
      rw [hwv] at HWh
      have i1 : decide ((0 : Int) ≤ (i : Int)) = true := by simp
      have i2 : decide ((i : Int) < (n : Int)) = true := by simp; omega
      have i3 : decide (i < n) = true := by simp; omega
      have i4 : decide ((k : Int) < 0) = false := by simp
      clear hwv
      clear hI hi hw hN hk
      go_enter Try.func9, Try.ntmps9
      go_upto_region 1 with fail
      generalize w.alloc (.cells #[.int .i64 1, .int .i64 (i : Int), .int .i64 N] 35) = W0 at HD0 ⊢
      have k0 := HD0.out.k
      have k1 := HD0.out.i
      have k2 := HD0.out.nn
      go_wp2_with (first
        | (go_at_call 23; (with_reducible refine (HWh.out _ HD0.out.x).mono ?_); rintro e wx ⟨rfl, hw⟩; subst wx)
        | (go_at_call 18; (with_reducible refine (HQ.out _ HD0.out.q).mono ?_); rintro e w2 ⟨rfl, h1, h2⟩; have HD2 := hide (HD0.out.setq h1 h2); clear h1 h2; have m0 := HD2.out.k; have m1 := HD2.out.i; have m2 := HD2.out.nn))
      go_ret
      refine ⟨_, rfl, fun he => ?_, HD2.out.q, ?_, HD2.out.chg⟩
      · have h1 := HC.out
        rw [he] at h1
        have h2 := HV.out.1
        rw [h1] at h2
        subst h2
        rfl
      · rw [HV.out.2]
        exact HD2.out.x
    · have HV : Hid (addC n Rx (i : Int) (l : Int) = 8 ∧ addR n Rx (i : Int) (l : Int) = Rx) := hide ⟨by
        unfold addC
        rw [if_pos hI, if_neg (by omega), if_pos (by simpa using hw)], by
        unfold addR
        rw [if_neg (by simp; omega)]⟩
      obtain ⟨k, hk⟩ : ∃ k, wh Rx i = k := ⟨_, rfl⟩
      have hwv : whV Rx i = (k : Int) := by unfold whV; rw [if_pos hw, hk]
      have HWh := hide (fun W hW => where_any gx i Rx HL.out W hW)
      rw [hwv] at HWh
      have i1 : decide ((0 : Int) ≤ (i : Int)) = true := by simp
      have i2 : decide ((i : Int) < (n : Int)) = true := by simp; omega
      have i3 : decide (i < n) = true := by simp; omega
      have i4 : decide ((k : Int) < 0) = false := by simp
      clear hwv
      have n1 : decide ((l : Int) < 0) = false := by simp
      have n2 : decide ((3 : Int) < (l : Int)) = false := by simp; omega
      have n3 : decide (3 < l) = false := by simp; omega
      clear hI hi hw hk hl
      go_enter Try.func9, Try.ntmps9
      go_upto_region 1 with fail
      generalize w.alloc (.cells #[.int .i64 1, .int .i64 (i : Int), .int .i64 (l : Int)] 35) = W0 at HD0 ⊢
      have k0 := HD0.out.k
      have k1 := HD0.out.i
      have k2 := HD0.out.nn
      go_wp2_with (first
        | (go_at_call 23; (with_reducible refine (HWh.out _ HD0.out.x).mono ?_); rintro e wx ⟨rfl, hw⟩; subst wx)
        | (go_at_call 18; (with_reducible refine (HQ.out _ HD0.out.q).mono ?_); rintro e w2 ⟨rfl, h1, h2⟩; have HD2 := hide (HD0.out.setq h1 h2); clear h1 h2; have m0 := HD2.out.k; have m1 := HD2.out.i; have m2 := HD2.out.nn))
      go_ret
      refine ⟨_, rfl, fun he => ?_, HD2.out.q, ?_, HD2.out.chg⟩
      · have h1 := HC.out
        rw [he] at h1
        have h2 := HV.out.1
        rw [h1] at h2
        subst h2
        rfl
      · rw [HV.out.2]
        exact HD2.out.x
set_option maxRecDepth 100000 in
set_option maxHeartbeats 4000000 in
theorem do_add2 (gq gx n : Nat) (I N : Int) (Rq Rx : Nat → List Nat) (hn : n ≤ 16) (hg : Good n Rx) (w : World) (hq : QAt w gq n Rq) (hx : RefAt w gx Rx) :
    Calls Try.prog 9 #[.pointer (some ⟨gq, 0, none⟩), .pointer (some ⟨gx, 0, none⟩), .int .i64 (n : Int), .agg #[.int .i64 2, .int .i64 I, .int .i64 N]] w (DoE gq gx n 2 I N Rq Rx w) := by
  have HD0 := hide (doAt_new hq hx 2 I N)
  have HL := hide (lens hn hg)
  have hRq : stepR n Rq 2 I N = addR n Rq I N := by simp [stepR]
  have hRx : stepR n Rx 2 I N = addR n Rx I N := by simp [stepR]
  obtain ⟨c, hc⟩ : ∃ c, addC n Rq I N = c := ⟨_, rfl⟩
  have HQ := hide (fun W h => add_any gq n Rq I N W h)
  rw [hc] at HQ
  have HC := hide hc
  have hcs := xcase n Rx I
  have hns := ncase N
  clear hq hx hg hc
  unfold DoE
  rw [hRq, hRx]
  clear hRq hRx
  rcases hcs with ⟨i1, hI⟩ | ⟨i1, i2, hI⟩ | ⟨i, rfl, hi, hw, hI⟩ | ⟨i, rfl, hi, hw, hI⟩
  · have HV : Hid (addC n Rx I N = 3 ∧ addR n Rx I N = Rx) := hide ⟨by simp [addC, hI], by simp [addR, hI]⟩
    clear hI hns
    go_enter Try.func9, Try.ntmps9
    go_upto_region 1 with fail
    generalize w.alloc (.cells #[.int .i64 2, .int .i64 I, .int .i64 N] 35) = W0 at HD0 ⊢
    have k0 := HD0.out.k
    have k1 := HD0.out.i
    have k2 := HD0.out.nn
    go_wp2_with (first
      | (go_at_call 18; (with_reducible refine (HQ.out _ HD0.out.q).mono ?_); rintro e w2 ⟨rfl, h1, h2⟩; have HD2 := hide (HD0.out.setq h1 h2); clear h1 h2; have m0 := HD2.out.k; have m1 := HD2.out.i; have m2 := HD2.out.nn))
    go_ret
    refine ⟨_, rfl, fun he => ?_, HD2.out.q, ?_, HD2.out.chg⟩
    · have h1 := HC.out
      rw [he] at h1
      have h2 := HV.out.1
      rw [h1] at h2
      subst h2
      rfl
    · rw [HV.out.2]
      exact HD2.out.x
  · have HV : Hid (addC n Rx I N = 3 ∧ addR n Rx I N = Rx) := hide ⟨by simp [addC, hI], by simp [addR, hI]⟩
    clear hI hns
    go_enter Try.func9, Try.ntmps9
    go_upto_region 1 with fail
    generalize w.alloc (.cells #[.int .i64 2, .int .i64 I, .int .i64 N] 35) = W0 at HD0 ⊢
    have k0 := HD0.out.k
    have k1 := HD0.out.i
    have k2 := HD0.out.nn
    go_wp2_with (first
      | (go_at_call 18; (with_reducible refine (HQ.out _ HD0.out.q).mono ?_); rintro e w2 ⟨rfl, h1, h2⟩; have HD2 := hide (HD0.out.setq h1 h2); clear h1 h2; have m0 := HD2.out.k; have m1 := HD2.out.i; have m2 := HD2.out.nn))
    go_ret
    refine ⟨_, rfl, fun he => ?_, HD2.out.q, ?_, HD2.out.chg⟩
    · have h1 := HC.out
      rw [he] at h1
      have h2 := HV.out.1
      rw [h1] at h2
      subst h2
      rfl
    · rw [HV.out.2]
      exact HD2.out.x
  · rcases hns with ⟨n1, hN⟩ | ⟨n1, n2, hN⟩ | ⟨l, rfl, hl⟩
    · have HV : Hid (addC n Rx (i : Int) N = 3 ∧ addR n Rx (i : Int) N = Rx) := hide ⟨by simp [addC, hI, hN], by
        unfold addR
        rw [if_neg (by omega)]⟩
      have hwv : whV Rx i = -1 := by simp [whV, hw]
      have HWh := hide (fun W hW => where_any gx i Rx HL.out W hW)
      rw [hwv] at HWh
      have i1 : decide ((0 : Int) ≤ (i : Int)) = true := by simp
      have i2 : decide ((i : Int) < (n : Int)) = true := by simp; omega
      have i3 : decide (i < n) = true := by simp; omega
      clear hwv
      clear hI hi hw hN
      go_enter Try.func9, Try.ntmps9
      go_upto_region 1 with fail
      generalize w.alloc (.cells #[.int .i64 2, .int .i64 (i : Int), .int .i64 N] 35) = W0 at HD0 ⊢
      have k0 := HD0.out.k
      have k1 := HD0.out.i
      have k2 := HD0.out.nn
      go_wp2_with (first
        | (go_at_call 23; (with_reducible refine (HWh.out _ HD0.out.x).mono ?_); rintro e wx ⟨rfl, hw⟩; subst wx)
        | (go_at_call 18; (with_reducible refine (HQ.out _ HD0.out.q).mono ?_); rintro e w2 ⟨rfl, h1, h2⟩; have HD2 := hide (HD0.out.setq h1 h2); clear h1 h2; have m0 := HD2.out.k; have m1 := HD2.out.i; have m2 := HD2.out.nn))
      go_ret
      refine ⟨_, rfl, fun he => ?_, HD2.out.q, ?_, HD2.out.chg⟩
      · have h1 := HC.out
        rw [he] at h1
        have h2 := HV.out.1
        rw [h1] at h2
        subst h2
        rfl
      · rw [HV.out.2]
        exact HD2.out.x
    · have HV : Hid (addC n Rx (i : Int) N = 3 ∧ addR n Rx (i : Int) N = Rx) := hide ⟨by simp [addC, hI, hN], by
        unfold addR
        rw [if_neg (by omega)]⟩
      have hwv : whV Rx i = -1 := by simp [whV, hw]
      have HWh := hide (fun W hW => where_any gx i Rx HL.out W hW)
      rw [hwv] at HWh
      have i1 : decide ((0 : Int) ≤ (i : Int)) = true := by simp
      have i2 : decide ((i : Int) < (n : Int)) = true := by simp; omega
      have i3 : decide (i < n) = true := by simp; omega
      clear hwv
      clear hI hi hw hN
      go_enter Try.func9, Try.ntmps9
      go_upto_region 1 with fail
      generalize w.alloc (.cells #[.int .i64 2, .int .i64 (i : Int), .int .i64 N] 35) = W0 at HD0 ⊢
      have k0 := HD0.out.k
      have k1 := HD0.out.i
      have k2 := HD0.out.nn
      go_wp2_with (first
        | (go_at_call 23; (with_reducible refine (HWh.out _ HD0.out.x).mono ?_); rintro e wx ⟨rfl, hw⟩; subst wx)
        | (go_at_call 18; (with_reducible refine (HQ.out _ HD0.out.q).mono ?_); rintro e w2 ⟨rfl, h1, h2⟩; have HD2 := hide (HD0.out.setq h1 h2); clear h1 h2; have m0 := HD2.out.k; have m1 := HD2.out.i; have m2 := HD2.out.nn))
      go_ret
      refine ⟨_, rfl, fun he => ?_, HD2.out.q, ?_, HD2.out.chg⟩
      · have h1 := HC.out
        rw [he] at h1
        have h2 := HV.out.1
        rw [h1] at h2
        subst h2
        rfl
      · rw [HV.out.2]
        exact HD2.out.x
    · have HV : Hid (addC n Rx (i : Int) (l : Int) = 0 ∧ addR n Rx (i : Int) (l : Int) = putR Rx i l) := hide ⟨by
        unfold addC
        rw [if_pos hI, if_neg (by omega), if_neg (by simp; omega)], by
        unfold addR
        rw [if_pos ⟨hI, by omega, by omega, by simpa using hw⟩]
        simp⟩
      have hwv : whV Rx i = -1 := by simp [whV, hw]
      have HWh := hide (fun W hW => where_any gx i Rx HL.out W hW)
      rw [hwv] at HWh
      have i1 : decide ((0 : Int) ≤ (i : Int)) = true := by simp
      have i2 : decide ((i : Int) < (n : Int)) = true := by simp; omega
      have i3 : decide (i < n) = true := by simp; omega
      clear hwv
      have HX := hide (fun W hW => rput_any gx i l Rx hl HL.out W hW)
      have n1 : decide ((l : Int) < 0) = false := by simp
      have n2 : decide ((3 : Int) < (l : Int)) = false := by simp; omega
      have n3 : decide (3 < l) = false := by simp; omega
      clear hI hi hw hl
      go_enter Try.func9, Try.ntmps9
      go_upto_region 1 with fail
      generalize w.alloc (.cells #[.int .i64 2, .int .i64 (i : Int), .int .i64 (l : Int)] 35) = W0 at HD0 ⊢
      have k0 := HD0.out.k
      have k1 := HD0.out.i
      have k2 := HD0.out.nn
      go_wp2_with (first
        | (go_at_call 23; (with_reducible refine (HWh.out _ HD0.out.x).mono ?_); rintro e wx ⟨rfl, hw⟩; subst wx)
        | (go_at_call 18; (with_reducible refine (HQ.out _ HD0.out.q).mono ?_); rintro e w2 ⟨rfl, h1, h2⟩; have HD2 := hide (HD0.out.setq h1 h2); clear h1 h2; have m0 := HD2.out.k; have m1 := HD2.out.i; have m2 := HD2.out.nn)
        | (go_at_call 24; (with_reducible refine (HX.out _ HD2.out.x).mono ?_); rintro e w3 ⟨rfl, h1, h2⟩; have HD3 := hide (HD2.out.setx h1 h2); clear h1 h2))
      go_ret
      refine ⟨_, rfl, fun he => ?_, HD3.out.q, ?_, HD3.out.chg⟩
      · have h1 := HC.out
        rw [he] at h1
        have h2 := HV.out.1
        rw [h1] at h2
        subst h2
        rfl
      · rw [HV.out.2]
        exact HD3.out.x
  · rcases hns with ⟨n1, hN⟩ | ⟨n1, n2, hN⟩ | ⟨l, rfl, hl⟩
    · have HV : Hid (addC n Rx (i : Int) N = 3 ∧ addR n Rx (i : Int) N = Rx) := hide ⟨by simp [addC, hI, hN], by
        unfold addR
        rw [if_neg (by omega)]⟩
      obtain ⟨k, hk⟩ : ∃ k, wh Rx i = k := ⟨_, rfl⟩
      have hwv : whV Rx i = (k : Int) := by unfold whV; rw [if_pos hw, hk]
      have HWh := hide (fun W hW => where_any gx i Rx HL.out W hW)
      rw [hwv] at HWh
      have i1 : decide ((0 : Int) ≤ (i : Int)) = true := by simp
      have i2 : decide ((i : Int) < (n : Int)) = true := by simp; omega
      have i3 : decide (i < n) = true := by simp; omega
      have i4 : decide ((k : Int) < 0) = false := by simp
      clear hwv
      clear hI hi hw hN hk
      go_enter Try.func9, Try.ntmps9
      go_upto_region 1 with fail
      generalize w.alloc (.cells #[.int .i64 2, .int .i64 (i : Int), .int .i64 N] 35) = W0 at HD0 ⊢
      have k0 := HD0.out.k
      have k1 := HD0.out.i
      have k2 := HD0.out.nn
      go_wp2_with (first
        | (go_at_call 23; (with_reducible refine (HWh.out _ HD0.out.x).mono ?_); rintro e wx ⟨rfl, hw⟩; subst wx)
        | (go_at_call 18; (with_reducible refine (HQ.out _ HD0.out.q).mono ?_); rintro e w2 ⟨rfl, h1, h2⟩; have HD2 := hide (HD0.out.setq h1 h2); clear h1 h2; have m0 := HD2.out.k; have m1 := HD2.out.i; have m2 := HD2.out.nn))
      go_ret
      refine ⟨_, rfl, fun he => ?_, HD2.out.q, ?_, HD2.out.chg⟩
      · have h1 := HC.out
        rw [he] at h1
        have h2 := HV.out.1
        rw [h1] at h2
        subst h2
        rfl
      · rw [HV.out.2]
        exact HD2.out.x
    · have HV : Hid (addC n Rx (i : Int) N = 3 ∧ addR n Rx (i : Int) N = Rx) := hide ⟨by simp [addC, hI, hN], by
        unfold addR
        rw [if_neg (by omega)]⟩
      obtain ⟨k, hk⟩ : ∃ k, wh Rx i = k := ⟨_, rfl⟩
      have hwv : whV Rx i = (k : Int) := by unfold whV; rw [if_pos hw, hk]
      have HWh := hide (fun W hW => where_any gx i Rx HL.out W hW)
      rw [hwv] at HWh
      have i1 : decide ((0 : Int) ≤ (i : Int)) = true := by simp
      have i2 : decide ((i : Int) < (n : Int)) = true := by simp; omega
      have i3 : decide (i < n) = true := by simp; omega
      have i4 : decide ((k : Int) < 0) = false := by simp
      clear hwv
      clear hI hi hw hN hk
      go_enter Try.func9, Try.ntmps9
      go_upto_region 1 with fail
      generalize w.alloc (.cells #[.int .i64 2, .int .i64 (i : Int), .int .i64 N] 35) = W0 at HD0 ⊢
      have k0 := HD0.out.k
      have k1 := HD0.out.i
      have k2 := HD0.out.nn
      go_wp2_with (first
        | (go_at_call 23; (with_reducible refine (HWh.out _ HD0.out.x).mono ?_); rintro e wx ⟨rfl, hw⟩; subst wx)
        | (go_at_call 18; (with_reducible refine (HQ.out _ HD0.out.q).mono ?_); rintro e w2 ⟨rfl, h1, h2⟩; have HD2 := hide (HD0.out.setq h1 h2); clear h1 h2; have m0 := HD2.out.k; have m1 := HD2.out.i; have m2 := HD2.out.nn))
      go_ret
      refine ⟨_, rfl, fun he => ?_, HD2.out.q, ?_, HD2.out.chg⟩
      · have h1 := HC.out
        rw [he] at h1
        have h2 := HV.out.1
        rw [h1] at h2
        subst h2
        rfl
      · rw [HV.out.2]
        exact HD2.out.x
    · have HV : Hid (addC n Rx (i : Int) (l : Int) = 8 ∧ addR n Rx (i : Int) (l : Int) = Rx) := hide ⟨by
        unfold addC
        rw [if_pos hI, if_neg (by omega), if_pos (by simpa using hw)], by
        unfold addR
        rw [if_neg (by simp; omega)]⟩
      obtain ⟨k, hk⟩ : ∃ k, wh Rx i = k := ⟨_, rfl⟩
      have hwv : whV Rx i = (k : Int) := by unfold whV; rw [if_pos hw, hk]
      have HWh := hide (fun W hW => where_any gx i Rx HL.out W hW)
      rw [hwv] at HWh
      have i1 : decide ((0 : Int) ≤ (i : Int)) = true := by simp
      have i2 : decide ((i : Int) < (n : Int)) = true := by simp; omega
      have i3 : decide (i < n) = true := by simp; omega
      have i4 : decide ((k : Int) < 0) = false := by simp
      clear hwv
      have n1 : decide ((l : Int) < 0) = false := by simp
      have n2 : decide ((3 : Int) < (l : Int)) = false := by simp; omega
      have n3 : decide (3 < l) = false := by simp; omega
      clear hI hi hw hk hl
      go_enter Try.func9, Try.ntmps9
      go_upto_region 1 with fail
      generalize w.alloc (.cells #[.int .i64 2, .int .i64 (i : Int), .int .i64 (l : Int)] 35) = W0 at HD0 ⊢
      have k0 := HD0.out.k
      have k1 := HD0.out.i
      have k2 := HD0.out.nn
      go_wp2_with (first
        | (go_at_call 23; (with_reducible refine (HWh.out _ HD0.out.x).mono ?_); rintro e wx ⟨rfl, hw⟩; subst wx)
        | (go_at_call 18; (with_reducible refine (HQ.out _ HD0.out.q).mono ?_); rintro e w2 ⟨rfl, h1, h2⟩; have HD2 := hide (HD0.out.setq h1 h2); clear h1 h2; have m0 := HD2.out.k; have m1 := HD2.out.i; have m2 := HD2.out.nn))
      go_ret
      refine ⟨_, rfl, fun he => ?_, HD2.out.q, ?_, HD2.out.chg⟩
      · have h1 := HC.out
        rw [he] at h1
        have h2 := HV.out.1
        rw [h1] at h2
        subst h2
        rfl
      · rw [HV.out.2]
        exact HD2.out.x
set_option maxRecDepth 100000 in
set_option maxHeartbeats 4000000 in
theorem do_bal (gq gx n : Nat) (I N : Int) (Rq Rx : Nat → List Nat) (hn : n ≤ 16) (hg : Good n Rx) (w : World) (hq : QAt w gq n Rq) (hx : RefAt w gx Rx) :
    Calls Try.prog 9 #[.pointer (some ⟨gq, 0, none⟩), .pointer (some ⟨gx, 0, none⟩), .int .i64 (n : Int), .agg #[.int .i64 7, .int .i64 I, .int .i64 N]] w (DoE gq gx n 7 I N Rq Rx w) := by
  have HD0 := hide (doAt_new hq hx 7 I N)
  have HL := hide (lens hn hg)
  have hRq : stepR n Rq 7 I N = stR Rq (mostN N) 3 := by simp [stepR]
  have hRx : stepR n Rx 7 I N = stR Rx (mostN N) 3 := by simp [stepR]
  obtain ⟨c, hc⟩ : ∃ c : Int, (cntR Rq (mostN N) 3 : Int) = c := ⟨_, rfl⟩
  obtain ⟨d, hd⟩ : ∃ c : Int, (cntR Rx (mostN N) 3 : Int) = c := ⟨_, rfl⟩
  have HQ := hide (fun W h => balance_any gq n Rq N (mostN N) (mostN_eq N) W h)
  have HX := hide (fun W h => rbalance_any gx n Rx hn hg N (mostN N) (mostN_eq N) W h)
  rw [hc] at HQ
  rw [hd] at HX
  have HC := hide hc
  have HDd := hide hd
  have hcs := xcase n Rx I
  clear hq hx hg hc hd
  unfold DoE
  rw [hRq, hRx]
  clear hRq hRx
  rcases hcs with ⟨i1, hI⟩ | ⟨i1, i2, hI⟩ | ⟨i, rfl, hi, hw, hI⟩ | ⟨i, rfl, hi, hw, hI⟩
  · have _ := hn
    clear hI
    go_enter Try.func9, Try.ntmps9
    go_upto_region 1 with fail
    generalize w.alloc (.cells #[.int .i64 7, .int .i64 I, .int .i64 N] 35) = W0 at HD0 ⊢
    have k0 := HD0.out.k
    have k1 := HD0.out.i
    have k2 := HD0.out.nn
    go_upto_region 32 with fail
    have HD1 := hide (HD0.out.same (w' := W0.drew) rfl rfl rfl rfl)
    go_region_with (first
      | (go_at_call 14; (with_reducible refine (HQ.out _ HD1.out.q).mono ?_); rintro e w2 ⟨rfl, h1, h2⟩; have HD2 := hide (HD1.out.setq h1 h2); clear h1 h2; have m0 := HD2.out.k; have m1 := HD2.out.i; have m2 := HD2.out.nn)
      | (go_at_call 27; (with_reducible refine (HX.out _ HD2.out.x).mono ?_); rintro e w3 ⟨rfl, h1, h2⟩; have HD3 := hide (HD2.out.setx h1 h2); clear h1 h2))
    all_goals
      go_wp2_with fail
      go_ret
      refine ⟨_, rfl, fun he => ?_, HD3.out.q, HD3.out.x, HD3.out.chg⟩
      have h1 := HC.out
      rw [he, HDd.out] at h1
      subst h1
      simp
  · have _ := hn
    clear hI
    go_enter Try.func9, Try.ntmps9
    go_upto_region 1 with fail
    generalize w.alloc (.cells #[.int .i64 7, .int .i64 I, .int .i64 N] 35) = W0 at HD0 ⊢
    have k0 := HD0.out.k
    have k1 := HD0.out.i
    have k2 := HD0.out.nn
    go_upto_region 32 with fail
    have HD1 := hide (HD0.out.same (w' := W0.drew) rfl rfl rfl rfl)
    go_region_with (first
      | (go_at_call 14; (with_reducible refine (HQ.out _ HD1.out.q).mono ?_); rintro e w2 ⟨rfl, h1, h2⟩; have HD2 := hide (HD1.out.setq h1 h2); clear h1 h2; have m0 := HD2.out.k; have m1 := HD2.out.i; have m2 := HD2.out.nn)
      | (go_at_call 27; (with_reducible refine (HX.out _ HD2.out.x).mono ?_); rintro e w3 ⟨rfl, h1, h2⟩; have HD3 := hide (HD2.out.setx h1 h2); clear h1 h2))
    all_goals
      go_wp2_with fail
      go_ret
      refine ⟨_, rfl, fun he => ?_, HD3.out.q, HD3.out.x, HD3.out.chg⟩
      have h1 := HC.out
      rw [he, HDd.out] at h1
      subst h1
      simp
  · have hwv : whV Rx i = -1 := by simp [whV, hw]
    have HWh := hide (fun W hW => where_any gx i Rx HL.out W hW)
    rw [hwv] at HWh
    have i1 : decide ((0 : Int) ≤ (i : Int)) = true := by simp
    have i2 : decide ((i : Int) < (n : Int)) = true := by simp; omega
    have i3 : decide (i < n) = true := by simp; omega
    clear hwv
    clear hI hi hw
    go_enter Try.func9, Try.ntmps9
    go_upto_region 1 with fail
    generalize w.alloc (.cells #[.int .i64 7, .int .i64 (i : Int), .int .i64 N] 35) = W0 at HD0 ⊢
    have k0 := HD0.out.k
    have k1 := HD0.out.i
    have k2 := HD0.out.nn
    go_upto_region 32 with (first
      | (go_at_call 23; (with_reducible refine (HWh.out _ HD0.out.x).mono ?_); rintro e wx ⟨rfl, hw⟩; subst wx))
    have HD1 := hide (HD0.out.same (w' := W0.drew) rfl rfl rfl rfl)
    go_region_with (first
      | (go_at_call 14; (with_reducible refine (HQ.out _ HD1.out.q).mono ?_); rintro e w2 ⟨rfl, h1, h2⟩; have HD2 := hide (HD1.out.setq h1 h2); clear h1 h2; have m0 := HD2.out.k; have m1 := HD2.out.i; have m2 := HD2.out.nn)
      | (go_at_call 27; (with_reducible refine (HX.out _ HD2.out.x).mono ?_); rintro e w3 ⟨rfl, h1, h2⟩; have HD3 := hide (HD2.out.setx h1 h2); clear h1 h2))
    all_goals
      go_wp2_with fail
      go_ret
      refine ⟨_, rfl, fun he => ?_, HD3.out.q, HD3.out.x, HD3.out.chg⟩
      have h1 := HC.out
      rw [he, HDd.out] at h1
      subst h1
      simp
  · obtain ⟨k, hk⟩ : ∃ k, wh Rx i = k := ⟨_, rfl⟩
    have hwv : whV Rx i = (k : Int) := by unfold whV; rw [if_pos hw, hk]
    have HWh := hide (fun W hW => where_any gx i Rx HL.out W hW)
    rw [hwv] at HWh
    have i1 : decide ((0 : Int) ≤ (i : Int)) = true := by simp
    have i2 : decide ((i : Int) < (n : Int)) = true := by simp; omega
    have i3 : decide (i < n) = true := by simp; omega
    have i4 : decide ((k : Int) < 0) = false := by simp
    clear hwv
    clear hI hi hw hk
    go_enter Try.func9, Try.ntmps9
    go_upto_region 1 with fail
    generalize w.alloc (.cells #[.int .i64 7, .int .i64 (i : Int), .int .i64 N] 35) = W0 at HD0 ⊢
    have k0 := HD0.out.k
    have k1 := HD0.out.i
    have k2 := HD0.out.nn
    go_upto_region 32 with (first
      | (go_at_call 23; (with_reducible refine (HWh.out _ HD0.out.x).mono ?_); rintro e wx ⟨rfl, hw⟩; subst wx))
    have HD1 := hide (HD0.out.same (w' := W0.drew) rfl rfl rfl rfl)
    go_region_with (first
      | (go_at_call 14; (with_reducible refine (HQ.out _ HD1.out.q).mono ?_); rintro e w2 ⟨rfl, h1, h2⟩; have HD2 := hide (HD1.out.setq h1 h2); clear h1 h2; have m0 := HD2.out.k; have m1 := HD2.out.i; have m2 := HD2.out.nn)
      | (go_at_call 27; (with_reducible refine (HX.out _ HD2.out.x).mono ?_); rintro e w3 ⟨rfl, h1, h2⟩; have HD3 := hide (HD2.out.setx h1 h2); clear h1 h2))
    all_goals
      go_wp2_with fail
      go_ret
      refine ⟨_, rfl, fun he => ?_, HD3.out.q, HD3.out.x, HD3.out.chg⟩
      have h1 := HC.out
      rw [he, HDd.out] at h1
      subst h1
      simp
end Go.Proofs.Ytafhkjipjgkkkaa.Lv
