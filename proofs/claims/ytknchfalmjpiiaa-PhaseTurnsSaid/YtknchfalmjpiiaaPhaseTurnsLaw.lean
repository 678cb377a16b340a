/- The law of phase's turns, walked. -/
import Derived.Test.YtknchfalmjpiiaaPhaseAwake
import Derived.Deep.QuietTactic
import Derived.BigQuiet
namespace Go.Proofs.Ytknchfalmjpiiaa.Ph
open Go.RowKit Go.Proofs.Ytknchfalmjpiiaa.W Go.Proofs.Ytknchfalmjpiiaa.Fl
set_option linter.unusedVariables false
set_option linter.unusedSimpArgs false

theorem drew_below {B : Nat} {a b c : World} (h : Below B a b) (k : Drew b c) : Below B a c := h.trans (k.below B)
set_option maxRecDepth 100000 in
set_option maxHeartbeats 2000000 in
theorem phaseTurns_walk (x y u v : Nat) (n : Int) (hx : x < 18446744073709551616) (hy : y < 18446744073709551616) (hu : u < 18446744073709551616) (hv : v < 18446744073709551616)
    (h0 : -9223372036854775808 ≤ n) (h1 : n ≤ 9223372036854775807) (w : World) :
    Calls Try.prog 3 #[.agg #[.float .f64 x, .float .f64 y, .int .i64 n, .float .f64 u, .float .f64 v]] w fun e w' => e = .returned (.bool true) ∧ Below w.heap.size w w' := by
  have hq := fun W => quarters_any n h0 h1 W
  have htn := fun W => turn_any x y n W
  obtain ⟨k, hk⟩ : ∃ k : Nat, n % 4 = (k : Int) := ⟨(n % 4).toNat, by omega⟩
  have hk4 : k < 4 := by omega
  rw [hk] at hq htn
  rw [Int.toNat_natCast] at htn
  have htr := fun W => rTurn_any x y k hk4 W
  have hsm := fun W => same_yes (rot k x y).1 (rot k x y).2 (rot k x y).1 (rot k x y).2 (.refl _) (.refl _) W
  obtain ⟨r, hr⟩ : ∃ r, (rot k x y).1 = r := ⟨_, rfl⟩
  obtain ⟨s, hs⟩ : ∃ r, (rot k x y).2 = r := ⟨_, rfl⟩
  rw [hr, hs] at htn htr hsm
  have ht1 : ∀ (a b : Nat) W, Calls Try.prog 11 #[.complex .f64 a b, .int .i64 1] W fun e w' => e = .returned (.complex .f64 (Op.negFloat .f64 b) a) ∧ W = w' := fun a b W => turn_any a b 1 W
  have hc := fun W => counts_any x y hx hy W
  have hrc := fun W => rCounts_any x y W
  have hps := fun W => pSame_any x y u v W
  have hrs := fun W => rSame_any x y u v hx hy hu hv W
  have hself := fun W => pSame_any x y x y W
  have e1 : (sameB x x && sameB y y) = true := by simp [sameB]
  rw [e1] at hself
  have hlast : ∀ W, Calls Try.prog 10 #[.complex .f64 (Op.negFloat .f64 (Op.negFloat .f64 x)) (Op.negFloat .f64 (Op.negFloat .f64 y)), .float .f64 x, .float .f64 y] W fun e w' => e = .returned (.bool true) ∧ W = w' := fun W => by
    rw [neg_neg, neg_neg]
    exact same_yes x y x y (.refl _) (.refl _) W
  obtain ⟨c, hcc⟩ : ∃ c, (finB x && finB y) = c := ⟨_, rfl⟩
  obtain ⟨q, hqq⟩ : ∃ c, (sameB x u && sameB y v) = c := ⟨_, rfl⟩
  rw [hcc] at hc hrc
  rw [hqq] at hps hrs
  have HQ := hide hq
  have HTN := hide htn
  have HTR := hide htr
  have HSM := hide hsm
  have HT1 := hide ht1
  have HC := hide hc
  have HRC := hide hrc
  have HPS := hide hps
  have HRS := hide hrs
  have HSELF := hide hself
  have HLAST := hide hlast
  clear hq htn htr hsm ht1 hc hrc hps hrs hself hlast hcc hqq hr hs hk e1 hx hy hu hv
  cases c
  all_goals
    cases q
    all_goals
      go_enter Try.func3, Try.ntmps3
      go_wp2_with fail
      go_quiet (fail)
      go_wp2_with (first
        | (go_at_call 9; (with_reducible refine (HQ.out _).mono ?_); rintro e w' ⟨rfl, rfl⟩)
        | (go_at_call 8; (with_reducible refine (HTR.out _).mono ?_); rintro e w' ⟨rfl, rfl⟩)
        | (go_at_call 11; (with_reducible refine (HTN.out _).mono ?_); rintro e w' ⟨rfl, rfl⟩)
        | (go_at_call 11; (with_reducible refine (HT1.out _ _ _).mono ?_); rintro e w' ⟨rfl, rfl⟩)
        | (go_at_call 10; (with_reducible refine (HSM.out _).mono ?_); rintro e w' ⟨rfl, rfl⟩)
        | (go_at_call 10; (with_reducible refine (HLAST.out _).mono ?_); rintro e w' ⟨rfl, rfl⟩)
        | (go_at_call 12; (with_reducible refine (HC.out _).mono ?_); rintro e w' ⟨rfl, rfl⟩)
        | (go_at_call 13; (with_reducible refine (HRC.out _).mono ?_); rintro e w' ⟨rfl, ⟨kd, rfl⟩⟩)
        | (go_at_call 14; (with_reducible refine (HPS.out _).mono ?_); rintro e w' ⟨rfl, rfl⟩)
        | (go_at_call 14; (with_reducible refine (HSELF.out _).mono ?_); rintro e w' ⟨rfl, rfl⟩)
        | (go_at_call 15; (with_reducible refine (HRS.out _).mono ?_); rintro e w' ⟨rfl, rfl⟩)
        | (go_at_call 16; (with_reducible refine (awake_any _).mono ?_); rintro e w4 ⟨rfl, hb4⟩; have HB4 := hide hb4; clear hb4))
      go_ret
      exact ⟨rfl, below_drewN ((below_drewN ((Below.refl w.heap.size w).alloc (Nat.le_refl _) _) _).trans (HB4.out.mono (by simp [size_drewN]))) _⟩
end Go.Proofs.Ytknchfalmjpiiaa.Ph
