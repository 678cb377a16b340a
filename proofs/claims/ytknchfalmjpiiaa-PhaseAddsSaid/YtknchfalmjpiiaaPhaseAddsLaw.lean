/- The law of a weight added to a phase, walked. -/
import Derived.Test.YtknchfalmjpiiaaPhaseAwake
import Derived.Deep.QuietTactic
import Derived.BigQuiet
namespace Go.Proofs.Ytknchfalmjpiiaa.Ph
open Go.RowKit Go.Proofs.Ytknchfalmjpiiaa.W Go.Proofs.Ytknchfalmjpiiaa.Fl
set_option linter.unusedVariables false
set_option linter.unusedSimpArgs false

theorem add_not {a b : Nat} {n m : Int} (ha : a < 18446744073709551616) (hb : b < 18446744073709551616) (h : (finB a && finB b) = false) (w : World) :
    Calls Try.prog 17 #[.complex .f64 a b, .int .i64 n, .int .i64 m] w fun e w' => e = .returned (.tuple #[.complex .f64 0 0, .int .i64 20]) ∧ Drew w w' := by
  refine (add_any a b n m ha hb w).mono ?_
  rintro e w' ⟨hd, ⟨_, rfl⟩ | ⟨h1, _⟩ | ⟨h1, _⟩⟩
  · exact ⟨rfl, hd⟩
  · rw [h] at h1; cases h1
  · rw [h] at h1; cases h1
theorem add_bad {a b : Nat} {n m : Int} (ha : a < 18446744073709551616) (hb : b < 18446744073709551616) (h : (finB a && finB b) = true) (hm : isCount m = false) (w : World) :
    Calls Try.prog 17 #[.complex .f64 a b, .int .i64 n, .int .i64 m] w fun e w' => e = .returned (.tuple #[.complex .f64 0 0, .int .i64 2]) ∧ Drew w w' := by
  refine (add_any a b n m ha hb w).mono ?_
  rintro e w' ⟨hd, ⟨h1, _⟩ | ⟨_, _, rfl⟩ | ⟨_, h1, _⟩⟩
  · rw [h] at h1; cases h1
  · exact ⟨rfl, hd⟩
  · rw [hm] at h1; cases h1
def AddY (a b x y : Nat) (w : World) (e : Ending) (w' : World) : Prop := Drew w w' ∧ ∃ r s, Res (Fl.d.add a x) r ∧ Res (Fl.d.add b y) s ∧ e = .returned (.tuple #[.complex .f64 r s, .int .i64 0])
theorem add_yes {a b k : Nat} {n m : Int} (ha : a < 18446744073709551616) (hb : b < 18446744073709551616) (h : (finB a && finB b) = true) (hm : isCount m = true) (hk : n % 4 = (k : Int)) (w : World) :
    Calls Try.prog 17 #[.complex .f64 a b, .int .i64 n, .int .i64 m] w (AddY a b (rot k (floatOfInt .f64 m) 0).1 (rot k (floatOfInt .f64 m) 0).2 w) := by
  refine (add_any a b n m ha hb w).mono ?_
  rintro e w' ⟨hd, ⟨h1, _⟩ | ⟨_, h1, _⟩ | ⟨_, _, r, s, hr, hs, rfl⟩⟩
  · rw [h] at h1; cases h1
  · rw [hm] at h1; cases h1
  · rw [hk, Int.toNat_natCast] at hr hs
    exact ⟨hd, r, s, hr, hs, rfl⟩
theorem same_zero (W : World) : Calls Try.prog 10 #[.complex .f64 0 0, .float .f64 0, .float .f64 0] W fun e w' => e = .returned (.bool true) ∧ W = w' := same_yes 0 0 0 0 (.refl _) (.refl _) W
set_option maxRecDepth 100000 in
set_option maxHeartbeats 2000000 in
theorem phaseAdds_walk (x y : Nat) (n m : Int) (hx : x < 18446744073709551616) (hy : y < 18446744073709551616)
    (h0 : -9223372036854775808 ≤ n) (h1 : n ≤ 9223372036854775807) (w : World) :
    Calls Try.prog 4 #[.agg #[.float .f64 x, .float .f64 y, .int .i64 n, .int .i64 m]] w fun e w' => e = .returned (.bool true) ∧ Below w.heap.size w w' := by
  have hrc := fun W => rCounts_any x y W
  cases hf : (finB x && finB y)
  · rw [hf] at hrc
    have HRC := hide hrc
    have HA := hide (fun W => add_not (n := n) (m := m) hx hy hf W)
    clear hrc hf h0 h1 hx hy
    go_enter Try.func4, Try.ntmps4
    go_wp2_with fail
    go_quiet (fail)
    go_wp2_with (first
      | (go_at_call 17; (with_reducible refine (HA.out _).mono ?_); rintro e w' ⟨rfl, ⟨kd, rfl⟩⟩)
      | (go_at_call 13; (with_reducible refine (HRC.out _).mono ?_); rintro e w' ⟨rfl, ⟨ke, rfl⟩⟩)
      | (go_at_call 10; (with_reducible refine (same_zero _).mono ?_); rintro e w' ⟨rfl, rfl⟩)
      | (go_at_call 16; (with_reducible refine (awake_any _).mono ?_); rintro e w4 ⟨rfl, hb4⟩; have HB4 := hide hb4; clear hb4))
    go_ret
    exact ⟨rfl, (below_drewN ((Below.refl w.heap.size w).alloc (Nat.le_refl _) _) _).trans (HB4.out.mono (by simp [size_drewN]))⟩
  · rw [hf] at hrc
    have HRC := hide hrc
    clear hrc
    cases hm : isCount m
    · have HA := hide (fun W => add_bad (n := n) hx hy hf hm W)
      have hcase : m < 0 ∨ (¬ m < 0 ∧ 1048576 < m) := by
        simp [isCount] at hm
        omega
      clear hf h0 h1 hx hy hm
      rcases hcase with hc | ⟨hc0, hc⟩
      · have t1 : decide (m < 0) = true := by simpa using hc
        go_enter Try.func4, Try.ntmps4
        go_wp2_with fail
        go_quiet (fail)
        go_wp2_with (first
          | (go_at_call 17; (with_reducible refine (HA.out _).mono ?_); rintro e w' ⟨rfl, ⟨kd, rfl⟩⟩)
          | (go_at_call 13; (with_reducible refine (HRC.out _).mono ?_); rintro e w' ⟨rfl, ⟨ke, rfl⟩⟩)
          | (go_at_call 10; (with_reducible refine (same_zero _).mono ?_); rintro e w' ⟨rfl, rfl⟩)
          | (go_at_call 16; (with_reducible refine (awake_any _).mono ?_); rintro e w4 ⟨rfl, hb4⟩; have HB4 := hide hb4; clear hb4))
        go_ret
        exact ⟨rfl, (below_drewN ((Below.refl w.heap.size w).alloc (Nat.le_refl _) _) _).trans (HB4.out.mono (by simp [size_drewN]))⟩
      · have t1 : decide (m < 0) = false := by simpa using hc0
        have t2 : decide (1048576 < m) = true := by simpa using hc
        clear hc0
        go_enter Try.func4, Try.ntmps4
        go_wp2_with fail
        go_quiet (fail)
        go_wp2_with (first
          | (go_at_call 17; (with_reducible refine (HA.out _).mono ?_); rintro e w' ⟨rfl, ⟨kd, rfl⟩⟩)
          | (go_at_call 13; (with_reducible refine (HRC.out _).mono ?_); rintro e w' ⟨rfl, ⟨ke, rfl⟩⟩)
          | (go_at_call 10; (with_reducible refine (same_zero _).mono ?_); rintro e w' ⟨rfl, rfl⟩)
          | (go_at_call 16; (with_reducible refine (awake_any _).mono ?_); rintro e w4 ⟨rfl, hb4⟩; have HB4 := hide hb4; clear hb4))
        go_ret
        exact ⟨rfl, (below_drewN ((Below.refl w.heap.size w).alloc (Nat.le_refl _) _) _).trans (HB4.out.mono (by simp [size_drewN]))⟩
    · have hq := fun W => quarters_any n h0 h1 W
      obtain ⟨k, hk⟩ : ∃ k : Nat, n % 4 = (k : Int) := ⟨(n % 4).toNat, by omega⟩
      have hk4 : k < 4 := by omega
      rw [hk] at hq
      have hA := fun W => add_yes hx hy hf hm hk W
      have htr := fun W => rTurn_any (floatOfInt .f64 m) 0 k hk4 W
      obtain ⟨r, hr⟩ : ∃ r, (rot k (floatOfInt .f64 m) 0).1 = r := ⟨_, rfl⟩
      obtain ⟨s, hs⟩ : ∃ r, (rot k (floatOfInt .f64 m) 0).2 = r := ⟨_, rfl⟩
      rw [hr, hs] at htr hA
      have HQ := hide hq
      have HA := hide hA
      have HTR := hide htr
      have hbd : 0 ≤ m ∧ m ≤ 1048576 := natAbs_count hm
      have t1 : decide (m < 0) = false := by simp; omega
      have t2 : decide (1048576 < m) = false := by simp; omega
      have f1 := fun t w x y => run_fadd Try.prog w t x y
      clear hq hA htr hr hs hf h0 h1 hx hy hm hbd hk
      go_enter Try.func4, Try.ntmps4
      go_wp2_with fail
      go_quiet (fail)
      go_wp2_with (first
        | (go_at_call 17; (with_reducible refine (HA.out _).mono ?_); rintro e w' ⟨⟨kd, rfl⟩, p, q, hp, hq, rfl⟩; have HP := hide hp; have HQ2 := hide hq; clear hp hq)
        | (go_at_call 13; (with_reducible refine (HRC.out _).mono ?_); rintro e w' ⟨rfl, ⟨ke, rfl⟩⟩)
        | (go_at_call 9; (with_reducible refine (HQ.out _).mono ?_); rintro e w' ⟨rfl, rfl⟩)
        | (go_at_call 8; (with_reducible refine (HTR.out _).mono ?_); rintro e w' ⟨rfl, rfl⟩)
        | (go_at_call 10; (with_reducible refine (same_yes _ _ _ _ (HP.out.E (fpick_res _ _ _ _)) (HQ2.out.E (fpick_res _ _ _ _)) _).mono ?_); rintro e w' ⟨rfl, rfl⟩)
        | (go_at_call 16; (with_reducible refine (awake_any _).mono ?_); rintro e w4 ⟨rfl, hb4⟩; have HB4 := hide hb4; clear hb4))
      go_ret
      exact ⟨rfl, below_drewN ((below_drewN ((Below.refl w.heap.size w).alloc (Nat.le_refl _) _) _).trans (HB4.out.mono (by simp [size_drewN]))) _⟩
end Go.Proofs.Ytknchfalmjpiiaa.Ph
