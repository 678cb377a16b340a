/- Contracts of phase's functions on floats: which are finite, the same, sums. -/
import Derived.Test.YtknchfalmjpiiaaPhaseSmall
import Derived.Test.YtknchfalmjpiiaaPhasePlus
import Derived.Laws.Externs
namespace Go.Proofs.Ytknchfalmjpiiaa.Ph
open Go.RowKit Go.Proofs.Ytknchfalmjpiiaa.W Go.Proofs.Ytknchfalmjpiiaa.Fl
set_option linter.unusedVariables false
set_option linter.unusedSimpArgs false

theorem run_bits (b : Nat) (w : World) : (callFunc 35 #[.float .f64 b]).run Try.prog w = .ok (.value (.int .u64 (b : Int))) w := by
  rw [run_callFunc_extern (e := Extern.MathFloatBits.float64bits) Try.func35 (by kernel_rfl) (by kernel_rfl) (by kernel_rfl) (by kernel_rfl)]
  rfl
theorem run_frombits (b : Nat) (w : World) : (callFunc 38 #[.int .u64 (b : Int)]).run Try.prog w = .ok (.value (.float .f64 b)) w := by
  rw [run_callFunc_extern (e := Extern.MathFloatBits.float64frombits) Try.func38 (by kernel_rfl) (by kernel_rfl) (by kernel_rfl) (by kernel_rfl)]
  rfl
theorem andNot63 (b : Nat) (h : b < 18446744073709551616) : bits BinOp.andNot IntKind.u64 (b : Int) 9223372036854775808 = ((b % 9223372036854775808 : Nat) : Int) := by
  have e1 : BitVec.ofInt 64 (b : Int) = BitVec.ofNat 64 b := by simp
  have e2 : BitVec.ofInt 64 9223372036854775808 = 9223372036854775808#64 := by decide
  show IntKind.u64.wrap ((BitVec.ofInt 64 (b : Int) &&& ~~~ BitVec.ofInt 64 9223372036854775808).toNat : Int) = _
  rw [e1, e2, show (~~~ 9223372036854775808#64) = 9223372036854775807#64 by decide, BitVec.toNat_and, show (9223372036854775807#64).toNat = 2 ^ 63 - 1 by decide, Nat.and_two_pow_sub_one_eq_mod, BitVec.toNat_ofNat]
  simp [IntKind.wrap, IntKind.bits, IntKind.signed]
  omega
theorem abs_any (b : Nat) (h : b < 18446744073709551616) (w : World) : Calls Try.prog 37 #[.float .f64 b] w fun e w' => e = .returned (.float .f64 (b % 9223372036854775808)) ∧ w = w' := by
  have H1 := andNot63 b h
  have h1 := fun w => run_bits b w
  obtain ⟨c, hc⟩ : ∃ c, b % 9223372036854775808 = c := ⟨_, rfl⟩
  rw [hc] at H1 ⊢
  have h2 := fun w => run_frombits c w
  clear hc h
  go_enter Try.func37, Try.ntmps37
  go_wp2
  go_ret
  exact ⟨rfl, rfl⟩
theorem abs_inf {b : Nat} (h : b < 18446744073709551616) : (FloatKind.f64.format.order (b % 9223372036854775808) 9218868437227405311 == some .gt) = infB b := by
  have h1 := gt_max (a := b % 9223372036854775808) (by omega)
  refine h1.trans ?_
  rw [infB_iff h]
  have e1 : d.word false 9218868437227405312 = 9218868437227405312 := by decide
  have e2 : d.word true 9218868437227405312 = 18442240474082181120 := by decide
  rw [e1, e2, Bool.eq_iff_iff]
  simp
  omega
theorem isInf_any (b : Nat) (h : b < 18446744073709551616) (w : World) : Calls Try.prog 34 #[.float .f64 b, .int .i64 0] w fun e w' => e = .returned (.bool (infB b)) ∧ w = w' := by
  have H1 := hide (abs_any b h)
  have H2 := abs_inf h
  clear h
  go_enter Try.func34, Try.ntmps34
  go_wp2_with (go_at_call 37; with_reducible refine (H1.out _).mono ?_; rintro e w' ⟨rfl, rfl⟩)
  go_ret
  exact ⟨rfl, rfl⟩
theorem finite_any (b : Nat) (h : b < 18446744073709551616) (w : World) : Calls Try.prog 26 #[.float .f64 b] w fun e w' => e = .returned (.bool (finB b)) ∧ w = w' := by
  have HN := hide (fun w => isNaN_any b w)
  have HI := hide (isInf_any b h)
  have HF := hide (fin_iff b)
  clear h
  obtain ⟨x, hx⟩ : ∃ x, nanB b = x := ⟨_, rfl⟩
  rw [hx] at HN HF
  cases x
  all_goals
    clear hx
    go_enter Try.func26, Try.ntmps26
    go_wp2_with (first
      | (go_at_call 33; with_reducible refine (HN.out _).mono ?_; rintro e w' ⟨rfl, rfl⟩)
      | (go_at_call 34; with_reducible refine (HI.out _).mono ?_; rintro e w' ⟨rfl, rfl⟩))
    go_ret
    exact ⟨ret_bool (by rw [HF.out]; simp), rfl⟩
theorem counts_any (a b : Nat) (ha : a < 18446744073709551616) (hb : b < 18446744073709551616) (w : World) : Calls Try.prog 12 #[.complex .f64 a b] w fun e w' => e = .returned (.bool (finB a && finB b)) ∧ w = w' := by
  have HA := hide (finite_any a ha)
  have HB := hide (finite_any b hb)
  clear ha hb
  obtain ⟨x, hx⟩ : ∃ x, finB a = x := ⟨_, rfl⟩
  rw [hx] at HA ⊢
  cases x
  all_goals
    clear hx
    go_enter Try.func12, Try.ntmps12
    go_wp2_with (first
      | (go_at_call 26; with_reducible refine (HA.out _).mono ?_; rintro e w' ⟨rfl, rfl⟩)
      | (go_at_call 26; with_reducible refine (HB.out _).mono ?_; rintro e w' ⟨rfl, rfl⟩))
    go_ret
    exact ⟨ret_bool (by simp), rfl⟩
theorem number_any (a : Nat) (w : World) : Calls Try.prog 27 #[.float .f64 a] w fun e w' => e = .returned (.bool (finB a)) ∧ Drew w w' := by
  cases hf : finB a
  · have hs := sub_self_not hf
    have hr : ∀ (t : TypeId) (w : World), (binOp .sub t (.float .f64 a) (.float .f64 a)).run Try.prog w = .ok (.float .f64 (fpick w none a a)) (w.drewN 1) := fun t w => by rw [run_fsub, hs]; rfl
    have ho : ∀ w, FloatKind.f64.format.order (fpick w none a a) 0 = none := fun w => order_nan_left ((fpick_res w none a a).elim (fun h => by cases h) (fun h => h.2))
    clear hs hf
    go_enter Try.func27, Try.ntmps27
    go_wp2
    go_ret
    exact ⟨rfl, 1, rfl⟩
  · have hs := sub_self_fin hf
    have hr : ∀ (t : TypeId) (w : World), (binOp .sub t (.float .f64 a) (.float .f64 a)).run Try.prog w = .ok (.float .f64 0) w := fun t w => by rw [run_fsub, hs]; rfl
    have ho : (FloatKind.f64.format.order 0 0 == some .eq) = true := by decide
    clear hs hf
    go_enter Try.func27, Try.ntmps27
    go_wp2
    go_ret
    exact ⟨ret_bool ho, 0, rfl⟩
theorem rCounts_any (a b : Nat) (w : World) : Calls Try.prog 13 #[.float .f64 a, .float .f64 b] w fun e w' => e = .returned (.bool (finB a && finB b)) ∧ Drew w w' := by
  have HA := hide (number_any a)
  have HB := hide (number_any b)
  obtain ⟨x, hx⟩ : ∃ x, finB a = x := ⟨_, rfl⟩
  rw [hx] at HA ⊢
  cases x
  · clear hx
    go_enter Try.func13, Try.ntmps13
    go_wp2_with (first
      | (go_at_call 27; with_reducible refine (HA.out _).mono ?_; rintro e w1 ⟨rfl, d1⟩; have D1 := hide d1; clear d1))
    go_ret
    exact ⟨ret_bool (by simp), D1.out⟩
  · clear hx
    go_enter Try.func13, Try.ntmps13
    go_wp2_with (first
      | (go_at_call 27; with_reducible refine (HA.out _).mono ?_; rintro e w1 ⟨rfl, d1⟩; have D1 := hide d1; clear d1)
      | (go_at_call 27; with_reducible refine (HB.out _).mono ?_; rintro e w2 ⟨rfl, d2⟩; have D2 := hide d2; clear d2))
    go_ret
    exact ⟨ret_bool (by simp), D1.out.trans D2.out⟩
theorem psame_any (a b : Nat) (w : World) : Calls Try.prog 28 #[.float .f64 a, .float .f64 b] w fun e w' => e = .returned (.bool (sameB a b)) ∧ w = w' := by
  have HA := hide (fun w => isNaN_any a w)
  have HB := hide (fun w => isNaN_any b w)
  have h1 := fun w => run_bits a w
  have h2 := fun w => run_bits b w
  by_cases h : a = b
  · subst h
    go_enter Try.func28, Try.ntmps28
    go_wp2_with fail
    go_ret
    exact ⟨ret_bool (by simp [sameB]), rfl⟩
  · have h' : ((a : Int) == (b : Int)) = false := by simp; omega
    have h'' : (a == b) = false := by simpa using h
    have HS : Hid (sameB a b = (nanB a && nanB b)) := by show _ = _; unfold sameB; rw [h'']; rfl
    clear h
    obtain ⟨x, hx⟩ : ∃ x, nanB a = x := ⟨_, rfl⟩
    rw [hx] at HA HS
    cases x
    all_goals
      clear hx
      go_enter Try.func28, Try.ntmps28
      go_wp2_with (first
        | (go_at_call 33; with_reducible refine (HA.out _).mono ?_; rintro e w' ⟨rfl, rfl⟩)
        | (go_at_call 33; with_reducible refine (HB.out _).mono ?_; rintro e w' ⟨rfl, rfl⟩))
      go_ret
      exact ⟨ret_bool (by rw [HS.out]; simp), rfl⟩
theorem pSame_any (a b c d : Nat) (w : World) : Calls Try.prog 14 #[.complex .f64 a b, .complex .f64 c d] w fun e w' => e = .returned (.bool (sameB a c && sameB b d)) ∧ w = w' := by
  have HA := hide (psame_any a c)
  have HB := hide (psame_any b d)
  obtain ⟨x, hx⟩ : ∃ x, sameB a c = x := ⟨_, rfl⟩
  rw [hx] at HA ⊢
  cases x
  all_goals
    clear hx
    go_enter Try.func14, Try.ntmps14
    go_wp2_with (first
      | (go_at_call 28; with_reducible refine (HA.out _).mono ?_; rintro e w' ⟨rfl, rfl⟩)
      | (go_at_call 28; with_reducible refine (HB.out _).mono ?_; rintro e w' ⟨rfl, rfl⟩))
    go_ret
    exact ⟨ret_bool (by simp), rfl⟩
end Go.Proofs.Ytknchfalmjpiiaa.Ph
