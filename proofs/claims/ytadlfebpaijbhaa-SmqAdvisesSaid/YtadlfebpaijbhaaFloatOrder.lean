/- Floats in order: equal ones have the same bits, but for zeros; which are finite, which are infinite. No program is in sight. -/
import Derived.Test.YtadlfebpaijbhaaFloatAny
namespace Go.Proofs.Ytadlfebpaijbhaa.Fl
open Go.RowKit Ieee Go.Proofs.Ytadlfebpaijbhaa.W
set_option linter.unusedVariables false
set_option linter.unusedSimpArgs false

/-- A rung's worth, in units of the least one. -/
def valN (r : Nat) : Nat := if r < 4503599627370496 then r else (4503599627370496 + r % 4503599627370496) * 2 ^ (r / 4503599627370496 - 1)
theorem valN_lt {r r' : Nat} (h : r < r') : valN r < valN r' := by
  unfold valN
  by_cases h1 : r < 4503599627370496
  · rw [if_pos h1]
    by_cases h2 : r' < 4503599627370496
    · rw [if_pos h2]; exact h
    · rw [if_neg h2]
      have hp : 0 < 2 ^ (r' / 4503599627370496 - 1) := Nat.pow_pos (by omega)
      have := Nat.mul_le_mul_left (4503599627370496 + r' % 4503599627370496) (show 1 ≤ 2 ^ (r' / 4503599627370496 - 1) from hp)
      omega
  · rw [if_neg h1, if_neg (by omega)]
    obtain ⟨q, hq⟩ : ∃ q, r / 4503599627370496 = q + 1 := ⟨r / 4503599627370496 - 1, by omega⟩
    obtain ⟨q', hq'⟩ : ∃ q, r' / 4503599627370496 = q + 1 := ⟨r' / 4503599627370496 - 1, by omega⟩
    rw [hq, hq', Nat.add_sub_cancel, Nat.add_sub_cancel]
    rcases Nat.lt_or_ge q q' with hlt | hge
    · have h2 : 2 ^ (q + 1) ≤ 2 ^ q' := Nat.pow_le_pow_right (by omega) hlt
      have hp : 0 < 2 ^ q := Nat.pow_pos (by omega)
      have h3 : (4503599627370496 + r % 4503599627370496) * 2 ^ q < 9007199254740992 * 2 ^ q := (Nat.mul_lt_mul_right hp).2 (by omega)
      have h4 : 9007199254740992 * 2 ^ q = 4503599627370496 * 2 ^ (q + 1) := by rw [Nat.pow_succ, Nat.mul_comm (2 ^ q) 2, ← Nat.mul_assoc]
      have h5 : 4503599627370496 * 2 ^ (q + 1) ≤ 4503599627370496 * 2 ^ q' := Nat.mul_le_mul_left _ h2
      have h6 : 4503599627370496 * 2 ^ q' ≤ (4503599627370496 + r' % 4503599627370496) * 2 ^ q' := Nat.mul_le_mul_right _ (by omega)
      omega
    · obtain rfl : q = q' := by omega
      have hp : 0 < 2 ^ q := Nat.pow_pos (by omega)
      exact (Nat.mul_lt_mul_right hp).2 (by omega)
theorem valN_inj {r r' : Nat} (h : valN r = valN r') : r = r' := by
  rcases Nat.lt_trichotomy r r' with h1 | h1 | h1
  · have := valN_lt h1; omega
  · exact h1
  · have := valN_lt h1; omega
theorem valN_zero {r : Nat} : valN r = 0 ↔ r = 0 := by
  constructor
  · intro h
    exact valN_inj (by rw [h]; rfl)
  · rintro rfl; rfl
def sg (s : Bool) (n : Nat) : Int := if s then -(n : Int) else n
theorem word_form {a : Nat} (h : a < 18446744073709551616) : ∃ s r, r < 9223372036854775808 ∧ a = d.word s r := by
  refine ⟨decide (9223372036854775808 ≤ a), a % 9223372036854775808, Nat.mod_lt _ (by omega), ?_⟩
  unfold Format.word
  rw [signWeight_d]
  by_cases hs : 9223372036854775808 ≤ a
  · simp only [hs, decide_true, if_true]; omega
  · simp only [hs, decide_false, Bool.false_eq_true, if_false]; omega
theorem read_fin (s : Bool) {r : Nat} (h : r < 9218868437227405312) : ∃ m e, d.read (d.word s r) = .number s m e ∧ -1074 ≤ e ∧ m * 2 ^ (e + 1074).toNat = valN r := by
  rw [read_word s r (by omega)]
  unfold valN
  by_cases h1 : r < 4503599627370496
  · rw [if_pos h1, if_pos h1]
    exact ⟨r, -1074, rfl, by omega, by simp⟩
  · rw [if_neg h1, if_neg h1, if_pos h]
    refine ⟨_, _, rfl, by omega, ?_⟩
    rw [show (-1074 + ((r / 4503599627370496 - 1 : Nat) : Int) + 1074).toNat = r / 4503599627370496 - 1 by omega]
theorem read_inf (s : Bool) : d.read (d.word s 9218868437227405312) = .infinity s := by
  rw [read_word s _ (by omega), if_neg (by omega), if_neg (by omega), if_pos rfl]
theorem read_nan (s : Bool) {r : Nat} (h : 9218868437227405312 < r) (h2 : r < 9223372036854775808) : d.read (d.word s r) = .nan s (r - 9218868437227405312) := by
  rw [read_word s _ h2, if_neg (by omega), if_neg (by omega), if_neg (by omega)]
theorem signed_sg (s : Bool) (m k : Nat) : signed s m k = sg s (m * 2 ^ k) := by
  unfold signed sg
  cases s <;> simp [Nat.shiftLeft_eq]
theorem order_num {s s' : Bool} {m m' : Nat} {e e' : Int} (h : -1074 ≤ e) (h' : -1074 ≤ e') :
    Datum.order (.number s m e) (.number s' m' e') = some (compare (sg s (m * 2 ^ (e + 1074).toNat)) (sg s' (m' * 2 ^ (e' + 1074).toNat))) := by
  simp only [Datum.order]
  have e1 := signed_mul s m (e - min e e').toNat (min e e' + 1074).toNat
  have e2 := signed_mul s' m' (e' - min e e').toNat (min e e' + 1074).toNat
  rw [show (e - min e e').toNat + (min e e' + 1074).toNat = (e + 1074).toNat from by omega] at e1
  rw [show (e' - min e e').toNat + (min e e' + 1074).toNat = (e' + 1074).toNat from by omega] at e2
  rw [← signed_sg, ← signed_sg, ← e1, ← e2]
  have hp := pow_pos' (min e e' + 1074).toNat
  obtain ⟨A, hA⟩ : ∃ A, A = signed s m (e - min e e').toNat := ⟨_, rfl⟩
  obtain ⟨B, hB⟩ : ∃ B, B = signed s' m' (e' - min e e').toNat := ⟨_, rfl⟩
  rw [← hA, ← hB]
  congr 1
  rcases Int.lt_trichotomy A B with hlt | he | hgt
  · rw [Int.compare_eq_lt.2 hlt, Int.compare_eq_lt.2 (Int.mul_lt_mul_of_pos_right hlt hp)]
  · subst he; simp
  · rw [Int.compare_eq_gt.2 hgt, Int.compare_eq_gt.2 (Int.mul_lt_mul_of_pos_right hgt hp)]
theorem order_fin {s s' : Bool} {r r' : Nat} (h : r < 9218868437227405312) (h' : r' < 9218868437227405312) :
    d.order (d.word s r) (d.word s' r') = some (compare (sg s (valN r)) (sg s' (valN r'))) := by
  obtain ⟨m, e, h1, h2, h3⟩ := read_fin s h
  obtain ⟨m', e', k1, k2, k3⟩ := read_fin s' h'
  unfold Format.order
  rw [h1, k1, order_num h2 k2, h3, k3]
theorem sg_eq {s s' : Bool} {n n' : Nat} (h : sg s n = sg s' n') : n = n' ∧ (s = s' ∨ n = 0) := by
  unfold sg at h
  cases s <;> cases s' <;> simp at h <;> first | (refine ⟨by omega, ?_⟩; first | (left; rfl) | (right; omega))
/-- Equal ones have the same bits, but for zeros. -/
theorem order_eq_bits {a b : Nat} (ha : a < 18446744073709551616) (hb : b < 18446744073709551616) (h : d.order a b = some .eq) :
    a = b ∨ ∃ s s', a = d.word s 0 ∧ b = d.word s' 0 := by
  obtain ⟨s, r, hr, rfl⟩ := word_form ha
  obtain ⟨s', r', hr', rfl⟩ := word_form hb
  by_cases h1 : r < 9218868437227405312
  · by_cases h2 : r' < 9218868437227405312
    · rw [order_fin h1 h2] at h
      have h3 := Int.compare_eq_eq.1 (Option.some.inj h)
      obtain ⟨h4, h5⟩ := sg_eq h3
      have h6 := valN_inj h4
      subst h6
      rcases h5 with rfl | h5
      · exact .inl rfl
      · have := valN_zero.1 h5
        subst this
        exact .inr ⟨s, s', rfl, rfl⟩
    · obtain ⟨m, e, k1, k2, k3⟩ := read_fin s h1
      unfold Format.order at h
      rw [k1] at h
      by_cases h3 : r' = 9218868437227405312
      · subst h3
        rw [read_inf] at h
        cases s' <;> simp [Datum.order] at h
      · rw [read_nan s' (by omega) hr'] at h
        simp [Datum.order] at h
  · by_cases h3 : r = 9218868437227405312
    · subst h3
      unfold Format.order at h
      rw [read_inf] at h
      by_cases h2 : r' < 9218868437227405312
      · obtain ⟨m, e, k1, k2, k3⟩ := read_fin s' h2
        rw [k1] at h
        cases s <;> simp [Datum.order] at h
      · by_cases h4 : r' = 9218868437227405312
        · subst h4
          rw [read_inf] at h
          simp only [Datum.order, Option.some.injEq] at h
          left
          cases s <;> cases s' <;> first | rfl | (exfalso; revert h; decide)
        · rw [read_nan s' (by omega) hr'] at h
          simp [Datum.order] at h
    · unfold Format.order at h
      rw [read_nan s (by omega) hr] at h
      simp [Datum.order] at h

def nanB (a : Nat) : Bool := (d.read a).isNaN
def finB (a : Nat) : Bool := match d.read a with | .number _ _ _ => true | _ => false
def infB (a : Nat) : Bool := match d.read a with | .infinity _ => true | _ => false
theorem fin_iff (a : Nat) : finB a = (!nanB a && !infB a) := by
  unfold finB nanB infB Datum.isNaN
  cases d.read a <;> rfl
/-- The same: the same bits, or both no numbers. -/
def sameB (a b : Nat) : Bool := a == b || (nanB a && nanB b)
theorem sameB_iff {a b : Nat} : sameB a b = true ↔ E a b := by
  unfold sameB E Nan nanB
  simp
theorem order_nan_left {a b : Nat} (h : nanB a = true) : d.order a b = none := by
  obtain ⟨s, f, e⟩ := nan_form (a := a) h
  simp [Format.order, e, Datum.order]
theorem order_nan_right {a b : Nat} (h : nanB b = true) : d.order a b = none := by
  obtain ⟨s, f, e⟩ := nan_form (a := b) h
  unfold Format.order
  rw [e]
  cases d.read a <;> rfl
theorem sub_self_fin {a : Nat} (h : finB a = true) : d.sub a a = some 0 := by
  unfold finB at h
  cases hr : d.read a with
  | number s m e =>
    unfold Format.sub
    rw [hr]
    simp only [Datum.opposite, Datum.sum]
    have e0 : signed s m (e - min e e).toNat + signed (!s) m (e - min e e).toNat = 0 := by
      unfold signed
      cases s <;> simp <;> omega
    rw [e0]
    simp only [if_true, Int.natAbs_zero]
    have e1 : (s && !s) = false := by cases s <;> rfl
    rw [e1]
    rfl
  | infinity s => rw [hr] at h; cases h
  | nan s f => rw [hr] at h; cases h
theorem sub_self_not {a : Nat} (h : finB a = false) : d.sub a a = none := by
  unfold finB at h
  cases hr : d.read a with
  | number s m e => rw [hr] at h; cases h
  | infinity s =>
    unfold Format.sub
    rw [hr]
    cases s <;> rfl
  | nan s f =>
    unfold Format.sub
    rw [hr]
    rfl
theorem div_zero_word (s : Bool) : d.div 4607182418800017408 (d.word s 0) = some (d.word s 9218868437227405312) := by
  cases s <;> decide
theorem order_inf (s s' : Bool) : (d.order (d.word s 9218868437227405312) (d.word s' 9218868437227405312) == some .eq) = (s == s') := by
  unfold Format.order
  rw [read_inf, read_inf]
  cases s <;> cases s' <;> rfl
theorem order_zero_word (s s' : Bool) : (d.order (d.word s 0) (d.word s' 0) == some .eq) = true := by
  cases s <;> cases s' <;> decide
theorem word_inj_sign {s s' : Bool} (h : d.word s 0 = d.word s' 0) : s = s' := by
  revert h
  cases s <;> cases s' <;> decide
/-- The greatest number's bits. -/
theorem gt_max {a : Nat} (ha : a < 18446744073709551616) : (d.order a 9218868437227405311 == some .gt) = decide (a = d.word false 9218868437227405312) := by
  obtain ⟨s, r, hr, rfl⟩ := word_form ha
  have em : (9218868437227405311 : Nat) = d.word false 9218868437227405311 := by decide
  by_cases h1 : r < 9218868437227405312
  · have h0 : d.word s r ≠ d.word false 9218868437227405312 := by
      intro h
      have := congrArg d.read h
      obtain ⟨m, e, k1, k2, k3⟩ := read_fin s h1
      rw [k1, read_inf] at this
      cases this
    rw [em, order_fin h1 (by omega), decide_eq_false h0]
    have hle : valN r ≤ valN 9218868437227405311 := by
      rcases Nat.lt_or_ge r 9218868437227405311 with h | h
      · exact Nat.le_of_lt (valN_lt h)
      · obtain rfl : r = 9218868437227405311 := by omega
        exact Nat.le_refl _
    generalize valN 9218868437227405311 = M at hle
    generalize valN r = A at hle
    have : ¬ (compare (sg s A) (sg false M) = .gt) := by
      rw [Int.compare_eq_gt]
      unfold sg
      cases s <;> simp <;> omega
    revert this
    cases compare (sg s A) (sg false M) <;> simp
  · by_cases h3 : r = 9218868437227405312
    · subst h3
      cases s <;> decide
    · have hn : nanB (d.word s r) = true := by unfold nanB; rw [read_nan s (by omega) hr]; rfl
      have h0 : d.word s r ≠ d.word false 9218868437227405312 := by
        intro h
        have := congrArg d.read h
        rw [read_nan s (by omega) hr, read_inf] at this
        cases this
      rw [order_nan_left hn, decide_eq_false h0]
      rfl
theorem lt_min {a : Nat} (ha : a < 18446744073709551616) : (d.order a 18442240474082181119 == some .lt) = decide (a = d.word true 9218868437227405312) := by
  obtain ⟨s, r, hr, rfl⟩ := word_form ha
  have em : (18442240474082181119 : Nat) = d.word true 9218868437227405311 := by decide
  by_cases h1 : r < 9218868437227405312
  · have h0 : d.word s r ≠ d.word true 9218868437227405312 := by
      intro h
      have := congrArg d.read h
      obtain ⟨m, e, k1, k2, k3⟩ := read_fin s h1
      rw [k1, read_inf] at this
      cases this
    rw [em, order_fin h1 (by omega), decide_eq_false h0]
    have hle : valN r ≤ valN 9218868437227405311 := by
      rcases Nat.lt_or_ge r 9218868437227405311 with h | h
      · exact Nat.le_of_lt (valN_lt h)
      · obtain rfl : r = 9218868437227405311 := by omega
        exact Nat.le_refl _
    generalize valN 9218868437227405311 = M at hle
    generalize valN r = A at hle
    have : ¬ (compare (sg s A) (sg true M) = .lt) := by
      rw [Int.compare_eq_lt]
      unfold sg
      cases s <;> simp <;> omega
    revert this
    cases compare (sg s A) (sg true M) <;> simp
  · by_cases h3 : r = 9218868437227405312
    · subst h3
      cases s <;> decide
    · have hn : nanB (d.word s r) = true := by unfold nanB; rw [read_nan s (by omega) hr]; rfl
      have h0 : d.word s r ≠ d.word true 9218868437227405312 := by
        intro h
        have := congrArg d.read h
        rw [read_nan s (by omega) hr, read_inf] at this
        cases this
      rw [order_nan_left hn, decide_eq_false h0]
      rfl
theorem infB_iff {a : Nat} (ha : a < 18446744073709551616) : infB a = (decide (a = d.word false 9218868437227405312) || decide (a = d.word true 9218868437227405312)) := by
  obtain ⟨s, r, hr, rfl⟩ := word_form ha
  by_cases h3 : r = 9218868437227405312
  · subst h3
    cases s <;> decide
  · have h0 : ∀ s', d.word s r ≠ d.word s' 9218868437227405312 := by
      intro s' h
      have := congrArg d.read h
      rw [read_inf] at this
      by_cases h1 : r < 9218868437227405312
      · obtain ⟨m, e, k1, k2, k3⟩ := read_fin s h1
        rw [k1] at this
        cases this
      · rw [read_nan s (by omega) hr] at this
        cases this
    rw [decide_eq_false (h0 false), decide_eq_false (h0 true)]
    unfold infB
    by_cases h1 : r < 9218868437227405312
    · obtain ⟨m, e, k1, k2, k3⟩ := read_fin s h1
      rw [k1]; rfl
    · rw [read_nan s (by omega) hr]; rfl

/-! ### What the walk does at an operation that may have no answer. -/
def fpick (w : World) (o : Option Nat) (x y : Nat) : Nat :=
  match o with
  | some r => r
  | none => (w.tape w.drawn (.nanBits .f64 x y) % 2) * 2 ^ 63 + 0x7ff0000000000000 + 1 + (w.tape w.drawn (.nanBits .f64 x y) / 2) % (2 ^ 52 - 1)
def fdraws (o : Option Nat) : Nat := match o with | some _ => 0 | none => 1
theorem fpick_res (w : World) (o : Option Nat) (x y : Nat) : Res o (fpick w o x y) := by
  cases o with
  | some r => exact .inl rfl
  | none => exact .inr ⟨rfl, nan_cut (w.tape w.drawn (.nanBits .f64 x y))⟩
theorem fpick_lt (w : World) (o : Option Nat) (x y : Nat) (h : ∀ r, o = some r → r < 18446744073709551616) : fpick w o x y < 18446744073709551616 := by
  cases o with
  | some r => exact h r rfl
  | none => 
    show (w.tape w.drawn (.nanBits .f64 x y) % 2) * 2 ^ 63 + 0x7ff0000000000000 + 1 + (w.tape w.drawn (.nanBits .f64 x y) / 2) % (2 ^ 52 - 1) < _
    have := Nat.mod_lt (w.tape w.drawn (.nanBits .f64 x y) / 2) (show 0 < 2 ^ 52 - 1 by decide)
    omega
theorem add_lt {x y r : Nat} (h : d.add x y = some r) : r < 18446744073709551616 := d.add_lt h
theorem sub_lt {x y r : Nat} (h : d.sub x y = some r) : r < 18446744073709551616 := d.sub_lt h
theorem mul_lt {x y r : Nat} (h : d.mul x y = some r) : r < 18446744073709551616 := d.mul_lt h
theorem run_fadd (P : Program) (w : World) (t : TypeId) (x y : Nat) : (binOp .add t (.float .f64 x) (.float .f64 y)).run P w = .ok (.float .f64 (fpick w (d.add x y) x y)) (w.drewN (fdraws (d.add x y))) := by
  have hf : FloatKind.f64.format = d := rfl
  cases ho : d.add x y with
  | some r => simp [binOp, Op.floatArith, hf, ho]; exact ⟨rfl, rfl⟩
  | none => simp [binOp, Op.floatArith, hf, ho, run_choose_drew, Question.forced, Question.cut]; exact ⟨rfl, rfl⟩
theorem run_fsub (P : Program) (w : World) (t : TypeId) (x y : Nat) : (binOp .sub t (.float .f64 x) (.float .f64 y)).run P w = .ok (.float .f64 (fpick w (d.sub x y) x y)) (w.drewN (fdraws (d.sub x y))) := by
  have hf : FloatKind.f64.format = d := rfl
  cases ho : d.sub x y with
  | some r => simp [binOp, Op.floatArith, hf, ho]; exact ⟨rfl, rfl⟩
  | none => simp [binOp, Op.floatArith, hf, ho, run_choose_drew, Question.forced, Question.cut]; exact ⟨rfl, rfl⟩
theorem run_fmul (P : Program) (w : World) (t : TypeId) (x y : Nat) : (binOp .mul t (.float .f64 x) (.float .f64 y)).run P w = .ok (.float .f64 (fpick w (d.mul x y) x y)) (w.drewN (fdraws (d.mul x y))) := by
  have hf : FloatKind.f64.format = d := rfl
  cases ho : d.mul x y with
  | some r => simp [binOp, Op.floatArith, hf, ho]; exact ⟨rfl, rfl⟩
  | none => simp [binOp, Op.floatArith, hf, ho, run_choose_drew, Question.forced, Question.cut]; exact ⟨rfl, rfl⟩
end Go.Proofs.Ytadlfebpaijbhaa.Fl
