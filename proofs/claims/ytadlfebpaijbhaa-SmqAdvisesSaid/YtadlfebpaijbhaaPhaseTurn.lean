/- The contract of phase.Turn: a phase turned by any quarters. -/
import Derived.Test.YtadlfebpaijbhaaProg
import Derived.Test.YtadlfebpaijbhaaFloatOrder
import Derived.WalkLawsBesides
namespace Go.Proofs.Ytadlfebpaijbhaa.Ph
open Go.RowKit Go.Proofs.Ytadlfebpaijbhaa.W Go.Proofs.Ytadlfebpaijbhaa.Fl
set_option linter.unusedVariables false
set_option linter.unusedSimpArgs false

/-- A phase turned by so many quarters: its parts' bits. -/
def rot : Nat → Nat → Nat → Nat × Nat
  | 0, a, b => (a, b)
  | k + 1, a, b => rot k (Op.negFloat .f64 b) a
theorem and3 (n : Int) : bits BinOp.and IntKind.i64 n 3 = n % 4 := by
  show IntKind.i64.wrap ((BitVec.ofInt 64 n &&& BitVec.ofInt 64 3).toNat : Int) = _
  rw [BitVec.toNat_and, show (BitVec.ofInt 64 3).toNat = 2 ^ 2 - 1 from rfl, Nat.and_two_pow_sub_one_eq_mod, BitVec.toNat_ofInt, IntKind.wrap_i64]
  omega
@[go_sem] theorem run_neg_float (P : Program) (b : Nat) (w : World) : (Op.unary UnOp.neg (Value.float .f64 b)).run P w = .ok (.float .f64 (Op.negFloat .f64 b)) w := rfl
def TurnRel (n : Nat) (r : Nat × Nat) (w : World) (k : Nat) (s0 s7 : Value) (wr : World) : Prop :=
  ∃ (i a b : Nat), s0 = .complex .f64 a b ∧ s7 = .int .i64 (i : Int) ∧ i + k = n ∧ rot k a b = r ∧ wr = w
theorem turn_any (a b : Nat) (n : Int) (w : World) :
    Calls Try.prog 63 #[.complex .f64 a b, .int .i64 n] w fun e w' => e = .returned (.complex .f64 (rot (n % 4).toNat a b).1 (rot (n % 4).toNat a b).2) ∧ w = w' := by
  have hand := and3 n
  obtain ⟨k, hk⟩ : ∃ k : Nat, n % 4 = (k : Int) := ⟨(n % 4).toNat, by omega⟩
  have hk4 : k < 4 := by omega
  rw [hk] at hand ⊢
  rw [Int.toNat_natCast]
  clear hk
  go_enter Try.func63, Try.ntmps63
  go_wp2_with fail
  go_loopg [0, 7] k (fun j s0 s7 wr => TurnRel k (rot k a b) w j s0 s7 wr)
  case atStart => exact ⟨0, a, b, rfl, rfl, by omega, rfl, rfl⟩
  case round =>
    obtain ⟨i, x, y, rfl, rfl, hj, hr, rfl⟩ := hrel
    have HR := hide hr
    clear hr
    by_cases hi : i < k
    · have hgk : 0 < gk := by omega
      go_wp2_with fail
      go_roundg (gk - 1)
      case measure => omega
      case rel =>
        obtain ⟨g, rfl⟩ : ∃ g, gk = g + 1 := ⟨gk - 1, by omega⟩
        exact ⟨i + 1, _, _, rfl, by go_num, by omega, HR.out, rfl⟩
    · have hi' : decide (i < k) = false := by simp; omega
      obtain rfl : gk = 0 := by omega
      go_wp2_with fail
      go_ret
      exact ⟨by rw [← HR.out]; rfl, rfl⟩
theorem neg_neg (b : Nat) : Op.negFloat .f64 (Op.negFloat .f64 b) = b := by
  show (b ^^^ 2 ^ 63) ^^^ 2 ^ 63 = b
  rw [Nat.xor_assoc, Nat.xor_self, Nat.xor_zero]
theorem neg_lt {b : Nat} (h : b < 18446744073709551616) : Op.negFloat .f64 b < 18446744073709551616 := by
  show b ^^^ 2 ^ 63 < 2 ^ 64
  exact Nat.xor_lt_two_pow (by omega) (by decide)
theorem rot_lt : ∀ (k : Nat) {a b : Nat}, a < 18446744073709551616 → b < 18446744073709551616 → (rot k a b).1 < 18446744073709551616 ∧ (rot k a b).2 < 18446744073709551616
  | 0, _, _, ha, hb => ⟨ha, hb⟩
  | k + 1, _, _, ha, hb => rot_lt k (neg_lt hb) ha
theorem rot_E : ∀ (k : Nat) {a b a' b' : Nat}, E a a' → E b b' → E (rot k a b).1 (rot k a' b').1 ∧ E (rot k a b).2 (rot k a' b').2
  | 0, _, _, _, _, ha, hb => ⟨ha, hb⟩
  | k + 1, _, _, _, _, ha, hb => rot_E k (neg_E hb) ha
def rotI : Nat → Int → Int → Int × Int
  | 0, a, b => (a, b)
  | k + 1, a, b => rotI k (-b) a
theorem V_rot : ∀ (k : Nat) {a b : Nat} {x y : Int}, V a x → V b y → V (rot k a b).1 (rotI k x y).1 ∧ V (rot k a b).2 (rotI k x y).2
  | 0, _, _, _, _, h, h' => ⟨h, h'⟩
  | k + 1, _, _, _, _, h, h' => V_rot k (V_neg h') h
end Go.Proofs.Ytadlfebpaijbhaa.Ph
