/- Contracts of tally's small functions. -/
import Derived.Test.YtmkhicaaemghiaaProg
import Derived.Test.YtmkhicaaemghiaaTallyPlain
import Derived.WalkLawsBesides
namespace Go.Proofs.Ytmkhicaaemghiaa.Ta
open Go.RowKit Go.Proofs.Ytmkhicaaemghiaa.W Go.Proofs.Ytmkhicaaemghiaa.Fl
set_option linter.unusedVariables false
set_option linter.unusedSimpArgs false

theorem within_any (k n o : Int) (w : World) : Calls Try.prog 21 #[.int .i64 k, .int .i64 n, .int .i64 o] w fun e w' => e = .returned (.int .i64 (if 0 ≤ k ∧ k < n then k else o)) ∧ w = w' := by
  by_cases h1 : 0 ≤ k
  · by_cases h2 : k < n
    · have h2' : decide (k < n) = true := by simpa using h2
      go_enter Try.func21, Try.ntmps21
      go_wp2
      go_ret
      exact ⟨by simp [h1, h2], rfl⟩
    · have h2' : decide (k < n) = false := by simpa using h2
      go_enter Try.func21, Try.ntmps21
      go_wp2
      go_ret
      exact ⟨by simp [h2], rfl⟩
  · have h1' : decide (0 ≤ k) = false := by simpa using h1
    go_enter Try.func21, Try.ntmps21
    go_wp2
    go_ret
    exact ⟨by simp [h1], rfl⟩
theorem within_kind (k : Int) (w : World) : Calls Try.prog 21 #[.int .i64 k, .int .i64 24, .int .i64 0] w fun e w' => e = .returned (.int .i64 ((slotK k : Nat) : Int)) ∧ w = w' := by
  refine (within_any k 24 0 w).mono ?_
  rintro e w' ⟨rfl, rfl⟩
  refine ⟨ret_int ?_, rfl⟩
  unfold slotK
  split
  · omega
  · rfl
theorem within_err (k : Int) (w : World) : Calls Try.prog 21 #[.int .i64 k, .int .i64 31, .int .i64 31] w fun e w' => e = .returned (.int .i64 ((slotE k : Nat) : Int)) ∧ w = w' := by
  refine (within_any k 31 31 w).mono ?_
  rintro e w' ⟨rfl, rfl⟩
  refine ⟨ret_int ?_, rfl⟩
  unfold slotE
  split
  · omega
  · rfl

/-- A phase turned by so many quarters: its parts' bits. -/
def rot : Nat → Nat → Nat → Nat × Nat
  | 0, a, b => (a, b)
  | k + 1, a, b => rot k (Op.negFloat .f64 b) a
theorem and3 (n : Int) : bits BinOp.and IntKind.i64 n 3 = n % 4 := by
  show IntKind.i64.wrap ((BitVec.ofInt 64 n &&& BitVec.ofInt 64 3).toNat : Int) = _
  rw [BitVec.toNat_and, show (BitVec.ofInt 64 3).toNat = 2 ^ 2 - 1 from rfl, Nat.and_two_pow_sub_one_eq_mod, BitVec.toNat_ofInt, IntKind.wrap_i64]
  omega
@[go_sem] theorem run_neg_float (P : Program) (b : Nat) (w : World) : (Op.unary UnOp.neg (Value.float .f64 b)).run P w = .ok (.float .f64 (Op.negFloat .f64 b)) w := rfl
def TurnRel (n : Nat) (r : Nat × Nat) (w : World) (k : Nat) (s0 s7 : Value) (wr : World) : Prop :=
  ∃ (i a b : Nat), s0 = .complex .f64 a b ∧ s7 = .int .i64 (i : Int) ∧ i + k = n ∧ rot k a b = r ∧ wr = w
theorem turn_any (a b : Nat) (n : Int) (w : World) :
    Calls Try.prog 22 #[.complex .f64 a b, .int .i64 n] w fun e w' => e = .returned (.complex .f64 (rot (n % 4).toNat a b).1 (rot (n % 4).toNat a b).2) ∧ w = w' := by
  have hand := and3 n
  obtain ⟨k, hk⟩ : ∃ k : Nat, n % 4 = (k : Int) := ⟨(n % 4).toNat, by omega⟩
  have hk4 : k < 4 := by omega
  rw [hk] at hand ⊢
  rw [Int.toNat_natCast]
  clear hk
  go_enter Try.func22, Try.ntmps22
  go_wp2_with fail
  go_loopg [0, 7] k (fun j s0 s7 wr => TurnRel k (rot k a b) w j s0 s7 wr)
  case atStart => exact ⟨0, a, b, rfl, rfl, by omega, rfl, rfl⟩
  case round =>
    obtain ⟨i, x, y, rfl, rfl, hj, hr, rfl⟩ := hrel
    have HR := hide hr
    clear hr
    by_cases hi : i < k
    · have hgk : 0 < gk := by omega
      go_wp2_with fail
      go_roundg (gk - 1)
      case measure => omega
      case rel =>
        obtain ⟨g, rfl⟩ : ∃ g, gk = g + 1 := ⟨gk - 1, by omega⟩
        exact ⟨i + 1, _, _, rfl, by go_num, by omega, HR.out, rfl⟩
    · have hi' : decide (i < k) = false := by simp; omega
      obtain rfl : gk = 0 := by omega
      go_wp2_with fail
      go_ret
      exact ⟨by rw [← HR.out]; rfl, rfl⟩
end Go.Proofs.Ytmkhicaaemghiaa.Ta
