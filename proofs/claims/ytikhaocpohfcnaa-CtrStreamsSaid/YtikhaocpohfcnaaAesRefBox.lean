/- The document's image of a byte, walked. -/
import Derived.Test.YtikhaocpohfcnaaGfRef
import Derived.Test.YtikhaocpohfcnaaAesPlain
namespace Go.Proofs.Ytikhaocpohfcnaa.Ae
open Go.RowKit Go.Proofs.Ytikhaocpohfcnaa.W Go.Proofs.Ytikhaocpohfcnaa.Gf
set_option linter.unusedVariables false
set_option linter.unusedSimpArgs false

theorem turn_lit : ∀ n, n < 5 → ∀ a : BitVec 8, a.toNat * 2 ^ n % 256 + a.toNat * 2 ^ n / 256 = (a.rotateLeft n).toNat := by decide +kernel
theorem turn_tn (a : BitVec 8) (n : Nat) (hn : n < 5) : a.rotateLeft n = tn a (n : Int) := by
  unfold tn
  rw [show ((n : Int) % 8).toNat = n by omega]
theorem rturn_any (a : BitVec 8) (n : Nat) (hn : n < 5) (w : World) :
    Calls Try.prog 57 #[.int .i64 (a.toNat : Int), .int .i64 (n : Int)] w fun e w' => e = .returned (.int .i64 ((tn a (n : Int)).toNat : Int)) ∧ w = w' := by
  have ha := a.isLt
  have hp : p2 n ≤ 16 := by
    unfold p2
    have : 2 ^ n ≤ 2 ^ 4 := Nat.pow_le_pow_right (by omega) (by omega)
    omega
  obtain ⟨x, hx⟩ : ∃ x, a.toNat * p2 n = x := ⟨_, rfl⟩
  have hx4 : x ≤ 256 * 16 := by rw [← hx]; exact Nat.mul_le_mul (by omega) hp
  have HR : Hid (x % 256 + x / 256 = (tn a (n : Int)).toNat) := hide (by rw [← hx, ← turn_tn a n hn]; exact turn_lit n hn a)
  have e1 : IntKind.i64.wrap ((a.toNat : Int) * ((p2 n : Nat) : Int)) = (x : Int) := by
    rw [← hx, ← Int.natCast_mul]
    exact IntWalk.i64_in _ (by rw [hx]; omega)
  obtain ⟨r, hr⟩ : ∃ r : Nat, x % 256 = r := ⟨_, rfl⟩
  obtain ⟨q, hq⟩ : ∃ r : Nat, x / 256 = r := ⟨_, rfl⟩
  have e2 : Int.tmod (x : Int) 256 = (r : Int) := by rw [Int.tmod_eq_emod_of_nonneg (by omega)]; omega
  have e3 : IntKind.i64.wrap ((x : Int) / 256) = (q : Int) := by rw [← hq]; exact IntWalk.i64_in _ (by omega)
  have e4 : IntKind.i64.wrap ((r : Int) + (q : Int)) = ((tn a (n : Int)).toNat : Int) := by
    rw [← HR.out, ← hr, ← hq, ← Int.natCast_add]
    exact IntWalk.i64_in _ (by omega)
  clear hx hr hq
  go_enter Try.func57, Try.ntmps57
  go_wp2_with (first | (go_at_call 59; (with_reducible refine (rpower_any n (by omega) _).mono ?_); rintro e w' ⟨rfl, rfl⟩))
  go_ret
  exact ⟨rfl, rfl⟩
theorem sb_ad (a : BitVec 8) : ad (ad (ad (ad (iv a) (tn (iv a) 1)) (ad (tn (iv a) 2) (tn (iv a) 3))) (tn (iv a) 4)) 99#8 = sb a := by
  unfold ad sb
  simp only [BitVec.xor_assoc]
theorem radd99 (a : BitVec 8) (w : World) : Calls Try.prog 52 #[.int .i64 (a.toNat : Int), .int .i64 99] w fun e w' => e = .returned (.int .i64 ((ad a 99#8).toNat : Int)) ∧ w = w' := radd_any a 99#8 w
theorem rbox_any (a : BitVec 8) (w : World) :
    Calls Try.prog 51 #[.int .i64 (a.toNat : Int)] w fun e w' => e = .returned (.int .i64 ((sb a).toNat : Int)) ∧ w = w' := by
  have t1 : ∀ (x : BitVec 8) (W : World), Calls Try.prog 57 #[.int .i64 (x.toNat : Int), .int .i64 1] W fun e w' => e = .returned (.int .i64 ((tn x 1).toNat : Int)) ∧ W = w' := fun x W => rturn_any x 1 (by omega) W
  have t2 : ∀ (x : BitVec 8) (W : World), Calls Try.prog 57 #[.int .i64 (x.toNat : Int), .int .i64 2] W fun e w' => e = .returned (.int .i64 ((tn x 2).toNat : Int)) ∧ W = w' := fun x W => rturn_any x 2 (by omega) W
  have t3 : ∀ (x : BitVec 8) (W : World), Calls Try.prog 57 #[.int .i64 (x.toNat : Int), .int .i64 3] W fun e w' => e = .returned (.int .i64 ((tn x 3).toNat : Int)) ∧ W = w' := fun x W => rturn_any x 3 (by omega) W
  have t4 : ∀ (x : BitVec 8) (W : World), Calls Try.prog 57 #[.int .i64 (x.toNat : Int), .int .i64 4] W fun e w' => e = .returned (.int .i64 ((tn x 4).toNat : Int)) ∧ W = w' := fun x W => rturn_any x 4 (by omega) W
  have T1 := hide t1
  have T2 := hide t2
  have T3 := hide t3
  have T4 := hide t4
  clear t1 t2 t3 t4
  rw [← sb_ad]
  go_enter Try.func51, Try.ntmps51
  go_wp2_with (first
    | (go_at_call 56; (with_reducible refine (rinv_any _ _).mono ?_); rintro e w' ⟨rfl, rfl⟩)
    | (go_at_call 57; (with_reducible refine (T1.out _ _).mono ?_); rintro e w' ⟨rfl, rfl⟩)
    | (go_at_call 57; (with_reducible refine (T2.out _ _).mono ?_); rintro e w' ⟨rfl, rfl⟩)
    | (go_at_call 57; (with_reducible refine (T3.out _ _).mono ?_); rintro e w' ⟨rfl, rfl⟩)
    | (go_at_call 57; (with_reducible refine (T4.out _ _).mono ?_); rintro e w' ⟨rfl, rfl⟩)
    | (go_at_call 52; (with_reducible refine (radd99 _ _).mono ?_); rintro e w' ⟨rfl, rfl⟩)
    | (go_at_call 52; (with_reducible refine (radd_any _ _ _).mono ?_); rintro e w' ⟨rfl, rfl⟩))
  go_ret
  exact ⟨rfl, rfl⟩
end Go.Proofs.Ytikhaocpohfcnaa.Ae
