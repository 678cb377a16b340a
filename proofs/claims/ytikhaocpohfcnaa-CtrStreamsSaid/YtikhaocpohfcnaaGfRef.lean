/- The contracts of the reference's functions on elements. -/
import Derived.Test.YtikhaocpohfcnaaGfRest
namespace Go.Proofs.Ytikhaocpohfcnaa.Gf
open Go.RowKit Go.Proofs.Ytikhaocpohfcnaa.W
set_option linter.unusedVariables false
set_option linter.unusedSimpArgs false

theorem ofInt_i64 (a : Nat) (ha : a < 9223372036854775808) : (BitVec.ofInt 64 (a : Int)).toNat = a := by
  rw [BitVec.ofInt_natCast, BitVec.toNat_ofNat]; exact Nat.mod_eq_of_lt (by omega)
theorem i64_xor_nat (a b : Nat) (ha : a < 1000000) (hb : b < 1000000) : bits .xor .i64 (a : Int) (b : Int) = ((a ^^^ b : Nat) : Int) := by
  have hx : a ^^^ b < 2 ^ 30 := Nat.xor_lt_two_pow (by omega) (by omega)
  show IntKind.i64.wrap ((BitVec.ofInt 64 (a : Int) ^^^ BitVec.ofInt 64 (b : Int)).toNat : Int) = _
  rw [BitVec.toNat_xor, ofInt_i64 a (by omega), ofInt_i64 b (by omega), IntKind.wrap_i64]
  omega
theorem xor_i64 (a b : BitVec 8) : bits .xor .i64 (a.toNat : Int) (b.toNat : Int) = ((ad a b).toNat : Int) := by
  rw [i64_xor_nat _ _ (by omega) (by omega)]
  simp [ad]
theorem rtw_yes : ∀ a : BitVec 8, 256 ≤ (a.toNat : Int) * 2 → bits .xor .i64 ((a.toNat : Int) * 2) 283 = ((tw a).toNat : Int) := by decide +kernel
theorem rtw_no : ∀ a : BitVec 8, ¬ 256 ≤ (a.toNat : Int) * 2 → (a.toNat : Int) * 2 = ((tw a).toNat : Int) := by decide +kernel
theorem rodd : ∀ b : BitVec 8, ((b.toNat : Int) % 2 == 1) = od b := by decide +kernel

theorem radd_any (a b : BitVec 8) (w : World) :
    Calls Try.prog 52 #[.int .i64 (a.toNat : Int), .int .i64 (b.toNat : Int)] w fun e w' => e = .returned (.int .i64 ((ad a b).toNat : Int)) ∧ w = w' := by
  go_enter Try.func52, Try.ntmps52
  go_wp2
  go_ret
  exact ⟨ret_int (xor_i64 a b), rfl⟩

def RMulRel (r : BitVec 8) (k : Nat) (w : World) (s0 s1 s5 : Value) (wr : World) : Prop :=
  ∃ a b o : BitVec 8, s0 = .int .i64 (a.toNat : Int) ∧ s1 = .int .i64 (b.toNat : Int) ∧ s5 = .int .i64 (o.toNat : Int) ∧ b.toNat < 2 ^ k ∧ mulN k a b o = r ∧ wr = w

set_option maxRecDepth 100000 in
set_option maxHeartbeats 1000000 in
theorem rmul_any (a b : BitVec 8) (w : World) :
    Calls Try.prog 54 #[.int .i64 (a.toNat : Int), .int .i64 (b.toNat : Int)] w fun e w' => e = .returned (.int .i64 ((mu a b).toNat : Int)) ∧ w = w' := by
  go_enter Try.func54, Try.ntmps54
  go_wp2
  go_loopg [0, 1, 5] 8 (fun k s0 s1 s5 wr => RMulRel (mu a b) k w s0 s1 s5 wr)
  case atStart => exact ⟨a, b, 0#8, rfl, rfl, rfl, by omega, rfl, rfl⟩
  case round =>
    obtain ⟨a', b', o', rfl, rfl, rfl, hlt, heq, rfl⟩ := hrel
    have HE := hide heq
    clear heq
    by_cases hz : b' = 0#8
    · subst hz
      go_wp2
      go_ret
      refine ⟨ret_int ?_, rfl⟩
      rw [← HE.out, mulN_zero_b]
    · have hpos : (0 : Int) < (b'.toNat : Int) := by
        have h0 : b'.toNat ≠ 0 := fun h => hz (BitVec.eq_of_toNat_eq (by simpa using h))
        omega
      have hk : 0 < gk := by
        rcases Nat.eq_zero_or_pos gk with h | h
        · subst h; exact absurd (BitVec.eq_of_toNat_eq (by simp; omega)) hz
        · exact h
      obtain ⟨k, rfl⟩ : ∃ k, gk = k + 1 := ⟨gk - 1, by omega⟩
      clear hz hk
      have hsr := sr_is b'
      have HS := hide hsr
      clear hsr
      have hod := rodd b'
      have b0 : (a'.toNat : Int) < 256 := by omega
      have b1 : (b'.toNat : Int) < 256 := by omega
      have hlt' := sr_lt _ _ hlt
      cases ho : od b'
      all_goals
        have hg : ga a' b' o' = (if od b' then ad o' a' else o') := rfl
        rw [ho] at hg hod
        have HG := hide hg
        clear hg ho
        by_cases h256 : 256 ≤ (a'.toNat : Int) * 2
        all_goals
          go_wp2
          go_roundg k
          case measure => omega
          case rel =>
            refine ⟨tw a', sr b', _, by first | rw [rtw_yes a' h256] | rw [rtw_no a' (by omega)], by rw [HS.out], ?_, hlt', HE.out, rfl⟩
            rw [HG.out]
            first | rfl | exact congrArg _ (xor_i64 _ _)

theorem iv_zero : iv 0#8 = 0#8 := by decide
theorem iv_uniq (a b : BitVec 8) (h : mu a b = 1#8) : iv a = b := by
  have ha : a ≠ 0#8 := by
    rintro rfl
    rw [zero_mu] at h
    exact absurd h (by decide)
  have h1 := iv_mu a ha
  have h2 : mu (iv a) (mu a b) = iv a := by rw [h, mu_one]
  rw [← h2, ← mu_assoc, mu_comm (iv a) a, h1, one_mu]
theorem iv_none (a : BitVec 8) (h : ∀ b : BitVec 8, b ≠ 0#8 → mu a b ≠ 1#8) : iv a = 0#8 := by
  by_cases ha : a = 0#8
  · subst ha; exact iv_zero
  · refine absurd (iv_mu a ha) (h _ ?_)
    intro e
    have := iv_mu a ha
    rw [e, mu_zero] at this
    exact absurd this (by decide)

def RInvRel (a : BitVec 8) (k : Nat) (w : World) (s3 : Value) (wr : World) : Prop :=
  ∃ j : Nat, s3 = .int .i64 (j : Int) ∧ 1 ≤ j ∧ j + k = 256 ∧ (∀ b : BitVec 8, b ≠ 0#8 → b.toNat < j → mu a b ≠ 1#8) ∧ wr = w

set_option maxRecDepth 100000 in
set_option maxHeartbeats 1000000 in
theorem rinv_any (a : BitVec 8) (w : World) :
    Calls Try.prog 56 #[.int .i64 (a.toNat : Int)] w fun e w' => e = .returned (.int .i64 ((iv a).toNat : Int)) ∧ w = w' := by
  go_enter Try.func56, Try.ntmps56
  go_wp2
  go_loopg [3] 255 (fun k s3 wr => RInvRel a k w s3 wr)
  case atStart => exact ⟨1, rfl, by omega, by omega, fun b hb hlt => absurd (BitVec.eq_of_toNat_eq (by simp; omega)) hb, rfl⟩
  case round =>
    obtain ⟨j, rfl, h1, hk, hno, rfl⟩ := hrel
    by_cases hj : j < 256
    · obtain ⟨b, rfl⟩ : ∃ b : BitVec 8, j = b.toNat := ⟨BitVec.ofNat 8 j, by simp; omega⟩
      have hb : b ≠ 0#8 := by rintro rfl; simp at h1
      by_cases hm : mu a b = 1#8
      · have hm' : (((mu a b).toNat : Int) == 1) = true := by rw [hm]; rfl
        have hu := iv_uniq a b hm
        have HU := hide hu
        clear hm hu hno hb
        go_wp2_with fail
        refine (rmul_any _ _ _).mono ?_
        rintro e1 w1 ⟨rfl, rfl⟩
        go_wp2_with fail
        go_ret
        exact ⟨ret_int (by rw [HU.out]), rfl⟩
      · have hm' : (((mu a b).toNat : Int) == 1) = false := by
          have : (mu a b).toNat ≠ 1 := fun h => hm (BitVec.eq_of_toNat_eq (by simpa using h))
          simp; omega
        have hno' : ∀ b' : BitVec 8, b' ≠ 0#8 → b'.toNat < b.toNat + 1 → mu a b' ≠ 1#8 := by
          intro b' h0 hlt
          rcases Nat.lt_or_ge b'.toNat b.toNat with h | h
          · exact hno b' h0 h
          · rw [show b' = b from BitVec.eq_of_toNat_eq (by omega)]; exact hm
        have HU := hide hno'
        clear hm hno' hno hb
        go_wp2_with fail
        refine (rmul_any _ _ _).mono ?_
        rintro e1 w1 ⟨rfl, rfl⟩
        go_wp2_with fail
        go_roundg (gk - 1)
        case measure => omega
        case rel => exact ⟨b.toNat + 1, by go_num, by omega, by omega, HU.out, rfl⟩
    · have hu := iv_none a (fun b hb => hno b hb (by omega))
      have HU := hide hu
      clear hu hno
      go_wp2_with fail
      go_ret
      exact ⟨ret_int (by rw [HU.out]; rfl), rfl⟩

def RPowRel (a : BitVec 8) (n k : Nat) (w : World) (s5 s6 : Value) (wr : World) : Prop :=
  ∃ j : Nat, s6 = .int .i64 (j : Int) ∧ s5 = .int .i64 ((powN a j).toNat : Int) ∧ j + k = n ∧ wr = w
set_option maxRecDepth 100000 in
set_option maxHeartbeats 1000000 in
theorem rpow_any (a : BitVec 8) (n : Nat) (hn : n < 1000) (w : World) :
    Calls Try.prog 53 #[.int .i64 (a.toNat : Int), .int .i64 (n : Int)] w fun e w' => e = .returned (.int .i64 ((powN a n).toNat : Int)) ∧ w = w' := by
  go_enter Try.func53, Try.ntmps53
  go_wp2
  go_loopg [5, 6] n (fun k s5 s6 wr => RPowRel a n k w s5 s6 wr)
  case atStart => exact ⟨0, rfl, rfl, by omega, rfl⟩
  case round =>
    obtain ⟨j, rfl, rfl, hk, rfl⟩ := hrel
    have HK := hide hk
    by_cases hj : j < n
    · have hle : j + 1 ≤ n := hj
      have hg : 0 < gk := by omega
      clear hk
      go_wp2_with fail
      refine (rmul_any _ _ _).mono ?_
      rintro e1 w1 ⟨rfl, rfl⟩
      go_wp2_with fail
      have hk := HK.out
      go_roundg (gk - 1)
      case measure => omega
      case rel => exact ⟨j + 1, by go_num, rfl, by omega, rfl⟩
    · clear hk
      go_wp2_with fail
      have hk := HK.out
      go_ret
      exact ⟨ret_int (by rw [show j = n from by omega]), rfl⟩

def bt (a m : Nat) : Nat := a / 2 ^ m % 2
def p2 (m : Nat) : Nat := 2 ^ m
def RPowerRel (m k : Nat) (w : World) (s3 s4 : Value) (wr : World) : Prop :=
  ∃ j x : Nat, s4 = .int .i64 (j : Int) ∧ s3 = .int .i64 (x : Int) ∧ x = 2 ^ j ∧ j + k = m ∧ wr = w
set_option maxRecDepth 100000 in
set_option maxHeartbeats 1000000 in
theorem rpower_any (m : Nat) (hm : m < 50) (w : World) :
    Calls Try.prog 59 #[.int .i64 (m : Int)] w fun e w' => e = .returned (.int .i64 ((p2 m : Nat) : Int)) ∧ w = w' := by
  go_enter Try.func59, Try.ntmps59
  go_wp2
  go_loopg [3, 4] m (fun k s3 s4 wr => RPowerRel m k w s3 s4 wr)
  case atStart => exact ⟨0, 1, rfl, rfl, rfl, by omega, rfl⟩
  case round =>
    obtain ⟨j, x, rfl, rfl, hx, hk, rfl⟩ := hrel
    have hle : x ≤ 1125899906842624 := by
      rw [hx]
      exact Nat.le_trans (Nat.pow_le_pow_right (by omega) (show j ≤ 50 by omega)) (by decide)
    have HX := hide hx
    clear hx
    have HK := hide hk
    by_cases hj : j < m
    · have hle : j + 1 ≤ m := hj
      have hg : 0 < gk := by omega
      clear hk
      go_wp2_with fail
      have hk := HK.out
      go_roundg (gk - 1)
      case measure => omega
      case rel => exact ⟨j + 1, x * 2, by go_num, by go_num, by rw [Nat.pow_succ, ← HX.out], by omega, rfl⟩
    · clear hk
      go_wp2_with fail
      have hk := HK.out
      go_ret
      exact ⟨ret_int (by rw [p2, show m = j from by omega, ← HX.out]), rfl⟩
end Go.Proofs.Ytikhaocpohfcnaa.Gf
