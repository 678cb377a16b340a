/- The law of gf's turns, walked. -/
import Derived.Test.YtegimagdlcbljaaGfLaws
namespace Go.Proofs.Ytegimagdlcbljaa.Gf
open Go.RowKit Go.Proofs.Ytegimagdlcbljaa.W
set_option linter.unusedVariables false
set_option linter.unusedSimpArgs false

def wantN (x kk : Nat) : Nat → Nat
  | 0 => 0
  | i + 1 => wantN x kk i + (if bt x i = 1 then p2 ((i + kk) % 8) else 0)
theorem p2_le (j : Nat) (h : j < 8) : p2 j ≤ 128 := Nat.le_trans (Nat.pow_le_pow_right (by omega) (show j ≤ 7 by omega)) (by decide)
theorem wantN_le (x kk i : Nat) : wantN x kk i ≤ i * 128 := by
  induction i with
  | zero => exact Nat.le_refl _
  | succ i ih =>
    simp only [wantN]
    have := p2_le ((i + kk) % 8) (Nat.mod_lt _ (by omega))
    split <;> omega
theorem want_is : ∀ (x : BitVec 8) (k : Fin 8), wantN x.toNat k.val 8 = (x.rotateLeft k.val).toNat := by decide +kernel
theorem back_is : ∀ (x : BitVec 8) (k : Fin 8), (x.rotateLeft k.val).rotateLeft ((8 - k.val) % 8) = x := by decide +kernel
theorem tn_back (x : BitVec 8) (m : Int) : tn (tn x m) (-m) = x := by
  have h := back_is x ⟨(m % 8).toNat, by omega⟩
  unfold tn
  rw [show (-m % 8).toNat = (8 - (m % 8).toNat) % 8 from by omega]
  exact h
def TurnsRel (x kk k : Nat) (w : World) (s9 s10 : Value) (wr : World) : Prop :=
  ∃ i : Nat, s10 = .int .i64 (i : Int) ∧ s9 = .int .i64 ((wantN x kk i : Nat) : Int) ∧ i + k = 8 ∧ wr = w
theorem tmod8_split (n : Int) : (∃ s : Nat, n.tmod 8 = s ∧ s < 8 ∧ (n % 8).toNat = s) ∨ (∃ s : Nat, n.tmod 8 = (s : Int) - 8 ∧ s < 8 ∧ (n % 8).toNat = s) := by
  have h := Int.tmod_eq_emod (a := n) (b := 8)
  split at h
  · exact .inl ⟨(n % 8).toNat, by omega, by omega, rfl⟩
  · exact .inr ⟨(n % 8).toNat, by simp at h; omega, by omega, rfl⟩
set_option maxRecDepth 100000 in
set_option maxHeartbeats 2000000 in
theorem gfTurns_walk (x m : BitVec 8) (n : Int) (w : World) :
    Calls Try.prog 6 #[.int .u8 (x.toNat : Int), .int .i64 n, .int .u8 (m.toNat : Int)] w fun e w' => e = .returned (.bool true) ∧ Below w.heap.size w w' := by
  have hb : Below w.heap.size w w := Below.refl _ _
  have hB : w.heap.size ≤ w.heap.size := Nat.le_refl _
  have bx : (x.toNat : Int) < 256 := by omega
  have bm : (m.toNat : Int) < 256 := by omega
  have bt1 : ((tn x n).toNat : Int) < 256 := by omega
  have g2 : (((tn (tn x (m.toNat : Int)) (-(m.toNat : Int))).toNat : Int) == x.toNat) = true := eq_true_of (castEq (tn_back _ _))
  rcases tmod8_split n with ⟨kk, hs, hk, hm⟩ | ⟨kk, hs, hk, hm⟩
  all_goals
    have g1 : (((tn x n).toNat : Int) == ((wantN x.toNat kk 8 : Nat) : Int)) = true := eq_true_of (by
      have h := want_is x ⟨kk, hk⟩
      rw [tn, hm]
      exact congrArg (fun x : Nat => (x : Int)) h.symm)
    clear hm
    have hneg : (kk : Int) - 8 < 0 := by omega
    go_enter Try.func6, Try.ntmps6
    go_wp2_with fail
    go_loopg [9, 10] 8 (fun k s9 s10 wr => TurnsRel x.toNat kk k w s9 s10 wr)
    case atStart => exact ⟨0, rfl, rfl, by omega, rfl⟩
    case round =>
      obtain ⟨i, rfl, rfl, hk', rfl⟩ := hrel
      by_cases hi : i < 8
      · have hstep : wantN x.toNat kk (i + 1) = wantN x.toNat kk i + (if bt x.toNat i = 1 then p2 ((i + kk) % 8) else 0) := rfl
        obtain ⟨j, hj, hj8, hjj⟩ : ∃ j : Nat, ((i : Int) + (kk : Int)) % 8 = (j : Int) ∧ j < 8 ∧ (i + kk) % 8 = j := ⟨(i + kk) % 8, by omega, by omega, rfl⟩
        have hw := wantN_le x.toNat kk i
        have hp := p2_le j hj8
        have HK := hide hk'
        by_cases hbit : bt x.toNat i = 1
        · have hbit' : ((bt x.toNat i : Int) == 1) = true := by simpa using congrArg (fun x : Nat => (x : Int)) hbit
          rw [if_pos hbit, hjj] at hstep
          have HS := hide hstep
          clear hstep hbit hjj hk'
          go_wp2_with (first
            | (go_at_call 18; refine (rbit_any _ _ (by omega) (by omega) _).mono ?_; rintro e w' ⟨rfl, rfl⟩)
            | (go_at_call 19; refine (rpower_any _ (by omega) _).mono ?_; rintro e w' ⟨rfl, rfl⟩))
          have hk' := HK.out
          go_roundg (gk - 1)
          case measure => omega
          case rel => exact ⟨i + 1, by go_num, by rw [HS.out]; go_num, by omega, rfl⟩
        · have hbit' : ((bt x.toNat i : Int) == 1) = false := by
            have : (bt x.toNat i : Int) ≠ 1 := by omega
            simpa using this
          rw [if_neg hbit] at hstep
          have HS := hide hstep
          clear hstep hbit hjj hk'
          go_wp2_with (first
            | (go_at_call 18; refine (rbit_any _ _ (by omega) (by omega) _).mono ?_; rintro e w' ⟨rfl, rfl⟩))
          have hk' := HK.out
          go_roundg (gk - 1)
          case measure => omega
          case rel => exact ⟨i + 1, by go_num, by rw [HS.out]; rfl, by omega, rfl⟩
      · obtain rfl : i = 8 := by omega
        clear hi hk'
        go_wp2_with (first
          | (go_at_call 8; with_reducible refine (on hb hB (awake_any _)).mono ?_; clear hb; rintro e w' ⟨rfl, hb⟩)
          | (go_at_call 20; with_reducible refine (on hb hB (turn_below _ _ _)).mono ?_; clear hb; rintro e w' ⟨rfl, hb⟩))
        go_ret
        exact ⟨rfl, hb⟩
end Go.Proofs.Ytegimagdlcbljaa.Gf
