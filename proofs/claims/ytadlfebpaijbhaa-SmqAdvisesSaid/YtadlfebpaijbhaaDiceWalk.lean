/- Contracts of dice's picks. -/
import Derived.Test.YtadlfebpaijbhaaProg
import Derived.Test.YtadlfebpaijbhaaDicePlain
import Derived.Deep.QuietTactic
import Derived.BigQuiet
namespace Go.Proofs.Ytadlfebpaijbhaa.Dice
open Go.RowKit Go.Proofs.Ytadlfebpaijbhaa.W
set_option linter.unusedVariables false
set_option linter.unusedSimpArgs false

def SumRel (w : World) (L : List Int) (n : Nat) (k : Nat) (s7 s23 : Value) (wr : World) : Prop :=
  ∃ i : Nat, s23 = .int .i64 (i : Int) ∧ s7 = .int .i64 (isum (L.take i)) ∧ i + k = n ∧ wr = w
def PlcRel (w : World) (L : List Int) (k0 : Int) (n nq : Nat) (k : Nat) (s10 s47 : Value) (wr : World) : Prop :=
  ∃ (i : Nat) (q : Int), s47 = .int .i64 (i : Int) ∧ s10 = .int .i64 q ∧ i + k = n ∧ 0 ≤ q ∧ q < isum (L.drop i) ∧ plc k0 L = i + plc q (L.drop i) ∧ wr = w.drewN nq

set_option maxRecDepth 100000 in
set_option maxHeartbeats 2000000 in
theorem pick_any (draw : Int) (A : Option Addr) (n c : Nat) (L : List Int) (w : World) (hA : IntsAt w w.heap.size A n L) (hd : 0 ≤ draw) (hd2 : draw ≤ 9223372036854775807) (hn : n ≤ 64) (hL : ∀ x ∈ L, 0 ≤ x ∧ x ≤ 1048576) (hs : 0 < isum L) :
    Calls Try.prog 28 #[.int .i64 draw, .slice A n c] w fun e w' => e = .returned (.tuple #[.int .i64 ((plc (draw % isum L) L : Nat) : Int), .int .i64 (draw / isum L), .int .i64 0]) ∧ ∃ k, w' = w.drewN k := by
  have hlen := hA.1
  have hpos : 0 < n := by
    rcases Nat.eq_zero_or_pos n with h | h
    · subst h
      have : L = [] := List.eq_nil_of_length_eq_zero hlen
      subst this
      exact absurd hs (by decide)
    · exact h
  obtain ⟨b, off, rfl, hb, hc⟩ := hA.2 hpos
  have HC := hide hc
  have HL := hide hL
  have HN := hide hlen
  have hmax := isum_take_le L hL n
  rw [← hlen, List.take_length] at hmax
  obtain ⟨m0, m1⟩ := hmax
  have hub : isum L ≤ 67108864 := by omega
  obtain ⟨S, hS⟩ : ∃ S, S = isum L := ⟨_, rfl⟩
  rw [← hS] at hs hub ⊢
  have HS := hide hS
  have hs0 : (S == 0) = false := by simp; omega
  clear hA hc hL hlen hS m0 m1
  go_enter Try.func28, Try.ntmps28
  go_wp2_with fail
  go_loopg [7, 23] n (fun k s7 s23 wr => SumRel w L n k s7 s23 wr)
  case atStart => exact ⟨0, rfl, rfl, by omega, rfl⟩
  case round =>
    obtain ⟨i, rfl, rfl, hk, rfl⟩ := hrel
    have HK := hide hk
    by_cases hlt : i < n
    · obtain ⟨x, hx⟩ : ∃ x, L[i]? = some x := ⟨_, List.getElem?_eq_getElem (by have := HN.out; omega)⟩
      have hc := HC.out i x hx
      obtain ⟨x0, x1⟩ := HL.out x (List.mem_of_getElem? hx)
      have hst := isum_take_succ L i x hx
      have hst' := isum_take_le L HL.out i
      obtain ⟨t0, t1⟩ := hst'
      have HX := hide hst
      clear hx hst hk
      have x0' : decide (x < 0) = false := by simpa using x0
      go_wp2_with fail
      have hk := HK.out
      go_roundg (gk - 1)
      case measure => omega
      case rel => exact ⟨i + 1, by go_num, by rw [HX.out], by omega, rfl⟩
    · have hi : isum (L.take i) = S := by
        have := HN.out
        rw [HS.out, List.take_of_length_le (by omega)]
      rw [hi]
      have hge : decide (i < n) = false := by simpa using hlt
      clear hk hi hlt
      go_wp2_with fail
      go_quiet (fail)
      go_wp2_with fail
      go_loopg [10, 47] n (fun k s10 s47 wr' => PlcRel wr L (draw % S) n nq k s10 s47 wr')
      case atStart =>
        have e := HS.out
        have h0 := Int.emod_nonneg draw (show S ≠ 0 by omega)
        have h1 := Int.emod_lt_of_pos draw hs
        exact ⟨0, draw % S, rfl, rfl, by omega, h0, by rw [List.drop_zero, ← e]; exact h1, by simp, rfl⟩
      case round =>
        obtain ⟨i, q, rfl, rfl, hk, q0, q1, hp, rfl⟩ := hrel
        have HK := hide hk
        by_cases hlt : i < n
        · obtain ⟨x, hx⟩ : ∃ x, L[i]? = some x := ⟨_, List.getElem?_eq_getElem (by have := HN.out; omega)⟩
          have hc := HC.out i x hx
          obtain ⟨x0, x1⟩ := HL.out x (List.mem_of_getElem? hx)
          have hst := isum_drop L i x hx
          have hpd := plc_drop L i x q hx
          rw [hst] at q1
          by_cases hqx : q < x
          · rw [if_pos hqx] at hpd
            rw [hpd] at hp
            have HP := hide hp
            clear hx hst hk hpd hp q1
            go_wp2_with fail
            go_ret3
            rw [HP.out]
            exact ⟨rfl, nq, rfl⟩
          · rw [if_neg hqx] at hpd
            rw [hpd] at hp
            have HP := hide hp
            have q2 : 0 ≤ q - x := by omega
            have q3 : q - x < isum (L.drop (i + 1)) := by omega
            have Q := hide (And.intro q2 q3)
            have qM : q ≤ 67108864 := by
              have h1 := Int.emod_lt_of_pos draw hs
              have := isum_take_le (L.drop i) (fun y hy => HL.out y (List.mem_of_mem_drop hy)) n
              rw [List.take_of_length_le (by have := HN.out; rw [List.length_drop]; omega)] at this
              omega
            clear hx hst hk hpd hp q1
            go_wp2_with fail
            have hk := HK.out
            go_roundg (gk - 1)
            case measure => omega
            case rel => exact ⟨i + 1, q - x, by go_num, rfl, by omega, Q.out.1, Q.out.2, by rw [HP.out]; omega, rfl⟩
        · exfalso
          rw [List.drop_of_length_le (by have := HN.out; omega)] at q1
          simp only [isum] at q1
          omega
end Go.Proofs.Ytadlfebpaijbhaa.Dice
