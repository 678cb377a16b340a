/- Picks that fail; the document's sums and places. -/
import Derived.Test.YtadlfebpaijbhaaDiceWalk
namespace Go.Proofs.Ytadlfebpaijbhaa.Dice
open Go.RowKit Go.Proofs.Ytadlfebpaijbhaa.W
set_option linter.unusedVariables false
set_option linter.unusedSimpArgs false

theorem pick_neg (draw : Int) (A : Option Addr) (n c : Nat) (w : World) (hd : draw < 0) :
    Calls Try.prog 28 #[.int .i64 draw, .slice A n c] w fun e w' => e = .returned (.tuple #[.int .i64 0, .int .i64 0, .int .i64 3]) ∧ w' = w := by
  have h' : decide (draw < 0) = true := by simpa using hd
  go_enter Try.func28, Try.ntmps28
  go_wp2
  go_ret3
  exact ⟨rfl, rfl⟩
set_option maxRecDepth 100000 in
theorem pick_zero (draw : Int) (A : Option Addr) (n c : Nat) (L : List Int) (w : World) (hA : IntsAt w w.heap.size A n L) (hd : 0 ≤ draw) (hn : n ≤ 64) (h0n : 0 < n) (hL : ∀ x ∈ L, 0 ≤ x ∧ x ≤ 1048576) (hs : isum L = 0) :
    Calls Try.prog 28 #[.int .i64 draw, .slice A n c] w fun e w' => e = .returned (.tuple #[.int .i64 0, .int .i64 0, .int .i64 7]) ∧ w' = w := by
  have hlen := hA.1
  obtain ⟨b, off, rfl, hb, hc⟩ := hA.2 h0n
  have HC := hide hc
  have HL := hide hL
  have HN := hide hlen
  have HS := hide hs
  have hd' : decide (draw < 0) = false := by simpa using hd
  clear hA hc hL hlen hs
  go_enter Try.func28, Try.ntmps28
  go_wp2_with fail
  go_loopg [7, 23] n (fun k s7 s23 wr => SumRel w L n k s7 s23 wr)
  case atStart => exact ⟨0, rfl, rfl, by omega, rfl⟩
  case round =>
    obtain ⟨i, rfl, rfl, hk, rfl⟩ := hrel
    have HK := hide hk
    by_cases hlt : i < n
    · obtain ⟨x, hx⟩ : ∃ x, L[i]? = some x := ⟨_, List.getElem?_eq_getElem (by have := HN.out; omega)⟩
      have hc := HC.out i x hx
      obtain ⟨x0, x1⟩ := HL.out x (List.mem_of_getElem? hx)
      have hst := isum_take_succ L i x hx
      have hst' := isum_take_le L HL.out i
      obtain ⟨t0, t1⟩ := hst'
      have HX := hide hst
      clear hx hst hk
      have x0' : decide (x < 0) = false := by simpa using x0
      go_wp2_with fail
      have hk := HK.out
      go_roundg (gk - 1)
      case measure => omega
      case rel => exact ⟨i + 1, by go_num, by rw [HX.out], by omega, rfl⟩
    · have hi : isum (L.take i) = 0 := by
        have := HN.out
        rw [List.take_of_length_le (by omega)]
        exact HS.out
      rw [hi]
      have hge : decide (i < n) = false := by simpa using hlt
      clear hk hi hlt
      go_wp2_with fail
      go_ret3
      exact ⟨rfl, rfl⟩
def RSumRel (w : World) (L : List Int) (n : Nat) (k : Nat) (s3 s4 : Value) (wr : World) : Prop :=
  ∃ i : Nat, s4 = .int .i64 (i : Int) ∧ s3 = .int .i64 (isum (L.take i)) ∧ i + k = n ∧ ∃ d, wr = w.drewN d
set_option maxRecDepth 100000 in
theorem rsum_any (A : Option Addr) (n c : Nat) (L : List Int) (w : World) (hA : IntsAt w w.heap.size A n L) (hn : n ≤ 64) (h0n : 0 < n) (hL : ∀ x ∈ L, 0 ≤ x ∧ x ≤ 1048576) :
    Calls Try.prog 15 #[.slice A n c] w fun e w' => e = .returned (.int .i64 (isum L)) ∧ ∃ d, w' = w.drewN d := by
  have hlen := hA.1
  obtain ⟨b, off, rfl, hb, hc⟩ := hA.2 h0n
  have HC := hide hc
  have HL := hide hL
  have HN := hide hlen
  clear hA hc hL hlen
  go_enter Try.func15, Try.ntmps15
  go_wp2_with fail
  go_loopg [3, 4] n (fun k s3 s4 wr => RSumRel w L n k s3 s4 wr)
  case atStart => exact ⟨0, rfl, rfl, by omega, 0, rfl⟩
  case round =>
    obtain ⟨i, rfl, rfl, hk, d, rfl⟩ := hrel
    have HK := hide hk
    by_cases hlt : i < n
    · have i0 : (i : Int) < (n : Int) := by omega
      obtain ⟨x, hx⟩ : ∃ x, L[i]? = some x := ⟨_, List.getElem?_eq_getElem (by have := HN.out; omega)⟩
      have hc : (w.drewN d).cell? ⟨b, off + i, none⟩ = some (.int .i64 x) := HC.out i x hx
      obtain ⟨x0, x1⟩ := HL.out x (List.mem_of_getElem? hx)
      have hst := isum_take_succ L i x hx
      have hst' := isum_take_le L HL.out i
      obtain ⟨t0, t1⟩ := hst'
      have HX := hide hst
      clear hx hst hk
      have x0' : decide (x < 0) = false := by simpa using x0
      have x1' : decide (1048576 < x) = false := by simpa using x1
      go_wp2_with fail
      have hk := HK.out
      go_roundg (gk - 1)
      case measure => omega
      case rel => exact ⟨i + 1, by go_num, by rw [HX.out], by omega, d, rfl⟩
    · have hi : isum (L.take i) = isum L := by
        have := HN.out
        rw [List.take_of_length_le (by omega)]
      rw [hi]
      have hge : decide (i < n) = false := by simpa using hlt
      clear hk hi hlt
      go_wp2_with fail
      go_ret
      exact ⟨rfl, d, rfl⟩
theorem plc_take : ∀ (L : List Int) (k : Int) (i : Nat), (∀ j, j < i → isum (L.take (j + 1)) ≤ k) → plc k L = plc (k - isum (L.take i)) (L.drop i) + min i L.length
  | [], k, i, h => by simp [plc]
  | x :: l, k, 0, h => by simp [isum]
  | x :: l, k, i + 1, h => by
    have h0 := h 0 (by omega)
    simp [isum] at h0
    have ih := plc_take l (k - x) i (fun j hj => by
      have := h (j + 1) (by omega)
      simp only [List.take_succ_cons, isum] at this ⊢
      omega)
    simp only [plc, List.take_succ_cons, isum, List.drop_succ_cons, List.length_cons]
    rw [if_neg (by omega), ih, show k - x - isum (l.take i) = k - (x + isum (l.take i)) by omega]
    omega
def RPlRel (w : World) (L : List Int) (q : Int) (n : Nat) (k : Nat) (s5 s6 : Value) (wr : World) : Prop :=
  ∃ i : Nat, s6 = .int .i64 (i : Int) ∧ s5 = .int .i64 (isum (L.take i)) ∧ i + k = n ∧ (∀ j, j < i → isum (L.take (j + 1)) ≤ q) ∧ ∃ d, wr = w.drewN d
set_option maxRecDepth 100000 in
theorem rplace_any (q : Int) (A : Option Addr) (n c : Nat) (L : List Int) (w : World) (hA : IntsAt w w.heap.size A n L) (hn : n ≤ 64) (h0n : 0 < n) (hL : ∀ x ∈ L, 0 ≤ x ∧ x ≤ 1048576) (hq : q < isum L) :
    Calls Try.prog 16 #[.int .i64 q, .slice A n c] w fun e w' => e = .returned (.int .i64 ((plc q L : Nat) : Int)) ∧ ∃ d, w' = w.drewN d := by
  have hlen := hA.1
  obtain ⟨b, off, rfl, hb, hc⟩ := hA.2 h0n
  have HC := hide hc
  have HL := hide hL
  have HN := hide hlen
  have HQ := hide hq
  clear hA hc hL hlen hq
  go_enter Try.func16, Try.ntmps16
  go_wp2_with fail
  go_loopg [5, 6] n (fun k s5 s6 wr => RPlRel w L q n k s5 s6 wr)
  case atStart => exact ⟨0, rfl, rfl, by omega, fun j hj => absurd hj (by omega), 0, rfl⟩
  case round =>
    obtain ⟨i, rfl, rfl, hk, hpr, d, rfl⟩ := hrel
    have HK := hide hk
    by_cases hlt : i < n
    · have i0 : (i : Int) < (n : Int) := by omega
      obtain ⟨x, hx⟩ : ∃ x, L[i]? = some x := ⟨_, List.getElem?_eq_getElem (by have := HN.out; omega)⟩
      have hc : (w.drewN d).cell? ⟨b, off + i, none⟩ = some (.int .i64 x) := HC.out i x hx
      obtain ⟨x0, x1⟩ := HL.out x (List.mem_of_getElem? hx)
      have hst := isum_take_succ L i x hx
      obtain ⟨t0, t1⟩ := isum_take_le L HL.out i
      have HX := hide hst
      have hpd := plc_drop L i x (q - isum (L.take i)) hx
      have hpt := plc_take L q i hpr
      have e : IntKind.i64.wrap (isum (L.take i) + x) = isum (L.take i) + x := IntWalk.i64_in _ (by omega)
      obtain ⟨T, hT⟩ : ∃ T, isum (L.take i) = T := ⟨_, rfl⟩
      rw [hT] at hst hpd hpt e ⊢
      by_cases hqx : q < T + x
      · rw [if_pos (by omega)] at hpd
        rw [hpd] at hpt
        have hmin : min i L.length = i := by have := HN.out; omega
        rw [hmin] at hpt
        have HP : Hid (plc q L = i) := hide (by omega)
        clear hx hst hk hpd hpt hpr hT hmin t0 t1
        go_wp2_with fail
        go_ret
        rw [HP.out]
        exact ⟨rfl, d, rfl⟩
      · have hq0 : decide (q < T + x) = false := by simpa using hqx
        have HPr : Hid (∀ j, j < i + 1 → isum (L.take (j + 1)) ≤ q) := hide (fun j hj => by
          rcases Nat.lt_or_ge j i with h | h
          · exact hpr j h
          · rw [show j = i by omega, HX.out, hT]
            omega)
        have HT2 : Hid (T + x = isum (L.take (i + 1))) := hide (by rw [HX.out, hT])
        clear hx hst hk hpd hpt hpr hT t0 t1 hqx
        go_wp2_with fail
        have hk := HK.out
        go_roundg (gk - 1)
        case measure => omega
        case rel => exact ⟨i + 1, by go_num, by rw [HT2.out], by omega, HPr.out, d, rfl⟩
    · exfalso
      have h1 := HN.out
      have h2 := HQ.out
      rcases Nat.eq_zero_or_pos i with h3 | h3
      · omega
      · have h4 := hpr (i - 1) (by omega)
        rw [show i - 1 + 1 = i by omega, List.take_of_length_le (by omega)] at h4
        omega
end Go.Proofs.Ytadlfebpaijbhaa.Dice
