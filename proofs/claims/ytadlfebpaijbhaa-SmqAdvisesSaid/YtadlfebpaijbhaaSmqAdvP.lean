/- What the law of advice says of weights and places. -/
import Derived.Test.YtadlfebpaijbhaaSmqDoes
import Derived.Test.YtadlfebpaijbhaaSmqRDem
namespace Go.Proofs.Ytadlfebpaijbhaa.Lv
open Go.RowKit Go.Proofs.Ytadlfebpaijbhaa.W Go.Proofs.Ytadlfebpaijbhaa.Dice
set_option linter.unusedVariables false
set_option linter.unusedSimpArgs false

theorem plc_at : ∀ (W : List Int) (k : Int), (∀ x ∈ W, 0 ≤ x) → 0 ≤ k → k < isum W → plc k W < W.length ∧ isum (W.take (plc k W)) ≤ k ∧ k < isum (W.take (plc k W + 1))
  | [], k, _, h0, h1 => by simp [isum] at h1; omega
  | x :: l, k, h, h0, h1 => by
    have hx := h x (List.mem_cons_self ..)
    unfold plc
    split
    · rename_i hk
      refine ⟨by simp, ?_, ?_⟩
      · simpa [isum] using h0
      · simpa [isum] using hk
    · rename_i hk
      simp only [isum] at h1
      have ih := plc_at l (k - x) (fun y hy => h y (List.mem_cons_of_mem _ hy)) (by omega) (by omega)
      refine ⟨by have := ih.1; simp; omega, ?_, ?_⟩
      · have := ih.2.1
        simp only [List.take_succ_cons, isum]
        omega
      · have := ih.2.2
        simp only [List.take_succ_cons, isum]
        omega
/-- The place that a draw picks: not cached, of weight above 0. -/
structure Adv (C : Nat → Bool) (L : List Int) (draw N q : Int) (g : Nat) (x : Int) : Prop where
  d0 : 0 ≤ draw
  n0 : 0 < N
  nle : N ≤ 16777216
  qe : draw % N = q
  qt : Int.tmod draw N = q
  qlt : q < N
  q0 : 0 ≤ q
  pe : plc q L = g
  gl : g < 16
  ce : C g = false
  xe : L[g]? = some x
  x0 : 0 < x
theorem advice (R : Nat → List Nat) (C : Nat → Bool) (L : List Int) (draw N : Int) (hL : wts R C 16 = L) (hN : isum L = N) :
    (∃ q g x, Adv C L draw N q g x) ∨ draw < 0 ∨ (0 ≤ draw ∧ N = 0) := by
  have hle := wts_le R C 16
  have hlen := wts_len R C 16
  have h0 := (isum_take_le _ hle 16).1
  have h1 := (isum_take_le _ hle 16).2
  rw [List.take_of_length_le (by rw [hlen]; omega)] at h0 h1
  rw [hL] at hle hlen h0 h1
  rw [hN] at h0 h1
  by_cases hd : draw < 0
  · exact .inr (.inl hd)
  by_cases hn : N = 0
  · exact .inr (.inr ⟨by omega, hn⟩)
  left
  have hn0 : 0 < N := by omega
  have q0 := Int.emod_nonneg draw hn
  have q1 := Int.emod_lt_of_pos draw hn0
  obtain ⟨p1, p2, p3⟩ := plc_at L (draw % N) (fun x hx => (hle x hx).1) q0 (by rw [hN]; exact q1)
  rw [hlen] at p1
  have hg := wts_get R C (plc (draw % N) L) 16 p1
  rw [hL] at hg
  have hs := isum_take_succ L _ _ hg
  have hx : 0 < wt R C (plc (draw % N) L) := by omega
  refine ⟨draw % N, plc (draw % N) L, _, by omega, hn0, by omega, rfl, Int.tmod_eq_emod_of_nonneg (by omega), q1, q0, rfl, p1, ?_, hg, hx⟩
  unfold wt at hx
  split at hx
  · omega
  · rename_i h
    simpa using h
theorem promote_yes (gp gq gh : Nat) (s : Sm) (C : Nat → Bool) (draw : Int) (hd : draw ≤ 9223372036854775807) (L : List Int) (N q x : Int) (g : Nat) (hL : wts s.H C 16 = L) (hN : isum L = N) (ha : Adv C L draw N q g x) (w : World) (h : PA w gp gq gh s) :
    Calls Try.prog 12 #[.pointer (some ⟨gp, 0, none⟩), .agg (row 16 fun i => .bool (C i)), .int .i64 draw] w fun e w' => e = .returned (.tuple #[.int .i64 (g : Int), .bool true]) ∧ Below w.heap.size w w' := by
  have := promote_any gp gq gh s C draw hd w h
  rw [hL] at this
  have h1 : proG L draw = (g : Int) := by
    unfold proG
    rw [hN, if_pos ⟨ha.d0, ha.n0⟩, ha.qe, ha.pe]
  have h2 : proB L draw = true := by
    unfold proB
    rw [hN]
    exact decide_eq_true ⟨ha.d0, ha.n0⟩
  rwa [h1, h2] at this
theorem promote_no (gp gq gh : Nat) (s : Sm) (C : Nat → Bool) (draw : Int) (hd : draw ≤ 9223372036854775807) (L : List Int) (N : Int) (hL : wts s.H C 16 = L) (hN : isum L = N) (ha : draw < 0 ∨ (0 ≤ draw ∧ N = 0)) (w : World) (h : PA w gp gq gh s) :
    Calls Try.prog 12 #[.pointer (some ⟨gp, 0, none⟩), .agg (row 16 fun i => .bool (C i)), .int .i64 draw] w fun e w' => e = .returned (.tuple #[.int .i64 0, .bool false]) ∧ Below w.heap.size w w' := by
  have := promote_any gp gq gh s C draw hd w h
  rw [hL] at this
  have hn : ¬ (0 ≤ draw ∧ 0 < N) := by omega
  have h1 : proG L draw = 0 := by
    unfold proG
    rw [hN, if_neg hn]
  have h2 : proB L draw = false := by
    unfold proB
    rw [hN]
    exact decide_eq_false hn
  rwa [h1, h2] at this
theorem weights_at (gx ga gb : Nat) (s : Sm) (C : Nat → Bool) (L : List Int) (hL : wts s.H C 16 = L) (w : World) (h : XA w gx ga gb s) :
    Calls Try.prog 14 #[.pointer (some ⟨gx, 0, none⟩), .agg (row 16 fun i => .bool (C i))] w fun e w' => ∃ b off c, e = .returned (.slice (some ⟨b, off, none⟩) 16 c) ∧ IntsAt w' w'.heap.size (some ⟨b, off, none⟩) 16 L ∧ Below w.heap.size w w' := by
  refine (weights_any gx ga gb s C w h).mono ?_
  rintro e w' ⟨A, c, rfl, hI, hb⟩
  rw [hL] at hI
  obtain ⟨b, off, rfl, _⟩ := hI.2 (by omega)
  exact ⟨b, off, c, rfl, hI, hb⟩
theorem rsum_at (A : Option Addr) (c : Nat) (L : List Int) (N : Int) (hN : isum L = N) (hL : ∀ x ∈ L, 0 ≤ x ∧ x ≤ 1048576) (w : World) (hA : IntsAt w w.heap.size A 16 L) :
    Calls Try.prog 15 #[.slice A 16 c] w fun e w' => e = .returned (.int .i64 N) ∧ Below w.heap.size w w' := by
  refine (rsum_any A 16 c L w hA (by omega) (by omega) hL).mono ?_
  rintro e w' ⟨rfl, d, rfl⟩
  exact ⟨by rw [hN], below_drewN (Below.refl _ w) d⟩
theorem rplace_at (A : Option Addr) (c : Nat) (L : List Int) (N q : Int) (g : Nat) (hN : isum L = N) (hL : ∀ x ∈ L, 0 ≤ x ∧ x ≤ 1048576) (hq : q < N) (hg : plc q L = g) (w : World) (hA : IntsAt w w.heap.size A 16 L) :
    Calls Try.prog 16 #[.int .i64 q, .slice A 16 c] w fun e w' => e = .returned (.int .i64 (g : Int)) ∧ Below w.heap.size w w' := by
  refine (rplace_any q A 16 c L w hA (by omega) (by omega) hL (by rw [hN]; exact hq)).mono ?_
  rintro e w' ⟨rfl, d, rfl⟩
  exact ⟨by rw [hg], below_drewN (Below.refl _ w) d⟩
theorem ints_cell {w : World} {b off : Nat} {L : List Int} {g : Nat} {x : Int} (h : IntsAt w w.heap.size (some ⟨b, off, none⟩) 16 L) (hx : L[g]? = some x) : w.cell? ⟨b, off + g, none⟩ = some (.int .i64 x) := by
  obtain ⟨b', off', e, _, hc⟩ := h.2 (by omega)
  injection e with e
  injection e with e1 e2
  subst e1 e2
  exact hc g x hx
end Go.Proofs.Ytadlfebpaijbhaa.Lv
