/- Has a group's four counts a beat? -/
import Derived.Test.YtadlfebpaijbhaaPhaseBeat
import Derived.Test.YtadlfebpaijbhaaSmqPlain
namespace Go.Proofs.Ytadlfebpaijbhaa.Ph
open Go.RowKit Go.Proofs.Ytadlfebpaijbhaa.W Go.Proofs.Ytadlfebpaijbhaa.Fl
set_option linter.unusedVariables false
set_option linter.unusedSimpArgs false

theorem bestN_cases (f : Nat → Int) : ∀ m, (bestN f m = (0, 0) ∧ ∀ k, 1 ≤ k → k ≤ m → f k ≤ 0) ∨ (0 < (bestN f m).1 ∧ 1 ≤ (bestN f m).2 ∧ (bestN f m).2 ≤ m ∧ f (bestN f m).2 = (bestN f m).1)
  | 0 => .inl ⟨rfl, fun k h1 h2 => absurd h1 (by omega)⟩
  | m + 1 => by
    have ih := bestN_cases f m
    by_cases h : (bestN f m).1 < f (m + 1)
    · have e : bestN f (m + 1) = (f (m + 1), m + 1) := if_pos h
      refine .inr ?_
      rw [e]
      have h0 : 0 ≤ (bestN f m).1 := by
        rcases ih with ⟨h1, _⟩ | ⟨h1, _⟩
        · rw [h1]; exact Int.le_refl _
        · exact Int.le_of_lt h1
      exact ⟨Int.lt_of_le_of_lt h0 h, by show 1 ≤ m + 1; omega, by show m + 1 ≤ m + 1; omega, rfl⟩
    · have e : bestN f (m + 1) = bestN f m := if_neg h
      rw [e]
      rcases ih with ⟨h1, h2⟩ | ⟨h1, h2, h3, h4⟩
      · refine .inl ⟨h1, fun k k1 k2 => ?_⟩
        by_cases hk : k = m + 1
        · subst hk
          rw [h1] at h
          exact Int.not_lt.1 h
        · exact h2 k k1 (by omega)
      · exact .inr ⟨h1, h2, by omega, h4⟩
theorem sq_zero {x : Int} (h : x * x ≤ 0) : x = 0 := by
  rcases Int.lt_trichotomy x 0 with h1 | h1 | h1
  · have := Int.mul_pos_of_neg_of_neg h1 h1
    omega
  · exact h1
  · have := Int.mul_pos h1 h1
    omega
theorem sq_nonneg (x : Int) : 0 ≤ x * x := by
  rcases Int.lt_trichotomy x 0 with h1 | h1 | h1
  · exact Int.le_of_lt (Int.mul_pos_of_neg_of_neg h1 h1)
  · rw [h1]; decide
  · exact Int.le_of_lt (Int.mul_pos h1 h1)
theorem sqI_zero {n : Nat → Int} {k : Nat} (h : sqI n k ≤ 0) : specR n k = 0 ∧ specI n k = 0 := by
  unfold sqI at h
  have h1 := sq_nonneg (specR n k)
  have h2 := sq_nonneg (specI n k)
  exact ⟨sq_zero (by omega), sq_zero (by omega)⟩
theorem beats_no {n : Nat → Int} (h : ∀ k, 1 ≤ k → k ≤ 3 → specR n k = 0 ∧ specI n k = 0) : Lv.beats n = false := by
  have h1 := h 1 (by omega) (by omega)
  have h2 := h 2 (by omega) (by omega)
  have e1 : n 0 - n 2 = 0 := h1.1
  have e2 : n 3 - n 1 = 0 := h1.2
  have e3 : n 0 - n 1 + n 2 - n 3 = 0 := h2.1
  unfold Lv.beats
  have a1 : n 0 = n 2 := by omega
  have a2 : n 1 = n 3 := by omega
  have a3 : n 0 = n 1 := by omega
  simp [a1, a2, a3]
  omega
theorem beats_yes {n : Nat → Int} {k : Nat} (h1 : 1 ≤ k) (h3 : k ≤ 3) (h : ¬ (specR n k = 0 ∧ specI n k = 0)) : Lv.beats n = true := by
  cases hb : Lv.beats n with
  | true => rfl
  | false =>
    exfalso
    apply h
    unfold Lv.beats at hb
    simp at hb
    obtain ⟨⟨a1, a2⟩, a3⟩ := hb
    have hk : k = 1 ∨ k = 2 ∨ k = 3 := by omega
    rcases hk with rfl | rfl | rfl
    · exact ⟨by show n 0 - n 2 = 0; omega, by show n 3 - n 1 = 0; omega⟩
    · exact ⟨by show n 0 - n 1 + n 2 - n 3 = 0; omega, rfl⟩
    · exact ⟨by show n 0 - n 2 = 0; omega, by show n 1 - n 3 = 0; omega⟩
theorem ne_bit {a : Nat} {x : Int} (ha : V a x) {c : Bool} (h : (x == 0) = c) : (FloatKind.f64.format.order a 0 != some .eq) = !c := by
  have := V_eq ha V_zero
  rw [h] at this
  show (!(FloatKind.f64.format.order a 0 == some .eq)) = !c
  exact congrArg _ this
set_option maxRecDepth 100000 in
set_option maxHeartbeats 2000000 in
theorem regular_any {n : Nat → Int} (h : allC n = true) (w : World) : Calls Try.prog 54 #[.agg (row 4 (i64f n))] w fun e w' => e = .returned (.bool (Lv.beats n)) ∧ Below w.heap.size w w' := by
  have hz := zero_cplx4
  have HBt := hide (fun W => beat_yes h W)
  have HSp := hide (fun W => spectrum_yes h W)
  have HC := hide (allC_yes h)
  have hcs := bestN_cases (sqI n) 3
  obtain ⟨p, hp⟩ : ∃ p, (bestN (sqI n) 3).2 = p := ⟨_, rfl⟩
  rw [hp] at HBt
  have HCs : Hid ((p = 0 ∧ Lv.beats n = false) ∨ (1 ≤ p ∧ p ≤ 3 ∧ ¬ (specR n p = 0 ∧ specI n p = 0) ∧ Lv.beats n = true)) := hide (by
    rcases hcs with ⟨h1, h2⟩ | ⟨h1, h2, h3, h4⟩
    · refine .inl ⟨by rw [← hp, h1], beats_no (fun k k1 k3 => sqI_zero (h2 k k1 k3))⟩
    · rw [hp] at h2 h3 h4
      have hne : ¬ (specR n p = 0 ∧ specI n p = 0) := fun hh => by
        have h0 : sqI n p = 0 := by
          unfold sqI
          rw [hh.1, hh.2]
          rfl
        omega
      exact .inr ⟨h2, h3, hne, beats_yes h2 h3 hne⟩)
  clear h hcs hp
  have hp3 : p < 4 := by rcases HCs.out with ⟨h, _⟩ | ⟨_, h, _⟩ <;> omega
  go_enter Try.func54, Try.ntmps54
  go_upto_region 3 with (first
    | (with_reducible refine wpList_load_all rfl 49 (.tmp 1) rfl w.heap.size rfl 49 4 _ _ (Blk.newAt w _ _ _ rfl) rfl Try.underlying49 info_i4 ?_)
    | (go_at_call 56; (with_reducible refine (HBt.out _).mono ?_); rintro e w1 ⟨rfl, hb⟩; have HB1 := hide (((Below.refl w.heap.size w).alloc (Nat.le_refl _) (.cells (row 4 (i64f n)) 49)).trans (hb.mono (by simp))); have HK1 := hide (W.later hb (Blk.newAt w 49 (row 4 (i64f n)) _ rfl)); clear hb)
    | (with_reducible refine wpList_load_all rfl 49 (.tmp 1) rfl w.heap.size rfl 49 4 _ _ HK1.out rfl Try.underlying49 info_i4 ?_)
    | (go_at_call 57; (with_reducible refine (HSp.out _).mono ?_); rintro e w2 ⟨hb, x, hx, rfl⟩; have HB2 := hide (HB1.out.trans (hb.mono HB1.out.size)); have HX := hide hx; clear hb hx)
    | (with_reducible refine wpList_store_all rfl 81 (.tmp 5) (.tmp 16) rfl w2.heap.size rfl 81 4 _ _ rfl (Blk.newAt w2 _ _ _ rfl) info_c4 (fun j _ => cpx_one _ j) ?_))
  have hk0 : Blk ((w2.alloc (.cells (row 4 (cpx fun _ => (0, 0))) 81)).setRow w2.heap.size (row 4 (cpx x))) w2.heap.size 81 (row 4 (cpx x)) := (Blk.newAt w2 _ _ _ rfl).row_ _
  have hkb : Below w.heap.size w ((w2.alloc (.cells (row 4 (cpx fun _ => (0, 0))) 81)).setRow w2.heap.size (row 4 (cpx x))) := below_setRow (HB2.out.alloc HB2.out.size _) HB2.out.size _
  generalize (w2.alloc (.cells (row 4 (cpx fun _ => (0, 0))) 81)).setRow w2.heap.size (row 4 (cpx x)) = W3 at hk0 hkb ⊢
  have cx := hk0.at hp3
  unfold cpx at cx
  have gl := hk0.lt
  have HKB := hide hkb
  have vs := V_spec HC.out hp3 (HX.out p hp3)
  have hp4 : (p : Int) < 4 := by omega
  clear hk0 hkb HK1 HB1 HB2
  rcases HCs.out with ⟨h0, hb⟩ | ⟨h1, h3, hne, hb⟩
  · have HBb := hide hb
    subst h0
    clear hb vs
    go_wp2_with fail
    go_ret
    exact ⟨by rw [HBb.out]; rfl, HKB.out⟩
  · have HBb := hide hb
    have p0 : (0 : Int) < (p : Int) := by omega
    by_cases hr : specR n p = 0
    · have hi : specI n p ≠ 0 := fun h => hne ⟨hr, h⟩
      have f1 := ne_bit vs.1 (c := true) (by simpa using hr)
      have f2 := ne_bit vs.2 (c := false) (by simpa using hi)
      clear hb vs hne hr hi h1 h3
      simp only [Bool.not_true, Bool.not_false] at f1 f2
      go_wp2_with fail
      go_ret
      exact ⟨by rw [HBb.out]; rfl, HKB.out⟩
    · have f1 := ne_bit vs.1 (c := false) (by simpa using hr)
      clear hb vs hne hr h1 h3
      simp only [Bool.not_false] at f1
      go_wp2_with fail
      go_ret
      exact ⟨by rw [HBb.out]; rfl, HKB.out⟩
end Go.Proofs.Ytadlfebpaijbhaa.Ph
