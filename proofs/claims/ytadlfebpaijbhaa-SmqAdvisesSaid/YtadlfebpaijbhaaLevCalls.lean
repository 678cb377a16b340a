/- Add, Remove, Move, Touch: walked. -/
import Derived.Test.YtadlfebpaijbhaaLevAny
namespace Go.Proofs.Ytadlfebpaijbhaa.Lv
open Go.RowKit Go.Proofs.Ytadlfebpaijbhaa.W
set_option linter.unusedVariables false
set_option linter.unusedSimpArgs false

/-- What a call that answers a number leaves. -/
def AE (g n : Nat) (R : Nat → List Nat) (c : Int) (w : World) (e : Ending) (w' : World) : Prop := e = .returned (.int .i64 c) ∧ QAt w' g n R ∧ Chg (one g) w w'
theorem AE.same {g n : Nat} {R : Nat → List Nat} {c : Int} {w : World} (h : QAt w g n R) : AE g n R c w (.returned (.int .i64 c)) w := ⟨rfl, h, Chg.refl _ _⟩
theorem add_nil (i l : Int) (w : World) : Calls Try.prog 33 #[.pointer none, .int .i64 i, .int .i64 l] w fun e w' => e = .returned (.int .i64 1) ∧ w' = w := by
  go_enter Try.func33, Try.ntmps33
  go_wp2_with (first | (go_at_call 49; (with_reducible refine (may_nil _ _).mono ?_); rintro e wx ⟨rfl, hw⟩; subst wx))
  go_ret
  exact ⟨rfl, rfl⟩
theorem add_out (g n : Nat) (R : Nat → List Nat) (i l : Int) (hi : i < 0 ∨ (n : Int) ≤ i) (w : World) (hq : QAt w g n R) : Calls Try.prog 33 #[.pointer (some ⟨g, 0, none⟩), .int .i64 i, .int .i64 l] w (AE g n R 3 w) := by
  have HI := hide hi
  have HQ := hide hq
  clear hi hq
  go_enter Try.func33, Try.ntmps33
  go_wp2_with (first | (go_at_call 49; (with_reducible refine (may_out _ _ _ _ HI.out _ HQ.out).mono ?_); rintro e wx ⟨rfl, hw⟩; subst wx))
  go_ret
  exact AE.same HQ.out
theorem add_lev (g n : Nat) (R : Nat → List Nat) (i : Nat) (l : Int) (hi : i < n) (hl : l < 0 ∨ 4 ≤ l) (w : World) (hq : QAt w g n R) : Calls Try.prog 33 #[.pointer (some ⟨g, 0, none⟩), .int .i64 (i : Int), .int .i64 l] w (AE g n R 3 w) := by
  have HI := hide hi
  have HQ := hide hq
  clear hi hq
  by_cases h0 : l < 0
  · have h1 : decide (l < 0) = true := by simpa using h0
    clear hl h0
    go_enter Try.func33, Try.ntmps33
    go_wp2_with (first | (go_at_call 49; (with_reducible refine (may_in _ _ _ _ HI.out _ HQ.out).mono ?_); rintro e wx ⟨rfl, hw⟩; subst wx))
    go_ret
    exact AE.same HQ.out
  · have h1 : decide (l < 0) = false := by simpa using h0
    have h2 : decide ((4 : Int) ≤ l) = true := by simp; omega
    clear hl h0
    go_enter Try.func33, Try.ntmps33
    go_wp2_with (first | (go_at_call 49; (with_reducible refine (may_in _ _ _ _ HI.out _ HQ.out).mono ?_); rintro e wx ⟨rfl, hw⟩; subst wx))
    go_ret
    exact AE.same HQ.out
theorem add_exist (g n : Nat) (R : Nat → List Nat) (i l : Nat) (hi : i < n) (hl : l < 4) (hw : wh R i < 4) (w : World) (hq : QAt w g n R) : Calls Try.prog 33 #[.pointer (some ⟨g, 0, none⟩), .int .i64 (i : Int), .int .i64 (l : Int)] w (AE g n R 8 w) := by
  have HI := hide hi
  have HQ := hide hq
  obtain ⟨F, hF, hR⟩ := hq
  have h16 := hR.n16
  have c0 := hF.at (i := 1 + i) (by omega)
  rw [hR.on_wh hi, if_pos hw] at c0
  have gl := hF.lt
  obtain ⟨k, hk⟩ : ∃ k, wh R i = k := ⟨_, rfl⟩
  rw [hk] at c0
  have i16 : (i : Int) < 16 := by omega
  have t1 : ((k : Int) != -1) = true := by simp
  have t2 : decide ((l : Int) < 0) = false := by simp
  have t3 : decide ((4 : Int) ≤ (l : Int)) = false := by simp; omega
  have t4 : decide (4 ≤ l) = false := by simp; omega
  clear hF hR hi hl hw hk
  go_enter Try.func33, Try.ntmps33
  go_wp2_with (first | (go_at_call 49; (with_reducible refine (may_in _ _ _ _ HI.out _ HQ.out).mono ?_); rintro e wx ⟨rfl, hw⟩; subst wx))
  go_ret
  exact AE.same HQ.out
theorem QAt.as_rem {w : World} {g n i : Nat} {R : Nat → List Nat} (h : QAt w g n R) (hw : wh R i = 4) : QAt w g n (rem R i) := h.congr (rem_none (wh_none hw))
theorem add_ok (g n : Nat) (R : Nat → List Nat) (i l : Nat) (hi : i < n) (hl : l < 4) (hw : wh R i = 4) (w : World) (hq : QAt w g n R) : Calls Try.prog 33 #[.pointer (some ⟨g, 0, none⟩), .int .i64 (i : Int), .int .i64 (l : Int)] w (AE g n (putR R i l) 0 w) := by
  have HI := hide hi
  have HL := hide hl
  have HQ := hide hq
  have HP := hide (hq.as_rem hw)
  obtain ⟨F, hF, hR⟩ := hq
  have h16 := hR.n16
  have c0 := hF.at (i := 1 + i) (by omega)
  rw [hR.on_wh hi, if_neg (by omega)] at c0
  have gl := hF.lt
  have i16 : (i : Int) < 16 := by omega
  have t1 : ((-1 : Int) != -1) = false := rfl
  have t2 : decide ((l : Int) < 0) = false := by simp
  have t3 : decide ((4 : Int) ≤ (l : Int)) = false := by simp; omega
  have t4 : decide (4 ≤ l) = false := by simp; omega
  clear hF hR hi hl hw
  go_enter Try.func33, Try.ntmps33
  go_wp2_with (first
    | (go_at_call 49; (with_reducible refine (may_in _ _ _ _ HI.out _ HQ.out).mono ?_); rintro e wx ⟨rfl, hw⟩; subst wx)
    | (go_at_call 50; (with_reducible refine (put_rem _ _ _ _ _ HI.out HL.out _ HP.out).mono ?_); rintro e w1 ⟨rfl, h1, h2⟩; have H1 := hide h1; have H2 := hide h2; clear h1 h2))
  go_ret
  exact ⟨rfl, H1.out, H2.out⟩
theorem remove_nil (i : Int) (w : World) : Calls Try.prog 51 #[.pointer none, .int .i64 i] w fun e w' => e = .returned (.int .i64 1) ∧ w' = w := by
  go_enter Try.func51, Try.ntmps51
  go_wp2_with (first | (go_at_call 45; (with_reducible refine (in_nil _ _).mono ?_); rintro e wx ⟨rfl, hw⟩; subst wx))
  go_ret
  exact ⟨rfl, rfl⟩
theorem remove_out (g n : Nat) (R : Nat → List Nat) (i : Int) (hi : i < 0 ∨ (n : Int) ≤ i) (w : World) (hq : QAt w g n R) : Calls Try.prog 51 #[.pointer (some ⟨g, 0, none⟩), .int .i64 i] w (AE g n R 3 w) := by
  have HI := hide hi
  have HQ := hide hq
  clear hi hq
  go_enter Try.func51, Try.ntmps51
  go_wp2_with (first | (go_at_call 45; (with_reducible refine (in_out _ _ _ _ HI.out _ HQ.out).mono ?_); rintro e wx ⟨rfl, hw⟩; subst wx))
  go_ret
  exact AE.same HQ.out
theorem remove_off (g n : Nat) (R : Nat → List Nat) (i : Nat) (hi : i < n) (hw : wh R i = 4) (w : World) (hq : QAt w g n R) : Calls Try.prog 51 #[.pointer (some ⟨g, 0, none⟩), .int .i64 (i : Int)] w (AE g n R 7 w) := by
  have HI := hide hi
  have HW := hide hw
  have HQ := hide hq
  clear hi hq hw
  go_enter Try.func51, Try.ntmps51
  go_wp2_with (first | (go_at_call 45; (with_reducible refine (in_off _ _ _ _ HI.out HW.out _ HQ.out).mono ?_); rintro e wx ⟨rfl, hw⟩; subst wx))
  go_ret
  exact AE.same HQ.out
theorem remove_on (g n : Nat) (R : Nat → List Nat) (i : Nat) (hi : i < n) (hw : wh R i < 4) (w : World) (hq : QAt w g n R) : Calls Try.prog 51 #[.pointer (some ⟨g, 0, none⟩), .int .i64 (i : Int)] w (AE g n (rem R i) 0 w) := by
  have HI := hide hi
  have HW := hide hw
  have HQ := hide hq
  clear hi hq hw
  go_enter Try.func51, Try.ntmps51
  go_wp2_with (first
    | (go_at_call 45; (with_reducible refine (in_on _ _ _ _ _ HI.out HW.out (wh_mem HW.out) _ HQ.out).mono ?_); rintro e wx ⟨rfl, hw⟩; subst wx)
    | (go_at_call 55; (with_reducible refine (cut_rem _ _ _ _ _ HW.out (wh_mem HW.out) _ HQ.out).mono ?_); rintro e w1 ⟨rfl, h1, h2⟩; have H1 := hide h1; have H2 := hide h2; clear h1 h2))
  go_ret
  exact ⟨rfl, H1.out, H2.out⟩
theorem move_nil (i b : Int) (w : World) : Calls Try.prog 44 #[.pointer none, .int .i64 i, .int .i64 b] w fun e w' => e = .returned (.int .i64 1) ∧ w' = w := by
  go_enter Try.func44, Try.ntmps44
  go_wp2_with (first | (go_at_call 45; (with_reducible refine (in_nil _ _).mono ?_); rintro e wx ⟨rfl, hw⟩; subst wx))
  go_ret
  exact ⟨rfl, rfl⟩
theorem move_out (g n : Nat) (R : Nat → List Nat) (i b : Int) (hi : i < 0 ∨ (n : Int) ≤ i) (w : World) (hq : QAt w g n R) : Calls Try.prog 44 #[.pointer (some ⟨g, 0, none⟩), .int .i64 i, .int .i64 b] w (AE g n R 3 w) := by
  have HI := hide hi
  have HQ := hide hq
  clear hi hq
  go_enter Try.func44, Try.ntmps44
  go_wp2_with (first | (go_at_call 45; (with_reducible refine (in_out _ _ _ _ HI.out _ HQ.out).mono ?_); rintro e wx ⟨rfl, hw⟩; subst wx))
  go_ret
  exact AE.same HQ.out
theorem move_off (g n : Nat) (R : Nat → List Nat) (i : Nat) (b : Int) (hi : i < n) (hw : wh R i = 4) (w : World) (hq : QAt w g n R) : Calls Try.prog 44 #[.pointer (some ⟨g, 0, none⟩), .int .i64 (i : Int), .int .i64 b] w (AE g n R 7 w) := by
  have HI := hide hi
  have HW := hide hw
  have HQ := hide hq
  clear hi hq hw
  go_enter Try.func44, Try.ntmps44
  go_wp2_with (first | (go_at_call 45; (with_reducible refine (in_off _ _ _ _ HI.out HW.out _ HQ.out).mono ?_); rintro e wx ⟨rfl, hw⟩; subst wx))
  go_ret
  exact AE.same HQ.out
set_option maxRecDepth 100000 in
theorem move_on (g n : Nat) (R : Nat → List Nat) (i : Nat) (b : Int) (hi : i < n) (hw : wh R i < 4) (w : World) (hq : QAt w g n R) : Calls Try.prog 44 #[.pointer (some ⟨g, 0, none⟩), .int .i64 (i : Int), .int .i64 b] w (AE g n (putR R i (moved (wh R i) b)) 0 w) := by
  have HI := hide hi
  have HW := hide hw
  have HQ := hide hq
  obtain ⟨F, hF, hR⟩ := hq
  have h16 := hR.n16
  have c0 := hF.at (i := 1 + i) (by omega)
  rw [hR.on_wh hi, if_pos hw] at c0
  have gl := hF.lt
  have i16 : (i : Int) < 16 := by omega
  obtain ⟨k, hk⟩ : ∃ k, wh R i = k := ⟨_, rfl⟩
  rw [hk] at c0 ⊢
  have HM := hide (moved_lt k b)
  obtain ⟨c1, hc1⟩ : ∃ c, (if b < -4 then (-4 : Int) else b) = c := ⟨_, rfl⟩
  obtain ⟨c2, hc2⟩ : ∃ c, (if 4 < c1 then (4 : Int) else c1) = c := ⟨_, rfl⟩
  obtain ⟨c3, hc3⟩ : ∃ c, (k : Int) + c2 = c := ⟨_, rfl⟩
  obtain ⟨c4, hc4⟩ : ∃ c, (if c3 < 0 then (0 : Int) else c3) = c := ⟨_, rfl⟩
  have b1 : -4 ≤ c2 ∧ c2 ≤ 4 ∧ (-4 ≤ b → b ≤ 4 → c2 = b) ∧ (b < -4 → c2 = -4) ∧ (4 < b → c2 = 4) := by
    rw [← hc2, ← hc1]
    (repeat' split) <;> omega
  have e1 : IntKind.i64.wrap ((k : Int) + c2) = c3 := by rw [← hc3]; exact IntWalk.i64_in _ (by omega)
  have hc5 : (if 3 < c4 then (3 : Int) else c4) = (moved k b : Int) := by
    unfold moved
    rw [← hc4, ← hc3]
    (repeat' split) <;> omega
  obtain ⟨m, hm⟩ : ∃ m, moved k b = m := ⟨_, rfl⟩
  rw [hm] at hc5 HM ⊢
  clear b1 hc3 hm
  clear hF hR hi hw hk
  go_enter Try.func44, Try.ntmps44
  go_wp2_with (first
    | (go_at_call 45; (with_reducible refine (in_on _ _ _ _ _ HI.out HW.out (wh_mem HW.out) _ HQ.out).mono ?_); rintro e wx ⟨rfl, hw⟩; subst wx)
    | (go_at_call 55; (with_reducible refine (cut_rem _ _ _ _ _ HW.out (wh_mem HW.out) _ HQ.out).mono ?_); rintro e w1 ⟨rfl, h1, h2⟩; have H1 := hide h1; have H2 := hide h2; clear h1 h2)
    | (go_at_call 50; (with_reducible refine (put_rem _ _ _ m _ HI.out HM.out _ H1.out).mono ?_); rintro e w2 ⟨rfl, h1, h2⟩; have H3 := hide h1; have H4 := hide (H2.out.trans h2 (fun _ _ h => h)); clear h1 h2))
  go_ret
  exact ⟨rfl, H3.out, H4.out⟩
end Go.Proofs.Ytadlfebpaijbhaa.Lv
