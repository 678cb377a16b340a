/- A policy's Use, Hit, and the making of one. -/
import Derived.Test.YtadlfebpaijbhaaSmqCalls
namespace Go.Proofs.Ytadlfebpaijbhaa.Lv
open Go.RowKit Go.Proofs.Ytadlfebpaijbhaa.W
set_option linter.unusedVariables false
set_option linter.unusedSimpArgs false

theorem touch_of {g n : Nat} {R' : Nat → List Nat} {i c : Int} {w : World} (h : Calls Try.prog 44 #[.pointer (some ⟨g, 0, none⟩), .int .i64 i, .int .i64 0] w (AE g n R' c w)) : Calls Try.prog 32 #[.pointer (some ⟨g, 0, none⟩), .int .i64 i] w (AE g n R' c w) := by
  have HC := hide h
  clear h
  go_enter Try.func32, Try.ntmps32
  go_wp2_with (first
    | (go_at_call 44; (with_reducible refine HC.out.mono ?_); intro e w1 ha; have HE := hide ha; obtain ⟨he, _, _⟩ := ha; subst he))
  go_ret
  exact HE.out
theorem use_any (gp gq gh : Nat) (s : Sm) (i : Int) (w : World) (h : PA w gp gq gh s) : Calls Try.prog 39 #[.pointer (some ⟨gp, 0, none⟩), .int .i64 i] w (PE gp gq gh (usedS s i) (.int .i64 (inC s i)) w) := by
  have c1 := h.c1
  unfold usedS
  rcases inC_cases s i with ⟨hc, j, rfl, hj, hw⟩ | ⟨hc, j, rfl, hj, hw⟩ | ⟨hc, hi⟩
  · rw [hc, if_pos rfl, Int.toNat_natCast]
    have H := hide (touch_of (move_on gh 8 s.L j 0 hj hw w h.h))
    have HP := hide h
    have j8 : (j : Int) < 8 := by omega
    clear h hc hw
    go_enter Try.func39, Try.ntmps39
    go_upto_region 4 with (first
      | (go_at_call 32; (with_reducible refine H.out.mono ?_); intro e w1 ha; have HE := hide (PE.held HP.out ha); obtain ⟨he, _, _⟩ := ha; subst he))
    have cu := HE.out.2.1.p.at (i := 66 + j) (by omega)
    rw [pcell_used _ _ _ _ _ hj] at cu
    have fu := HE.out.2.1.p.frozen (66 + j)
    have gl := HE.out.2.1.p.lt
    go_wp2_with fail
    go_ret
    exact ⟨rfl, HE.out.2.1.used hj true, HE.out.2.2.setCell (p := ⟨gp, 66 + j, none⟩) (.inl (.inl rfl)) _⟩
  · rw [hc, if_neg (by omega)]
    have H := hide (touch_of (move_off gh 8 s.L j 0 hj hw w h.h))
    have HP := hide h
    clear h hc hw
    go_enter Try.func39, Try.ntmps39
    go_wp2_with (first
      | (go_at_call 32; (with_reducible refine H.out.mono ?_); intro e w1 ha; have HE := hide (PE.held HP.out ha); obtain ⟨he, _, _⟩ := ha; subst he))
    go_ret
    exact HE.out
  · rw [hc, if_neg (by omega)]
    have H := hide (touch_of (move_out gh 8 s.L i 0 hi w h.h))
    have HP := hide h
    clear h hc hi
    go_enter Try.func39, Try.ntmps39
    go_wp2_with (first
      | (go_at_call 32; (with_reducible refine H.out.mono ?_); intro e w1 ha; have HE := hide (PE.held HP.out ha); obtain ⟨he, _, _⟩ := ha; subst he))
    go_ret
    exact HE.out
theorem hit_out (gp gq gh : Nat) (s : Sm) (i : Int) (hi : i < 0 ∨ (16 : Int) ≤ i) (w : World) (h : PA w gp gq gh s) : Calls Try.prog 20 #[.pointer (some ⟨gp, 0, none⟩), .int .i64 i] w (PE gp gq gh s (.int .i64 3) w) := by
  have HP := hide h
  clear h
  rcases hi with hi | hi
  · go_enter Try.func20, Try.ntmps20
    go_wp2_with fail
    go_ret
    exact PE.same HP.out
  · have t1 : decide (i < 0) = false := by simp; omega
    go_enter Try.func20, Try.ntmps20
    go_wp2_with fail
    go_ret
    exact PE.same HP.out
theorem PA.drewN {w : World} {gp gq gh : Nat} {s : Sm} (h : PA w gp gq gh s) (k : Nat) : PA (w.drewN k) gp gq gh s := h.chg ((Chg.refl none1 w).drewN k) id id id
set_option maxRecDepth 100000 in
set_option maxHeartbeats 1000000 in
theorem hit_core (gp gq gh : Nat) (s : Sm) (g : Nat) (hg : g < 16) (n x M : Nat) (hM : M = 1048576) (hn : s.C (hitC s g) = n) (hx : (n + 1 ≤ M ∧ x = n + 1) ∨ (n = M ∧ x = M)) (w : World) (h : PA w gp gq gh s) :
    Calls Try.prog 20 #[.pointer (some ⟨gp, 0, none⟩), .int .i64 (g : Int)] w (PE gp gq gh { s with C := upd s.C (hitC s g) x, H := if wh s.H g < 4 then mv s.H g 0 else putR s.H g 0 } (.int .i64 0) w) := by
  obtain ⟨q, hq⟩ : ∃ q, s.t % 4 = q := ⟨_, rfl⟩
  have hcq : hitC s g = 4 * g + q := by unfold hitC; rw [hq]
  have q4 : q < 4 := by omega
  have e1 : Int.tmod (s.t : Int) 4 = (q : Int) := by rw [Int.tmod_eq_emod_of_nonneg (by omega)]; omega
  have e1' : IntKind.i64.wrap (q : Int) = (q : Int) := IntWalk.i64_in _ (by omega)
  have t0 : decide ((g : Int) < 0) = false := by simp
  have t1 : decide ((16 : Int) ≤ (g : Int)) = false := by simp; omega
  have t2 : decide (16 ≤ g) = false := by simp; omega
  have g16 : (g : Int) < 16 := by omega
  have q4' : (q : Int) < 4 := by omega
  have ct := h.ct
  have c0 := h.c0
  obtain ⟨j, hj⟩ : ∃ j, 2 + g * 4 + q = j := ⟨_, rfl⟩
  have hjc : j = 2 + hitC s g := by omega
  have hc64 : hitC s g < 64 := by omega
  have cj := h.p.at (i := 2 + hitC s g) (by omega)
  rw [pcell_count _ _ _ _ _ hc64, hn, ← hjc] at cj
  have fj := h.p.frozen j
  have gl := h.p.lt
  have hxM : x ≤ M := by omega
  have en : IntKind.i64.wrap ((n : Int) + 1) = (n : Int) + 1 := IntWalk.i64_in _ (by omega)
  have hP : PA (w.setCell ⟨gp, j, none⟩ (.int .i64 (x : Int))) gp gq gh { s with C := upd s.C (hitC s g) x } := by
    rw [hjc]
    exact h.count hc64 (by rw [← hM]; exact hxM)
  have HP := hide hP
  have hcg : Chg (three gp gq gh) w (w.setCell ⟨gp, j, none⟩ (.int .i64 (x : Int))) := (chg_self gp j _ w).mono (fun _ _ => one_three0)
  have HCg := hide hcg
  obtain ⟨C', hC'⟩ : ∃ C', upd s.C (hitC s g) x = C' := ⟨_, rfl⟩
  rw [hC'] at HP ⊢
  have HM : Hid ((M : Int) = 1048576) := hide (by omega)
  have hcase : ((n : Int) + 1 ≤ 1048576 ∧ (x : Int) = (n : Int) + 1) ∨ ((1048576 : Int) < (n : Int) + 1 ∧ (x : Int) = 1048576) := by omega
  have HX := hide hcase
  clear hP hcg hq hcq hjc hc64 hn hx hM hxM hC' hcase h HM
  rcases HX.out with ⟨hlt, hxe⟩ | ⟨hlt, hxe⟩
  all_goals
    have HXe := hide hxe
    have m1 : decide ((1048576 : Int) < (n : Int) + 1) = decide ((1048576 : Int) < (n : Int) + 1) := rfl
    clear hxe m1
    by_cases hw : wh s.H g = 4
    · have hw4 : ¬ wh s.H g < 4 := by omega
      rw [if_neg hw4]
      have HW := hide hw
      clear hw hw4
      go_enter Try.func20, Try.ntmps20
      go_upto_region 5 with fail
      go_quiet (fail)
      go_upto_region 7 with fail
      rw [← HXe.out]
      have hP2 := HP.out.drewN nq
      have hc2 := HCg.out.drewN nq
      generalize (w.setCell ⟨gp, j, none⟩ (.int .i64 (x : Int))).drewN nq = W2 at hP2 hc2 ⊢
      have c2 := hP2.c0
      have HP2 := hide hP2
      have HC2 := hide hc2
      have HT := hide (touch_of (move_off gq 16 s.H g 0 hg HW.out W2 hP2.q))
      clear hP2 hc2 HP HCg cj fj ct c0
      go_upto_region 8 with (first
        | (go_at_call 32; (with_reducible refine HT.out.mono ?_); intro e w1 ha; have HE := hide (PE.hot HP2.out ha); obtain ⟨he, _, _⟩ := ha; subst he))
      have c3 := HE.out.2.1.c0
      have HA : Hid (Calls Try.prog 33 #[.pointer (some ⟨gq, 0, none⟩), .int .i64 (g : Int), .int .i64 0] w1 (AE gq 16 (putR s.H g 0) 0 w1)) := hide (add_ok gq 16 s.H g 0 hg (by omega) HW.out w1 HE.out.2.1.q)
      clear c2
      go_wp2_with (first
        | (go_at_call 33; (with_reducible refine HA.out.mono ?_); intro e w3 ha; have HE3 := hide (PE.hot HE.out.2.1 ha); obtain ⟨he, _, _⟩ := ha; subst he))
      go_ret
      exact ⟨rfl, HE3.out.2.1, (HC2.out.trans HE.out.2.2 (fun _ _ h => h)).trans HE3.out.2.2 (fun _ _ h => h)⟩
    · rw [if_pos (wh_lt hw)]
      have HW := hide (wh_lt hw)
      clear hw
      go_enter Try.func20, Try.ntmps20
      go_upto_region 5 with fail
      go_quiet (fail)
      go_upto_region 7 with fail
      rw [← HXe.out]
      have hP2 := HP.out.drewN nq
      have hc2 := HCg.out.drewN nq
      generalize (w.setCell ⟨gp, j, none⟩ (.int .i64 (x : Int))).drewN nq = W2 at hP2 hc2 ⊢
      have c2 := hP2.c0
      have HP2 := hide hP2
      have HC2 := hide hc2
      have HT := hide (touch_of (move_on gq 16 s.H g 0 hg HW.out W2 hP2.q))
      clear hP2 hc2 HP HCg cj fj ct c0
      go_wp2_with (first
        | (go_at_call 32; (with_reducible refine HT.out.mono ?_); intro e w1 ha; have HE := hide (PE.hot HP2.out ha); obtain ⟨he, _, _⟩ := ha; subst he))
      go_ret
      exact ⟨rfl, HE.out.2.1, HC2.out.trans HE.out.2.2 (fun _ _ h => h)⟩
theorem hit_any (gp gq gh : Nat) (s : Sm) (g : Nat) (hg : g < 16) (w : World) (h : PA w gp gq gh s) : Calls Try.prog 20 #[.pointer (some ⟨gp, 0, none⟩), .int .i64 (g : Int)] w (PE gp gq gh (hitS s g) (.int .i64 0) w) := by
  obtain ⟨M, hM⟩ : ∃ M, M = 1048576 := ⟨_, rfl⟩
  have hb := h.ok.c (hitC s g)
  have hS : hitS s g = { s with C := upd s.C (hitC s g) (min (s.C (hitC s g) + 1) M), H := if wh s.H g < 4 then mv s.H g 0 else putR s.H g 0 } := by rw [hM]; rfl
  rw [hS]
  rw [← hM] at hb
  refine hit_core gp gq gh s g hg _ _ M hM rfl ?_ w h
  by_cases hlt : s.C (hitC s g) + 1 ≤ M
  · exact .inl ⟨hlt, Nat.min_eq_left hlt⟩
  · exact .inr ⟨by omega, Nat.min_eq_right (by omega)⟩
end Go.Proofs.Ytadlfebpaijbhaa.Lv
