/- A policy's calls about slots and groups. -/
import Derived.Test.YtadlfebpaijbhaaSmqAt
namespace Go.Proofs.Ytadlfebpaijbhaa.Lv
open Go.RowKit Go.Proofs.Ytadlfebpaijbhaa.W
set_option linter.unusedVariables false
set_option linter.unusedSimpArgs false

theorem one_three {gp gq gh k : Nat} : one gq k → three gp gq gh k := fun h => .inr (.inl h)
theorem one_three' {gp gq gh k : Nat} : one gh k → three gp gq gh k := fun h => .inr (.inr h)
theorem one_three0 {gp gq gh k : Nat} : one gp k → three gp gq gh k := fun h => .inl h
theorem PE.held {w w' : World} {gp gq gh : Nat} {s : Sm} {R : Nat → List Nat} {c : Int} {e : Ending} (h : PA w gp gq gh s) (ha : AE gh 8 R c w e w') : PE gp gq gh { s with L := R } (.int .i64 c) w e w' :=
  ⟨ha.1, h.held ha.2.1 ha.2.2, ha.2.2.mono (fun _ _ => one_three')⟩
theorem PE.hot {w w' : World} {gp gq gh : Nat} {s : Sm} {R : Nat → List Nat} {c : Int} {e : Ending} (h : PA w gp gq gh s) (ha : AE gq 16 R c w e w') : PE gp gq gh { s with H := R } (.int .i64 c) w e w' :=
  ⟨ha.1, h.hot ha.2.1 ha.2.2, ha.2.2.mono (fun _ _ => one_three)⟩
def enterC (s : Sm) (i : Int) : Int := if 0 ≤ i ∧ i < 8 then (if wh s.L i.toNat < 4 then 8 else 0) else 3
def enterR (s : Sm) (i : Int) : Nat → List Nat := if 0 ≤ i ∧ i < 8 ∧ wh s.L i.toNat = 4 then putR s.L i.toNat 1 else s.L
theorem enter_any (gp gq gh : Nat) (s : Sm) (i : Int) (w : World) (h : PA w gp gq gh s) : Calls Try.prog 36 #[.pointer (some ⟨gp, 0, none⟩), .int .i64 i] w (PE gp gq gh { s with L := enterR s i } (.int .i64 (enterC s i)) w) := by
  have HA : Calls Try.prog 33 #[.pointer (some ⟨gh, 0, none⟩), .int .i64 i, .int .i64 1] w (AE gh 8 (enterR s i) (enterC s i) w) := by
    unfold enterR enterC
    by_cases hi : i < 0 ∨ (8 : Int) ≤ i
    · rw [if_neg (by omega), if_neg (by omega)]
      exact add_out gh 8 s.L i 1 hi w h.h
    · obtain ⟨j, rfl⟩ : ∃ j : Nat, i = (j : Int) := ⟨i.toNat, by omega⟩
      rw [Int.toNat_natCast, if_pos (by omega : 0 ≤ (j : Int) ∧ (j : Int) < 8)]
      by_cases hw : wh s.L j = 4
      · rw [if_pos ⟨by omega, by omega, hw⟩, if_neg (by omega)]
        exact add_ok gh 8 s.L j 1 (by omega) (by omega) hw w h.h
      · rw [if_neg (by omega), if_pos (wh_lt hw)]
        exact add_exist gh 8 s.L j 1 (by omega) (by omega) (wh_lt hw) w h.h
  have c1 := h.c1
  have H := hide HA
  have HP := hide h
  clear HA h
  go_enter Try.func36, Try.ntmps36
  go_wp2_with (first
    | (go_at_call 33; (with_reducible refine H.out.mono ?_); intro e w1 ha; have HE := hide (PE.held HP.out ha); obtain ⟨he, _, _⟩ := ha; subst he))
  go_ret
  exact ⟨rfl, HE.out.2.1, HE.out.2.2⟩
def inC (s : Sm) (i : Int) : Int := if 0 ≤ i ∧ i < 8 then (if wh s.L i.toNat < 4 then 0 else 7) else 3
/-- A slot that is in: left, or used. -/
def leftS (s : Sm) (i : Int) : Sm := if inC s i = 0 then leaveS s i.toNat else s
def usedS (s : Sm) (i : Int) : Sm := if inC s i = 0 then useS s i.toNat else s
theorem inC_cases (s : Sm) (i : Int) : (inC s i = 0 ∧ ∃ j : Nat, i = (j : Int) ∧ j < 8 ∧ wh s.L j < 4) ∨ (inC s i = 7 ∧ ∃ j : Nat, i = (j : Int) ∧ j < 8 ∧ wh s.L j = 4) ∨ (inC s i = 3 ∧ (i < 0 ∨ (8 : Int) ≤ i)) := by
  unfold inC
  by_cases hi : i < 0 ∨ (8 : Int) ≤ i
  · rw [if_neg (by omega)]
    exact .inr (.inr ⟨rfl, hi⟩)
  · obtain ⟨j, rfl⟩ : ∃ j : Nat, i = (j : Int) := ⟨i.toNat, by omega⟩
    rw [if_pos (by omega : 0 ≤ (j : Int) ∧ (j : Int) < 8), Int.toNat_natCast]
    by_cases hw : wh s.L j = 4
    · rw [if_neg (by omega)]
      exact .inr (.inl ⟨rfl, j, rfl, by omega, hw⟩)
    · rw [if_pos (wh_lt hw)]
      exact .inl ⟨rfl, j, rfl, by omega, wh_lt hw⟩
theorem leave_any (gp gq gh : Nat) (s : Sm) (i : Int) (w : World) (h : PA w gp gq gh s) : Calls Try.prog 38 #[.pointer (some ⟨gp, 0, none⟩), .int .i64 i] w (PE gp gq gh (leftS s i) (.int .i64 (inC s i)) w) := by
  have c1 := h.c1
  unfold leftS
  rcases inC_cases s i with ⟨hc, j, rfl, hj, hw⟩ | ⟨hc, j, rfl, hj, hw⟩ | ⟨hc, hi⟩
  · rw [hc, if_pos rfl, Int.toNat_natCast]
    have H := hide (remove_on gh 8 s.L j hj hw w h.h)
    have HP := hide h
    have j8 : (j : Int) < 8 := by omega
    clear h hc hw
    go_enter Try.func38, Try.ntmps38
    go_upto_region 4 with (first
      | (go_at_call 51; (with_reducible refine H.out.mono ?_); intro e w1 ha; have HE := hide (PE.held HP.out ha); obtain ⟨he, _, _⟩ := ha; subst he))
    have cu := HE.out.2.1.p.at (i := 66 + j) (by omega)
    rw [pcell_used _ _ _ _ _ hj] at cu
    have fu := HE.out.2.1.p.frozen (66 + j)
    have gl := HE.out.2.1.p.lt
    go_wp2_with fail
    go_ret
    exact ⟨rfl, HE.out.2.1.used hj false, HE.out.2.2.setCell (p := ⟨gp, 66 + j, none⟩) (.inl (.inl rfl)) _⟩
  · rw [hc, if_neg (by omega)]
    have H := hide (remove_off gh 8 s.L j hj hw w h.h)
    have HP := hide h
    clear h hc hw
    go_enter Try.func38, Try.ntmps38
    go_wp2_with (first
      | (go_at_call 51; (with_reducible refine H.out.mono ?_); intro e w1 ha; have HE := hide (PE.held HP.out ha); obtain ⟨he, _, _⟩ := ha; subst he))
    go_ret
    exact HE.out
  · rw [hc, if_neg (by omega)]
    have H := hide (remove_out gh 8 s.L i hi w h.h)
    have HP := hide h
    clear h hc hi
    go_enter Try.func38, Try.ntmps38
    go_wp2_with (first
      | (go_at_call 51; (with_reducible refine H.out.mono ?_); intro e w1 ha; have HE := hide (PE.held HP.out ha); obtain ⟨he, _, _⟩ := ha; subst he))
    go_ret
    exact HE.out
end Go.Proofs.Ytadlfebpaijbhaa.Lv
