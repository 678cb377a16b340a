/- The small calls of a queue, walked. -/
import Derived.Test.YtadlfebpaijbhaaLevPlain2
import Derived.Test.YtadlfebpaijbhaaProg
import Derived.Deep.DeepCutAuto
import Derived.Deep.CutRange
import Derived.StillTailTactics
import Derived.Deep.QuietTactic
import Derived.BigQuiet
import Derived.IntWalk
namespace Go.Proofs.Ytadlfebpaijbhaa.Lv
open Go.RowKit Go.Proofs.Ytadlfebpaijbhaa.W
set_option linter.unusedVariables false
set_option linter.unusedSimpArgs false

def i64s (F : Nat → Int) : Nat → Value := fun i => .int .i64 (F i)
theorem i64s_upd (F : Nat → Int) (i : Nat) (x : Int) : upd (i64s F) i (.int .i64 x) = i64s (upd F i x) := by
  funext j
  simp only [upd, i64s]
  split <;> rfl
/-- A queue in memory. -/
def QF (w : World) (g : Nat) (F : Nat → Int) : Prop := Blk w g 70 (row 57 (i64s F))
def QAt (w : World) (g n : Nat) (R : Nat → List Nat) : Prop := ∃ F, QF w g F ∧ Rep F n R
theorem QF.at {w : World} {g : Nat} {F : Nat → Int} (h : QF w g F) {i : Nat} (hi : i < 57) : w.cell? ⟨g, i, none⟩ = some (.int .i64 (F i)) := Blk.at h hi
theorem QF.set_ {w : World} {g : Nat} {F : Nat → Int} (h : QF w g F) (i : Nat) (x : Int) : QF (w.setCell ⟨g, i, none⟩ (.int .i64 x)) g (upd F i x) := by
  have h1 := Blk.upd h i (.int .i64 x)
  rw [i64s_upd] at h1
  exact h1
theorem QAt.later {w w' : World} {g n : Nat} {R : Nat → List Nat} (hb : Below w.heap.size w w') (h : QAt w g n R) : QAt w' g n R := by
  obtain ⟨F, h1, h2⟩ := h
  exact ⟨F, W.later hb h1, h2⟩
theorem QAt.chg {S : Nat → Prop} {w w' : World} {g n : Nat} {R : Nat → List Nat} (h : QAt w g n R) (hc : Chg S w w') (hg : ¬ S g) : QAt w' g n R := by
  obtain ⟨F, h1, h2⟩ := h
  exact ⟨F, Blk.chg h1 hc hg, h2⟩
theorem may_nil (i : Int) (w : World) : Calls Try.prog 49 #[.pointer none, .int .i64 i] w fun e w' => e = .returned (.int .i64 1) ∧ w' = w := by
  go_enter Try.func49, Try.ntmps49
  go_wp2_with fail
  go_ret
  exact ⟨rfl, rfl⟩
theorem may_out (g n : Nat) (R : Nat → List Nat) (i : Int) (hi : i < 0 ∨ (n : Int) ≤ i) (w : World) (hq : QAt w g n R) : Calls Try.prog 49 #[.pointer (some ⟨g, 0, none⟩), .int .i64 i] w fun e w' => e = .returned (.int .i64 3) ∧ w' = w := by
  obtain ⟨F, hF, hR⟩ := hq
  have c0 := hF.at (i := 0) (by omega)
  rw [hR.n0] at c0
  have gl := hF.lt
  clear hF hR
  by_cases h0 : i < 0
  · have h1 : decide (i < 0) = true := by simpa using h0
    clear hi h0
    go_enter Try.func49, Try.ntmps49
    go_wp2_with fail
    go_ret
    exact ⟨rfl, rfl⟩
  · have h1 : decide (i < 0) = false := by simpa using h0
    have h2 : decide ((n : Int) ≤ i) = true := by simp; omega
    clear hi h0
    go_enter Try.func49, Try.ntmps49
    go_wp2_with fail
    go_ret
    exact ⟨rfl, rfl⟩
theorem may_in (g n : Nat) (R : Nat → List Nat) (i : Nat) (hi : i < n) (w : World) (hq : QAt w g n R) : Calls Try.prog 49 #[.pointer (some ⟨g, 0, none⟩), .int .i64 (i : Int)] w fun e w' => e = .returned (.int .i64 0) ∧ w' = w := by
  obtain ⟨F, hF, hR⟩ := hq
  have c0 := hF.at (i := 0) (by omega)
  rw [hR.n0] at c0
  have gl := hF.lt
  clear hF hR
  have h1 : decide ((i : Int) < 0) = false := by simp
  have h2 : decide ((n : Int) ≤ (i : Int)) = false := by simp; omega
  have h3 : decide (n ≤ i) = false := by simp; omega
  clear hi
  go_enter Try.func49, Try.ntmps49
  go_wp2_with fail
  go_ret
  exact ⟨rfl, rfl⟩
/-- What 'in' tells. -/
def inE (n : Nat) (R : Nat → List Nat) (i : Int) : Int := if 0 ≤ i ∧ i < (n : Int) then (if wh R i.toNat < 4 then 0 else 7) else 3
theorem in_nil (i : Int) (w : World) : Calls Try.prog 45 #[.pointer none, .int .i64 i] w fun e w' => e = .returned (.int .i64 1) ∧ w' = w := by
  go_enter Try.func45, Try.ntmps45
  go_wp2_with (first | (go_at_call 49; (with_reducible refine (may_nil _ _).mono ?_); rintro e w1 ⟨rfl, rfl⟩))
  go_ret
  exact ⟨rfl, rfl⟩
theorem in_out (g n : Nat) (R : Nat → List Nat) (i : Int) (hi : i < 0 ∨ (n : Int) ≤ i) (w : World) (hq : QAt w g n R) : Calls Try.prog 45 #[.pointer (some ⟨g, 0, none⟩), .int .i64 i] w fun e w' => e = .returned (.int .i64 3) ∧ w' = w := by
  have HI := hide hi
  have HQ := hide hq
  clear hi hq
  go_enter Try.func45, Try.ntmps45
  go_wp2_with (first | (go_at_call 49; (with_reducible refine (may_out _ _ _ _ HI.out _ HQ.out).mono ?_); rintro e w1 ⟨rfl, rfl⟩))
  go_ret
  exact ⟨rfl, rfl⟩
theorem in_off (g n : Nat) (R : Nat → List Nat) (i : Nat) (hi : i < n) (hw : wh R i = 4) (w : World) (hq : QAt w g n R) : Calls Try.prog 45 #[.pointer (some ⟨g, 0, none⟩), .int .i64 (i : Int)] w fun e w' => e = .returned (.int .i64 7) ∧ w' = w := by
  have HI := hide hi
  have HQ := hide hq
  obtain ⟨F, hF, hR⟩ := hq
  have h16 := hR.n16
  have c0 := hF.at (i := 1 + i) (by omega)
  rw [hR.on_wh hi, if_neg (by omega)] at c0
  have gl := hF.lt
  have i16 : (i : Int) < 16 := by omega
  have t1 : ((-1 : Int) == -1) = true := rfl
  clear hF hR hi hw
  go_enter Try.func45, Try.ntmps45
  go_wp2_with (first | (go_at_call 49; (with_reducible refine (may_in _ _ _ _ HI.out _ HQ.out).mono ?_); rintro e w1 ⟨rfl, rfl⟩))
  go_ret
  exact ⟨rfl, rfl⟩
theorem in_on (g n : Nat) (R : Nat → List Nat) (i l : Nat) (hi : i < n) (hl : l < 4) (hm : i ∈ R l) (w : World) (hq : QAt w g n R) : Calls Try.prog 45 #[.pointer (some ⟨g, 0, none⟩), .int .i64 (i : Int)] w fun e w' => e = .returned (.int .i64 0) ∧ w' = w := by
  have HI := hide hi
  have HQ := hide hq
  obtain ⟨F, hF, hR⟩ := hq
  have h16 := hR.n16
  have c0 := hF.at (i := 1 + i) (by omega)
  rw [hR.on l hl i hm] at c0
  have gl := hF.lt
  have i16 : (i : Int) < 16 := by omega
  have t1 : ((l : Int) == -1) = false := by simp
  clear hF hR hi hl hm
  go_enter Try.func45, Try.ntmps45
  go_wp2_with (first | (go_at_call 49; (with_reducible refine (may_in _ _ _ _ HI.out _ HQ.out).mono ?_); rintro e w1 ⟨rfl, rfl⟩))
  go_ret
  exact ⟨rfl, rfl⟩
theorem level_nil (i : Int) (w : World) : Calls Try.prog 26 #[.pointer none, .int .i64 i] w fun e w' => e = .returned (.tuple #[.int .i64 0, .bool false]) ∧ w' = w := by
  go_enter Try.func26, Try.ntmps26
  go_wp2_with (first | (go_at_call 45; (with_reducible refine (in_nil _ _).mono ?_); rintro e w1 ⟨rfl, rfl⟩))
  go_ret2
  exact ⟨rfl, rfl⟩
theorem level_out (g n : Nat) (R : Nat → List Nat) (i : Int) (hi : i < 0 ∨ (n : Int) ≤ i) (w : World) (hq : QAt w g n R) : Calls Try.prog 26 #[.pointer (some ⟨g, 0, none⟩), .int .i64 i] w fun e w' => e = .returned (.tuple #[.int .i64 0, .bool false]) ∧ w' = w := by
  have HI := hide hi
  have HQ := hide hq
  clear hi hq
  go_enter Try.func26, Try.ntmps26
  go_wp2_with (first | (go_at_call 45; (with_reducible refine (in_out _ _ _ _ HI.out _ HQ.out).mono ?_); rintro e w1 ⟨rfl, rfl⟩))
  go_ret2
  exact ⟨rfl, rfl⟩
theorem level_off (g n : Nat) (R : Nat → List Nat) (i : Nat) (hi : i < n) (hw : wh R i = 4) (w : World) (hq : QAt w g n R) : Calls Try.prog 26 #[.pointer (some ⟨g, 0, none⟩), .int .i64 (i : Int)] w fun e w' => e = .returned (.tuple #[.int .i64 0, .bool false]) ∧ w' = w := by
  have HI := hide hi
  have HW := hide hw
  have HQ := hide hq
  clear hi hq hw
  go_enter Try.func26, Try.ntmps26
  go_wp2_with (first | (go_at_call 45; (with_reducible refine (in_off _ _ _ _ HI.out HW.out _ HQ.out).mono ?_); rintro e w1 ⟨rfl, rfl⟩))
  go_ret2
  exact ⟨rfl, rfl⟩
theorem level_on (g n : Nat) (R : Nat → List Nat) (i l : Nat) (hi : i < n) (hl : l < 4) (hm : i ∈ R l) (w : World) (hq : QAt w g n R) : Calls Try.prog 26 #[.pointer (some ⟨g, 0, none⟩), .int .i64 (i : Int)] w fun e w' => e = .returned (.tuple #[.int .i64 (l : Int), .bool true]) ∧ w' = w := by
  have HI := hide hi
  have HL := hide hl
  have HM := hide hm
  have HQ := hide hq
  obtain ⟨F, hF, hR⟩ := hq
  have h16 := hR.n16
  have c0 := hF.at (i := 1 + i) (by omega)
  rw [hR.on l hl i hm] at c0
  have gl := hF.lt
  have i16 : (i : Int) < 16 := by omega
  clear hF hR hi hl hm
  go_enter Try.func26, Try.ntmps26
  go_wp2_with (first | (go_at_call 45; (with_reducible refine (in_on _ _ _ _ _ HI.out HL.out HM.out _ HQ.out).mono ?_); rintro e w1 ⟨rfl, rfl⟩))
  go_ret2
  exact ⟨rfl, rfl⟩
theorem front_nil (l : Int) (w : World) : Calls Try.prog 47 #[.pointer none, .int .i64 l] w fun e w' => e = .returned (.tuple #[.int .i64 0, .bool false]) ∧ w' = w := by
  go_enter Try.func47, Try.ntmps47
  go_wp2_with fail
  go_ret2
  exact ⟨rfl, rfl⟩
theorem front_out (g : Nat) (l : Int) (hl : l < 0 ∨ 4 ≤ l) (w : World) : Calls Try.prog 47 #[.pointer (some ⟨g, 0, none⟩), .int .i64 l] w fun e w' => e = .returned (.tuple #[.int .i64 0, .bool false]) ∧ w' = w := by
  by_cases h0 : l < 0
  · have h1 : decide (l < 0) = true := by simpa using h0
    clear hl h0
    go_enter Try.func47, Try.ntmps47
    go_wp2_with fail
    go_ret2
    exact ⟨rfl, rfl⟩
  · have h1 : decide (l < 0) = false := by simpa using h0
    have h2 : decide (4 ≤ l) = true := by simp; omega
    clear hl h0
    go_enter Try.func47, Try.ntmps47
    go_wp2_with fail
    go_ret2
    exact ⟨rfl, rfl⟩
theorem front_none (g n l : Nat) (R : Nat → List Nat) (hl : l < 4) (hR0 : R l = []) (w : World) (hq : QAt w g n R) : Calls Try.prog 47 #[.pointer (some ⟨g, 0, none⟩), .int .i64 (l : Int)] w fun e w' => e = .returned (.tuple #[.int .i64 0, .bool false]) ∧ w' = w := by
  obtain ⟨F, hF, hR⟩ := hq
  have c0 := hF.at (i := 49 + l) (by omega)
  rw [hR.first l hl, hR0] at c0
  have c1 : w.cell? ⟨g, 49 + l, none⟩ = some (.int .i64 (-1)) := c0
  have gl := hF.lt
  have l4 : (l : Int) < 4 := by omega
  have l5 : decide (4 ≤ l) = false := by simp; omega
  have t1 : ((-1 : Int) == -1) = true := rfl
  clear hF hR hR0 c0 hl
  go_enter Try.func47, Try.ntmps47
  go_wp2_with fail
  go_ret2
  exact ⟨rfl, rfl⟩
theorem front_some (g n l a : Nat) (L : List Nat) (R : Nat → List Nat) (hl : l < 4) (hR0 : R l = a :: L) (w : World) (hq : QAt w g n R) : Calls Try.prog 47 #[.pointer (some ⟨g, 0, none⟩), .int .i64 (l : Int)] w fun e w' => e = .returned (.tuple #[.int .i64 (a : Int), .bool true]) ∧ w' = w := by
  obtain ⟨F, hF, hR⟩ := hq
  have c0 := hF.at (i := 49 + l) (by omega)
  rw [hR.first l hl, hR0] at c0
  have c1 : w.cell? ⟨g, 49 + l, none⟩ = some (.int .i64 (a : Int)) := c0
  have gl := hF.lt
  have l4 : (l : Int) < 4 := by omega
  have l5 : decide (4 ≤ l) = false := by simp; omega
  have t1 : ((a : Int) == -1) = false := by simp
  clear hF hR hR0 c0 hl
  go_enter Try.func47, Try.ntmps47
  go_wp2_with fail
  go_ret2
  exact ⟨rfl, rfl⟩
end Go.Proofs.Ytadlfebpaijbhaa.Lv
