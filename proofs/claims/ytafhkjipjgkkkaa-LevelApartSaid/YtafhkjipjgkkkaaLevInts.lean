/- The same numbers? And the law's 'awake': walked. -/
import Derived.Test.YtafhkjipjgkkkaaLevDo
import Derived.BigQuiet
namespace Go.Proofs.Ytafhkjipjgkkkaa.Lv
open Go.RowKit Go.Proofs.Ytafhkjipjgkkkaa.W
set_option linter.unusedVariables false
set_option linter.unusedSimpArgs false

def IntsRel (w : World) (n k : Nat) (s5 : Value) (wr : World) : Prop := ∃ i q : Nat, s5 = .int .i64 (i : Int) ∧ i + k = n ∧ wr = w.drewN q
set_option maxRecDepth 100000 in
theorem ints_yes (A B : Option Addr) (n c d : Nat) (L : List Nat) (hn : n = L.length) (hn2 : n ≤ 1000) (w : World) (hA : RowV w (.slice A n c) L) (hB : RowV w (.slice B n d) L) :
    Calls Try.prog 22 #[.slice A n c, .slice B n d] w fun e w' => e = .returned (.bool true) ∧ ∃ q, w' = w.drewN q := by
  have h2 : ((n : Int) != (n : Int)) = false := by simp
  have HA := hide hA
  have HB := hide hB
  have HN := hide hn
  clear hA hB hn
  go_enter Try.func22, Try.ntmps22
  go_wp2_with fail
  go_loopg [5] n (fun k s5 wr => IntsRel w n k s5 wr)
  case atStart => exact ⟨0, 0, rfl, by omega, rfl⟩
  case round =>
    obtain ⟨i, q, rfl, hk, rfl⟩ := hrel
    by_cases hi : i < n
    · have hgk : 0 < gk := by omega
      have hi' : (i : Int) < (n : Int) := by omega
      obtain ⟨a, ha⟩ : ∃ a, L[i]? = some a := ⟨_, List.getElem?_eq_getElem (by rw [← HN.out]; exact hi)⟩
      obtain ⟨b1, rfl, -, c1⟩ := HA.out.at ha
      obtain ⟨b2, rfl, -, c2⟩ := HB.out.at ha
      have e1 : ((a : Int) != (a : Int)) = false := by simp
      clear ha
      go_wp2_with fail
      go_quiet (fail)
      go_wp2_with fail
      go_roundg (gk - 1)
      case measure => omega
      case rel => exact ⟨i + 1, _, by go_num, by omega, by first | rfl | exact World.drewN_drewN _ _ _⟩
    · have hi' : decide (i < n) = false := by simp; omega
      have hi'' : decide ((i : Int) < (n : Int)) = false := by simp; omega
      clear hi
      go_wp2_with fail
      go_ret
      exact ⟨rfl, _, rfl⟩
theorem QAt.drew {w : World} {g n : Nat} {R : Nat → List Nat} (h : QAt w g n R) : QAt w.drew g n R := by
  obtain ⟨F, h1, h2⟩ := h
  exact ⟨F, Blk.drew h1, h2⟩
theorem row_own {w : World} {base : Nat} {A : Option Addr} {m c : Nat} {L : List Nat} (h : w.ownsRow base 3 1 (.slice A m c) m (toV L)) (hm : m = L.length) : RowV w (.slice A m c) L := by
  subst hm
  exact RowV.of_own h
def E0 : Nat → List Nat := fun _ => []
def E1 : Nat → List Nat := putR E0 2 1
def E2 : Nat → List Nat := putR E1 0 1
def E3 : Nat → List Nat := putR E2 2 1
theorem new4 (w : World) : Calls Try.prog 7 #[.int .i64 4] w fun e w' => e = .returned (.tuple #[.pointer (some ⟨w.heap.size, 0, none⟩), .int .i64 0]) ∧ QAt w' w.heap.size 4 E0 ∧ Below w.heap.size w w' := new_ok 4 (by omega) (by omega) w
theorem add21 (g : Nat) (w : World) (h : QAt w g 4 E0) : Calls Try.prog 18 #[.pointer (some ⟨g, 0, none⟩), .int .i64 2, .int .i64 1] w (AE g 4 E1 0 w) := add_ok g 4 E0 2 1 (by omega) (by omega) (by decide) w h
theorem add01 (g : Nat) (w : World) (h : QAt w g 4 E1) : Calls Try.prog 18 #[.pointer (some ⟨g, 0, none⟩), .int .i64 0, .int .i64 1] w (AE g 4 E2 0 w) := add_ok g 4 E1 0 1 (by omega) (by omega) (by decide) w h
theorem touch2 (g : Nat) (w : World) (h : QAt w g 4 E2) : Calls Try.prog 20 #[.pointer (some ⟨g, 0, none⟩), .int .i64 2] w (AE g 4 E3 0 w) := by
  have h1 := touch_any g 4 E2 2 w h
  have e1 : wantC 4 E2 2 = 0 := by decide
  have e2 : movR 4 E2 2 0 = E3 := by
    unfold movR
    rw [if_pos (by decide)]
    rfl
  rw [e1, e2] at h1
  exact h1
theorem list1e (g : Nat) (w : World) (h : QAt w g 4 E3) : Calls Try.prog 11 #[.pointer (some ⟨g, 0, none⟩), .int .i64 1] w fun e w' => ∃ A c, e = .returned (.slice A 2 c) ∧ RowV w' (.slice A 2 c) [0, 2] ∧ Below w.heap.size w w' := by
  refine (list_any g 4 1 E3 (by omega) w h).mono ?_
  rintro e w' ⟨A, c, rfl, ho, hb⟩
  exact ⟨A, c, rfl, RowV.of_own (L := [0, 2]) ho, hb⟩
theorem len3e (g : Nat) (w : World) (h : QAt w g 4 E3) : Calls Try.prog 13 #[.pointer (some ⟨g, 0, none⟩)] w fun e w' => e = .returned (.int .i64 2) ∧ Below w.heap.size w w' := len_any g 4 E3 w h
theorem least3e (g : Nat) (w : World) (h : QAt w g 4 E3) : Calls Try.prog 17 #[.pointer (some ⟨g, 0, none⟩)] w fun e w' => e = .returned (.tuple #[.int .i64 0, .bool true]) ∧ w' = w := by
  refine (least_any g 4 E3 w h).mono ?_
  rintro e w' ⟨b, rfl, rfl, rfl⟩
  exact ⟨rfl, rfl⟩
theorem two_row (W : World) : RowV (W.alloc (.cells #[.int .i64 0, .int .i64 2] 3)) (.slice (some ⟨W.heap.size, 0, none⟩) 2 2) [0, 2] :=
  .inr ⟨W.heap.size, 2, _, rfl, Blk.newAt W _ _ _ rfl, fun j hj => by
    have h : j = 0 ∨ j = 1 := by have : j < 2 := hj; omega
    rcases h with rfl | rfl <;> rfl⟩
set_option maxRecDepth 100000 in
set_option maxHeartbeats 1000000 in
theorem awake_any (w : World) : Calls Try.prog 8 #[] w fun e w' => e = .returned (.bool true) ∧ Below w.heap.size w w' := by
  go_enter Try.func8, Try.ntmps8
  go_wp2_with (first
    | (go_at_call 7; (with_reducible refine (new4 _).mono ?_); rintro e w1 ⟨rfl, hq, hb⟩; (obtain ⟨g, hg⟩ : ∃ g, w.heap.size = g := ⟨_, rfl⟩); (have HG := hide hg); rw [hg] at hq; simp only [hg]; (have HQ1 := hide hq); (have HC1 : Hid (Chg (one g) w w1) := hide (Chg.of_below hb)); clear hq hb hg)
    | (go_at_call 18; first
        | ((with_reducible refine (add21 _ _ HQ1.out).mono ?_); rintro e w2 ⟨rfl, h1, h2⟩; have HQ2 := hide h1; have HC2 := hide (HC1.out.trans h2 (fun _ _ h => h)); clear h1 h2)
        | ((with_reducible refine (add01 _ _ HQ2.out).mono ?_); rintro e w3 ⟨rfl, h1, h2⟩; have HQ3 := hide h1; have HC3 := hide (HC2.out.trans h2 (fun _ _ h => h)); clear h1 h2))
    | (go_at_call 20; (with_reducible refine (touch2 _ _ HQ3.out).mono ?_); rintro e w4 ⟨rfl, h1, h2⟩; have HQ4 := hide h1; have HC4 := hide (HC3.out.trans h2 (fun _ _ h => h)); clear h1 h2)
    | (go_at_call 17; (with_reducible refine (least3e _ _ HQ4.out).mono ?_); rintro e wx ⟨rfl, hw⟩; subst wx)
    | (go_at_call 11; (with_reducible refine (list1e _ _ HQ4.out).mono ?_); rintro e w5 ⟨A, c, rfl, hr, hb⟩; have HR5 := hide hr; have HQ5 := hide (HQ4.out.later hb); have HC5 := hide (HC4.out.trans (Chg.of_below (S := one g) hb) (fun _ _ h => h)); clear hr hb)
    | (go_at_call 22; (with_reducible refine (ints_yes _ _ 2 _ _ [0, 2] rfl (by omega) _ (HR5.out.later ((Below.refl _ _).alloc (Nat.le_refl _) _)) (two_row _)).mono ?_); rintro e w6 ⟨rfl, q, rfl⟩)
    | (go_at_call 13; (with_reducible refine (len3e g _ ?_).mono ?_); (· exact QAt.chg (S := none1) (HQ5.out.later ((Below.refl _ _).alloc (Nat.le_refl _) _)) (Chg.drewN (Chg.refl none1 _) _) (fun h => h)); rintro e w7 ⟨rfl, hb⟩; have HC7 := hide (HC5.out.trans (Chg.of_below (S := one g) (((below_drewN ((Below.refl _ _).alloc (Nat.le_refl _) _) _)).trans (hb.mono (by simp)))) (fun _ _ h => h)); clear hb))
  go_ret
  exact ⟨rfl, HC7.out.below (Nat.le_refl _) (fun i (hi : i = g) => by have := HG.out; omega)⟩
end Go.Proofs.Ytafhkjipjgkkkaa.Lv
