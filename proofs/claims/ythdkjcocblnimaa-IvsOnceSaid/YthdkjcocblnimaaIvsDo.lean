/- The law of ivs' calls, walked. -/
import Derived.Test.YthdkjcocblnimaaIvsLaws
import Derived.Test.YthdkjcocblnimaaLists
namespace Go.Proofs.Ythdkjcocblnimaa.Ivs
open Go.RowKit Go.Proofs.Ythdkjcocblnimaa.W
set_option linter.unusedVariables false
set_option linter.unusedSimpArgs false

def actAt (K X : Nat → Int) (i j : Nat) : Value := .int .i64 (if j = 0 then K i else X i)

def DoRel (w : World) (m : Int) (A : Option Addr) (len : Nat) (K X : Nat → Int) (k : Nat) (s : Value) (wr : World) : Prop :=
  ∃ (i : Nat) (n t : Int), s = .int .i64 (i : Int) ∧ i + k = 80 ∧ i ≤ len ∧ IsRow wr w.heap.size n t m ∧ IsRef wr (w.heap.size + 1) n t m ∧ Inv n t m ∧ Below w.heap.size w wr

set_option maxRecDepth 100000 in
set_option maxHeartbeats 1000000 in
theorem ivsDo_no (n m : Int) (s : Value) (w : World) (h : ¬ (1 ≤ m ∧ m ≤ 1099511627776 ∧ 0 ≤ n ∧ n ≤ m)) :
    Calls Try.prog 3 #[.int .i64 n, .int .i64 m, s] w fun e w' => e = .returned (.bool true) ∧ Below w.heap.size w w' := by
  have hw : (wi m 1 1099511627776 && wi n 0 m) = false := by
    simp [wi]
    omega
  have H := hide h
  clear h
  go_enter Try.func3, Try.ntmps3
  go_wp2_with (first
    | (go_at_call 7; refine (new_no n m _ H.out).mono ?_; rintro e w' ⟨rfl, rfl⟩)
    | (go_at_call 8; refine (right_any n m _).mono ?_; rintro e w' ⟨rfl, rfl⟩)
    | (go_at_call 9; refine (awake_any _).mono ?_; rintro e w' ⟨rfl, hb⟩))
  go_ret
  exact ⟨rfl, hb⟩

set_option maxRecDepth 100000 in
set_option maxHeartbeats 2000000 in
theorem ivsDo_yes (n m : Int) (A : Option Addr) (len c : Nat) (K X : Nat → Int) (w : World) (h : 1 ≤ m ∧ m ≤ 1099511627776 ∧ 0 ≤ n ∧ n ≤ m) (hl : len ≤ maxLen) (hA : Holds w w.heap.size 2 A len (actAt K X)) :
    Calls Try.prog 3 #[.int .i64 n, .int .i64 m, .slice A len c] w fun e w' => e = .returned (.bool true) ∧ Below w.heap.size w w' := by
  unfold maxLen at hl
  have hw : (wi m 1 1099511627776 && wi n 0 m) = true := by
    simp [wi]
    omega
  have hx : IsRef ((w.alloc (.cells #[.int .i64 n, .int .i64 n, .int .i64 m] 49)).alloc (.cells #[.int .i64 n, .int .i64 n, .int .i64 m] 31)) (w.heap.size + 1) n n m := by
    have := Blk.new (w.alloc (.cells #[.int .i64 n, .int .i64 n, .int .i64 m] 49)) 31 #[.int .i64 n, .int .i64 n, .int .i64 m]
    rwa [World.size_alloc] at this
  have HX := hide hx
  have H := hide h
  have HA := hide hA
  clear h hA hx
  go_enter Try.func3, Try.ntmps3
  go_wp2_with (first
    | (go_at_call 7; refine (new_yes n m _ H.out).mono ?_; rintro e w' ⟨rfl, rfl⟩)
    | (go_at_call 8; refine (right_any n m _).mono ?_; rintro e w' ⟨rfl, rfl⟩))
  go_loopg [10] 80 (fun k s wr => DoRel w m A len K X k s wr)
  case atStart =>
    obtain ⟨h1, h2, h3, h4⟩ := H.out
    exact ⟨0, n, n, rfl, by omega, by omega, ((Blk.new _ _ _).alloc _).same rfl, HX.out.same rfl, ⟨h3, Int.le_refl _, h4, h2⟩, ((Below.refl _ _).alloc (Nat.le_refl _) _).alloc (by simp) _⟩
  case round =>
    obtain ⟨i, n', t', rfl, hk, hil, hr, hx, hi, hb⟩ := hrel
    have HR := hide hr
    have HX' := hide hx
    have HI := hide hi
    have HB := hide hb
    have HK := hide hk
    clear hr hx hi
    by_cases hlt : i < len
    · obtain ⟨b, off, rfl, hbB, hc⟩ := HA.out (by omega)
      have c0 := (hb.cell (p := ⟨b, off + i * 2 + 0, none⟩) hbB).trans (hc i 0 hlt (by omega))
      have c1 := (hb.cell (p := ⟨b, off + i * 2 + 1, none⟩) hbB).trans (hc i 1 hlt (by omega))
      simp [actAt] at c0 c1
      clear hc
      by_cases h80 : i < 80
      · clear hk hb
        go_wp2_with fail
        refine (do_any _ _ n' t' m wr HR.out HX'.out HI.out (K i) (X i)).mono ?_
        rintro e w2 ⟨k2, n2, t2, ⟨hi2, _⟩, rfl, hr2, hx2, hc2⟩
        have hb2 := HB.out.trans (hc2.below HB.out.size (fun j hj => by rcases hj with rfl | rfl <;> omega))
        have x0 := hx2.cell 0
        have x1 := hx2.cell 1
        have x2 := hx2.cell 2
        simp at x0 x1 x2
        obtain ⟨j0, j1, j2, j3⟩ := id hi2
        have HI2 := hide hi2
        have HR2 := hide hr2
        have HX2 := hide hx2
        have HB2 := hide hb2
        clear hi2 hr2 hx2 hb2 hc2
        go_wp2_with fail
        go_quiet ((first | (go_at_call 11; exact Calls.quiet_of (left_any _ n2 t2 m (w2.drewN _) (HR2.out.drewN _) HI2.out)) | (go_at_call 12; exact Calls.quiet_of_same (top_any _ n2 t2 m (w2.drewN _) (HR2.out.drewN _)))))
        go_wp2_with fail
        have hk := HK.out
        go_roundg (gk - 1)
        case measure => omega
        case rel => exact ⟨i + 1, n2, t2, by go_num, by omega, by omega, HR2.out.same rfl, HX2.out.same rfl, HI2.out, below_drewN HB2.out _⟩
      · have h80' : (80 : Int) ≤ (i : Int) := by omega
        clear hk hb h80
        go_wp2_with (first | (go_at_call 9; refine (awake_any _).mono ?_; rintro e w' ⟨rfl, hb'⟩))
        go_ret
        exact ⟨rfl, HB.out.trans (hb'.mono HB.out.size)⟩
    · have hge : (len : Int) ≤ (i : Int) := by omega
      clear hk hb hlt
      go_wp2_with (first | (go_at_call 9; refine (awake_any _).mono ?_; rintro e w' ⟨rfl, hb'⟩))
      go_ret
      exact ⟨rfl, HB.out.trans (hb'.mono HB.out.size)⟩
end Go.Proofs.Ythdkjcocblnimaa.Ivs
