/- The contract of gf's product of rows. -/
import Derived.Test.YtegimagdlcbljaaGfCols
import Derived.Test.YtegimagdlcbljaaBytes
namespace Go.Proofs.Ytegimagdlcbljaa.Gf
open Go.RowKit Go.Proofs.Ytegimagdlcbljaa.W
set_option linter.unusedVariables false
set_option linter.unusedSimpArgs false

def rowN (p q : List (BitVec 8)) : Nat → BitVec 8
  | 0 => 0#8
  | n + 1 => ad (rowN p q n) (mu (p.getD n 0#8) (q.getD n 0#8))

def RowRel (w : World) (p q : List (BitVec 8)) (n : Nat) (k : Nat) (s5 s12 : Value) (wr : World) : Prop :=
  ∃ i : Nat, s5 = .int .u8 ((rowN p q i).toNat : Int) ∧ s12 = .int .i64 (i : Int) ∧ i + k = n ∧ Below w.heap.size w wr

set_option maxRecDepth 100000 in
set_option maxHeartbeats 2000000 in
theorem row_any (A B : Option Addr) (n m c d l : Nat) (p q : List (BitVec 8)) (w : World) (hA : BytesAt w w.heap.size A n p) (hB : BytesAt w w.heap.size B m q) (hn : n ≤ maxLen) (hm : m ≤ maxLen) (hl : l = min n m) :
    Calls Try.prog 22 #[.slice A n c, .slice B m d] w fun e w' => e = .returned (.int .u8 ((rowN p q l).toNat : Int)) ∧ Below w.heap.size w w' := by
  have HA := hide hA
  have HB := hide hB
  clear hA hB
  have hln : l ≤ n := by omega
  have hlm : l ≤ m := by omega
  have hlM : l ≤ maxLen := by omega
  simp only [maxLen] at hlM
  have hcase : (m < n ∧ l = m) ∨ (decide (m < n) = false ∧ l = n) := by
    rcases Nat.lt_or_ge m n with h | h
    · exact .inl ⟨h, by omega⟩
    · exact .inr ⟨by simp; omega, by omega⟩
  clear hl
  rcases hcase with ⟨hmn, rfl⟩ | ⟨hmn, rfl⟩
  all_goals
    go_enter Try.func22, Try.ntmps22
    go_wp2_with fail
    go_loopg [5, 12] l (fun k s5 s12 wr => RowRel w p q l k s5 s12 wr)
    case atStart => exact ⟨0, rfl, rfl, by omega, Below.refl _ _⟩
    case round =>
      obtain ⟨i, rfl, rfl, hk, hb⟩ := hrel
      have HBl := hide hb
      by_cases hi : i < l
      · obtain ⟨b1, o1, rfl, hb1, hc1⟩ := HA.out.2 (by omega)
        obtain ⟨b2, o2, rfl, hb2, hc2⟩ := HB.out.2 (by omega)
        have lp := HA.out.1
        have lq := HB.out.1
        have hp : p[i]? = some (p.getD i 0#8) := by rw [List.getD_eq_getElem?_getD, List.getElem?_eq_getElem (by omega)]; rfl
        have hq : q[i]? = some (q.getD i 0#8) := by rw [List.getD_eq_getElem?_getD, List.getElem?_eq_getElem (by omega)]; rfl
        have cp := (hb.cell (B := w.heap.size) (show (⟨b1, o1 + i, none⟩ : Addr).block < _ from hb1)).trans (hc1 i _ hp)
        have cq := (hb.cell (B := w.heap.size) (show (⟨b2, o2 + i, none⟩ : Addr).block < _ from hb2)).trans (hc2 i _ hq)
        have HC1 := hide hc1
        have HC2 := hide hc2
        have HP := hide hp
        have HQ := hide hq
        obtain ⟨x, hx⟩ : ∃ x, p.getD i 0#8 = x := ⟨_, rfl⟩
        obtain ⟨y, hy⟩ : ∃ y, q.getD i 0#8 = y := ⟨_, rfl⟩
        obtain ⟨o, ho⟩ : ∃ o, rowN p q i = o := ⟨_, rfl⟩
        rw [hx] at cp
        rw [hy] at cq
        rw [ho]
        have HX := hide hx
        have HY := hide hy
        have HO := hide ho
        try (have hin : i < n := by omega)
        try (have him : i < m := by omega)
        have hgk : 0 < gk := by omega
        clear hc1 hc2 hp hq lp lq hb hx hy ho
        go_wp2_with fail
        go_region_with (first
          | (go_at_call 9; refine (add_any _ _ _).mono ?_; rintro e w' ⟨rfl, rfl⟩)
          | (go_at_call 11; refine (mul_any _ _ _).mono ?_; rintro e w' ⟨rfl, hbm⟩))
        all_goals
          go_wp2_with fail
          go_roundg (gk - 1)
          case measure => omega
          case rel =>
            refine ⟨i + 1, ?_, by go_num, by omega, (below_drewN HBl.out 1).trans (hbm.mono HBl.out.size)⟩
            rw [rowN, HO.out, HX.out, HY.out]
      · have hi' : decide (i < l) = false := by simp; omega
        have hil : i = l := by omega
        have HI := hide hil
        clear hi hil hb
        go_wp2_with fail
        go_ret
        exact ⟨by rw [HI.out]; rfl, HBl.out⟩
end Go.Proofs.Ytegimagdlcbljaa.Gf
