/- The laws of ivs without lists, walked. -/
import Derived.Test.YthdkjcocblnimaaIvsRef
namespace Go.Proofs.Ythdkjcocblnimaa.Ivs
open Go.RowKit Go.Proofs.Ythdkjcocblnimaa.W
set_option linter.unusedVariables false
set_option linter.unusedSimpArgs false

theorem awake_any (w : World) : Calls Try.prog 9 #[] w fun e w' => e = .returned (.bool true) ∧ Below w.heap.size w w' := by
  have h0 : IsRow (w.alloc (.cells #[.int .i64 5, .int .i64 5, .int .i64 30] 49)) w.heap.size 5 5 30 := Blk.new _ _ _
  have h1 : IsRow (w.alloc (.cells #[.int .i64 5, .int .i64 21, .int .i64 30] 49)) w.heap.size 5 21 30 := Blk.new _ _ _
  have h2 : IsRow (w.alloc (.cells #[.int .i64 6, .int .i64 21, .int .i64 30] 49)) w.heap.size 6 21 30 := Blk.new _ _ _
  have i0 : Inv 5 5 30 := by unfold Inv; omega
  have i1 : Inv 5 21 30 := by unfold Inv; omega
  have i2 : Inv 6 21 30 := by unfold Inv; omega
  have hb : Below w.heap.size w (w.alloc (.cells #[.int .i64 6, .int .i64 21, .int .i64 30] 49)) := (Below.refl _ _).alloc (Nat.le_refl _) _
  have H0 := hide h0
  have H1 := hide h1
  have H2 := hide h2
  have I0 := hide i0
  have I1 := hide i1
  have I2 := hide i2
  have HB := hide hb
  have en : nd 5 30 = 21 := by decide
  clear h0 h1 h2 i0 i1 i2 hb
  go_enter Try.func9, Try.ntmps9
  go_wp2_with (first
    | (go_at_call 7; refine (new_yes 5 30 _ (by omega)).mono ?_; rintro e w' ⟨rfl, rfl⟩)
    | (go_at_call 13; refine (need_yes _ 5 5 30 _ ?_ I0.out rfl (by omega)).mono ?_; exact H0.out.same rfl; rintro e w' ⟨rfl, k, rfl⟩)
    | (go_at_call 14; refine (raise_yes _ 5 5 30 21 _ ?_ (by omega) (by omega)).mono ?_; exact H0.out.same rfl; rintro e w' ⟨rfl, k, rfl⟩)
    | (go_at_call 15; refine (take_one _ 5 21 30 _ ?_ I1.out (by omega) (by omega)).mono ?_; exact H1.out.same rfl; rintro e w' ⟨rfl, k, rfl⟩)
    | (go_at_call 11; refine (left_any _ 6 21 30 _ ?_ I2.out).mono ?_; exact H2.out.same rfl; rintro e w' ⟨rfl, k, rfl⟩)
    | (go_at_call 12; refine (top_any _ 6 21 30 _ ?_).mono ?_; exact H2.out.same rfl; rintro e w' ⟨rfl, rfl⟩))
  go_ret
  exact ⟨rfl, below_drewN HB.out _⟩

def AllRel (w : World) (m : Int) (k : Nat) (s : Value) (wr : World) : Prop :=
  ∃ i t : Int, s = .int .i64 i ∧ i + k = m ∧ IsRow wr w.heap.size i t m ∧ Inv i t m ∧ Below w.heap.size w wr

set_option maxRecDepth 100000 in
set_option maxHeartbeats 1000000 in
theorem ivsAll_walk (a : Int) (w : World) (h0 : 0 ≤ a) (h1 : a < 256) :
    Calls Try.prog 5 #[.int .u8 a] w fun e w' => e = .returned (.bool true) ∧ Below w.heap.size w w' := by
  go_enter Try.func5, Try.ntmps5
  go_wp2_with (first
    | (go_at_call 7; refine (new_yes 0 (a + 1) _ (by omega)).mono ?_; rintro e w' ⟨rfl, rfl⟩))
  go_loopg [6] (a + 1).toNat (fun k s wr => AllRel w (a + 1) k s wr)
  case atStart => exact ⟨0, 0, rfl, by omega, Blk.new _ _ _, ⟨by omega, by omega, by omega, by omega⟩, (Below.refl _ _).alloc (Nat.le_refl _) _⟩
  case round =>
    obtain ⟨i, t, rfl, hk, hr, hi, hb⟩ := hrel
    obtain ⟨i0, i1, i2, i3⟩ := id hi
    have HR := hide hr
    have HI := hide hi
    have HB := hide hb
    have HK := hide hk
    have hlt := hr.lt
    by_cases hlt : i < a + 1
    · have hd : t < a + 1 → t < nd t (a + 1) ∧ nd t (a + 1) ≤ a + 1 := by intro h; unfold nd; split <;> omega
      by_cases ht : i = t
      · subst ht
        have hd' := hd (by omega)
        have hi' : Inv i (nd i (a + 1)) (a + 1) := ⟨i0, by omega, hd'.2, i3⟩
        have HI' := hide hi'
        obtain ⟨hd1, hd2⟩ := hd'
        clear hr hi hb hk hi' hd i1
        go_wp2_with (first
          | (go_at_call 13; refine (need_yes _ i i (a + 1) _ ?_ HI.out rfl hlt).mono ?_; exact HR.out.same rfl; rintro e w' ⟨rfl, k, rfl⟩)
          | (go_at_call 14; refine (raise_yes _ i i (a + 1) _ _ ?_ hd1 hd2).mono ?_; exact HR.out.same rfl; rintro e w' ⟨rfl, k, rfl⟩)
          | (go_at_call 15; refine (take_one _ i (nd i (a + 1)) (a + 1) _ ?_ HI'.out hlt hd1).mono ?_; exact (HR.out.set_ 1 _).same rfl; rintro e w' ⟨rfl, k, rfl⟩))
        have hk := HK.out
        go_roundg (gk - 1)
        case measure => omega
        case rel => exact ⟨i + 1, nd i (a + 1), rfl, by omega, ((HR.out.set_ 1 _).set_ 0 _).same rfl, ⟨by omega, by omega, hd2, by omega⟩, below_drewN ((HB.out.setCell (Nat.le_refl _) _).setCell (Nat.le_refl _) _) _⟩
      · have ht' : i < t := by omega
        clear hr hi hb hk hd ht
        go_wp2_with (first
          | (go_at_call 13; refine (need_no _ i t (a + 1) _ ?_ (.inl ht')).mono ?_; exact HR.out.same rfl; rintro e w' ⟨rfl, k, rfl⟩)
          | (go_at_call 15; refine (take_one _ i t (a + 1) _ ?_ HI.out hlt ht').mono ?_; exact HR.out.same rfl; rintro e w' ⟨rfl, k, rfl⟩))
        have hk := HK.out
        go_roundg (gk - 1)
        case measure => omega
        case rel => exact ⟨i + 1, t, rfl, by omega, (HR.out.set_ 0 _).same rfl, ⟨by omega, by omega, i2, by omega⟩, below_drewN (HB.out.setCell (Nat.le_refl _) _) _⟩
    · obtain rfl : i = a + 1 := by omega
      obtain rfl : t = a + 1 := by omega
      have hle : a + 1 ≤ a + 1 := by omega
      have HL := hide hle
      have hz : a + 1 - (a + 1) = 0 := by omega
      have hB : w.heap.size ≤ w.heap.size := Nat.le_refl _
      clear hr hi hk hlt i1 i2 hle
      go_wp2_with (first
        | (go_at_call 9; refine (awake_any _).mono ?_; rintro e w' ⟨rfl, hb'⟩)
        | (go_at_call 11; refine (left_any _ (a + 1) (a + 1) (a + 1) _ ?_ HI.out).mono ?_; exact later hb' (HR.out.same rfl); rintro e w' ⟨rfl, k, rfl⟩)
        | (go_at_call 13; refine (need_no _ (a + 1) (a + 1) (a + 1) _ ?_ (.inr HL.out)).mono ?_; exact HR.out.same rfl; rintro e w' ⟨rfl, k, rfl⟩)
        | (go_at_call 15; refine (take_all _ (a + 1) (a + 1) (a + 1) _ ?_ HL.out).mono ?_; exact HR.out.same rfl; rintro e w' ⟨rfl, k, rfl⟩))
      go_ret
      exact ⟨rfl, below_drewN ((below_drewN HB.out _).trans (hb'.mono HB.out.size)) _⟩

theorem need_nil (w : World) : Calls Try.prog 13 #[.pointer none] w fun e w' => e = .returned (.tuple #[.int .i64 0, .bool false]) ∧ ∃ k, w' = w.drewN k := by
  go_enter Try.func13, Try.ntmps13
  go_wp2
  go_quiet (fail)
  go_wp2
  go_ret2
  exact ⟨rfl, _, rfl⟩
theorem take_nil (w : World) : Calls Try.prog 15 #[.pointer none] w fun e w' => e = .returned (.tuple #[.int .i64 0, .int .i64 1]) ∧ w' = w := by
  go_enter Try.func15, Try.ntmps15
  go_wp2
  go_ret2
  exact ⟨rfl, rfl⟩
theorem raise_nil (x : Int) (w : World) : Calls Try.prog 14 #[.pointer none, .int .i64 x] w fun e w' => e = .returned (.int .i64 1) ∧ w' = w := by
  go_enter Try.func14, Try.ntmps14
  go_wp2
  go_ret
  exact ⟨rfl, rfl⟩
theorem left_nil (w : World) : Calls Try.prog 11 #[.pointer none] w fun e w' => e = .returned (.int .i64 0) ∧ w' = w := by
  go_enter Try.func11, Try.ntmps11
  go_wp2
  go_ret
  exact ⟨rfl, rfl⟩
theorem top_nil (w : World) : Calls Try.prog 12 #[.pointer none] w fun e w' => e = .returned (.int .i64 0) ∧ w' = w := by
  go_enter Try.func12, Try.ntmps12
  go_wp2
  go_ret
  exact ⟨rfl, rfl⟩
theorem copy_nil (w : World) : Calls Try.prog 16 #[.pointer none] w fun e w' => e = .returned (.pointer none) ∧ w' = w := by
  go_enter Try.func16, Try.ntmps16
  go_wp2
  go_ret
  exact ⟨rfl, rfl⟩
def CopyPost (w : World) (n t m : Int) (e : Ending) (w' : World) : Prop :=
  e = .returned (.pointer (some ⟨w.heap.size, 0, none⟩)) ∧ w' = w.alloc (.cells #[.int .i64 n, .int .i64 t, .int .i64 m] 49)
theorem copy_any (g : Nat) (n t m : Int) (w : World) (h : IsRow w g n t m) : Calls Try.prog 16 #[.pointer (some ⟨g, 0, none⟩)] w (CopyPost w n t m) := by
  have c0 := h.cell 0
  have c1 := h.cell 1
  have c2 := h.cell 2
  simp at c0 c1 c2
  clear h
  go_enter Try.func16, Try.ntmps16
  go_wp2
  go_ret
  exact ⟨rfl, rfl⟩

set_option maxRecDepth 100000 in
set_option maxHeartbeats 1000000 in
theorem ivsNone_walk (n : Int) (a b : Int) (w : World) (a0 : 0 ≤ a) (a1 : a < 256) (b0 : 0 ≤ b) (b1 : b < 256) :
    Calls Try.prog 6 #[.int .i64 n, .int .u8 a, .int .u8 b] w fun e w' => e = .returned (.bool true) ∧ Below w.heap.size w w' := by
  have z1 : (b + 300 - a == b + 300 - (a + 1) + 1) = true := by simp; omega
  have i1 : Inv a a (b + 300) := by unfold Inv; omega
  have i2 : Inv a (a + 5) (b + 300) := by unfold Inv; omega
  have i3 : Inv (a + 1) (a + 5) (b + 300) := by unfold Inv; omega
  have I1 := hide i1
  have I2 := hide i2
  have I3 := hide i3
  have k1 : a < a + 5 := by omega
  have k2 : a + 5 ≤ b + 300 := by omega
  have k3 : a < b + 300 := by omega
  have K := hide (And.intro k1 (And.intro k2 k3))
  have X0 : IsRow (w.alloc (.cells #[.int .i64 a, .int .i64 a, .int .i64 (b + 300)] 49)) w.heap.size a a (b + 300) := Blk.new _ _ _
  have C0 : IsRow ((w.alloc (.cells #[.int .i64 a, .int .i64 a, .int .i64 (b + 300)] 49)).alloc (.cells #[.int .i64 a, .int .i64 a, .int .i64 (b + 300)] 49)) (w.heap.size + 1) a a (b + 300) := by
    have := Blk.new (w.alloc (.cells #[.int .i64 a, .int .i64 a, .int .i64 (b + 300)] 49)) 49 #[.int .i64 a, .int .i64 a, .int .i64 (b + 300)]
    rwa [World.size_alloc] at this
  have C1 : IsRow ((w.alloc (.cells #[.int .i64 a, .int .i64 a, .int .i64 (b + 300)] 49)).alloc (.cells #[.int .i64 a, .int .i64 (a + 5), .int .i64 (b + 300)] 49)) (w.heap.size + 1) a (a + 5) (b + 300) := by
    have := Blk.new (w.alloc (.cells #[.int .i64 a, .int .i64 a, .int .i64 (b + 300)] 49)) 49 #[.int .i64 a, .int .i64 (a + 5), .int .i64 (b + 300)]
    rwa [World.size_alloc] at this
  have C2 : IsRow ((w.alloc (.cells #[.int .i64 a, .int .i64 a, .int .i64 (b + 300)] 49)).alloc (.cells #[.int .i64 (a + 1), .int .i64 (a + 5), .int .i64 (b + 300)] 49)) (w.heap.size + 1) (a + 1) (a + 5) (b + 300) := by
    have := Blk.new (w.alloc (.cells #[.int .i64 a, .int .i64 a, .int .i64 (b + 300)] 49)) 49 #[.int .i64 (a + 1), .int .i64 (a + 5), .int .i64 (b + 300)]
    rwa [World.size_alloc] at this
  have X2 : IsRow ((w.alloc (.cells #[.int .i64 a, .int .i64 a, .int .i64 (b + 300)] 49)).alloc (.cells #[.int .i64 (a + 1), .int .i64 (a + 5), .int .i64 (b + 300)] 49)) w.heap.size a a (b + 300) := X0.alloc _
  have B2 : Below w.heap.size w ((w.alloc (.cells #[.int .i64 a, .int .i64 a, .int .i64 (b + 300)] 49)).alloc (.cells #[.int .i64 (a + 1), .int .i64 (a + 5), .int .i64 (b + 300)] 49)) := ((Below.refl _ _).alloc (Nat.le_refl _) _).alloc (by simp) _
  have HX0 := hide X0
  have HC0 := hide C0
  have HC1 := hide C1
  have HC2 := hide C2
  have HX2 := hide X2
  have HB2 := hide B2
  clear X0 C0 C1 C2 X2 B2 i1 i2 i3 k1 k2 k3
  go_enter Try.func6, Try.ntmps6
  go_wp2_with fail
  refine (need_nil _).mono ?_
  rintro e w' ⟨rfl, k, rfl⟩
  go_wp2_with fail
  refine (take_nil _).mono ?_
  rintro e w' ⟨rfl, rfl⟩
  go_wp2_with fail
  refine (new_yes a (b + 300) _ (by omega)).mono ?_
  rintro e w' ⟨rfl, rfl⟩
  go_wp2_with fail
  refine (copy_any w.heap.size a a (b + 300) _ ?_).mono ?_
  · exact HX0.out.same rfl
  rintro e w' ⟨rfl, rfl⟩
  go_wp2_with fail
  refine (raise_yes (w.heap.size + 1) a a (b + 300) (a + 5) _ ?_ K.out.1 K.out.2.1).mono ?_
  · exact HC0.out.same rfl
  rintro e w' ⟨rfl, k, rfl⟩
  go_wp2_with fail
  refine (take_one (w.heap.size + 1) a (a + 5) (b + 300) _ ?_ I2.out K.out.2.2 K.out.1).mono ?_
  · exact HC1.out.same rfl
  rintro e w' ⟨rfl, k, rfl⟩
  go_wp2_with fail
  refine (awake_any _).mono ?_
  rintro e wa ⟨rfl, hb'⟩
  have XA : IsRow wa w.heap.size a a (b + 300) := later hb' (HX2.out.same rfl)
  have CA : IsRow wa (w.heap.size + 1) (a + 1) (a + 5) (b + 300) := later hb' (HC2.out.same rfl)
  have BA : Below w.heap.size w wa := (below_drewN HB2.out _).trans (hb'.mono (by simp; omega))
  have HXA := hide XA
  have HCA := hide CA
  have HBA := hide BA
  clear XA CA BA hb'
  go_wp2_with fail
  refine (raise_nil _ _).mono ?_
  rintro e w' ⟨rfl, rfl⟩
  go_wp2_with fail
  refine (left_nil _).mono ?_
  rintro e w' ⟨rfl, rfl⟩
  go_wp2_with fail
  refine (top_nil _).mono ?_
  rintro e w' ⟨rfl, rfl⟩
  go_wp2_with fail
  refine (copy_nil _).mono ?_
  rintro e w' ⟨rfl, rfl⟩
  go_wp2_with fail
  refine (top_any w.heap.size a a (b + 300) _ HXA.out).mono ?_
  rintro e w' ⟨rfl, rfl⟩
  go_wp2_with fail
  refine (top_any (w.heap.size + 1) (a + 1) (a + 5) (b + 300) _ HCA.out).mono ?_
  rintro e w' ⟨rfl, rfl⟩
  go_wp2_with fail
  refine (left_any w.heap.size a a (b + 300) _ HXA.out I1.out).mono ?_
  rintro e w' ⟨rfl, k, rfl⟩
  go_wp2_with fail
  refine (left_any (w.heap.size + 1) (a + 1) (a + 5) (b + 300) _ ?_ I3.out).mono ?_
  · exact HCA.out.same rfl
  rintro e w' ⟨rfl, k, rfl⟩
  go_wp2_with fail
  go_ret
  exact ⟨rfl, (below_drewN HBA.out _)⟩
end Go.Proofs.Ythdkjcocblnimaa.Ivs
