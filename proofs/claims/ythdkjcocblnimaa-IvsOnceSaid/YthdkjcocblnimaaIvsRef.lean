/- Contracts of the reference's row, and of a call of both. -/
import Derived.Test.YthdkjcocblnimaaIvsWalk
namespace Go.Proofs.Ythdkjcocblnimaa.Ivs
open Go.RowKit Go.Proofs.Ythdkjcocblnimaa.W
set_option linter.unusedVariables false
set_option linter.unusedSimpArgs false

def IsRef (w : World) (g : Nat) (n t m : Int) : Prop := Blk w g 31 #[.int .i64 n, .int .i64 t, .int .i64 m]

theorem right_any (n m : Int) (w : World) :
    Calls Try.prog 8 #[.int .i64 n, .int .i64 m] w fun e w' => e = .returned (.bool (wi m 1 1099511627776 && wi n 0 m)) ∧ w = w' := by
  by_cases h1 : 1 ≤ m
  · by_cases h2 : m ≤ 1099511627776
    · by_cases h3 : 0 ≤ n
      · by_cases h4 : n ≤ m
        · have e : (wi m 1 1099511627776 && wi n 0 m) = true := by simp [wi]; omega
          have E := hide e
          clear e
          go_enter Try.func8, Try.ntmps8
          go_wp2
          go_ret
          exact ⟨ret_bool E.out.symm, rfl⟩
        · have e : (wi m 1 1099511627776 && wi n 0 m) = false := by simp [wi]; omega
          have E := hide e
          clear e
          go_enter Try.func8, Try.ntmps8
          go_wp2
          go_ret
          exact ⟨ret_bool E.out.symm, rfl⟩
      · have e : (wi m 1 1099511627776 && wi n 0 m) = false := by simp [wi]; omega
        have E := hide e
        clear e
        go_enter Try.func8, Try.ntmps8
        go_wp2
        go_ret
        exact ⟨ret_bool E.out.symm, rfl⟩
    · have e : (wi m 1 1099511627776 && wi n 0 m) = false := by simp [wi]; omega
      have E := hide e
      clear e
      go_enter Try.func8, Try.ntmps8
      go_wp2
      go_ret
      exact ⟨ret_bool E.out.symm, rfl⟩
  · have e : (wi m 1 1099511627776 && wi n 0 m) = false := by simp [wi]; omega
    have E := hide e
    clear e
    go_enter Try.func8, Try.ntmps8
    go_wp2
    go_ret
    exact ⟨ret_bool E.out.symm, rfl⟩

theorem rneed_no (g : Nat) (n t m : Int) (w : World) (h : IsRef w g n t m) (hi : Inv n t m) (hn : n < t ∨ m ≤ t) :
    Calls Try.prog 18 #[.pointer (some ⟨g, 0, none⟩)] w fun e w' => e = .returned (.tuple #[.int .i64 0, .bool false]) ∧ ∃ k, w' = w.drewN k := by
  obtain ⟨h0, h1, h2, h3⟩ := hi
  have c0 := h.cell 0
  have c1 := h.cell 1
  have c2 := h.cell 2
  simp at c0 c1 c2
  clear h
  by_cases h4 : n = t
  · have h1' : (n != t) = false := by simpa using h4
    have h2' : (t == m) = true := by simp; omega
    clear hn h4
    go_enter Try.func18, Try.ntmps18
    go_wp2
    go_quiet (fail)
    go_wp2
    go_ret2
    exact ⟨rfl, _, rfl⟩
  · have h1' : (n != t) = true := by simpa using h4
    clear hn h4
    go_enter Try.func18, Try.ntmps18
    go_wp2
    go_quiet (fail)
    go_wp2
    go_ret2
    exact ⟨rfl, _, rfl⟩

theorem rneed_yes (g : Nat) (n t m : Int) (w : World) (h : IsRef w g n t m) (hi : Inv n t m) (hn : n = t) (hm : t < m) :
    Calls Try.prog 18 #[.pointer (some ⟨g, 0, none⟩)] w fun e w' => e = .returned (.tuple #[.int .i64 (nd t m), .bool true]) ∧ ∃ k, w' = w.drewN k := by
  obtain ⟨h0, h1, h2, h3⟩ := hi
  have c0 := h.cell 0
  have c1 := h.cell 1
  have c2 := h.cell 2
  simp at c0 c1 c2
  clear h
  have h1' : (n != t) = false := by simpa using hn
  have h2' : (t == m) = false := by simp; omega
  have h5 : 0 ≤ t := by omega
  have h6 : t ≤ 1099511627776 := by omega
  clear hn
  by_cases h7 : m < t + 16
  · have e1 : nd t m = m := if_pos h7
    have E1 := hide e1
    clear e1
    go_enter Try.func18, Try.ntmps18
    go_wp2
    go_quiet (fail)
    go_wp2
    go_ret2
    rw [E1.out]
    exact ⟨rfl, _, rfl⟩
  · have e1 : nd t m = t + 16 := if_neg h7
    have E1 := hide e1
    clear e1
    go_enter Try.func18, Try.ntmps18
    go_wp2
    go_quiet (fail)
    go_wp2
    go_ret2
    rw [E1.out]
    exact ⟨rfl, _, rfl⟩

theorem rtake_all (g : Nat) (n t m : Int) (w : World) (h : IsRef w g n t m) (hn : n = m) :
    Calls Try.prog 19 #[.pointer (some ⟨g, 0, none⟩)] w fun e w' => e = .returned (.tuple #[.int .i64 0, .int .i64 16]) ∧ ∃ k, w' = w.drewN k := by
  have c0 := h.cell 0
  have c1 := h.cell 1
  have c2 := h.cell 2
  simp at c0 c1 c2
  clear h
  have h1' : (n == m) = true := by simpa using hn
  clear hn
  go_enter Try.func19, Try.ntmps19
  go_wp2
  go_quiet (fail)
  go_wp2
  go_ret2
  exact ⟨rfl, _, rfl⟩

theorem rtake_top (g : Nat) (n t m : Int) (w : World) (h : IsRef w g n t m) (hn : n ≠ m) (ht : n = t) :
    Calls Try.prog 19 #[.pointer (some ⟨g, 0, none⟩)] w fun e w' => e = .returned (.tuple #[.int .i64 0, .int .i64 14]) ∧ ∃ k, w' = w.drewN k := by
  have c0 := h.cell 0
  have c1 := h.cell 1
  have c2 := h.cell 2
  simp at c0 c1 c2
  clear h
  have h1' : (n == m) = false := by simpa using hn
  have h2' : (n == t) = true := by simpa using ht
  clear hn ht
  go_enter Try.func19, Try.ntmps19
  go_wp2
  go_quiet (fail)
  go_wp2
  go_quiet (fail)
  go_wp2
  go_ret2
  first | exact ⟨rfl, _, rfl⟩ | exact ⟨rfl, _, World.drewN_drewN _ _ _⟩

theorem rtake_one (g : Nat) (n t m : Int) (w : World) (h : IsRef w g n t m) (hi : Inv n t m) (hn : n ≠ m) (ht : n ≠ t) :
    Calls Try.prog 19 #[.pointer (some ⟨g, 0, none⟩)] w fun e w' => e = .returned (.tuple #[.int .i64 n, .int .i64 0]) ∧ ∃ k, w' = (w.setCell ⟨g, 0, none⟩ (.int .i64 (n + 1))).drewN k := by
  obtain ⟨h0, h1, h2, h3⟩ := hi
  have c0 := h.cell 0
  have c1 := h.cell 1
  have c2 := h.cell 2
  have f0 := h.frozen 0
  simp at c0 c1 c2
  clear h
  have h1' : (n == m) = false := by simpa using hn
  have h2' : (n == t) = false := by simpa using ht
  clear hn ht
  go_enter Try.func19, Try.ntmps19
  go_wp2
  go_quiet (fail)
  go_wp2
  go_quiet (fail)
  go_wp2
  go_ret2
  first | exact ⟨rfl, _, rfl⟩ | exact ⟨rfl, _, World.drewN_drewN _ _ _⟩

/-- What a call of both does. -/
def DoPost (w : World) (g g' : Nat) (k n t m : Int) (e : Ending) (w' : World) : Prop :=
  e = .returned (.tuple #[.int .i64 k, .bool true]) ∧ IsRow w' g n t m ∧ IsRef w' g' n t m ∧ Chg (two g g') w w'

section
variable (g g' : Nat) (n t m : Int) (w : World) (hr : IsRow w g n t m) (hx : IsRef w g' n t m) (hi : Inv n t m)
include hr hx hi
theorem do_raise_no (x : Int) (hn : x ≤ t ∨ m < x) :
    Calls Try.prog 10 #[.pointer (some ⟨g, 0, none⟩), .pointer (some ⟨g', 0, none⟩), .agg #[.int .i64 4, .int .i64 x]] w (DoPost w g g' (-1) n t m) := by
  have c1 := hx.cell 1
  have c2 := hx.cell 2
  have l1 := hr.lt
  have l2 := hx.lt
  simp at c1 c2
  have hne := hr.ne_ hx (by decide)
  have HR := hide hr
  have HX := hide hx
  have HI := hide hi
  clear hr hx hi
  by_cases h1 : x ≤ t
  · have h1' : decide (x ≤ t) = true := by simpa using h1
    go_enter Try.func10, Try.ntmps10
    go_wp2
    go_quiet (fail)
    go_wp2_with (first | (go_at_call 14; refine (raise_no g n t m _ _ ?_ hn).mono ?_; exact (HR.out.alloc _).same rfl; rintro e w' ⟨rfl, k, rfl⟩))
    go_ret2
    exact ⟨rfl, (HR.out.alloc _).same rfl, (HX.out.alloc _).same rfl, ((Chg.refl _ _).alloc _).same rfl rfl rfl rfl⟩
  · have h1' : decide (x ≤ t) = false := by simpa using h1
    have h2 : m < x := by omega
    go_enter Try.func10, Try.ntmps10
    go_wp2
    go_quiet (fail)
    go_wp2_with (first | (go_at_call 14; refine (raise_no g n t m _ _ ?_ hn).mono ?_; exact (HR.out.alloc _).same rfl; rintro e w' ⟨rfl, k, rfl⟩))
    go_ret2
    exact ⟨rfl, (HR.out.alloc _).same rfl, (HX.out.alloc _).same rfl, ((Chg.refl _ _).alloc _).same rfl rfl rfl rfl⟩

theorem do_raise_yes (x : Int) (h1 : t < x) (h2 : x ≤ m) :
    Calls Try.prog 10 #[.pointer (some ⟨g, 0, none⟩), .pointer (some ⟨g', 0, none⟩), .agg #[.int .i64 4, .int .i64 x]] w (DoPost w g g' (-1) n x m) := by
  have c1 := hx.cell 1
  have c2 := hx.cell 2
  have f1 := hx.frozen 1
  have l1 := hr.lt
  have l2 := hx.lt
  simp at c1 c2
  have hne := hr.ne_ hx (by decide)
  have HR := hide hr
  have HX := hide hx
  have HI := hide hi
  clear hr hx hi
  have h1' : decide (x ≤ t) = false := by simpa using h1
  have h2' : decide (m < x) = false := by simpa using h2
  go_enter Try.func10, Try.ntmps10
  go_wp2
  go_quiet (fail)
  go_wp2_with (first | (go_at_call 14; refine (raise_yes g n t m _ _ ?_ (by omega) (by omega)).mono ?_; exact ((HR.out.far hne _).alloc _).same rfl; rintro e w' ⟨rfl, k, rfl⟩))
  go_ret2
  refine ⟨rfl, (((HR.out.far hne _).set_ 1 _).alloc _).same rfl, (((HX.out.set_ 1 _).far (Ne.symm hne) _).alloc _).same rfl, ?_⟩
  exact ((((Chg.refl _ _).setCell (.inl (.inr rfl)) _).setCell (.inl (.inl rfl)) _).alloc _).same rfl rfl rfl rfl

theorem do_top (a : Int) (ha : ¬ a = 4) (h3 : ¬ a = 3) (x : Int) (hn : n = t) (hm : t < m) :
    Calls Try.prog 10 #[.pointer (some ⟨g, 0, none⟩), .pointer (some ⟨g', 0, none⟩), .agg #[.int .i64 a, .int .i64 x]] w (DoPost w g g' n (n + 1) (nd t m) m) := by
  have f1 := hx.frozen 1
  have c1 := hx.cell 1
  have l1 := hr.lt
  have l2 := hx.lt
  simp at c1
  have hne := hr.ne_ hx (by decide)
  have HR := hide hr
  have HX := hide hx
  have hd : t < nd t m ∧ nd t m ≤ m := by unfold nd; split <;> omega
  have hd1 : t < nd t m := by omega
  have hd2 : nd t m ≤ m := by omega
  have hi' : Inv n (nd t m) m := ⟨hi.1, by omega, hd.2, hi.2.2.2⟩
  have HI := hide hi
  have HI' := hide hi'
  have HN := hide hn
  have n1 : n < m := by omega
  have n2 : n < nd t m := by omega
  have n3 : n ≠ m := by omega
  have n4 : n ≠ nd t m := by omega
  have N := hide (And.intro n1 (And.intro n2 (And.intro n3 n4)))
  have a1 : (a == 4) = false := by simpa using ha
  have a2 : (a != 3) = true := by simpa using h3
  clear hr hx hi hi' hn hd n1 n2 n3 n4
  go_enter Try.func10, Try.ntmps10
  go_wp2_with (first
    | (go_at_call 13; refine (need_yes g n t m _ ?_ HI.out HN.out hm).mono ?_; exact (HR.out.alloc _).same rfl; rintro e w' ⟨rfl, k, rfl⟩)
    | (go_at_call 18; refine (rneed_yes g' n t m _ ?_ HI.out HN.out hm).mono ?_; exact (HX.out.alloc _).same rfl; rintro e w' ⟨rfl, k, rfl⟩)
    | (go_at_call 14; (refine (raise_yes g n t m _ _ ?_ hd1 hd2).mono ?_; exact (HR.out.alloc _).same rfl); rintro e w' ⟨rfl, k, rfl⟩)
    | (go_at_call 15; refine (take_one g n (nd t m) m _ ?_ HI'.out N.out.1 N.out.2.1).mono ?_; exact (((HR.out.set_ 1 _).far hne _).alloc _).same rfl; rintro e w' ⟨rfl, k, rfl⟩)
    | (go_at_call 19; refine (rtake_one g' n (nd t m) m _ ?_ HI'.out N.out.2.2.1 N.out.2.2.2).mono ?_; exact ((((HX.out.far (Ne.symm hne) _).set_ 1 _).far (Ne.symm hne) _).alloc _).same rfl; rintro e w' ⟨rfl, k, rfl⟩))
  go_ret2
  refine ⟨rfl, (((((HR.out.set_ 1 _).far hne _).set_ 0 _).far hne _).alloc _).same rfl, (((((HX.out.far (Ne.symm hne) _).set_ 1 _).far (Ne.symm hne) _).set_ 0 _).alloc _).same rfl, ?_⟩
  exact ((((((Chg.refl _ _).setCell (.inl (.inl rfl)) _).setCell (.inl (.inr rfl)) _).setCell (.inl (.inl rfl)) _).setCell (.inl (.inr rfl)) _).alloc _).same rfl rfl rfl rfl

theorem do_alone (x : Int) (hn : n = t) (hm : t < m) :
    Calls Try.prog 10 #[.pointer (some ⟨g, 0, none⟩), .pointer (some ⟨g', 0, none⟩), .agg #[.int .i64 3, .int .i64 x]] w (DoPost w g g' (-1) n t m) := by
  have l1 := hr.lt
  have l2 := hx.lt
  have hne := hr.ne_ hx (by decide)
  have HR := hide hr
  have HX := hide hx
  have HI := hide hi
  have HN := hide hn
  have n1 : n < m := by omega
  have n2 : t ≤ n := by omega
  have n3 : n ≠ m := by omega
  have N := hide (And.intro n1 (And.intro n2 n3))
  clear hr hx hi hn n1 n2 n3
  go_enter Try.func10, Try.ntmps10
  go_wp2_with (first
    | (go_at_call 13; refine (need_yes g n t m _ ?_ HI.out HN.out hm).mono ?_; exact (HR.out.alloc _).same rfl; rintro e w' ⟨rfl, k, rfl⟩)
    | (go_at_call 18; refine (rneed_yes g' n t m _ ?_ HI.out HN.out hm).mono ?_; exact (HX.out.alloc _).same rfl; rintro e w' ⟨rfl, k, rfl⟩)
    | (go_at_call 15; (refine (take_top g n t m _ ?_ N.out.1 N.out.2.1).mono ?_; exact (HR.out.alloc _).same rfl); rintro e w' ⟨rfl, k, rfl⟩)
    | (go_at_call 19; refine (rtake_top g' n t m _ ?_ N.out.2.2 HN.out).mono ?_; exact (HX.out.alloc _).same rfl; rintro e w' ⟨rfl, k, rfl⟩))
  go_ret2
  exact ⟨rfl, (HR.out.alloc _).same rfl, (HX.out.alloc _).same rfl, ((Chg.refl _ _).alloc _).same rfl rfl rfl rfl⟩

theorem do_some (a : Int) (ha : ¬ a = 4) (x : Int) (hn : n < t) :
    Calls Try.prog 10 #[.pointer (some ⟨g, 0, none⟩), .pointer (some ⟨g', 0, none⟩), .agg #[.int .i64 a, .int .i64 x]] w (DoPost w g g' n (n + 1) t m) := by
  have l1 := hr.lt
  have l2 := hx.lt
  have hne := hr.ne_ hx (by decide)
  have HR := hide hr
  have HX := hide hx
  have n1 : n < m := by have := hi.2.2.1; omega
  have n2 : n < t := by omega
  have n3 : n ≠ m := by omega
  have n4 : n ≠ t := by omega
  have N := hide (And.intro n1 (And.intro n2 (And.intro n3 n4)))
  have HI := hide hi
  have a1 : (a == 4) = false := by simpa using ha
  clear hr hx hi n1 n2 n3 n4
  go_enter Try.func10, Try.ntmps10
  go_wp2_with (first
    | (go_at_call 13; refine (need_no g n t m _ ?_ (.inl hn)).mono ?_; exact (HR.out.alloc _).same rfl; rintro e w' ⟨rfl, k, rfl⟩)
    | (go_at_call 18; refine (rneed_no g' n t m _ ?_ HI.out (.inl hn)).mono ?_; exact (HX.out.alloc _).same rfl; rintro e w' ⟨rfl, k, rfl⟩)
    | (go_at_call 15; refine (take_one g n t m _ ?_ HI.out N.out.1 N.out.2.1).mono ?_; exact (HR.out.alloc _).same rfl; rintro e w' ⟨rfl, k, rfl⟩)
    | (go_at_call 19; refine (rtake_one g' n t m _ ?_ HI.out N.out.2.2.1 N.out.2.2.2).mono ?_; exact ((HX.out.far (Ne.symm hne) _).alloc _).same rfl; rintro e w' ⟨rfl, k, rfl⟩))
  go_ret2
  refine ⟨rfl, (((HR.out.set_ 0 _).far hne _).alloc _).same rfl, (((HX.out.far (Ne.symm hne) _).set_ 0 _).alloc _).same rfl, ?_⟩
  exact ((((Chg.refl _ _).setCell (.inl (.inl rfl)) _).setCell (.inl (.inr rfl)) _).alloc _).same rfl rfl rfl rfl

theorem do_out (a : Int) (ha : ¬ a = 4) (x : Int) (hn : n = m) :
    Calls Try.prog 10 #[.pointer (some ⟨g, 0, none⟩), .pointer (some ⟨g', 0, none⟩), .agg #[.int .i64 a, .int .i64 x]] w (DoPost w g g' (-1) n t m) := by
  have l1 := hr.lt
  have l2 := hx.lt
  have hne := hr.ne_ hx (by decide)
  have HR := hide hr
  have HX := hide hx
  have n1 : m ≤ n := by omega
  have n2 : m ≤ t := by have := hi.2.1; omega
  have N := hide (And.intro n1 (And.intro n2 hn))
  have HI := hide hi
  have a1 : (a == 4) = false := by simpa using ha
  clear hr hx hi n1 n2 hn
  go_enter Try.func10, Try.ntmps10
  go_wp2_with (first
    | (go_at_call 13; refine (need_no g n t m _ ?_ (.inr N.out.2.1)).mono ?_; exact (HR.out.alloc _).same rfl; rintro e w' ⟨rfl, k, rfl⟩)
    | (go_at_call 18; refine (rneed_no g' n t m _ ?_ HI.out (.inr N.out.2.1)).mono ?_; exact (HX.out.alloc _).same rfl; rintro e w' ⟨rfl, k, rfl⟩)
    | (go_at_call 15; refine (take_all g n t m _ ?_ N.out.1).mono ?_; exact (HR.out.alloc _).same rfl; rintro e w' ⟨rfl, k, rfl⟩)
    | (go_at_call 19; refine (rtake_all g' n t m _ ?_ N.out.2.2).mono ?_; exact (HX.out.alloc _).same rfl; rintro e w' ⟨rfl, k, rfl⟩))
  go_ret2
  exact ⟨rfl, (HR.out.alloc _).same rfl, (HX.out.alloc _).same rfl, ((Chg.refl _ _).alloc _).same rfl rfl rfl rfl⟩

/-- A call of both: what is given out (below 0: none), and the row behind it. -/
def Step (a x n t m : Int) (k n' t' : Int) : Prop :=
  Inv n' t' m ∧ ((k = -1 ∧ n' = n ∧ t ≤ t') ∨ (k = n ∧ n < m ∧ n' = n + 1 ∧ t ≤ t'))
def Done (w : World) (g g' : Nat) (a x n t m : Int) (e : Ending) (w' : World) : Prop := ∃ k n' t', Step a x n t m k n' t' ∧ DoPost w g g' k n' t' m e w'

theorem do_any (a x : Int) :
    Calls Try.prog 10 #[.pointer (some ⟨g, 0, none⟩), .pointer (some ⟨g', 0, none⟩), .agg #[.int .i64 a, .int .i64 x]] w (Done w g g' a x n t m) := by
  obtain ⟨i0, i1, i2, i3⟩ := id hi
  by_cases ha : a = 4
  · subst ha
    by_cases hn : x ≤ t ∨ m < x
    · exact (do_raise_no g g' n t m w hr hx hi x hn).mono fun _ _ h => ⟨_, _, _, ⟨hi, .inl ⟨rfl, rfl, Int.le_refl _⟩⟩, h⟩
    · exact (do_raise_yes g g' n t m w hr hx hi x (by omega) (by omega)).mono fun _ _ h => ⟨_, _, _, ⟨⟨i0, by omega, by omega, i3⟩, .inl ⟨rfl, rfl, by omega⟩⟩, h⟩
  · by_cases h1 : n < t
    · exact (do_some g g' n t m w hr hx hi a ha x h1).mono fun _ _ h => ⟨_, _, _, ⟨⟨by omega, by omega, i2, i3⟩, .inr ⟨rfl, by omega, rfl, Int.le_refl _⟩⟩, h⟩
    · by_cases h2 : n = m
      · exact (do_out g g' n t m w hr hx hi a ha x h2).mono fun _ _ h => ⟨_, _, _, ⟨hi, .inl ⟨rfl, rfl, Int.le_refl _⟩⟩, h⟩
      · have hd : t < nd t m ∧ nd t m ≤ m := by unfold nd; split <;> omega
        by_cases h3 : a = 3
        · subst h3
          exact (do_alone g g' n t m w hr hx hi x (by omega) (by omega)).mono fun _ _ h => ⟨_, _, _, ⟨hi, .inl ⟨rfl, rfl, Int.le_refl _⟩⟩, h⟩
        · exact (do_top g g' n t m w hr hx hi a ha h3 x (by omega) (by omega)).mono fun _ _ h => ⟨_, _, _, ⟨⟨by omega, by omega, by omega, i3⟩, .inr ⟨rfl, by omega, rfl, by omega⟩⟩, h⟩
end
end Go.Proofs.Ythdkjcocblnimaa.Ivs
