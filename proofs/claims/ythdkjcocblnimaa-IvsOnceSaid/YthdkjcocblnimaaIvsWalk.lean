/- Contracts of ivs' functions: a row of numbers that come once. -/
import Derived.Test.YthdkjcocblnimaaProg
import Derived.Test.YthdkjcocblnimaaWords
import Derived.Deep.QuietTactic
import Derived.BigQuiet
namespace Go.Proofs.Ythdkjcocblnimaa.Ivs
open Go.RowKit Go.Proofs.Ythdkjcocblnimaa.W
set_option linter.unusedVariables false
set_option linter.unusedSimpArgs false

/-- A row lies in block g. -/
def IsRow (w : World) (g : Nat) (n t m : Int) : Prop := Blk w g 49 #[.int .i64 n, .int .i64 t, .int .i64 m]
/-- What holds of a row's numbers. -/
def Inv (n t m : Int) : Prop := 0 ≤ n ∧ n ≤ t ∧ t ≤ m ∧ m ≤ 1099511627776

theorem left_any (g : Nat) (n t m : Int) (w : World) (h : IsRow w g n t m) (hi : Inv n t m) :
    Calls Try.prog 11 #[.pointer (some ⟨g, 0, none⟩)] w fun e w' => e = .returned (.int .i64 (m - n)) ∧ ∃ k, w' = w.drewN k := by
  obtain ⟨h0, h1, h2, h3⟩ := hi
  have c0 := h.cell 0
  have c1 := h.cell 1
  have c2 := h.cell 2
  simp at c0 c1 c2
  clear h
  go_enter Try.func11, Try.ntmps11
  go_wp2
  go_quiet (fail)
  go_wp2
  go_ret
  exact ⟨rfl, _, rfl⟩

theorem top_any (g : Nat) (n t m : Int) (w : World) (h : IsRow w g n t m) :
    Calls Try.prog 12 #[.pointer (some ⟨g, 0, none⟩)] w fun e w' => e = .returned (.int .i64 t) ∧ w' = w := by
  have c1 := h.cell 1
  simp at c1
  clear h
  go_enter Try.func12, Try.ntmps12
  go_wp2
  go_ret
  exact ⟨rfl, rfl⟩

theorem need_no (g : Nat) (n t m : Int) (w : World) (h : IsRow w g n t m) (hn : n < t ∨ m ≤ t) :
    Calls Try.prog 13 #[.pointer (some ⟨g, 0, none⟩)] w fun e w' => e = .returned (.tuple #[.int .i64 0, .bool false]) ∧ ∃ k, w' = w.drewN k := by
  have c0 := h.cell 0
  have c1 := h.cell 1
  have c2 := h.cell 2
  simp at c0 c1 c2
  clear h
  by_cases h1 : n < t
  · have h1' : decide (n < t) = true := by simpa using h1
    clear hn
    go_enter Try.func13, Try.ntmps13
    go_wp2
    go_quiet (fail)
    go_wp2
    go_ret2
    exact ⟨rfl, _, rfl⟩
  · have h1' : decide (n < t) = false := by simpa using h1
    have h2 : m ≤ t := by omega
    have h2' : decide (m ≤ t) = true := by simpa using h2
    clear hn
    go_enter Try.func13, Try.ntmps13
    go_wp2
    go_quiet (fail)
    go_wp2
    go_ret2
    exact ⟨rfl, _, rfl⟩

/-- The top that is wanted. -/
def nd (t m : Int) : Int := if m < t + 16 then m else t + 16

theorem need_yes (g : Nat) (n t m : Int) (w : World) (h : IsRow w g n t m) (hi : Inv n t m) (hn : n = t) (hm : t < m) :
    Calls Try.prog 13 #[.pointer (some ⟨g, 0, none⟩)] w fun e w' => e = .returned (.tuple #[.int .i64 (nd t m), .bool true]) ∧ ∃ k, w' = w.drewN k := by
  obtain ⟨h0, h1, h2, h3⟩ := hi
  subst hn
  have c0 := h.cell 0
  have c1 := h.cell 1
  have c2 := h.cell 2
  simp at c0 c1 c2
  clear h
  have h1' : decide (n < n) = false := by simp
  have h2' : decide (m ≤ n) = false := by simpa using hm
  have e1 : m < n + 16 → nd n m = m := fun h => if_pos h
  have e2 : n + 16 ≤ m → nd n m = n + 16 := fun h => if_neg (by omega)
  have E1 := hide e1
  have E2 := hide e2
  clear e1 e2
  go_enter Try.func13, Try.ntmps13
  go_wp2
  go_quiet (fail)
  go_wp2
  go_quiet (fail)
  all_goals go_wp2
  all_goals go_ret2
  · have hh : m < n + 16 := by assumption
    rw [E1.out hh]
    exact ⟨rfl, _, rfl⟩
  · have hh : n + 16 ≤ m := by first | assumption | omega
    rw [E2.out hh]
    exact ⟨rfl, _, rfl⟩

theorem raise_no (g : Nat) (n t m x : Int) (w : World) (h : IsRow w g n t m) (hn : x ≤ t ∨ m < x) :
    Calls Try.prog 14 #[.pointer (some ⟨g, 0, none⟩), .int .i64 x] w fun e w' => e = .returned (.int .i64 2) ∧ ∃ k, w' = w.drewN k := by
  have c1 := h.cell 1
  have c2 := h.cell 2
  simp at c1 c2
  clear h
  by_cases h1 : x ≤ t
  · have h1' : decide (x ≤ t) = true := by simpa using h1
    clear hn
    go_enter Try.func14, Try.ntmps14
    go_wp2
    go_ret
    exact ⟨rfl, 0, rfl⟩
  · have h1' : decide (x ≤ t) = false := by simpa using h1
    have h2 : m < x := by omega
    clear hn
    go_enter Try.func14, Try.ntmps14
    go_wp2
    go_ret
    exact ⟨rfl, 0, rfl⟩

theorem raise_yes (g : Nat) (n t m x : Int) (w : World) (h : IsRow w g n t m) (h1 : t < x) (h2 : x ≤ m) :
    Calls Try.prog 14 #[.pointer (some ⟨g, 0, none⟩), .int .i64 x] w fun e w' => e = .returned (.int .i64 0) ∧ ∃ k, w' = (w.setCell ⟨g, 1, none⟩ (.int .i64 x)).drewN k := by
  have c1 := h.cell 1
  have c2 := h.cell 2
  have f1 := h.frozen 1
  simp at c1 c2
  have H := hide h
  clear h
  have h1' : decide (x ≤ t) = false := by simpa using h1
  have h2' : decide (m < x) = false := by simpa using h2
  go_enter Try.func14, Try.ntmps14
  go_wp2
  go_ret
  exact ⟨rfl, 0, rfl⟩

theorem take_all (g : Nat) (n t m : Int) (w : World) (h : IsRow w g n t m) (hn : m ≤ n) :
    Calls Try.prog 15 #[.pointer (some ⟨g, 0, none⟩)] w fun e w' => e = .returned (.tuple #[.int .i64 0, .int .i64 16]) ∧ ∃ k, w' = w.drewN k := by
  have c0 := h.cell 0
  have c1 := h.cell 1
  have c2 := h.cell 2
  simp at c0 c1 c2
  clear h
  have h1' : decide (m ≤ n) = true := by simpa using hn
  go_enter Try.func15, Try.ntmps15
  go_wp2
  go_quiet (fail)
  go_wp2
  go_ret2
  exact ⟨rfl, _, rfl⟩

theorem take_top (g : Nat) (n t m : Int) (w : World) (h : IsRow w g n t m) (hn : n < m) (ht : t ≤ n) :
    Calls Try.prog 15 #[.pointer (some ⟨g, 0, none⟩)] w fun e w' => e = .returned (.tuple #[.int .i64 0, .int .i64 14]) ∧ ∃ k, w' = w.drewN k := by
  have c0 := h.cell 0
  have c1 := h.cell 1
  have c2 := h.cell 2
  simp at c0 c1 c2
  clear h
  have h1' : decide (m ≤ n) = false := by simpa using hn
  have h2' : decide (t ≤ n) = true := by simpa using ht
  go_enter Try.func15, Try.ntmps15
  go_wp2
  go_quiet (fail)
  go_wp2
  go_quiet (fail)
  go_wp2
  go_ret2
  first | exact ⟨rfl, _, rfl⟩ | exact ⟨rfl, _, World.drewN_drewN _ _ _⟩

theorem take_one (g : Nat) (n t m : Int) (w : World) (h : IsRow w g n t m) (hi : Inv n t m) (hn : n < m) (ht : n < t) :
    Calls Try.prog 15 #[.pointer (some ⟨g, 0, none⟩)] w fun e w' => e = .returned (.tuple #[.int .i64 n, .int .i64 0]) ∧ ∃ k, w' = (w.setCell ⟨g, 0, none⟩ (.int .i64 (n + 1))).drewN k := by
  obtain ⟨h0, h1, h2, h3⟩ := hi
  have c0 := h.cell 0
  have c1 := h.cell 1
  have c2 := h.cell 2
  have f0 := h.frozen 0
  simp at c0 c1 c2
  have H := hide h
  clear h
  have h1' : decide (m ≤ n) = false := by simpa using hn
  have h2' : decide (t ≤ n) = false := by simpa using ht
  go_enter Try.func15, Try.ntmps15
  go_wp2
  go_quiet (fail)
  go_wp2
  go_quiet (fail)
  go_wp2
  go_ret2
  first | exact ⟨rfl, _, rfl⟩ | exact ⟨rfl, _, World.drewN_drewN _ _ _⟩

def wi (n a b : Int) : Bool := decide (a ≤ n) && decide (n ≤ b)
theorem within_any (n a b : Int) (w : World) :
    Calls Try.prog 17 #[.int .i64 n, .int .i64 a, .int .i64 b] w fun e w' => e = .returned (.bool (wi n a b)) ∧ w = w' := by
  by_cases h : a ≤ n
  · have h' : decide (a ≤ n) = true := by simpa using h
    have e : wi n a b = decide (n ≤ b) := by rw [wi, h']; rfl
    have E := hide e
    clear e
    go_enter Try.func17, Try.ntmps17
    go_wp2
    go_ret
    exact ⟨ret_bool E.out.symm, rfl⟩
  · have h' : decide (a ≤ n) = false := by simpa using h
    have e : wi n a b = false := by rw [wi, h']; rfl
    have E := hide e
    clear e
    go_enter Try.func17, Try.ntmps17
    go_wp2
    go_ret
    exact ⟨ret_bool E.out.symm, rfl⟩

theorem new_no (n m : Int) (w : World) (h : ¬ (1 ≤ m ∧ m ≤ 1099511627776 ∧ 0 ≤ n ∧ n ≤ m)) :
    Calls Try.prog 7 #[.int .i64 n, .int .i64 m] w fun e w' => e = .returned (.tuple #[.pointer none, .int .i64 2]) ∧ w = w' := by
  have hmf : ∀ (fn : Fn) (first cap : Array Value) (w : World), (Instr.makeFunc fn first cap).run Try.prog w = .ok (.func fn first cap) w := fun _ _ _ _ => rfl
  by_cases h1 : wi m 1 1099511627776 = true
  · have h2 : wi n 0 m = false := by
      simp [wi] at h1 ⊢
      omega
    clear h
    go_enter Try.func7, Try.ntmps7
    go_wp2_with (first | (go_at_call 17; refine (within_any _ _ _ _).mono ?_; rintro e w' ⟨rfl, rfl⟩))
    go_ret2
    exact ⟨rfl, rfl⟩
  · have h2 : wi m 1 1099511627776 = false := by simpa using h1
    clear h h1
    go_enter Try.func7, Try.ntmps7
    go_wp2_with (first | (go_at_call 17; refine (within_any _ _ _ _).mono ?_; rintro e w' ⟨rfl, rfl⟩))
    go_ret2
    exact ⟨rfl, rfl⟩

def NewRow (w : World) (n m : Int) (e : Ending) (w' : World) : Prop :=
  e = .returned (.tuple #[.pointer (some ⟨w.heap.size, 0, none⟩), .int .i64 0]) ∧ w' = w.alloc (.cells #[.int .i64 n, .int .i64 n, .int .i64 m] 49)
theorem new_yes (n m : Int) (w : World) (h : 1 ≤ m ∧ m ≤ 1099511627776 ∧ 0 ≤ n ∧ n ≤ m) :
    Calls Try.prog 7 #[.int .i64 n, .int .i64 m] w (NewRow w n m) := by
  have hmf : ∀ (fn : Fn) (first cap : Array Value) (w : World), (Instr.makeFunc fn first cap).run Try.prog w = .ok (.func fn first cap) w := fun _ _ _ _ => rfl
  have h1 : wi m 1 1099511627776 = true := by simp [wi]; omega
  have h2 : wi n 0 m = true := by simp [wi]; omega
  clear h
  go_enter Try.func7, Try.ntmps7
  go_wp2_with (first | (go_at_call 17; refine (within_any _ _ _ _).mono ?_; rintro e w' ⟨rfl, rfl⟩))
  go_ret2
  exact ⟨rfl, rfl⟩
end Go.Proofs.Ythdkjcocblnimaa.Ivs
