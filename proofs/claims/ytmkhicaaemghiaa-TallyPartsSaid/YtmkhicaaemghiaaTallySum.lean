/- Contracts of tally's sums. -/
import Derived.Test.YtmkhicaaemghiaaTallyRef
import Derived.Deep.QuietTactic
import Derived.BigQuiet
namespace Go.Proofs.Ytmkhicaaemghiaa.Ta
open Go.RowKit Go.Proofs.Ytmkhicaaemghiaa.W Go.Proofs.Ytmkhicaaemghiaa.Fl
set_option linter.unusedVariables false
set_option linter.unusedSimpArgs false

def psum (f : Nat → Nat) : Nat → Nat
  | 0 => 0
  | n + 1 => psum f n + f n
theorem psum_mono (f : Nat → Nat) (i : Nat) : ∀ n, i ≤ n → psum f i ≤ psum f n
  | 0, h => by
    obtain rfl : i = 0 := by omega
    exact Nat.le_refl _
  | n + 1, h => by
    rcases Nat.lt_or_ge i (n + 1) with h1 | h1
    · have := psum_mono f i n (by omega)
      rw [psum]; omega
    · obtain rfl : i = n + 1 := by omega
      exact Nat.le_refl _
theorem psum_one (s : Nat) (f : Nat → Nat) : ∀ n, psum (fun c => f c + (if s = c then 1 else 0)) n = psum f n + (if s < n then 1 else 0)
  | 0 => by simp [psum]
  | n + 1 => by
    rw [psum, psum, psum_one s f n]
    by_cases h : s = n
    · subst h; simp; omega
    · rw [if_neg h]
      by_cases h2 : s < n
      · rw [if_pos h2, if_pos (by omega)]; omega
      · rw [if_neg h2, if_neg (by omega)]; omega
theorem psum_cnt (s : Nat → Nat) (m : Nat) (hs : ∀ i, s i < m) : ∀ n, psum (fun c => cnt s n c) m = n
  | 0 => by
    have h : ∀ k, psum (fun c => cnt s 0 c) k = 0 := fun k => by induction k with | zero => rfl | succ k ih => rw [psum, ih]; rfl
    exact h m
  | n + 1 => by
    have h : (fun c => cnt s (n + 1) c) = fun c => cnt s n c + (if s n = c then 1 else 0) := rfl
    rw [h, psum_one (s n) (fun c => cnt s n c) m, psum_cnt s m hs n, if_pos (hs n)]

def SumRel (w : World) (f : Nat → Nat) (n : Nat) (k : Nat) (s3 s8 : Value) (wr : World) : Prop :=
  ∃ i : Nat, s3 = .int .i64 (psum f i : Int) ∧ s8 = .int .i64 (i : Int) ∧ i + k = n ∧ w = wr
set_option maxRecDepth 100000 in
theorem sum_any (b off n c : Nat) (f : Nat → Nat) (w : World) (hc : ∀ i, i < n → w.cell? ⟨b, off + i, none⟩ = some (.int .i64 (f i : Int))) (hs : psum f n ≤ 140737488355328) (hn : n ≤ 1000) :
    Calls Try.prog 23 #[.slice (some ⟨b, off, none⟩) n c] w fun e w' => e = .returned (.int .i64 (psum f n : Int)) ∧ w = w' := by
  have HC := hide hc
  clear hc
  go_enter Try.func23, Try.ntmps23
  go_wp2_with fail
  go_loopg [3, 8] n (fun k s3 s8 wr => SumRel w f n k s3 s8 wr)
  case atStart => exact ⟨0, rfl, rfl, by omega, rfl⟩
  case round =>
    obtain ⟨i, rfl, rfl, hk, rfl⟩ := hrel
    by_cases hi : i < n
    · have c0 := HC.out i hi
      have hm := psum_mono f (i + 1) n (by omega)
      have hst : psum f (i + 1) = psum f i + f i := rfl
      obtain ⟨x, hx⟩ : ∃ x, psum f i = x := ⟨_, rfl⟩
      obtain ⟨y, hy⟩ : ∃ y, f i = y := ⟨_, rfl⟩
      rw [hx, hy] at hst
      rw [hst] at hm
      rw [hy] at c0
      rw [hx]
      have HST := hide hst
      have hb : x + y ≤ 140737488355328 := by omega
      have hgk : 0 < gk := by omega
      clear hst hx hy hm
      go_wp2_with fail
      go_roundg (gk - 1)
      case measure => omega
      case rel => exact ⟨i + 1, by rw [HST.out]; rfl, by go_num, by omega, rfl⟩
    · have hi' : decide (i < n) = false := by simp; omega
      obtain rfl : i = n := by omega
      clear hi
      go_wp2_with fail
      go_ret
      exact ⟨rfl, rfl⟩

def nn (f : Nat → Nat) : Nat → Int := fun c => (f c : Int)
set_option maxRecDepth 100000 in
theorem many_any (f e : Nat → Nat) (y : Int) (br bi : Nat) (w : World) (hs : psum f 24 ≤ 140737488355328) :
    Calls Try.prog 12 #[.agg (row 58 (tcell (nn f) (nn e) y br bi))] w fun x w' => x = .returned (.int .i64 (psum f 24 : Int)) ∧ Below w.heap.size w w' := by
  have hB := Blk.newAt w 28 (row 58 (tcell (nn f) (nn e) y br bi)) _ rfl
  have hc : ∀ i, i < 24 → (w.alloc (.cells (row 58 (tcell (nn f) (nn e) y br bi)) 28)).cell? ⟨w.heap.size, 0 + i, none⟩ = some (.int .i64 (f i : Int)) := fun i hi => by
    rw [Nat.zero_add, hB.at (by omega), tcell_act _ _ _ _ _ hi]
    rfl
  have H := hide (sum_any w.heap.size 0 24 24 f _ hc hs (by omega))
  clear hB hc
  go_enter Try.func12, Try.ntmps12
  go_wp2_with (first
    | (go_at_call 23; refine H.out.mono ?_; rintro e w' ⟨rfl, rfl⟩))
  go_ret
  exact ⟨rfl, (Below.refl _ _).alloc (Nat.le_refl _) _⟩

set_option maxRecDepth 100000 in
theorem rate_any (f e : Nat → Nat) (y : Int) (br bi l : Nat) (w : World) (hs : psum e 32 = l) (hl : l ≤ 140737488355328) (h0 : e 0 ≤ l) :
    Calls Try.prog 14 #[.agg (row 58 (tcell (nn f) (nn e) y br bi))] w fun x w' => x = .returned (.int .i64 (if l = 0 then 0 else 100 * (e 0 : Int) / (l : Int))) ∧ Below w.heap.size w w' := by
  have hB := Blk.newAt w 28 (row 58 (tcell (nn f) (nn e) y br bi)) _ rfl
  have hc : ∀ i, i < 32 → (w.alloc (.cells (row 58 (tcell (nn f) (nn e) y br bi)) 28)).cell? ⟨w.heap.size, 24 + i, none⟩ = some (.int .i64 (e i : Int)) := fun i hi => by
    rw [hB.at (by omega), tcell_err _ _ _ _ _ hi]
    rfl
  have c0 := hc 0 (by omega)
  have H := hide (sum_any w.heap.size 24 32 32 e _ hc (by omega) (by omega))
  rw [hs] at H
  obtain ⟨x, hx⟩ : ∃ x, e 0 = x := ⟨_, rfl⟩
  rw [hx] at c0 h0 ⊢
  simp only [Nat.add_zero] at c0
  clear hB hc hs hx
  by_cases hl0 : l = 0
  · have t1 : ((l : Int) == 0) = true := by simp; omega
    have t1' : (l == 0) = true := by simp; omega
    rw [if_pos hl0]
    clear hl0
    go_enter Try.func14, Try.ntmps14
    go_wp2_with (first
      | (go_at_call 23; refine H.out.mono ?_; rintro e w' ⟨rfl, rfl⟩))
    go_ret
    exact ⟨rfl, (Below.refl _ _).alloc (Nat.le_refl _) _⟩
  · have t1 : ((l : Int) == 0) = false := by simp; omega
    have t1' : (l == 0) = false := by simp; omega
    have hlp : (0 : Int) < (l : Int) := by omega
    rw [if_neg hl0]
    go_enter Try.func14, Try.ntmps14
    go_wp2_with (first
      | (go_at_call 23; refine H.out.mono ?_; rintro e w' ⟨rfl, rfl⟩))
    go_ret
    exact ⟨rfl, (Below.refl _ _).alloc (Nat.le_refl _) _⟩

/-- The error that was answered most, of the first ones. -/
def wst (e : Nat → Nat) : Nat → Nat × Nat
  | 0 => (0, 0)
  | i + 1 => if i = 0 then (0, 0) else if (wst e i).2 < e i then (i, e i) else wst e i
def WstRel (w : World) (e : Nat → Nat) (k : Nat) (s4 s5 s6 : Value) (wr : World) : Prop :=
  ∃ i : Nat, s4 = .int .i64 ((wst e i).1 : Int) ∧ s5 = .int .i64 ((wst e i).2 : Int) ∧ s6 = .int .i64 (i : Int) ∧ i + k = 32 ∧ 1 ≤ i ∧ ∃ q, wr = w.drewN q
set_option maxRecDepth 100000 in
theorem worst_any (f e : Nat → Nat) (y : Int) (br bi : Nat) (w : World) :
    Calls Try.prog 13 #[.agg (row 58 (tcell (nn f) (nn e) y br bi))] w fun x w' => x = .returned (.tuple #[.int .i64 ((wst e 32).1 : Int), .int .i64 ((wst e 32).2 : Int)]) ∧ Below w.heap.size w w' := by
  have hB := Blk.newAt w 28 (row 58 (tcell (nn f) (nn e) y br bi)) _ rfl
  have hc : ∀ i, i < 32 → (w.alloc (.cells (row 58 (tcell (nn f) (nn e) y br bi)) 28)).cell? ⟨w.heap.size, 24 + i, none⟩ = some (.int .i64 (e i : Int)) := fun i hi => by
    rw [hB.at (by omega), tcell_err _ _ _ _ _ hi]
    rfl
  have HC := hide hc
  have HB : Hid (Below w.heap.size w (w.alloc (.cells (row 58 (tcell (nn f) (nn e) y br bi)) 28))) := hide ((Below.refl _ _).alloc (Nat.le_refl _) _)
  clear hc hB
  go_enter Try.func13, Try.ntmps13
  go_wp2_with fail
  generalize hW : w.alloc (.cells (row 58 (tcell (nn f) (nn e) y br bi)) 28) = W at HC HB ⊢
  clear hW
  go_loopg [4, 5, 6] 31 (fun k s4 s5 s6 wr => WstRel W e k s4 s5 s6 wr)
  case atStart => exact ⟨1, rfl, rfl, rfl, rfl, Nat.le_refl _, 0, rfl⟩
  case round =>
    obtain ⟨i, rfl, rfl, rfl, hk, h1, q, rfl⟩ := hrel
    by_cases hi : i < 32
    · have c0 := HC.out i hi
      have hst : wst e (i + 1) = if (wst e i).2 < e i then (i, e i) else wst e i := by rw [wst, if_neg (by omega)]
      obtain ⟨a, ha⟩ : ∃ a, (wst e i).1 = a := ⟨_, rfl⟩
      obtain ⟨b, hb⟩ : ∃ b, (wst e i).2 = b := ⟨_, rfl⟩
      obtain ⟨x, hx⟩ : ∃ x, e i = x := ⟨_, rfl⟩
      rw [hx] at c0 hst
      rw [hb] at hst
      rw [ha, hb]
      have HA := hide ha
      have HBb := hide hb
      have hi' : (i : Int) < 32 := by omega
      have hgk : 0 < gk := by omega
      by_cases hlt : b < x
      · rw [if_pos hlt] at hst
        have HST := hide hst
        clear hst hx ha hb
        go_wp2_with fail
        go_quiet (fail)
        go_wp2_with fail
        go_roundg (gk - 1)
        case measure => omega
        case rel => exact ⟨i + 1, by rw [HST.out], by rw [HST.out], by go_num, by omega, by omega, _, rfl⟩
      · rw [if_neg hlt] at hst
        have HST := hide hst
        have hlt' : decide (b < x) = false := by simpa using hlt
        clear hst hx ha hb hlt
        go_wp2_with fail
        go_roundg (gk - 1)
        case measure => omega
        case rel => exact ⟨i + 1, by rw [HST.out, HA.out], by rw [HST.out, HBb.out], by go_num, by omega, by omega, _, rfl⟩
    · have hi' : decide (i < 32) = false := by simp; omega
      have hi'' : decide ((i : Int) < 32) = false := by simp; omega
      have hi3 : i = 32 := by omega
      have HI := hide hi3
      clear hi hi3
      go_wp2_with fail
      go_ret2
      exact ⟨by rw [HI.out]; rfl, below_drewN HB.out _⟩
end Go.Proofs.Ytmkhicaaemghiaa.Ta
