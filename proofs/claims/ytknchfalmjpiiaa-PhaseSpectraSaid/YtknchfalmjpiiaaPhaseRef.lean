/- Contracts of the reference's spectrum, and of the law's right. -/
import Derived.Test.YtknchfalmjpiiaaPhaseBack
import Derived.Test.YtknchfalmjpiiaaPhaseBeat
namespace Go.Proofs.Ytknchfalmjpiiaa.Ph
open Go.RowKit Go.Proofs.Ytknchfalmjpiiaa.W Go.Proofs.Ytknchfalmjpiiaa.Fl
set_option linter.unusedVariables false
set_option linter.unusedSimpArgs false

def RightRel (w : World) (n : Nat → Int) (k : Nat) (s3 : Value) (wr : World) : Prop :=
  ∃ i : Nat, s3 = .int .i64 (i : Int) ∧ i + k = 4 ∧ (∀ j, j < i → isCount (n j) = true) ∧ w = wr
theorem right_any (n : Nat → Int) (w : World) : Calls Try.prog 20 #[.agg (row 4 (i64f n))] w fun e w' => e = .returned (.bool (allC n)) ∧ Below w.heap.size w w' := by
  go_enter Try.func20, Try.ntmps20
  go_wp2_with fail
  have hB := Blk.newAt w 43 (row 4 (i64f n)) _ rfl
  have HB := hide hB
  clear hB
  have HBl := hide ((Below.refl w.heap.size w).alloc (Nat.le_refl _) (.cells (row 4 (i64f n)) 43))
  generalize hW : w.alloc (.cells (row 4 (i64f n)) 43) = W at HB HBl ⊢
  clear hW
  go_loopg [3] 4 (fun k s3 wr => RightRel W n k s3 wr)
  case atStart => exact ⟨0, rfl, rfl, fun j hj => absurd hj (by omega), rfl⟩
  case round =>
    obtain ⟨i, rfl, hk, hc, rfl⟩ := hrel
    have HC := hide hc
    clear hc
    by_cases hi : i < 4
    · have ci := HB.out.at hi
      unfold i64f at ci
      obtain ⟨m, hm⟩ : ∃ m, n i = m := ⟨_, rfl⟩
      rw [hm] at ci
      have HM := hide hm
      have hi' : (i : Int) < 4 := by omega
      have hgk : 0 < gk := by omega
      clear hm
      cases hcm : isCount m
      · have HF : Hid (false = allC n) := hide (by
          cases ha : allC n
          · rfl
          · have := allC_yes ha i hi
            rw [HM.out, hcm] at this
            cases this)
        have hcase : m < 0 ∨ (¬ m < 0 ∧ 1048576 < m) := by
          simp [isCount] at hcm
          omega
        clear hcm
        rcases hcase with hc | ⟨hc0, hc⟩
        · have t1 : decide (m < 0) = true := by simpa using hc
          go_wp2_with fail
          go_ret
          exact ⟨ret_bool HF.out, HBl.out⟩
        · have t1 : decide (m < 0) = false := by simpa using hc0
          have t2 : decide (1048576 < m) = true := by simpa using hc
          clear hc0
          go_wp2_with fail
          go_ret
          exact ⟨ret_bool HF.out, HBl.out⟩
      · have hbd := natAbs_count hcm
        have HCM := hide hcm
        have t1 : decide (m < 0) = false := by simp; omega
        have t2 : decide (1048576 < m) = false := by simp; omega
        clear hcm hbd
        go_wp2_with fail
        go_roundg (gk - 1)
        case measure => omega
        case rel =>
          refine ⟨i + 1, by go_num, by omega, fun j hj => ?_, rfl⟩
          rcases Nat.lt_or_ge j i with h | h
          · exact HC.out j h
          · obtain rfl : j = i := by omega
            rw [HM.out]; exact HCM.out
    · have hi' : decide (i < 4) = false := by simp; omega
      obtain rfl : i = 4 := by omega
      have HF : Hid (true = allC n) := hide (by
        cases ha : allC n
        · exact (allC_no ha (i := 0) (by omega) HC.out).elim
        · rfl)
      clear hi
      go_wp2_with fail
      go_ret
      exact ⟨ret_bool HF.out, HBl.out⟩
def RSpec (n : Nat → Int) (w : World) (e : Ending) (w' : World) : Prop :=
  ∃ g h, Blk w' g 3 (row 4 (i64f (specR n))) ∧ Blk w' h 3 (row 4 (i64f (specI n))) ∧ Below w.heap.size w w' ∧ e = .returned (.tuple #[.slice (some ⟨g, 0, none⟩) 4 4, .slice (some ⟨h, 0, none⟩) 4 4])
theorem rSpectrum_any (n : Nat → Int) (h : allC n = true) (w : World) : Calls Try.prog 21 #[.agg (row 4 (i64f n))] w (RSpec n w) := by
  have h0 := natAbs_count (allC_yes h 0 (by omega))
  have h1 := natAbs_count (allC_yes h 1 (by omega))
  have h2 := natAbs_count (allC_yes h 2 (by omega))
  have h3 := natAbs_count (allC_yes h 3 (by omega))
  obtain ⟨a0, e0⟩ : ∃ a, n 0 = a := ⟨_, rfl⟩
  obtain ⟨a1, e1⟩ : ∃ a, n 1 = a := ⟨_, rfl⟩
  obtain ⟨a2, e2⟩ : ∃ a, n 2 = a := ⟨_, rfl⟩
  obtain ⟨a3, e3⟩ : ∃ a, n 3 = a := ⟨_, rfl⟩
  rw [e0] at h0
  rw [e1] at h1
  rw [e2] at h2
  rw [e3] at h3
  have E0 := hide e0
  have E1 := hide e1
  have E2 := hide e2
  have E3 := hide e3
  obtain ⟨p0, p1⟩ := h0
  obtain ⟨p2, p3⟩ := h1
  obtain ⟨p4, p5⟩ := h2
  obtain ⟨p6, p7⟩ := h3
  clear e0 e1 e2 e3 h
  go_enter Try.func21, Try.ntmps21
  go_upto_region 1 with fail
  have HB := hide (Blk.newAt w 43 (row 4 (i64f n)) _ rfl)
  have HBl := hide ((Below.refl w.heap.size w).alloc (Nat.le_refl _) (.cells (row 4 (i64f n)) 43))
  generalize hW : w.alloc (.cells (row 4 (i64f n)) 43) = W at HB HBl ⊢
  clear hW
  have c0 := HB.out.at (i := 0) (by omega)
  have c1 := HB.out.at (i := 1) (by omega)
  have c2 := HB.out.at (i := 2) (by omega)
  have c3 := HB.out.at (i := 3) (by omega)
  unfold i64f at c0 c1 c2 c3
  rw [E0.out] at c0
  rw [E1.out] at c1
  rw [E2.out] at c2
  rw [E3.out] at c3
  have hz := HB.out.lt
  go_wp2_with fail
  go_ret2
  have r1 : row 4 (i64f (specR n)) = #[.int .i64 (a0 + a1 + a2 + a3), .int .i64 (a0 - a2), .int .i64 (a0 - a1 + a2 - a3), .int .i64 (a0 - a2)] := by
    rw [← E0.out, ← E1.out, ← E2.out, ← E3.out]; rfl
  have r2 : row 4 (i64f (specI n)) = #[.int .i64 0, .int .i64 (a3 - a1), .int .i64 0, .int .i64 (a1 - a3)] := by
    rw [← E1.out, ← E3.out]; rfl
  refine ⟨W.heap.size, W.heap.size + 1, ?_, ?_, ?_, rfl⟩
  · have h1 := (Blk.newAt W 3 (row 4 (i64f (specR n))) _ rfl).alloc (.cells (row 4 (i64f (specI n))) 3)
    rw [r1, r2] at h1
    rw [r1]
    exact h1
  · have h1 := Blk.newAt (W.alloc (.cells (row 4 (i64f (specR n))) 3)) 3 (row 4 (i64f (specI n))) (W.heap.size + 1) (by simp)
    rw [r1, r2] at h1
    rw [r2]
    exact h1
  · exact (HBl.out.alloc (by omega) _).alloc (by simp; omega) _
end Go.Proofs.Ytknchfalmjpiiaa.Ph
