/- The document's beats. -/
import Derived.Test.YtadlfebpaijbhaaSmqBeat
namespace Go.Proofs.Ytadlfebpaijbhaa.Ph
open Go.RowKit Go.Proofs.Ytadlfebpaijbhaa.W Go.Proofs.Ytadlfebpaijbhaa.Fl
set_option linter.unusedVariables false
set_option linter.unusedSimpArgs false

def RSpec (n : Nat → Int) (w : World) (e : Ending) (w' : World) : Prop :=
  ∃ g h, Blk w' g 3 (row 4 (i64f (specR n))) ∧ Blk w' h 3 (row 4 (i64f (specI n))) ∧ Below w.heap.size w w' ∧ e = .returned (.tuple #[.slice (some ⟨g, 0, none⟩) 4 4, .slice (some ⟨h, 0, none⟩) 4 4])
theorem rSpectrum_any (n : Nat → Int) (h : allC n = true) (w : World) : Calls Try.prog 52 #[.agg (row 4 (i64f n))] w (RSpec n w) := by
  have h0 := natAbs_count (allC_yes h 0 (by omega))
  have h1 := natAbs_count (allC_yes h 1 (by omega))
  have h2 := natAbs_count (allC_yes h 2 (by omega))
  have h3 := natAbs_count (allC_yes h 3 (by omega))
  obtain ⟨a0, e0⟩ : ∃ a, n 0 = a := ⟨_, rfl⟩
  obtain ⟨a1, e1⟩ : ∃ a, n 1 = a := ⟨_, rfl⟩
  obtain ⟨a2, e2⟩ : ∃ a, n 2 = a := ⟨_, rfl⟩
  obtain ⟨a3, e3⟩ : ∃ a, n 3 = a := ⟨_, rfl⟩
  rw [e0] at h0
  rw [e1] at h1
  rw [e2] at h2
  rw [e3] at h3
  have E0 := hide e0
  have E1 := hide e1
  have E2 := hide e2
  have E3 := hide e3
  obtain ⟨p0, p1⟩ := h0
  obtain ⟨p2, p3⟩ := h1
  obtain ⟨p4, p5⟩ := h2
  obtain ⟨p6, p7⟩ := h3
  clear e0 e1 e2 e3 h
  go_enter Try.func52, Try.ntmps52
  go_upto_region 1 with fail
  have HB := hide (Blk.newAt w 49 (row 4 (i64f n)) _ rfl)
  have HBl := hide ((Below.refl w.heap.size w).alloc (Nat.le_refl _) (.cells (row 4 (i64f n)) 49))
  generalize hW : w.alloc (.cells (row 4 (i64f n)) 49) = W at HB HBl ⊢
  clear hW
  have c0 := HB.out.at (i := 0) (by omega)
  have c1 := HB.out.at (i := 1) (by omega)
  have c2 := HB.out.at (i := 2) (by omega)
  have c3 := HB.out.at (i := 3) (by omega)
  unfold i64f at c0 c1 c2 c3
  rw [E0.out] at c0
  rw [E1.out] at c1
  rw [E2.out] at c2
  rw [E3.out] at c3
  have hz := HB.out.lt
  go_wp2_with fail
  go_ret2
  have r1 : row 4 (i64f (specR n)) = #[.int .i64 (a0 + a1 + a2 + a3), .int .i64 (a0 - a2), .int .i64 (a0 - a1 + a2 - a3), .int .i64 (a0 - a2)] := by
    rw [← E0.out, ← E1.out, ← E2.out, ← E3.out]; rfl
  have r2 : row 4 (i64f (specI n)) = #[.int .i64 0, .int .i64 (a3 - a1), .int .i64 0, .int .i64 (a1 - a3)] := by
    rw [← E1.out, ← E3.out]; rfl
  refine ⟨W.heap.size, W.heap.size + 1, ?_, ?_, ?_, rfl⟩
  · have h1 := (Blk.newAt W 3 (row 4 (i64f (specR n))) _ rfl).alloc (.cells (row 4 (i64f (specI n))) 3)
    rw [r1, r2] at h1
    rw [r1]
    exact h1
  · have h1 := Blk.newAt (W.alloc (.cells (row 4 (i64f (specR n))) 3)) 3 (row 4 (i64f (specI n))) (W.heap.size + 1) (by simp)
    rw [r1, r2] at h1
    rw [r2]
    exact h1
  · exact (HBl.out.alloc (by omega) _).alloc (by simp; omega) _
def RbRel (W : World) (n : Nat → Int) (k : Nat) (s5 : Value) (wr : World) : Prop := ∃ i : Nat, s5 = .int .i64 (i : Int) ∧ i + k = 4 ∧ 1 ≤ i ∧ (∀ j, 1 ≤ j → j < i → specR n j = 0 ∧ specI n j = 0) ∧ W = wr
set_option maxRecDepth 100000 in
set_option maxHeartbeats 2000000 in
theorem rBeats_any {n : Nat → Int} (h : allC n = true) (w : World) : Calls Try.prog 40 #[.agg (row 4 (i64f n))] w fun e w' => e = .returned (.bool (Lv.beats n)) ∧ Below w.heap.size w w' := by
  have HRS := hide (rSpectrum_any n h)
  clear h
  go_enter Try.func40, Try.ntmps40
  go_upto_region 2 with (first
    | (with_reducible refine wpList_load_all rfl 49 (.tmp 1) rfl w.heap.size rfl 49 4 _ _ (Blk.newAt w _ _ _ rfl) rfl Try.underlying49 info_i4 ?_)
    | (go_at_call 52; (with_reducible refine (HRS.out _).mono ?_); rintro e w1 ⟨gr, gi, hr, hi, hb, rfl⟩; have HB := hide (((Below.refl w.heap.size w).alloc (Nat.le_refl _) (.cells (row 4 (i64f n)) 49)).trans (hb.mono (by simp))); have HR := hide hr; have HI := hide hi; clear hb hr hi))
  go_wp2_with fail
  go_loopg [5] 3 (fun k s5 wr => RbRel w1 n k s5 wr)
  case atStart => exact ⟨1, rfl, rfl, by omega, fun j h1 h2 => absurd h1 (by omega), rfl⟩
  case round =>
    obtain ⟨i, rfl, hk, h1, hz, rfl⟩ := hrel
    have HZ := hide hz
    clear hz
    by_cases hi : i < 4
    · have hlt : (i : Int) < 4 := by omega
      have cr := HR.out.at hi
      have ci := HI.out.at hi
      unfold i64f at cr ci
      obtain ⟨a, ha⟩ : ∃ a, specR n i = a := ⟨_, rfl⟩
      obtain ⟨b, hb⟩ : ∃ b, specI n i = b := ⟨_, rfl⟩
      rw [ha] at cr
      rw [hb] at ci
      have gl1 := HR.out.lt
      have gl2 := HI.out.lt
      by_cases a0 : a = 0
      · by_cases b0 : b = 0
        · subst a0 b0
          have HAB := hide (And.intro ha hb)
          have HK := hide hk
          clear ha hb hk
          go_wp2_with fail
          have hk := HK.out
          go_roundg (gk - 1)
          case measure => omega
          case rel => exact ⟨i + 1, by go_num, by omega, by omega, fun j j1 j2 => by
            by_cases hj : j = i
            · subst hj; exact HAB.out
            · exact HZ.out j j1 (by omega), rfl⟩
        · have t0 : (b == 0) = false := by simpa using b0
          have HBt := hide (beats_yes h1 (by omega) (fun hh => b0 (hb.symm.trans hh.2)))
          subst a0
          clear ha hb hk b0
          go_wp2_with fail
          go_ret
          exact ⟨by rw [HBt.out]; rfl, HB.out⟩
      · have t0 : (a == 0) = false := by simpa using a0
        have HBt := hide (beats_yes h1 (by omega) (fun hh => a0 (ha.symm.trans hh.1)))
        clear ha hb hk a0
        go_wp2_with fail
        go_ret
        exact ⟨by rw [HBt.out]; rfl, HB.out⟩
    · obtain rfl : i = 4 := by omega
      have HBt := hide (beats_no (fun k k1 k3 => HZ.out k k1 (by omega)))
      clear hi hk h1
      go_wp2_with fail
      go_ret
      exact ⟨by rw [HBt.out]; rfl, HB.out⟩
end Go.Proofs.Ytadlfebpaijbhaa.Ph
