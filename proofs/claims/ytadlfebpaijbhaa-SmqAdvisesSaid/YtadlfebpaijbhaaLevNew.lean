/- A queue made, and copied: walked. -/
import Derived.Test.YtadlfebpaijbhaaLevMore
namespace Go.Proofs.Ytadlfebpaijbhaa.Lv
open Go.RowKit Go.Proofs.Ytadlfebpaijbhaa.W
set_option linter.unusedVariables false
set_option linter.unusedSimpArgs false

theorem info57 : (Try.prog.info? 70).map (·.size) = some 57 := by kernel_rfl
theorem zero57 (w : World) : (zeroValue 70).run Try.prog w = .ok (.agg (row 57 (i64s fun _ => 0))) w := by kernel_rfl
theorem i64_one (F : Nat → Int) (j : Nat) : (i64s F j).oneCell' = true := rfl
theorem new_bad (n : Int) (hn : n < 1 ∨ 16 < n) (w : World) : Calls Try.prog 19 #[.int .i64 n] w fun e w' => e = .returned (.tuple #[.pointer none, .int .i64 2]) ∧ Below w.heap.size w w' := by
  by_cases h0 : n < 1
  · have h1 : decide (n < 1) = true := by simpa using h0
    clear hn h0
    go_enter Try.func19, Try.ntmps19
    go_wp2_with fail
    go_ret2
    exact ⟨rfl, Below.refl _ _⟩
  · have h1 : decide (n < 1) = false := by simpa using h0
    have h2 : decide ((16 : Int) < n) = true := by simp; omega
    clear hn h0
    go_enter Try.func19, Try.ntmps19
    go_wp2_with fail
    go_ret2
    exact ⟨rfl, Below.refl _ _⟩
/-- The numbers as they are made. -/
def nw1 (n i : Nat) : Nat → Int := fun c => if c = 0 then (n : Int) else if c < 49 then (if (c - 1) % 16 < i then -1 else 0) else 0
def nw2 (n i : Nat) : Nat → Int := fun c => if c = 0 then (n : Int) else if c < 49 then -1 else if (c - 49) % 4 < i then -1 else 0
theorem nw1_succ (n i : Nat) (hi : i < 16) : ∀ c, c < 57 → upd (upd (upd (nw1 n i) (1 + i) (-1)) (17 + i) (-1)) (33 + i) (-1) c = nw1 n (i + 1) c := by
  intro c hc
  simp only [upd, nw1]
  (repeat' split) <;> first | rfl | omega
theorem nw2_succ (n i : Nat) (hi : i < 4) : ∀ c, c < 57 → upd (upd (nw2 n i) (49 + i) (-1)) (53 + i) (-1) c = nw2 n (i + 1) c := by
  intro c hc
  simp only [upd, nw2]
  (repeat' split) <;> first | rfl | omega
theorem QF.as {w : World} {g : Nat} {F F' : Nat → Int} (h : QF w g F) (e : ∀ c, c < 57 → F c = F' c) : QF w g F' := Blk.as h (fun c hc => by simp only [i64s]; rw [e c hc])
def New1 (w : World) (n k : Nat) (s16 : Value) (wr : World) : Prop := ∃ i : Nat, s16 = .int .i64 (i : Int) ∧ i + k = 16 ∧ QF wr w.heap.size (nw1 n i) ∧ Below w.heap.size w wr
def New2 (w : World) (n k : Nat) (s35 : Value) (wr : World) : Prop := ∃ i : Nat, s35 = .int .i64 (i : Int) ∧ i + k = 4 ∧ QF wr w.heap.size (nw2 n i) ∧ Below w.heap.size w wr
set_option maxRecDepth 100000 in
set_option maxHeartbeats 1000000 in
theorem new_ok (n : Nat) (h1 : 1 ≤ n) (h16 : n ≤ 16) (w : World) : Calls Try.prog 19 #[.int .i64 (n : Int)] w fun e w' => e = .returned (.tuple #[.pointer (some ⟨w.heap.size, 0, none⟩), .int .i64 0]) ∧ QAt w' w.heap.size n (fun _ => []) ∧ Below w.heap.size w w' := by
  have hz := zero57
  have t1 : decide ((n : Int) < 1) = false := by simp; omega
  have t2 : decide ((16 : Int) < (n : Int)) = false := by simp; omega
  have t3 : decide (16 < n) = false := by simp; omega
  have t4 : decide (n < 1) = false := by simp; omega
  go_enter Try.func19, Try.ntmps19
  go_upto_region 4 with fail
  have HQ0 : Hid (QF (w.alloc (.cells ((row 57 (i64s fun _ => 0)).setIfInBounds 0 (.int .i64 (n : Int))) 70)) w.heap.size (nw1 n 0)) := hide (by
    rw [row_set, i64s_upd]
    exact QF.as (F := upd (fun _ => 0) 0 (n : Int)) (Blk.newAt w _ _ _ rfl) (fun c hc => by
      simp only [upd, nw1]
      (repeat' split) <;> first | rfl | omega))
  have HB0 := hide ((Below.refl w.heap.size w).alloc (Nat.le_refl _) (.cells ((row 57 (i64s fun _ => 0)).setIfInBounds 0 (.int .i64 (n : Int))) 70))
  generalize Obj.cells ((row 57 (i64s fun _ => 0)).setIfInBounds 0 (.int .i64 (n : Int))) 70 = ob at HQ0 HB0 ⊢
  generalize w.alloc ob = W0 at HQ0 HB0 ⊢
  generalize Value.agg ((row 57 (i64s fun _ => 0)).setIfInBounds 0 (.int .i64 (n : Int))) = vv
  clear hz t1 t2 t3 t4
  go_wp2_with fail
  go_loopg [16] 16 (fun k s16 wr => New1 w n k s16 wr)
  case atStart => exact ⟨0, rfl, rfl, HQ0.out, HB0.out⟩
  case round =>
    obtain ⟨i, rfl, hk, hqf, hb⟩ := hrel
    have HQ := hide hqf
    have HB := hide hb
    by_cases hi : i < 16
    · have hgk : 0 < gk := by omega
      have hi' : (i : Int) < 16 := by omega
      have k1 := hqf.at (i := 1 + i) (by omega)
      have k2 := hqf.at (i := 17 + i) (by omega)
      have k3 := hqf.at (i := 33 + i) (by omega)
      have f1 := hqf.frozen (1 + i)
      have f2 := hqf.frozen (17 + i)
      have f3 := hqf.frozen (33 + i)
      have gl := hqf.lt
      clear hqf hb
      go_upto_region 7 with fail
      go_region
      generalize hW : World.drew _ = W1
      have HQ1 : Hid (QF W1 w.heap.size (nw1 n (i + 1))) := hide (by
        rw [← hW]
        exact QF.as (Blk.drew (((HQ.out.set_ (1 + i) (-1)).set_ (17 + i) (-1)).set_ (33 + i) (-1))) (nw1_succ n i hi))
      have HB1 : Hid (Below w.heap.size w W1) := hide (by
        rw [← hW]
        exact below_drewN (((HB.out.setCell (p := ⟨w.heap.size, 1 + i, none⟩) (Nat.le_refl _) _).setCell (p := ⟨w.heap.size, 17 + i, none⟩) (Nat.le_refl _) _).setCell (p := ⟨w.heap.size, 33 + i, none⟩) (Nat.le_refl _) _) 1)
      clear hW k1 k2 k3 f1 f2 f3
      go_wp2_with fail
      go_roundg (gk - 1)
      case measure => omega
      case rel => exact ⟨i + 1, by go_num, by omega, HQ1.out, HB1.out⟩
    · have hi' : decide (i < 16) = false := by simp; omega
      have hi'' : decide ((i : Int) < 16) = false := by simp; omega
      obtain rfl : i = 16 := by omega
      have HQ2 : Hid (QF wr w.heap.size (nw2 n 0)) := hide (hqf.as (fun c hc => by
        simp only [nw1, nw2]
        (repeat' split) <;> first | rfl | omega))
      clear hi hqf hb HQ
      go_wp2_with fail
      go_loopg [35] 4 (fun k s35 wx => New2 w n k s35 wx)
      case atStart => exact ⟨0, rfl, rfl, HQ2.out, HB.out⟩
      case round =>
        clear HB HQ2
        obtain ⟨i, rfl, hk, hqf, hb⟩ := hrel
        have HQ := hide hqf
        have HB := hide hb
        by_cases hi : i < 4
        · have hgk : 0 < gk := by omega
          have hi' : (i : Int) < 4 := by omega
          have k1 := hqf.at (i := 49 + i) (by omega)
          have k2 := hqf.at (i := 53 + i) (by omega)
          have f1 := hqf.frozen (49 + i)
          have f2 := hqf.frozen (53 + i)
          have gl := hqf.lt
          clear hqf hb
          go_upto_region 12 with fail
          go_region
          generalize hW : World.drew _ = W1
          have HQ1 : Hid (QF W1 w.heap.size (nw2 n (i + 1))) := hide (by
            rw [← hW]
            exact QF.as (Blk.drew ((HQ.out.set_ (49 + i) (-1)).set_ (53 + i) (-1))) (nw2_succ n i hi))
          have HB1 : Hid (Below w.heap.size w W1) := hide (by
            rw [← hW]
            exact below_drewN ((HB.out.setCell (p := ⟨w.heap.size, 49 + i, none⟩) (Nat.le_refl _) _).setCell (p := ⟨w.heap.size, 53 + i, none⟩) (Nat.le_refl _) _) 1)
          clear hW k1 k2 f1 f2
          go_wp2_with fail
          go_roundg (gk - 1)
          case measure => omega
          case rel => exact ⟨i + 1, by go_num, by omega, HQ1.out, HB1.out⟩
        · have hi' : decide (i < 4) = false := by simp; omega
          have hi'' : decide ((i : Int) < 4) = false := by simp; omega
          obtain rfl : i = 4 := by omega
          clear hi hb
          go_wp2_with fail
          go_ret2
          refine ⟨rfl, ⟨_, hqf, ?_⟩, HB.out⟩
          have e : ∀ c, 1 ≤ c → nw2 n 4 c = -1 := fun c hc => by
            simp only [nw2]
            (repeat' split) <;> first | rfl | omega
          exact ⟨h16, by simp [nw2], ⟨fun _ _ => List.nodup_nil, fun _ _ i hi => absurd hi (by simp), fun _ _ _ _ i hi => absurd hi (by simp)⟩, fun _ _ i hi => absurd hi (by simp), fun i _ _ => e _ (by omega), fun l _ => e _ (by omega), fun l _ => e _ (by omega), fun _ _ => trivial⟩
end Go.Proofs.Ytadlfebpaijbhaa.Lv
