/- Contracts of the reference's counts. -/
import Derived.Test.YtmkhicaaemghiaaTallyOf
namespace Go.Proofs.Ytmkhicaaemghiaa.Ta
open Go.RowKit Go.Proofs.Ytmkhicaaemghiaa.W Go.Proofs.Ytmkhicaaemghiaa.Fl
set_option linter.unusedVariables false
set_option linter.unusedSimpArgs false

def CntRel (w : World) (s : Nat → Nat) (c l : Nat) (k : Nat) (s7 s8 : Value) (wr : World) : Prop :=
  ∃ i : Nat, s7 = .int .i64 (cnt s i c : Int) ∧ s8 = .int .i64 (i : Int) ∧ i + k = l ∧ w = wr

theorem slotK_yes {a : Int} {k : Nat} (hk : k < 24) (h : a = (k : Int) ∨ (k = 0 ∧ (a < 1 ∨ 23 < a))) : slotK a = k := by unfold slotK; split <;> omega
theorem slotK_no {a : Int} {k : Nat} (hk : k < 24) (h : a ≠ (k : Int)) (h2 : ¬ (k = 0 ∧ (a < 1 ∨ 23 < a))) : slotK a ≠ k := by unfold slotK; split <;> omega

set_option maxRecDepth 100000 in
set_option maxHeartbeats 1000000 in
theorem kinds_any (n c l k : Nat) (A : Option Addr) (F : Nat → Nat → Value) (K : Nat → Int) (wb : Nat) (w : World) (hA : ActsAt w wb A n F K) (hl : l ≤ n) (hk : k < 24) (hn : n ≤ maxLen) :
    Calls Try.prog 8 #[.slice A n c, .int .i64 (l : Int), .int .i64 (k : Int)] w fun e w' => e = .returned (.int .i64 (cnt (fun i => slotK (K i)) l k : Int)) ∧ w = w' := by
  have HA := hide hA
  clear hA
  simp only [maxLen] at hn
  go_enter Try.func8, Try.ntmps8
  go_wp2_with fail
  go_loopg [7, 8] l (fun j s7 s8 wr => CntRel w (fun i => slotK (K i)) k l j s7 s8 wr)
  case atStart => exact ⟨0, rfl, rfl, by omega, rfl⟩
  case round =>
    obtain ⟨i, rfl, rfl, hj, rfl⟩ := hrel
    by_cases hi : i < l
    · obtain ⟨b1, o1, rfl, hb1, hc1⟩ := HA.out.holds (by omega)
      have c0 := hc1 i 0 (by omega) (by omega)
      rw [HA.out.kind i (by omega)] at c0
      simp only [Nat.add_zero] at c0
      obtain ⟨x, hx⟩ : ∃ x, cnt (fun i => slotK (K i)) i k = x := ⟨_, rfl⟩
      have hx2 : x ≤ i := by rw [← hx]; exact cnt_le _ _ _
      obtain ⟨a, ha⟩ : ∃ a, K i = a := ⟨_, rfl⟩
      rw [ha] at c0
      rw [hx]
      have HX := hide hx
      have HA1 := hide ha
      have hin : i < n := by omega
      have hgk : 0 < gk := by omega
      have hstep : ∀ y : Nat, (slotK a = k → y = x + 1) → (slotK a ≠ k → y = x) → (y : Int) = (cnt (fun i => slotK (K i)) (i + 1) k : Int) := by
        intro y h1 h2
        rw [cnt, HX.out]
        simp only [HA1.out]
        by_cases h : slotK a = k
        · rw [if_pos h, h1 h]
        · rw [if_neg h, h2 h]; rfl
      have HS := hide hstep
      clear hx ha hc1 hstep
      by_cases h1 : a = (k : Int)
      · have t1 : (a == (k : Int)) = true := by simpa using h1
        have HY := hide (slotK_yes hk (.inl h1))
        clear h1
        go_wp2_with fail
        go_roundg (gk - 1)
        case measure => omega
        case rel => exact ⟨i + 1, congrArg _ (HS.out (x + 1) (fun _ => rfl) (fun h => absurd HY.out h)), by go_num, by omega, rfl⟩
      · have t1 : (a == (k : Int)) = false := by simpa using h1
        by_cases h0 : k = 0
        · have t2 : ((k : Int) == 0) = true := by simp; omega
          have t2' : (k == 0) = true := by simp; omega
          by_cases h2 : a < 1
          · have HY := hide (slotK_yes hk (.inr ⟨h0, .inl h2⟩))
            have t3 : decide (a < 1) = true := by simpa using h2
            clear h1 h0 
            go_wp2_with fail
            go_roundg (gk - 1)
            case measure => omega
            case rel => exact ⟨i + 1, congrArg _ (HS.out (x + 1) (fun _ => rfl) (fun h => absurd HY.out h)), by go_num, by omega, rfl⟩
          · have t3 : decide (a < 1) = false := by simpa using h2
            by_cases h3 : 23 < a
            · have HY := hide (slotK_yes hk (.inr ⟨h0, .inr h3⟩))
              have t4 : decide (23 < a) = true := by simpa using h3
              clear h1 h0 h2
              go_wp2_with fail
              go_roundg (gk - 1)
              case measure => omega
              case rel => exact ⟨i + 1, congrArg _ (HS.out (x + 1) (fun _ => rfl) (fun h => absurd HY.out h)), by go_num, by omega, rfl⟩
            · have t4 : decide (23 < a) = false := by simpa using h3
              have HY := hide (slotK_no hk h1 (by omega))
              clear h1 h0 h2 h3
              go_wp2_with fail
              go_roundg (gk - 1)
              case measure => omega
              case rel => exact ⟨i + 1, congrArg _ (HS.out x (fun h => absurd h HY.out) (fun _ => rfl)), by go_num, by omega, rfl⟩
        · have t2 : ((k : Int) == 0) = false := by simp; omega
          have t2' : (k == 0) = false := by simp; omega
          have HY := hide (slotK_no hk h1 (by omega))
          clear h1 h0
          go_wp2_with fail
          go_roundg (gk - 1)
          case measure => omega
          case rel => exact ⟨i + 1, congrArg _ (HS.out x (fun h => absurd h HY.out) (fun _ => rfl)), by go_num, by omega, rfl⟩
    · have hi' : decide (i < l) = false := by simp; omega
      obtain rfl : i = l := by omega
      clear hi
      go_wp2_with fail
      go_ret
      exact ⟨rfl, rfl⟩

theorem slotE_yes {a : Int} {k : Nat} (hk : k < 32) (h : (a = (k : Int) ∧ k < 31 ∨ (k = 31 ∧ (a < 0 ∨ 30 < a)))) : slotE a = k := by unfold slotE; split <;> omega
theorem slotE_no {a : Int} {k : Nat} (hk : k < 32) (h : ¬ (a = (k : Int) ∧ k < 31)) (h2 : ¬ (k = 31 ∧ (a < 0 ∨ 30 < a))) : slotE a ≠ k := by unfold slotE; split <;> omega

set_option maxRecDepth 100000 in
set_option maxHeartbeats 1000000 in
theorem errors_any (n c l k : Nat) (A : Option Addr) (F : Nat → Nat → Value) (K : Nat → Int) (S : Nat → ByteArray) (wb : Nat) (w : World) (hA : ToldAt w wb A n F K S) (hl : l ≤ n) (hk : k < 32) (hn : n ≤ maxLen) :
    Calls Try.prog 9 #[.slice A n c, .int .i64 (l : Int), .int .i64 (k : Int)] w fun e w' => e = .returned (.int .i64 (cnt (fun i => slotE (K i)) l k : Int)) ∧ w = w' := by
  have HA := hide hA
  clear hA
  simp only [maxLen] at hn
  go_enter Try.func9, Try.ntmps9
  go_wp2_with fail
  go_loopg [7, 8] l (fun j s7 s8 wr => CntRel w (fun i => slotE (K i)) k l j s7 s8 wr)
  case atStart => exact ⟨0, rfl, rfl, by omega, rfl⟩
  case round =>
    obtain ⟨i, rfl, rfl, hj, rfl⟩ := hrel
    by_cases hi : i < l
    · obtain ⟨b1, o1, rfl, hb1, hc1⟩ := HA.out.holds (by omega)
      have c0 := hc1 i 0 (by omega) (by omega)
      rw [HA.out.err i (by omega)] at c0
      simp only [Nat.add_zero] at c0
      obtain ⟨x, hx⟩ : ∃ x, cnt (fun i => slotE (K i)) i k = x := ⟨_, rfl⟩
      have hx2 : x ≤ i := by rw [← hx]; exact cnt_le _ _ _
      obtain ⟨a, ha⟩ : ∃ a, K i = a := ⟨_, rfl⟩
      rw [ha] at c0
      rw [hx]
      have HX := hide hx
      have HA1 := hide ha
      have hin : i < n := by omega
      have hgk : 0 < gk := by omega
      have hstep : ∀ y : Nat, (slotE a = k → y = x + 1) → (slotE a ≠ k → y = x) → (y : Int) = (cnt (fun i => slotE (K i)) (i + 1) k : Int) := by
        intro y h1 h2
        rw [cnt, HX.out]
        simp only [HA1.out]
        by_cases h : slotE a = k
        · rw [if_pos h, h1 h]
        · rw [if_neg h, h2 h]; rfl
      have HS := hide hstep
      clear hx ha hc1 hstep
      by_cases h31 : k = 31
      · have t2 : decide (k < 31) = false := by simp; omega
        have t2' : decide ((k : Int) < 31) = false := by simp; omega
        have t3 : ((k : Int) == 31) = true := by simp; omega
        have t3' : (k == 31) = true := by simp; omega
        have hd : ∀ b : Bool, (a == (k : Int)) = b → True := fun _ _ => trivial
        by_cases h2 : a < 0
        · have HY := hide (slotE_yes hk (.inr ⟨h31, .inl h2⟩))
          have t1 : (a == (k : Int)) = false := by simp; omega
          have t4 : decide (a < 0) = true := by simpa using h2
          clear h31 hd
          go_wp2_with fail
          go_roundg (gk - 1)
          case measure => omega
          case rel => exact ⟨i + 1, congrArg _ (HS.out (x + 1) (fun _ => rfl) (fun h => absurd HY.out h)), by go_num, by omega, rfl⟩
        · have t4 : decide (a < 0) = false := by simpa using h2
          by_cases h3 : 30 < a
          · have HY := hide (slotE_yes hk (.inr ⟨h31, .inr h3⟩))
            have t5 : decide (30 < a) = true := by simpa using h3
            clear h2 hd
            by_cases h1 : a = (k : Int)
            · have t1 : (a == (k : Int)) = true := by simpa using h1
              clear h31 h1
              go_wp2_with fail
              go_roundg (gk - 1)
              case measure => omega
              case rel => exact ⟨i + 1, congrArg _ (HS.out (x + 1) (fun _ => rfl) (fun h => absurd HY.out h)), by go_num, by omega, rfl⟩
            · have t1 : (a == (k : Int)) = false := by simpa using h1
              clear h31 h1
              go_wp2_with fail
              go_roundg (gk - 1)
              case measure => omega
              case rel => exact ⟨i + 1, congrArg _ (HS.out (x + 1) (fun _ => rfl) (fun h => absurd HY.out h)), by go_num, by omega, rfl⟩
          · have t5 : decide (30 < a) = false := by simpa using h3
            have t1 : (a == (k : Int)) = false := by simp; omega
            have HY := hide (slotE_no (a := a) (k := k) hk (by omega) (by omega))
            clear h31 h2 h3 hd
            go_wp2_with fail
            go_roundg (gk - 1)
            case measure => omega
            case rel => exact ⟨i + 1, congrArg _ (HS.out x (fun h => absurd h HY.out) (fun _ => rfl)), by go_num, by omega, rfl⟩
      · have t2 : decide (k < 31) = true := by simp; omega
        have t2' : decide ((k : Int) < 31) = true := by simp; omega
        have t3 : ((k : Int) == 31) = false := by simp; omega
        have t3' : (k == 31) = false := by simp; omega
        by_cases h1 : a = (k : Int)
        · have HY := hide (slotE_yes hk (.inl ⟨h1, by omega⟩))
          have t1 : (a == (k : Int)) = true := by simpa using h1
          clear h31 h1
          go_wp2_with fail
          go_roundg (gk - 1)
          case measure => omega
          case rel => exact ⟨i + 1, congrArg _ (HS.out (x + 1) (fun _ => rfl) (fun h => absurd HY.out h)), by go_num, by omega, rfl⟩
        · have HY := hide (slotE_no (a := a) (k := k) hk (by omega) (by omega))
          have t1 : (a == (k : Int)) = false := by simpa using h1
          clear h31 h1
          go_wp2_with fail
          go_roundg (gk - 1)
          case measure => omega
          case rel => exact ⟨i + 1, congrArg _ (HS.out x (fun h => absurd h HY.out) (fun _ => rfl)), by go_num, by omega, rfl⟩
    · have hi' : decide (i < l) = false := by simp; omega
      obtain rfl : i = l := by omega
      clear hi
      go_wp2_with fail
      go_ret
      exact ⟨rfl, rfl⟩

def ReadRel (w : World) (K E : Nat → Int) (S : Nat → ByteArray) (l : Nat) (k : Nat) (s9 s10 s11 s12 : Value) (wr : World) : Prop :=
  ∃ i : Nat, s9 = .int .i64 (byts K E (fun i => (S i).size) i) ∧ s10 = .int .i64 (beatR K E i) ∧ s11 = .int .i64 (beatI K E i) ∧ s12 = .int .i64 (i : Int) ∧ i + k = l ∧ w = wr

set_option maxRecDepth 100000 in
set_option maxHeartbeats 1000000 in
theorem reads_any (n m c d l : Nat) (A B : Option Addr) (F G : Nat → Nat → Value) (K E : Nat → Int) (S : Nat → ByteArray) (wb : Nat) (w : World) (hA : ActsAt w wb A n F K) (hB : ToldAt w wb B m G E S) (hl : l ≤ n) (hm : l ≤ m) (hn : l < 140737488355328) :
    Calls Try.prog 10 #[.slice A n c, .slice B m d, .int .i64 (l : Int)] w fun e w' => e = .returned (.tuple #[.int .i64 (byts K E (fun i => (S i).size) l), .int .i64 (beatR K E l), .int .i64 (beatI K E l)]) ∧ w = w' := by
  have HA := hide hA
  have HB := hide hB
  clear hA hB
  go_enter Try.func10, Try.ntmps10
  go_wp2_with fail
  go_loopg [9, 10, 11, 12] l (fun j s9 s10 s11 s12 wr => ReadRel w K E S l j s9 s10 s11 s12 wr)
  case atStart => exact ⟨0, rfl, rfl, rfl, rfl, by omega, rfl⟩
  case round =>
    obtain ⟨i, rfl, rfl, rfl, rfl, hj, rfl⟩ := hrel
    by_cases hi : i < l
    · obtain ⟨b1, o1, rfl, hb1, hc1⟩ := HA.out.holds (by omega)
      obtain ⟨b2, o2, rfl, hb2, hc2⟩ := HB.out.holds (by omega)
      have c0 := hc1 i 0 (by omega) (by omega)
      have g0 := hc2 i 0 (by omega) (by omega)
      have g1 := hc2 i 1 (by omega) (by omega)
      rw [HA.out.kind i (by omega)] at c0
      rw [HB.out.err i (by omega)] at g0
      rw [HB.out.text i (by omega)] at g1
      simp only [Nat.add_zero] at c0 g0
      obtain ⟨a, ha⟩ : ∃ a, K i = a := ⟨_, rfl⟩
      obtain ⟨b, hb⟩ : ∃ b, E i = b := ⟨_, rfl⟩
      rw [ha] at c0
      rw [hb] at g0
      obtain ⟨x, hx⟩ : ∃ x, beatR K E i = x := ⟨_, rfl⟩
      obtain ⟨y, hy⟩ : ∃ y, beatI K E i = y := ⟨_, rfl⟩
      obtain ⟨z, hz⟩ : ∃ z, byts K E (fun i => (S i).size) i = z := ⟨_, rfl⟩
      have bx := beatR_le K E i
      have bY := beatI_le K E i
      rw [hx] at bx
      rw [hy] at bY
      have bx0 := bx.1
      have bx1 := bx.2
      have by0 := bY.1
      have by1 := bY.2
      rw [hx, hy, hz]
      have HX := hide hx
      have HY := hide hy
      have HZ := hide hz
      have HA1 := hide ha
      have HB1 := hide hb
      have hin : i < n := by omega
      have him : i < m := by omega
      have hgk : 0 < gk := by omega
      clear hx hy hz ha hb hc1 hc2 bx bY
      by_cases h1 : a = 1
      · have t1 : (a != 1) = false := by simpa using h1
        by_cases h2 : b = 0
        · have t2 : (b != 0) = false := by simpa using h2
          have HR : Hid (reads K E i = true) := hide (by simp [reads, HA1.out, HB1.out, h1, h2])
          have h4 : i % 4 = 0 ∨ i % 4 = 1 ∨ i % 4 = 2 ∨ i % 4 = 3 := by omega
          clear h1 h2
          rcases h4 with h | h | h | h
          all_goals
            have hq : Hid (qre i = qre (i % 4) ∧ qim i = qim (i % 4)) := hide (by unfold qre qim; rw [h]; exact ⟨rfl, rfl⟩)
            have hm4 : (i : Int).tmod 4 = ((i % 4 : Nat) : Int) := by rw [Int.tmod_eq_emod_of_nonneg (by omega)]; omega
            have hm5 : (i : Int) % 4 = ((i % 4 : Nat) : Int) := by omega
            rw [h] at hm4 hm5 hq
            clear h
            go_wp2_with fail
            go_roundg (gk - 1)
            case measure => omega
            case rel =>
              refine ⟨i + 1, ?_, ?_, ?_, by go_num, by omega, rfl⟩
              · rw [byts, if_pos HR.out, HZ.out]
              · rw [beatR, if_pos HR.out, HX.out, hq.out.1]; first | (simp [qre]; done) | (simp [qre]; omega)
              · rw [beatI, if_pos HR.out, HY.out, hq.out.2]; first | (simp [qim]; done) | (simp [qim]; omega)
        · have t2 : (b != 0) = true := by simpa using h2
          have HR : Hid (reads K E i = false) := hide (by simp [reads, HA1.out, HB1.out, h1, h2])
          clear h1 h2
          go_wp2_with fail
          go_roundg (gk - 1)
          case measure => omega
          case rel => exact ⟨i + 1, by rw [byts, HR.out]; exact congrArg _ HZ.out.symm, by rw [beatR, HR.out]; exact congrArg _ HX.out.symm, by rw [beatI, HR.out]; exact congrArg _ HY.out.symm, by go_num, by omega, rfl⟩
      · have t1 : (a != 1) = true := by simpa using h1
        have HR : Hid (reads K E i = false) := hide (by simp [reads, HA1.out, h1])
        clear h1
        go_wp2_with fail
        go_roundg (gk - 1)
        case measure => omega
        case rel => exact ⟨i + 1, by rw [byts, HR.out]; exact congrArg _ HZ.out.symm, by rw [beatR, HR.out]; exact congrArg _ HX.out.symm, by rw [beatI, HR.out]; exact congrArg _ HY.out.symm, by go_num, by omega, rfl⟩
    · have hi' : decide (i < l) = false := by simp; omega
      obtain rfl : i = l := by omega
      clear hi
      go_wp2_with fail
      go_ret3
      exact ⟨rfl, rfl⟩
end Go.Proofs.Ytmkhicaaemghiaa.Ta
