/- What a nil queue answers: walked. -/
import Derived.Test.YtafhkjipjgkkkaaLevMore
namespace Go.Proofs.Ytafhkjipjgkkkaa.Lv
open Go.RowKit Go.Proofs.Ytafhkjipjgkkkaa.W
set_option linter.unusedVariables false
set_option linter.unusedSimpArgs false

theorem list_nil (l : Int) (w : World) : Calls Try.prog 11 #[.pointer none, .int .i64 l] w fun e w' => e = .returned (.slice none 0 0) ∧ Below w.heap.size w w' := list_none none l (fun W => front_nil l W) w
def NilRel (w : World) (k : Nat) (s3 s5 : Value) (wr : World) : Prop := ∃ i : Nat, s5 = .int .i64 (i : Int) ∧ s3 = .int .i64 0 ∧ i + k = 4 ∧ Below w.heap.size w wr
theorem len_nil (w : World) : Calls Try.prog 13 #[.pointer none] w fun e w' => e = .returned (.int .i64 0) ∧ Below w.heap.size w w' := by
  have HL := hide list_nil
  go_enter Try.func13, Try.ntmps13
  go_wp2_with fail
  go_loopg [3, 5] 4 (fun k s3 s5 wr => NilRel w k s3 s5 wr)
  case atStart => exact ⟨0, rfl, rfl, rfl, Below.refl _ _⟩
  case round =>
    obtain ⟨i, rfl, rfl, hk, hb⟩ := hrel
    have HB := hide hb
    clear hb
    by_cases hi : i < 4
    · have hgk : 0 < gk := by omega
      have hi' : (i : Int) < 4 := by omega
      go_wp2_with (first
        | (go_at_call 11; (with_reducible refine (HL.out _ _).mono ?_); rintro e w2 ⟨rfl, hb⟩; have HB2 := hide (HB.out.trans (hb.mono HB.out.size)); clear hb))
      go_roundg (gk - 1)
      case measure => omega
      case rel => exact ⟨i + 1, by go_num, rfl, by omega, HB2.out⟩
    · have hi' : decide (i < 4) = false := by simp; omega
      have hi'' : decide ((i : Int) < 4) = false := by simp; omega
      clear hi
      go_wp2_with fail
      go_ret
      exact ⟨rfl, HB.out⟩
def NilBal (w : World) (k : Nat) (s5 s6 : Value) (wr : World) : Prop := ∃ l : Nat, s6 = .int .i64 (l : Int) ∧ s5 = .int .i64 0 ∧ l = k ∧ l ≤ 3 ∧ Below w.heap.size w wr
set_option maxRecDepth 100000 in
theorem balance_nil (most : Int) (w : World) : Calls Try.prog 14 #[.pointer none, .int .i64 most] w fun e w' => e = .returned (.int .i64 0) ∧ Below w.heap.size w w' := by
  have HL := hide list_nil
  obtain ⟨m, hm⟩ : ∃ m : Nat, (if most < 0 then (0 : Int) else most) = (m : Int) := ⟨most.toNat, by split <;> omega⟩
  go_enter Try.func14, Try.ntmps14
  go_wp2_with fail
  go_loopg [5, 6] 3 (fun k s5 s6 wr => NilBal w k s5 s6 wr)
  case atStart => exact ⟨3, rfl, rfl, rfl, by omega, Below.refl _ _⟩
  case round =>
    obtain ⟨l, rfl, rfl, hk, hl3, hb⟩ := hrel
    have HB := hide hb
    have HK := hide hk
    clear hb
    by_cases hl : 0 < l
    · have hgk : 0 < gk := by omega
      have hl' : (0 : Int) < (l : Int) := by omega
      have e1 : IntKind.i64.wrap ((l : Int) - 1) = ((l - 1 : Nat) : Int) := by rw [show (l : Int) - 1 = ((l - 1 : Nat) : Int) by omega]; exact IntWalk.i64_in _ (by omega)
      have t1 : decide ((m : Int) < 0) = false := by simp
      clear hk
      obtain ⟨g0, hg0⟩ : ∃ g, g = gk := ⟨gk, rfl⟩
      subst hg0
      go_wp2_with fail
      go_loopg [5] 0 (fun k s5 wx => k = 0 ∧ s5 = .int .i64 0 ∧ Below w.heap.size w wx)
      case atStart => exact ⟨rfl, rfl, HB.out⟩
      case round =>
        clear HB
        obtain ⟨rfl, rfl, hb⟩ := hrel
        have HB := hide hb
        clear hb
        go_wp2_with (first
          | (go_at_call 11; (with_reducible refine (HL.out _ _).mono ?_); rintro e w2 ⟨rfl, hb⟩; have HB2 := hide (HB.out.trans (hb.mono HB.out.size)); clear hb))
        go_roundg (g0 - 1)
        case measure => omega
        case rel => exact ⟨l - 1, rfl, rfl, by have := HK.out; omega, by omega, HB2.out⟩
    · obtain rfl : l = 0 := by omega
      clear hl hk
      go_wp2_with fail
      go_ret
      exact ⟨rfl, HB.out⟩
end Go.Proofs.Ytafhkjipjgkkkaa.Lv
