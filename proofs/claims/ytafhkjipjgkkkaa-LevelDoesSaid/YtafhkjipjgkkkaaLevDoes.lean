/- The law that every call of a queue is answered as the document says: walked. -/
import Derived.Test.YtafhkjipjgkkkaaLevBal
import Derived.Test.YtafhkjipjgkkkaaLevSame
namespace Go.Proofs.Ytafhkjipjgkkkaa.Lv
open Go.RowKit Go.Proofs.Ytafhkjipjgkkkaa.W
set_option linter.unusedVariables false
set_option linter.unusedSimpArgs false

set_option maxRecDepth 100000 in
set_option maxHeartbeats 4000000 in
theorem levelDoes_bad (m : Int) (hm : m < 1 ∨ 16 < m) (s : Value) (w : World) : Calls Try.prog 3 #[.int .i64 m, s] w fun e w' => e = .returned (.bool true) ∧ Below w.heap.size w w' := by
  have HN := hide (fun W => new_bad m hm W)
  have hcs : (decide (m < 1) = true) ∨ (decide (m < 1) = false ∧ decide ((16 : Int) < m) = true) := by simp; omega
  clear hm
  rcases hcs with t1 | ⟨t1, t2⟩
  all_goals
    go_enter Try.func3, Try.ntmps3
    go_wp2_with (first
      | (go_at_call 7; (with_reducible refine (HN.out _).mono ?_); rintro e w1 ⟨rfl, hb⟩; have HB1 := hide hb; clear hb)
      | (go_at_call 8; (with_reducible refine (awake_any _).mono ?_); rintro e w2 ⟨rfl, hb⟩; have HB2 := hide (HB1.out.trans (hb.mono HB1.out.size)); clear hb))
    go_ret
    exact ⟨rfl, HB2.out⟩
set_option maxRecDepth 100000 in
set_option maxHeartbeats 4000000 in
theorem levelDoes_ok (n : Nat) (hn1 : 1 ≤ n) (hn16 : n ≤ 16) (A : Option Addr) (len c : Nat) (K I N : Nat → Int) (w : World) (hl : len ≤ maxLen) (hA : Holds w w.heap.size 3 A len (actAt K I N)) (hN : ∀ i, i < len → -9223372036854775808 ≤ N i ∧ N i ≤ 9223372036854775807) :
    Calls Try.prog 3 #[.int .i64 (n : Int), .slice A len c] w fun e w' => e = .returned (.bool true) ∧ Below w.heap.size w w' := by
  unfold maxLen at hl
  have t1 : decide ((n : Int) < 1) = false := by simp; omega
  have t2 : decide ((16 : Int) < (n : Int)) = false := by simp; omega
  have t3 : decide (16 < n) = false := by simp; omega
  have t4 : decide (n < 1) = false := by simp; omega
  have HN := hide hN
  have HA := hide hA
  have hz := zeroRef
  clear hN hA
  go_enter Try.func3, Try.ntmps3
  go_upto_region 7 with (first
    | (go_at_call 7; (with_reducible refine (new_ok n hn1 hn16 _).mono ?_); rintro e w1 ⟨rfl, hq, hb⟩; (obtain ⟨gq, hgq⟩ : ∃ g, w.heap.size = g := ⟨_, rfl⟩); (have HG := hide hgq); rw [hgq] at hq; simp only [hgq]; (have HQ1 := hide hq); (have HB1 := hide hb); clear hq hb hgq)
    | (go_at_call 8; (with_reducible refine (awake_any _).mono ?_); rintro e w2 ⟨rfl, hb⟩; have HB2 := hide hb; clear hb))
  obtain ⟨gx, hgx⟩ : ∃ g, w1.heap.size = g := ⟨_, rfl⟩
  have HLaw : Hid (LawAt w gq gx n E0 w2) := hide (by
    have hb1 := HB1.out
    have h0 := ref_new w1 gx hgx.symm
    have b1 : Below w1.heap.size w1 (w1.alloc (.cells (row 4 fun _ => .slice none 0 0) 32)) := (Below.refl _ _).alloc (Nat.le_refl _) _
    refine ⟨(HQ1.out.later b1).later HB2.out, h0.later HB2.out, (hb1.alloc hb1.size _).trans (HB2.out.mono (by have := hb1.size; simp; omega)), by have := HG.out; omega, by have := hb1.size; omega⟩)
  simp only [hgx]
  clear HQ1 HB1 HB2 hgx hz t1 t2 t3 t4
  generalize Value.agg (row 4 fun _ => Value.slice none 0 0) = vv
  go_wp2_with fail
  go_loopg [8] 60 (fun k s8 wr => ActRel w gq gx n 60 len k s8 wr)
  case atStart => exact ⟨0, E0, rfl, rfl, by omega, HLaw.out⟩
  case round =>
    clear HLaw
    obtain ⟨i, R, rfl, hk, hil, hlaw⟩ := hrel
    have HLaw := hide hlaw
    clear hlaw
    by_cases hgo : i < len ∧ i < 60
    · have hgk : 0 < gk := by omega
      have hi1 : (i : Int) < (len : Int) := by omega
      have hi2 : (i : Int) < 60 := by omega
      obtain ⟨b, off, rfl, hbB, hc⟩ := HA.out (by omega)
      have c0 := (HLaw.out.below.cell (p := ⟨b, off + i * 3 + 0, none⟩) hbB).trans (hc i 0 hgo.1 (by omega))
      have c1 := (HLaw.out.below.cell (p := ⟨b, off + i * 3 + 1, none⟩) hbB).trans (hc i 1 hgo.1 (by omega))
      have c2 := (HLaw.out.below.cell (p := ⟨b, off + i * 3 + 2, none⟩) hbB).trans (hc i 2 hgo.1 (by omega))
      simp [actAt] at c0 c1 c2
      have HDo := hide (do_any gq gx n (K i) (I i) (N i) (HN.out i hgo.1).1 (HN.out i hgo.1).2 R R hn16 HLaw.out.q.good wr HLaw.out.q HLaw.out.x)
      clear hc hgo
      go_wp2_with (first
        | (go_at_call 9; (with_reducible refine HDo.out.mono ?_); rintro e w3 hd; (obtain ⟨he, hl3⟩ := hd.law HLaw.out); subst he; (have HLaw3 := hide hl3); clear hd hl3)
        | (go_at_call 10; (with_reducible refine (same_yes gq gx n _ hn16 _ HLaw3.out.q HLaw3.out.x).mono ?_); rintro e w4 ⟨rfl, hb⟩; have HLaw4 := hide (HLaw3.out.later hb); clear hb))
      go_roundg (gk - 1)
      case measure => omega
      case rel => exact ⟨i + 1, _, by go_num, by omega, by omega, HLaw4.out⟩
    · have hcs : (decide ((i : Int) < (len : Int)) = false ∧ decide (i < len) = false) ∨ ((i : Int) < (len : Int) ∧ decide ((i : Int) < 60) = false ∧ decide (i < 60) = false) := by
        simp; omega
      clear hgo
      rcases hcs with ⟨t1, t2⟩ | ⟨t1, t2, t3⟩
      all_goals
        go_wp2_with fail
        go_ret
        exact ⟨rfl, HLaw.out.below⟩
end Go.Proofs.Ytafhkjipjgkkkaa.Lv
