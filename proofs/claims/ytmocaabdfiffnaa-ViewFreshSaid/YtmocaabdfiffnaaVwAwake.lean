/- The law's 'awake', walked. -/
import Derived.Test.YtmocaabdfiffnaaVwAwakeP
namespace Go.Proofs.Ytmocaabdfiffnaa.Ct
open Go.RowKit Go.Proofs.Ytmocaabdfiffnaa.W Go.Maps
set_option linter.unusedVariables false
set_option linter.unusedSimpArgs false

theorem image0 (w : World) : Calls Try.prog 6 #[.slice none 0 0] w fun e w' => e = .returned (.string im0) ∧ Below w.heap.size w w' :=
  image_any none 0 0 K7 S7 (Nat.zero_le _) w (fun h => absurd h (by omega)) (fun _ _ => by show (headB 7 1).size ≤ _; rw [headB_size]; decide)
theorem image7 (g : Nat) (w : World) (h : Blk w g 51 #[.int .i64 227, .string (headB 7 1)]) : Calls Try.prog 6 #[.slice (some ⟨g, 0, none⟩) 1 1] w fun e w' => e = .returned (.string im7) ∧ Below w.heap.size w w' :=
  image_any (some ⟨g, 0, none⟩) 1 1 K7 S7 (by decide) w (fun _ => ⟨g, 0, rfl, h.lt, fun i j hi hj => by
    obtain rfl : i = 0 := by omega
    have hj' : j = 0 ∨ j = 1 := by omega
    rcases hj' with rfl | rfl
    · exact h.cell 0
    · exact h.cell 1⟩) (fun _ _ => by show (headB 7 1).size ≤ _; rw [headB_size]; decide)
theorem differ7 (w : World) : Calls Try.prog 7 #[.string im0, .string im7, .bool true] w fun e w' => ∃ A c, e = .returned (.tuple #[.slice A 1 c, .int .i64 0]) ∧ RowV w' (.slice A 1 c) [227] ∧ Below w.heap.size w w' := by
  refine (differ_yes im0 im7 true im0_size im7_size w).mono ?_
  rintro e w' ⟨A, c, m, rfl, hm, hr, hb⟩
  rw [difs_7] at hm hr
  have hm1 : m = 1 := hm
  subst hm1
  exact ⟨A, c, rfl, hr, hb⟩
theorem look7 (w : World) : Calls Try.prog 13 #[.string im7] w fun e w' => ∃ g c, e = .returned (.tuple #[.slice (some ⟨g, 0, none⟩) 288 c, .int .i64 0]) ∧ (g < w'.heap.size ∧ w'.cell? ⟨g, 908, none⟩ = some (.int .i64 4) ∧ w'.cell? ⟨g, 909, none⟩ = some (.int .i64 3) ∧ w'.cell? ⟨g, 910, none⟩ = some (.int .i64 7) ∧ w'.cell? ⟨g, 911, none⟩ = some (.bool false)) ∧ Below w.heap.size w w' := by
  refine (looks_at im7 im7_size w).mono ?_
  rintro e w' ⟨g, c, rfl, hg, hc, hb⟩
  obtain ⟨_, s0, s1, s2, s3⟩ := seen7
  exact ⟨g, c, rfl, ⟨hg, (hc 227 0 (by omega) (by omega)).trans (by rw [s0]), (hc 227 1 (by omega) (by omega)).trans (by rw [s1]), (hc 227 2 (by omega) (by omega)).trans (by rw [s2]), (hc 227 3 (by omega) (by omega)).trans (by rw [s3])⟩, hb⟩
theorem freshes7 (g : Nat) (w : World) (h : Blk w g 9 #[.string im0, .string im7]) : Calls Try.prog 11 #[.slice (some ⟨g, 0, none⟩) 2 2] w fun e w' => e = .returned (.tuple #[.int .i64 1, .int .i64 0]) ∧ Below w.heap.size w w' := by
  refine (fresh_yes g x7 (fun d hd => ?_) w (fun d hd => ?_) h.lt).mono ?_
  · unfold x7
    split
    · exact im0_size
    · exact im7_size
  · have hd' : d = 0 ∨ d = 1 := by omega
    rcases hd' with rfl | rfl
    · exact h.cell 0
    · exact h.cell 1
  · rintro e w' ⟨rfl, hb⟩
    exact ⟨fresh7, hb⟩
theorem one_row (W : World) : RowV (W.alloc (.cells #[.int .i64 227] 3)) (.slice (some ⟨W.heap.size, 0, none⟩) 1 1) [227] :=
  .inr ⟨W.heap.size, 1, _, rfl, Blk.newAt W _ _ _ rfl, fun j hj => by
    have h : j = 0 := by have : j < 1 := hj; omega
    subst h
    rfl⟩
set_option maxRecDepth 100000 in
set_option maxHeartbeats 2000000 in
theorem awake_any (w : World) : Calls Try.prog 9 #[] w fun e w' => e = .returned (.bool true) ∧ Below w.heap.size w w' := by
  have H0 := hide image0
  have H7 := hide image7
  have HD := hide differ7
  have HL := hide look7
  have HF := hide freshes7
  have HH := hide head71
  obtain ⟨a, ha⟩ : ∃ a, im0 = a := ⟨_, rfl⟩
  obtain ⟨b, hb⟩ : ∃ b, im7 = b := ⟨_, rfl⟩
  obtain ⟨h, hh⟩ : ∃ h, headB 7 1 = h := ⟨_, rfl⟩
  rw [ha] at H0 HD HF
  rw [hb] at H7 HD HL HF
  rw [hh] at H7 HH
  clear ha hb hh
  go_enter Try.func9, Try.ntmps9
  go_upto_region 5 with (first
    | (go_at_call 6; first
        | ((with_reducible refine (H0.out _).mono ?_); rintro e w1 ⟨rfl, hb⟩; have HB1 := hide hb; clear hb)
        | ((with_reducible refine (H7.out _ _ (Blk.newAt _ _ _ _ rfl)).mono ?_); rintro e w3 ⟨rfl, hb⟩; have HB3 := hide ((HB2.out.alloc HB2.out.size _).trans (hb.mono (by have := HB2.out.size; simp; omega))); clear hb))
    | (go_at_call 18; (with_reducible refine (HH.out _).mono ?_); rintro e w2 ⟨rfl, hb⟩; have HB2 := hide (HB1.out.trans (hb.mono HB1.out.size)); clear hb)
    | (go_at_call 7; (with_reducible refine (HD.out _).mono ?_); rintro e w4 ⟨A, c, rfl, hr, hb⟩; have HR4 := hide hr; have HB4 := hide (HB3.out.trans (hb.mono HB3.out.size)); clear hb hr)
    | (go_at_call 13; (with_reducible refine (HL.out _).mono ?_); rintro e w5 ⟨gl, cl, rfl, hl, hb⟩; have HL5 := hide hl; have HR5 := hide (HR4.out.later hb); have HB5 := hide (HB4.out.trans (hb.mono HB4.out.size)); clear hb hl)
    | (go_at_call 11; (with_reducible refine (HF.out _ _ (Blk.newAt _ _ _ _ rfl)).mono ?_); rintro e w6 ⟨rfl, hb⟩; have HX := hide (((Below.refl w5.heap.size w5).alloc (Nat.le_refl _) _).trans (hb.mono (by simp))); have HR6 := hide (HR5.out.later HX.out); have HB6 := hide (HB5.out.trans (HX.out.mono HB5.out.size)); clear hb))
  obtain ⟨hg, l0, l1, l2, l3⟩ := HL5.out
  have d0 := (HX.out.cell (p := ⟨gl, 908, none⟩) hg).trans l0
  have d1 := (HX.out.cell (p := ⟨gl, 909, none⟩) hg).trans l1
  have d2 := (HX.out.cell (p := ⟨gl, 910, none⟩) hg).trans l2
  have d3 := (HX.out.cell (p := ⟨gl, 911, none⟩) hg).trans l3
  have hg6 : gl < w6.heap.size := Nat.lt_of_lt_of_le hg HX.out.size
  clear hg l0 l1 l2 l3 HL5 HX HR5 HR4 H0 H7 HD HL HF HH
  go_wp2_with (first
    | (go_at_call 10; (with_reducible refine (ints_yes _ _ 1 _ _ [227] rfl (by omega) _ (HR6.out.later ((Below.refl _ _).alloc (Nat.le_refl _) _)) (one_row _)).mono ?_); rintro e w7 ⟨rfl, q, rfl⟩))
  go_ret
  exact ⟨rfl, below_drewN (HB6.out.alloc HB6.out.size _) _⟩
end Go.Proofs.Ytmocaabdfiffnaa.Ct
