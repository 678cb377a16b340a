/- A tick of both; every call of both. -/
import Derived.Test.YtadlfebpaijbhaaSmqDo
namespace Go.Proofs.Ytadlfebpaijbhaa.Lv
open Go.RowKit Go.Proofs.Ytadlfebpaijbhaa.W
set_option linter.unusedVariables false
set_option linter.unusedSimpArgs false

set_option maxRecDepth 100000 in
set_option maxHeartbeats 4000000 in
theorem do_tick (gp gq gh gx ga gb : Nat) (s : Sm) (K I : Int) (hK : K < 0 ∨ 7 < K) (ht : s.t + 1 ≤ 1000000) (w : World) (hp : PA w gp gq gh s) (hx : XA w gx ga gb s) :
    Calls Try.prog 9 #[.pointer (some ⟨gp, 0, none⟩), .pointer (some ⟨gx, 0, none⟩), .agg #[.int .i64 K, .int .i64 I]] w (DE gp gq gh gx ga gb (tickS s) w) := by
  have n0 : (K == 0) = false := by simp; omega
  have n1 : (K == 1) = false := by simp; omega
  have n2 : (K == 2) = false := by simp; omega
  have n3 : (K == 3) = false := by simp; omega
  have n4 : (K == 4) = false := by simp; omega
  have n5 : (K == 5) = false := by simp; omega
  have n6 : (K == 6) = false := by simp; omega
  have n7 : (K == 7) = false := by simp; omega
  have HD0 := hide (da_new hp hx K I)
  have HEn := hide (fun W h => tick_any gp gq gh s ht W h)
  obtain ⟨t1, ht1⟩ : ∃ t, s.t + 1 = t := ⟨_, rfl⟩
  have e1 : IntKind.i64.wrap ((s.t : Int) + 1) = (t1 : Int) := by rw [show (s.t : Int) + 1 = (t1 : Int) by omega]; exact IntWalk.i64_in _ (by omega)
  obtain ⟨r, hr⟩ : ∃ r, t1 % 8 = r := ⟨_, rfl⟩
  have e2 : Int.tmod (t1 : Int) 8 = (r : Int) := by rw [Int.tmod_eq_emod_of_nonneg (by omega)]; omega
  have e3 : IntKind.i64.wrap (r : Int) = (r : Int) := IntWalk.i64_in _ (by omega)
  have hS : tickS s = if r = 0 then endS { s with t := t1 } else { s with t := t1 } := by
    unfold tickS
    rw [ht1, hr]
  have HTt : Hid (t1 ≤ 1000000) := hide (by omega)
  obtain ⟨s2, hs2⟩ : ∃ s2, tickS s = s2 := ⟨_, rfl⟩
  rw [ht1, hs2] at HEn
  rw [hs2] at hS ⊢
  have HS := hide hS
  have HEn2 : Hid (∀ W, PA W gp gq gh s → Calls Try.prog 10 #[.pointer (some ⟨gp, 0, none⟩)] W (PE gp gq gh s2 (.int .i64 (t1 : Int)) W)) := HEn
  clear hp hx ht hr hS hK HEn hs2 ht1
  go_enter Try.func9, Try.ntmps9
  go_upto_region 1 with fail
  generalize w.alloc (.cells #[.int .i64 K, .int .i64 I] 30) = W0 at HD0 ⊢
  have k0 := HD0.out.k
  have k1 := HD0.out.i
  have ct := HD0.out.x.ct
  have ft := HD0.out.x.p.frozen 74
  have gl := HD0.out.x.p.lt
  go_upto_region 17 with fail
  have HD1 : Hid (DA w gp gq gh gx ga gb K I s { s with t := t1 } (W0.setCell ⟨gx, 74, none⟩ (.int .i64 (t1 : Int)))) := hide (HD0.out.stepX (HD0.out.x.clock HTt.out) ((chg_self gx 74 _ W0).mono (fun _ _ => one_three0)))
  generalize W0.setCell ⟨gx, 74, none⟩ (.int .i64 (t1 : Int)) = W1 at HD1 ⊢
  clear k0 k1 ct ft gl HD0
  have ct : W1.cell? ⟨gx, 74, none⟩ = some (.int .i64 (t1 : Int)) := HD1.out.x.ct
  by_cases hr : r = 0
  · subst hr
    have HXn := hide (rend_any gx ga gb { s with t := t1 } W1 HD1.out.x)
    have hs2 : s2 = endS { s with t := t1 } := by
      have h := HS.out
      rwa [if_pos rfl] at h
    rw [← hs2] at HXn
    have htt : s2.t = t1 := by rw [hs2]; rfl
    clear hs2 HS
    go_upto_region 19 with (first
      | (go_at_call 24; (with_reducible refine HXn.out.mono ?_); intro e w2 ha; have HD2 := hide (HD1.out.doneX ha); obtain ⟨he, _, _⟩ := ha; subst he))
    clear ct
    have ct := HD2.out.x.ct
    rw [htt] at ct
    have HD3 := hide (HD2.out.drewN 1)
    have HE3 : Hid (Calls Try.prog 10 #[.pointer (some ⟨gp, 0, none⟩)] w2.drew (PE gp gq gh s2 (.int .i64 (t1 : Int)) w2.drew)) := hide (HEn2.out _ HD3.out.p)
    go_region_with (first
      | (go_at_call 10; (with_reducible refine HE3.out.mono ?_); intro e w4 ha; have HD4 := hide (HD3.out.stepP (wr := w2.drew) ha); have ct4 := HD4.out.x.ct; rw [htt] at ct4; obtain ⟨he, _, _⟩ := ha; subst he))
    all_goals
      go_wp2_with fail
      go_ret
      exact HD4.out.de
  · have z1 : ((r : Int) == 0) = false := by simp; omega
    have z2 : (r == 0) = false := by simp; omega
    have hs2 : s2 = { s with t := t1 } := by
      have h := HS.out
      rwa [if_neg hr] at h
    have htt : s2.t = t1 := by rw [hs2]
    have HD2 : Hid (DA w gp gq gh gx ga gb K I s s2 W1) := by
      rw [hs2]
      exact HD1
    clear hr HS HD1 hs2
    go_upto_region 19 with fail
    have HD3 := hide (HD2.out.drewN 1)
    have HE3 : Hid (Calls Try.prog 10 #[.pointer (some ⟨gp, 0, none⟩)] W1.drew (PE gp gq gh s2 (.int .i64 (t1 : Int)) W1.drew)) := hide (HEn2.out _ HD3.out.p)
    go_region_with (first
      | (go_at_call 10; (with_reducible refine HE3.out.mono ?_); intro e w4 ha; have HD4 := hide (HD3.out.stepP (wr := W1.drew) ha); have ct4 := HD4.out.x.ct; rw [htt] at ct4; obtain ⟨he, _, _⟩ := ha; subst he))
    all_goals
      go_wp2_with fail
      go_ret
      exact HD4.out.de
theorem do_any (gp gq gh gx ga gb : Nat) (s : Sm) (K I : Int) (ht : s.t + 1 ≤ 1000000) (w : World) (hp : PA w gp gq gh s) (hx : XA w gx ga gb s) :
    Calls Try.prog 9 #[.pointer (some ⟨gp, 0, none⟩), .pointer (some ⟨gx, 0, none⟩), .agg #[.int .i64 K, .int .i64 I]] w (DE gp gq gh gx ga gb (stepS s K I) w) := by
  unfold stepS
  by_cases h0 : K = 0
  · subst h0; exact do_hit0 gp gq gh gx ga gb s I w hp hx
  by_cases h1 : K = 1
  · subst h1; exact do_hit1 gp gq gh gx ga gb s I w hp hx
  by_cases h2 : K = 2
  · subst h2; exact do_hit2 gp gq gh gx ga gb s I w hp hx
  by_cases h3 : K = 3
  · subst h3; exact do_hit3 gp gq gh gx ga gb s I w hp hx
  rw [if_neg (by omega)]
  by_cases h4 : K = 4
  · subst h4; exact do_slot4 gp gq gh gx ga gb s I w hp hx
  rw [if_neg h4]
  by_cases h5 : K = 5
  · subst h5; exact do_slot5 gp gq gh gx ga gb s I w hp hx
  rw [if_neg h5]
  by_cases h6 : K = 6
  · subst h6; exact do_slot6 gp gq gh gx ga gb s I w hp hx
  by_cases h7 : K = 7
  · subst h7; exact do_slot7 gp gq gh gx ga gb s I w hp hx
  rw [if_neg (by omega)]
  exact do_tick gp gq gh gx ga gb s K I (by omega) ht w hp hx
theorem stepS_t (s : Sm) (K I : Int) : (stepS s K I).t ≤ s.t + 1 := by
  unfold stepS
  split
  · split
    · omega
    · show s.t ≤ s.t + 1
      omega
  split
  · show s.t ≤ s.t + 1
    omega
  split
  · unfold leftS
    split
    · show s.t ≤ s.t + 1
      omega
    · omega
  split
  · unfold usedS
    split
    · show s.t ≤ s.t + 1
      omega
    · omega
  unfold tickS
  split
  · show s.t + 1 ≤ s.t + 1
    omega
  · show s.t + 1 ≤ s.t + 1
    omega
end Go.Proofs.Ytadlfebpaijbhaa.Lv
