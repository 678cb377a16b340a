/- The end of a period; ticks; the making of a policy. -/
import Derived.Test.YtadlfebpaijbhaaSmqGroup
namespace Go.Proofs.Ytadlfebpaijbhaa.Lv
open Go.RowKit Go.Proofs.Ytadlfebpaijbhaa.W
set_option linter.unusedVariables false
set_option linter.unusedSimpArgs false

theorem zero64 (w : World) : (zeroValue 50).run Try.prog w = .ok (.agg (row 64 fun _ => .int .i64 0)) w := by kernel_rfl
theorem zero8 (w : World) : (zeroValue 38).run Try.prog w = .ok (.agg (row 8 fun _ => .bool false)) w := by kernel_rfl
theorem info64 : (Try.prog.info? 50).map (·.size) = some 64 := by kernel_rfl
theorem info8 : (Try.prog.info? 38).map (·.size) = some 8 := by kernel_rfl
theorem infoB : (Try.prog.info? 4).map (·.size) = some 1 := by kernel_rfl
theorem index8 (U : Nat → Bool) (i : Nat) (hi : i < 8) (w : World) : (Instr.index 38 (.agg (row 8 fun c => .bool (U c))) (.int .i64 (i : Int))).run Try.prog w = .ok (.bool (U i)) w :=
  run_index_row 38 4 8 (fun c => .bool (U c)) i hi _ Try.underlying38 rfl Try.underlying4 infoB w
theorem over_counts (gq gh : Nat) (C : Nat → Nat) (U : Nat → Bool) (t : Nat) : row 75 (over (pcell gq gh C U t) 2 64 fun _ => .int .i64 0) = row 75 (pcell gq gh (fun _ => 0) U t) := by
  apply row_congr
  intro i hi
  unfold over pcell
  by_cases h : 2 ≤ i ∧ i < 2 + 64
  · rw [if_pos h, if_neg (by omega), if_neg (by omega), if_pos (by omega)]
    rfl
  · rw [if_neg h]
    split
    · rfl
    · split
      · rfl
      · split
        · rename_i h1 h2 h3
          exact absurd ⟨by omega, by omega⟩ h
        · rfl
theorem over_used (gq gh : Nat) (C : Nat → Nat) (U : Nat → Bool) (t : Nat) : row 75 (over (pcell gq gh C U t) 66 8 fun _ => .bool false) = row 75 (pcell gq gh C (fun _ => false) t) := by
  apply row_congr
  intro i hi
  unfold over pcell
  by_cases h : 66 ≤ i ∧ i < 66 + 8
  · rw [if_pos h, if_neg (by omega), if_neg (by omega), if_neg (by omega), if_pos (by omega)]
  · rw [if_neg h]
    split
    · rfl
    · split
      · rfl
      · split
        · rfl
        · rw [if_neg (by omega), if_neg (by omega)]
theorem PA.zeroC {w : World} {gp gq gh : Nat} {s : Sm} (h : PA w gp gq gh s) : PA (w.setRow gp (row 75 (over (pcell gq gh s.C s.U s.t) 2 64 fun _ => .int .i64 0))) gp gq gh { s with C := fun _ => 0 } := by
  have hc : Chg (one gp) w (w.setRow gp (row 75 (over (pcell gq gh s.C s.U s.t) 2 64 fun _ => .int .i64 0))) := (Chg.refl (one gp) w).setRow (.inl rfl) _
  refine ⟨?_, h.q.chg hc (fun (e : gq = gp) => h.nq e.symm), h.h.chg hc (fun (e : gh = gp) => h.nh e.symm), h.ne, ⟨h.ok.h, h.ok.l, fun _ => Nat.zero_le _⟩, h.t⟩
  have := h.p.row_ (row 75 (over (pcell gq gh s.C s.U s.t) 2 64 fun _ => .int .i64 0))
  rw [over_counts] at this ⊢
  exact this
theorem PA.zeroU {w : World} {gp gq gh : Nat} {s : Sm} (h : PA w gp gq gh s) : PA (w.setRow gp (row 75 (over (pcell gq gh s.C s.U s.t) 66 8 fun _ => .bool false))) gp gq gh { s with U := fun _ => false } := by
  have hc : Chg (one gp) w (w.setRow gp (row 75 (over (pcell gq gh s.C s.U s.t) 66 8 fun _ => .bool false))) := (Chg.refl (one gp) w).setRow (.inl rfl) _
  refine ⟨?_, h.q.chg hc (fun (e : gq = gp) => h.nq e.symm), h.h.chg hc (fun (e : gh = gp) => h.nh e.symm), h.ne, ⟨h.ok.h, h.ok.l, h.ok.c⟩, h.t⟩
  have := h.p.row_ (row 75 (over (pcell gq gh s.C s.U s.t) 66 8 fun _ => .bool false))
  rw [over_used] at this ⊢
  exact this
theorem stR_is (R : Nat → List Nat) (m : Nat) : ∀ j, stR' R m j = stR R m j
  | 0 => rfl
  | j + 1 => by
    show bal (stR' R m j) (3 - j) ((stR' R m j (3 - j)).length - m) = bal (stR R m j) (3 - j) ((stR R m j (3 - j)).length - m)
    rw [stR_is R m j]
theorem endS_is (s : Sm) : endS s = ⟨stR (grps s.H s.C 16) 4 3, stR (slts s.L s.U 8) 2 3, fun _ => 0, fun _ => false, s.t⟩ := by
  unfold endS
  rw [stR_is, stR_is]
def E1Rel (w : World) (gp gq gh : Nat) (s : Sm) (k : Nat) (s5 : Value) (wr : World) : Prop := ∃ i : Nat, s5 = .int .i64 (i : Int) ∧ i + k = 16 ∧ PA wr gp gq gh { s with H := grps s.H s.C i } ∧ Chg (three gp gq gh) w wr
def E2Rel (w : World) (gp gq gh : Nat) (s : Sm) (H : Nat → List Nat) (C : Nat → Nat) (k : Nat) (s25 : Value) (wr : World) : Prop := ∃ i : Nat, s25 = .int .i64 (i : Int) ∧ i + k = 8 ∧ PA wr gp gq gh ⟨H, slts s.L s.U i, C, s.U, s.t⟩ ∧ Chg (three gp gq gh) w wr
theorem part_used (gq gh : Nat) (C : Nat → Nat) (U : Nat → Bool) (t : Nat) : ∀ i, i < 8 → pcell gq gh C U t (66 + i) = Value.bool (U i) := fun i hi => pcell_used gq gh C U t hi
set_option maxRecDepth 100000 in
set_option maxHeartbeats 1000000 in
theorem end_any (gp gq gh : Nat) (s : Sm) (w : World) (h : PA w gp gq gh s) : Calls Try.prog 25 #[.pointer (some ⟨gp, 0, none⟩)] w fun e w' => e = .returned (.tuple #[]) ∧ PA w' gp gq gh (endS s) ∧ Chg (three gp gq gh) w w' := by
  have hz1 := zero64
  have hz2 := zero8
  have hix := fun i hi w => index8 s.U i hi w
  have HIx := hide hix
  have HP := hide h
  clear h hix
  go_enter Try.func25, Try.ntmps25
  go_wp2_with fail
  go_loopg [2, 5] 16 (fun k s2 s5 wr => E1Rel w gp gq gh s k s5 wr)
  case atStart => exact ⟨0, rfl, rfl, HP.out, Chg.refl _ _⟩
  case round =>
    obtain ⟨i, rfl, hk, hp, hc⟩ := hrel
    have HPi := hide hp
    have HCi := hide hc
    have HK := hide hk
    clear hp hc hk
    by_cases hi : i < 16
    · have hlt : (i : Int) < 16 := by omega
      have HG := hide (group_any gp gq gh { s with H := grps s.H s.C i } i hi wr HPi.out)
      go_wp2_with (first
        | (go_at_call 42; (with_reducible refine HG.out.mono ?_); rintro e w1 ⟨rfl, h1, h2⟩; have H1 := hide h1; have H2 := hide h2; clear h1 h2))
      have hk := HK.out
      go_roundg (gk - 1)
      case measure => omega
      case rel => exact ⟨i + 1, by go_num, by omega, H1.out, HCi.out.trans H2.out (fun _ _ h => h)⟩
    · obtain rfl : i = 16 := by have := HK.out; omega
      clear hi HK
      obtain ⟨G, hG⟩ : ∃ G, grps s.H s.C 16 = G := ⟨_, rfl⟩
      have HG := hide hG
      have HPj : Hid (PA wr gp gq gh ⟨G, s.L, s.C, s.U, s.t⟩) := hide (by rw [← hG]; exact HPi.out)
      clear HPi hG
      have HPi := HPj
      clear HPj
      have gl := HPi.out.p.lt
      go_upto_region 6 with (first
        | (with_reducible refine wpList_store_sub rfl 50 (.tmp 15) (.tmp 13) rfl gp 2 rfl 52 75 64 _ _ rfl HPi.out.p info64 (by omega) (fun j _ => rfl) ?_))
      have hp2 : PA (wr.setRow gp (row 75 (over (pcell gq gh s.C s.U s.t) 2 64 fun _ => .int .i64 0))) gp gq gh ⟨G, s.L, fun _ => 0, s.U, s.t⟩ := HPi.out.zeroC
      have hc2 : Chg (three gp gq gh) w (wr.setRow gp (row 75 (over (pcell gq gh s.C s.U s.t) 2 64 fun _ => .int .i64 0))) := HCi.out.setRow (.inl (.inl rfl)) _
      generalize wr.setRow gp (row 75 (over (pcell gq gh s.C s.U s.t) 2 64 fun _ => .int .i64 0)) = W2 at hp2 hc2 ⊢
      have HP2 := hide hp2
      have HC2 := hide hc2
      have c02 := hp2.c0
      have HBal := hide (balance_any gq 16 G 4 4 (by decide) W2 hp2.q)
      obtain ⟨G2, hG2⟩ : ∃ G2, stR G 4 3 = G2 := ⟨_, rfl⟩
      rw [hG2] at HBal
      have HG2 := hide hG2
      clear hG2
      clear hp2 hc2 HPi HCi gl
      simp only [Act.put, List.setIfInBounds_toArray, List.set_cons_succ, List.set_cons_zero]
      go_upto_region 7 with (first
        | (go_at_call 43; (with_reducible refine HBal.out.mono ?_); rintro e w3 ⟨rfl, h1, h2⟩; have HP3 : Hid (PA w3 gp gq gh ⟨G2, s.L, fun _ => 0, s.U, s.t⟩) := hide (HP2.out.hot h1 h2); have HC3 := hide (HC2.out.trans h2 (fun _ _ => one_three)); clear h1 h2))
      have gl3 := HP3.out.p.lt
      clear c02 HBal HP2 HC2
      go_wp2_with (first
        | (with_reducible refine wpList_load_part rfl 38 (.tmp 23) rfl gp 66 rfl 52 75 8 _ _ _ HP3.out.p (part_used _ _ _ _ _) rfl Try.underlying38 info8 (by omega) ?_))
      go_loopg [3, 4, 25] 8 (fun k s3 s4 s25 wr => E2Rel w gp gq gh s G2 (fun _ => 0) k s25 wr)
      case atStart => exact ⟨0, rfl, rfl, HP3.out, HC3.out⟩
      case round =>
        obtain ⟨i, rfl, hk, hp, hc⟩ := hrel
        have HPi := hide hp
        have HCi := hide hc
        have HK := hide hk
        clear hp hc hk
        by_cases hi : i < 8
        · have hlt : (i : Int) < 8 := by omega
          have hix := HIx.out i hi
          obtain ⟨b, hb⟩ : ∃ b, s.U i = b := ⟨_, rfl⟩
          rw [hb] at hix
          have c1 := HPi.out.c1
          obtain ⟨c, hAE⟩ : ∃ c, Calls Try.prog 44 #[.pointer (some ⟨gh, 0, none⟩), .int .i64 (i : Int), .int .i64 (if b then 1 else -1)] wr (AE gh 8 (slts s.L s.U (i + 1)) c wr) := by
            show ∃ c, Calls Try.prog 44 _ wr (AE gh 8 (slt (slts s.L s.U i) s.U i) c wr)
            unfold slt
            rw [hb]
            by_cases hw : wh (slts s.L s.U i) i = 4
            · rw [if_pos hw]
              exact ⟨7, move_off gh 8 _ i _ hi hw wr HPi.out.h⟩
            · rw [if_neg hw]
              exact ⟨0, move_on gh 8 _ i _ hi (wh_lt hw) wr HPi.out.h⟩
          have HA := hide hAE
          clear hb hAE
          cases b with
          | true =>
            have HA1 : Hid (Calls Try.prog 44 #[.pointer (some ⟨gh, 0, none⟩), .int .i64 (i : Int), .int .i64 1] wr (AE gh 8 (slts s.L s.U (i + 1)) c wr)) := HA
            go_wp2_with (first
              | (go_at_call 44; (with_reducible refine HA1.out.mono ?_); intro e w4 ha; have HE : Hid (PA w4 gp gq gh ⟨G2, slts s.L s.U (i + 1), fun _ => 0, s.U, s.t⟩) := hide (HPi.out.held ha.2.1 ha.2.2); have HC := hide (HCi.out.trans ha.2.2 (fun _ _ => one_three')); obtain ⟨he, _, _⟩ := ha; subst he))
            have hk := HK.out
            go_roundg (gk - 1)
            case measure => omega
            case rel => exact ⟨i + 1, by go_num, by omega, HE.out, HC.out⟩
          | false =>
            have HA1 : Hid (Calls Try.prog 44 #[.pointer (some ⟨gh, 0, none⟩), .int .i64 (i : Int), .int .i64 (-1)] wr (AE gh 8 (slts s.L s.U (i + 1)) c wr)) := HA
            go_wp2_with (first
              | (go_at_call 44; (with_reducible refine HA1.out.mono ?_); intro e w4 ha; have HE : Hid (PA w4 gp gq gh ⟨G2, slts s.L s.U (i + 1), fun _ => 0, s.U, s.t⟩) := hide (HPi.out.held ha.2.1 ha.2.2); have HC := hide (HCi.out.trans ha.2.2 (fun _ _ => one_three')); obtain ⟨he, _, _⟩ := ha; subst he))
            have hk := HK.out
            go_roundg (gk - 1)
            case measure => omega
            case rel => exact ⟨i + 1, by go_num, by omega, HE.out, HC.out⟩
        · obtain rfl : i = 8 := by have := HK.out; omega
          obtain ⟨Lx, hLx⟩ : ∃ L, slts s.L s.U 8 = L := ⟨_, rfl⟩
          have HLx := hide hLx
          have HPj : Hid (PA wr gp gq gh ⟨G2, Lx, fun _ => 0, s.U, s.t⟩) := hide (by rw [← hLx]; exact HPi.out)
          clear HPi hLx
          have HPi := HPj
          clear HPj hi HK HP3 HC3 gl3
          have gl := HPi.out.p.lt
          go_upto_region 15 with (first
            | (with_reducible refine wpList_store_sub rfl 38 (.tmp 46) (.tmp 44) rfl gp 66 rfl 52 75 8 _ _ rfl HPi.out.p info8 (by omega) (fun j _ => rfl) ?_))
          have hp4 : PA (wr.setRow gp (row 75 (over (pcell gq gh (fun _ => 0) s.U s.t) 66 8 fun _ => .bool false))) gp gq gh ⟨G2, Lx, fun _ => 0, fun _ => false, s.t⟩ := HPi.out.zeroU
          have hc4 : Chg (three gp gq gh) w (wr.setRow gp (row 75 (over (pcell gq gh (fun _ => 0) s.U s.t) 66 8 fun _ => .bool false))) := HCi.out.setRow (.inl (.inl rfl)) _
          generalize wr.setRow gp (row 75 (over (pcell gq gh (fun _ => 0) s.U s.t) 66 8 fun _ => .bool false)) = W4 at hp4 hc4 ⊢
          have HP4 := hide hp4
          have HC4 := hide hc4
          have c14 := hp4.c1
          have HBal := hide (balance_any gh 8 Lx 2 2 (by decide) W4 hp4.h)
          obtain ⟨L2, hL2⟩ : ∃ L2, stR Lx 2 3 = L2 := ⟨_, rfl⟩
          rw [hL2] at HBal
          have HL2 := hide hL2
          clear hL2
          clear hp4 hc4 HPi HCi gl
          simp only [Act.put, List.setIfInBounds_toArray, List.set_cons_succ, List.set_cons_zero]
          go_wp2_with (first
            | (go_at_call 43; (with_reducible refine HBal.out.mono ?_); rintro e w5 ⟨rfl, h1, h2⟩; have HP5 : Hid (PA w5 gp gq gh ⟨G2, L2, fun _ => 0, fun _ => false, s.t⟩) := hide (HP4.out.held h1 h2); have HC5 := hide (HC4.out.trans h2 (fun _ _ => one_three')); clear h1 h2))
          go_end0
          refine ⟨rfl, ?_, HC5.out⟩
          rw [endS_is, HG.out, HG2.out, HLx.out, HL2.out]
          exact HP5.out
theorem tick_any (gp gq gh : Nat) (s : Sm) (ht : s.t + 1 ≤ 1000000) (w : World) (h : PA w gp gq gh s) : Calls Try.prog 10 #[.pointer (some ⟨gp, 0, none⟩)] w (PE gp gq gh (tickS s) (.int .i64 ((s.t + 1 : Nat) : Int)) w) := by
  obtain ⟨t1, ht1⟩ : ∃ t, s.t + 1 = t := ⟨_, rfl⟩
  have ct := h.ct
  have ft := h.p.frozen 74
  have gl := h.p.lt
  have e1 : IntKind.i64.wrap ((s.t : Int) + 1) = (t1 : Int) := by rw [show (s.t : Int) + 1 = (t1 : Int) by omega]; exact IntWalk.i64_in _ (by omega)
  obtain ⟨r, hr⟩ : ∃ r, t1 % 8 = r := ⟨_, rfl⟩
  have e2 : Int.tmod (t1 : Int) 8 = (r : Int) := by rw [Int.tmod_eq_emod_of_nonneg (by omega)]; omega
  have e3 : IntKind.i64.wrap (r : Int) = (r : Int) := IntWalk.i64_in _ (by omega)
  have hp1 := h.clock (x := t1) (by omega)
  have hc1 : Chg (three gp gq gh) w (w.setCell ⟨gp, 74, none⟩ (.int .i64 (t1 : Int))) := (chg_self gp 74 _ w).mono (fun _ _ => one_three0)
  have HP1 := hide hp1
  have HC1 := hide hc1
  have hS : tickS s = if r = 0 then endS { s with t := t1 } else { s with t := t1 } := by
    unfold tickS
    rw [ht1, hr]
  have HS := hide hS
  rw [ht1]
  clear h hp1 hc1 ht1 hr hS
  go_enter Try.func10, Try.ntmps10
  go_upto_region 4 with fail
  generalize w.setCell ⟨gp, 74, none⟩ (.int .i64 (t1 : Int)) = W1 at HP1 HC1 ⊢
  have ct1 := HP1.out.ct
  clear ct ft gl e1
  by_cases hr : r = 0
  · subst hr
    have HE := hide (end_any gp gq gh { s with t := t1 } W1 HP1.out)
    go_upto_region 6 with (first
      | (go_at_call 25; (with_reducible refine HE.out.mono ?_); rintro e w2 ⟨rfl, h1, h2⟩; have HP2 := hide h1; have HC2 := hide (HC1.out.trans h2 (fun _ _ h => h)); clear h1 h2))
    have ct2 : w2.cell? ⟨gp, 74, none⟩ = some (.int .i64 (t1 : Int)) := HP2.out.ct
    clear ct1
    go_wp2_with fail
    go_ret
    exact ⟨rfl, by rw [HS.out, if_pos (by first | trivial | rfl)]; exact HP2.out, HC2.out⟩
  · have z1 : ((r : Int) == 0) = false := by simp; omega
    have z2 : (r == 0) = false := by simp; omega
    have HR := hide hr
    clear hr
    go_wp2_with fail
    go_ret
    exact ⟨rfl, by rw [HS.out, if_neg HR.out]; exact HP1.out, HC1.out⟩
end Go.Proofs.Ytadlfebpaijbhaa.Lv
