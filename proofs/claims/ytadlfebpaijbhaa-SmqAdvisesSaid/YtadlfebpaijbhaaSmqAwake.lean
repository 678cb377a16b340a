/- The law's own policy: walked. -/
import Derived.Test.YtadlfebpaijbhaaSmqNew
import Derived.Test.YtadlfebpaijbhaaSmqAwakeP
namespace Go.Proofs.Ytadlfebpaijbhaa.Lv
open Go.RowKit Go.Proofs.Ytadlfebpaijbhaa.W Go.Proofs.Ytadlfebpaijbhaa.Dice
set_option linter.unusedVariables false
set_option linter.unusedSimpArgs false

def AwRel (w : World) (gp gq gh : Nat) (S : Nat → Sm) (n k : Nat) (s : Value) (wr : World) : Prop := ∃ i : Nat, s = .int .i64 (i : Int) ∧ i + k = n ∧ PA wr gp gq gh (S i) ∧ Below w.heap.size w wr
theorem zero16 (w : World) : (zeroValue 35).run Try.prog w = .ok (.agg (row 16 fun _ => .bool false)) w := by kernel_rfl
theorem PE.below {w wr w' : World} {gp gq gh : Nat} {s : Sm} {v : Value} {e : Ending} (h : PE gp gq gh s v wr e w') (hb : Below w.heap.size w wr) (h1 : w.heap.size ≤ gp ∧ w.heap.size ≤ gq ∧ w.heap.size ≤ gh) : Below w.heap.size w w' :=
  hb.trans (h.2.2.below hb.size (fun i hi => by rcases hi with rfl | rfl | rfl <;> omega))
theorem tickN_t (s : Sm) : ∀ n, (tickN n s).t = s.t + n
  | 0 => rfl
  | n + 1 => by
    show (tickS (tickN n s)).t = _
    have := tickN_t s n
    unfold tickS
    split
    · show (tickN n s).t + 1 = _
      omega
    · show (tickN n s).t + 1 = _
      omega
set_option maxRecDepth 100000 in
set_option maxHeartbeats 1000000 in
theorem awake_any (w : World) : Calls Try.prog 8 #[] w fun e w' => e = .returned (.bool true) ∧ Below w.heap.size w w' := by
  have hz := zero16
  have HNew := hide (pnew_any w)
  go_enter Try.func8, Try.ntmps8
  go_upto_region 2 with (first
    | (go_at_call 6; (with_reducible refine HNew.out.mono ?_); rintro e w1 ⟨gp, gq, gh, rfl, h1, h2, h3⟩; have H1 := hide h1; have H2 := hide h2; have H3 := hide h3; clear h1 h2 h3))
  go_wp2_with fail
  go_loopg [2] 4 (fun k s2 wr => AwRel w gp gq gh (fun i => hitN i sm0 3) 4 k s2 wr)
  case atStart => exact ⟨0, rfl, rfl, H1.out, H2.out⟩
  case round =>
    obtain ⟨i, rfl, hk, hp, hb⟩ := hrel
    have HP := hide hp
    have HB := hide hb
    clear hp hb H1 H2
    by_cases hi : i < 4
    · have hi' : (i : Int) < 4 := by omega
      have hgk : 0 < gk := by omega
      have hk' : i + 1 + (gk - 1) = 4 := by omega
      have HH : Hid (Calls Try.prog 20 #[.pointer (some ⟨gp, 0, none⟩), .int .i64 3] wr (PE gp gq gh (hitS (hitN i sm0 3) 3) (.int .i64 0) wr)) := hide (hit_any gp gq gh (hitN i sm0 3) 3 (by omega) wr HP.out)
      clear hk
      go_wp2_with (first
        | (go_at_call 20; (with_reducible refine HH.out.mono ?_); intro e w2 ha; have HE := hide ha; obtain ⟨he, _, _⟩ := ha; subst he))
      go_roundg (gk - 1)
      case measure => omega
      case rel => exact ⟨i + 1, by go_num, hk', HE.out.2.1, HE.out.below HB.out H3.out⟩
    · obtain rfl : i = 4 := by omega
      clear hi hk
      go_wp2_with fail
      go_loopg [3] 8 (fun k s3 wx => AwRel w gp gq gh (fun i => tickN i (hitN 4 sm0 3)) 8 k s3 wx)
      case atStart => exact ⟨0, rfl, rfl, HP.out, HB.out⟩
      case round =>
        obtain ⟨i, rfl, hk, hp, hb⟩ := hrel
        clear HP HB
        have HP := hide hp
        have HB := hide hb
        clear hp hb
        by_cases hi : i < 8
        · have hi' : (i : Int) < 8 := by omega
          have hgk : 0 < gk := by omega
          have hk' : i + 1 + (gk - 1) = 8 := by omega
          have HT := hide (tick_any gp gq gh (tickN i (hitN 4 sm0 3)) (by rw [tickN_t]; show 0 + i + 1 ≤ 1000000; omega) wr HP.out)
          obtain ⟨u, hu⟩ : ∃ u, (tickN i (hitN 4 sm0 3)).t + 1 = u := ⟨_, rfl⟩
          rw [hu] at HT
          clear hk hu
          go_wp2_with (first
            | (go_at_call 10; (with_reducible refine HT.out.mono ?_); intro e w2 ha; have HE := hide ha; obtain ⟨he, _, _⟩ := ha; subst he))
          go_roundg (gk - 1)
          case measure => omega
          case rel => exact ⟨i + 1, by go_num, hk', HE.out.2.1, HE.out.below HB.out H3.out⟩
        · obtain rfl : i = 8 := by omega
          clear hi hk
          have HHt : Hid (Calls Try.prog 11 #[.pointer (some ⟨gp, 0, none⟩), .int .i64 3] wr fun e w' => e = .returned (.tuple #[.int .i64 2, .bool true]) ∧ w' = wr) := hide (by
            have h := heat_any gp gq gh _ 3 wr HP.out
            rw [awake_H.1] at h
            have e : heatV 16 (E1 3 2) 3 = .tuple #[.int .i64 2, .bool true] := by
              unfold heatV
              have hw : wh (E1 3 2) (Int.toNat 3) = 2 := wh_E1 3 2 (by omega)
              rw [hw, if_pos (by omega)]
              rfl
            rw [e] at h
            exact h)
          have HPr : Hid (Calls Try.prog 12 #[.pointer (some ⟨gp, 0, none⟩), .agg (row 16 fun _ => .bool false), .int .i64 5] wr fun e w' => e = .returned (.tuple #[.int .i64 3, .bool true]) ∧ Below wr.heap.size wr w') := hide (by
            have h := promote_any gp gq gh _ (fun _ => false) 5 (by omega) wr HP.out
            rw [awake_H.1, awake_pro.1, awake_pro.2] at h
            exact h)
          have HCk : Hid (∀ w', Below wr.heap.size wr w' → Calls Try.prog 21 #[.pointer (some ⟨gp, 0, none⟩)] w' fun e w'' => e = .returned (.int .i64 8) ∧ w'' = w') := hide (fun w' hb => by
            have h := clock_any gp gq gh _ w' (HP.out.later hb)
            rw [awake_H.2] at h
            exact h)
          go_wp2_with (first
            | (go_at_call 11; (with_reducible refine HHt.out.mono ?_); rintro e wx ⟨rfl, hw⟩; subst wx)
            | (go_at_call 12; (with_reducible refine HPr.out.mono ?_); rintro e w2 ⟨rfl, hb2⟩; have HB2 := hide hb2; clear hb2)
            | (go_at_call 21; (with_reducible refine (HCk.out _ HB2.out).mono ?_); rintro e wx ⟨rfl, hw⟩; subst wx))
          go_ret
          exact ⟨rfl, HB.out.trans (HB2.out.mono HB.out.size)⟩
end Go.Proofs.Ytadlfebpaijbhaa.Lv
