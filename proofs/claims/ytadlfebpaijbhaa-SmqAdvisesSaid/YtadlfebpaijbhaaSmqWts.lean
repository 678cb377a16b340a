/- What Promote answers; the document's weights: walked. -/
import Derived.Test.YtadlfebpaijbhaaSmqProm
namespace Go.Proofs.Ytadlfebpaijbhaa.Lv
open Go.RowKit Go.Proofs.Ytadlfebpaijbhaa.W Go.Proofs.Ytadlfebpaijbhaa.Dice
set_option linter.unusedVariables false
set_option linter.unusedSimpArgs false

def proB (L : List Int) (draw : Int) : Bool := decide (0 ≤ draw ∧ 0 < isum L)
def proG (L : List Int) (draw : Int) : Int := if 0 ≤ draw ∧ 0 < isum L then ((plc (draw % isum L) L : Nat) : Int) else 0
theorem promote_any (gp gq gh : Nat) (s : Sm) (C : Nat → Bool) (draw : Int) (hd : draw ≤ 9223372036854775807) (w : World) (h : PA w gp gq gh s) :
    Calls Try.prog 12 #[.pointer (some ⟨gp, 0, none⟩), .agg (row 16 fun i => .bool (C i)), .int .i64 draw] w fun e w' => e = .returned (.tuple #[.int .i64 (proG (wts s.H C 16) draw), .bool (proB (wts s.H C 16) draw)]) ∧ Below w.heap.size w w' := by
  have hle := wts_le s.H C 16
  have h0 := (isum_take_le _ hle 16).1
  rw [List.take_of_length_le (by rw [wts_len]; omega)] at h0
  unfold proG proB
  by_cases hdr : 0 ≤ draw
  · by_cases hs : 0 < isum (wts s.H C 16)
    · rw [if_pos ⟨hdr, hs⟩]
      refine promote_core gp gq gh s C draw _ _ w h (draw / isum (wts s.H C 16)) 0 (by simp [hdr, hs]) (fun A c W hA => ?_)
      exact pick_any draw A 16 c _ W hA hdr hd (by omega) hle hs
    · rw [if_neg (by omega)]
      refine promote_core gp gq gh s C draw _ _ w h 0 7 (by simp [hdr, hs]) (fun A c W hA => ?_)
      exact (pick_zero draw A 16 c _ W hA hdr (by omega) (by omega) hle (by omega)).mono (fun e w' ⟨h1, h2⟩ => ⟨h1, 0, h2⟩)
  · rw [if_neg (by omega)]
    refine promote_core gp gq gh s C draw _ _ w h 0 3 (by simp [hdr]) (fun A c W hA => ?_)
    exact (pick_neg draw A 16 c W (by omega)).mono (fun e w' ⟨h1, h2⟩ => ⟨h1, 0, h2⟩)
def WtRel (w : World) (R : Nat → List Nat) (C : Nat → Bool) (k : Nat) (s5 s6 s7 : Value) (wr : World) : Prop := ∃ (i : Nat) (A : Option Addr) (c : Nat), s6 = .int .i64 (i : Int) ∧ s5 = .slice A i c ∧ i + k = 16 ∧
  Blk wr w.heap.size 35 (row 16 fun i => .bool (C i)) ∧ Below w.heap.size w wr ∧ w.heap.size + 1 ≤ wr.heap.size ∧ wr.ownsRow (w.heap.size + 1) 3 1 (.slice A i c) i ((wts R C i).map (Value.int .i64))
def WtE (R : Nat → List Nat) (C : Nat → Bool) (w : World) (e : Ending) (w' : World) : Prop := ∃ A c, e = .returned (.slice A 16 c) ∧ IntsAt w' w'.heap.size A 16 (wts R C 16) ∧ Below w.heap.size w w'
set_option maxRecDepth 100000 in
set_option maxHeartbeats 1000000 in
theorem weights_any (gx ga gb : Nat) (s : Sm) (C : Nat → Bool) (w : World) (h : XA w gx ga gb s) :
    Calls Try.prog 14 #[.pointer (some ⟨gx, 0, none⟩), .agg (row 16 fun i => .bool (C i))] w (WtE s.H C w) := by
  obtain ⟨i0, hi0, hz0, hz1, hz2⟩ := info3 int_info
  have HX := hide h
  clear h
  go_enter Try.func14, Try.ntmps14
  go_upto_region 1 with fail
  have HC1 : Hid (Blk (w.alloc (.cells (row 16 fun i => .bool (C i)) 35)) w.heap.size 35 (row 16 fun i => .bool (C i))) := hide (Blk.newAt w _ _ _ rfl)
  have HB1 := hide ((Below.refl w.heap.size w).alloc (Nat.le_refl _) (.cells (row 16 fun i => .bool (C i)) 35))
  have HS1 : Hid (w.heap.size + 1 ≤ (w.alloc (.cells (row 16 fun i => .bool (C i)) 35)).heap.size) := hide (by simp)
  generalize w.alloc (.cells (row 16 fun i => .bool (C i)) 35) = W1 at HC1 HB1 HS1 ⊢
  go_wp2_with fail
  go_loopg [5, 6, 7] 16 (fun k s5 s6 s7 wr => WtRel w s.H C k s5 s6 s7 wr)
  case atStart => exact ⟨0, none, 0, rfl, rfl, rfl, HC1.out, HB1.out, HS1.out, ⟨rfl, .inl ⟨rfl, rfl⟩⟩⟩
  case round =>
    obtain ⟨i, A, c, rfl, rfl, hk, h1, h3, h4, h5⟩ := hrel
    clear HC1 HB1 HS1
    have H1 := hide h1
    have H3 := hide h3
    have H4 := hide h4
    have H5 := hide h5
    clear h1 h3 h4 h5
    by_cases hi : i < 16
    · have hi' : (i : Int) < 16 := by omega
      have hgk : 0 < gk := by omega
      have HXi := hide (HX.out.later H3.out)
      have c0 := HXi.out.c0
      have cc := H1.out.at hi
      have HW := hide (where_any ga i s.H (len16 HXi.out.ok.h (by omega)) wr HXi.out.q)
      have hk' : i + 1 + (gk - 1) = 16 := by omega
      obtain ⟨x, hx⟩ : ∃ x, wt s.H C i = x := ⟨_, rfl⟩
      have HV : Hid (wt s.H C i = x) := hide hx
      -- what the element is
      have hcs : (whV s.H i = -1 ∧ x = 0) ∨ (∃ l : Nat, whV s.H i = (l : Int) ∧ l ≤ 3 ∧ ((C i = true ∧ x = 0) ∨ (C i = false ∧ x = (l : Int) * (l : Int)))) := by
        unfold whV
        unfold wt hl at hx
        by_cases hw : wh s.H i < 4
        · rw [if_pos hw] at hx
          rw [if_pos hw]
          refine .inr ⟨wh s.H i, rfl, by omega, ?_⟩
          cases hc : C i with
          | true => exact .inl ⟨rfl, by rw [← hx, hc]; rfl⟩
          | false => exact .inr ⟨rfl, by rw [← hx, hc]; rfl⟩
        · rw [if_neg hw] at hx
          rw [if_neg hw]
          refine .inl ⟨rfl, ?_⟩
          rw [← hx]
          split <;> rfl
      clear hx hk
      rcases hcs with ⟨e1, rfl⟩ | ⟨l, e1, hl3, hcs⟩
      · rw [e1] at HW
        clear e1
        go_wp2_with (first
          | (go_at_call 29; (with_reducible refine HW.out.mono ?_); rintro e wx ⟨rfl, hw⟩; subst wx)
          | (at_builtin; refine wpList_append_at _ rfl (.tmp 25) (.tmp 29) 41 rfl (w.heap.size + 1) 3 i0 (.int .i64 0) 1 8 Try.underlying41 hi0 hz0 hz1 hz2 rfl (by decide) _ i _ rfl (by exact H5.out.alloc _) ⟨wr.heap.size, 0, none⟩ 1 1 [.int .i64 (0)] rfl rfl (by exact new_cell _ _ _ _ rfl) (by simp [Value.oneCell']) (by simp [maxLen]; omega) (by omega) (by have := H4.out; simp; omega) ?_; intro v1 w1 hown1 hg1 hat1; have HO1 := hide hown1; have HG1 := hide hg1; obtain ⟨A1, c1, hv1⟩ := own_form hown1; subst hv1; clear hown1 hat1 hg1))
        have h4 := H4.out
        have own0 := H5.out.alloc (.cells #[.int .i64 (0)] 3)
        have hgs : (wr.alloc (.cells #[.int .i64 (0)] 3)).grownBy w1 (Value.slice A i c).ownBlock := HG1.out
        go_roundg (gk - 1)
        case measure => omega
        case rel =>
          refine ⟨i + 1, A1, c1, by go_num, rfl, hk', kept_blk own0 hgs (H1.out.alloc _) (by omega), kept_below own0 hgs (H3.out.alloc H3.out.size _) (by omega) (by simp; omega), ?_, ?_⟩
          · have := hgs.size
            simp at this
            omega
          · have h := HO1.out
            rw [show (wts s.H C (i + 1)).map (Value.int .i64) = (wts s.H C i).map (Value.int .i64) ++ [.int .i64 (0)] by rw [← HV.out]; simp [wts]]
            exact h
      · rw [e1] at HW
        clear e1
        have l0 : decide ((l : Int) < 0) = false := by simp
        rcases hcs with ⟨hc, rfl⟩ | ⟨hc, rfl⟩
        · rw [hc] at cc
          clear hc
          go_wp2_with (first
            | (go_at_call 29; (with_reducible refine HW.out.mono ?_); rintro e wx ⟨rfl, hw⟩; subst wx)
            | (at_builtin; refine wpList_append_at _ rfl (.tmp 25) (.tmp 29) 41 rfl (w.heap.size + 1) 3 i0 (.int .i64 0) 1 8 Try.underlying41 hi0 hz0 hz1 hz2 rfl (by decide) _ i _ rfl (by exact H5.out.alloc _) ⟨wr.heap.size, 0, none⟩ 1 1 [.int .i64 (0)] rfl rfl (by exact new_cell _ _ _ _ rfl) (by simp [Value.oneCell']) (by simp [maxLen]; omega) (by omega) (by have := H4.out; simp; omega) ?_; intro v1 w1 hown1 hg1 hat1; have HO1 := hide hown1; have HG1 := hide hg1; obtain ⟨A1, c1, hv1⟩ := own_form hown1; subst hv1; clear hown1 hat1 hg1))
          have h4 := H4.out
          have own0 := H5.out.alloc (.cells #[.int .i64 (0)] 3)
          have hgs : (wr.alloc (.cells #[.int .i64 (0)] 3)).grownBy w1 (Value.slice A i c).ownBlock := HG1.out
          go_roundg (gk - 1)
          case measure => omega
          case rel =>
            refine ⟨i + 1, A1, c1, by go_num, rfl, hk', kept_blk own0 hgs (H1.out.alloc _) (by omega), kept_below own0 hgs (H3.out.alloc H3.out.size _) (by omega) (by simp; omega), ?_, ?_⟩
            · have := hgs.size
              simp at this
              omega
            · have h := HO1.out
              rw [show (wts s.H C (i + 1)).map (Value.int .i64) = (wts s.H C i).map (Value.int .i64) ++ [.int .i64 (0)] by rw [← HV.out]; simp [wts]]
              exact h
        · rw [hc] at cc
          have ew : IntKind.i64.wrap ((l : Int) * (l : Int)) = (l : Int) * (l : Int) := by
            have : l = 0 ∨ l = 1 ∨ l = 2 ∨ l = 3 := by omega
            rcases this with rfl | rfl | rfl | rfl <;> decide
          clear hc
          go_wp2_with (first
            | (go_at_call 29; (with_reducible refine HW.out.mono ?_); rintro e wx ⟨rfl, hw⟩; subst wx)
            | (at_builtin; refine wpList_append_at _ rfl (.tmp 25) (.tmp 29) 41 rfl (w.heap.size + 1) 3 i0 (.int .i64 0) 1 8 Try.underlying41 hi0 hz0 hz1 hz2 rfl (by decide) _ i _ rfl (by exact H5.out.alloc _) ⟨wr.heap.size, 0, none⟩ 1 1 [.int .i64 ((l : Int) * (l : Int))] rfl rfl (by exact new_cell _ _ _ _ rfl) (by simp [Value.oneCell']) (by simp [maxLen]; omega) (by omega) (by have := H4.out; simp; omega) ?_; intro v1 w1 hown1 hg1 hat1; have HO1 := hide hown1; have HG1 := hide hg1; obtain ⟨A1, c1, hv1⟩ := own_form hown1; subst hv1; clear hown1 hat1 hg1))
          have h4 := H4.out
          have own0 := H5.out.alloc (.cells #[.int .i64 ((l : Int) * (l : Int))] 3)
          have hgs : (wr.alloc (.cells #[.int .i64 ((l : Int) * (l : Int))] 3)).grownBy w1 (Value.slice A i c).ownBlock := HG1.out
          go_roundg (gk - 1)
          case measure => omega
          case rel =>
            refine ⟨i + 1, A1, c1, by go_num, rfl, hk', kept_blk own0 hgs (H1.out.alloc _) (by omega), kept_below own0 hgs (H3.out.alloc H3.out.size _) (by omega) (by simp; omega), ?_, ?_⟩
            · have := hgs.size
              simp at this
              omega
            · have h := HO1.out
              rw [show (wts s.H C (i + 1)).map (Value.int .i64) = (wts s.H C i).map (Value.int .i64) ++ [.int .i64 ((l : Int) * (l : Int))] by rw [← HV.out]; simp [wts]]
              exact h
    · obtain rfl : i = 16 := by omega
      clear hi hk
      go_wp2_with fail
      go_ret
      exact ⟨A, c, rfl, IntsAt.of_own H5.out, H3.out⟩
end Go.Proofs.Ytadlfebpaijbhaa.Lv
