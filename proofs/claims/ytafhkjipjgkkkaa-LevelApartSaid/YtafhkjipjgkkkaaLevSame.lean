/- The law's 'same': walked. -/
import Derived.Test.YtafhkjipjgkkkaaLevInts
import Derived.BigRegion
namespace Go.Proofs.Ytafhkjipjgkkkaa.Lv
open Go.RowKit Go.Proofs.Ytafhkjipjgkkkaa.W
set_option linter.unusedVariables false
set_option linter.unusedSimpArgs false

def SameRel (w : World) (k : Nat) (s5 : Value) (wr : World) : Prop := ∃ l : Nat, s5 = .int .i64 (l : Int) ∧ l + k = 4 ∧ Below w.heap.size w wr
set_option maxRecDepth 100000 in
set_option maxHeartbeats 100000000 in
theorem same_yes (gq gx n : Nat) (R : Nat → List Nat) (hn : n ≤ 16) (w : World) (hq : QAt w gq n R) (hx : RefAt w gx R) :
    Calls Try.prog 10 #[.pointer (some ⟨gq, 0, none⟩), .pointer (some ⟨gx, 0, none⟩)] w fun e w' => e = .returned (.bool true) ∧ Below w.heap.size w w' := by
  have HQ := hide hq
  have HX := hide hx
  clear hq hx
  go_enter Try.func10, Try.ntmps10
  go_wp2_with fail
  go_loopg [5] 4 (fun k s5 wr => SameRel w k s5 wr)
  case atStart => exact ⟨0, rfl, rfl, Below.refl _ _⟩
  case round =>
    obtain ⟨l, rfl, hk, hb⟩ := hrel
    have HB := hide hb
    have HQr := hide (HQ.out.later hb)
    obtain ⟨V, hV⟩ := HX.out.later hb
    have HV := hide hV
    clear hb hV
    by_cases hl : l < 4
    · have hgk : 0 < gk := by omega
      have hl' : (l : Int) < 4 := by omega
      have cv := HV.out.blk.at hl
      have gl := HV.out.blk.lt
      have hr := HV.out.row l hl
      obtain ⟨A0, c0, hv⟩ := hr.form
      rw [hv] at cv hr
      have HList := hide (fun W h => list_any gq n l R hl W h)
      unfold ListE at HList
      have hlen := len_le HQr.out.good hl
      obtain ⟨m, hm⟩ : ∃ m, (R l).length = m := ⟨_, rfl⟩
      rw [hm] at cv hr hlen HList hv
      have HQd := hide HQr.out.drew
      have HBl := hide HV.out.blk
      have HVl := hide hv
      have HR := hide hr
      have HN := hide hm
      have HL := hide hl
      have hn2 : m ≤ 1000 := by omega
      have l4n : decide (4 ≤ l) = false := by simp; omega
      cases hRl : R l with
      | nil =>
        have HF := hide (front_none gq n l R hl hRl wr HQr.out)
        obtain rfl : m = 0 := by rw [← hm, hRl]; rfl
        have t0 : decide ((0 : Int) < ((0 : Nat) : Int)) = false := rfl
        clear hr hv hm hRl hl
        go_upto_region 5 with (first
          | (go_at_call 16; (with_reducible refine HF.out.mono ?_); rintro e wx ⟨rfl, hw⟩; subst wx))
        refine wp_region_any (by kernel_rfl) ?_
        change wpAny _ _ _ _ _ _ _ (World.drew _)
        refine wpAny_take (i := 0) (v := .pointer (some ⟨gq, 0, none⟩)) rfl (by kernel_rfl) (by kernel_rfl) (by kernel_rfl) (fun _ _ _ h => h) (Or.inl ⟨by rfl, fun W => by go_simp⟩) ?_
        refine wpAny_take (i := 1) (v := .int .i64 (l : Int)) rfl (by kernel_rfl) (by kernel_rfl) (by kernel_rfl) (fun _ _ _ h => h) (Or.inl ⟨by rfl, fun W => by go_simp⟩) ?_
        refine wpAny_take (i := 3) (v := .pointer (some ⟨gx, 0, none⟩)) rfl (by kernel_rfl) (by kernel_rfl) (by kernel_rfl) (fun _ _ _ h => h) (Or.inl ⟨by rfl, fun W => by go_simp⟩) ?_
        refine wpAny_take (i := 4) (v := .int .i64 (l : Int)) rfl (by kernel_rfl) (by kernel_rfl) (by kernel_rfl) (fun _ _ _ h => h) (Or.inl ⟨by rfl, fun W => by go_simp⟩) ?_
        refine wpAny_take (i := 5) (v := .pointer (some ⟨gx, 0, none⟩)) rfl (by kernel_rfl) (by kernel_rfl) (by kernel_rfl) (fun _ _ _ h => h) (Or.inl ⟨by rfl, fun W => by go_simp⟩) ?_
        refine wpAny_take (i := 6) (v := .pointer (some ⟨gx, 0, none⟩)) rfl (by kernel_rfl) (by kernel_rfl) (by kernel_rfl) (fun _ _ _ h => h) (Or.inl ⟨by rfl, fun W => by go_simp⟩) ?_
        refine wpAny_take (i := 7) (v := .pointer (some ⟨gx, l, none⟩)) rfl (by kernel_rfl) (by kernel_rfl) (by kernel_rfl) (fun _ _ _ h => h) (Or.inl ⟨by rfl, fun W => by go_simp⟩) ?_
        simp only [List.getElem_toArray, List.getElem_cons_succ, List.getElem_cons_zero, Act.put, List.setIfInBounds_toArray, List.set_cons_zero, List.set_cons_succ]
        refine wpAny_ready (rs := [2, 8]) (by kernel_rfl) (by simp) ?_
        refine AllReady.cons rfl (fun K hK => ?_) ?_
        · have HK := hide hK
          clear hK
          go_simp
          go_at_call 11
          refine (HList.out _ HQd.out).mono ?_
          rintro e w2 ⟨A, c, rfl, ho, hb1⟩
          have hb : Below wr.heap.size wr w2 := (below_drewN (Below.refl wr.heap.size wr) 1).trans hb1
          have HO := hide (row_own ho HN.out.symm)
          have HR2 := hide (HR.out.later hb)
          have HB2 := hide hb
          have cv2 := (W.later hb HBl.out).at HL.out
          rw [HVl.out] at cv2
          have gl2 := (W.later hb HBl.out).lt
          clear ho hb hb1
          refine HK.out _ _ ?_
          clear HK K
          try simp only [List.getElem_toArray, List.getElem_cons_succ, List.getElem_cons_zero, Act.put, List.setIfInBounds_toArray, List.set_cons_zero, List.set_cons_succ]
          refine wpAny_ready (rs := [8]) (by kernel_rfl) (by simp) ?_
          refine BigFrame.allReady_want rfl (by rfl) (fun K hK => ?_) AllReady.nil
          (try simp only [List.getElem_toArray, List.getElem_cons_succ, List.getElem_cons_zero]); first | go_big_move | go_big_op
          refine hK _ _ ?_
          clear hK K
          refine wpAny_ready (rs := [9]) (by kernel_rfl) (by simp) ?_
          refine AllReady.cons rfl (fun K hK => ?_) AllReady.nil
          have HK := hide hK
          clear hK
          go_simp
          go_at_call 22
          refine (ints_yes _ _ _ _ _ (R l) HN.out.symm (by omega) _ HO.out HR2.out).mono ?_
          rintro e w3 ⟨rfl, q, rfl⟩
          refine HK.out _ _ ?_
          clear HK K
          try simp only [List.getElem_toArray, List.getElem_cons_succ, List.getElem_cons_zero, Act.put, List.setIfInBounds_toArray, List.set_cons_zero, List.set_cons_succ]
          refine wpAny_ready (rs := [10]) (by kernel_rfl) (by simp) ?_
          refine BigFrame.allReady_want rfl (by rfl) (fun K hK => ?_) AllReady.nil
          (try simp only [List.getElem_toArray, List.getElem_cons_succ, List.getElem_cons_zero]); first | go_big_move | go_big_op
          refine hK _ _ ?_
          clear hK K
          refine wpAny_ready (rs := [11]) (by kernel_rfl) (by simp) ?_
          refine BigFrame.allReady_want rfl (by rfl) (fun K hK => ?_) AllReady.nil
          (try simp only [List.getElem_toArray, List.getElem_cons_succ, List.getElem_cons_zero]); first | go_big_move | go_big_op
          refine hK _ _ ?_
          clear hK K
          refine wpAny_take (i := 12) (v := .bool false) rfl (by kernel_rfl) (by kernel_rfl) (by kernel_rfl) (fun _ _ _ h => h) (Or.inl ⟨by rfl, fun W => by go_simp⟩) ?_
          refine wpAny_take (i := 13) (v := .pointer (some ⟨gx, 0, none⟩)) rfl (by kernel_rfl) (by kernel_rfl) (by kernel_rfl) (fun _ _ _ h => h) (Or.inl ⟨by rfl, fun W => by go_simp⟩) ?_
          refine wpAny_take (i := 14) (v := .int .i64 (l : Int)) rfl (by kernel_rfl) (by kernel_rfl) (by kernel_rfl) (fun _ _ _ h => h) (Or.inl ⟨by rfl, fun W => by go_simp⟩) ?_
          refine wpAny_take (i := 15) (v := .pointer (some ⟨gx, 0, none⟩)) rfl (by kernel_rfl) (by kernel_rfl) (by kernel_rfl) (fun _ _ _ h => h) (Or.inl ⟨by rfl, fun W => by go_simp⟩) ?_
          refine wpAny_take (i := 16) (v := .pointer (some ⟨gx, 0, none⟩)) rfl (by kernel_rfl) (by kernel_rfl) (by kernel_rfl) (fun _ _ _ h => h) (Or.inl ⟨by rfl, fun W => by go_simp⟩) ?_
          refine wpAny_take (i := 17) (v := .pointer (some ⟨gx, l, none⟩)) rfl (by kernel_rfl) (by kernel_rfl) (by kernel_rfl) (fun _ _ _ h => h) (Or.inl ⟨by rfl, fun W => by go_simp⟩) ?_
          try simp only [List.getElem_toArray, List.getElem_cons_succ, List.getElem_cons_zero, Act.put, List.setIfInBounds_toArray, List.set_cons_zero, List.set_cons_succ]
          refine wpAny_ready (rs := [18]) (by kernel_rfl) (by simp) ?_
          refine BigFrame.allReady_want rfl (by rfl) (fun K hK => ?_) AllReady.nil
          (try simp only [List.getElem_toArray, List.getElem_cons_succ, List.getElem_cons_zero]); first | go_big_move | go_big_op
          refine hK _ _ ?_
          clear hK K
          refine wpAny_ready (rs := [19]) (by kernel_rfl) (by simp) ?_
          refine BigFrame.allReady_want rfl (by rfl) (fun K hK => ?_) AllReady.nil
          (try simp only [List.getElem_toArray, List.getElem_cons_succ, List.getElem_cons_zero]); first | go_big_move | go_big_op
          refine hK _ _ ?_
          clear hK K
          refine wpAny_ready (rs := [20]) (by kernel_rfl) (by simp) ?_
          refine BigFrame.allReady_want rfl (by rfl) (fun K hK => ?_) AllReady.nil
          (try simp only [List.getElem_toArray, List.getElem_cons_succ, List.getElem_cons_zero]); first | go_big_move | go_big_op
          refine hK _ _ ?_
          clear hK K
          refine wpAny_ready (rs := [21]) (by kernel_rfl) (by simp) ?_
          refine BigFrame.allReady_want rfl (by rfl) (fun K hK => ?_) AllReady.nil
          (try simp only [List.getElem_toArray, List.getElem_cons_succ, List.getElem_cons_zero]); first | go_big_move | go_big_op
          refine hK _ _ ?_
          clear hK K
          refine wpAny_ready (rs := [22]) (by kernel_rfl) (by simp) ?_
          refine BigFrame.allReady_want rfl (by rfl) (fun K hK => ?_) AllReady.nil
          (try simp only [List.getElem_toArray, List.getElem_cons_succ, List.getElem_cons_zero]); first | go_big_move | go_big_op
          refine hK _ _ ?_
          clear hK K
          refine wpAny_ready (rs := [23]) (by kernel_rfl) (by simp) ?_
          refine BigFrame.allReady_want rfl (by rfl) (fun K hK => ?_) AllReady.nil
          (try simp only [List.getElem_toArray, List.getElem_cons_succ, List.getElem_cons_zero]); first | go_big_move | go_big_op
          refine hK _ _ ?_
          clear hK K
          refine wpAny_ready (rs := [24]) (by kernel_rfl) (by simp) ?_
          refine BigFrame.allReady_want rfl (by rfl) (fun K hK => ?_) AllReady.nil
          (try simp only [List.getElem_toArray, List.getElem_cons_succ, List.getElem_cons_zero]); first | go_big_move | go_big_op
          refine hK _ _ ?_
          clear hK K
          refine wpAny_ready (rs := [25]) (by kernel_rfl) (by simp) ?_
          refine BigFrame.allReady_want rfl (by rfl) (fun K hK => ?_) AllReady.nil
          (try simp only [List.getElem_toArray, List.getElem_cons_succ, List.getElem_cons_zero]); first | go_big_move | go_big_op
          refine hK _ _ ?_
          clear hK K
          refine wpAny_take (i := 26) (v := undef) rfl (by kernel_rfl) (by kernel_rfl) (by kernel_rfl) (fun _ _ _ h => h) (Or.inr ⟨by rfl, rfl⟩) ?_
          try simp only [List.getElem_toArray, List.getElem_cons_succ, List.getElem_cons_zero, Act.put, List.setIfInBounds_toArray, List.set_cons_zero, List.set_cons_succ]
          refine wpAny_take (i := 27) (v := undef) rfl (by kernel_rfl) (by kernel_rfl) (by kernel_rfl) (fun _ _ _ h => h) (Or.inr ⟨by rfl, rfl⟩) ?_
          refine wpAny_take (i := 28) (v := undef) rfl (by kernel_rfl) (by kernel_rfl) (by kernel_rfl) (fun _ _ _ h => h) (Or.inr ⟨by rfl, rfl⟩) ?_
          try simp only [List.getElem_toArray, List.getElem_cons_succ, List.getElem_cons_zero, Act.put, List.setIfInBounds_toArray, List.set_cons_zero, List.set_cons_succ]
          refine wpAny_take (i := 29) (v := undef) rfl (by kernel_rfl) (by kernel_rfl) (by kernel_rfl) (fun _ _ _ h => h) (Or.inr ⟨by rfl, rfl⟩) ?_
          refine wpAny_take (i := 30) (v := undef) rfl (by kernel_rfl) (by kernel_rfl) (by kernel_rfl) (fun _ _ _ h => h) (Or.inr ⟨by rfl, rfl⟩) ?_
          try simp only [List.getElem_toArray, List.getElem_cons_succ, List.getElem_cons_zero, Act.put, List.setIfInBounds_toArray, List.set_cons_zero, List.set_cons_succ]
          refine wpAny_take (i := 31) (v := undef) rfl (by kernel_rfl) (by kernel_rfl) (by kernel_rfl) (fun _ _ _ h => h) (Or.inr ⟨by rfl, rfl⟩) ?_
          refine wpAny_take (i := 32) (v := undef) rfl (by kernel_rfl) (by kernel_rfl) (by kernel_rfl) (fun _ _ _ h => h) (Or.inr ⟨by rfl, rfl⟩) ?_
          try simp only [List.getElem_toArray, List.getElem_cons_succ, List.getElem_cons_zero, Act.put, List.setIfInBounds_toArray, List.set_cons_zero, List.set_cons_succ]
          refine wpAny_take (i := 33) (v := undef) rfl (by kernel_rfl) (by kernel_rfl) (by kernel_rfl) (fun _ _ _ h => h) (Or.inr ⟨by rfl, rfl⟩) ?_
          refine wpAny_take (i := 34) (v := undef) rfl (by kernel_rfl) (by kernel_rfl) (by kernel_rfl) (fun _ _ _ h => h) (Or.inr ⟨by rfl, rfl⟩) ?_
          try simp only [List.getElem_toArray, List.getElem_cons_succ, List.getElem_cons_zero, Act.put, List.setIfInBounds_toArray, List.set_cons_zero, List.set_cons_succ]
          refine wpAny_take (i := 35) (v := undef) rfl (by kernel_rfl) (by kernel_rfl) (by kernel_rfl) (fun _ _ _ h => h) (Or.inr ⟨by rfl, rfl⟩) ?_
          try simp only [List.getElem_toArray, List.getElem_cons_succ, List.getElem_cons_zero, Act.put, List.setIfInBounds_toArray, List.set_cons_zero, List.set_cons_succ]
          refine wpAny_ready (rs := [36]) (by kernel_rfl) (by simp) ?_
          refine BigFrame.allReady_want rfl (by rfl) (fun K hK => ?_) AllReady.nil
          (try simp only [List.getElem_toArray, List.getElem_cons_succ, List.getElem_cons_zero]); first | go_big_move | go_big_op
          refine hK _ _ ?_
          clear hK K
          refine wpAny_ready (rs := [37]) (by kernel_rfl) (by simp) ?_
          refine BigFrame.allReady_want rfl (by rfl) (fun K hK => ?_) AllReady.nil
          (try simp only [List.getElem_toArray, List.getElem_cons_succ, List.getElem_cons_zero]); first | go_big_move | go_big_op
          refine hK _ _ ?_
          clear hK K
          refine wpAny_done (by kernel_rfl) ?_ _
          have HB3 := hide (below_drewN (HB.out.trans ((HB2.out : Below wr.heap.size wr w2).mono HB.out.size)) q)
          clear HO HR2 cv2
          go_wp2_with fail
          go_roundg (gk - 1)
          case measure => omega
          case rel => exact ⟨l + 1, by go_num, by omega, HB3.out⟩
        refine AllReady.cons rfl (fun K hK => ?_) AllReady.nil
        · have HK := hide hK
          clear hK
          go_simp
          refine HK.out _ _ ?_
          clear HK K
          try simp only [List.getElem_toArray, List.getElem_cons_succ, List.getElem_cons_zero, Act.put, List.setIfInBounds_toArray, List.set_cons_zero, List.set_cons_succ]
          refine wpAny_ready (rs := [2]) (by kernel_rfl) (by simp) ?_
          refine AllReady.cons rfl (fun K hK => ?_) AllReady.nil
          have HK := hide hK
          clear hK
          go_simp
          go_at_call 11
          refine (HList.out _ HQd.out).mono ?_
          rintro e w2 ⟨A, c, rfl, ho, hb1⟩
          have hb : Below wr.heap.size wr w2 := (below_drewN (Below.refl wr.heap.size wr) 1).trans hb1
          have HO := hide (row_own ho HN.out.symm)
          have HR2 := hide (HR.out.later hb)
          have HB2 := hide hb
          have cv2 := (W.later hb HBl.out).at HL.out
          rw [HVl.out] at cv2
          have gl2 := (W.later hb HBl.out).lt
          clear ho hb hb1
          refine HK.out _ _ ?_
          clear HK K
          try simp only [List.getElem_toArray, List.getElem_cons_succ, List.getElem_cons_zero, Act.put, List.setIfInBounds_toArray, List.set_cons_zero, List.set_cons_succ]
          refine wpAny_ready (rs := [9]) (by kernel_rfl) (by simp) ?_
          refine AllReady.cons rfl (fun K hK => ?_) AllReady.nil
          have HK := hide hK
          clear hK
          go_simp
          go_at_call 22
          refine (ints_yes _ _ _ _ _ (R l) HN.out.symm (by omega) _ HO.out HR2.out).mono ?_
          rintro e w3 ⟨rfl, q, rfl⟩
          refine HK.out _ _ ?_
          clear HK K
          try simp only [List.getElem_toArray, List.getElem_cons_succ, List.getElem_cons_zero, Act.put, List.setIfInBounds_toArray, List.set_cons_zero, List.set_cons_succ]
          refine wpAny_ready (rs := [10]) (by kernel_rfl) (by simp) ?_
          refine BigFrame.allReady_want rfl (by rfl) (fun K hK => ?_) AllReady.nil
          (try simp only [List.getElem_toArray, List.getElem_cons_succ, List.getElem_cons_zero]); first | go_big_move | go_big_op
          refine hK _ _ ?_
          clear hK K
          refine wpAny_ready (rs := [11]) (by kernel_rfl) (by simp) ?_
          refine BigFrame.allReady_want rfl (by rfl) (fun K hK => ?_) AllReady.nil
          (try simp only [List.getElem_toArray, List.getElem_cons_succ, List.getElem_cons_zero]); first | go_big_move | go_big_op
          refine hK _ _ ?_
          clear hK K
          refine wpAny_take (i := 12) (v := .bool false) rfl (by kernel_rfl) (by kernel_rfl) (by kernel_rfl) (fun _ _ _ h => h) (Or.inl ⟨by rfl, fun W => by go_simp⟩) ?_
          refine wpAny_take (i := 13) (v := .pointer (some ⟨gx, 0, none⟩)) rfl (by kernel_rfl) (by kernel_rfl) (by kernel_rfl) (fun _ _ _ h => h) (Or.inl ⟨by rfl, fun W => by go_simp⟩) ?_
          refine wpAny_take (i := 14) (v := .int .i64 (l : Int)) rfl (by kernel_rfl) (by kernel_rfl) (by kernel_rfl) (fun _ _ _ h => h) (Or.inl ⟨by rfl, fun W => by go_simp⟩) ?_
          refine wpAny_take (i := 15) (v := .pointer (some ⟨gx, 0, none⟩)) rfl (by kernel_rfl) (by kernel_rfl) (by kernel_rfl) (fun _ _ _ h => h) (Or.inl ⟨by rfl, fun W => by go_simp⟩) ?_
          refine wpAny_take (i := 16) (v := .pointer (some ⟨gx, 0, none⟩)) rfl (by kernel_rfl) (by kernel_rfl) (by kernel_rfl) (fun _ _ _ h => h) (Or.inl ⟨by rfl, fun W => by go_simp⟩) ?_
          refine wpAny_take (i := 17) (v := .pointer (some ⟨gx, l, none⟩)) rfl (by kernel_rfl) (by kernel_rfl) (by kernel_rfl) (fun _ _ _ h => h) (Or.inl ⟨by rfl, fun W => by go_simp⟩) ?_
          try simp only [List.getElem_toArray, List.getElem_cons_succ, List.getElem_cons_zero, Act.put, List.setIfInBounds_toArray, List.set_cons_zero, List.set_cons_succ]
          refine wpAny_ready (rs := [18]) (by kernel_rfl) (by simp) ?_
          refine BigFrame.allReady_want rfl (by rfl) (fun K hK => ?_) AllReady.nil
          (try simp only [List.getElem_toArray, List.getElem_cons_succ, List.getElem_cons_zero]); first | go_big_move | go_big_op
          refine hK _ _ ?_
          clear hK K
          refine wpAny_ready (rs := [19]) (by kernel_rfl) (by simp) ?_
          refine BigFrame.allReady_want rfl (by rfl) (fun K hK => ?_) AllReady.nil
          (try simp only [List.getElem_toArray, List.getElem_cons_succ, List.getElem_cons_zero]); first | go_big_move | go_big_op
          refine hK _ _ ?_
          clear hK K
          refine wpAny_ready (rs := [20]) (by kernel_rfl) (by simp) ?_
          refine BigFrame.allReady_want rfl (by rfl) (fun K hK => ?_) AllReady.nil
          (try simp only [List.getElem_toArray, List.getElem_cons_succ, List.getElem_cons_zero]); first | go_big_move | go_big_op
          refine hK _ _ ?_
          clear hK K
          refine wpAny_ready (rs := [21]) (by kernel_rfl) (by simp) ?_
          refine BigFrame.allReady_want rfl (by rfl) (fun K hK => ?_) AllReady.nil
          (try simp only [List.getElem_toArray, List.getElem_cons_succ, List.getElem_cons_zero]); first | go_big_move | go_big_op
          refine hK _ _ ?_
          clear hK K
          refine wpAny_ready (rs := [22]) (by kernel_rfl) (by simp) ?_
          refine BigFrame.allReady_want rfl (by rfl) (fun K hK => ?_) AllReady.nil
          (try simp only [List.getElem_toArray, List.getElem_cons_succ, List.getElem_cons_zero]); first | go_big_move | go_big_op
          refine hK _ _ ?_
          clear hK K
          refine wpAny_ready (rs := [23]) (by kernel_rfl) (by simp) ?_
          refine BigFrame.allReady_want rfl (by rfl) (fun K hK => ?_) AllReady.nil
          (try simp only [List.getElem_toArray, List.getElem_cons_succ, List.getElem_cons_zero]); first | go_big_move | go_big_op
          refine hK _ _ ?_
          clear hK K
          refine wpAny_ready (rs := [24]) (by kernel_rfl) (by simp) ?_
          refine BigFrame.allReady_want rfl (by rfl) (fun K hK => ?_) AllReady.nil
          (try simp only [List.getElem_toArray, List.getElem_cons_succ, List.getElem_cons_zero]); first | go_big_move | go_big_op
          refine hK _ _ ?_
          clear hK K
          refine wpAny_ready (rs := [25]) (by kernel_rfl) (by simp) ?_
          refine BigFrame.allReady_want rfl (by rfl) (fun K hK => ?_) AllReady.nil
          (try simp only [List.getElem_toArray, List.getElem_cons_succ, List.getElem_cons_zero]); first | go_big_move | go_big_op
          refine hK _ _ ?_
          clear hK K
          refine wpAny_take (i := 26) (v := undef) rfl (by kernel_rfl) (by kernel_rfl) (by kernel_rfl) (fun _ _ _ h => h) (Or.inr ⟨by rfl, rfl⟩) ?_
          try simp only [List.getElem_toArray, List.getElem_cons_succ, List.getElem_cons_zero, Act.put, List.setIfInBounds_toArray, List.set_cons_zero, List.set_cons_succ]
          refine wpAny_take (i := 27) (v := undef) rfl (by kernel_rfl) (by kernel_rfl) (by kernel_rfl) (fun _ _ _ h => h) (Or.inr ⟨by rfl, rfl⟩) ?_
          refine wpAny_take (i := 28) (v := undef) rfl (by kernel_rfl) (by kernel_rfl) (by kernel_rfl) (fun _ _ _ h => h) (Or.inr ⟨by rfl, rfl⟩) ?_
          try simp only [List.getElem_toArray, List.getElem_cons_succ, List.getElem_cons_zero, Act.put, List.setIfInBounds_toArray, List.set_cons_zero, List.set_cons_succ]
          refine wpAny_take (i := 29) (v := undef) rfl (by kernel_rfl) (by kernel_rfl) (by kernel_rfl) (fun _ _ _ h => h) (Or.inr ⟨by rfl, rfl⟩) ?_
          refine wpAny_take (i := 30) (v := undef) rfl (by kernel_rfl) (by kernel_rfl) (by kernel_rfl) (fun _ _ _ h => h) (Or.inr ⟨by rfl, rfl⟩) ?_
          try simp only [List.getElem_toArray, List.getElem_cons_succ, List.getElem_cons_zero, Act.put, List.setIfInBounds_toArray, List.set_cons_zero, List.set_cons_succ]
          refine wpAny_take (i := 31) (v := undef) rfl (by kernel_rfl) (by kernel_rfl) (by kernel_rfl) (fun _ _ _ h => h) (Or.inr ⟨by rfl, rfl⟩) ?_
          refine wpAny_take (i := 32) (v := undef) rfl (by kernel_rfl) (by kernel_rfl) (by kernel_rfl) (fun _ _ _ h => h) (Or.inr ⟨by rfl, rfl⟩) ?_
          try simp only [List.getElem_toArray, List.getElem_cons_succ, List.getElem_cons_zero, Act.put, List.setIfInBounds_toArray, List.set_cons_zero, List.set_cons_succ]
          refine wpAny_take (i := 33) (v := undef) rfl (by kernel_rfl) (by kernel_rfl) (by kernel_rfl) (fun _ _ _ h => h) (Or.inr ⟨by rfl, rfl⟩) ?_
          refine wpAny_take (i := 34) (v := undef) rfl (by kernel_rfl) (by kernel_rfl) (by kernel_rfl) (fun _ _ _ h => h) (Or.inr ⟨by rfl, rfl⟩) ?_
          try simp only [List.getElem_toArray, List.getElem_cons_succ, List.getElem_cons_zero, Act.put, List.setIfInBounds_toArray, List.set_cons_zero, List.set_cons_succ]
          refine wpAny_take (i := 35) (v := undef) rfl (by kernel_rfl) (by kernel_rfl) (by kernel_rfl) (fun _ _ _ h => h) (Or.inr ⟨by rfl, rfl⟩) ?_
          try simp only [List.getElem_toArray, List.getElem_cons_succ, List.getElem_cons_zero, Act.put, List.setIfInBounds_toArray, List.set_cons_zero, List.set_cons_succ]
          refine wpAny_ready (rs := [36]) (by kernel_rfl) (by simp) ?_
          refine BigFrame.allReady_want rfl (by rfl) (fun K hK => ?_) AllReady.nil
          (try simp only [List.getElem_toArray, List.getElem_cons_succ, List.getElem_cons_zero]); first | go_big_move | go_big_op
          refine hK _ _ ?_
          clear hK K
          refine wpAny_ready (rs := [37]) (by kernel_rfl) (by simp) ?_
          refine BigFrame.allReady_want rfl (by rfl) (fun K hK => ?_) AllReady.nil
          (try simp only [List.getElem_toArray, List.getElem_cons_succ, List.getElem_cons_zero]); first | go_big_move | go_big_op
          refine hK _ _ ?_
          clear hK K
          refine wpAny_done (by kernel_rfl) ?_ _
          have HB3 := hide (below_drewN (HB.out.trans ((HB2.out : Below wr.heap.size wr w2).mono HB.out.size)) q)
          clear HO HR2 cv2
          go_wp2_with fail
          go_roundg (gk - 1)
          case measure => omega
          case rel => exact ⟨l + 1, by go_num, by omega, HB3.out⟩
      | cons a L =>
        have HF := hide (front_some gq n l a L R hl hRl wr HQr.out)
        obtain ⟨bb, rfl, -, hca⟩ := hr.at (j := 0) (a := a) (by rw [hRl]; rfl)
        have hm0 : (0 : Int) < (m : Int) := by
          rw [← hm, hRl]
          simp
        have hm1 : decide ((0 : Int) < (m : Int)) = true := by simpa using hm0
        have hm2 : decide (0 < m) = true := by simp; omega
        have HCa : Hid (∀ W, RowV W (.slice (some ⟨bb, 0, none⟩) m c0) (R l) → W.cell? ⟨bb, 0, none⟩ = some (.int .i64 (a : Int))) := hide (fun W hW => by
          obtain ⟨b', e, -, h⟩ := hW.at (j := 0) (a := a) (by rw [hRl]; rfl)
          injection e with e
          injection e with e1 e2 e3
          subst e1
          exact h)
        have ta : ((a : Int) != (a : Int)) = false := by simp
        clear hr hv hm hRl hl
        go_upto_region 5 with (first
          | (go_at_call 16; (with_reducible refine HF.out.mono ?_); rintro e wx ⟨rfl, hw⟩; subst wx))
        refine wp_region_any (by kernel_rfl) ?_
        change wpAny _ _ _ _ _ _ _ (World.drew _)
        refine wpAny_take (i := 0) (v := .pointer (some ⟨gq, 0, none⟩)) rfl (by kernel_rfl) (by kernel_rfl) (by kernel_rfl) (fun _ _ _ h => h) (Or.inl ⟨by rfl, fun W => by go_simp⟩) ?_
        refine wpAny_take (i := 1) (v := .int .i64 (l : Int)) rfl (by kernel_rfl) (by kernel_rfl) (by kernel_rfl) (fun _ _ _ h => h) (Or.inl ⟨by rfl, fun W => by go_simp⟩) ?_
        refine wpAny_take (i := 3) (v := .pointer (some ⟨gx, 0, none⟩)) rfl (by kernel_rfl) (by kernel_rfl) (by kernel_rfl) (fun _ _ _ h => h) (Or.inl ⟨by rfl, fun W => by go_simp⟩) ?_
        refine wpAny_take (i := 4) (v := .int .i64 (l : Int)) rfl (by kernel_rfl) (by kernel_rfl) (by kernel_rfl) (fun _ _ _ h => h) (Or.inl ⟨by rfl, fun W => by go_simp⟩) ?_
        refine wpAny_take (i := 5) (v := .pointer (some ⟨gx, 0, none⟩)) rfl (by kernel_rfl) (by kernel_rfl) (by kernel_rfl) (fun _ _ _ h => h) (Or.inl ⟨by rfl, fun W => by go_simp⟩) ?_
        refine wpAny_take (i := 6) (v := .pointer (some ⟨gx, 0, none⟩)) rfl (by kernel_rfl) (by kernel_rfl) (by kernel_rfl) (fun _ _ _ h => h) (Or.inl ⟨by rfl, fun W => by go_simp⟩) ?_
        refine wpAny_take (i := 7) (v := .pointer (some ⟨gx, l, none⟩)) rfl (by kernel_rfl) (by kernel_rfl) (by kernel_rfl) (fun _ _ _ h => h) (Or.inl ⟨by rfl, fun W => by go_simp⟩) ?_
        simp only [List.getElem_toArray, List.getElem_cons_succ, List.getElem_cons_zero, Act.put, List.setIfInBounds_toArray, List.set_cons_zero, List.set_cons_succ]
        refine wpAny_ready (rs := [2, 8]) (by kernel_rfl) (by simp) ?_
        refine AllReady.cons rfl (fun K hK => ?_) ?_
        · have HK := hide hK
          clear hK
          go_simp
          go_at_call 11
          refine (HList.out _ HQd.out).mono ?_
          rintro e w2 ⟨A, c, rfl, ho, hb1⟩
          have hb : Below wr.heap.size wr w2 := (below_drewN (Below.refl wr.heap.size wr) 1).trans hb1
          have HO := hide (row_own ho HN.out.symm)
          have HR2 := hide (HR.out.later hb)
          have HB2 := hide hb
          have ca2 := HCa.out _ HR2.out
          have cv2 := (W.later hb HBl.out).at HL.out
          rw [HVl.out] at cv2
          have gl2 := (W.later hb HBl.out).lt
          clear ho hb hb1
          refine HK.out _ _ ?_
          clear HK K
          try simp only [List.getElem_toArray, List.getElem_cons_succ, List.getElem_cons_zero, Act.put, List.setIfInBounds_toArray, List.set_cons_zero, List.set_cons_succ]
          refine wpAny_ready (rs := [8]) (by kernel_rfl) (by simp) ?_
          refine BigFrame.allReady_want rfl (by rfl) (fun K hK => ?_) AllReady.nil
          (try simp only [List.getElem_toArray, List.getElem_cons_succ, List.getElem_cons_zero]); first | go_big_move | go_big_op
          refine hK _ _ ?_
          clear hK K
          refine wpAny_ready (rs := [9]) (by kernel_rfl) (by simp) ?_
          refine AllReady.cons rfl (fun K hK => ?_) AllReady.nil
          have HK := hide hK
          clear hK
          go_simp
          go_at_call 22
          refine (ints_yes _ _ _ _ _ (R l) HN.out.symm (by omega) _ HO.out HR2.out).mono ?_
          rintro e w3 ⟨rfl, q, rfl⟩
          refine HK.out _ _ ?_
          clear HK K
          try simp only [List.getElem_toArray, List.getElem_cons_succ, List.getElem_cons_zero, Act.put, List.setIfInBounds_toArray, List.set_cons_zero, List.set_cons_succ]
          refine wpAny_ready (rs := [10]) (by kernel_rfl) (by simp) ?_
          refine BigFrame.allReady_want rfl (by rfl) (fun K hK => ?_) AllReady.nil
          (try simp only [List.getElem_toArray, List.getElem_cons_succ, List.getElem_cons_zero]); first | go_big_move | go_big_op
          refine hK _ _ ?_
          clear hK K
          refine wpAny_ready (rs := [11]) (by kernel_rfl) (by simp) ?_
          refine BigFrame.allReady_want rfl (by rfl) (fun K hK => ?_) AllReady.nil
          (try simp only [List.getElem_toArray, List.getElem_cons_succ, List.getElem_cons_zero]); first | go_big_move | go_big_op
          refine hK _ _ ?_
          clear hK K
          refine wpAny_take (i := 12) (v := .bool true) rfl (by kernel_rfl) (by kernel_rfl) (by kernel_rfl) (fun _ _ _ h => h) (Or.inl ⟨by rfl, fun W => by go_simp⟩) ?_
          refine wpAny_take (i := 13) (v := .pointer (some ⟨gx, 0, none⟩)) rfl (by kernel_rfl) (by kernel_rfl) (by kernel_rfl) (fun _ _ _ h => h) (Or.inl ⟨by rfl, fun W => by go_simp⟩) ?_
          refine wpAny_take (i := 14) (v := .int .i64 (l : Int)) rfl (by kernel_rfl) (by kernel_rfl) (by kernel_rfl) (fun _ _ _ h => h) (Or.inl ⟨by rfl, fun W => by go_simp⟩) ?_
          refine wpAny_take (i := 15) (v := .pointer (some ⟨gx, 0, none⟩)) rfl (by kernel_rfl) (by kernel_rfl) (by kernel_rfl) (fun _ _ _ h => h) (Or.inl ⟨by rfl, fun W => by go_simp⟩) ?_
          refine wpAny_take (i := 16) (v := .pointer (some ⟨gx, 0, none⟩)) rfl (by kernel_rfl) (by kernel_rfl) (by kernel_rfl) (fun _ _ _ h => h) (Or.inl ⟨by rfl, fun W => by go_simp⟩) ?_
          refine wpAny_take (i := 17) (v := .pointer (some ⟨gx, l, none⟩)) rfl (by kernel_rfl) (by kernel_rfl) (by kernel_rfl) (fun _ _ _ h => h) (Or.inl ⟨by rfl, fun W => by go_simp⟩) ?_
          try simp only [List.getElem_toArray, List.getElem_cons_succ, List.getElem_cons_zero, Act.put, List.setIfInBounds_toArray, List.set_cons_zero, List.set_cons_succ]
          refine wpAny_ready (rs := [18]) (by kernel_rfl) (by simp) ?_
          refine BigFrame.allReady_want rfl (by rfl) (fun K hK => ?_) AllReady.nil
          (try simp only [List.getElem_toArray, List.getElem_cons_succ, List.getElem_cons_zero]); first | go_big_move | go_big_op
          refine hK _ _ ?_
          clear hK K
          refine wpAny_ready (rs := [19]) (by kernel_rfl) (by simp) ?_
          refine BigFrame.allReady_want rfl (by rfl) (fun K hK => ?_) AllReady.nil
          (try simp only [List.getElem_toArray, List.getElem_cons_succ, List.getElem_cons_zero]); first | go_big_move | go_big_op
          refine hK _ _ ?_
          clear hK K
          refine wpAny_ready (rs := [20]) (by kernel_rfl) (by simp) ?_
          refine BigFrame.allReady_want rfl (by rfl) (fun K hK => ?_) AllReady.nil
          (try simp only [List.getElem_toArray, List.getElem_cons_succ, List.getElem_cons_zero]); first | go_big_move | go_big_op
          refine hK _ _ ?_
          clear hK K
          try simp only [hm2]
          refine wpAny_ready (rs := [21]) (by kernel_rfl) (by simp) ?_
          refine BigFrame.allReady_want rfl (by rfl) (fun K hK => ?_) AllReady.nil
          (try simp only [List.getElem_toArray, List.getElem_cons_succ, List.getElem_cons_zero]); first | go_big_move | go_big_op
          refine hK _ _ ?_
          clear hK K
          refine wpAny_ready (rs := [22]) (by kernel_rfl) (by simp) ?_
          refine BigFrame.allReady_want rfl (by rfl) (fun K hK => ?_) AllReady.nil
          (try simp only [List.getElem_toArray, List.getElem_cons_succ, List.getElem_cons_zero]); first | go_big_move | go_big_op
          refine hK _ _ ?_
          clear hK K
          refine wpAny_ready (rs := [23]) (by kernel_rfl) (by simp) ?_
          refine BigFrame.allReady_want rfl (by rfl) (fun K hK => ?_) AllReady.nil
          (try simp only [List.getElem_toArray, List.getElem_cons_succ, List.getElem_cons_zero]); first | go_big_move | go_big_op
          refine hK _ _ ?_
          clear hK K
          refine wpAny_ready (rs := [24]) (by kernel_rfl) (by simp) ?_
          refine BigFrame.allReady_want rfl (by rfl) (fun K hK => ?_) AllReady.nil
          (try simp only [List.getElem_toArray, List.getElem_cons_succ, List.getElem_cons_zero]); first | go_big_move | go_big_op
          refine hK _ _ ?_
          clear hK K
          refine wpAny_ready (rs := [25]) (by kernel_rfl) (by simp) ?_
          refine BigFrame.allReady_want rfl (by rfl) (fun K hK => ?_) AllReady.nil
          (try simp only [List.getElem_toArray, List.getElem_cons_succ, List.getElem_cons_zero]); first | go_big_move | go_big_op
          refine hK _ _ ?_
          clear hK K
          refine wpAny_take (i := 26) (v := .int .i64 (a : Int)) rfl (by kernel_rfl) (by kernel_rfl) (by kernel_rfl) (fun _ _ _ h => h) (Or.inl ⟨by rfl, fun W => by go_simp⟩) ?_
          refine wpAny_take (i := 27) (v := .pointer (some ⟨gx, 0, none⟩)) rfl (by kernel_rfl) (by kernel_rfl) (by kernel_rfl) (fun _ _ _ h => h) (Or.inl ⟨by rfl, fun W => by go_simp⟩) ?_
          refine wpAny_take (i := 28) (v := .int .i64 (l : Int)) rfl (by kernel_rfl) (by kernel_rfl) (by kernel_rfl) (fun _ _ _ h => h) (Or.inl ⟨by rfl, fun W => by go_simp⟩) ?_
          refine wpAny_take (i := 29) (v := .pointer (some ⟨gx, 0, none⟩)) rfl (by kernel_rfl) (by kernel_rfl) (by kernel_rfl) (fun _ _ _ h => h) (Or.inl ⟨by rfl, fun W => by go_simp⟩) ?_
          refine wpAny_take (i := 30) (v := .pointer (some ⟨gx, 0, none⟩)) rfl (by kernel_rfl) (by kernel_rfl) (by kernel_rfl) (fun _ _ _ h => h) (Or.inl ⟨by rfl, fun W => by go_simp⟩) ?_
          refine wpAny_take (i := 31) (v := .pointer (some ⟨gx, l, none⟩)) rfl (by kernel_rfl) (by kernel_rfl) (by kernel_rfl) (fun _ _ _ h => h) (Or.inl ⟨by rfl, fun W => by go_simp⟩) ?_
          try simp only [List.getElem_toArray, List.getElem_cons_succ, List.getElem_cons_zero, Act.put, List.setIfInBounds_toArray, List.set_cons_zero, List.set_cons_succ]
          refine wpAny_ready (rs := [32]) (by kernel_rfl) (by simp) ?_
          refine BigFrame.allReady_want rfl (by rfl) (fun K hK => ?_) AllReady.nil
          (try simp only [List.getElem_toArray, List.getElem_cons_succ, List.getElem_cons_zero]); first | go_big_move | go_big_op
          refine hK _ _ ?_
          clear hK K
          refine wpAny_ready (rs := [33]) (by kernel_rfl) (by simp) ?_
          refine BigFrame.allReady_want rfl (by rfl) (fun K hK => ?_) AllReady.nil
          (try simp only [List.getElem_toArray, List.getElem_cons_succ, List.getElem_cons_zero]); first | go_big_move | go_big_op
          refine hK _ _ ?_
          clear hK K
          refine wpAny_ready (rs := [34]) (by kernel_rfl) (by simp) ?_
          refine BigFrame.allReady_want rfl (by rfl) (fun K hK => ?_) AllReady.nil
          (try simp only [List.getElem_toArray, List.getElem_cons_succ, List.getElem_cons_zero]); first | go_big_move | go_big_op
          refine hK _ _ ?_
          clear hK K
          refine wpAny_ready (rs := [35]) (by kernel_rfl) (by simp) ?_
          refine BigFrame.allReady_want rfl (by rfl) (fun K hK => ?_) AllReady.nil
          (try simp only [List.getElem_toArray, List.getElem_cons_succ, List.getElem_cons_zero]); first | go_big_move | go_big_op
          refine hK _ _ ?_
          clear hK K
          try simp only [ta, bne_self_eq_false]
          try simp only [List.getElem_toArray, List.getElem_cons_succ, List.getElem_cons_zero, Act.put, List.setIfInBounds_toArray, List.set_cons_zero, List.set_cons_succ]
          refine wpAny_ready (rs := [36]) (by kernel_rfl) (by simp) ?_
          refine BigFrame.allReady_want rfl (by rfl) (fun K hK => ?_) AllReady.nil
          (try simp only [List.getElem_toArray, List.getElem_cons_succ, List.getElem_cons_zero]); first | go_big_move | go_big_op
          refine hK _ _ ?_
          clear hK K
          refine wpAny_ready (rs := [37]) (by kernel_rfl) (by simp) ?_
          refine BigFrame.allReady_want rfl (by rfl) (fun K hK => ?_) AllReady.nil
          (try simp only [List.getElem_toArray, List.getElem_cons_succ, List.getElem_cons_zero]); first | go_big_move | go_big_op
          refine hK _ _ ?_
          clear hK K
          refine wpAny_done (by kernel_rfl) ?_ _
          have HB3 := hide (below_drewN (HB.out.trans ((HB2.out : Below wr.heap.size wr w2).mono HB.out.size)) q)
          clear HO HR2 cv2
          go_wp2_with fail
          go_roundg (gk - 1)
          case measure => omega
          case rel => exact ⟨l + 1, by go_num, by omega, HB3.out⟩
        refine AllReady.cons rfl (fun K hK => ?_) AllReady.nil
        · have HK := hide hK
          clear hK
          go_simp
          refine HK.out _ _ ?_
          clear HK K
          try simp only [List.getElem_toArray, List.getElem_cons_succ, List.getElem_cons_zero, Act.put, List.setIfInBounds_toArray, List.set_cons_zero, List.set_cons_succ]
          refine wpAny_ready (rs := [2]) (by kernel_rfl) (by simp) ?_
          refine AllReady.cons rfl (fun K hK => ?_) AllReady.nil
          have HK := hide hK
          clear hK
          go_simp
          go_at_call 11
          refine (HList.out _ HQd.out).mono ?_
          rintro e w2 ⟨A, c, rfl, ho, hb1⟩
          have hb : Below wr.heap.size wr w2 := (below_drewN (Below.refl wr.heap.size wr) 1).trans hb1
          have HO := hide (row_own ho HN.out.symm)
          have HR2 := hide (HR.out.later hb)
          have HB2 := hide hb
          have ca2 := HCa.out _ HR2.out
          have cv2 := (W.later hb HBl.out).at HL.out
          rw [HVl.out] at cv2
          have gl2 := (W.later hb HBl.out).lt
          clear ho hb hb1
          refine HK.out _ _ ?_
          clear HK K
          try simp only [List.getElem_toArray, List.getElem_cons_succ, List.getElem_cons_zero, Act.put, List.setIfInBounds_toArray, List.set_cons_zero, List.set_cons_succ]
          refine wpAny_ready (rs := [9]) (by kernel_rfl) (by simp) ?_
          refine AllReady.cons rfl (fun K hK => ?_) AllReady.nil
          have HK := hide hK
          clear hK
          go_simp
          go_at_call 22
          refine (ints_yes _ _ _ _ _ (R l) HN.out.symm (by omega) _ HO.out HR2.out).mono ?_
          rintro e w3 ⟨rfl, q, rfl⟩
          refine HK.out _ _ ?_
          clear HK K
          try simp only [List.getElem_toArray, List.getElem_cons_succ, List.getElem_cons_zero, Act.put, List.setIfInBounds_toArray, List.set_cons_zero, List.set_cons_succ]
          refine wpAny_ready (rs := [10]) (by kernel_rfl) (by simp) ?_
          refine BigFrame.allReady_want rfl (by rfl) (fun K hK => ?_) AllReady.nil
          (try simp only [List.getElem_toArray, List.getElem_cons_succ, List.getElem_cons_zero]); first | go_big_move | go_big_op
          refine hK _ _ ?_
          clear hK K
          refine wpAny_ready (rs := [11]) (by kernel_rfl) (by simp) ?_
          refine BigFrame.allReady_want rfl (by rfl) (fun K hK => ?_) AllReady.nil
          (try simp only [List.getElem_toArray, List.getElem_cons_succ, List.getElem_cons_zero]); first | go_big_move | go_big_op
          refine hK _ _ ?_
          clear hK K
          refine wpAny_take (i := 12) (v := .bool true) rfl (by kernel_rfl) (by kernel_rfl) (by kernel_rfl) (fun _ _ _ h => h) (Or.inl ⟨by rfl, fun W => by go_simp⟩) ?_
          refine wpAny_take (i := 13) (v := .pointer (some ⟨gx, 0, none⟩)) rfl (by kernel_rfl) (by kernel_rfl) (by kernel_rfl) (fun _ _ _ h => h) (Or.inl ⟨by rfl, fun W => by go_simp⟩) ?_
          refine wpAny_take (i := 14) (v := .int .i64 (l : Int)) rfl (by kernel_rfl) (by kernel_rfl) (by kernel_rfl) (fun _ _ _ h => h) (Or.inl ⟨by rfl, fun W => by go_simp⟩) ?_
          refine wpAny_take (i := 15) (v := .pointer (some ⟨gx, 0, none⟩)) rfl (by kernel_rfl) (by kernel_rfl) (by kernel_rfl) (fun _ _ _ h => h) (Or.inl ⟨by rfl, fun W => by go_simp⟩) ?_
          refine wpAny_take (i := 16) (v := .pointer (some ⟨gx, 0, none⟩)) rfl (by kernel_rfl) (by kernel_rfl) (by kernel_rfl) (fun _ _ _ h => h) (Or.inl ⟨by rfl, fun W => by go_simp⟩) ?_
          refine wpAny_take (i := 17) (v := .pointer (some ⟨gx, l, none⟩)) rfl (by kernel_rfl) (by kernel_rfl) (by kernel_rfl) (fun _ _ _ h => h) (Or.inl ⟨by rfl, fun W => by go_simp⟩) ?_
          try simp only [List.getElem_toArray, List.getElem_cons_succ, List.getElem_cons_zero, Act.put, List.setIfInBounds_toArray, List.set_cons_zero, List.set_cons_succ]
          refine wpAny_ready (rs := [18]) (by kernel_rfl) (by simp) ?_
          refine BigFrame.allReady_want rfl (by rfl) (fun K hK => ?_) AllReady.nil
          (try simp only [List.getElem_toArray, List.getElem_cons_succ, List.getElem_cons_zero]); first | go_big_move | go_big_op
          refine hK _ _ ?_
          clear hK K
          refine wpAny_ready (rs := [19]) (by kernel_rfl) (by simp) ?_
          refine BigFrame.allReady_want rfl (by rfl) (fun K hK => ?_) AllReady.nil
          (try simp only [List.getElem_toArray, List.getElem_cons_succ, List.getElem_cons_zero]); first | go_big_move | go_big_op
          refine hK _ _ ?_
          clear hK K
          refine wpAny_ready (rs := [20]) (by kernel_rfl) (by simp) ?_
          refine BigFrame.allReady_want rfl (by rfl) (fun K hK => ?_) AllReady.nil
          (try simp only [List.getElem_toArray, List.getElem_cons_succ, List.getElem_cons_zero]); first | go_big_move | go_big_op
          refine hK _ _ ?_
          clear hK K
          try simp only [hm2]
          refine wpAny_ready (rs := [21]) (by kernel_rfl) (by simp) ?_
          refine BigFrame.allReady_want rfl (by rfl) (fun K hK => ?_) AllReady.nil
          (try simp only [List.getElem_toArray, List.getElem_cons_succ, List.getElem_cons_zero]); first | go_big_move | go_big_op
          refine hK _ _ ?_
          clear hK K
          refine wpAny_ready (rs := [22]) (by kernel_rfl) (by simp) ?_
          refine BigFrame.allReady_want rfl (by rfl) (fun K hK => ?_) AllReady.nil
          (try simp only [List.getElem_toArray, List.getElem_cons_succ, List.getElem_cons_zero]); first | go_big_move | go_big_op
          refine hK _ _ ?_
          clear hK K
          refine wpAny_ready (rs := [23]) (by kernel_rfl) (by simp) ?_
          refine BigFrame.allReady_want rfl (by rfl) (fun K hK => ?_) AllReady.nil
          (try simp only [List.getElem_toArray, List.getElem_cons_succ, List.getElem_cons_zero]); first | go_big_move | go_big_op
          refine hK _ _ ?_
          clear hK K
          refine wpAny_ready (rs := [24]) (by kernel_rfl) (by simp) ?_
          refine BigFrame.allReady_want rfl (by rfl) (fun K hK => ?_) AllReady.nil
          (try simp only [List.getElem_toArray, List.getElem_cons_succ, List.getElem_cons_zero]); first | go_big_move | go_big_op
          refine hK _ _ ?_
          clear hK K
          refine wpAny_ready (rs := [25]) (by kernel_rfl) (by simp) ?_
          refine BigFrame.allReady_want rfl (by rfl) (fun K hK => ?_) AllReady.nil
          (try simp only [List.getElem_toArray, List.getElem_cons_succ, List.getElem_cons_zero]); first | go_big_move | go_big_op
          refine hK _ _ ?_
          clear hK K
          refine wpAny_take (i := 26) (v := .int .i64 (a : Int)) rfl (by kernel_rfl) (by kernel_rfl) (by kernel_rfl) (fun _ _ _ h => h) (Or.inl ⟨by rfl, fun W => by go_simp⟩) ?_
          refine wpAny_take (i := 27) (v := .pointer (some ⟨gx, 0, none⟩)) rfl (by kernel_rfl) (by kernel_rfl) (by kernel_rfl) (fun _ _ _ h => h) (Or.inl ⟨by rfl, fun W => by go_simp⟩) ?_
          refine wpAny_take (i := 28) (v := .int .i64 (l : Int)) rfl (by kernel_rfl) (by kernel_rfl) (by kernel_rfl) (fun _ _ _ h => h) (Or.inl ⟨by rfl, fun W => by go_simp⟩) ?_
          refine wpAny_take (i := 29) (v := .pointer (some ⟨gx, 0, none⟩)) rfl (by kernel_rfl) (by kernel_rfl) (by kernel_rfl) (fun _ _ _ h => h) (Or.inl ⟨by rfl, fun W => by go_simp⟩) ?_
          refine wpAny_take (i := 30) (v := .pointer (some ⟨gx, 0, none⟩)) rfl (by kernel_rfl) (by kernel_rfl) (by kernel_rfl) (fun _ _ _ h => h) (Or.inl ⟨by rfl, fun W => by go_simp⟩) ?_
          refine wpAny_take (i := 31) (v := .pointer (some ⟨gx, l, none⟩)) rfl (by kernel_rfl) (by kernel_rfl) (by kernel_rfl) (fun _ _ _ h => h) (Or.inl ⟨by rfl, fun W => by go_simp⟩) ?_
          try simp only [List.getElem_toArray, List.getElem_cons_succ, List.getElem_cons_zero, Act.put, List.setIfInBounds_toArray, List.set_cons_zero, List.set_cons_succ]
          refine wpAny_ready (rs := [32]) (by kernel_rfl) (by simp) ?_
          refine BigFrame.allReady_want rfl (by rfl) (fun K hK => ?_) AllReady.nil
          (try simp only [List.getElem_toArray, List.getElem_cons_succ, List.getElem_cons_zero]); first | go_big_move | go_big_op
          refine hK _ _ ?_
          clear hK K
          refine wpAny_ready (rs := [33]) (by kernel_rfl) (by simp) ?_
          refine BigFrame.allReady_want rfl (by rfl) (fun K hK => ?_) AllReady.nil
          (try simp only [List.getElem_toArray, List.getElem_cons_succ, List.getElem_cons_zero]); first | go_big_move | go_big_op
          refine hK _ _ ?_
          clear hK K
          refine wpAny_ready (rs := [34]) (by kernel_rfl) (by simp) ?_
          refine BigFrame.allReady_want rfl (by rfl) (fun K hK => ?_) AllReady.nil
          (try simp only [List.getElem_toArray, List.getElem_cons_succ, List.getElem_cons_zero]); first | go_big_move | go_big_op
          refine hK _ _ ?_
          clear hK K
          refine wpAny_ready (rs := [35]) (by kernel_rfl) (by simp) ?_
          refine BigFrame.allReady_want rfl (by rfl) (fun K hK => ?_) AllReady.nil
          (try simp only [List.getElem_toArray, List.getElem_cons_succ, List.getElem_cons_zero]); first | go_big_move | go_big_op
          refine hK _ _ ?_
          clear hK K
          try simp only [ta, bne_self_eq_false]
          try simp only [List.getElem_toArray, List.getElem_cons_succ, List.getElem_cons_zero, Act.put, List.setIfInBounds_toArray, List.set_cons_zero, List.set_cons_succ]
          refine wpAny_ready (rs := [36]) (by kernel_rfl) (by simp) ?_
          refine BigFrame.allReady_want rfl (by rfl) (fun K hK => ?_) AllReady.nil
          (try simp only [List.getElem_toArray, List.getElem_cons_succ, List.getElem_cons_zero]); first | go_big_move | go_big_op
          refine hK _ _ ?_
          clear hK K
          refine wpAny_ready (rs := [37]) (by kernel_rfl) (by simp) ?_
          refine BigFrame.allReady_want rfl (by rfl) (fun K hK => ?_) AllReady.nil
          (try simp only [List.getElem_toArray, List.getElem_cons_succ, List.getElem_cons_zero]); first | go_big_move | go_big_op
          refine hK _ _ ?_
          clear hK K
          refine wpAny_done (by kernel_rfl) ?_ _
          have HB3 := hide (below_drewN (HB.out.trans ((HB2.out : Below wr.heap.size wr w2).mono HB.out.size)) q)
          clear HO HR2 cv2
          go_wp2_with fail
          go_roundg (gk - 1)
          case measure => omega
          case rel => exact ⟨l + 1, by go_num, by omega, HB3.out⟩
    · have hl' : decide (l < 4) = false := by simp; omega
      have hl'' : decide ((l : Int) < 4) = false := by simp; omega
      clear hl
      have hlow : (∃ a : Nat, leastV R = (a : Int) ∧ rleastV R = (a : Int) ∧ decide (low R < 4) = true) ∨ (leastV R = 0 ∧ rleastV R = -1 ∧ decide (low R < 4) = false) := by
        by_cases h : low R < 4
        · left
          have hne : R (low R) ≠ [] := by
            intro he
            unfold low at h he
            split at he
            · contradiction
            split at he
            · contradiction
            split at he
            · contradiction
            split at he
            · contradiction
            · simp_all
          obtain ⟨a, _, ha⟩ := hd_mem hne
          exact ⟨a, by unfold leastV; rw [if_pos h, ha], by unfold rleastV; rw [if_pos h, ha], by simpa using h⟩
        · right
          exact ⟨by unfold leastV; rw [if_neg h], by unfold rleastV; rw [if_neg h], by simpa using h⟩
      have HLe := hide (least_any gq n R wr HQr.out)
      unfold LeastE at HLe
      have HRl := hide (rleast_any gx R wr ⟨V, HV.out⟩)
      have HLen := hide (fun W h => len_any gq n R W h)
      have HRlen := hide (fun W h => rlen_any gx n R hn HQr.out.good W h)
      have HLi := hide (fun W => list_none (some ⟨gq, 0, none⟩) 4 (fun W => front_out gq 4 (by omega) W) W)
      have HFa := hide (fun W => front_out gq (-1) (by omega) W)
      have HFb := hide (fun W => front_out gq 4 (by omega) W)
      obtain ⟨u, hu⟩ : ∃ u, lenU R 4 = u := ⟨_, rfl⟩
      rw [hu] at HLen HRlen
      have HXr := hide (show RefAt wr gx R from ⟨V, HV.out⟩)
      clear hu
      rcases hlow with ⟨a, h1, h2, h3⟩ | ⟨h1, h2, h3⟩
      all_goals
        rw [h1, h3] at HLe
        rw [h2] at HRl
        clear h1 h2 h3
        go_wp2_with (first
          | (go_at_call 17; (with_reducible refine HLe.out.mono ?_); rintro e wx ⟨b, rfl, rfl, hw⟩; subst wx)
          | (go_at_call 28; (with_reducible refine HRl.out.mono ?_); rintro e wx ⟨rfl, hw⟩; subst wx)
          | (go_at_call 16; first
              | ((with_reducible refine (HFa.out _).mono ?_); rintro e wx ⟨rfl, hw⟩; subst wx)
              | ((with_reducible refine (HFb.out _).mono ?_); rintro e wx ⟨rfl, hw⟩; subst wx))
          | (go_at_call 13; (with_reducible refine (HLen.out _ HQr.out).mono ?_); rintro e w2 ⟨rfl, hb⟩; have HX2 := hide (HXr.out.later hb); have HB2 := hide (HB.out.trans (hb.mono HB.out.size)); clear hb)
          | (go_at_call 29; (with_reducible refine (HRlen.out _ HX2.out).mono ?_); rintro e w3 ⟨rfl, d, rfl⟩)
          | (go_at_call 11; (with_reducible refine (HLi.out _).mono ?_); rintro e w4 ⟨rfl, hb⟩; have HB4 := hide ((below_drewN HB2.out d).trans (hb.mono (below_drewN HB2.out d).size)); clear hb))
        go_ret
        exact ⟨rfl, HB4.out⟩
end Go.Proofs.Ytafhkjipjgkkkaa.Lv
