/- ViewDiffers, walked. -/
import Derived.Test.YtmocaabdfiffnaaVwDifP
import Derived.Deep.RegionHeld3
namespace Go.Proofs.Ytmocaabdfiffnaa.Ct
open Go.RowKit Go.Proofs.Ytmocaabdfiffnaa.W Go.Maps
set_option linter.unusedVariables false
set_option linter.unusedSimpArgs false

def VdRel (W6 : World) (a b : ByteArray) (slow : Bool) (k : Nat) (s11 s12 : Value) (wr : World) : Prop :=
  ∃ (i m : Nat) (A : Option Addr) (c : Nat), s12 = .int .i64 (i : Int) ∧ s11 = .slice A m c ∧ i + k = 288 ∧ m = (difs a b slow i).length ∧ wr.ownsRow W6.heap.size 3 1 (.slice A m c) m (toV (difs a b slow i)) ∧ Below W6.heap.size W6 wr
theorem yield_load {P : Program} {a : Act} {o : Oper} {W : World} {ty : TypeId} {x : Operand} {p : Addr} {v : Value} (ho : o.op = .load ty x) (hx : a.eval x = .pointer (some p)) (hl : (loadVar ty p).run P W = .ok v W) : (execOp a.eval o).run P W = .ok (.value v) W := by
  unfold execOp
  simp only [ho, hx, Instr.loadAt, Instr.sureAddr, Sem.run_bind, Sem.run_pure, Result.andThen_ok, hl]
theorem wp_store_all {P : Program} {a : Act} {o : Oper} {w : World} {K : Act → World → Prop} {Q : Exit → Act → World → Prop} (ty : TypeId) (x y : Operand) (ho : o.op = .store ty x y)
    (g : Nat) (hx : a.eval x = .pointer (some ⟨g, 0, none⟩)) (t : TypeId) (n : Nat) (f h' : Nat → Value) (hy : a.eval y = .agg (row n h')) (hg : Blk w g t (row n f))
    (hi : (P.info? ty).map (·.size) = some n) (h1 : ∀ i, i < n → (h' i).oneCell' = true) (h : K (a.put o.dst undef) (w.setRow g (row n h'))) : Oper.wp P o a w K Q := by
  have hs := run_store_sub w g 0 t ty n n f h' hg hi (by omega) h1
  rw [row_congr (f := over f 0 n h') (g := h') (fun i hi => by simp [over, hi])] at hs
  unfold Oper.wp execOp
  simp only [ho, hx, hy, Instr.storeAt, Instr.sureAddr, Sem.run_bind, Sem.run_pure, Result.andThen_ok, hs]
  exact h
theorem zero32 : (#[.int .u8 0, .int .u8 0, .int .u8 0, .int .u8 0, .int .u8 0, .int .u8 0, .int .u8 0, .int .u8 0, .int .u8 0, .int .u8 0, .int .u8 0, .int .u8 0, .int .u8 0, .int .u8 0, .int .u8 0, .int .u8 0, .int .u8 0, .int .u8 0, .int .u8 0, .int .u8 0, .int .u8 0, .int .u8 0, .int .u8 0, .int .u8 0, .int .u8 0, .int .u8 0, .int .u8 0, .int .u8 0, .int .u8 0, .int .u8 0, .int .u8 0, .int .u8 0] : Array Value) = row 32 fun _ => .int .u8 0 := by kernel_rfl
theorem storeCells_all {P : Program} (w : World) (g : Nat) (t : TypeId) (n : Nat) (f h : Nat → Value) (hg : Blk w g t (row n f)) (h1 : ∀ i, i < n → (h i).oneCell' = true) : (storeCells ⟨g, 0, none⟩ (row n h).toList).run P w = .ok () (w.setRow g (row n h)) := by
  have hst := run_storeCells_at P g 0 t (row n h).toList 0 (row n f) w hg (by simp [row_size]) (fun v hv => by
    obtain ⟨j, hj, rfl⟩ := List.getElem_of_mem hv
    simp [row_size] at hj
    have := h1 j hj
    simpa [row] using this)
  simp only [Nat.add_zero, Array.length_toList, row_size] at hst
  rw [over_list n 0 n f h (by omega), row_congr (f := over f 0 n h) (g := h) (fun i hi => by simp [over, hi])] at hst
  exact hst
theorem info32 : (Try.prog.info? 23).map (·.size) = some 32 := by kernel_rfl
set_option maxRecDepth 100000 in
set_option maxHeartbeats 16000000 in
theorem viewDiffers_walk (A1 A2 : Option Addr) (n1 c1 n2 c2 : Nat) (slow : Bool) (k : Nat → BitVec 8) (F : Nat → Value) (hF0 : F 0 = .slice A1 n1 c1) (hF1 : F 1 = .slice A2 n2 c2) (hF2 : F 2 = .bool slow) (hF3 : ∀ j, j < 32 → F (3 + j) = u8s k j)
    (a b : ByteArray) (ha : a.size = 18432) (hb : b.size = 18432) (w : World)
    (h1 : ∀ W, Below w.heap.size w W → Calls Try.prog 6 #[.slice A1 n1 c1] W fun e w' => e = .returned (.string a) ∧ Below W.heap.size W w')
    (h2 : ∀ W, Below w.heap.size w W → Calls Try.prog 6 #[.slice A2 n2 c2] W fun e w' => e = .returned (.string b) ∧ Below W.heap.size W w') :
    Calls Try.prog 3 #[.agg (row 35 F)] w fun e w' => e = .returned (.bool true) ∧ Below w.heap.size w w' := by
  have H1 := hide h1
  have H2 := hide h2
  have HA := hide ha
  have HB := hide hb
  have HF := hide (And.intro hF0 (And.intro hF1 (And.intro hF2 hF3)))
  have hG : Blk (w.alloc (.cells (row 35 F) 25)) w.heap.size 25 (row 35 F) := Blk.newAt w _ _ _ rfl
  have HG := hide hG
  clear h1 h2 ha hb hF0 hF1 hF2 hF3 hG
  go_enter Try.func3, Try.ntmps3
  go_upto_region 1 with fail
  refine wp_region_held_drew (S := fun W => Blk W w.heap.size 25 (row 35 F)) (by kernel_rfl) (HG.out.drew) (fun hS => ?_)
  obtain ⟨g, hg⟩ : ∃ g, w.heap.size = g := ⟨_, rfl⟩
  have HGg := hide hg
  rw [hg] at hS
  simp only [hg]
  clear hg HG
  refine wpAnyH_take (i := 0) (v := .pointer (some ⟨g, 0, none⟩)) rfl (by kernel_rfl) (by kernel_rfl) (by kernel_rfl) (fun _ _ _ h => h) (Or.inl ⟨by rfl, fun W hW => by
    have hW : Blk W g 25 (row 35 F) := hW
    go_simp
    ⟩) hS ?_
  refine wpAnyH_take (i := 1) (v := .slice A1 n1 c1) rfl (by kernel_rfl) (by kernel_rfl) (by kernel_rfl) (fun _ _ _ h => h) (Or.inl ⟨by rfl, fun W hW => by
    have hW : Blk W g 25 (row 35 F) := hW
    have hc := hW.at (i := 0) (by omega)
    rw [HF.out.1] at hc
    go_simp
    ⟩) hS ?_
  refine wpAnyH_take (i := 2) (v := .pointer (some ⟨g, 1, none⟩)) rfl (by kernel_rfl) (by kernel_rfl) (by kernel_rfl) (fun _ _ _ h => h) (Or.inl ⟨by rfl, fun W hW => by
    have hW : Blk W g 25 (row 35 F) := hW
    go_simp
    ⟩) hS ?_
  refine wpAnyH_take (i := 3) (v := .slice A2 n2 c2) rfl (by kernel_rfl) (by kernel_rfl) (by kernel_rfl) (fun _ _ _ h => h) (Or.inl ⟨by rfl, fun W hW => by
    have hW : Blk W g 25 (row 35 F) := hW
    have hc := hW.at (i := 1) (by omega)
    rw [HF.out.2.1] at hc
    go_simp
    ⟩) hS ?_
  refine wpAnyH_take (i := 4) (v := .pointer (some ⟨g, 2, none⟩)) rfl (by kernel_rfl) (by kernel_rfl) (by kernel_rfl) (fun _ _ _ h => h) (Or.inl ⟨by rfl, fun W hW => by
    have hW : Blk W g 25 (row 35 F) := hW
    go_simp
    ⟩) hS ?_
  refine wpAnyH_take (i := 5) (v := .bool slow) rfl (by kernel_rfl) (by kernel_rfl) (by kernel_rfl) (fun _ _ _ h => h) (Or.inl ⟨by rfl, fun W hW => by
    have hW : Blk W g 25 (row 35 F) := hW
    have hc := hW.at (i := 2) (by omega)
    rw [HF.out.2.2.1] at hc
    go_simp
    ⟩) hS ?_
  refine wpAnyH_take (i := 6) (v := .pointer (some ⟨g, 3, none⟩)) rfl (by kernel_rfl) (by kernel_rfl) (by kernel_rfl) (fun _ _ _ h => h) (Or.inl ⟨by rfl, fun W hW => by
    have hW : Blk W g 25 (row 35 F) := hW
    go_simp
    ⟩) hS ?_
  refine wpAnyH_take (i := 7) (v := .agg (row 32 (u8s k))) rfl (by kernel_rfl) (by kernel_rfl) (by kernel_rfl) (fun _ _ _ h => h) (Or.inl ⟨by rfl, fun W hW => by
    have hW : Blk W g 25 (row 35 F) := hW
    have hl := run_load_sub W g 3 25 23 35 32 F _ hW rfl Try.underlying23 info32 (by omega)
    rw [row_congr HF.out.2.2.2] at hl
    exact yield_load rfl rfl hl
    ⟩) hS ?_
  refine wpAnyH_ready (rs := [8]) (by kernel_rfl) (by simp) ?_
  refine AllReadyH.cons rfl (fun K hK => ?_) AllReadyH.nil
  go_simp
  simp only [zero32]
  have hgx : w.heap.size + 1 = (w.alloc (.cells (row 35 F) 25)).heap.size := by simp
  have k0 : Blk ((w.alloc (.cells (row 35 F) 25)).alloc (.cells (row 32 fun _ => .int .u8 0) 23)).drew g 25 (row 35 F) := hS.alloc _
  have k1 : Blk ((w.alloc (.cells (row 35 F) 25)).alloc (.cells (row 32 fun _ => .int .u8 0) 23)).drew (w.heap.size + 1) 23 (row 32 fun _ => .int .u8 0) := Blk.newAt (w.alloc (.cells (row 35 F) 25)) 23 (row 32 fun _ => .int .u8 0) _ hgx
  have kb : Below w.heap.size w ((w.alloc (.cells (row 35 F) 25)).alloc (.cells (row 32 fun _ => .int .u8 0) 23)).drew := below_drewN (((Below.refl w.heap.size w).alloc (Nat.le_refl _) _).alloc (by simp) _) 1
  generalize ((w.alloc (.cells (row 35 F) 25)).alloc (.cells (row 32 fun _ => .int .u8 0) 23)).drew = W2 at k0 k1 kb ⊢
  obtain ⟨gx, hgx'⟩ : ∃ x, w.heap.size + 1 = x := ⟨_, rfl⟩
  have HGx := hide hgx'
  rw [hgx'] at k1
  simp only [hgx']
  refine hK.out _ _ k0 (fun _ => ?_)
  clear hK K hgx hgx' hS
  refine wpAnyH_take (i := 9) (v := .slice A1 n1 c1) rfl (by kernel_rfl) (by kernel_rfl) (by kernel_rfl) (fun _ _ _ h => h) (Or.inl ⟨by rfl, fun W hW => by go_simp⟩) k0 ?_
  refine wpAnyH_take (i := 10) (v := .slice A2 n2 c2) rfl (by kernel_rfl) (by kernel_rfl) (by kernel_rfl) (fun _ _ _ h => h) (Or.inl ⟨by rfl, fun W hW => by go_simp⟩) k0 ?_
  refine wpAnyH_take (i := 11) (v := .bool slow) rfl (by kernel_rfl) (by kernel_rfl) (by kernel_rfl) (fun _ _ _ h => h) (Or.inl ⟨by rfl, fun W hW => by go_simp⟩) k0 ?_
  refine wpAnyH_ready (rs := [12]) (by kernel_rfl) (by simp) ?_
  refine AllReadyH.cons rfl (fun K hK => ?_) AllReadyH.nil
  have hst := storeCells_all (P := Try.prog) W2 gx 23 32 (fun _ => .int .u8 0) (u8s k) k1 (fun _ _ => rfl)
  have hsz : (row 32 (u8s k)).size = 32 := row_size _ _
  go_simp
  have HX2 : Hid (Blk (W2.setRow gx (row 32 (u8s k))) gx 23 (row 32 (u8s k))) := hide (k1.row_ _)
  have HB2 : Hid (Below w.heap.size w (W2.setRow gx (row 32 (u8s k)))) := hide (below_setRow kb (by have := HGx.out; omega) _)
  have k2 : Blk (W2.setRow gx (row 32 (u8s k))) g 25 (row 35 F) := k0.farRow (by have := HGx.out; have := HGg.out; omega) _
  generalize W2.setRow gx (row 32 (u8s k)) = W3 at HX2 HB2 k2 ⊢
  refine hK.out _ _ k2 (fun _ => ?_)
  clear hK K k0 k1 k2 kb HF
  refine wpAnyH_done (by kernel_rfl) ?_ _
  have HD := hide (differ_yes a b slow HA.out HB.out)
  have HE := hide (fun W => differ_none a (otherB a k) true HA.out (other_size HA.out k) (fun i hi => same_other HA.out k hi) W)
  have HS := hide (fun W => differ_none a a slow HA.out HA.out (fun i _ => sameB_self a slow i) W)
  have HNo := hide (fun W => differ_no a (b.extract 1 b.size) slow HA.out (by rw [ByteArray.size_extract, HB.out]; omega) W)
  have HRa := hide (fun i hi W => rblock_any a i HA.out hi W)
  have HRb := hide (fun i hi W => rblock_any b i HB.out hi W)
  obtain ⟨i0, hi0, hz0, hz1, hz2⟩ := info3 int_info
  go_wp2_with (first
    | (go_at_call 6; first
        | ((with_reducible refine (H1.out _ HB2.out).mono ?_); rintro e w4 ⟨rfl, hb⟩; have HB4 := hide (HB2.out.trans (hb.mono HB2.out.size)); have HX4 := hide (W.later hb HX2.out); clear hb)
        | ((with_reducible refine (H2.out _ HB4.out).mono ?_); rintro e w5 ⟨rfl, hb⟩; have HB5 := hide (HB4.out.trans (hb.mono HB4.out.size)); have HX5 := hide (W.later hb HX4.out); clear hb))
    | (go_at_call 7; (with_reducible refine (HD.out _).mono ?_); rintro e w6 ⟨Ag, cg, mg, rfl, hmg, hrg, hb⟩; have HB6 := hide (HB5.out.trans (hb.mono HB5.out.size)); have HX6 := hide (W.later hb HX5.out); have HMg := hide hmg; have HRg := hide hrg; clear hb hmg hrg))
  clear HD H1 H2 HX2 HX4 HX5 HB2 HB4 HB5
  go_loopg [11, 12, 13, 14] 288 (fun k s11 s12 s13 s14 wr => VdRel w6 a b slow k s11 s12 wr)
  case atStart => exact ⟨0, 0, none, 0, rfl, rfl, rfl, rfl, World.ownsRow_nil _ _ _ _, Below.refl _ _⟩
  case round =>
    obtain ⟨i, m, A, c, rfl, rfl, hk, hm, hown, hb⟩ := hrel
    have HOwn := hide hown
    have HBr := hide hb
    have HK := hide hk
    have HM := hide hm
    clear hown hb
    by_cases hi : i < 288
    · have hlt : (i : Int) < 288 := by omega
      have hlen := difs_len a b slow i
      have hm2 : m ≤ 288 := by omega
      have HRai := hide (HRa.out i hi)
      have HRbi := hide (HRb.out i hi)
      have z1 := blk_size HA.out hi
      have z2 := blk_size HB.out hi
      have hS : sameB a b slow i = if i = 0 ∧ slow = true then (((blk a i).extract 0 32).toList == ((blk b i).extract 0 32).toList) else ((blk a i).toList == (blk b i).toList) := rfl
      obtain ⟨q, hq⟩ : ∃ q, sameB a b slow i = q := ⟨_, rfl⟩
      have hD1 : q = true → difs a b slow (i + 1) = difs a b slow i := fun h => difs_same (hq.trans h)
      have hD2 : q = false → difs a b slow (i + 1) = difs a b slow i ++ [i] := fun h => difs_not (hq.trans h)
      rw [hq] at hS
      obtain ⟨x, hx⟩ : ∃ x, blk a i = x := ⟨_, rfl⟩
      obtain ⟨y, hy⟩ : ∃ y, blk b i = y := ⟨_, rfl⟩
      rw [hx, hy] at hS
      rw [hx] at HRai z1
      rw [hy] at HRbi z2
      have s1 : (32 : Int) ≤ (x.size : Int) := by omega
      have s2 : (32 : Int) ≤ (y.size : Int) := by omega
      have s3 : 32 ≤ x.size := by omega
      have s4 : 32 ≤ y.size := by omega
      have HD1 := hide hD1
      have HD2 := hide hD2
      have HSl : Hid (slow = slow) := hide rfl
      clear hlen hx hy z1 z2 hk hm hq hD1 hD2
      by_cases h0 : i = 0
      · subst h0
        have HRa0 : Hid (∀ W, Calls Try.prog 8 #[.string a, .int .i64 0] W fun e w' => e = .returned (.string x) ∧ w' = W) := HRai
        have HRb0 : Hid (∀ W, Calls Try.prog 8 #[.string b, .int .i64 0] W fun e w' => e = .returned (.string y) ∧ w' = W) := HRbi
        cases slow with
        | true =>
          rw [if_pos ⟨rfl, rfl⟩] at hS
          have HT := hide hS
          clear hS
          cases q with
          | true =>
            have t1 : ((x.extract 0 32).toList == (y.extract 0 32).toList) = true := HT.out.symm
            go_wp2_with (first
              | (go_at_call 8; first
                  | ((with_reducible refine (HRa0.out _).mono ?_); rintro e w7 ⟨rfl, hw⟩; subst w7)
                  | ((with_reducible refine (HRb0.out _).mono ?_); rintro e w7 ⟨rfl, hw⟩; subst w7)))
            have hk := HK.out
            go_roundg (gk - 1)
            case measure => omega
            case rel => exact ⟨0 + 1, m, A, c, by go_num, rfl, by omega, by rw [HD1.out (by first | trivial | rfl)]; exact HM.out, by rw [HD1.out (by first | trivial | rfl)]; exact HOwn.out, HBr.out⟩
          | false =>
            have t1 : ((x.extract 0 32).toList == (y.extract 0 32).toList) = false := HT.out.symm
            go_wp2_with (first
              | (go_at_call 8; first
                  | ((with_reducible refine (HRa0.out _).mono ?_); rintro e w7 ⟨rfl, hw⟩; subst w7)
                  | ((with_reducible refine (HRb0.out _).mono ?_); rintro e w7 ⟨rfl, hw⟩; subst w7))
              | (at_builtin; refine wpList_append_at _ rfl (.tmp 63) (.tmp 65) 27 rfl w6.heap.size 3 i0 (.int .i64 0) 1 8 Try.underlying27 hi0 hz0 hz1 hz2 rfl (by decide) _ m _ rfl (by exact HOwn.out.alloc _) ⟨_, 0, none⟩ 1 1 [.int .i64 ((0 : Nat) : Int)] rfl rfl (by exact new_cell _ _ _ _ rfl) (by simp [Value.oneCell']) (by simp [maxLen]; omega) (by omega) (by have := HBr.out.size; simp; omega) ?_; intro v1 w9 hown1 hg1 hat1))
            obtain ⟨A1, c1, e1⟩ := own_form hown1
            rw [e1] at hown1 ⊢
            have hk := HK.out
            go_roundg (gk - 1)
            case measure => omega
            case rel =>
              refine ⟨0 + 1, m + 1, A1, c1, by go_num, rfl, by omega, ?_, ?_, kept_below (HOwn.out.alloc _) hg1 (HBr.out.alloc HBr.out.size _) (Nat.le_refl _) (by have := HBr.out.size; simp; omega)⟩
              · rw [HD2.out (by first | trivial | rfl), List.length_append, ← HM.out]
                rfl
              · rw [HD2.out (by first | trivial | rfl), show toV (difs a b true 0 ++ [0]) = toV (difs a b true 0) ++ [.int .i64 ((0 : Nat) : Int)] by simp [toV]]
                exact hown1
        | false =>
          rw [if_neg (by simp)] at hS
          have HT := hide hS
          clear hS
          cases q with
          | true =>
            have t1 : (x.toList == y.toList) = true := HT.out.symm
            go_wp2_with (first
              | (go_at_call 8; first
                  | ((with_reducible refine (HRa0.out _).mono ?_); rintro e w7 ⟨rfl, hw⟩; subst w7)
                  | ((with_reducible refine (HRb0.out _).mono ?_); rintro e w7 ⟨rfl, hw⟩; subst w7)))
            have hk := HK.out
            go_roundg (gk - 1)
            case measure => omega
            case rel => exact ⟨0 + 1, m, A, c, by go_num, rfl, by omega, by rw [HD1.out (by first | trivial | rfl)]; exact HM.out, by rw [HD1.out (by first | trivial | rfl)]; exact HOwn.out, HBr.out⟩
          | false =>
            have t1 : (x.toList == y.toList) = false := HT.out.symm
            go_wp2_with (first
              | (go_at_call 8; first
                  | ((with_reducible refine (HRa0.out _).mono ?_); rintro e w7 ⟨rfl, hw⟩; subst w7)
                  | ((with_reducible refine (HRb0.out _).mono ?_); rintro e w7 ⟨rfl, hw⟩; subst w7))
              | (at_builtin; refine wpList_append_at _ rfl (.tmp 63) (.tmp 65) 27 rfl w6.heap.size 3 i0 (.int .i64 0) 1 8 Try.underlying27 hi0 hz0 hz1 hz2 rfl (by decide) _ m _ rfl (by exact HOwn.out.alloc _) ⟨_, 0, none⟩ 1 1 [.int .i64 ((0 : Nat) : Int)] rfl rfl (by exact new_cell _ _ _ _ rfl) (by simp [Value.oneCell']) (by simp [maxLen]; omega) (by omega) (by have := HBr.out.size; simp; omega) ?_; intro v1 w9 hown1 hg1 hat1))
            obtain ⟨A1, c1, e1⟩ := own_form hown1
            rw [e1] at hown1 ⊢
            have hk := HK.out
            go_roundg (gk - 1)
            case measure => omega
            case rel =>
              refine ⟨0 + 1, m + 1, A1, c1, by go_num, rfl, by omega, ?_, ?_, kept_below (HOwn.out.alloc _) hg1 (HBr.out.alloc HBr.out.size _) (Nat.le_refl _) (by have := HBr.out.size; simp; omega)⟩
              · rw [HD2.out (by first | trivial | rfl), List.length_append, ← HM.out]
                rfl
              · rw [HD2.out (by first | trivial | rfl), show toV (difs a b false 0 ++ [0]) = toV (difs a b false 0) ++ [.int .i64 ((0 : Nat) : Int)] by simp [toV]]
                exact hown1
      · rw [if_neg (fun h => h0 h.1)] at hS
        have t1 : ((i : Int) == 0) = false := by simp; omega
        have t2 : (i == 0) = false := by simp; omega
        clear h0
        have HT := hide hS
        clear hS
        cases q with
        | true =>
          have t3 : (x.toList == y.toList) = true := HT.out.symm
          go_wp2_with (first
            | (go_at_call 8; first
                | ((with_reducible refine (HRai.out _).mono ?_); rintro e w7 ⟨rfl, hw⟩; subst w7)
                | ((with_reducible refine (HRbi.out _).mono ?_); rintro e w7 ⟨rfl, hw⟩; subst w7)))
          have hk := HK.out
          go_roundg (gk - 1)
          case measure => omega
          case rel => exact ⟨i + 1, m, A, c, by go_num, rfl, by omega, by rw [HD1.out (by first | trivial | rfl)]; exact HM.out, by rw [HD1.out (by first | trivial | rfl)]; exact HOwn.out, HBr.out⟩
        | false =>
          have t3 : (x.toList == y.toList) = false := HT.out.symm
          go_wp2_with (first
            | (go_at_call 8; first
                | ((with_reducible refine (HRai.out _).mono ?_); rintro e w7 ⟨rfl, hw⟩; subst w7)
                | ((with_reducible refine (HRbi.out _).mono ?_); rintro e w7 ⟨rfl, hw⟩; subst w7))
            | (at_builtin; refine wpList_append_at _ rfl (.tmp 63) (.tmp 65) 27 rfl w6.heap.size 3 i0 (.int .i64 0) 1 8 Try.underlying27 hi0 hz0 hz1 hz2 rfl (by decide) _ m _ rfl (by exact HOwn.out.alloc _) ⟨_, 0, none⟩ 1 1 [.int .i64 (i : Int)] rfl rfl (by exact new_cell _ _ _ _ rfl) (by simp [Value.oneCell']) (by simp [maxLen]; omega) (by omega) (by have := HBr.out.size; simp; omega) ?_; intro v1 w9 hown1 hg1 hat1))
          obtain ⟨A1, c1, e1⟩ := own_form hown1
          rw [e1] at hown1 ⊢
          have hk := HK.out
          go_roundg (gk - 1)
          case measure => omega
          case rel =>
            refine ⟨i + 1, m + 1, A1, c1, by go_num, rfl, by omega, ?_, ?_, kept_below (HOwn.out.alloc _) hg1 (HBr.out.alloc HBr.out.size _) (Nat.le_refl _) (by have := HBr.out.size; simp; omega)⟩
            · rw [HD2.out (by first | trivial | rfl), List.length_append, ← HM.out]
              rfl
            · rw [HD2.out (by first | trivial | rfl), show toV (difs a b slow i ++ [i]) = toV (difs a b slow i) ++ [.int .i64 (i : Int)] by simp [toV]]
              exact hown1
    · obtain rfl : i = 288 := by omega
      have a1 : (32 : Int) ≤ (a.size : Int) := by rw [HA.out]; omega
      have a2 : 32 ≤ a.size := by rw [HA.out]; omega
      have a3 : (64 : Int) ≤ (a.size : Int) := by rw [HA.out]; omega
      have a4 : 64 ≤ a.size := by rw [HA.out]; omega
      have b1 : (1 : Int) ≤ (b.size : Int) := by rw [HB.out]; omega
      have b2 : 1 ≤ b.size := by rw [HB.out]; omega
      have hgr := (W.later HBr.out HX6.out).lt
      have hcv : ∀ n, (convert 32 9 (.slice (some ⟨gx, 0, none⟩) 32 32)).run Try.prog (wr.drewN n) = .ok (.string (strB 32 k)) (wr.drewN n) := fun n =>
        run_convert_row (wr.drewN n) _ _ _ Try.underlying32 Try.underlying5 Try.underlying9 _ _ _ _ k (fun j hj => by
          rw [Nat.zero_add, ((W.later HBr.out HX6.out).drewN n).at hj]
          rfl)
      have hadd : ∀ w, (Op.stringOp .add (a.extract 0 32) (strB 32 k)).run Try.prog w = .ok (.string (a.extract 0 32 ++ strB 32 k)) w := fun w => run_string_add_sum w _ _ (by rw [ByteArray.size_extract, strB_size, HA.out]; omega)
      have hadd2 : ∀ w, (Op.stringOp .add (a.extract 0 32 ++ strB 32 k) (a.extract 64 a.size)).run Try.prog w = .ok (.string (otherB a k)) w := fun w => run_string_add_sum w _ _ (by rw [ByteArray.size_append, ByteArray.size_extract, ByteArray.size_extract, strB_size, HA.out]; omega)
      obtain ⟨ck, hck⟩ : ∃ c, strB 32 k = c := ⟨_, rfl⟩
      obtain ⟨o, ho⟩ : ∃ c, otherB a k = c := ⟨_, rfl⟩
      obtain ⟨u, hu⟩ : ∃ c, a.extract 0 32 ++ ck = c := ⟨_, rfl⟩
      rw [hck] at hcv hadd hadd2
      rw [hu] at hadd hadd2
      rw [ho] at hadd2 HE
      clear hck ho hu hi hk hm hi0 hz0 hz1 hz2
      have hmm : mg = m := HMg.out.trans HM.out.symm
      subst hmm
      have HW : Hid (RowV wr (.slice A mg c) (difs a b slow 288)) := hide (by
        have h := HOwn.out
        have hl := HM.out
        subst hl
        exact RowV.of_own h)
      have HG : Hid (RowV wr (.slice Ag mg cg) (difs a b slow 288)) := hide (HRg.out.later HBr.out)
      have HL1 : Hid (mg ≤ 1000) := hide (by have := difs_len a b slow 288; have := HM.out; omega)
      have HBw := hide (HB6.out.trans (HBr.out.mono HB6.out.size))
      go_upto_region 14 with fail
      go_quiet (fail)
      have HB7 := hide (below_drewN HBw.out nq)
      have HW7 : Hid (RowV (wr.drewN nq) (.slice A mg c) (difs a b slow 288)) := hide (HW.out.keep (fun _ _ h => h.drewN nq))
      have HG7 : Hid (RowV (wr.drewN nq) (.slice Ag mg cg) (difs a b slow 288)) := hide (HG.out.keep (fun _ _ h => h.drewN nq))
      generalize wr.drewN nq = w7 at HB7 HW7 HG7 ⊢
      clear HW HG HBw hcv hadd hadd2 HOwn HBr HRg HB6 HX6 HRa HRb
      go_wp2_with (first
        | (go_at_call 7; first
            | ((with_reducible refine (HE.out _).mono ?_); rintro e w8 ⟨A8, c8, rfl, hb⟩; have HB8 := hide (HB7.out.trans (hb.mono HB7.out.size)); have HW8 := hide (HW7.out.later hb); have HG8 := hide (HG7.out.later hb); clear hb)
            | ((with_reducible refine (HS.out _).mono ?_); rintro e w9 ⟨A9, c9, rfl, hb⟩; have HB9 := hide (HB8.out.trans (hb.mono HB8.out.size)); have HW9 := hide (HW8.out.later hb); have HG9 := hide (HG8.out.later hb); clear hb)
            | ((with_reducible refine (HNo.out _).mono ?_); rintro e w10 ⟨rfl, hb⟩; have HB10 := hide (HB9.out.trans (hb.mono HB9.out.size)); have HW10 := hide (HW9.out.later hb); have HG10 := hide (HG9.out.later hb); clear hb))
        | (go_at_call 9; (with_reducible refine (awake_any _).mono ?_); rintro e w11 ⟨rfl, hb⟩; have HB11 := hide (HB10.out.trans (hb.mono HB10.out.size)); have HW11 := hide (HW10.out.later hb); have HG11 := hide (HG10.out.later hb); clear hb)
        | (go_at_call 10; (with_reducible refine (ints_yes Ag A mg cg c (difs a b slow 288) HM.out HL1.out _ HG11.out HW11.out).mono ?_); rintro e w12 ⟨rfl, q, rfl⟩))
      go_ret
      exact ⟨rfl, below_drewN HB11.out _⟩
end Go.Proofs.Ytmocaabdfiffnaa.Ct
