/- The law that what is advised may be: walked. -/
import Derived.Test.YtadlfebpaijbhaaSmqAdvP
import Derived.Deep.RegionHeld3
import Derived.Deep.DeepCutAuto
namespace Go.Proofs.Ytadlfebpaijbhaa.Lv
open Go.RowKit Go.Proofs.Ytadlfebpaijbhaa.W Go.Proofs.Ytadlfebpaijbhaa.Dice
set_option linter.unusedVariables false
set_option linter.unusedSimpArgs false

theorem yield_load {P : Program} {a : Act} {o : Oper} {W : World} {ty : TypeId} {x : Operand} {p : Addr} {v : Value} (ho : o.op = .load ty x) (hx : a.eval x = .pointer (some p)) (hl : (loadVar ty p).run P W = .ok v W) : (execOp a.eval o).run P W = .ok (.value v) W := by
  unfold execOp
  simp only [ho, hx, Instr.loadAt, Instr.sureAddr, Sem.run_bind, Sem.run_pure, Result.andThen_ok, hl]
theorem info16 : (Try.prog.info? 35).map (·.size) = some 16 := by kernel_rfl
theorem storeCells_all {P : Program} (w : World) (g : Nat) (t : TypeId) (n : Nat) (f h : Nat → Value) (hg : Blk w g t (row n f)) (h1 : ∀ i, i < n → (h i).oneCell' = true) : (storeCells ⟨g, 0, none⟩ (row n h).toList).run P w = .ok () (w.setRow g (row n h)) := by
  have hst := run_storeCells_at P g 0 t (row n h).toList 0 (row n f) w hg (by simp [row_size]) (fun v hv => by
    obtain ⟨j, hj, rfl⟩ := List.getElem_of_mem hv
    simp [row_size] at hj
    have := h1 j hj
    simpa [row] using this)
  simp only [Nat.add_zero, Array.length_toList, row_size] at hst
  rw [over_list n 0 n f h (by omega), row_congr (f := over f 0 n h) (g := h) (fun i hi => by simp [over, hi])] at hst
  exact hst
theorem zero16c : (#[.bool false, .bool false, .bool false, .bool false, .bool false, .bool false, .bool false, .bool false, .bool false, .bool false, .bool false, .bool false, .bool false, .bool false, .bool false, .bool false] : Array Value) = row 16 fun _ => .bool false := by kernel_rfl
theorem zero8c : (#[.bool false, .bool false, .bool false, .bool false, .bool false, .bool false, .bool false, .bool false] : Array Value) = row 8 fun _ => .bool false := by kernel_rfl
/-- What the argument's parts are, in memory. -/
structure AdvIn (w : World) (A : Option Addr) (len c : Nat) (C M : Nat → Bool) (draw : Int) (s3 s4 s5 s6 : Value) (wr : World) : Prop where
  s3 : s3 = .slice A len c
  s6 : s6 = .int .i64 draw
  b : ∃ g4 g5, s4 = .pointer (some ⟨g4, 0, none⟩) ∧ s5 = .pointer (some ⟨g5, 0, none⟩) ∧ Blk wr g4 35 (row 16 fun i => .bool (C i)) ∧ Blk wr g5 38 (row 8 fun i => .bool (M i))
  below : Below w.heap.size w wr
set_option maxRecDepth 100000 in
set_option maxHeartbeats 16000000 in
theorem smqAdvises_walk (A : Option Addr) (len c : Nat) (K I : Nat → Int) (C M : Nat → Bool) (draw : Int) (F : Nat → Value) (hF0 : F 0 = .slice A len c) (hF1 : ∀ j, j < 16 → F (1 + j) = .bool (C j)) (hF2 : ∀ j, j < 8 → F (17 + j) = .bool (M j)) (hF3 : F 25 = .int .i64 draw)
    (hd1 : -9223372036854775808 ≤ draw) (hd2 : draw ≤ 9223372036854775807) (w : World) (hl : len ≤ maxLen) (hA : Holds w w.heap.size 2 A len (actA K I)) :
    Calls Try.prog 5 #[.agg (row 26 F)] w fun e w' => e = .returned (.bool true) ∧ Below w.heap.size w w' := by
  have HF := hide (And.intro hF0 (And.intro hF1 (And.intro hF2 hF3)))
  have HA := hide hA
  have HG : Hid (Blk (w.alloc (.cells (row 26 F) 40)) w.heap.size 40 (row 26 F)) := hide (Blk.newAt w _ _ _ rfl)
  have HB0 := hide ((Below.refl w.heap.size w).alloc (Nat.le_refl _) (.cells (row 26 F) 40))
  clear hF0 hF1 hF2 hF3 hA
  go_enter Try.func5, Try.ntmps5
  go_upto_region 1 with fail
  obtain ⟨g, hg⟩ : ∃ g, w.heap.size = g := ⟨_, rfl⟩
  have HGg := hide hg
  rw [hg] at HG
  simp only [hg]
  generalize w.alloc (.cells (row 26 F) 40) = W0 at HG HB0 ⊢
  clear hg
  go_cut [3, 4, 5, 6] (fun s3 s4 s5 s6 wx => AdvIn w A len c C M draw s3 s4 s5 s6 wx)
  case first =>
    refine wp_region_held_drew (S := fun W => Blk W g 40 (row 26 F)) (by kernel_rfl) (HG.out.drew) (fun hS => ?_)
    have HB1 := hide (below_drewN HB0.out 1)
    change Hid (Below _ _ W0.drew) at HB1
    generalize W0.drew = W1 at hS HB1 ⊢
    refine wpAnyH_take (i := 0) (v := .pointer (some ⟨g, 0, none⟩)) rfl (by kernel_rfl) (by kernel_rfl) (by kernel_rfl) (fun _ _ _ h => h) (Or.inl ⟨by rfl, fun W hW => by
      have hW : Blk W g 40 (row 26 F) := hW
      go_simp⟩) hS ?_
    refine wpAnyH_take (i := 1) (v := .slice A len c) rfl (by kernel_rfl) (by kernel_rfl) (by kernel_rfl) (fun _ _ _ h => h) (Or.inl ⟨by rfl, fun W hW => by
      have hW : Blk W g 40 (row 26 F) := hW
      have hc := hW.at (i := 0) (by omega)
      rw [HF.out.1] at hc
      go_simp⟩) hS ?_
    refine wpAnyH_take (i := 2) (v := .pointer (some ⟨g, 1, none⟩)) rfl (by kernel_rfl) (by kernel_rfl) (by kernel_rfl) (fun _ _ _ h => h) (Or.inl ⟨by rfl, fun W hW => by
      have hW : Blk W g 40 (row 26 F) := hW
      go_simp⟩) hS ?_
    refine wpAnyH_take (i := 3) (v := .agg (row 16 fun i => .bool (C i))) rfl (by kernel_rfl) (by kernel_rfl) (by kernel_rfl) (fun _ _ _ h => h) (Or.inl ⟨by rfl, fun W hW => by
      have hW : Blk W g 40 (row 26 F) := hW
      have hl := run_load_sub W g 1 40 35 26 16 F _ hW rfl Try.underlying35 info16 (by omega)
      rw [row_congr HF.out.2.1] at hl
      exact yield_load rfl rfl hl⟩) hS ?_
    refine wpAnyH_take (i := 4) (v := .pointer (some ⟨g, 17, none⟩)) rfl (by kernel_rfl) (by kernel_rfl) (by kernel_rfl) (fun _ _ _ h => h) (Or.inl ⟨by rfl, fun W hW => by
      have hW : Blk W g 40 (row 26 F) := hW
      go_simp⟩) hS ?_
    refine wpAnyH_take (i := 5) (v := .agg (row 8 fun i => .bool (M i))) rfl (by kernel_rfl) (by kernel_rfl) (by kernel_rfl) (fun _ _ _ h => h) (Or.inl ⟨by rfl, fun W hW => by
      have hW : Blk W g 40 (row 26 F) := hW
      have hl := run_load_sub W g 17 40 38 26 8 F _ hW rfl Try.underlying38 info8 (by omega)
      rw [row_congr HF.out.2.2.1] at hl
      exact yield_load rfl rfl hl⟩) hS ?_
    refine wpAnyH_take (i := 6) (v := .pointer (some ⟨g, 25, none⟩)) rfl (by kernel_rfl) (by kernel_rfl) (by kernel_rfl) (fun _ _ _ h => h) (Or.inl ⟨by rfl, fun W hW => by
      have hW : Blk W g 40 (row 26 F) := hW
      go_simp⟩) hS ?_
    refine wpAnyH_take (i := 7) (v := .int .i64 draw) rfl (by kernel_rfl) (by kernel_rfl) (by kernel_rfl) (fun _ _ _ h => h) (Or.inl ⟨by rfl, fun W hW => by
      have hW : Blk W g 40 (row 26 F) := hW
      have hc := hW.at (i := 25) (by omega)
      rw [HF.out.2.2.2] at hc
      go_simp⟩) hS ?_
    refine wpAnyH_ready (rs := [8, 9]) (by kernel_rfl) (by simp) ?_
    refine AllReadyH.cons rfl (fun K hK => ?_) (AllReadyH.cons rfl (fun K hK => ?_) AllReadyH.nil)
    · go_simp
      simp only [zero16c]
      have ka : Blk (W1.alloc (.cells (row 16 fun _ => .bool false) 35)) W1.heap.size 35 (row 16 fun _ => .bool false) := Blk.newAt W1 _ _ _ rfl
      have k0 : Blk (W1.alloc (.cells (row 16 fun _ => .bool false) 35)) g 40 (row 26 F) := hS.alloc _
      have kb : Below w.heap.size w (W1.alloc (.cells (row 16 fun _ => .bool false) 35)) := HB1.out.alloc HB1.out.size _
      generalize W1.alloc (.cells (row 16 fun _ => .bool false) 35) = W2 at ka k0 kb ⊢
      obtain ⟨ga, hga⟩ : ∃ x, W1.heap.size = x := ⟨_, rfl⟩
      rw [hga] at ka
      simp only [hga]
      refine hK.out _ _ k0 (fun _ => ?_)
      have L1 : w.heap.size ≤ ga := by rw [← hga]; exact HB1.out.size
      clear hK K hga hS
      refine wpAnyH_ready (rs := [9]) (by kernel_rfl) (by simp) ?_
      refine AllReadyH.cons rfl (fun K hK => ?_) AllReadyH.nil
      go_simp
      simp only [zero8c]
      have kc : Blk (W2.alloc (.cells (row 8 fun _ => .bool false) 38)) W2.heap.size 38 (row 8 fun _ => .bool false) := Blk.newAt W2 _ _ _ rfl
      have ka2 : Blk (W2.alloc (.cells (row 8 fun _ => .bool false) 38)) ga 35 (row 16 fun _ => .bool false) := ka.alloc _
      have k02 : Blk (W2.alloc (.cells (row 8 fun _ => .bool false) 38)) g 40 (row 26 F) := k0.alloc _
      have kb2 : Below w.heap.size w (W2.alloc (.cells (row 8 fun _ => .bool false) 38)) := kb.alloc kb.size _
      have hsz2 := kb.size
      clear ka k0 kb
      generalize W2.alloc (.cells (row 8 fun _ => .bool false) 38) = W3 at ka2 kc k02 kb2 ⊢
      obtain ⟨gc, hgc⟩ : ∃ x, W2.heap.size = x := ⟨_, rfl⟩
      rw [hgc] at kc
      simp only [hgc]
      refine hK.out _ _ k02 (fun _ => ?_)
      have L2 : w.heap.size ≤ gc := by rw [← hgc]; exact hsz2
      clear hK K hgc hsz2
      have kc2 := kc
      clear kc
      refine wpAnyH_take (i := 10) (v := .slice A len c) rfl (by kernel_rfl) (by kernel_rfl) (by kernel_rfl) (fun _ _ _ h => h) (Or.inl ⟨by rfl, fun W hW => by go_simp⟩) k02 ?_
      refine wpAnyH_ready (rs := [11]) (by kernel_rfl) (by simp) ?_
      refine AllReadyH.cons rfl (fun K hK => ?_) AllReadyH.nil
      have n1 : g ≠ ga := k02.ne_ ka2 (by decide)
      have n2 : g ≠ gc := k02.ne_ kc2 (by decide)
      have n3 : gc ≠ ga := kc2.ne_ ka2 (by decide)
      have hst := storeCells_all (P := Try.prog) W3 ga 35 16 (fun _ => .bool false) (fun i => .bool (C i)) ka2 (fun _ _ => rfl)
      have hsz : (row 16 fun i => Value.bool (C i)).size = 16 := row_size _ _
      go_simp
      have ka3 : Blk (W3.setRow ga (row 16 fun i => .bool (C i))) ga 35 (row 16 fun i => .bool (C i)) := ka2.row_ _
      have kc3 : Blk (W3.setRow ga (row 16 fun i => .bool (C i))) gc 38 (row 8 fun _ => .bool false) := kc2.farRow n3 _
      have k03 : Blk (W3.setRow ga (row 16 fun i => .bool (C i))) g 40 (row 26 F) := k02.farRow n1 _
      have kb3 : Below w.heap.size w (W3.setRow ga (row 16 fun i => .bool (C i))) := below_setRow kb2 L1 _
      generalize W3.setRow ga (row 16 fun i => .bool (C i)) = W4 at ka3 kc3 k03 kb3 ⊢
      refine hK.out _ _ k03 (fun _ => ?_)
      clear hK K hst hsz ka2 kc2 k02 kb2
      refine wpAnyH_ready (rs := [12]) (by kernel_rfl) (by simp) ?_
      refine AllReadyH.cons rfl (fun K hK => ?_) AllReadyH.nil
      have hst := storeCells_all (P := Try.prog) W4 gc 38 8 (fun _ => .bool false) (fun i => .bool (M i)) kc3 (fun _ _ => rfl)
      have hsz : (row 8 fun i => Value.bool (M i)).size = 8 := row_size _ _
      go_simp
      have ka4 : Blk (W4.setRow gc (row 8 fun i => .bool (M i))) ga 35 (row 16 fun i => .bool (C i)) := ka3.farRow (fun h => n3 h.symm) _
      have kc4 : Blk (W4.setRow gc (row 8 fun i => .bool (M i))) gc 38 (row 8 fun i => .bool (M i)) := kc3.row_ _
      have k04 : Blk (W4.setRow gc (row 8 fun i => .bool (M i))) g 40 (row 26 F) := k03.farRow n2 _
      have kb4 : Below w.heap.size w (W4.setRow gc (row 8 fun i => .bool (M i))) := below_setRow kb3 L2 _
      generalize W4.setRow gc (row 8 fun i => .bool (M i)) = W5 at ka4 kc4 k04 kb4 ⊢
      refine hK.out _ _ k04 (fun _ => ?_)
      clear hK K hst hsz ka3 kc3 k03 kb3
      refine wpAnyH_take (i := 13) (v := .int .i64 draw) rfl (by kernel_rfl) (by kernel_rfl) (by kernel_rfl) (fun _ _ _ h => h) (Or.inl ⟨by rfl, fun W hW => by go_simp⟩) k04 ?_
      refine wpAnyH_done (by kernel_rfl) ?_ _
      go_wp2_with fail
      go_meet
      exact ⟨rfl, rfl, ⟨ga, gc, rfl, rfl, ka4, kc4⟩, kb4⟩
    · go_simp
      simp only [zero8c]
      have kc : Blk (W1.alloc (.cells (row 8 fun _ => .bool false) 38)) W1.heap.size 38 (row 8 fun _ => .bool false) := Blk.newAt W1 _ _ _ rfl
      have k0 : Blk (W1.alloc (.cells (row 8 fun _ => .bool false) 38)) g 40 (row 26 F) := hS.alloc _
      have kb : Below w.heap.size w (W1.alloc (.cells (row 8 fun _ => .bool false) 38)) := HB1.out.alloc HB1.out.size _
      generalize W1.alloc (.cells (row 8 fun _ => .bool false) 38) = W2 at kc k0 kb ⊢
      obtain ⟨gc, hga⟩ : ∃ x, W1.heap.size = x := ⟨_, rfl⟩
      rw [hga] at kc
      simp only [hga]
      refine hK.out _ _ k0 (fun _ => ?_)
      have L1 : w.heap.size ≤ gc := by rw [← hga]; exact HB1.out.size
      clear hK K hga hS
      refine wpAnyH_ready (rs := [8]) (by kernel_rfl) (by simp) ?_
      refine AllReadyH.cons rfl (fun K hK => ?_) AllReadyH.nil
      go_simp
      simp only [zero16c]
      have ka : Blk (W2.alloc (.cells (row 16 fun _ => .bool false) 35)) W2.heap.size 35 (row 16 fun _ => .bool false) := Blk.newAt W2 _ _ _ rfl
      have kc2 : Blk (W2.alloc (.cells (row 16 fun _ => .bool false) 35)) gc 38 (row 8 fun _ => .bool false) := kc.alloc _
      have k02 : Blk (W2.alloc (.cells (row 16 fun _ => .bool false) 35)) g 40 (row 26 F) := k0.alloc _
      have kb2 : Below w.heap.size w (W2.alloc (.cells (row 16 fun _ => .bool false) 35)) := kb.alloc kb.size _
      have hsz2 := kb.size
      clear kc k0 kb
      generalize W2.alloc (.cells (row 16 fun _ => .bool false) 35) = W3 at kc2 ka k02 kb2 ⊢
      obtain ⟨ga, hgc⟩ : ∃ x, W2.heap.size = x := ⟨_, rfl⟩
      rw [hgc] at ka
      simp only [hgc]
      refine hK.out _ _ k02 (fun _ => ?_)
      have L2 : w.heap.size ≤ ga := by rw [← hgc]; exact hsz2
      clear hK K hgc hsz2
      have ka2 := ka
      clear ka
      refine wpAnyH_take (i := 10) (v := .slice A len c) rfl (by kernel_rfl) (by kernel_rfl) (by kernel_rfl) (fun _ _ _ h => h) (Or.inl ⟨by rfl, fun W hW => by go_simp⟩) k02 ?_
      refine wpAnyH_ready (rs := [11]) (by kernel_rfl) (by simp) ?_
      refine AllReadyH.cons rfl (fun K hK => ?_) AllReadyH.nil
      have n1 : g ≠ ga := k02.ne_ ka2 (by decide)
      have n2 : g ≠ gc := k02.ne_ kc2 (by decide)
      have n3 : gc ≠ ga := kc2.ne_ ka2 (by decide)
      have hst := storeCells_all (P := Try.prog) W3 ga 35 16 (fun _ => .bool false) (fun i => .bool (C i)) ka2 (fun _ _ => rfl)
      have hsz : (row 16 fun i => Value.bool (C i)).size = 16 := row_size _ _
      go_simp
      have ka3 : Blk (W3.setRow ga (row 16 fun i => .bool (C i))) ga 35 (row 16 fun i => .bool (C i)) := ka2.row_ _
      have kc3 : Blk (W3.setRow ga (row 16 fun i => .bool (C i))) gc 38 (row 8 fun _ => .bool false) := kc2.farRow n3 _
      have k03 : Blk (W3.setRow ga (row 16 fun i => .bool (C i))) g 40 (row 26 F) := k02.farRow n1 _
      have kb3 : Below w.heap.size w (W3.setRow ga (row 16 fun i => .bool (C i))) := below_setRow kb2 L2 _
      generalize W3.setRow ga (row 16 fun i => .bool (C i)) = W4 at ka3 kc3 k03 kb3 ⊢
      refine hK.out _ _ k03 (fun _ => ?_)
      clear hK K hst hsz ka2 kc2 k02 kb2
      refine wpAnyH_ready (rs := [12]) (by kernel_rfl) (by simp) ?_
      refine AllReadyH.cons rfl (fun K hK => ?_) AllReadyH.nil
      have hst := storeCells_all (P := Try.prog) W4 gc 38 8 (fun _ => .bool false) (fun i => .bool (M i)) kc3 (fun _ _ => rfl)
      have hsz : (row 8 fun i => Value.bool (M i)).size = 8 := row_size _ _
      go_simp
      have ka4 : Blk (W4.setRow gc (row 8 fun i => .bool (M i))) ga 35 (row 16 fun i => .bool (C i)) := ka3.farRow (fun h => n3 h.symm) _
      have kc4 : Blk (W4.setRow gc (row 8 fun i => .bool (M i))) gc 38 (row 8 fun i => .bool (M i)) := kc3.row_ _
      have k04 : Blk (W4.setRow gc (row 8 fun i => .bool (M i))) g 40 (row 26 F) := k03.farRow n2 _
      have kb4 : Below w.heap.size w (W4.setRow gc (row 8 fun i => .bool (M i))) := below_setRow kb3 L1 _
      generalize W4.setRow gc (row 8 fun i => .bool (M i)) = W5 at ka4 kc4 k04 kb4 ⊢
      refine hK.out _ _ k04 (fun _ => ?_)
      clear hK K hst hsz ka3 kc3 k03 kb3
      refine wpAnyH_take (i := 13) (v := .int .i64 draw) rfl (by kernel_rfl) (by kernel_rfl) (by kernel_rfl) (fun _ _ _ h => h) (Or.inl ⟨by rfl, fun W hW => by go_simp⟩) k04 ?_
      refine wpAnyH_done (by kernel_rfl) ?_ _
      go_wp2_with fail
      go_meet
      exact ⟨rfl, rfl, ⟨ga, gc, rfl, rfl, ka4, kc4⟩, kb4⟩
  case rest =>
    obtain ⟨rfl, rfl, ⟨g4, g5, rfl, rfl, k4, k5⟩, kb⟩ := hcut
    have HI4 := hide k4
    have HI5 := hide k5
    have HBw := hide kb
    clear k4 k5 kb HF HG HB0 HGg
    have HNew := hide (pnew_any wc)
    go_upto_region 4 with (first
      | (go_at_call 6; (with_reducible refine HNew.out.mono ?_); rintro e w1 ⟨gp, gq, gh, rfl, h1, h2, h3⟩; have H1 := hide h1; have H2 := hide h2; have H3 := hide h3; clear h1 h2 h3)
      | (go_at_call 7; (with_reducible refine (xnew_any _).mono ?_); rintro e w2 ⟨gx, ga, gb, rfl, h1, h2, h3⟩; have H4 := hide h1; have H5 := hide h2; have H6 := hide h3; clear h1 h2 h3)
      | (go_at_call 8; (with_reducible refine (awake_any _).mono ?_); rintro e w3 ⟨rfl, hb⟩; have H7 := hide hb; clear hb))
    have HL0 := hide (la_new H1.out H2.out H3.out H4.out H5.out H6.out H7.out)
    clear H1 H2 H3 H4 H5 H6 H7 HNew
    go_wp2_with fail
    go_loopg [9] 120 (fun k s9 wr => LRel wc gp gq gh gx ga gb 120 len k s9 wr)
    case atStart => exact ⟨0, sm0, rfl, rfl, by omega, Nat.le_refl _, HL0.out⟩
    case round =>
      clear HL0
      obtain ⟨i, s, rfl, hk, hil, hst, hla⟩ := hrel
      have HLa := hide hla
      clear hla
      by_cases hgo : i < len ∧ i < 120
      · have hgk : 0 < gk := by omega
        have hi1 : (i : Int) < (len : Int) := by omega
        have hi2 : (i : Int) < 120 := by omega
        obtain ⟨b, off, rfl, hbB, hc⟩ := HA.out (by omega)
        have hbB2 : b < wc.heap.size := Nat.lt_of_lt_of_le hbB HBw.out.size
        have c0 := (HLa.out.below.cell (p := ⟨b, off + i * 2 + 0, none⟩) hbB2).trans ((HBw.out.cell (p := ⟨b, off + i * 2 + 0, none⟩) hbB).trans (hc i 0 hgo.1 (by omega)))
        have c1 := (HLa.out.below.cell (p := ⟨b, off + i * 2 + 1, none⟩) hbB2).trans ((HBw.out.cell (p := ⟨b, off + i * 2 + 1, none⟩) hbB).trans (hc i 1 hgo.1 (by omega)))
        simp [actA] at c0 c1
        have HDo := hide (do_any gp gq gh gx ga gb s (K i) (I i) (by omega) wr HLa.out.p HLa.out.x)
        have HT : Hid ((stepS s (K i) (I i)).t ≤ i + 1) := hide (by
          have := stepS_t s (K i) (I i)
          omega)
        obtain ⟨s', hs'⟩ : ∃ s', stepS s (K i) (I i) = s' := ⟨_, rfl⟩
        rw [hs'] at HDo HT
        clear hc hgo hs' hst
        go_wp2_with (first
          | (go_at_call 9; (with_reducible refine HDo.out.mono ?_); intro e w3 hd; have HLa3 := hide (HLa.out.de hd); obtain ⟨he, _, _⟩ := hd; subst he))
        go_roundg (gk - 1)
        case measure => omega
        case rel => exact ⟨i + 1, s', by go_num, by omega, by omega, HT.out, HLa3.out⟩
      · have hcs : (decide ((i : Int) < (len : Int)) = false ∧ decide (i < len) = false) ∨ ((i : Int) < (len : Int) ∧ decide ((i : Int) < 120) = false ∧ decide (i < 120) = false) := by
          simp; omega
        obtain ⟨L, hL⟩ : ∃ L, wts s.H C 16 = L := ⟨_, rfl⟩
        obtain ⟨N, hN⟩ : ∃ N, isum L = N := ⟨_, rfl⟩
        have hle := wts_le s.H C 16
        rw [hL] at hle
        have HW := hide (fun W h => weights_at gx ga gb s C L hL W h)
        have HSu := hide (fun A c W h => rsum_at A c L N hN hle W h)
        have hadv := advice s.H C L draw N hL hN
        have hdm : (∃ a, dem s.L M = some a ∧ a < 8 ∧ M a = true) ∨ dem s.L M = none := by
          cases h : dem s.L M with
          | none => exact .inr rfl
          | some a => exact .inl ⟨a, rfl, dem_lt HLa.out.p.ok.l h, dem_may h⟩
        have HDe := hide (fun W h => demote_any gp gq gh s M W h)
        have HXd := hide (fun W h => rdemote_any gx ga gb s M W h)
        clear hgo hk hst hil
        rcases hdm with ⟨a, hda, ha8, hma⟩ | hda
        all_goals
          rw [hda] at HDe HXd
          simp only [demV, demX] at HDe HXd
        · have HM : Hid (∀ W : World, Blk W g5 38 (row 8 fun i => .bool (M i)) → W.cell? ⟨g5, a, none⟩ = some (.bool true)) := hide (fun W h => by
            have := h.at ha8
            rwa [hma] at this)
          have a0 : decide ((a : Int) < 0) = false := by simp
          have a8 : (a : Int) < 8 := by omega
          clear hda hma
          rcases hadv with ⟨q, g, x, ha⟩ | hn
          · have HPr := hide (fun W h => promote_yes gp gq gh s C draw hd2 L N q x g hL hN ha W h)
            have HPl := hide (fun A c W h => rplace_at A c L N q g hN hle ha.qlt ha.pe W h)
            have HX := hide ha.xe
            have HCc : Hid (∀ W : World, Blk W g4 35 (row 16 fun i => .bool (C i)) → W.cell? ⟨g4, g, none⟩ = some (.bool false)) := hide (fun W h => by
              have := h.at ha.gl
              rwa [ha.ce] at this)
            have d1 : decide (draw < 0) = false := by have := ha.d0; simp; omega
            have n1 : (N == 0) = false := by have := ha.n0; simp; omega
            have n2 : N ≠ 0 := by have := ha.n0; omega
            have x1 : (x == 0) = false := by have := ha.x0; simp; omega
            have et := ha.qt
            have ew : IntKind.i64.wrap q = q := IntWalk.i64_in _ (by have := ha.qlt; have := ha.q0; have := ha.nle; omega)
            have g16 : g < 16 := ha.gl
            have g16' : (g : Int) < 16 := by omega
            clear ha hL hN hle
            rcases hcs with ⟨t1, t2⟩ | ⟨t1, t2, t3⟩
            all_goals
              go_wp2_with (first
                | (with_reducible refine wpList_load_all rfl 35 (.tmp 4) rfl g4 rfl 35 16 _ _ (W.later HLa1.out.below HI4.out) rfl Try.underlying35 info16 ?_)
                | (with_reducible refine wpList_load_all rfl 35 (.tmp 4) rfl g4 rfl 35 16 _ _ (W.later HLa.out.below HI4.out) rfl Try.underlying35 info16 ?_)
                | (go_at_call 12; (with_reducible refine (HPr.out _ HLa.out.p).mono ?_); rintro e w4 ⟨rfl, hb⟩; have HLa1 := hide (HLa.out.later hb); clear hb)
                | (go_at_call 14; (with_reducible refine (HW.out _ HLa1.out.x).mono ?_); rintro e w5 ⟨wb, wo, wcp, rfl, hI, hb⟩; have HLa2 := hide (HLa1.out.later hb); have HIn2 := hide hI; clear hb hI)
                | (go_at_call 15; (with_reducible refine (HSu.out _ _ _ HIn2.out).mono ?_); rintro e w6 ⟨rfl, hb⟩; have HLa3 := hide (HLa2.out.later hb); have HIn3 := hide ((HIn2.out.below hb).more hb.size); clear hb)
                | (go_at_call 16; (with_reducible refine (HPl.out _ _ _ HIn3.out).mono ?_); rintro e w7 ⟨rfl, hb⟩; have HLa4 := hide (HLa3.out.later hb); have hcc := HCc.out _ (W.later HLa4.out.below HI4.out); have hcx := ints_cell ((HIn3.out.below hb).more hb.size) HX.out; clear hb)
                | (with_reducible refine wpList_load_all rfl 38 (.tmp 5) rfl g5 rfl 38 8 _ _ (W.later HLa5.out.below HI5.out) rfl Try.underlying38 info8 ?_)
                | (with_reducible refine wpList_load_all rfl 38 (.tmp 5) rfl g5 rfl 38 8 _ _ (W.later HLa4.out.below HI5.out) rfl Try.underlying38 info8 ?_)
                | (go_at_call 17; (with_reducible refine (HDe.out _ HLa4.out.p).mono ?_); rintro e w8 ⟨rfl, hb⟩; have HLa5 := hide (HLa4.out.later hb); clear hb)
                | (go_at_call 18; (with_reducible refine (HXd.out _ HLa5.out.x).mono ?_); rintro e w9 ⟨rfl, hb⟩; have HLa6 := hide (HLa5.out.later hb); have hcm := HM.out _ (W.later HLa6.out.below HI5.out); clear hb))
              go_ret
              exact ⟨rfl, HBw.out.trans (HLa6.out.below.mono HBw.out.size)⟩
          · have HPr := hide (fun W h => promote_no gp gq gh s C draw hd2 L N hL hN hn W h)
            have hn' : decide (draw < 0) = true ∨ (decide (draw < 0) = false ∧ N = 0) := by simp; omega
            clear hL hN hle hn
            rcases hcs with ⟨t1, t2⟩ | ⟨t1, t2, t3⟩
            all_goals
              rcases hn' with d1 | ⟨d1, rfl⟩
            all_goals
              go_wp2_with (first
                | (with_reducible refine wpList_load_all rfl 35 (.tmp 4) rfl g4 rfl 35 16 _ _ (W.later HLa1.out.below HI4.out) rfl Try.underlying35 info16 ?_)
                | (with_reducible refine wpList_load_all rfl 35 (.tmp 4) rfl g4 rfl 35 16 _ _ (W.later HLa.out.below HI4.out) rfl Try.underlying35 info16 ?_)
                | (go_at_call 12; (with_reducible refine (HPr.out _ HLa.out.p).mono ?_); rintro e w4 ⟨rfl, hb⟩; have HLa1 := hide (HLa.out.later hb); clear hb)
                | (go_at_call 14; (with_reducible refine (HW.out _ HLa1.out.x).mono ?_); rintro e w5 ⟨wb, wo, wcp, rfl, hI, hb⟩; have HLa2 := hide (HLa1.out.later hb); have HIn2 := hide hI; clear hb hI)
                | (go_at_call 15; (with_reducible refine (HSu.out _ _ _ HIn2.out).mono ?_); rintro e w6 ⟨rfl, hb⟩; have HLa3 := hide (HLa2.out.later hb); have HIn3 := hide ((HIn2.out.below hb).more hb.size); clear hb)
                | (with_reducible refine wpList_load_all rfl 38 (.tmp 5) rfl g5 rfl 38 8 _ _ (W.later HLa5.out.below HI5.out) rfl Try.underlying38 info8 ?_)
                | (with_reducible refine wpList_load_all rfl 38 (.tmp 5) rfl g5 rfl 38 8 _ _ (W.later HLa3.out.below HI5.out) rfl Try.underlying38 info8 ?_)
                | (go_at_call 17; (with_reducible refine (HDe.out _ HLa3.out.p).mono ?_); rintro e w8 ⟨rfl, hb⟩; have HLa5 := hide (HLa3.out.later hb); clear hb)
                | (go_at_call 18; (with_reducible refine (HXd.out _ HLa5.out.x).mono ?_); rintro e w9 ⟨rfl, hb⟩; have HLa6 := hide (HLa5.out.later hb); have hcm := HM.out _ (W.later HLa6.out.below HI5.out); clear hb))
              go_ret
              exact ⟨rfl, HBw.out.trans (HLa6.out.below.mono HBw.out.size)⟩
        · have HM : Hid (∀ W : World, Blk W g5 38 (row 8 fun i => .bool (M i)) → True) := hide (fun W h => trivial)
          clear hda
          rcases hadv with ⟨q, g, x, ha⟩ | hn
          · have HPr := hide (fun W h => promote_yes gp gq gh s C draw hd2 L N q x g hL hN ha W h)
            have HPl := hide (fun A c W h => rplace_at A c L N q g hN hle ha.qlt ha.pe W h)
            have HX := hide ha.xe
            have HCc : Hid (∀ W : World, Blk W g4 35 (row 16 fun i => .bool (C i)) → W.cell? ⟨g4, g, none⟩ = some (.bool false)) := hide (fun W h => by
              have := h.at ha.gl
              rwa [ha.ce] at this)
            have d1 : decide (draw < 0) = false := by have := ha.d0; simp; omega
            have n1 : (N == 0) = false := by have := ha.n0; simp; omega
            have n2 : N ≠ 0 := by have := ha.n0; omega
            have x1 : (x == 0) = false := by have := ha.x0; simp; omega
            have et := ha.qt
            have ew : IntKind.i64.wrap q = q := IntWalk.i64_in _ (by have := ha.qlt; have := ha.q0; have := ha.nle; omega)
            have g16 : g < 16 := ha.gl
            have g16' : (g : Int) < 16 := by omega
            clear ha hL hN hle
            rcases hcs with ⟨t1, t2⟩ | ⟨t1, t2, t3⟩
            all_goals
              go_wp2_with (first
                | (with_reducible refine wpList_load_all rfl 35 (.tmp 4) rfl g4 rfl 35 16 _ _ (W.later HLa1.out.below HI4.out) rfl Try.underlying35 info16 ?_)
                | (with_reducible refine wpList_load_all rfl 35 (.tmp 4) rfl g4 rfl 35 16 _ _ (W.later HLa.out.below HI4.out) rfl Try.underlying35 info16 ?_)
                | (go_at_call 12; (with_reducible refine (HPr.out _ HLa.out.p).mono ?_); rintro e w4 ⟨rfl, hb⟩; have HLa1 := hide (HLa.out.later hb); clear hb)
                | (go_at_call 14; (with_reducible refine (HW.out _ HLa1.out.x).mono ?_); rintro e w5 ⟨wb, wo, wcp, rfl, hI, hb⟩; have HLa2 := hide (HLa1.out.later hb); have HIn2 := hide hI; clear hb hI)
                | (go_at_call 15; (with_reducible refine (HSu.out _ _ _ HIn2.out).mono ?_); rintro e w6 ⟨rfl, hb⟩; have HLa3 := hide (HLa2.out.later hb); have HIn3 := hide ((HIn2.out.below hb).more hb.size); clear hb)
                | (go_at_call 16; (with_reducible refine (HPl.out _ _ _ HIn3.out).mono ?_); rintro e w7 ⟨rfl, hb⟩; have HLa4 := hide (HLa3.out.later hb); have hcc := HCc.out _ (W.later HLa4.out.below HI4.out); have hcx := ints_cell ((HIn3.out.below hb).more hb.size) HX.out; clear hb)
                | (with_reducible refine wpList_load_all rfl 38 (.tmp 5) rfl g5 rfl 38 8 _ _ (W.later HLa5.out.below HI5.out) rfl Try.underlying38 info8 ?_)
                | (with_reducible refine wpList_load_all rfl 38 (.tmp 5) rfl g5 rfl 38 8 _ _ (W.later HLa4.out.below HI5.out) rfl Try.underlying38 info8 ?_)
                | (go_at_call 17; (with_reducible refine (HDe.out _ HLa4.out.p).mono ?_); rintro e w8 ⟨rfl, hb⟩; have HLa5 := hide (HLa4.out.later hb); clear hb)
                | (go_at_call 18; (with_reducible refine (HXd.out _ HLa5.out.x).mono ?_); rintro e w9 ⟨rfl, hb⟩; have HLa6 := hide (HLa5.out.later hb); have hcm := HM.out _ (W.later HLa6.out.below HI5.out); clear hb))
              go_ret
              exact ⟨rfl, HBw.out.trans (HLa6.out.below.mono HBw.out.size)⟩
          · have HPr := hide (fun W h => promote_no gp gq gh s C draw hd2 L N hL hN hn W h)
            have hn' : decide (draw < 0) = true ∨ (decide (draw < 0) = false ∧ N = 0) := by simp; omega
            clear hL hN hle hn
            rcases hcs with ⟨t1, t2⟩ | ⟨t1, t2, t3⟩
            all_goals
              rcases hn' with d1 | ⟨d1, rfl⟩
            all_goals
              go_wp2_with (first
                | (with_reducible refine wpList_load_all rfl 35 (.tmp 4) rfl g4 rfl 35 16 _ _ (W.later HLa1.out.below HI4.out) rfl Try.underlying35 info16 ?_)
                | (with_reducible refine wpList_load_all rfl 35 (.tmp 4) rfl g4 rfl 35 16 _ _ (W.later HLa.out.below HI4.out) rfl Try.underlying35 info16 ?_)
                | (go_at_call 12; (with_reducible refine (HPr.out _ HLa.out.p).mono ?_); rintro e w4 ⟨rfl, hb⟩; have HLa1 := hide (HLa.out.later hb); clear hb)
                | (go_at_call 14; (with_reducible refine (HW.out _ HLa1.out.x).mono ?_); rintro e w5 ⟨wb, wo, wcp, rfl, hI, hb⟩; have HLa2 := hide (HLa1.out.later hb); have HIn2 := hide hI; clear hb hI)
                | (go_at_call 15; (with_reducible refine (HSu.out _ _ _ HIn2.out).mono ?_); rintro e w6 ⟨rfl, hb⟩; have HLa3 := hide (HLa2.out.later hb); have HIn3 := hide ((HIn2.out.below hb).more hb.size); clear hb)
                | (with_reducible refine wpList_load_all rfl 38 (.tmp 5) rfl g5 rfl 38 8 _ _ (W.later HLa5.out.below HI5.out) rfl Try.underlying38 info8 ?_)
                | (with_reducible refine wpList_load_all rfl 38 (.tmp 5) rfl g5 rfl 38 8 _ _ (W.later HLa3.out.below HI5.out) rfl Try.underlying38 info8 ?_)
                | (go_at_call 17; (with_reducible refine (HDe.out _ HLa3.out.p).mono ?_); rintro e w8 ⟨rfl, hb⟩; have HLa5 := hide (HLa3.out.later hb); clear hb)
                | (go_at_call 18; (with_reducible refine (HXd.out _ HLa5.out.x).mono ?_); rintro e w9 ⟨rfl, hb⟩; have HLa6 := hide (HLa5.out.later hb); have hcm := HM.out _ (W.later HLa6.out.below HI5.out); clear hb))
              go_ret
              exact ⟨rfl, HBw.out.trans (HLa6.out.below.mono HBw.out.size)⟩
end Go.Proofs.Ytadlfebpaijbhaa.Lv
