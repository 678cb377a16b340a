/- One call about a slot, of both: the law's 'slot', walked. -/
import Derived.Test.YtadlfebpaijbhaaSmqREnd
import Derived.BigQuiet
namespace Go.Proofs.Ytadlfebpaijbhaa.Lv
open Go.RowKit Go.Proofs.Ytadlfebpaijbhaa.W
set_option linter.unusedVariables false
set_option linter.unusedSimpArgs false

def six (gp gq gh gx ga gb : Nat) : Nat → Prop := fun k => three gp gq gh k ∨ three gx ga gb k
/-- Both policies, and the act's own block, in the middle of a call. -/
structure DA (w : World) (gp gq gh gx ga gb : Nat) (K I : Int) (s sx : Sm) (wr : World) : Prop where
  p : PA wr gp gq gh s
  x : XA wr gx ga gb sx
  a : Blk wr w.heap.size 30 #[.int .i64 K, .int .i64 I]
  chg : Chg (six gp gq gh gx ga gb) w wr
section
variable {w wr w' : World} {gp gq gh gx ga gb : Nat} {K I : Int} {s s' sx : Sm}
theorem PA.not_act (h : PA wr gp gq gh s) {g : Nat} {cs : Array Value} (ha : Blk wr g 30 cs) : ¬ three gp gq gh g := by
  obtain ⟨c1, h1⟩ := h.q.blk
  obtain ⟨c2, h2⟩ := h.h.blk
  rintro (e | e | e)
  · exact ha.ne_ h.p (by decide) e
  · exact ha.ne_ h1 (by decide) e
  · exact ha.ne_ h2 (by decide) e
theorem XA.not_act (h : XA wr gx ga gb s) {g : Nat} {cs : Array Value} (ha : Blk wr g 30 cs) : ¬ three gx ga gb g := by
  obtain ⟨c1, h1⟩ := h.q.blk_
  obtain ⟨c2, h2⟩ := h.h.blk_
  rintro (e | e | e)
  · exact ha.ne_ h.p (by decide) e
  · exact ha.ne_ h1 (by decide) e
  · exact ha.ne_ h2 (by decide) e
theorem DA.stepP (h : DA w gp gq gh gx ga gb K I s sx wr) {v : Value} {e : Ending} (he : PE gp gq gh s' v wr e w') : DA w gp gq gh gx ga gb K I s' sx w' :=
  ⟨he.2.1, h.x.afterP h.p he.2.2, h.a.chg he.2.2 (h.p.not_act h.a), h.chg.trans he.2.2 (fun _ _ e => .inl e)⟩
theorem DA.stepX (h : DA w gp gq gh gx ga gb K I s sx wr) (hx : XA w' gx ga gb s') (hc : Chg (three gx ga gb) wr w') : DA w gp gq gh gx ga gb K I s s' w' :=
  ⟨h.p.afterX h.x hc, hx, h.a.chg hc (h.x.not_act h.a), h.chg.trans hc (fun _ _ e => .inr e)⟩
theorem DA.drewN (h : DA w gp gq gh gx ga gb K I s sx wr) (k : Nat) : DA w gp gq gh gx ga gb K I s sx (wr.drewN k) :=
  ⟨h.p.drewN k, h.x.drewN k, h.a.chg ((Chg.refl none1 wr).drewN k) id, h.chg.drewN k⟩
theorem DA.k (h : DA w gp gq gh gx ga gb K I s sx wr) : wr.cell? ⟨w.heap.size, 0, none⟩ = some (.int .i64 K) := h.a.cell 0
theorem DA.i (h : DA w gp gq gh gx ga gb K I s sx wr) : wr.cell? ⟨w.heap.size, 1, none⟩ = some (.int .i64 I) := h.a.cell 1
theorem da_new (hp : PA w gp gq gh s) (hx : XA w gx ga gb sx) (K I : Int) : DA w gp gq gh gx ga gb K I s sx (w.alloc (.cells #[.int .i64 K, .int .i64 I] 30)) := by
  have hb := (Below.refl w.heap.size w).alloc (Nat.le_refl _) (.cells #[.int .i64 K, .int .i64 I] 30)
  exact ⟨hp.later hb, hx.later hb, Blk.newAt w _ _ _ rfl, Chg.of_below hb⟩
end
/-- What 'slot' and 'do' leave. -/
def DE (gp gq gh gx ga gb : Nat) (s' : Sm) (w : World) (e : Ending) (w' : World) : Prop := e = .returned (.bool true) ∧ PA w' gp gq gh s' ∧ XA w' gx ga gb s' ∧ Chg (six gp gq gh gx ga gb) w w'
theorem DA.de {w w' : World} {gp gq gh gx ga gb : Nat} {K I : Int} {s' : Sm} (h : DA w gp gq gh gx ga gb K I s' s' w') : DE gp gq gh gx ga gb s' w (.returned (.bool true)) w' := ⟨rfl, h.p, h.x, h.chg⟩
theorem icase (I : Int) : decide (0 ≤ I) = false ∨ (decide (0 ≤ I) = true ∧ decide (I < 8) = false) ∨ (∃ i : Nat, I = (i : Int) ∧ i < 8) := by
  by_cases h0 : 0 ≤ I
  · by_cases h1 : I < 8
    · exact .inr (.inr ⟨I.toNat, by omega, by omega⟩)
    · exact .inr (.inl ⟨by simp [h0], by simp [h1]⟩)
  · exact .inl (by simp [h0])
set_option maxRecDepth 100000 in
set_option maxHeartbeats 4000000 in
theorem slot_enter (gp gq gh gx ga gb : Nat) (s : Sm) (I : Int) (w : World) (hp : PA w gp gq gh s) (hx : XA w gx ga gb s) :
    Calls Try.prog 23 #[.pointer (some ⟨gp, 0, none⟩), .pointer (some ⟨gx, 0, none⟩), .agg #[.int .i64 4, .int .i64 I]] w (DE gp gq gh gx ga gb { s with L := enterR s I } w) := by
  have HD0 := hide (da_new hp hx 4 I)
  have HEn := hide (fun W h => enter_any gp gq gh s I W h)
  rcases icase I with h0 | ⟨h0, h1⟩ | ⟨i, rfl, hi⟩
  · have e1 : enterC s I = 3 := if_neg (by simp at h0; omega)
    have e2 : enterR s I = s.L := if_neg (by simp at h0; try simp at h1
                                             omega)
    rw [e1, e2] at HEn
    rw [e2]
    clear hp hx e1 e2
    go_enter Try.func23, Try.ntmps23
    go_upto_region 1 with fail
    generalize w.alloc (.cells #[.int .i64 4, .int .i64 I] 30) = W0 at HD0 ⊢
    have k0 := HD0.out.k
    have k1 := HD0.out.i
    go_wp2_with (first
      | (go_at_call 36; (with_reducible refine (HEn.out _ HD0.out.p).mono ?_); intro e w2 ha; have HD2 := hide (HD0.out.stepP ha); obtain ⟨he, _, _⟩ := ha; subst he))
    go_ret
    exact HD2.out.de
  · have e1 : enterC s I = 3 := if_neg (by simp at h1; omega)
    have e2 : enterR s I = s.L := if_neg (by simp at h0; try simp at h1
                                             omega)
    rw [e1, e2] at HEn
    rw [e2]
    clear hp hx e1 e2
    go_enter Try.func23, Try.ntmps23
    go_upto_region 1 with fail
    generalize w.alloc (.cells #[.int .i64 4, .int .i64 I] 30) = W0 at HD0 ⊢
    have k0 := HD0.out.k
    have k1 := HD0.out.i
    go_wp2_with (first
      | (go_at_call 36; (with_reducible refine (HEn.out _ HD0.out.p).mono ?_); intro e w2 ha; have HD2 := hide (HD0.out.stepP ha); obtain ⟨he, _, _⟩ := ha; subst he))
    go_ret
    exact HD2.out.de
  · have i0 : decide ((0 : Int) ≤ (i : Int)) = true := by simp
    have i1 : decide ((i : Int) < 8) = true := by simp; omega
    have i2 : decide (i < 8) = true := by simp; omega
    have HWh := hide (fun W hW => where_any gb i s.L (len16 hx.ok.l (by omega)) W hW)
    have HLen := hide (len16 hx.ok.l (by omega))
    by_cases hw : wh s.L i = 4
    · have e1 : enterC s (i : Int) = 0 := by
        unfold enterC
        rw [if_pos (by omega), Int.toNat_natCast, if_neg (by omega)]
      have e2 : enterR s (i : Int) = putR s.L i 1 := by
        unfold enterR
        rw [if_pos (by rw [Int.toNat_natCast]; omega), Int.toNat_natCast]
      rw [e1, e2] at HEn
      rw [e2]
      have hv : whV s.L i = -1 := if_neg (by omega)
      have HI := hide hi
      rw [hv] at HWh
      clear hp hx e1 e2 hv hw hi
      go_enter Try.func23, Try.ntmps23
      go_upto_region 1 with fail
      generalize w.alloc (.cells #[.int .i64 4, .int .i64 (i : Int)] 30) = W0 at HD0 ⊢
      have k0 := HD0.out.k
      have k1 := HD0.out.i
      have c1 := HD0.out.x.c1
      go_upto_region 5 with fail
      go_quiet (first | (go_at_call 29; exact Calls.quiet_of_same (HWh.out _ (HD0.out.drewN _).x.h)))
      have HD1 := hide (HD0.out.drewN nq)
      generalize W0.drewN nq = W1 at HD1 ⊢
      clear k0 k1 c1 HD0
      have k0 := HD1.out.k
      have k1 := HD1.out.i
      go_upto_region 14 with (first
        | (go_at_call 36; (with_reducible refine (HEn.out _ HD1.out.p).mono ?_); intro e w2 ha; have HD2 := hide (HD1.out.stepP ha); obtain ⟨he, _, _⟩ := ha; subst he))
      clear k0 k1
      have HD3 : Hid (DA w gp gq gh gx ga gb 4 (i : Int) { s with L := putR s.L i 1 } s w2.drew) := hide (HD2.out.drewN 1)
      have k0 := HD2.out.k
      have k1 := HD2.out.i
      have c1 := HD2.out.x.c1
      have HPut : Hid (Calls Try.prog 35 #[.pointer (some ⟨gb, 0, none⟩), .int .i64 (i : Int), .int .i64 1] w2.drew (RE gb (putR s.L i 1) w2.drew)) := hide (rput_any gb i 1 s.L (by omega) HLen.out w2.drew HD3.out.x.h)
      go_region_with (first
        | (go_at_call 35; (with_reducible refine HPut.out.mono ?_); intro e w3 ha; have HD4 := hide (HD3.out.stepX (HD3.out.x.held (good_putR HD3.out.x.ok.l HI.out (by omega)) ha.2.1 ha.2.2) (ha.2.2.mono (fun _ _ => one_three'))); obtain ⟨he, _, _⟩ := ha; subst he))
      all_goals
        go_wp2_with fail
        go_ret
        exact HD4.out.de
    · have e1 : enterC s (i : Int) = 8 := by
        unfold enterC
        rw [if_pos (by omega), Int.toNat_natCast, if_pos (wh_lt hw)]
      have e2 : enterR s (i : Int) = s.L := by
        unfold enterR
        rw [if_neg (by rw [Int.toNat_natCast]; omega)]
      rw [e1, e2] at HEn
      rw [e2]
      have hw4 := wh_lt hw
      have hv0 : whV s.L i = (wh s.L i : Int) := if_pos hw4
      obtain ⟨l, hl⟩ : ∃ l, wh s.L i = l := ⟨_, rfl⟩
      have hv : whV s.L i = (l : Int) := by rw [hv0, hl]
      have t0 : decide ((l : Int) < 0) = false := by simp
      have HW4 := hide hw4
      clear hv0 hw4 hl
      have HI := hide hi
      rw [hv] at HWh
      clear hp hx e1 e2 hv hw hi
      go_enter Try.func23, Try.ntmps23
      go_upto_region 1 with fail
      generalize w.alloc (.cells #[.int .i64 4, .int .i64 (i : Int)] 30) = W0 at HD0 ⊢
      have k0 := HD0.out.k
      have k1 := HD0.out.i
      have c1 := HD0.out.x.c1
      go_upto_region 5 with fail
      go_quiet (first | (go_at_call 29; exact Calls.quiet_of_same (HWh.out _ (HD0.out.drewN _).x.h)))
      have HD1 := hide (HD0.out.drewN nq)
      generalize W0.drewN nq = W1 at HD1 ⊢
      clear k0 k1 c1 HD0
      have k0 := HD1.out.k
      have k1 := HD1.out.i
      go_wp2_with (first
        | (go_at_call 36; (with_reducible refine (HEn.out _ HD1.out.p).mono ?_); intro e w2 ha; have HD2 := hide (HD1.out.stepP ha); obtain ⟨he, _, _⟩ := ha; subst he))
      go_ret
      exact HD2.out.de
set_option maxRecDepth 100000 in
set_option maxHeartbeats 4000000 in
theorem slot_leave (gp gq gh gx ga gb : Nat) (s : Sm) (I : Int) (w : World) (hp : PA w gp gq gh s) (hx : XA w gx ga gb s) :
    Calls Try.prog 23 #[.pointer (some ⟨gp, 0, none⟩), .pointer (some ⟨gx, 0, none⟩), .agg #[.int .i64 5, .int .i64 I]] w (DE gp gq gh gx ga gb (leftS s I) w) := by
  have HD0 := hide (da_new hp hx 5 I)
  have HEn := hide (fun W h => leave_any gp gq gh s I W h)
  rcases icase I with h0 | ⟨h0, h1⟩ | ⟨i, rfl, hi⟩
  · have e1 : inC s I = 3 := if_neg (by simp at h0; omega)
    have e2 : leftS s I = s := by
      unfold leftS
      rw [e1, if_neg (by omega)]
    rw [e1, e2] at HEn
    rw [e2]
    clear hp hx e1 e2
    go_enter Try.func23, Try.ntmps23
    go_upto_region 1 with fail
    generalize w.alloc (.cells #[.int .i64 5, .int .i64 I] 30) = W0 at HD0 ⊢
    have k0 := HD0.out.k
    have k1 := HD0.out.i
    go_wp2_with (first
      | (go_at_call 38; (with_reducible refine (HEn.out _ HD0.out.p).mono ?_); intro e w2 ha; have HD2 := hide (HD0.out.stepP ha); obtain ⟨he, _, _⟩ := ha; subst he))
    go_ret
    exact HD2.out.de
  · have e1 : inC s I = 3 := if_neg (by simp at h1; omega)
    have e2 : leftS s I = s := by
      unfold leftS
      rw [e1, if_neg (by omega)]
    rw [e1, e2] at HEn
    rw [e2]
    clear hp hx e1 e2
    go_enter Try.func23, Try.ntmps23
    go_upto_region 1 with fail
    generalize w.alloc (.cells #[.int .i64 5, .int .i64 I] 30) = W0 at HD0 ⊢
    have k0 := HD0.out.k
    have k1 := HD0.out.i
    go_wp2_with (first
      | (go_at_call 38; (with_reducible refine (HEn.out _ HD0.out.p).mono ?_); intro e w2 ha; have HD2 := hide (HD0.out.stepP ha); obtain ⟨he, _, _⟩ := ha; subst he))
    go_ret
    exact HD2.out.de
  · have i0 : decide ((0 : Int) ≤ (i : Int)) = true := by simp
    have i1 : decide ((i : Int) < 8) = true := by simp; omega
    have i2 : decide (i < 8) = true := by simp; omega
    have HWh := hide (fun W hW => where_any gb i s.L (len16 hx.ok.l (by omega)) W hW)
    have HLen := hide (len16 hx.ok.l (by omega))
    by_cases hw : wh s.L i = 4
    · have e1 : inC s (i : Int) = 7 := by
        unfold inC
        rw [if_pos (by omega), Int.toNat_natCast, if_neg (by omega)]
      have e2 : leftS s (i : Int) = s := by
        unfold leftS
        rw [e1, if_neg (by omega)]
      rw [e1, e2] at HEn
      rw [e2]
      have hv : whV s.L i = -1 := if_neg (by omega)
      have HI := hide hi
      rw [hv] at HWh
      clear hp hx e1 e2 hv hw hi
      go_enter Try.func23, Try.ntmps23
      go_upto_region 1 with fail
      generalize w.alloc (.cells #[.int .i64 5, .int .i64 (i : Int)] 30) = W0 at HD0 ⊢
      have k0 := HD0.out.k
      have k1 := HD0.out.i
      have c1 := HD0.out.x.c1
      go_upto_region 5 with fail
      go_quiet (first | (go_at_call 29; exact Calls.quiet_of_same (HWh.out _ (HD0.out.drewN _).x.h)))
      have HD1 := hide (HD0.out.drewN nq)
      generalize W0.drewN nq = W1 at HD1 ⊢
      clear k0 k1 c1 HD0
      have k0 := HD1.out.k
      have k1 := HD1.out.i
      go_wp2_with (first
        | (go_at_call 38; (with_reducible refine (HEn.out _ HD1.out.p).mono ?_); intro e w2 ha; have HD2 := hide (HD1.out.stepP ha); obtain ⟨he, _, _⟩ := ha; subst he))
      go_ret
      exact HD2.out.de
    · have e1 : inC s (i : Int) = 0 := by
        unfold inC
        rw [if_pos (by omega), Int.toNat_natCast, if_pos (wh_lt hw)]
      have e2 : leftS s (i : Int) = leaveS s i := by
        unfold leftS
        rw [e1, if_pos rfl, Int.toNat_natCast]
      rw [e1, e2] at HEn
      rw [e2]
      have hw4 := wh_lt hw
      have hv0 : whV s.L i = (wh s.L i : Int) := if_pos hw4
      obtain ⟨l, hl⟩ : ∃ l, wh s.L i = l := ⟨_, rfl⟩
      have hv : whV s.L i = (l : Int) := by rw [hv0, hl]
      have t0 : decide ((l : Int) < 0) = false := by simp
      have HW4 := hide hw4
      clear hv0 hw4 hl
      have HI := hide hi
      rw [hv] at HWh
      clear hp hx e1 e2 hv hw hi
      go_enter Try.func23, Try.ntmps23
      go_upto_region 1 with fail
      generalize w.alloc (.cells #[.int .i64 5, .int .i64 (i : Int)] 30) = W0 at HD0 ⊢
      have k0 := HD0.out.k
      have k1 := HD0.out.i
      have c1 := HD0.out.x.c1
      go_upto_region 5 with fail
      go_quiet (first | (go_at_call 29; exact Calls.quiet_of_same (HWh.out _ (HD0.out.drewN _).x.h)))
      have HD1 := hide (HD0.out.drewN nq)
      generalize W0.drewN nq = W1 at HD1 ⊢
      clear k0 k1 c1 HD0
      have k0 := HD1.out.k
      have k1 := HD1.out.i
      go_upto_region 18 with fail
      have HD3 : Hid (DA w gp gq gh gx ga gb 5 (i : Int) s s W1.drew) := hide (HD1.out.drewN 1)
      have c1 := HD1.out.x.c1
      have HX : Hid (Calls Try.prog 37 #[.pointer (some ⟨gb, 0, none⟩), .int .i64 (i : Int)] W1.drew (RE gb (rem s.L i) W1.drew)) := hide (rremove_any gb i s.L HLen.out W1.drew HD3.out.x.h)
      go_region_with (first
        | (go_at_call 37; (with_reducible refine HX.out.mono ?_); intro e w3 ha; have HD4 := hide (HD3.out.stepX (HD3.out.x.held (good_rem HD3.out.x.ok.l i) ha.2.1 ha.2.2) (ha.2.2.mono (fun _ _ => one_three'))); obtain ⟨he, _, _⟩ := ha; subst he))
      all_goals
        clear k0 k1 c1
        have k0 := HD4.out.k
        have k1 := HD4.out.i
        have fu := HD4.out.x.p.frozen (66 + i)
        have gl := HD4.out.x.p.lt
        have i8 : (i : Int) < 8 := by have := HI.out; omega
        have cu := HD4.out.x.p.at (i := 66 + i) (by omega)
        rw [pcell_used _ _ _ _ _ HI.out] at cu
        go_upto_region 19 with fail
        go_region
        have HD5 : Hid (DA w gp gq gh gx ga gb 5 (i : Int) s (leaveS s i) (w3.setCell ⟨gx, 66 + i, none⟩ (.bool false))) := hide (HD4.out.stepX (HD4.out.x.used HI.out false) ((chg_self gx (66 + i) _ w3).mono (fun _ _ => one_three0)))
        have HD6 := hide (HD5.out.drewN 1)
        have hd : (w3.setCell ⟨gx, 66 + i, none⟩ (.bool false)).drew = (w3.setCell ⟨gx, 66 + i, none⟩ (.bool false)).drewN 1 := rfl
        rw [hd]
        generalize (w3.setCell ⟨gx, 66 + i, none⟩ (.bool false)).drewN 1 = w5 at HD6 ⊢
        clear k0 k1 fu gl cu hd
        have k0 := HD6.out.k
        have k1 := HD6.out.i
        go_wp2_with (first
          | (go_at_call 38; (with_reducible refine (HEn.out _ HD6.out.p).mono ?_); intro e w6 ha; have HD7 := hide (HD6.out.stepP ha); obtain ⟨he, _, _⟩ := ha; subst he))
        go_ret
        exact HD7.out.de
set_option maxRecDepth 100000 in
set_option maxHeartbeats 4000000 in
theorem slot_use6 (gp gq gh gx ga gb : Nat) (s : Sm) (I : Int) (w : World) (hp : PA w gp gq gh s) (hx : XA w gx ga gb s) :
    Calls Try.prog 23 #[.pointer (some ⟨gp, 0, none⟩), .pointer (some ⟨gx, 0, none⟩), .agg #[.int .i64 6, .int .i64 I]] w (DE gp gq gh gx ga gb (usedS s I) w) := by
  have HD0 := hide (da_new hp hx 6 I)
  have HEn := hide (fun W h => use_any gp gq gh s I W h)
  rcases icase I with h0 | ⟨h0, h1⟩ | ⟨i, rfl, hi⟩
  · have e1 : inC s I = 3 := if_neg (by simp at h0; omega)
    have e2 : usedS s I = s := by
      unfold usedS
      rw [e1, if_neg (by omega)]
    rw [e1, e2] at HEn
    rw [e2]
    clear hp hx e1 e2
    go_enter Try.func23, Try.ntmps23
    go_upto_region 1 with fail
    generalize w.alloc (.cells #[.int .i64 6, .int .i64 I] 30) = W0 at HD0 ⊢
    have k0 := HD0.out.k
    have k1 := HD0.out.i
    go_wp2_with (first
      | (go_at_call 39; (with_reducible refine (HEn.out _ HD0.out.p).mono ?_); intro e w2 ha; have HD2 := hide (HD0.out.stepP ha); obtain ⟨he, _, _⟩ := ha; subst he))
    go_ret
    exact HD2.out.de
  · have e1 : inC s I = 3 := if_neg (by simp at h1; omega)
    have e2 : usedS s I = s := by
      unfold usedS
      rw [e1, if_neg (by omega)]
    rw [e1, e2] at HEn
    rw [e2]
    clear hp hx e1 e2
    go_enter Try.func23, Try.ntmps23
    go_upto_region 1 with fail
    generalize w.alloc (.cells #[.int .i64 6, .int .i64 I] 30) = W0 at HD0 ⊢
    have k0 := HD0.out.k
    have k1 := HD0.out.i
    go_wp2_with (first
      | (go_at_call 39; (with_reducible refine (HEn.out _ HD0.out.p).mono ?_); intro e w2 ha; have HD2 := hide (HD0.out.stepP ha); obtain ⟨he, _, _⟩ := ha; subst he))
    go_ret
    exact HD2.out.de
  · have i0 : decide ((0 : Int) ≤ (i : Int)) = true := by simp
    have i1 : decide ((i : Int) < 8) = true := by simp; omega
    have i2 : decide (i < 8) = true := by simp; omega
    have HWh := hide (fun W hW => where_any gb i s.L (len16 hx.ok.l (by omega)) W hW)
    have HLen := hide (len16 hx.ok.l (by omega))
    by_cases hw : wh s.L i = 4
    · have e1 : inC s (i : Int) = 7 := by
        unfold inC
        rw [if_pos (by omega), Int.toNat_natCast, if_neg (by omega)]
      have e2 : usedS s (i : Int) = s := by
        unfold usedS
        rw [e1, if_neg (by omega)]
      rw [e1, e2] at HEn
      rw [e2]
      have hv : whV s.L i = -1 := if_neg (by omega)
      have HI := hide hi
      rw [hv] at HWh
      clear hp hx e1 e2 hv hw hi
      go_enter Try.func23, Try.ntmps23
      go_upto_region 1 with fail
      generalize w.alloc (.cells #[.int .i64 6, .int .i64 (i : Int)] 30) = W0 at HD0 ⊢
      have k0 := HD0.out.k
      have k1 := HD0.out.i
      have c1 := HD0.out.x.c1
      go_upto_region 5 with fail
      go_quiet (first | (go_at_call 29; exact Calls.quiet_of_same (HWh.out _ (HD0.out.drewN _).x.h)))
      have HD1 := hide (HD0.out.drewN nq)
      generalize W0.drewN nq = W1 at HD1 ⊢
      clear k0 k1 c1 HD0
      have k0 := HD1.out.k
      have k1 := HD1.out.i
      go_wp2_with (first
        | (go_at_call 39; (with_reducible refine (HEn.out _ HD1.out.p).mono ?_); intro e w2 ha; have HD2 := hide (HD1.out.stepP ha); obtain ⟨he, _, _⟩ := ha; subst he))
      go_ret
      exact HD2.out.de
    · have e1 : inC s (i : Int) = 0 := by
        unfold inC
        rw [if_pos (by omega), Int.toNat_natCast, if_pos (wh_lt hw)]
      have e2 : usedS s (i : Int) = useS s i := by
        unfold usedS
        rw [e1, if_pos rfl, Int.toNat_natCast]
      rw [e1, e2] at HEn
      rw [e2]
      have hw4 := wh_lt hw
      have hv0 : whV s.L i = (wh s.L i : Int) := if_pos hw4
      obtain ⟨l, hl⟩ : ∃ l, wh s.L i = l := ⟨_, rfl⟩
      have hv : whV s.L i = (l : Int) := by rw [hv0, hl]
      have t0 : decide ((l : Int) < 0) = false := by simp
      have HW4 := hide hw4
      clear hv0 hw4 hl
      have HI := hide hi
      rw [hv] at HWh
      clear hp hx e1 e2 hv hw hi
      go_enter Try.func23, Try.ntmps23
      go_upto_region 1 with fail
      generalize w.alloc (.cells #[.int .i64 6, .int .i64 (i : Int)] 30) = W0 at HD0 ⊢
      have k0 := HD0.out.k
      have k1 := HD0.out.i
      have c1 := HD0.out.x.c1
      go_upto_region 5 with fail
      go_quiet (first | (go_at_call 29; exact Calls.quiet_of_same (HWh.out _ (HD0.out.drewN _).x.h)))
      have HD1 := hide (HD0.out.drewN nq)
      generalize W0.drewN nq = W1 at HD1 ⊢
      clear k0 k1 c1 HD0
      have k0 := HD1.out.k
      have k1 := HD1.out.i
      go_upto_region 22 with fail
      have HD3 : Hid (DA w gp gq gh gx ga gb 6 (i : Int) s s W1.drew) := hide (HD1.out.drewN 1)
      have c1 := HD1.out.x.c1
      have HX : Hid (Calls Try.prog 34 #[.pointer (some ⟨gb, 0, none⟩), .int .i64 (i : Int), .int .i64 0] W1.drew (RE gb (mv s.L i 0) W1.drew)) := hide (rmove_zero gb i s.L HW4.out HLen.out W1.drew HD3.out.x.h)
      go_region_with (first
        | (go_at_call 34; (with_reducible refine HX.out.mono ?_); intro e w3 ha; have HD4 := hide (HD3.out.stepX (HD3.out.x.held (good_mv HD3.out.x.ok.l HI.out 0) ha.2.1 ha.2.2) (ha.2.2.mono (fun _ _ => one_three'))); obtain ⟨he, _, _⟩ := ha; subst he))
      all_goals
        clear k0 k1 c1
        have k0 := HD4.out.k
        have k1 := HD4.out.i
        have fu := HD4.out.x.p.frozen (66 + i)
        have gl := HD4.out.x.p.lt
        have i8 : (i : Int) < 8 := by have := HI.out; omega
        have cu := HD4.out.x.p.at (i := 66 + i) (by omega)
        rw [pcell_used _ _ _ _ _ HI.out] at cu
        go_upto_region 23 with fail
        go_region
        have HD5 : Hid (DA w gp gq gh gx ga gb 6 (i : Int) s (useS s i) (w3.setCell ⟨gx, 66 + i, none⟩ (.bool true))) := hide (HD4.out.stepX (HD4.out.x.used HI.out true) ((chg_self gx (66 + i) _ w3).mono (fun _ _ => one_three0)))
        have HD6 := hide (HD5.out.drewN 1)
        have hd : (w3.setCell ⟨gx, 66 + i, none⟩ (.bool true)).drew = (w3.setCell ⟨gx, 66 + i, none⟩ (.bool true)).drewN 1 := rfl
        rw [hd]
        generalize (w3.setCell ⟨gx, 66 + i, none⟩ (.bool true)).drewN 1 = w5 at HD6 ⊢
        clear k0 k1 fu gl cu hd
        have k0 := HD6.out.k
        have k1 := HD6.out.i
        go_wp2_with (first
          | (go_at_call 39; (with_reducible refine (HEn.out _ HD6.out.p).mono ?_); intro e w6 ha; have HD7 := hide (HD6.out.stepP ha); obtain ⟨he, _, _⟩ := ha; subst he))
        go_ret
        exact HD7.out.de
set_option maxRecDepth 100000 in
set_option maxHeartbeats 4000000 in
theorem slot_use7 (gp gq gh gx ga gb : Nat) (s : Sm) (I : Int) (w : World) (hp : PA w gp gq gh s) (hx : XA w gx ga gb s) :
    Calls Try.prog 23 #[.pointer (some ⟨gp, 0, none⟩), .pointer (some ⟨gx, 0, none⟩), .agg #[.int .i64 7, .int .i64 I]] w (DE gp gq gh gx ga gb (usedS s I) w) := by
  have HD0 := hide (da_new hp hx 7 I)
  have HEn := hide (fun W h => use_any gp gq gh s I W h)
  rcases icase I with h0 | ⟨h0, h1⟩ | ⟨i, rfl, hi⟩
  · have e1 : inC s I = 3 := if_neg (by simp at h0; omega)
    have e2 : usedS s I = s := by
      unfold usedS
      rw [e1, if_neg (by omega)]
    rw [e1, e2] at HEn
    rw [e2]
    clear hp hx e1 e2
    go_enter Try.func23, Try.ntmps23
    go_upto_region 1 with fail
    generalize w.alloc (.cells #[.int .i64 7, .int .i64 I] 30) = W0 at HD0 ⊢
    have k0 := HD0.out.k
    have k1 := HD0.out.i
    go_wp2_with (first
      | (go_at_call 39; (with_reducible refine (HEn.out _ HD0.out.p).mono ?_); intro e w2 ha; have HD2 := hide (HD0.out.stepP ha); obtain ⟨he, _, _⟩ := ha; subst he))
    go_ret
    exact HD2.out.de
  · have e1 : inC s I = 3 := if_neg (by simp at h1; omega)
    have e2 : usedS s I = s := by
      unfold usedS
      rw [e1, if_neg (by omega)]
    rw [e1, e2] at HEn
    rw [e2]
    clear hp hx e1 e2
    go_enter Try.func23, Try.ntmps23
    go_upto_region 1 with fail
    generalize w.alloc (.cells #[.int .i64 7, .int .i64 I] 30) = W0 at HD0 ⊢
    have k0 := HD0.out.k
    have k1 := HD0.out.i
    go_wp2_with (first
      | (go_at_call 39; (with_reducible refine (HEn.out _ HD0.out.p).mono ?_); intro e w2 ha; have HD2 := hide (HD0.out.stepP ha); obtain ⟨he, _, _⟩ := ha; subst he))
    go_ret
    exact HD2.out.de
  · have i0 : decide ((0 : Int) ≤ (i : Int)) = true := by simp
    have i1 : decide ((i : Int) < 8) = true := by simp; omega
    have i2 : decide (i < 8) = true := by simp; omega
    have HWh := hide (fun W hW => where_any gb i s.L (len16 hx.ok.l (by omega)) W hW)
    have HLen := hide (len16 hx.ok.l (by omega))
    by_cases hw : wh s.L i = 4
    · have e1 : inC s (i : Int) = 7 := by
        unfold inC
        rw [if_pos (by omega), Int.toNat_natCast, if_neg (by omega)]
      have e2 : usedS s (i : Int) = s := by
        unfold usedS
        rw [e1, if_neg (by omega)]
      rw [e1, e2] at HEn
      rw [e2]
      have hv : whV s.L i = -1 := if_neg (by omega)
      have HI := hide hi
      rw [hv] at HWh
      clear hp hx e1 e2 hv hw hi
      go_enter Try.func23, Try.ntmps23
      go_upto_region 1 with fail
      generalize w.alloc (.cells #[.int .i64 7, .int .i64 (i : Int)] 30) = W0 at HD0 ⊢
      have k0 := HD0.out.k
      have k1 := HD0.out.i
      have c1 := HD0.out.x.c1
      go_upto_region 5 with fail
      go_quiet (first | (go_at_call 29; exact Calls.quiet_of_same (HWh.out _ (HD0.out.drewN _).x.h)))
      have HD1 := hide (HD0.out.drewN nq)
      generalize W0.drewN nq = W1 at HD1 ⊢
      clear k0 k1 c1 HD0
      have k0 := HD1.out.k
      have k1 := HD1.out.i
      go_wp2_with (first
        | (go_at_call 39; (with_reducible refine (HEn.out _ HD1.out.p).mono ?_); intro e w2 ha; have HD2 := hide (HD1.out.stepP ha); obtain ⟨he, _, _⟩ := ha; subst he))
      go_ret
      exact HD2.out.de
    · have e1 : inC s (i : Int) = 0 := by
        unfold inC
        rw [if_pos (by omega), Int.toNat_natCast, if_pos (wh_lt hw)]
      have e2 : usedS s (i : Int) = useS s i := by
        unfold usedS
        rw [e1, if_pos rfl, Int.toNat_natCast]
      rw [e1, e2] at HEn
      rw [e2]
      have hw4 := wh_lt hw
      have hv0 : whV s.L i = (wh s.L i : Int) := if_pos hw4
      obtain ⟨l, hl⟩ : ∃ l, wh s.L i = l := ⟨_, rfl⟩
      have hv : whV s.L i = (l : Int) := by rw [hv0, hl]
      have t0 : decide ((l : Int) < 0) = false := by simp
      have HW4 := hide hw4
      clear hv0 hw4 hl
      have HI := hide hi
      rw [hv] at HWh
      clear hp hx e1 e2 hv hw hi
      go_enter Try.func23, Try.ntmps23
      go_upto_region 1 with fail
      generalize w.alloc (.cells #[.int .i64 7, .int .i64 (i : Int)] 30) = W0 at HD0 ⊢
      have k0 := HD0.out.k
      have k1 := HD0.out.i
      have c1 := HD0.out.x.c1
      go_upto_region 5 with fail
      go_quiet (first | (go_at_call 29; exact Calls.quiet_of_same (HWh.out _ (HD0.out.drewN _).x.h)))
      have HD1 := hide (HD0.out.drewN nq)
      generalize W0.drewN nq = W1 at HD1 ⊢
      clear k0 k1 c1 HD0
      have k0 := HD1.out.k
      have k1 := HD1.out.i
      go_upto_region 22 with fail
      have HD3 : Hid (DA w gp gq gh gx ga gb 7 (i : Int) s s W1.drew) := hide (HD1.out.drewN 1)
      have c1 := HD1.out.x.c1
      have HX : Hid (Calls Try.prog 34 #[.pointer (some ⟨gb, 0, none⟩), .int .i64 (i : Int), .int .i64 0] W1.drew (RE gb (mv s.L i 0) W1.drew)) := hide (rmove_zero gb i s.L HW4.out HLen.out W1.drew HD3.out.x.h)
      go_region_with (first
        | (go_at_call 34; (with_reducible refine HX.out.mono ?_); intro e w3 ha; have HD4 := hide (HD3.out.stepX (HD3.out.x.held (good_mv HD3.out.x.ok.l HI.out 0) ha.2.1 ha.2.2) (ha.2.2.mono (fun _ _ => one_three'))); obtain ⟨he, _, _⟩ := ha; subst he))
      all_goals
        clear k0 k1 c1
        have k0 := HD4.out.k
        have k1 := HD4.out.i
        have fu := HD4.out.x.p.frozen (66 + i)
        have gl := HD4.out.x.p.lt
        have i8 : (i : Int) < 8 := by have := HI.out; omega
        have cu := HD4.out.x.p.at (i := 66 + i) (by omega)
        rw [pcell_used _ _ _ _ _ HI.out] at cu
        go_upto_region 23 with fail
        go_region
        have HD5 : Hid (DA w gp gq gh gx ga gb 7 (i : Int) s (useS s i) (w3.setCell ⟨gx, 66 + i, none⟩ (.bool true))) := hide (HD4.out.stepX (HD4.out.x.used HI.out true) ((chg_self gx (66 + i) _ w3).mono (fun _ _ => one_three0)))
        have HD6 := hide (HD5.out.drewN 1)
        have hd : (w3.setCell ⟨gx, 66 + i, none⟩ (.bool true)).drew = (w3.setCell ⟨gx, 66 + i, none⟩ (.bool true)).drewN 1 := rfl
        rw [hd]
        generalize (w3.setCell ⟨gx, 66 + i, none⟩ (.bool true)).drewN 1 = w5 at HD6 ⊢
        clear k0 k1 fu gl cu hd
        have k0 := HD6.out.k
        have k1 := HD6.out.i
        go_wp2_with (first
          | (go_at_call 39; (with_reducible refine (HEn.out _ HD6.out.p).mono ?_); intro e w6 ha; have HD7 := hide (HD6.out.stepP ha); obtain ⟨he, _, _⟩ := ha; subst he))
        go_ret
        exact HD7.out.de
end Go.Proofs.Ytadlfebpaijbhaa.Lv
