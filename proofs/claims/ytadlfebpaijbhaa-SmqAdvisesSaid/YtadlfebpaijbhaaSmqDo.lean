/- One call of both: the law's 'do', walked. -/
import Derived.Test.YtadlfebpaijbhaaSmqSlot
namespace Go.Proofs.Ytadlfebpaijbhaa.Lv
open Go.RowKit Go.Proofs.Ytadlfebpaijbhaa.W
set_option linter.unusedVariables false
set_option linter.unusedSimpArgs false

/-- The state behind a call. -/
def stepS (s : Sm) (K I : Int) : Sm :=
  if K = 0 ∨ K = 1 ∨ K = 2 ∨ K = 3 then (if I < 0 ∨ 15 < I then s else hitS s I.toNat)
  else if K = 4 then { s with L := enterR s I } else if K = 5 then leftS s I else if K = 6 ∨ K = 7 then usedS s I else tickS s
theorem hcase (I : Int) : decide (I < 0) = true ∨ (decide (I < 0) = false ∧ decide (15 < I) = true) ∨ (∃ i : Nat, I = (i : Int) ∧ i < 16) := by
  by_cases h0 : I < 0
  · exact .inl (by simp [h0])
  · by_cases h1 : 15 < I
    · exact .inr (.inl ⟨by simp [h0], by simp [h1]⟩)
    · exact .inr (.inr ⟨I.toNat, by omega, by omega⟩)
theorem DA.doneX {w wr w' : World} {gp gq gh gx ga gb : Nat} {K I : Int} {s s' sx : Sm} {e : Ending} (h : DA w gp gq gh gx ga gb K I s sx wr) (hx : XE gx ga gb s' wr e w') : DA w gp gq gh gx ga gb K I s s' w' := h.stepX hx.2.1 hx.2.2
set_option maxRecDepth 100000 in
set_option maxHeartbeats 4000000 in
theorem do_hit0 (gp gq gh gx ga gb : Nat) (s : Sm) (I : Int) (w : World) (hp : PA w gp gq gh s) (hx : XA w gx ga gb s) :
    Calls Try.prog 9 #[.pointer (some ⟨gp, 0, none⟩), .pointer (some ⟨gx, 0, none⟩), .agg #[.int .i64 0, .int .i64 I]] w (DE gp gq gh gx ga gb (if I < 0 ∨ 15 < I then s else hitS s I.toNat) w) := by
  have HD0 := hide (da_new hp hx 0 I)
  clear hp hx
  rcases hcase I with h0 | ⟨h0, h1⟩ | ⟨i, rfl, hi⟩
  · have hI : I < 0 ∨ 15 < I := .inl (by simpa using h0)
    rw [if_pos hI]
    have HEn := hide (fun W h => hit_out gp gq gh s I (by omega) W h)
    clear hI
    go_enter Try.func9, Try.ntmps9
    go_upto_region 1 with fail
    generalize w.alloc (.cells #[.int .i64 0, .int .i64 I] 30) = W0 at HD0 ⊢
    have k0 := HD0.out.k
    have k1 := HD0.out.i
    go_wp2_with (first
      | (go_at_call 20; (with_reducible refine (HEn.out _ HD0.out.p).mono ?_); intro e w2 ha; have HD2 := hide (HD0.out.stepP ha); obtain ⟨he, _, _⟩ := ha; subst he; clear k0 k1; have k0 := HD2.out.k; have k1 := HD2.out.i))
    go_ret
    exact HD2.out.de
  · have hI : I < 0 ∨ 15 < I := .inr (by simpa using h1)
    rw [if_pos hI]
    have HEn := hide (fun W h => hit_out gp gq gh s I (by omega) W h)
    clear hI
    go_enter Try.func9, Try.ntmps9
    go_upto_region 1 with fail
    generalize w.alloc (.cells #[.int .i64 0, .int .i64 I] 30) = W0 at HD0 ⊢
    have k0 := HD0.out.k
    have k1 := HD0.out.i
    go_wp2_with (first
      | (go_at_call 20; (with_reducible refine (HEn.out _ HD0.out.p).mono ?_); intro e w2 ha; have HD2 := hide (HD0.out.stepP ha); obtain ⟨he, _, _⟩ := ha; subst he; clear k0 k1; have k0 := HD2.out.k; have k1 := HD2.out.i))
    go_ret
    exact HD2.out.de
  · rw [if_neg (by omega), Int.toNat_natCast]
    have i0 : decide ((i : Int) < 0) = false := by simp
    have i1 : decide (15 < (i : Int)) = false := by simp; omega
    have i2 : decide (15 < i) = false := by simp; omega
    have HEn := hide (fun W h => hit_any gp gq gh s i hi W h)
    have HXn := hide (fun W h => rhit_any gx ga gb s i hi W h)
    clear hi
    go_enter Try.func9, Try.ntmps9
    go_upto_region 1 with fail
    generalize w.alloc (.cells #[.int .i64 0, .int .i64 (i : Int)] 30) = W0 at HD0 ⊢
    have k0 := HD0.out.k
    have k1 := HD0.out.i
    go_wp2_with (first
      | (go_at_call 20; (with_reducible refine (HEn.out _ HD0.out.p).mono ?_); intro e w2 ha; have HD2 := hide (HD0.out.stepP ha); obtain ⟨he, _, _⟩ := ha; subst he; clear k0 k1; have k0 := HD2.out.k; have k1 := HD2.out.i)
      | (go_at_call 22; (with_reducible refine (HXn.out _ HD2.out.x).mono ?_); intro e w3 ha; have HD3 := hide (HD2.out.doneX ha); obtain ⟨he, _, _⟩ := ha; subst he; clear k0 k1; have k0 := HD3.out.k; have k1 := HD3.out.i))
    go_ret
    exact HD3.out.de
set_option maxRecDepth 100000 in
set_option maxHeartbeats 4000000 in
theorem do_hit1 (gp gq gh gx ga gb : Nat) (s : Sm) (I : Int) (w : World) (hp : PA w gp gq gh s) (hx : XA w gx ga gb s) :
    Calls Try.prog 9 #[.pointer (some ⟨gp, 0, none⟩), .pointer (some ⟨gx, 0, none⟩), .agg #[.int .i64 1, .int .i64 I]] w (DE gp gq gh gx ga gb (if I < 0 ∨ 15 < I then s else hitS s I.toNat) w) := by
  have HD0 := hide (da_new hp hx 1 I)
  clear hp hx
  rcases hcase I with h0 | ⟨h0, h1⟩ | ⟨i, rfl, hi⟩
  · have hI : I < 0 ∨ 15 < I := .inl (by simpa using h0)
    rw [if_pos hI]
    have HEn := hide (fun W h => hit_out gp gq gh s I (by omega) W h)
    clear hI
    go_enter Try.func9, Try.ntmps9
    go_upto_region 1 with fail
    generalize w.alloc (.cells #[.int .i64 1, .int .i64 I] 30) = W0 at HD0 ⊢
    have k0 := HD0.out.k
    have k1 := HD0.out.i
    go_wp2_with (first
      | (go_at_call 20; (with_reducible refine (HEn.out _ HD0.out.p).mono ?_); intro e w2 ha; have HD2 := hide (HD0.out.stepP ha); obtain ⟨he, _, _⟩ := ha; subst he; clear k0 k1; have k0 := HD2.out.k; have k1 := HD2.out.i))
    go_ret
    exact HD2.out.de
  · have hI : I < 0 ∨ 15 < I := .inr (by simpa using h1)
    rw [if_pos hI]
    have HEn := hide (fun W h => hit_out gp gq gh s I (by omega) W h)
    clear hI
    go_enter Try.func9, Try.ntmps9
    go_upto_region 1 with fail
    generalize w.alloc (.cells #[.int .i64 1, .int .i64 I] 30) = W0 at HD0 ⊢
    have k0 := HD0.out.k
    have k1 := HD0.out.i
    go_wp2_with (first
      | (go_at_call 20; (with_reducible refine (HEn.out _ HD0.out.p).mono ?_); intro e w2 ha; have HD2 := hide (HD0.out.stepP ha); obtain ⟨he, _, _⟩ := ha; subst he; clear k0 k1; have k0 := HD2.out.k; have k1 := HD2.out.i))
    go_ret
    exact HD2.out.de
  · rw [if_neg (by omega), Int.toNat_natCast]
    have i0 : decide ((i : Int) < 0) = false := by simp
    have i1 : decide (15 < (i : Int)) = false := by simp; omega
    have i2 : decide (15 < i) = false := by simp; omega
    have HEn := hide (fun W h => hit_any gp gq gh s i hi W h)
    have HXn := hide (fun W h => rhit_any gx ga gb s i hi W h)
    clear hi
    go_enter Try.func9, Try.ntmps9
    go_upto_region 1 with fail
    generalize w.alloc (.cells #[.int .i64 1, .int .i64 (i : Int)] 30) = W0 at HD0 ⊢
    have k0 := HD0.out.k
    have k1 := HD0.out.i
    go_wp2_with (first
      | (go_at_call 20; (with_reducible refine (HEn.out _ HD0.out.p).mono ?_); intro e w2 ha; have HD2 := hide (HD0.out.stepP ha); obtain ⟨he, _, _⟩ := ha; subst he; clear k0 k1; have k0 := HD2.out.k; have k1 := HD2.out.i)
      | (go_at_call 22; (with_reducible refine (HXn.out _ HD2.out.x).mono ?_); intro e w3 ha; have HD3 := hide (HD2.out.doneX ha); obtain ⟨he, _, _⟩ := ha; subst he; clear k0 k1; have k0 := HD3.out.k; have k1 := HD3.out.i))
    go_ret
    exact HD3.out.de
set_option maxRecDepth 100000 in
set_option maxHeartbeats 4000000 in
theorem do_hit2 (gp gq gh gx ga gb : Nat) (s : Sm) (I : Int) (w : World) (hp : PA w gp gq gh s) (hx : XA w gx ga gb s) :
    Calls Try.prog 9 #[.pointer (some ⟨gp, 0, none⟩), .pointer (some ⟨gx, 0, none⟩), .agg #[.int .i64 2, .int .i64 I]] w (DE gp gq gh gx ga gb (if I < 0 ∨ 15 < I then s else hitS s I.toNat) w) := by
  have HD0 := hide (da_new hp hx 2 I)
  clear hp hx
  rcases hcase I with h0 | ⟨h0, h1⟩ | ⟨i, rfl, hi⟩
  · have hI : I < 0 ∨ 15 < I := .inl (by simpa using h0)
    rw [if_pos hI]
    have HEn := hide (fun W h => hit_out gp gq gh s I (by omega) W h)
    clear hI
    go_enter Try.func9, Try.ntmps9
    go_upto_region 1 with fail
    generalize w.alloc (.cells #[.int .i64 2, .int .i64 I] 30) = W0 at HD0 ⊢
    have k0 := HD0.out.k
    have k1 := HD0.out.i
    go_wp2_with (first
      | (go_at_call 20; (with_reducible refine (HEn.out _ HD0.out.p).mono ?_); intro e w2 ha; have HD2 := hide (HD0.out.stepP ha); obtain ⟨he, _, _⟩ := ha; subst he; clear k0 k1; have k0 := HD2.out.k; have k1 := HD2.out.i))
    go_ret
    exact HD2.out.de
  · have hI : I < 0 ∨ 15 < I := .inr (by simpa using h1)
    rw [if_pos hI]
    have HEn := hide (fun W h => hit_out gp gq gh s I (by omega) W h)
    clear hI
    go_enter Try.func9, Try.ntmps9
    go_upto_region 1 with fail
    generalize w.alloc (.cells #[.int .i64 2, .int .i64 I] 30) = W0 at HD0 ⊢
    have k0 := HD0.out.k
    have k1 := HD0.out.i
    go_wp2_with (first
      | (go_at_call 20; (with_reducible refine (HEn.out _ HD0.out.p).mono ?_); intro e w2 ha; have HD2 := hide (HD0.out.stepP ha); obtain ⟨he, _, _⟩ := ha; subst he; clear k0 k1; have k0 := HD2.out.k; have k1 := HD2.out.i))
    go_ret
    exact HD2.out.de
  · rw [if_neg (by omega), Int.toNat_natCast]
    have i0 : decide ((i : Int) < 0) = false := by simp
    have i1 : decide (15 < (i : Int)) = false := by simp; omega
    have i2 : decide (15 < i) = false := by simp; omega
    have HEn := hide (fun W h => hit_any gp gq gh s i hi W h)
    have HXn := hide (fun W h => rhit_any gx ga gb s i hi W h)
    clear hi
    go_enter Try.func9, Try.ntmps9
    go_upto_region 1 with fail
    generalize w.alloc (.cells #[.int .i64 2, .int .i64 (i : Int)] 30) = W0 at HD0 ⊢
    have k0 := HD0.out.k
    have k1 := HD0.out.i
    go_wp2_with (first
      | (go_at_call 20; (with_reducible refine (HEn.out _ HD0.out.p).mono ?_); intro e w2 ha; have HD2 := hide (HD0.out.stepP ha); obtain ⟨he, _, _⟩ := ha; subst he; clear k0 k1; have k0 := HD2.out.k; have k1 := HD2.out.i)
      | (go_at_call 22; (with_reducible refine (HXn.out _ HD2.out.x).mono ?_); intro e w3 ha; have HD3 := hide (HD2.out.doneX ha); obtain ⟨he, _, _⟩ := ha; subst he; clear k0 k1; have k0 := HD3.out.k; have k1 := HD3.out.i))
    go_ret
    exact HD3.out.de
set_option maxRecDepth 100000 in
set_option maxHeartbeats 4000000 in
theorem do_hit3 (gp gq gh gx ga gb : Nat) (s : Sm) (I : Int) (w : World) (hp : PA w gp gq gh s) (hx : XA w gx ga gb s) :
    Calls Try.prog 9 #[.pointer (some ⟨gp, 0, none⟩), .pointer (some ⟨gx, 0, none⟩), .agg #[.int .i64 3, .int .i64 I]] w (DE gp gq gh gx ga gb (if I < 0 ∨ 15 < I then s else hitS s I.toNat) w) := by
  have HD0 := hide (da_new hp hx 3 I)
  clear hp hx
  rcases hcase I with h0 | ⟨h0, h1⟩ | ⟨i, rfl, hi⟩
  · have hI : I < 0 ∨ 15 < I := .inl (by simpa using h0)
    rw [if_pos hI]
    have HEn := hide (fun W h => hit_out gp gq gh s I (by omega) W h)
    clear hI
    go_enter Try.func9, Try.ntmps9
    go_upto_region 1 with fail
    generalize w.alloc (.cells #[.int .i64 3, .int .i64 I] 30) = W0 at HD0 ⊢
    have k0 := HD0.out.k
    have k1 := HD0.out.i
    go_wp2_with (first
      | (go_at_call 20; (with_reducible refine (HEn.out _ HD0.out.p).mono ?_); intro e w2 ha; have HD2 := hide (HD0.out.stepP ha); obtain ⟨he, _, _⟩ := ha; subst he; clear k0 k1; have k0 := HD2.out.k; have k1 := HD2.out.i))
    go_ret
    exact HD2.out.de
  · have hI : I < 0 ∨ 15 < I := .inr (by simpa using h1)
    rw [if_pos hI]
    have HEn := hide (fun W h => hit_out gp gq gh s I (by omega) W h)
    clear hI
    go_enter Try.func9, Try.ntmps9
    go_upto_region 1 with fail
    generalize w.alloc (.cells #[.int .i64 3, .int .i64 I] 30) = W0 at HD0 ⊢
    have k0 := HD0.out.k
    have k1 := HD0.out.i
    go_wp2_with (first
      | (go_at_call 20; (with_reducible refine (HEn.out _ HD0.out.p).mono ?_); intro e w2 ha; have HD2 := hide (HD0.out.stepP ha); obtain ⟨he, _, _⟩ := ha; subst he; clear k0 k1; have k0 := HD2.out.k; have k1 := HD2.out.i))
    go_ret
    exact HD2.out.de
  · rw [if_neg (by omega), Int.toNat_natCast]
    have i0 : decide ((i : Int) < 0) = false := by simp
    have i1 : decide (15 < (i : Int)) = false := by simp; omega
    have i2 : decide (15 < i) = false := by simp; omega
    have HEn := hide (fun W h => hit_any gp gq gh s i hi W h)
    have HXn := hide (fun W h => rhit_any gx ga gb s i hi W h)
    clear hi
    go_enter Try.func9, Try.ntmps9
    go_upto_region 1 with fail
    generalize w.alloc (.cells #[.int .i64 3, .int .i64 (i : Int)] 30) = W0 at HD0 ⊢
    have k0 := HD0.out.k
    have k1 := HD0.out.i
    go_wp2_with (first
      | (go_at_call 20; (with_reducible refine (HEn.out _ HD0.out.p).mono ?_); intro e w2 ha; have HD2 := hide (HD0.out.stepP ha); obtain ⟨he, _, _⟩ := ha; subst he; clear k0 k1; have k0 := HD2.out.k; have k1 := HD2.out.i)
      | (go_at_call 22; (with_reducible refine (HXn.out _ HD2.out.x).mono ?_); intro e w3 ha; have HD3 := hide (HD2.out.doneX ha); obtain ⟨he, _, _⟩ := ha; subst he; clear k0 k1; have k0 := HD3.out.k; have k1 := HD3.out.i))
    go_ret
    exact HD3.out.de
set_option maxRecDepth 100000 in
set_option maxHeartbeats 4000000 in
theorem do_slot4 (gp gq gh gx ga gb : Nat) (s : Sm) (I : Int) (w : World) (hp : PA w gp gq gh s) (hx : XA w gx ga gb s) :
    Calls Try.prog 9 #[.pointer (some ⟨gp, 0, none⟩), .pointer (some ⟨gx, 0, none⟩), .agg #[.int .i64 4, .int .i64 I]] w (DE gp gq gh gx ga gb { s with L := enterR s I } w) := by
  have HD0 := hide (da_new hp hx 4 I)
  have HS := hide (fun W hp hx => slot_enter gp gq gh gx ga gb s I W hp hx)
  obtain ⟨s', hs'⟩ : ∃ s', { s with L := enterR s I } = s' := ⟨_, rfl⟩
  rw [hs'] at HS ⊢
  clear hp hx hs'
  have hlt : w.heap.size < w.heap.size + 1 := by omega
  go_enter Try.func9, Try.ntmps9
  go_upto_region 1 with fail
  generalize w.alloc (.cells #[.int .i64 4, .int .i64 I] 30) = W0 at HD0 ⊢
  have k0 := HD0.out.k
  have k1 := HD0.out.i
  have ba := HD0.out.a
  go_upto_region 15 with fail
  go_wp2_with (first
    | (with_reducible refine wpList_load_all rfl 30 (.tmp 5) rfl _ _ ba ?_)
    | (go_at_call 23; (with_reducible refine (HS.out _ HD0.out.p HD0.out.x).mono ?_); intro e w2 ha; have H1 := hide ha.2; have he := ha.1; subst he; clear ha))
  go_ret
  exact ⟨rfl, H1.out.1, H1.out.2.1, HD0.out.chg.trans H1.out.2.2 (fun _ _ h => h)⟩
set_option maxRecDepth 100000 in
set_option maxHeartbeats 4000000 in
theorem do_slot5 (gp gq gh gx ga gb : Nat) (s : Sm) (I : Int) (w : World) (hp : PA w gp gq gh s) (hx : XA w gx ga gb s) :
    Calls Try.prog 9 #[.pointer (some ⟨gp, 0, none⟩), .pointer (some ⟨gx, 0, none⟩), .agg #[.int .i64 5, .int .i64 I]] w (DE gp gq gh gx ga gb (leftS s I) w) := by
  have HD0 := hide (da_new hp hx 5 I)
  have HS := hide (fun W hp hx => slot_leave gp gq gh gx ga gb s I W hp hx)
  obtain ⟨s', hs'⟩ : ∃ s', (leftS s I) = s' := ⟨_, rfl⟩
  rw [hs'] at HS ⊢
  clear hp hx hs'
  have hlt : w.heap.size < w.heap.size + 1 := by omega
  go_enter Try.func9, Try.ntmps9
  go_upto_region 1 with fail
  generalize w.alloc (.cells #[.int .i64 5, .int .i64 I] 30) = W0 at HD0 ⊢
  have k0 := HD0.out.k
  have k1 := HD0.out.i
  have ba := HD0.out.a
  go_upto_region 15 with fail
  go_wp2_with (first
    | (with_reducible refine wpList_load_all rfl 30 (.tmp 5) rfl _ _ ba ?_)
    | (go_at_call 23; (with_reducible refine (HS.out _ HD0.out.p HD0.out.x).mono ?_); intro e w2 ha; have H1 := hide ha.2; have he := ha.1; subst he; clear ha))
  go_ret
  exact ⟨rfl, H1.out.1, H1.out.2.1, HD0.out.chg.trans H1.out.2.2 (fun _ _ h => h)⟩
set_option maxRecDepth 100000 in
set_option maxHeartbeats 4000000 in
theorem do_slot6 (gp gq gh gx ga gb : Nat) (s : Sm) (I : Int) (w : World) (hp : PA w gp gq gh s) (hx : XA w gx ga gb s) :
    Calls Try.prog 9 #[.pointer (some ⟨gp, 0, none⟩), .pointer (some ⟨gx, 0, none⟩), .agg #[.int .i64 6, .int .i64 I]] w (DE gp gq gh gx ga gb (usedS s I) w) := by
  have HD0 := hide (da_new hp hx 6 I)
  have HS := hide (fun W hp hx => slot_use6 gp gq gh gx ga gb s I W hp hx)
  obtain ⟨s', hs'⟩ : ∃ s', (usedS s I) = s' := ⟨_, rfl⟩
  rw [hs'] at HS ⊢
  clear hp hx hs'
  have hlt : w.heap.size < w.heap.size + 1 := by omega
  go_enter Try.func9, Try.ntmps9
  go_upto_region 1 with fail
  generalize w.alloc (.cells #[.int .i64 6, .int .i64 I] 30) = W0 at HD0 ⊢
  have k0 := HD0.out.k
  have k1 := HD0.out.i
  have ba := HD0.out.a
  go_upto_region 15 with fail
  go_wp2_with (first
    | (with_reducible refine wpList_load_all rfl 30 (.tmp 5) rfl _ _ ba ?_)
    | (go_at_call 23; (with_reducible refine (HS.out _ HD0.out.p HD0.out.x).mono ?_); intro e w2 ha; have H1 := hide ha.2; have he := ha.1; subst he; clear ha))
  go_ret
  exact ⟨rfl, H1.out.1, H1.out.2.1, HD0.out.chg.trans H1.out.2.2 (fun _ _ h => h)⟩
set_option maxRecDepth 100000 in
set_option maxHeartbeats 4000000 in
theorem do_slot7 (gp gq gh gx ga gb : Nat) (s : Sm) (I : Int) (w : World) (hp : PA w gp gq gh s) (hx : XA w gx ga gb s) :
    Calls Try.prog 9 #[.pointer (some ⟨gp, 0, none⟩), .pointer (some ⟨gx, 0, none⟩), .agg #[.int .i64 7, .int .i64 I]] w (DE gp gq gh gx ga gb (usedS s I) w) := by
  have HD0 := hide (da_new hp hx 7 I)
  have HS := hide (fun W hp hx => slot_use7 gp gq gh gx ga gb s I W hp hx)
  obtain ⟨s', hs'⟩ : ∃ s', (usedS s I) = s' := ⟨_, rfl⟩
  rw [hs'] at HS ⊢
  clear hp hx hs'
  have hlt : w.heap.size < w.heap.size + 1 := by omega
  go_enter Try.func9, Try.ntmps9
  go_upto_region 1 with fail
  generalize w.alloc (.cells #[.int .i64 7, .int .i64 I] 30) = W0 at HD0 ⊢
  have k0 := HD0.out.k
  have k1 := HD0.out.i
  have ba := HD0.out.a
  go_upto_region 15 with fail
  go_wp2_with (first
    | (with_reducible refine wpList_load_all rfl 30 (.tmp 5) rfl _ _ ba ?_)
    | (go_at_call 23; (with_reducible refine (HS.out _ HD0.out.p HD0.out.x).mono ?_); intro e w2 ha; have H1 := hide ha.2; have he := ha.1; subst he; clear ha))
  go_ret
  exact ⟨rfl, H1.out.1, H1.out.2.1, HD0.out.chg.trans H1.out.2.2 (fun _ _ h => h)⟩
end Go.Proofs.Ytadlfebpaijbhaa.Lv
