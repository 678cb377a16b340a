/- The document's policy in memory; its Hit. -/
import Derived.Test.YtadlfebpaijbhaaSmqEnd
import Derived.Test.YtadlfebpaijbhaaSmqRBeat
namespace Go.Proofs.Ytadlfebpaijbhaa.Lv
open Go.RowKit Go.Proofs.Ytadlfebpaijbhaa.W
set_option linter.unusedVariables false
set_option linter.unusedSimpArgs false

theorem RefAt.chgS {S : Nat → Prop} {w w' : World} {g : Nat} {R : Nat → List Nat} (h : RefAt w g R) (hc : Chg S w w') (hg : ¬ S g) (hi : ∀ k cs, Blk w k 3 cs → ¬ S k) : RefAt w' g R := by
  obtain ⟨V, h⟩ := h
  exact ⟨V, h.blk.chg hc hg, fun l hl => (h.row l hl).keep (fun b cs hb => hb.chg hc (hi b cs hb))⟩
theorem RefAt.blk_ {w : World} {g : Nat} {R : Nat → List Nat} (h : RefAt w g R) : ∃ cs, Blk w g 59 cs := by
  obtain ⟨V, h⟩ := h
  exact ⟨_, h.blk⟩
theorem not_one {w : World} {g : Nat} {t : TypeId} {cs : Array Value} (h : Blk w g t cs) (ht : 3 ≠ t) : ∀ k cs', Blk w k 3 cs' → ¬ one g k := fun k cs' hk (e : k = g) => (Blk.ne_ hk h ht) e
/-- The document's policy in memory. -/
structure XA (w : World) (gx ga gb : Nat) (s : Sm) : Prop where
  p : Blk w gx 61 (row 75 (pcell ga gb s.C s.U s.t))
  q : RefAt w ga s.H
  h : RefAt w gb s.L
  ne : ga ≠ gb
  ok : Ok s
  t : s.t ≤ 1000000
theorem XA.na {w : World} {gx ga gb : Nat} {s : Sm} (h : XA w gx ga gb s) : gx ≠ ga := by
  obtain ⟨cs, hc⟩ := h.q.blk_
  exact h.p.ne_ hc (by decide)
theorem XA.nb {w : World} {gx ga gb : Nat} {s : Sm} (h : XA w gx ga gb s) : gx ≠ gb := by
  obtain ⟨cs, hc⟩ := h.h.blk_
  exact h.p.ne_ hc (by decide)
theorem XA.c0 {w : World} {gx ga gb : Nat} {s : Sm} (h : XA w gx ga gb s) : w.cell? ⟨gx, 0, none⟩ = some (.pointer (some ⟨ga, 0, none⟩)) := h.p.at (i := 0) (by omega)
theorem XA.c1 {w : World} {gx ga gb : Nat} {s : Sm} (h : XA w gx ga gb s) : w.cell? ⟨gx, 1, none⟩ = some (.pointer (some ⟨gb, 0, none⟩)) := h.p.at (i := 1) (by omega)
theorem XA.ct {w : World} {gx ga gb : Nat} {s : Sm} (h : XA w gx ga gb s) : w.cell? ⟨gx, 74, none⟩ = some (.int .i64 (s.t : Int)) := h.p.at (i := 74) (by omega)
theorem XA.chg {S : Nat → Prop} {w w' : World} {gx ga gb : Nat} {s : Sm} (h : XA w gx ga gb s) (hc : Chg S w w') (h1 : ¬ S gx) (h2 : ¬ S ga) (h3 : ¬ S gb) (hi : ∀ k cs, Blk w k 3 cs → ¬ S k) : XA w' gx ga gb s := ⟨h.p.chg hc h1, h.q.chgS hc h2 hi, h.h.chgS hc h3 hi, h.ne, h.ok, h.t⟩
theorem XA.later {w w' : World} {gx ga gb : Nat} {s : Sm} (hb : Below w.heap.size w w') (h : XA w gx ga gb s) : XA w' gx ga gb s := h.chg (Chg.of_below (S := none1) hb) id id id (fun _ _ _ => id)
theorem XA.drewN {w : World} {gx ga gb : Nat} {s : Sm} (h : XA w gx ga gb s) (k : Nat) : XA (w.drewN k) gx ga gb s := h.chg ((Chg.refl none1 w).drewN k) id id id (fun _ _ _ => id)
theorem XA.hot {w w' : World} {gx ga gb : Nat} {s : Sm} (h : XA w gx ga gb s) {R : Nat → List Nat} (hg : Good 16 R) (hq : RefAt w' ga R) (hc : Chg (one ga) w w') : XA w' gx ga gb { s with H := R } := by
  obtain ⟨cs, hb⟩ := h.q.blk_
  exact ⟨h.p.chg hc (fun (e : gx = ga) => h.na e), hq, h.h.chgS hc (fun (e : gb = ga) => h.ne e.symm) (not_one hb (by decide)), h.ne, ⟨hg, h.ok.l, h.ok.c⟩, h.t⟩
theorem XA.held {w w' : World} {gx ga gb : Nat} {s : Sm} (h : XA w gx ga gb s) {R : Nat → List Nat} (hg : Good 8 R) (hq : RefAt w' gb R) (hc : Chg (one gb) w w') : XA w' gx ga gb { s with L := R } := by
  obtain ⟨cs, hb⟩ := h.h.blk_
  exact ⟨h.p.chg hc (fun (e : gx = gb) => h.nb e), h.q.chgS hc (fun (e : ga = gb) => h.ne e) (not_one hb (by decide)), hq, h.ne, ⟨h.ok.h, hg, h.ok.c⟩, h.t⟩
theorem XA.self {w w' : World} {gx ga gb : Nat} {s s' : Sm} (h : XA w gx ga gb s) (hc : Chg (one gx) w w') (hp : Blk w' gx 61 (row 75 (pcell ga gb s'.C s'.U s'.t))) (e1 : s'.H = s.H) (e2 : s'.L = s.L) (ok : Ok s') (ht : s'.t ≤ 1000000) : XA w' gx ga gb s' :=
  ⟨hp, by rw [e1]; exact h.q.chgS hc (fun (e : ga = gx) => h.na e.symm) (not_one h.p (by decide)), by rw [e2]; exact h.h.chgS hc (fun (e : gb = gx) => h.nb e.symm) (not_one h.p (by decide)), h.ne, ok, ht⟩
theorem XA.used {w : World} {gx ga gb : Nat} {s : Sm} (h : XA w gx ga gb s) {i : Nat} (hi : i < 8) (x : Bool) : XA (w.setCell ⟨gx, 66 + i, none⟩ (.bool x)) gx ga gb { s with U := upd s.U i x } := by
  refine h.self (chg_self gx (66 + i) (.bool x) w) ?_ rfl rfl ⟨h.ok.h, h.ok.l, h.ok.c⟩ h.t
  have := h.p.upd (66 + i) (.bool x)
  rw [row_upd_used _ _ _ _ _ hi] at this
  exact this
theorem XA.count {w : World} {gx ga gb : Nat} {s : Sm} (h : XA w gx ga gb s) {c : Nat} (hc64 : c < 64) {x : Nat} (hx : x ≤ 1048576) : XA (w.setCell ⟨gx, 2 + c, none⟩ (.int .i64 (x : Int))) gx ga gb { s with C := upd s.C c x } := by
  refine h.self (chg_self gx (2 + c) (.int .i64 (x : Int)) w) ?_ rfl rfl ⟨h.ok.h, h.ok.l, fun j => ?_⟩ h.t
  · have := h.p.upd (2 + c) (.int .i64 (x : Int))
    rw [row_upd_count _ _ _ _ _ hc64] at this
    exact this
  · show upd s.C c x j ≤ _
    unfold upd
    split
    · exact hx
    · exact h.ok.c j
theorem XA.clock {w : World} {gx ga gb : Nat} {s : Sm} (h : XA w gx ga gb s) {x : Nat} (hx : x ≤ 1000000) : XA (w.setCell ⟨gx, 74, none⟩ (.int .i64 (x : Int))) gx ga gb { s with t := x } := by
  refine h.self (chg_self gx 74 (.int .i64 (x : Int)) w) ?_ rfl rfl ⟨h.ok.h, h.ok.l, h.ok.c⟩ hx
  have := h.p.upd 74 (.int .i64 (x : Int))
  rw [row_upd_clock] at this
  exact this
theorem XA.zeroC {w : World} {gx ga gb : Nat} {s : Sm} (h : XA w gx ga gb s) : XA (w.setRow gx (row 75 (over (pcell ga gb s.C s.U s.t) 2 64 fun _ => .int .i64 0))) gx ga gb { s with C := fun _ => 0 } := by
  refine h.self ((Chg.refl (one gx) w).setRow (.inl rfl) _) ?_ rfl rfl ⟨h.ok.h, h.ok.l, fun _ => Nat.zero_le _⟩ h.t
  have := h.p.row_ (row 75 (over (pcell ga gb s.C s.U s.t) 2 64 fun _ => .int .i64 0))
  rw [over_counts] at this ⊢
  exact this
theorem XA.zeroU {w : World} {gx ga gb : Nat} {s : Sm} (h : XA w gx ga gb s) : XA (w.setRow gx (row 75 (over (pcell ga gb s.C s.U s.t) 66 8 fun _ => .bool false))) gx ga gb { s with U := fun _ => false } := by
  refine h.self ((Chg.refl (one gx) w).setRow (.inl rfl) _) ?_ rfl rfl ⟨h.ok.h, h.ok.l, h.ok.c⟩ h.t
  have := h.p.row_ (row 75 (over (pcell ga gb s.C s.U s.t) 66 8 fun _ => .bool false))
  rw [over_used] at this ⊢
  exact this
/-- What a call of the program leaves of the document's policy, and the other way round. -/
theorem XA.afterP {w w' : World} {gx ga gb gp gq gh : Nat} {s s' : Sm} (h : XA w gx ga gb s) (hp : PA w gp gq gh s') (hc : Chg (three gp gq gh) w w') : XA w' gx ga gb s := by
  obtain ⟨c1, h1⟩ := hp.q.blk
  obtain ⟨c2, h2⟩ := hp.h.blk
  obtain ⟨c3, h3⟩ := h.q.blk_
  obtain ⟨c4, h4⟩ := h.h.blk_
  refine h.chg hc ?_ ?_ ?_ ?_
  · rintro (e | e | e)
    · exact h.p.ne_ hp.p (by decide) e
    · exact h.p.ne_ h1 (by decide) e
    · exact h.p.ne_ h2 (by decide) e
  · rintro (e | e | e)
    · exact h3.ne_ hp.p (by decide) e
    · exact h3.ne_ h1 (by decide) e
    · exact h3.ne_ h2 (by decide) e
  · rintro (e | e | e)
    · exact h4.ne_ hp.p (by decide) e
    · exact h4.ne_ h1 (by decide) e
    · exact h4.ne_ h2 (by decide) e
  · rintro k cs hk (e | e | e)
    · exact hk.ne_ hp.p (by decide) e
    · exact hk.ne_ h1 (by decide) e
    · exact hk.ne_ h2 (by decide) e
theorem PA.afterX {w w' : World} {gx ga gb gp gq gh : Nat} {s s' : Sm} (hp : PA w gp gq gh s') (h : XA w gx ga gb s) (hc : Chg (three gx ga gb) w w') : PA w' gp gq gh s' := by
  obtain ⟨c1, h1⟩ := hp.q.blk
  obtain ⟨c2, h2⟩ := hp.h.blk
  obtain ⟨c3, h3⟩ := h.q.blk_
  obtain ⟨c4, h4⟩ := h.h.blk_
  refine hp.chg hc ?_ ?_ ?_
  · rintro (e | e | e)
    · exact hp.p.ne_ h.p (by decide) e
    · exact hp.p.ne_ h3 (by decide) e
    · exact hp.p.ne_ h4 (by decide) e
  · rintro (e | e | e)
    · exact h1.ne_ h.p (by decide) e
    · exact h1.ne_ h3 (by decide) e
    · exact h1.ne_ h4 (by decide) e
  · rintro (e | e | e)
    · exact h2.ne_ h.p (by decide) e
    · exact h2.ne_ h3 (by decide) e
    · exact h2.ne_ h4 (by decide) e
theorem len16 {R : Nat → List Nat} {n : Nat} (g : Good n R) (hn : n ≤ 16) : ∀ l, l < 4 → (R l).length ≤ 1000 := fun l hl => by
  have := len_le g hl
  omega
/-- What a call of the document's policy leaves. -/
def XE (gx ga gb : Nat) (s : Sm) (w : World) (e : Ending) (w' : World) : Prop := e = .returned (.tuple #[]) ∧ XA w' gx ga gb s ∧ Chg (three gx ga gb) w w'
set_option maxRecDepth 100000 in
set_option maxHeartbeats 1000000 in
theorem rhit_any (gx ga gb : Nat) (s : Sm) (g : Nat) (hg : g < 16) (w : World) (h : XA w gx ga gb s) : Calls Try.prog 22 #[.pointer (some ⟨gx, 0, none⟩), .int .i64 (g : Int)] w (XE gx ga gb (hitS s g) w) := by
  obtain ⟨q, hq⟩ : ∃ q, s.t % 4 = q := ⟨_, rfl⟩
  have hcq : hitC s g = 4 * g + q := by unfold hitC; rw [hq]
  have q4 : q < 4 := by omega
  have e1 : Int.tmod (s.t : Int) 4 = (q : Int) := by rw [Int.tmod_eq_emod_of_nonneg (by omega)]; omega
  have e1' : IntKind.i64.wrap (q : Int) = (q : Int) := IntWalk.i64_in _ (by omega)
  have g16 : (g : Int) < 16 := by omega
  have q4' : (q : Int) < 4 := by omega
  have ct := h.ct
  obtain ⟨j, hj⟩ : ∃ j, 2 + g * 4 + q = j := ⟨_, rfl⟩
  have hjc : j = 2 + hitC s g := by omega
  have hc64 : hitC s g < 64 := by omega
  obtain ⟨M, hM⟩ : ∃ M, M = 1048576 := ⟨_, rfl⟩
  obtain ⟨n, hn⟩ : ∃ n, s.C (hitC s g) = n := ⟨_, rfl⟩
  have cj := h.p.at (i := 2 + hitC s g) (by omega)
  rw [pcell_count _ _ _ _ _ hc64, hn, ← hjc] at cj
  have fj := h.p.frozen j
  have gl := h.p.lt
  have hb := h.ok.c (hitC s g)
  rw [hn, ← hM] at hb
  have hS : hitS s g = { s with C := upd s.C (hitC s g) (min (n + 1) M), H := if wh s.H g < 4 then mv s.H g 0 else putR s.H g 0 } := by
    rw [hM, ← hn]
    rfl
  have en : n < M → IntKind.i64.wrap ((n : Int) + 1) = (n : Int) + 1 := fun _ => IntWalk.i64_in _ (by omega)
  have HS := hide hS
  -- the world behind the count, and what follows
  have hrest : ∀ (W : World) (C : Nat → Nat), XA W gx ga gb { s with C := C } → Chg (three gx ga gb) w W → Hid (XA W gx ga gb { s with C := C } ∧ Chg (three gx ga gb) w W) := fun W C h1 h2 => hide ⟨h1, h2⟩
  by_cases hlt : n < M
  · have hmin : min (n + 1) M = n + 1 := Nat.min_eq_left (by omega)
    rw [hmin] at HS
    have l1 : (n : Int) < 1048576 := by omega
    have ew := en hlt
    have hx : XA (w.setCell ⟨gx, j, none⟩ (.int .i64 ((n + 1 : Nat) : Int))) gx ga gb { s with C := upd s.C (hitC s g) (n + 1) } := by
      rw [hjc]
      exact h.count hc64 (by omega)
    have hcg : Chg (three gx ga gb) w (w.setCell ⟨gx, j, none⟩ (.int .i64 ((n + 1 : Nat) : Int))) := (chg_self gx j _ w).mono (fun _ _ => one_three0)
    have HX := hide hx
    have HCg := hide hcg
    obtain ⟨C', hC'⟩ : ∃ C', upd s.C (hitC s g) (n + 1) = C' := ⟨_, rfl⟩
    rw [hC'] at HX HS
    clear hx hcg hC' hmin hlt hS hrest hM hn hb en hq hcq hjc hc64 h
    go_enter Try.func22, Try.ntmps22
    go_upto_region 2 with fail
    go_region
    have hx2 := HX.out.drewN 1
    have hc2 := HCg.out.drewN 1
    rw [show ((n + 1 : Nat) : Int) = (n : Int) + 1 by omega] at hx2 hc2
    have hd : (w.setCell ⟨gx, j, none⟩ (.int .i64 ((n : Int) + 1))).drew = (w.setCell ⟨gx, j, none⟩ (.int .i64 ((n : Int) + 1))).drewN 1 := rfl
    rw [hd]
    generalize (w.setCell ⟨gx, j, none⟩ (.int .i64 ((n : Int) + 1))).drewN 1 = W2 at hx2 hc2 ⊢
    clear hd cj fj gl ct HX HCg ew
    have HX2 := hide hx2
    have HC2 := hide hc2
    have c02 := hx2.c0
    have HWh := hide (where_any ga g s.H (len16 hx2.ok.h (by omega)) W2 hx2.q)
    have HLen := hide (len16 hx2.ok.h (by omega))
    clear hx2 hc2
    by_cases hw : wh s.H g = 4
    · have hv : whV s.H g = -1 := if_neg (by omega)
      rw [hv] at HWh
      have HPut : Hid (Calls Try.prog 35 #[.pointer (some ⟨ga, 0, none⟩), .int .i64 (g : Int), .int .i64 0] W2 (RE ga (putR s.H g 0) W2)) := hide (rput_any ga g 0 s.H (by omega) HLen.out W2 HX2.out.q)
      have hs2 : hitS s g = { s with C := C', H := putR s.H g 0 } := by rw [HS.out, if_neg (by omega)]
      have HS2 := hide hs2
      clear hv hw hs2
      go_wp2_with (first
        | (go_at_call 29; (with_reducible refine HWh.out.mono ?_); rintro e wx ⟨rfl, hw⟩; subst wx)
        | (go_at_call 35; (with_reducible refine HPut.out.mono ?_); intro e w3 ha; have HE := hide (HX2.out.hot (good_putR HX2.out.ok.h hg (by omega)) ha.2.1 ha.2.2); have HC := hide (HC2.out.trans ha.2.2 (fun _ _ => one_three)); obtain ⟨he, _, _⟩ := ha; subst he))
      go_end0
      exact ⟨rfl, by rw [HS2.out]; exact HE.out, HC.out⟩
    · have hw4 := wh_lt hw
      have hv : whV s.H g = (wh s.H g : Int) := if_pos hw4
      rw [hv] at HWh
      have HMv := hide (rmove_zero ga g s.H hw4 HLen.out W2 HX2.out.q)
      have hs2 : hitS s g = { s with C := C', H := mv s.H g 0 } := by rw [HS.out, if_pos hw4]
      have HS2 := hide hs2
      obtain ⟨l, hl⟩ : ∃ l, wh s.H g = l := ⟨_, rfl⟩
      have HM : Hid (Calls Try.prog 34 #[.pointer (some ⟨ga, 0, none⟩), .int .i64 (g : Int), .int .i64 0] W2 (RE ga (mv s.H g 0) W2)) := HMv
      rw [hl] at HWh
      have t0 : (0 : Int) ≤ (l : Int) := by omega
      clear hv hw hw4 hs2 hl HMv
      go_wp2_with (first
        | (go_at_call 29; (with_reducible refine HWh.out.mono ?_); rintro e wx ⟨rfl, hw⟩; subst wx)
        | (go_at_call 34; (with_reducible refine HM.out.mono ?_); intro e w3 ha; have HE := hide (HX2.out.hot (good_mv HX2.out.ok.h hg 0) ha.2.1 ha.2.2); have HC := hide (HC2.out.trans ha.2.2 (fun _ _ => one_three)); obtain ⟨he, _, _⟩ := ha; subst he))
      go_end0
      exact ⟨rfl, by rw [HS2.out]; exact HE.out, HC.out⟩
  · have hmin : min (n + 1) M = M := Nat.min_eq_right (by omega)
    rw [hmin] at HS
    have l1 : decide ((n : Int) < 1048576) = false := by simp; omega
    have l2 : decide (n < 1048576) = false := by simp; omega
    have hC : upd s.C (hitC s g) M = s.C := by
      funext i
      unfold upd
      by_cases he : i = hitC s g
      · rw [if_pos he, he, hn]; omega
      · rw [if_neg he]
    rw [hC] at HS
    obtain ⟨C', hC'⟩ : ∃ C', s.C = C' := ⟨_, rfl⟩
    have hx2 : XA w gx ga gb { s with C := C' } := by rw [← hC']; exact h
    have hc2 : Chg (three gx ga gb) w w := Chg.refl _ _
    rw [hC'] at HS
    clear hmin hlt hS hrest hM hn hb en hq hcq hjc hc64 h hC hC'
    go_enter Try.func22, Try.ntmps22
    go_upto_region 3 with fail
    clear cj fj gl ct
    have HX2 := hide hx2
    have HC2 := hide hc2
    have c02 := hx2.c0
    have HWh := hide (where_any ga g s.H (len16 hx2.ok.h (by omega)) w hx2.q)
    have HLen := hide (len16 hx2.ok.h (by omega))
    clear hx2 hc2
    by_cases hw : wh s.H g = 4
    · have hv : whV s.H g = -1 := if_neg (by omega)
      rw [hv] at HWh
      have HPut : Hid (Calls Try.prog 35 #[.pointer (some ⟨ga, 0, none⟩), .int .i64 (g : Int), .int .i64 0] w (RE ga (putR s.H g 0) w)) := hide (rput_any ga g 0 s.H (by omega) HLen.out w HX2.out.q)
      have hs2 : hitS s g = { s with C := C', H := putR s.H g 0 } := by rw [HS.out, if_neg (by omega)]
      have HS2 := hide hs2
      clear hv hw hs2
      go_wp2_with (first
        | (go_at_call 29; (with_reducible refine HWh.out.mono ?_); rintro e wx ⟨rfl, hw⟩; subst wx)
        | (go_at_call 35; (with_reducible refine HPut.out.mono ?_); intro e w3 ha; have HE := hide (HX2.out.hot (good_putR HX2.out.ok.h hg (by omega)) ha.2.1 ha.2.2); have HC := hide (HC2.out.trans ha.2.2 (fun _ _ => one_three)); obtain ⟨he, _, _⟩ := ha; subst he))
      go_end0
      exact ⟨rfl, by rw [HS2.out]; exact HE.out, HC.out⟩
    · have hw4 := wh_lt hw
      have hv : whV s.H g = (wh s.H g : Int) := if_pos hw4
      rw [hv] at HWh
      have HMv := hide (rmove_zero ga g s.H hw4 HLen.out w HX2.out.q)
      have hs2 : hitS s g = { s with C := C', H := mv s.H g 0 } := by rw [HS.out, if_pos hw4]
      have HS2 := hide hs2
      obtain ⟨l, hl⟩ : ∃ l, wh s.H g = l := ⟨_, rfl⟩
      have HM : Hid (Calls Try.prog 34 #[.pointer (some ⟨ga, 0, none⟩), .int .i64 (g : Int), .int .i64 0] w (RE ga (mv s.H g 0) w)) := HMv
      rw [hl] at HWh
      have t0 : (0 : Int) ≤ (l : Int) := by omega
      clear hv hw hw4 hs2 hl HMv
      go_wp2_with (first
        | (go_at_call 29; (with_reducible refine HWh.out.mono ?_); rintro e wx ⟨rfl, hw⟩; subst wx)
        | (go_at_call 34; (with_reducible refine HM.out.mono ?_); intro e w3 ha; have HE := hide (HX2.out.hot (good_mv HX2.out.ok.h hg 0) ha.2.1 ha.2.2); have HC := hide (HC2.out.trans ha.2.2 (fun _ _ => one_three)); obtain ⟨he, _, _⟩ := ha; subst he))
      go_end0
      exact ⟨rfl, by rw [HS2.out]; exact HE.out, HC.out⟩
end Go.Proofs.Ytadlfebpaijbhaa.Lv
