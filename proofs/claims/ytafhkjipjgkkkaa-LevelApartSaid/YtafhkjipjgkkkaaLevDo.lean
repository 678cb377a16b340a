/- One call of both, by the law's 'do': walked. -/
import Derived.Test.YtafhkjipjgkkkaaLevRef2
namespace Go.Proofs.Ytafhkjipjgkkkaa.Lv
open Go.RowKit Go.Proofs.Ytafhkjipjgkkkaa.W
set_option linter.unusedVariables false
set_option linter.unusedSimpArgs false

/-- What 'in' answers, and what the calls make of the rows. -/
def inn (n : Nat) (I : Int) : Bool := decide (0 ≤ I) && decide (I < (n : Int))
def wantC (n : Nat) (R : Nat → List Nat) (I : Int) : Int := if inn n I = true then (if wh R I.toNat < 4 then 0 else 7) else 3
def addC (n : Nat) (R : Nat → List Nat) (I N : Int) : Int := if inn n I = true then (if N < 0 ∨ 4 ≤ N then 3 else if wh R I.toNat < 4 then 8 else 0) else 3
def addR (n : Nat) (R : Nat → List Nat) (I N : Int) : Nat → List Nat := if inn n I = true ∧ 0 ≤ N ∧ N < 4 ∧ wh R I.toNat = 4 then putR R I.toNat N.toNat else R
def remR (n : Nat) (R : Nat → List Nat) (I : Int) : Nat → List Nat := if inn n I = true ∧ wh R I.toNat < 4 then rem R I.toNat else R
def movR (n : Nat) (R : Nat → List Nat) (I N : Int) : Nat → List Nat := if inn n I = true ∧ wh R I.toNat < 4 then putR R I.toNat (moved (wh R I.toNat) N) else R
theorem inn_of {n i : Nat} (h : i < n) : inn n (i : Int) = true := by simp [inn]; omega
theorem inn_out {n : Nat} {I : Int} (h : inn n I = false) : I < 0 ∨ (n : Int) ≤ I := by simp [inn] at h; omega
theorem inn_nat {n : Nat} {I : Int} (h : inn n I = true) : ∃ i : Nat, I = (i : Int) ∧ i < n := by
  simp [inn] at h
  exact ⟨I.toNat, by omega, by omega⟩
theorem add_any (g n : Nat) (R : Nat → List Nat) (I N : Int) (w : World) (hq : QAt w g n R) : Calls Try.prog 18 #[.pointer (some ⟨g, 0, none⟩), .int .i64 I, .int .i64 N] w (AE g n (addR n R I N) (addC n R I N) w) := by
  unfold addR addC
  cases hI : inn n I with
  | false => simpa using add_out g n R I N (inn_out hI) w hq
  | true =>
    obtain ⟨i, rfl, hi⟩ := inn_nat hI
    by_cases hN : N < 0 ∨ 4 ≤ N
    · have h2 : ¬ (0 ≤ N ∧ N < 4 ∧ wh R i = 4) := by omega
      simpa [hN, h2] using add_lev g n R i N hi hN w hq
    · obtain ⟨l, rfl⟩ : ∃ l : Nat, N = (l : Int) := ⟨N.toNat, by omega⟩
      have hl : l < 4 := by omega
      have := wh_le R i
      by_cases hw : wh R i < 4
      · have h2 : ¬ wh R i = 4 := by omega
        simpa [hN, hw, h2, show ¬ 4 ≤ l by omega] using add_exist g n R i l hi hl hw w hq
      · have h2 : wh R i = 4 := by omega
        simpa [hN, hw, h2, show ¬ 4 ≤ l by omega, show (l : Int) < 4 by omega, hl] using add_ok g n R i l hi hl h2 w hq
theorem remove_any (g n : Nat) (R : Nat → List Nat) (I : Int) (w : World) (hq : QAt w g n R) : Calls Try.prog 19 #[.pointer (some ⟨g, 0, none⟩), .int .i64 I] w (AE g n (remR n R I) (wantC n R I) w) := by
  unfold remR wantC
  cases hI : inn n I with
  | false => simpa using remove_out g n R I (inn_out hI) w hq
  | true =>
    obtain ⟨i, rfl, hi⟩ := inn_nat hI
    have := wh_le R i
    by_cases hw : wh R i < 4
    · simpa [hw] using remove_on g n R i hi hw w hq
    · simpa [hw] using remove_off g n R i hi (by omega) w hq
theorem move_any (g n : Nat) (R : Nat → List Nat) (I N : Int) (w : World) (hq : QAt w g n R) : Calls Try.prog 21 #[.pointer (some ⟨g, 0, none⟩), .int .i64 I, .int .i64 N] w (AE g n (movR n R I N) (wantC n R I) w) := by
  unfold movR wantC
  cases hI : inn n I with
  | false => simpa using move_out g n R I N (inn_out hI) w hq
  | true =>
    obtain ⟨i, rfl, hi⟩ := inn_nat hI
    have := wh_le R i
    by_cases hw : wh R i < 4
    · simpa [hw] using move_on g n R i N hi hw w hq
    · simpa [hw] using move_off g n R i N hi (by omega) w hq
theorem touch_any (g n : Nat) (R : Nat → List Nat) (I : Int) (w : World) (hq : QAt w g n R) : Calls Try.prog 20 #[.pointer (some ⟨g, 0, none⟩), .int .i64 I] w (AE g n (movR n R I 0) (wantC n R I) w) := by
  have HC := hide (fun W h => move_any g n R I 0 W h)
  have HQ := hide hq
  clear hq
  obtain ⟨c, hc⟩ : ∃ c, wantC n R I = c := ⟨_, rfl⟩
  rw [hc] at HC ⊢
  clear hc
  go_enter Try.func20, Try.ntmps20
  go_wp2_with (first
    | (go_at_call 21; (with_reducible refine (HC.out _ HQ.out).mono ?_); rintro e w1 ⟨rfl, h1, h2⟩; have H1 := hide h1; have H2 := hide h2; clear h1 h2))
  go_ret
  exact ⟨rfl, H1.out, H2.out⟩
theorem touch_nil (i : Int) (w : World) : Calls Try.prog 20 #[.pointer none, .int .i64 i] w fun e w' => e = .returned (.int .i64 1) ∧ w' = w := by
  go_enter Try.func20, Try.ntmps20
  go_wp2_with (first | (go_at_call 21; (with_reducible refine (move_nil _ _ _).mono ?_); rintro e wx ⟨rfl, hw⟩; subst wx))
  go_ret
  exact ⟨rfl, rfl⟩
def levV (n : Nat) (R : Nat → List Nat) (I : Int) : Int := if wantC n R I = 0 then (wh R I.toNat : Int) else 0
def LevE (n : Nat) (R : Nat → List Nat) (I : Int) (w : World) (e : Ending) (w' : World) : Prop := ∃ b, b = decide (wantC n R I = 0) ∧ e = .returned (.tuple #[.int .i64 (levV n R I), .bool b]) ∧ w' = w
theorem level_any (g n : Nat) (R : Nat → List Nat) (I : Int) (w : World) (hq : QAt w g n R) : Calls Try.prog 12 #[.pointer (some ⟨g, 0, none⟩), .int .i64 I] w (LevE n R I w) := by
  cases hI : inn n I with
  | false =>
    refine (level_out g n R I (inn_out hI) w hq).mono ?_
    rintro e w' ⟨rfl, rfl⟩
    exact ⟨false, by simp [wantC, hI], by simp [levV, wantC, hI], rfl⟩
  | true =>
    obtain ⟨i, rfl, hi⟩ := inn_nat hI
    have := wh_le R i
    by_cases hw : wh R i < 4
    · refine (level_on g n R i (wh R i) hi hw (wh_mem hw) w hq).mono ?_
      rintro e w' ⟨rfl, rfl⟩
      exact ⟨true, by simp [wantC, hI, hw], by simp [levV, wantC, hI, hw], rfl⟩
    · refine (level_off g n R i hi (by omega) w hq).mono ?_
      rintro e w' ⟨rfl, rfl⟩
      exact ⟨false, by simp [wantC, hI, hw], by simp [levV, wantC, hI, hw], rfl⟩
/-- The rows behind a call. -/
def mostN (N : Int) : Nat := N.toNat
theorem mostN_eq (N : Int) : (if N < 0 then (0 : Int) else N) = (mostN N : Int) := by
  unfold mostN
  split <;> omega
def stepR (n : Nat) (R : Nat → List Nat) (K I N : Int) : Nat → List Nat :=
  if K = 0 ∨ K = 1 ∨ K = 2 then addR n R I N else if K = 3 then remR n R I else if K = 4 then movR n R I 0 else if K = 5 ∨ K = 6 then movR n R I N else if K = 7 then stR R (mostN N) 3 else R
theorem good_step {n : Nat} {R : Nat → List Nat} (g : Good n R) (K I N : Int) : Good n (stepR n R K I N) := by
  have hmv : ∀ N, Good n (movR n R I N) := fun N => by
    unfold movR
    split
    · rename_i h
      obtain ⟨i, rfl, hi⟩ := inn_nat h.1
      exact good_putR g (by simpa using hi) (moved_lt _ _)
    · exact g
  unfold stepR
  split
  · unfold addR
    split
    · rename_i h
      obtain ⟨i, rfl, hi⟩ := inn_nat h.1
      exact good_putR g (by simpa using hi) (by omega)
    · exact g
  split
  · unfold remR
    split
    · exact good_rem g _
    · exact g
  split
  · exact hmv 0
  split
  · exact hmv N
  split
  · exact good_stR _ g 3 (by omega)
  · exact g
structure DoAt (w : World) (gq gx n : Nat) (K I N : Int) (Rq Rx : Nat → List Nat) (wr : World) : Prop where
  q : QAt wr gq n Rq
  x : RefAt wr gx Rx
  a : Blk wr w.heap.size 35 #[.int .i64 K, .int .i64 I, .int .i64 N]
  chg : Chg (two gq gx) w wr
  lq : gq < w.heap.size
  lx : gx < w.heap.size
section
variable {w wr w' : World} {gq gx n : Nat} {K I N : Int} {Rq Rx R' : Nat → List Nat}
theorem QAt.blk {g : Nat} {R : Nat → List Nat} (h : QAt w g n R) : ∃ cs, Blk w g 55 cs := by
  obtain ⟨F, h1, _⟩ := h
  exact ⟨_, h1⟩
theorem RefAt.blk {g : Nat} {R : Nat → List Nat} (h : RefAt w g R) : ∃ cs, Blk w g 32 cs := by
  obtain ⟨V, h⟩ := h
  exact ⟨_, h.blk⟩
theorem DoAt.setq (h : DoAt w gq gx n K I N Rq Rx wr) (hq : QAt w' gq n R') (hc : Chg (one gq) wr w') : DoAt w gq gx n K I N R' Rx w' := by
  obtain ⟨cs, hb⟩ := h.q.blk
  exact ⟨hq, h.x.chg hc hb (by decide) (by decide), h.a.chg hc (fun (e : w.heap.size = gq) => by have := h.lq; omega), h.chg.trans hc (fun _ _ e => .inl e), h.lq, h.lx⟩
theorem DoAt.setx (h : DoAt w gq gx n K I N Rq Rx wr) (hx : RefAt w' gx R') (hc : Chg (one gx) wr w') : DoAt w gq gx n K I N Rq R' w' := by
  obtain ⟨cs, hb⟩ := h.q.blk
  obtain ⟨cs', hb'⟩ := h.x.blk
  exact ⟨h.q.chg hc (fun (e : gq = gx) => (Blk.ne_ hb hb' (by decide)) e), hx, h.a.chg hc (fun (e : w.heap.size = gx) => by have := h.lx; omega), h.chg.trans hc (fun _ _ e => .inr e), h.lq, h.lx⟩
theorem DoAt.same (h : DoAt w gq gx n K I N Rq Rx wr) (e1 : w'.heap = wr.heap) (e2 : w'.os = wr.os) (e3 : w'.tape = wr.tape) (e4 : w'.output = wr.output) : DoAt w gq gx n K I N Rq Rx w' :=
  ⟨h.q.chg (S := none1) ((Chg.refl none1 wr).same e1 e2 e3 e4) (fun h => h), by
    obtain ⟨V, hv⟩ := h.x
    exact ⟨V, hv.blk.same e1, fun l hl => (hv.row l hl).keep (fun b cs hb => hb.same e1)⟩, h.a.same e1, h.chg.same e1 e2 e3 e4, h.lq, h.lx⟩
theorem DoAt.k (h : DoAt w gq gx n K I N Rq Rx wr) : wr.cell? ⟨w.heap.size, 0, none⟩ = some (.int .i64 K) := h.a.cell 0
theorem DoAt.i (h : DoAt w gq gx n K I N Rq Rx wr) : wr.cell? ⟨w.heap.size, 1, none⟩ = some (.int .i64 I) := h.a.cell 1
theorem DoAt.nn (h : DoAt w gq gx n K I N Rq Rx wr) : wr.cell? ⟨w.heap.size, 2, none⟩ = some (.int .i64 N) := h.a.cell 2
end
theorem doAt_new {w : World} {gq gx n : Nat} {Rq Rx : Nat → List Nat} (hq : QAt w gq n Rq) (hx : RefAt w gx Rx) (K I N : Int) : DoAt w gq gx n K I N Rq Rx (w.alloc (.cells #[.int .i64 K, .int .i64 I, .int .i64 N] 35)) := by
  have hb := (Below.refl w.heap.size w).alloc (Nat.le_refl _) (.cells #[.int .i64 K, .int .i64 I, .int .i64 N] 35)
  obtain ⟨cs, h1⟩ := hq.blk
  obtain ⟨cs', h2⟩ := hx.blk
  exact ⟨hq.later hb, hx.later hb, Blk.newAt w _ _ _ rfl, Chg.of_below hb, h1.lt, h2.lt⟩
/-- What 'do' leaves. -/
def DoE (gq gx n : Nat) (K I N : Int) (Rq Rx : Nat → List Nat) (w : World) (e : Ending) (w' : World) : Prop :=
  ∃ b, e = .returned (.bool b) ∧ (Rq = Rx → b = true) ∧ QAt w' gq n (stepR n Rq K I N) ∧ RefAt w' gx (stepR n Rx K I N) ∧ Chg (two gq gx) w w'
theorem lens {n : Nat} {R : Nat → List Nat} (h : n ≤ 16) (g : Good n R) : ∀ l, l < 4 → (R l).length ≤ 1000 := fun l hl => by have := len_le g hl; omega
/-- The four ways of a thing: below 0, too large, in no row, in one. -/
theorem xcase (n : Nat) (R : Nat → List Nat) (I : Int) : (decide (0 ≤ I) = false ∧ inn n I = false) ∨ (decide (0 ≤ I) = true ∧ decide (I < (n : Int)) = false ∧ inn n I = false) ∨
    (∃ i : Nat, I = (i : Int) ∧ i < n ∧ wh R i = 4 ∧ inn n I = true) ∨ (∃ i : Nat, I = (i : Int) ∧ i < n ∧ wh R i < 4 ∧ inn n I = true) := by
  cases h0 : decide (0 ≤ I) with
  | false => exact .inl ⟨rfl, by simp [inn, h0]⟩
  | true =>
    cases h1 : decide (I < (n : Int)) with
    | false => exact .inr (.inl ⟨rfl, rfl, by simp [inn, h1]⟩)
    | true =>
      have hI : inn n I = true := by simp [inn, h0, h1]
      obtain ⟨i, rfl, hi⟩ := inn_nat hI
      have := wh_le R i
      by_cases hw : wh R i < 4
      · exact .inr (.inr (.inr ⟨i, rfl, hi, hw, hI⟩))
      · exact .inr (.inr (.inl ⟨i, rfl, hi, by omega, hI⟩))
set_option maxRecDepth 100000 in
set_option maxHeartbeats 4000000 in
theorem do_rem (gq gx n : Nat) (I N : Int) (hN1 : -9223372036854775808 ≤ N) (hN2 : N ≤ 9223372036854775807) (Rq Rx : Nat → List Nat) (hn : n ≤ 16) (hg : Good n Rx) (w : World) (hq : QAt w gq n Rq) (hx : RefAt w gx Rx) :
    Calls Try.prog 9 #[.pointer (some ⟨gq, 0, none⟩), .pointer (some ⟨gx, 0, none⟩), .int .i64 (n : Int), .agg #[.int .i64 3, .int .i64 I, .int .i64 N]] w (DoE gq gx n 3 I N Rq Rx w) := by
  have HD0 := hide (doAt_new hq hx 3 I N)
  have HL := hide (lens hn hg)
  have hRq : stepR n Rq 3 I N = remR n Rq I := by simp [stepR]
  have hRx : stepR n Rx 3 I N = remR n Rx I := by simp [stepR]
  obtain ⟨c, hc⟩ : ∃ c, wantC n Rq I = c := ⟨_, rfl⟩
  have HQ := hide (fun W h => remove_any gq n Rq I W h)
  rw [hc] at HQ
  have HC := hide hc
  have hcs := xcase n Rx I
  clear hq hx hg hc
  unfold DoE
  rw [hRq, hRx]
  clear hRq hRx
  rcases hcs with ⟨i1, hI⟩ | ⟨i1, i2, hI⟩ | ⟨i, rfl, hi, hw, hI⟩ | ⟨i, rfl, hi, hw, hI⟩
  · have HV : Hid (wantC n Rx I = 3 ∧ remR n Rx I = Rx) := hide ⟨by simp [wantC, hI], by simp [remR, hI]⟩
    clear hI
    go_enter Try.func9, Try.ntmps9
    go_upto_region 1 with fail
    generalize w.alloc (.cells #[.int .i64 3, .int .i64 I, .int .i64 N] 35) = W0 at HD0 ⊢
    have k0 := HD0.out.k
    have k1 := HD0.out.i
    have k2 := HD0.out.nn
    go_wp2_with (first
      | (go_at_call 19; (with_reducible refine (HQ.out _ HD0.out.q).mono ?_); rintro e w2 ⟨rfl, h1, h2⟩; have HD2 := hide (HD0.out.setq h1 h2); clear h1 h2))
    go_ret
    refine ⟨_, rfl, fun he => ?_, HD2.out.q, ?_, HD2.out.chg⟩
    · have h1 := HC.out
      rw [he] at h1
      have h2 := HV.out.1
      rw [h1] at h2
      subst h2
      rfl
    · rw [HV.out.2]
      exact HD2.out.x
  · have HV : Hid (wantC n Rx I = 3 ∧ remR n Rx I = Rx) := hide ⟨by simp [wantC, hI], by simp [remR, hI]⟩
    clear hI
    go_enter Try.func9, Try.ntmps9
    go_upto_region 1 with fail
    generalize w.alloc (.cells #[.int .i64 3, .int .i64 I, .int .i64 N] 35) = W0 at HD0 ⊢
    have k0 := HD0.out.k
    have k1 := HD0.out.i
    have k2 := HD0.out.nn
    go_wp2_with (first
      | (go_at_call 19; (with_reducible refine (HQ.out _ HD0.out.q).mono ?_); rintro e w2 ⟨rfl, h1, h2⟩; have HD2 := hide (HD0.out.setq h1 h2); clear h1 h2))
    go_ret
    refine ⟨_, rfl, fun he => ?_, HD2.out.q, ?_, HD2.out.chg⟩
    · have h1 := HC.out
      rw [he] at h1
      have h2 := HV.out.1
      rw [h1] at h2
      subst h2
      rfl
    · rw [HV.out.2]
      exact HD2.out.x
  · have HV : Hid (wantC n Rx (i : Int) = 7 ∧ remR n Rx (i : Int) = Rx) := hide ⟨by simp [wantC, hI, hw], by simp [remR, hI, hw]⟩
    have hwv : whV Rx i = -1 := by simp [whV, hw]
    have HWh := hide (fun W hW => where_any gx i Rx HL.out W hW)
    rw [hwv] at HWh
    have i1 : decide ((0 : Int) ≤ (i : Int)) = true := by simp
    have i2 : decide ((i : Int) < (n : Int)) = true := by simp; omega
    have i3 : decide (i < n) = true := by simp; omega
    clear hwv
    clear hI hi hw
    go_enter Try.func9, Try.ntmps9
    go_upto_region 1 with fail
    generalize w.alloc (.cells #[.int .i64 3, .int .i64 (i : Int), .int .i64 N] 35) = W0 at HD0 ⊢
    have k0 := HD0.out.k
    have k1 := HD0.out.i
    have k2 := HD0.out.nn
    go_wp2_with (first
      | (go_at_call 23; (with_reducible refine (HWh.out _ HD0.out.x).mono ?_); rintro e wx ⟨rfl, hw⟩; subst wx)
      | (go_at_call 19; (with_reducible refine (HQ.out _ HD0.out.q).mono ?_); rintro e w2 ⟨rfl, h1, h2⟩; have HD2 := hide (HD0.out.setq h1 h2); clear h1 h2))
    go_ret
    refine ⟨_, rfl, fun he => ?_, HD2.out.q, ?_, HD2.out.chg⟩
    · have h1 := HC.out
      rw [he] at h1
      have h2 := HV.out.1
      rw [h1] at h2
      subst h2
      rfl
    · rw [HV.out.2]
      exact HD2.out.x
  · have HV : Hid (wantC n Rx (i : Int) = 0 ∧ remR n Rx (i : Int) = rem Rx i) := hide ⟨by simp [wantC, hI, hw], by simp [remR, hI, hw]⟩
    obtain ⟨k, hk⟩ : ∃ k, wh Rx i = k := ⟨_, rfl⟩
    have hwv : whV Rx i = (k : Int) := by unfold whV; rw [if_pos hw, hk]
    have HWh := hide (fun W hW => where_any gx i Rx HL.out W hW)
    rw [hwv] at HWh
    have HX := hide (fun W hW => rremove_any gx i Rx HL.out W hW)
    have i1 : decide ((0 : Int) ≤ (i : Int)) = true := by simp
    have i2 : decide ((i : Int) < (n : Int)) = true := by simp; omega
    have i3 : decide (i < n) = true := by simp; omega
    have i4 : decide ((k : Int) < 0) = false := by simp
    clear hwv hI hi hw hk
    go_enter Try.func9, Try.ntmps9
    go_upto_region 1 with fail
    generalize w.alloc (.cells #[.int .i64 3, .int .i64 (i : Int), .int .i64 N] 35) = W0 at HD0 ⊢
    have k0 := HD0.out.k
    have k1 := HD0.out.i
    have k2 := HD0.out.nn
    go_wp2_with (first
      | (go_at_call 23; (with_reducible refine (HWh.out _ HD0.out.x).mono ?_); rintro e wx ⟨rfl, hw⟩; subst wx)
      | (go_at_call 25; (with_reducible refine (HX.out _ HD0.out.x).mono ?_); rintro e w1 ⟨rfl, h1, h2⟩; have HD1 := hide (HD0.out.setx h1 h2); clear h1 h2; have m0 := HD1.out.k; have m1 := HD1.out.i; have m2 := HD1.out.nn)
      | (go_at_call 19; (with_reducible refine (HQ.out _ HD1.out.q).mono ?_); rintro e w2 ⟨rfl, h1, h2⟩; have HD2 := hide (HD1.out.setq h1 h2); clear h1 h2))
    go_ret
    refine ⟨_, rfl, fun he => ?_, HD2.out.q, ?_, HD2.out.chg⟩
    · have h1 := HC.out
      rw [he] at h1
      have h2 := HV.out.1
      rw [h1] at h2
      subst h2
      rfl
    · rw [HV.out.2]
      exact HD2.out.x
set_option maxRecDepth 100000 in
set_option maxHeartbeats 4000000 in
theorem do_touch (gq gx n : Nat) (I N : Int) (hN1 : -9223372036854775808 ≤ N) (hN2 : N ≤ 9223372036854775807) (Rq Rx : Nat → List Nat) (hn : n ≤ 16) (hg : Good n Rx) (w : World) (hq : QAt w gq n Rq) (hx : RefAt w gx Rx) :
    Calls Try.prog 9 #[.pointer (some ⟨gq, 0, none⟩), .pointer (some ⟨gx, 0, none⟩), .int .i64 (n : Int), .agg #[.int .i64 4, .int .i64 I, .int .i64 N]] w (DoE gq gx n 4 I N Rq Rx w) := by
  have HD0 := hide (doAt_new hq hx 4 I N)
  have HL := hide (lens hn hg)
  have hRq : stepR n Rq 4 I N = movR n Rq I 0 := by simp [stepR]
  have hRx : stepR n Rx 4 I N = movR n Rx I 0 := by simp [stepR]
  obtain ⟨c, hc⟩ : ∃ c, wantC n Rq I = c := ⟨_, rfl⟩
  have HQ := hide (fun W h => touch_any gq n Rq I W h)
  rw [hc] at HQ
  have HC := hide hc
  have hcs := xcase n Rx I
  clear hq hx hg hc
  unfold DoE
  rw [hRq, hRx]
  clear hRq hRx
  rcases hcs with ⟨i1, hI⟩ | ⟨i1, i2, hI⟩ | ⟨i, rfl, hi, hw, hI⟩ | ⟨i, rfl, hi, hw, hI⟩
  · have HV : Hid (wantC n Rx I = 3 ∧ movR n Rx I 0 = Rx) := hide ⟨by simp [wantC, hI], by simp [movR, hI]⟩
    clear hI
    go_enter Try.func9, Try.ntmps9
    go_upto_region 1 with fail
    generalize w.alloc (.cells #[.int .i64 4, .int .i64 I, .int .i64 N] 35) = W0 at HD0 ⊢
    have k0 := HD0.out.k
    have k1 := HD0.out.i
    have k2 := HD0.out.nn
    go_wp2_with (first
      | (go_at_call 20; (with_reducible refine (HQ.out _ HD0.out.q).mono ?_); rintro e w2 ⟨rfl, h1, h2⟩; have HD2 := hide (HD0.out.setq h1 h2); clear h1 h2))
    go_ret
    refine ⟨_, rfl, fun he => ?_, HD2.out.q, ?_, HD2.out.chg⟩
    · have h1 := HC.out
      rw [he] at h1
      have h2 := HV.out.1
      rw [h1] at h2
      subst h2
      rfl
    · rw [HV.out.2]
      exact HD2.out.x
  · have HV : Hid (wantC n Rx I = 3 ∧ movR n Rx I 0 = Rx) := hide ⟨by simp [wantC, hI], by simp [movR, hI]⟩
    clear hI
    go_enter Try.func9, Try.ntmps9
    go_upto_region 1 with fail
    generalize w.alloc (.cells #[.int .i64 4, .int .i64 I, .int .i64 N] 35) = W0 at HD0 ⊢
    have k0 := HD0.out.k
    have k1 := HD0.out.i
    have k2 := HD0.out.nn
    go_wp2_with (first
      | (go_at_call 20; (with_reducible refine (HQ.out _ HD0.out.q).mono ?_); rintro e w2 ⟨rfl, h1, h2⟩; have HD2 := hide (HD0.out.setq h1 h2); clear h1 h2))
    go_ret
    refine ⟨_, rfl, fun he => ?_, HD2.out.q, ?_, HD2.out.chg⟩
    · have h1 := HC.out
      rw [he] at h1
      have h2 := HV.out.1
      rw [h1] at h2
      subst h2
      rfl
    · rw [HV.out.2]
      exact HD2.out.x
  · have HV : Hid (wantC n Rx (i : Int) = 7 ∧ movR n Rx (i : Int) 0 = Rx) := hide ⟨by simp [wantC, hI, hw], by simp [movR, hI, hw]⟩
    have hwv : whV Rx i = -1 := by simp [whV, hw]
    have HWh := hide (fun W hW => where_any gx i Rx HL.out W hW)
    rw [hwv] at HWh
    have i1 : decide ((0 : Int) ≤ (i : Int)) = true := by simp
    have i2 : decide ((i : Int) < (n : Int)) = true := by simp; omega
    have i3 : decide (i < n) = true := by simp; omega
    clear hwv
    clear hI hi hw
    go_enter Try.func9, Try.ntmps9
    go_upto_region 1 with fail
    generalize w.alloc (.cells #[.int .i64 4, .int .i64 (i : Int), .int .i64 N] 35) = W0 at HD0 ⊢
    have k0 := HD0.out.k
    have k1 := HD0.out.i
    have k2 := HD0.out.nn
    go_wp2_with (first
      | (go_at_call 23; (with_reducible refine (HWh.out _ HD0.out.x).mono ?_); rintro e wx ⟨rfl, hw⟩; subst wx)
      | (go_at_call 20; (with_reducible refine (HQ.out _ HD0.out.q).mono ?_); rintro e w2 ⟨rfl, h1, h2⟩; have HD2 := hide (HD0.out.setq h1 h2); clear h1 h2))
    go_ret
    refine ⟨_, rfl, fun he => ?_, HD2.out.q, ?_, HD2.out.chg⟩
    · have h1 := HC.out
      rw [he] at h1
      have h2 := HV.out.1
      rw [h1] at h2
      subst h2
      rfl
    · rw [HV.out.2]
      exact HD2.out.x
  · have HV : Hid (wantC n Rx (i : Int) = 0 ∧ movR n Rx (i : Int) 0 = putR Rx i (moved (wh Rx i) 0)) := hide ⟨by simp [wantC, hI, hw], by simp [movR, hI, hw]⟩
    obtain ⟨k, hk⟩ : ∃ k, wh Rx i = k := ⟨_, rfl⟩
    have hwv : whV Rx i = (k : Int) := by unfold whV; rw [if_pos hw, hk]
    have HWh := hide (fun W hW => where_any gx i Rx HL.out W hW)
    rw [hwv] at HWh
    have HX := hide (fun W hW => rmove_zero gx i Rx hw HL.out W hW)
    have i1 : decide ((0 : Int) ≤ (i : Int)) = true := by simp
    have i2 : decide ((i : Int) < (n : Int)) = true := by simp; omega
    have i3 : decide (i < n) = true := by simp; omega
    have i4 : decide ((k : Int) < 0) = false := by simp
    clear hwv hI hi hw hk
    go_enter Try.func9, Try.ntmps9
    go_upto_region 1 with fail
    generalize w.alloc (.cells #[.int .i64 4, .int .i64 (i : Int), .int .i64 N] 35) = W0 at HD0 ⊢
    have k0 := HD0.out.k
    have k1 := HD0.out.i
    have k2 := HD0.out.nn
    go_wp2_with (first
      | (go_at_call 23; (with_reducible refine (HWh.out _ HD0.out.x).mono ?_); rintro e wx ⟨rfl, hw⟩; subst wx)
      | (go_at_call 26; (with_reducible refine (HX.out _ HD0.out.x).mono ?_); rintro e w1 ⟨rfl, h1, h2⟩; have HD1 := hide (HD0.out.setx h1 h2); clear h1 h2; have m0 := HD1.out.k; have m1 := HD1.out.i; have m2 := HD1.out.nn)
      | (go_at_call 20; (with_reducible refine (HQ.out _ HD1.out.q).mono ?_); rintro e w2 ⟨rfl, h1, h2⟩; have HD2 := hide (HD1.out.setq h1 h2); clear h1 h2))
    go_ret
    refine ⟨_, rfl, fun he => ?_, HD2.out.q, ?_, HD2.out.chg⟩
    · have h1 := HC.out
      rw [he] at h1
      have h2 := HV.out.1
      rw [h1] at h2
      subst h2
      rfl
    · rw [HV.out.2]
      exact HD2.out.x
set_option maxRecDepth 100000 in
set_option maxHeartbeats 4000000 in
theorem do_move5 (gq gx n : Nat) (I N : Int) (hN1 : -9223372036854775808 ≤ N) (hN2 : N ≤ 9223372036854775807) (Rq Rx : Nat → List Nat) (hn : n ≤ 16) (hg : Good n Rx) (w : World) (hq : QAt w gq n Rq) (hx : RefAt w gx Rx) :
    Calls Try.prog 9 #[.pointer (some ⟨gq, 0, none⟩), .pointer (some ⟨gx, 0, none⟩), .int .i64 (n : Int), .agg #[.int .i64 5, .int .i64 I, .int .i64 N]] w (DoE gq gx n 5 I N Rq Rx w) := by
  have HD0 := hide (doAt_new hq hx 5 I N)
  have HL := hide (lens hn hg)
  have hRq : stepR n Rq 5 I N = movR n Rq I N := by simp [stepR]
  have hRx : stepR n Rx 5 I N = movR n Rx I N := by simp [stepR]
  obtain ⟨c, hc⟩ : ∃ c, wantC n Rq I = c := ⟨_, rfl⟩
  have HQ := hide (fun W h => move_any gq n Rq I N W h)
  rw [hc] at HQ
  have HC := hide hc
  have hcs := xcase n Rx I
  clear hq hx hg hc
  unfold DoE
  rw [hRq, hRx]
  clear hRq hRx
  rcases hcs with ⟨i1, hI⟩ | ⟨i1, i2, hI⟩ | ⟨i, rfl, hi, hw, hI⟩ | ⟨i, rfl, hi, hw, hI⟩
  · have HV : Hid (wantC n Rx I = 3 ∧ movR n Rx I N = Rx) := hide ⟨by simp [wantC, hI], by simp [movR, hI]⟩
    clear hI
    go_enter Try.func9, Try.ntmps9
    go_upto_region 1 with fail
    generalize w.alloc (.cells #[.int .i64 5, .int .i64 I, .int .i64 N] 35) = W0 at HD0 ⊢
    have k0 := HD0.out.k
    have k1 := HD0.out.i
    have k2 := HD0.out.nn
    go_wp2_with (first
      | (go_at_call 21; (with_reducible refine (HQ.out _ HD0.out.q).mono ?_); rintro e w2 ⟨rfl, h1, h2⟩; have HD2 := hide (HD0.out.setq h1 h2); clear h1 h2))
    go_ret
    refine ⟨_, rfl, fun he => ?_, HD2.out.q, ?_, HD2.out.chg⟩
    · have h1 := HC.out
      rw [he] at h1
      have h2 := HV.out.1
      rw [h1] at h2
      subst h2
      rfl
    · rw [HV.out.2]
      exact HD2.out.x
  · have HV : Hid (wantC n Rx I = 3 ∧ movR n Rx I N = Rx) := hide ⟨by simp [wantC, hI], by simp [movR, hI]⟩
    clear hI
    go_enter Try.func9, Try.ntmps9
    go_upto_region 1 with fail
    generalize w.alloc (.cells #[.int .i64 5, .int .i64 I, .int .i64 N] 35) = W0 at HD0 ⊢
    have k0 := HD0.out.k
    have k1 := HD0.out.i
    have k2 := HD0.out.nn
    go_wp2_with (first
      | (go_at_call 21; (with_reducible refine (HQ.out _ HD0.out.q).mono ?_); rintro e w2 ⟨rfl, h1, h2⟩; have HD2 := hide (HD0.out.setq h1 h2); clear h1 h2))
    go_ret
    refine ⟨_, rfl, fun he => ?_, HD2.out.q, ?_, HD2.out.chg⟩
    · have h1 := HC.out
      rw [he] at h1
      have h2 := HV.out.1
      rw [h1] at h2
      subst h2
      rfl
    · rw [HV.out.2]
      exact HD2.out.x
  · have HV : Hid (wantC n Rx (i : Int) = 7 ∧ movR n Rx (i : Int) N = Rx) := hide ⟨by simp [wantC, hI, hw], by simp [movR, hI, hw]⟩
    have hwv : whV Rx i = -1 := by simp [whV, hw]
    have HWh := hide (fun W hW => where_any gx i Rx HL.out W hW)
    rw [hwv] at HWh
    have i1 : decide ((0 : Int) ≤ (i : Int)) = true := by simp
    have i2 : decide ((i : Int) < (n : Int)) = true := by simp; omega
    have i3 : decide (i < n) = true := by simp; omega
    clear hwv
    clear hI hi hw
    go_enter Try.func9, Try.ntmps9
    go_upto_region 1 with fail
    generalize w.alloc (.cells #[.int .i64 5, .int .i64 (i : Int), .int .i64 N] 35) = W0 at HD0 ⊢
    have k0 := HD0.out.k
    have k1 := HD0.out.i
    have k2 := HD0.out.nn
    go_wp2_with (first
      | (go_at_call 23; (with_reducible refine (HWh.out _ HD0.out.x).mono ?_); rintro e wx ⟨rfl, hw⟩; subst wx)
      | (go_at_call 21; (with_reducible refine (HQ.out _ HD0.out.q).mono ?_); rintro e w2 ⟨rfl, h1, h2⟩; have HD2 := hide (HD0.out.setq h1 h2); clear h1 h2))
    go_ret
    refine ⟨_, rfl, fun he => ?_, HD2.out.q, ?_, HD2.out.chg⟩
    · have h1 := HC.out
      rw [he] at h1
      have h2 := HV.out.1
      rw [h1] at h2
      subst h2
      rfl
    · rw [HV.out.2]
      exact HD2.out.x
  · have HV : Hid (wantC n Rx (i : Int) = 0 ∧ movR n Rx (i : Int) N = putR Rx i (moved (wh Rx i) N)) := hide ⟨by simp [wantC, hI, hw], by simp [movR, hI, hw]⟩
    obtain ⟨k, hk⟩ : ∃ k, wh Rx i = k := ⟨_, rfl⟩
    have hwv : whV Rx i = (k : Int) := by unfold whV; rw [if_pos hw, hk]
    have HWh := hide (fun W hW => where_any gx i Rx HL.out W hW)
    rw [hwv] at HWh
    have HX := hide (fun W hW => rmove_any gx i N Rx hN1 hN2 hw HL.out W hW)
    have i1 : decide ((0 : Int) ≤ (i : Int)) = true := by simp
    have i2 : decide ((i : Int) < (n : Int)) = true := by simp; omega
    have i3 : decide (i < n) = true := by simp; omega
    have i4 : decide ((k : Int) < 0) = false := by simp
    clear hwv hI hi hw hk
    go_enter Try.func9, Try.ntmps9
    go_upto_region 1 with fail
    generalize w.alloc (.cells #[.int .i64 5, .int .i64 (i : Int), .int .i64 N] 35) = W0 at HD0 ⊢
    have k0 := HD0.out.k
    have k1 := HD0.out.i
    have k2 := HD0.out.nn
    go_wp2_with (first
      | (go_at_call 23; (with_reducible refine (HWh.out _ HD0.out.x).mono ?_); rintro e wx ⟨rfl, hw⟩; subst wx)
      | (go_at_call 26; (with_reducible refine (HX.out _ HD0.out.x).mono ?_); rintro e w1 ⟨rfl, h1, h2⟩; have HD1 := hide (HD0.out.setx h1 h2); clear h1 h2; have m0 := HD1.out.k; have m1 := HD1.out.i; have m2 := HD1.out.nn)
      | (go_at_call 21; (with_reducible refine (HQ.out _ HD1.out.q).mono ?_); rintro e w2 ⟨rfl, h1, h2⟩; have HD2 := hide (HD1.out.setq h1 h2); clear h1 h2))
    go_ret
    refine ⟨_, rfl, fun he => ?_, HD2.out.q, ?_, HD2.out.chg⟩
    · have h1 := HC.out
      rw [he] at h1
      have h2 := HV.out.1
      rw [h1] at h2
      subst h2
      rfl
    · rw [HV.out.2]
      exact HD2.out.x
set_option maxRecDepth 100000 in
set_option maxHeartbeats 4000000 in
theorem do_move6 (gq gx n : Nat) (I N : Int) (hN1 : -9223372036854775808 ≤ N) (hN2 : N ≤ 9223372036854775807) (Rq Rx : Nat → List Nat) (hn : n ≤ 16) (hg : Good n Rx) (w : World) (hq : QAt w gq n Rq) (hx : RefAt w gx Rx) :
    Calls Try.prog 9 #[.pointer (some ⟨gq, 0, none⟩), .pointer (some ⟨gx, 0, none⟩), .int .i64 (n : Int), .agg #[.int .i64 6, .int .i64 I, .int .i64 N]] w (DoE gq gx n 6 I N Rq Rx w) := by
  have HD0 := hide (doAt_new hq hx 6 I N)
  have HL := hide (lens hn hg)
  have hRq : stepR n Rq 6 I N = movR n Rq I N := by simp [stepR]
  have hRx : stepR n Rx 6 I N = movR n Rx I N := by simp [stepR]
  obtain ⟨c, hc⟩ : ∃ c, wantC n Rq I = c := ⟨_, rfl⟩
  have HQ := hide (fun W h => move_any gq n Rq I N W h)
  rw [hc] at HQ
  have HC := hide hc
  have hcs := xcase n Rx I
  clear hq hx hg hc
  unfold DoE
  rw [hRq, hRx]
  clear hRq hRx
  rcases hcs with ⟨i1, hI⟩ | ⟨i1, i2, hI⟩ | ⟨i, rfl, hi, hw, hI⟩ | ⟨i, rfl, hi, hw, hI⟩
  · have HV : Hid (wantC n Rx I = 3 ∧ movR n Rx I N = Rx) := hide ⟨by simp [wantC, hI], by simp [movR, hI]⟩
    clear hI
    go_enter Try.func9, Try.ntmps9
    go_upto_region 1 with fail
    generalize w.alloc (.cells #[.int .i64 6, .int .i64 I, .int .i64 N] 35) = W0 at HD0 ⊢
    have k0 := HD0.out.k
    have k1 := HD0.out.i
    have k2 := HD0.out.nn
    go_wp2_with (first
      | (go_at_call 21; (with_reducible refine (HQ.out _ HD0.out.q).mono ?_); rintro e w2 ⟨rfl, h1, h2⟩; have HD2 := hide (HD0.out.setq h1 h2); clear h1 h2))
    go_ret
    refine ⟨_, rfl, fun he => ?_, HD2.out.q, ?_, HD2.out.chg⟩
    · have h1 := HC.out
      rw [he] at h1
      have h2 := HV.out.1
      rw [h1] at h2
      subst h2
      rfl
    · rw [HV.out.2]
      exact HD2.out.x
  · have HV : Hid (wantC n Rx I = 3 ∧ movR n Rx I N = Rx) := hide ⟨by simp [wantC, hI], by simp [movR, hI]⟩
    clear hI
    go_enter Try.func9, Try.ntmps9
    go_upto_region 1 with fail
    generalize w.alloc (.cells #[.int .i64 6, .int .i64 I, .int .i64 N] 35) = W0 at HD0 ⊢
    have k0 := HD0.out.k
    have k1 := HD0.out.i
    have k2 := HD0.out.nn
    go_wp2_with (first
      | (go_at_call 21; (with_reducible refine (HQ.out _ HD0.out.q).mono ?_); rintro e w2 ⟨rfl, h1, h2⟩; have HD2 := hide (HD0.out.setq h1 h2); clear h1 h2))
    go_ret
    refine ⟨_, rfl, fun he => ?_, HD2.out.q, ?_, HD2.out.chg⟩
    · have h1 := HC.out
      rw [he] at h1
      have h2 := HV.out.1
      rw [h1] at h2
      subst h2
      rfl
    · rw [HV.out.2]
      exact HD2.out.x
  · have HV : Hid (wantC n Rx (i : Int) = 7 ∧ movR n Rx (i : Int) N = Rx) := hide ⟨by simp [wantC, hI, hw], by simp [movR, hI, hw]⟩
    have hwv : whV Rx i = -1 := by simp [whV, hw]
    have HWh := hide (fun W hW => where_any gx i Rx HL.out W hW)
    rw [hwv] at HWh
    have i1 : decide ((0 : Int) ≤ (i : Int)) = true := by simp
    have i2 : decide ((i : Int) < (n : Int)) = true := by simp; omega
    have i3 : decide (i < n) = true := by simp; omega
    clear hwv
    clear hI hi hw
    go_enter Try.func9, Try.ntmps9
    go_upto_region 1 with fail
    generalize w.alloc (.cells #[.int .i64 6, .int .i64 (i : Int), .int .i64 N] 35) = W0 at HD0 ⊢
    have k0 := HD0.out.k
    have k1 := HD0.out.i
    have k2 := HD0.out.nn
    go_wp2_with (first
      | (go_at_call 23; (with_reducible refine (HWh.out _ HD0.out.x).mono ?_); rintro e wx ⟨rfl, hw⟩; subst wx)
      | (go_at_call 21; (with_reducible refine (HQ.out _ HD0.out.q).mono ?_); rintro e w2 ⟨rfl, h1, h2⟩; have HD2 := hide (HD0.out.setq h1 h2); clear h1 h2))
    go_ret
    refine ⟨_, rfl, fun he => ?_, HD2.out.q, ?_, HD2.out.chg⟩
    · have h1 := HC.out
      rw [he] at h1
      have h2 := HV.out.1
      rw [h1] at h2
      subst h2
      rfl
    · rw [HV.out.2]
      exact HD2.out.x
  · have HV : Hid (wantC n Rx (i : Int) = 0 ∧ movR n Rx (i : Int) N = putR Rx i (moved (wh Rx i) N)) := hide ⟨by simp [wantC, hI, hw], by simp [movR, hI, hw]⟩
    obtain ⟨k, hk⟩ : ∃ k, wh Rx i = k := ⟨_, rfl⟩
    have hwv : whV Rx i = (k : Int) := by unfold whV; rw [if_pos hw, hk]
    have HWh := hide (fun W hW => where_any gx i Rx HL.out W hW)
    rw [hwv] at HWh
    have HX := hide (fun W hW => rmove_any gx i N Rx hN1 hN2 hw HL.out W hW)
    have i1 : decide ((0 : Int) ≤ (i : Int)) = true := by simp
    have i2 : decide ((i : Int) < (n : Int)) = true := by simp; omega
    have i3 : decide (i < n) = true := by simp; omega
    have i4 : decide ((k : Int) < 0) = false := by simp
    clear hwv hI hi hw hk
    go_enter Try.func9, Try.ntmps9
    go_upto_region 1 with fail
    generalize w.alloc (.cells #[.int .i64 6, .int .i64 (i : Int), .int .i64 N] 35) = W0 at HD0 ⊢
    have k0 := HD0.out.k
    have k1 := HD0.out.i
    have k2 := HD0.out.nn
    go_wp2_with (first
      | (go_at_call 23; (with_reducible refine (HWh.out _ HD0.out.x).mono ?_); rintro e wx ⟨rfl, hw⟩; subst wx)
      | (go_at_call 26; (with_reducible refine (HX.out _ HD0.out.x).mono ?_); rintro e w1 ⟨rfl, h1, h2⟩; have HD1 := hide (HD0.out.setx h1 h2); clear h1 h2; have m0 := HD1.out.k; have m1 := HD1.out.i; have m2 := HD1.out.nn)
      | (go_at_call 21; (with_reducible refine (HQ.out _ HD1.out.q).mono ?_); rintro e w2 ⟨rfl, h1, h2⟩; have HD2 := hide (HD1.out.setq h1 h2); clear h1 h2))
    go_ret
    refine ⟨_, rfl, fun he => ?_, HD2.out.q, ?_, HD2.out.chg⟩
    · have h1 := HC.out
      rw [he] at h1
      have h2 := HV.out.1
      rw [h1] at h2
      subst h2
      rfl
    · rw [HV.out.2]
      exact HD2.out.x
end Go.Proofs.Ytafhkjipjgkkkaa.Lv
