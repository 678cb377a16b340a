/- A policy in memory, and its small calls. -/
import Derived.Test.YtadlfebpaijbhaaLevRef2
import Derived.Test.YtadlfebpaijbhaaLevNew
import Derived.Test.YtadlfebpaijbhaaSmqPlain
import Derived.BigQuiet
namespace Go.Proofs.Ytadlfebpaijbhaa.Lv
open Go.RowKit Go.Proofs.Ytadlfebpaijbhaa.W
set_option linter.unusedVariables false
set_option linter.unusedSimpArgs false

theorem info75 : (Try.prog.info? 52).map (·.size) = some 75 := by kernel_rfl
def pcell (gq gh : Nat) (C : Nat → Nat) (U : Nat → Bool) (t : Nat) : Nat → Value := fun c =>
  if c = 0 then .pointer (some ⟨gq, 0, none⟩) else if c = 1 then .pointer (some ⟨gh, 0, none⟩) else if c < 66 then .int .i64 (C (c - 2) : Int) else if c < 74 then .bool (U (c - 66)) else .int .i64 (t : Int)
theorem pcell_count (gq gh : Nat) (C : Nat → Nat) (U : Nat → Bool) (t : Nat) {c : Nat} (h : c < 64) : pcell gq gh C U t (2 + c) = .int .i64 (C c : Int) := by
  unfold pcell
  rw [if_neg (by omega), if_neg (by omega), if_pos (by omega), show 2 + c - 2 = c by omega]
theorem pcell_used (gq gh : Nat) (C : Nat → Nat) (U : Nat → Bool) (t : Nat) {c : Nat} (h : c < 8) : pcell gq gh C U t (66 + c) = .bool (U c) := by
  unfold pcell
  rw [if_neg (by omega), if_neg (by omega), if_neg (by omega), if_pos (by omega), show 66 + c - 66 = c by omega]
theorem row_upd_count (gq gh : Nat) (C : Nat → Nat) (U : Nat → Bool) (t : Nat) {c : Nat} (h : c < 64) (x : Nat) : row 75 (upd (pcell gq gh C U t) (2 + c) (.int .i64 (x : Int))) = row 75 (pcell gq gh (upd C c x) U t) := by
  apply row_congr
  intro i hi
  unfold upd
  by_cases he : i = 2 + c
  · subst he
    rw [if_pos rfl, pcell_count _ _ _ _ _ h]
    show _ = Value.int .i64 ((if c = c then x else C c : Nat) : Int)
    rw [if_pos rfl]
  · rw [if_neg he]
    unfold pcell
    split
    · rfl
    · split
      · rfl
      · split
        · show _ = Value.int .i64 ((if i - 2 = c then x else C (i - 2) : Nat) : Int)
          rw [if_neg (by omega)]
        · rfl
theorem row_upd_used (gq gh : Nat) (C : Nat → Nat) (U : Nat → Bool) (t : Nat) {c : Nat} (h : c < 8) (x : Bool) : row 75 (upd (pcell gq gh C U t) (66 + c) (.bool x)) = row 75 (pcell gq gh C (upd U c x) t) := by
  apply row_congr
  intro i hi
  unfold upd
  by_cases he : i = 66 + c
  · subst he
    rw [if_pos rfl, pcell_used _ _ _ _ _ h]
    show _ = Value.bool (if c = c then x else U c)
    rw [if_pos rfl]
  · rw [if_neg he]
    unfold pcell
    split
    · rfl
    · split
      · rfl
      · split
        · rfl
        · split
          · show _ = Value.bool (if i - 66 = c then x else U (i - 66))
            rw [if_neg (by omega)]
          · rfl
theorem row_upd_clock (gq gh : Nat) (C : Nat → Nat) (U : Nat → Bool) (t x : Nat) : row 75 (upd (pcell gq gh C U t) 74 (.int .i64 (x : Int))) = row 75 (pcell gq gh C U x) := by
  apply row_congr
  intro i hi
  unfold upd
  by_cases he : i = 74
  · subst he
    rw [if_pos rfl]
    rfl
  · rw [if_neg he]
    unfold pcell
    split
    · rfl
    · split
      · rfl
      · split
        · rfl
        · rw [if_pos (by omega), if_pos (by omega)]
def three (a b c : Nat) : Nat → Prop := fun k => k = a ∨ k = b ∨ k = c
/-- A policy in memory. -/
structure PA (w : World) (gp gq gh : Nat) (s : Sm) : Prop where
  p : Blk w gp 52 (row 75 (pcell gq gh s.C s.U s.t))
  q : QAt w gq 16 s.H
  h : QAt w gh 8 s.L
  ne : gq ≠ gh
  ok : Ok s
  t : s.t ≤ 1000000
theorem QAt.blk {w : World} {g n : Nat} {R : Nat → List Nat} (h : QAt w g n R) : ∃ cs, Blk w g 70 cs := by
  obtain ⟨F, hF, _⟩ := h
  exact ⟨_, hF⟩
theorem PA.nq {w : World} {gp gq gh : Nat} {s : Sm} (h : PA w gp gq gh s) : gp ≠ gq := by
  obtain ⟨cs, hc⟩ := h.q.blk
  exact h.p.ne_ hc (by decide)
theorem PA.nh {w : World} {gp gq gh : Nat} {s : Sm} (h : PA w gp gq gh s) : gp ≠ gh := by
  obtain ⟨cs, hc⟩ := h.h.blk
  exact h.p.ne_ hc (by decide)
theorem PA.c0 {w : World} {gp gq gh : Nat} {s : Sm} (h : PA w gp gq gh s) : w.cell? ⟨gp, 0, none⟩ = some (.pointer (some ⟨gq, 0, none⟩)) := h.p.at (i := 0) (by omega)
theorem PA.c1 {w : World} {gp gq gh : Nat} {s : Sm} (h : PA w gp gq gh s) : w.cell? ⟨gp, 1, none⟩ = some (.pointer (some ⟨gh, 0, none⟩)) := h.p.at (i := 1) (by omega)
theorem PA.ct {w : World} {gp gq gh : Nat} {s : Sm} (h : PA w gp gq gh s) : w.cell? ⟨gp, 74, none⟩ = some (.int .i64 (s.t : Int)) := h.p.at (i := 74) (by omega)
theorem PA.chg {S : Nat → Prop} {w w' : World} {gp gq gh : Nat} {s : Sm} (h : PA w gp gq gh s) (hc : Chg S w w') (h1 : ¬ S gp) (h2 : ¬ S gq) (h3 : ¬ S gh) : PA w' gp gq gh s := ⟨h.p.chg hc h1, h.q.chg hc h2, h.h.chg hc h3, h.ne, h.ok, h.t⟩
theorem PA.later {w w' : World} {gp gq gh : Nat} {s : Sm} (hb : Below w.heap.size w w') (h : PA w gp gq gh s) : PA w' gp gq gh s := h.chg (Chg.of_below (S := none1) hb) id id id
/-- What a call of a policy leaves. -/
def PE (gp gq gh : Nat) (s : Sm) (v : Value) (w : World) (e : Ending) (w' : World) : Prop := e = .returned v ∧ PA w' gp gq gh s ∧ Chg (three gp gq gh) w w'
theorem PE.same {w : World} {gp gq gh : Nat} {s : Sm} {v : Value} (h : PA w gp gq gh s) : PE gp gq gh s v w (.returned v) w := ⟨rfl, h, Chg.refl _ _⟩
/-- The hot queue has changed. -/
theorem PA.hot {w w' : World} {gp gq gh : Nat} {s : Sm} (h : PA w gp gq gh s) {R : Nat → List Nat} (hq : QAt w' gq 16 R) (hc : Chg (one gq) w w') : PA w' gp gq gh { s with H := R } :=
  ⟨h.p.chg hc (fun (e : gp = gq) => h.nq e), hq, h.h.chg hc (fun (e : gh = gq) => h.ne e.symm), h.ne, ⟨hq.good, h.ok.l, h.ok.c⟩, h.t⟩
theorem PA.held {w w' : World} {gp gq gh : Nat} {s : Sm} (h : PA w gp gq gh s) {R : Nat → List Nat} (hq : QAt w' gh 8 R) (hc : Chg (one gh) w w') : PA w' gp gq gh { s with L := R } :=
  ⟨h.p.chg hc (fun (e : gp = gh) => h.nh e), h.q.chg hc (fun (e : gq = gh) => h.ne e), hq, h.ne, ⟨h.ok.h, hq.good, h.ok.c⟩, h.t⟩
theorem PA.used {w : World} {gp gq gh : Nat} {s : Sm} (h : PA w gp gq gh s) {i : Nat} (hi : i < 8) (x : Bool) : PA (w.setCell ⟨gp, 66 + i, none⟩ (.bool x)) gp gq gh { s with U := upd s.U i x } := by
  have hc := chg_self gp (66 + i) (.bool x) w
  refine ⟨?_, h.q.chg hc (fun (e : gq = gp) => h.nq e.symm), h.h.chg hc (fun (e : gh = gp) => h.nh e.symm), h.ne, ⟨h.ok.h, h.ok.l, h.ok.c⟩, h.t⟩
  have := h.p.upd (66 + i) (.bool x)
  rw [row_upd_used _ _ _ _ _ hi] at this
  exact this
theorem PA.count {w : World} {gp gq gh : Nat} {s : Sm} (h : PA w gp gq gh s) {c : Nat} (hc64 : c < 64) {x : Nat} (hx : x ≤ 1048576) : PA (w.setCell ⟨gp, 2 + c, none⟩ (.int .i64 (x : Int))) gp gq gh { s with C := upd s.C c x } := by
  have hc := chg_self gp (2 + c) (.int .i64 (x : Int)) w
  refine ⟨?_, h.q.chg hc (fun (e : gq = gp) => h.nq e.symm), h.h.chg hc (fun (e : gh = gp) => h.nh e.symm), h.ne, ⟨h.ok.h, h.ok.l, fun j => ?_⟩, h.t⟩
  · have := h.p.upd (2 + c) (.int .i64 (x : Int))
    rw [row_upd_count _ _ _ _ _ hc64] at this
    exact this
  · show upd s.C c x j ≤ _
    unfold upd
    split
    · exact hx
    · exact h.ok.c j
theorem PA.clock {w : World} {gp gq gh : Nat} {s : Sm} (h : PA w gp gq gh s) {x : Nat} (hx : x ≤ 1000000) : PA (w.setCell ⟨gp, 74, none⟩ (.int .i64 (x : Int))) gp gq gh { s with t := x } := by
  have hc := chg_self gp 74 (.int .i64 (x : Int)) w
  refine ⟨?_, h.q.chg hc (fun (e : gq = gp) => h.nq e.symm), h.h.chg hc (fun (e : gh = gp) => h.nh e.symm), h.ne, ⟨h.ok.h, h.ok.l, h.ok.c⟩, hx⟩
  have := h.p.upd 74 (.int .i64 (x : Int))
  rw [row_upd_clock] at this
  exact this
def heatV (n : Nat) (R : Nat → List Nat) (i : Int) : Value := if 0 ≤ i ∧ i < (n : Int) ∧ wh R i.toNat < 4 then .tuple #[.int .i64 (wh R i.toNat : Int), .bool true] else .tuple #[.int .i64 0, .bool false]
theorem level_any (g n : Nat) (R : Nat → List Nat) (i : Int) (w : World) (hq : QAt w g n R) : Calls Try.prog 26 #[.pointer (some ⟨g, 0, none⟩), .int .i64 i] w fun e w' => e = .returned (heatV n R i) ∧ w' = w := by
  unfold heatV
  by_cases h : i < 0 ∨ (n : Int) ≤ i
  · rw [if_neg (by omega)]
    exact level_out g n R i h w hq
  · obtain ⟨j, rfl⟩ : ∃ j : Nat, i = (j : Int) := ⟨i.toNat, by omega⟩
    rw [Int.toNat_natCast]
    by_cases hw : wh R j = 4
    · rw [if_neg (by omega)]
      exact level_off g n R j (by omega) hw w hq
    · rw [if_pos ⟨by omega, by omega, wh_lt hw⟩]
      exact level_on g n R j _ (by omega) (wh_lt hw) (wh_mem (wh_lt hw)) w hq
theorem heatV_form (n : Nat) (R : Nat → List Nat) (i : Int) : ∃ (a : Int) (b : Bool), heatV n R i = .tuple #[.int .i64 a, .bool b] := by
  unfold heatV
  split
  · exact ⟨_, _, rfl⟩
  · exact ⟨_, _, rfl⟩
theorem heat_any (gp gq gh : Nat) (s : Sm) (i : Int) (w : World) (h : PA w gp gq gh s) : Calls Try.prog 11 #[.pointer (some ⟨gp, 0, none⟩), .int .i64 i] w fun e w' => e = .returned (heatV 16 s.H i) ∧ w' = w := by
  have c0 := h.c0
  have HQ := hide (level_any gq 16 s.H i w h.q)
  obtain ⟨a, b, hv⟩ := heatV_form 16 s.H i
  rw [hv] at HQ ⊢
  clear h hv
  go_enter Try.func11, Try.ntmps11
  go_wp2_with (first
    | (go_at_call 26; (with_reducible refine HQ.out.mono ?_); rintro e wx ⟨rfl, hw⟩; subst wx))
  go_ret2
  exact ⟨rfl, rfl⟩
theorem warmth_any (gp gq gh : Nat) (s : Sm) (i : Int) (w : World) (h : PA w gp gq gh s) : Calls Try.prog 30 #[.pointer (some ⟨gp, 0, none⟩), .int .i64 i] w fun e w' => e = .returned (heatV 8 s.L i) ∧ w' = w := by
  have c1 := h.c1
  have HQ := hide (level_any gh 8 s.L i w h.h)
  obtain ⟨a, b, hv⟩ := heatV_form 8 s.L i
  rw [hv] at HQ ⊢
  clear h hv
  go_enter Try.func30, Try.ntmps30
  go_wp2_with (first
    | (go_at_call 26; (with_reducible refine HQ.out.mono ?_); rintro e wx ⟨rfl, hw⟩; subst wx))
  go_ret2
  exact ⟨rfl, rfl⟩
theorem clock_any (gp gq gh : Nat) (s : Sm) (w : World) (h : PA w gp gq gh s) : Calls Try.prog 21 #[.pointer (some ⟨gp, 0, none⟩)] w fun e w' => e = .returned (.int .i64 (s.t : Int)) ∧ w' = w := by
  have ct := h.ct
  clear h
  go_enter Try.func21, Try.ntmps21
  go_wp2_with fail
  go_ret
  exact ⟨rfl, rfl⟩
end Go.Proofs.Ytadlfebpaijbhaa.Lv
