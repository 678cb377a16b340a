/- The law that every call is answered as the document says: walked. -/
import Derived.Test.YtadlfebpaijbhaaSmqAwake
namespace Go.Proofs.Ytadlfebpaijbhaa.Lv
open Go.RowKit Go.Proofs.Ytadlfebpaijbhaa.W Go.Proofs.Ytadlfebpaijbhaa.Dice
set_option linter.unusedVariables false
set_option linter.unusedSimpArgs false

def actA (K I : Nat → Int) (i j : Nat) : Value := if j = 0 then .int .i64 (K i) else .int .i64 (I i)
/-- Both policies in the law's own memory. -/
structure LA (w : World) (gp gq gh gx ga gb : Nat) (s : Sm) (wr : World) : Prop where
  p : PA wr gp gq gh s
  x : XA wr gx ga gb s
  below : Below w.heap.size w wr
  lp : w.heap.size ≤ gp ∧ w.heap.size ≤ gq ∧ w.heap.size ≤ gh
  lx : w.heap.size ≤ gx ∧ w.heap.size ≤ ga ∧ w.heap.size ≤ gb
theorem LA.later {w wr w' : World} {gp gq gh gx ga gb : Nat} {s : Sm} (h : LA w gp gq gh gx ga gb s wr) (hb : Below wr.heap.size wr w') : LA w gp gq gh gx ga gb s w' :=
  ⟨h.p.later hb, h.x.later hb, h.below.trans (hb.mono h.below.size), h.lp, h.lx⟩
theorem LA.drewN {w wr : World} {gp gq gh gx ga gb : Nat} {s : Sm} (h : LA w gp gq gh gx ga gb s wr) (n : Nat) : LA w gp gq gh gx ga gb s (wr.drewN n) :=
  ⟨h.p.drewN n, h.x.drewN n, below_drewN h.below n, h.lp, h.lx⟩
theorem LA.de {w wr w' : World} {gp gq gh gx ga gb : Nat} {s s' : Sm} {e : Ending} (h : LA w gp gq gh gx ga gb s wr) (hd : DE gp gq gh gx ga gb s' wr e w') : LA w gp gq gh gx ga gb s' w' :=
  ⟨hd.2.1, hd.2.2.1, h.below.trans (hd.2.2.2.below h.below.size (fun i hi => by
    have h1 := h.lp
    have h2 := h.lx
    rcases hi with (rfl | rfl | rfl) | (rfl | rfl | rfl) <;> omega)), h.lp, h.lx⟩
theorem LA.pe {w wr w' : World} {gp gq gh gx ga gb : Nat} {s s' : Sm} {v : Value} {e : Ending} (h : LA w gp gq gh gx ga gb s wr) (hd : PE gp gq gh s' v wr e w') : PA w' gp gq gh s' ∧ Below w.heap.size w w' :=
  ⟨hd.2.1, hd.below h.below h.lp⟩
def LRel (w : World) (gp gq gh gx ga gb M len : Nat) (k : Nat) (s5 : Value) (wr : World) : Prop := ∃ (i : Nat) (s : Sm), s5 = .int .i64 (i : Int) ∧ i + k = M ∧ i ≤ len ∧ s.t ≤ i ∧ LA w gp gq gh gx ga gb s wr
theorem la_new {w w1 w2 w3 : World} {gp gq gh gx ga gb : Nat} (hp : PA w1 gp gq gh sm0) (hb : Below w.heap.size w w1) (hl : w.heap.size ≤ gp ∧ w.heap.size ≤ gq ∧ w.heap.size ≤ gh) (hx : XA w2 gx ga gb sm0) (hb2 : Below w1.heap.size w1 w2) (hl2 : w1.heap.size ≤ gx ∧ w1.heap.size ≤ ga ∧ w1.heap.size ≤ gb) (hb3 : Below w2.heap.size w2 w3) : LA w gp gq gh gx ga gb sm0 w3 := by
  have h1 := hb.size
  have h : LA w gp gq gh gx ga gb sm0 w2 := ⟨hp.later hb2, hx, hb.trans (hb2.mono hb.size), hl, by omega⟩
  exact h.later hb3
set_option maxRecDepth 100000 in
set_option maxHeartbeats 4000000 in
theorem smqDoes_walk (A : Option Addr) (len c : Nat) (K I : Nat → Int) (w : World) (hl : len ≤ maxLen) (hA : Holds w w.heap.size 2 A len (actA K I)) :
    Calls Try.prog 4 #[.slice A len c] w fun e w' => e = .returned (.bool true) ∧ Below w.heap.size w w' := by
  unfold maxLen at hl
  have HA := hide hA
  have HNew := hide (pnew_any w)
  clear hA
  go_enter Try.func4, Try.ntmps4
  go_upto_region 4 with (first
    | (go_at_call 6; (with_reducible refine HNew.out.mono ?_); rintro e w1 ⟨gp, gq, gh, rfl, h1, h2, h3⟩; have H1 := hide h1; have H2 := hide h2; have H3 := hide h3; clear h1 h2 h3)
    | (go_at_call 7; (with_reducible refine (xnew_any _).mono ?_); rintro e w2 ⟨gx, ga, gb, rfl, h1, h2, h3⟩; have H4 := hide h1; have H5 := hide h2; have H6 := hide h3; clear h1 h2 h3)
    | (go_at_call 8; (with_reducible refine (awake_any _).mono ?_); rintro e w3 ⟨rfl, hb⟩; have H7 := hide hb; clear hb))
  have HL0 := hide (la_new H1.out H2.out H3.out H4.out H5.out H6.out H7.out)
  clear H1 H2 H3 H4 H5 H6 H7 HNew
  go_wp2_with fail
  go_loopg [5] 120 (fun k s5 wr => LRel w gp gq gh gx ga gb 120 len k s5 wr)
  case atStart => exact ⟨0, sm0, rfl, rfl, by omega, Nat.le_refl _, HL0.out⟩
  case round =>
    clear HL0
    obtain ⟨i, s, rfl, hk, hil, hst, hla⟩ := hrel
    have HLa := hide hla
    clear hla
    by_cases hgo : i < len ∧ i < 120
    · have hgk : 0 < gk := by omega
      have hi1 : (i : Int) < (len : Int) := by omega
      have hi2 : (i : Int) < 120 := by omega
      obtain ⟨b, off, rfl, hbB, hc⟩ := HA.out (by omega)
      have c0 := (HLa.out.below.cell (p := ⟨b, off + i * 2 + 0, none⟩) hbB).trans (hc i 0 hgo.1 (by omega))
      have c1 := (HLa.out.below.cell (p := ⟨b, off + i * 2 + 1, none⟩) hbB).trans (hc i 1 hgo.1 (by omega))
      simp [actA] at c0 c1
      have HDo := hide (do_any gp gq gh gx ga gb s (K i) (I i) (by omega) wr HLa.out.p HLa.out.x)
      have HT : Hid ((stepS s (K i) (I i)).t ≤ i + 1) := hide (by
        have := stepS_t s (K i) (I i)
        omega)
      obtain ⟨s', hs'⟩ : ∃ s', stepS s (K i) (I i) = s' := ⟨_, rfl⟩
      rw [hs'] at HDo HT
      clear hc hgo hs' hst
      go_wp2_with (first
        | (go_at_call 9; (with_reducible refine HDo.out.mono ?_); intro e w3 hd; have HLa3 := hide (HLa.out.de hd); obtain ⟨he, _, _⟩ := hd; subst he)
        | (go_at_call 13; (with_reducible refine (same_any gp gq gh gx ga gb s' _ HLa3.out.p HLa3.out.x).mono ?_); rintro e w4 ⟨rfl, d, rfl⟩; have HLa4 := hide (HLa3.out.drewN d)))
      go_roundg (gk - 1)
      case measure => omega
      case rel => exact ⟨i + 1, s', by go_num, by omega, by omega, HT.out, HLa4.out⟩
    · have hcs : (decide ((i : Int) < (len : Int)) = false ∧ decide (i < len) = false) ∨ ((i : Int) < (len : Int) ∧ decide ((i : Int) < 120) = false ∧ decide (i < 120) = false) := by
        simp; omega
      clear hgo
      rcases hcs with ⟨t1, t2⟩ | ⟨t1, t2, t3⟩
      all_goals
        go_wp2_with fail
        go_ret
        exact ⟨rfl, HLa.out.below⟩
end Go.Proofs.Ytadlfebpaijbhaa.Lv
