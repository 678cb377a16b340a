/- Rows of numbers, and the document's Ints at equal rows. -/
import Derived.Test.YtmocaabdfiffnaaVwCount
import Derived.BigQuiet
namespace Go.Proofs.Ytmocaabdfiffnaa.Ct
open Go.RowKit Go.Proofs.Ytmocaabdfiffnaa.W
set_option linter.unusedVariables false
set_option linter.unusedSimpArgs false


theorem int_info : (Try.prog.info? 3).map (fun i => (i.zero, i.size, i.bytes)) = some (some (.int .i64 0), 1, 8) := by kernel_rfl
def toV (L : List Nat) : List Value := L.map fun (a : Nat) => Value.int .i64 (a : Int)
def RowV (w : World) (v : Value) (L : List Nat) : Prop := (L = [] ∧ v = .slice none 0 0) ∨ ∃ b cap cs, v = .slice (some ⟨b, 0, none⟩) L.length cap ∧ Blk w b 3 cs ∧ ∀ j, j < L.length → cs[j]? = (toV L)[j]?
theorem RowV.keep {w w' : World} {v : Value} {L : List Nat} (h : RowV w v L) (hk : ∀ b cs, Blk w b 3 cs → Blk w' b 3 cs) : RowV w' v L := by
  rcases h with h | ⟨b, cap, cs, h1, h2, h3⟩
  · exact .inl h
  · exact .inr ⟨b, cap, cs, h1, hk b cs h2, h3⟩
theorem RowV.later {w w' : World} {v : Value} {L : List Nat} (hb : Below w.heap.size w w') (h : RowV w v L) : RowV w' v L := h.keep (fun b cs h => W.later hb h)
theorem RowV.chg {w w' : World} {v : Value} {L : List Nat} {g : Nat} {t : TypeId} {cs : Array Value} (h : RowV w v L) (hc : Chg (one g) w w') (hg : Blk w g t cs) (ht : 3 ≠ t) : RowV w' v L :=
  h.keep (fun b cs' hb => hb.chg hc (fun (e : b = g) => (Blk.ne_ hb hg ht) e))
theorem RowV.form {w : World} {v : Value} {L : List Nat} (h : RowV w v L) : ∃ A c, v = .slice A L.length c := by
  rcases h with ⟨rfl, h⟩ | ⟨b, cap, cs, h1, _, _⟩
  · exact ⟨none, 0, h⟩
  · exact ⟨_, cap, h1⟩
theorem toV_at {L : List Nat} {j a : Nat} (h : L[j]? = some a) : (toV L)[j]? = some (.int .i64 (a : Int)) := by simp [toV, h]
theorem RowV.at {w : World} {A : Option Addr} {k c : Nat} {L : List Nat} (h : RowV w (.slice A k c) L) {j a : Nat} (hj : L[j]? = some a) : ∃ b, A = some ⟨b, 0, none⟩ ∧ k = L.length ∧ w.cell? ⟨b, j, none⟩ = some (.int .i64 (a : Int)) := by
  have hlt : j < L.length := by
    rcases Nat.lt_or_ge j L.length with h | h
    · exact h
    · rw [List.getElem?_eq_none h] at hj; cases hj
  rcases h with ⟨rfl, h⟩ | ⟨b, cap, cs, h1, h2, h3⟩
  · simp at hlt
  · injection h1 with e1 e2 e3
    exact ⟨b, e1, e2, by rw [h2.cell, h3 j hlt, toV_at hj]⟩
theorem RowV.of_own {w : World} {base : Nat} {A : Option Addr} {c : Nat} {L : List Nat} (h : w.ownsRow base 3 1 (.slice A L.length c) L.length (toV L)) : RowV w (.slice A L.length c) L := by
  rcases h.2 with ⟨hv, h0⟩ | ⟨g, cap, cur, hv, hb, hg, _, _, _, ht⟩
  · exact .inl ⟨List.eq_nil_of_length_eq_zero h0, hv⟩
  · refine .inr ⟨g, cap, cur, hv, hg, fun j hj => ?_⟩
    rw [← ht, List.getElem?_take, if_pos (by omega)]
    simp
def IntsRel (w : World) (n k : Nat) (s5 : Value) (wr : World) : Prop := ∃ i q : Nat, s5 = .int .i64 (i : Int) ∧ i + k = n ∧ wr = w.drewN q
set_option maxRecDepth 100000 in
theorem ints_yes (A B : Option Addr) (n c d : Nat) (L : List Nat) (hn : n = L.length) (hn2 : n ≤ 1000) (w : World) (hA : RowV w (.slice A n c) L) (hB : RowV w (.slice B n d) L) :
    Calls Try.prog 10 #[.slice A n c, .slice B n d] w fun e w' => e = .returned (.bool true) ∧ ∃ q, w' = w.drewN q := by
  have h2 : ((n : Int) != (n : Int)) = false := by simp
  have HA := hide hA
  have HB := hide hB
  have HN := hide hn
  clear hA hB hn
  go_enter Try.func10, Try.ntmps10
  go_wp2_with fail
  go_loopg [5] n (fun k s5 wr => IntsRel w n k s5 wr)
  case atStart => exact ⟨0, 0, rfl, by omega, rfl⟩
  case round =>
    obtain ⟨i, q, rfl, hk, rfl⟩ := hrel
    by_cases hi : i < n
    · have hgk : 0 < gk := by omega
      have hi' : (i : Int) < (n : Int) := by omega
      obtain ⟨a, ha⟩ : ∃ a, L[i]? = some a := ⟨_, List.getElem?_eq_getElem (by rw [← HN.out]; exact hi)⟩
      obtain ⟨b1, rfl, -, c1⟩ := HA.out.at ha
      obtain ⟨b2, rfl, -, c2⟩ := HB.out.at ha
      have e1 : ((a : Int) != (a : Int)) = false := by simp
      clear ha
      go_wp2_with fail
      go_quiet (fail)
      go_wp2_with fail
      go_roundg (gk - 1)
      case measure => omega
      case rel => exact ⟨i + 1, _, by go_num, by omega, by first | rfl | exact World.drewN_drewN _ _ _⟩
    · have hi' : decide (i < n) = false := by simp; omega
      have hi'' : decide ((i : Int) < (n : Int)) = false := by simp; omega
      clear hi
      go_wp2_with fail
      go_ret
      exact ⟨rfl, _, rfl⟩
end Go.Proofs.Ytmocaabdfiffnaa.Ct
