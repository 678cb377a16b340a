/- Slices of bytes that are read. No program is in sight. -/
import Derived.Test.YtegimagdlcbljaaApp
namespace Go.Proofs.Ytegimagdlcbljaa.W
open Go.RowKit Go.ChangeShapes Go.WideShapes Go.Deep
set_option linter.unusedVariables false
set_option linter.unusedSimpArgs false

/-- The slice (A, n) reads as the bytes L. -/
def BytesAt (w : World) (B : Nat) (A : Option Addr) (n : Nat) (L : List (BitVec 8)) : Prop :=
  L.length = n ∧ (0 < n → ∃ b off, A = some ⟨b, off, none⟩ ∧ b < B ∧ ∀ j x, L[j]? = some x → w.cell? ⟨b, off + j, none⟩ = some (.int .u8 (x.toNat : Int)))
section
variable {w w' : World} {B B' : Nat} {A : Option Addr} {n : Nat} {L : List (BitVec 8)}
theorem BytesAt.keep (h : BytesAt w B A n L) (hk : ∀ p : Addr, p.block < B → w'.cell? p = w.cell? p) : BytesAt w' B A n L :=
  ⟨h.1, fun hn => by
    obtain ⟨b, off, e, hb, hc⟩ := h.2 hn
    exact ⟨b, off, e, hb, fun j x hx => (hk ⟨b, _, none⟩ hb).trans (hc j x hx)⟩⟩
theorem BytesAt.below (h : BytesAt w B A n L) (hb : Below B w w') : BytesAt w' B A n L := h.keep fun _ hp => hb.cell hp
theorem BytesAt.same (h : BytesAt w B A n L) (e : w'.heap = w.heap) : BytesAt w' B A n L := h.keep fun _ _ => World.cell?_of_block (by rw [e])
theorem BytesAt.more (h : BytesAt w B A n L) (hB : B ≤ B') : BytesAt w B' A n L := ⟨h.1, fun hn => by
  obtain ⟨b, off, e, hb, hc⟩ := h.2 hn
  exact ⟨b, off, e, by omega, hc⟩⟩
theorem BytesAt.nil (w : World) (B : Nat) (A : Option Addr) : BytesAt w B A 0 [] := ⟨rfl, fun h => absurd h (by omega)⟩
theorem BytesAt.of_own {base : Nat} {e : TypeId} {c : Nat} (h : w.ownsRow base e 1 (.slice A n c) n (L.map fun x => Value.int .u8 (x.toNat : Int))) : BytesAt w w.heap.size A n L := by
  refine ⟨by have := h.1; simpa using this, fun hn => ?_⟩
  rcases h.2 with ⟨_, h0⟩ | ⟨g, cap, cur, hv, _, hg, _, _, _, ht⟩
  · omega
  · have hA : A = some ⟨g, 0, none⟩ := by injection hv
    subst hA
    refine ⟨g, 0, rfl, ?_, fun j x hx => ?_⟩
    · rcases Nat.lt_or_ge g w.heap.size with hlt | hge
      · exact hlt
      · rw [Array.getElem?_eq_none hge] at hg; cases hg
    · rw [Nat.zero_add, cell_of_row w g j cur e (0, 0) hg]
      have h1 : (List.take (n * 1) cur.toList)[j]? = some (.int .u8 (x.toNat : Int)) := by rw [ht]; simp [hx]
      rw [List.getElem?_take] at h1
      split at h1
      · simpa using h1
      · cases h1
end

section
variable {H : Type} {enc : TypeId × Value → H} {P : Program} {w : World}
/-- An argument that is a slice of bytes, opened. -/
theorem open_bytes {r : Reach} {t e : TypeId} {v : Value} {d : DataW H} {p : List MemPlace} (ht : P.underlying t = some (.slice e)) (he : P.underlying e = some (.int .u8)) (hC : P.cellsOf e = 1) {b0 : Nat}
    (hv : Value.okWide P w r b0 t v) (h : DataW.Trod enc P w 0 (fun _ => true) true t v d p) :
    ∃ (A : Option Addr) (n c : Nat) (L : List (BitVec 8)), v = .slice A n c ∧ n ≤ c ∧ c ≤ maxLen ∧ BytesAt w w.heap.size A n L := by
  obtain ⟨a0, len0, cap0, rfl⟩ := okWide_slice ht hv
  obtain ⟨fuel, hf⟩ := h
  rcases open_ints ht he hC hf with ⟨hcs, hx⟩ | ⟨a, len', cap', zs, hcs, _, hl, hm, hz, hx, hcell, hwz⟩
  · simp [Value.cells] at hcs
    obtain ⟨rfl, rfl, rfl⟩ := hcs
    exact ⟨none, 0, 0, [], rfl, Nat.le_refl _, Nat.zero_le _, BytesAt.nil _ _ _⟩
  · simp [Value.cells] at hcs
    obtain ⟨rfl, rfl, rfl⟩ := hcs
    simp only [if_true] at hz
    obtain ⟨b, off, spot⟩ := a
    refine ⟨_, len0, _, (zs.take len0).map (fun z => BitVec.ofNat 8 z.toNat), rfl, hl, hm, by simp; omega, fun hn => ?_⟩
    have h0 := hcell 0 (by omega)
    have hspot : spot = none := by simpa [Addr.add] using World.cell?_spot h0
    subst hspot
    refine ⟨b, off, rfl, ?_, fun j x hx => ?_⟩
    · exact World.block_lt_of_cell? (a := ⟨b, off, none⟩) (w := w) (by simpa [Addr.add] using h0)
    · simp only [List.getElem?_map, List.getElem?_take] at hx
      split at hx
      · rename_i hj
        cases hzj : zs[j]? with
        | none => rw [hzj] at hx; cases hx
        | some z =>
          rw [hzj] at hx
          simp at hx
          have hc := hcell j (by omega)
          rw [Go.WideShapes.add_plain, List.getD_eq_getElem?_getD, hzj] at hc
          rw [hc]
          obtain ⟨y, hy⟩ := byte_of (hwz z (List.mem_of_getElem? hzj))
          subst hx
          rw [Option.getD_some, hy]
          simp
      · cases hx
/-- A cell that is a slice of bytes, opened. -/
theorem open_bytes_cell {t e : TypeId} {c : Value} {y : DataW H × List MemPlace} {fuel : Nat} (ht : P.underlying t = some (.slice e)) (he : P.underlying e = some (.int .u8)) (hC : P.cellsOf e = 1)
    (hf : DataW.trod enc P w 0 (fun _ => true) true fuel t [c] = some y) :
    ∃ (A : Option Addr) (n c' : Nat) (L : List (BitVec 8)), c = .slice A n c' ∧ n ≤ c' ∧ c' ≤ maxLen ∧ BytesAt w w.heap.size A n L := by
  rcases open_ints ht he hC hf with ⟨hcs, hx⟩ | ⟨a, len', cap', zs, hcs, _, hl, hm, hz, hx, hcell, hwz⟩
  · simp at hcs
    subst hcs
    exact ⟨none, 0, 0, [], rfl, Nat.le_refl _, Nat.zero_le _, BytesAt.nil _ _ _⟩
  · simp at hcs
    subst hcs
    simp only [if_true] at hz
    obtain ⟨b, off, spot⟩ := a
    refine ⟨_, len', _, (zs.take len').map (fun z => BitVec.ofNat 8 z.toNat), rfl, hl, hm, by simp; omega, fun hn => ?_⟩
    have h0 := hcell 0 (by omega)
    have hspot : spot = none := by simpa [Addr.add] using World.cell?_spot h0
    subst hspot
    refine ⟨b, off, rfl, ?_, fun j x hx => ?_⟩
    · exact World.block_lt_of_cell? (a := ⟨b, off, none⟩) (w := w) (by simpa [Addr.add] using h0)
    · simp only [List.getElem?_map, List.getElem?_take] at hx
      split at hx
      · rename_i hj
        cases hzj : zs[j]? with
        | none => rw [hzj] at hx; cases hx
        | some z =>
          rw [hzj] at hx
          simp at hx
          have hc := hcell j (by omega)
          rw [Go.WideShapes.add_plain, List.getD_eq_getElem?_getD, hzj] at hc
          rw [hc]
          obtain ⟨y, hy⟩ := byte_of (hwz z (List.mem_of_getElem? hzj))
          subst hx
          rw [Option.getD_some, hy]
          simp
      · cases hx
end
end Go.Proofs.Ytegimagdlcbljaa.W
