/- The plain law of dice, and slices of integers that are read. No program is in sight. -/
import Derived.Test.YtadlfebpaijbhaaLists
namespace Go.Proofs.Ytadlfebpaijbhaa.W
open Go.RowKit
set_option linter.unusedVariables false
set_option linter.unusedSimpArgs false

/-- The slice (A, n) reads as the list L. -/
def IntsAt (w : World) (B : Nat) (A : Option Addr) (n : Nat) (L : List Int) : Prop :=
  L.length = n ∧ (0 < n → ∃ b off, A = some ⟨b, off, none⟩ ∧ b < B ∧ ∀ j x, L[j]? = some x → w.cell? ⟨b, off + j, none⟩ = some (.int .i64 x))
section
variable {w w' : World} {B B' : Nat} {A : Option Addr} {n : Nat} {L : List Int}
theorem IntsAt.keep (h : IntsAt w B A n L) (hk : ∀ p : Addr, p.block < B → w'.cell? p = w.cell? p) : IntsAt w' B A n L :=
  ⟨h.1, fun hn => by
    obtain ⟨b, off, e, hb, hc⟩ := h.2 hn
    exact ⟨b, off, e, hb, fun j x hx => (hk ⟨b, _, none⟩ hb).trans (hc j x hx)⟩⟩
theorem IntsAt.below (h : IntsAt w B A n L) (hb : Below B w w') : IntsAt w' B A n L := h.keep fun _ hp => hb.cell hp
theorem IntsAt.same (h : IntsAt w B A n L) (e : w'.heap = w.heap) : IntsAt w' B A n L := h.keep fun _ _ => World.cell?_of_block (by rw [e])
theorem IntsAt.more (h : IntsAt w B A n L) (hB : B ≤ B') : IntsAt w B' A n L := ⟨h.1, fun hn => by
  obtain ⟨b, off, e, hb, hc⟩ := h.2 hn
  exact ⟨b, off, e, by omega, hc⟩⟩
theorem IntsAt.nil (w : World) (B : Nat) (A : Option Addr) : IntsAt w B A 0 [] := ⟨rfl, fun h => absurd h (by omega)⟩
theorem IntsAt.of_own {base : Nat} {e : TypeId} {c : Nat} (h : w.ownsRow base e 1 (.slice A n c) n (L.map (Value.int .i64))) : IntsAt w w.heap.size A n L := by
  refine ⟨by have := h.1; simpa using this, fun hn => ?_⟩
  rcases h.2 with ⟨_, h0⟩ | ⟨g, cap, cur, hv, _, hg, _, _, _, ht⟩
  · omega
  · have hA : A = some ⟨g, 0, none⟩ := by injection hv
    subst hA
    refine ⟨g, 0, rfl, ?_, fun j x hx => ?_⟩
    · rcases Nat.lt_or_ge g w.heap.size with hlt | hge
      · exact hlt
      · rw [Array.getElem?_eq_none hge] at hg; cases hg
    · rw [Nat.zero_add, cell_of_row w g j cur e (0, 0) hg]
      have h1 : (List.take (n * 1) cur.toList)[j]? = some (.int .i64 x) := by rw [ht]; simp [hx]
      rw [List.getElem?_take] at h1
      split at h1
      · simpa using h1
      · cases h1
end

/-! ### Sums and places -/
def isum : List Int → Int
  | [] => 0
  | x :: l => x + isum l
def plc : Int → List Int → Nat
  | _, [] => 0
  | k, x :: l => if k < x then 0 else plc (k - x) l + 1
theorem isum_take_succ (L : List Int) (i : Nat) (x : Int) (h : L[i]? = some x) : isum (L.take (i + 1)) = isum (L.take i) + x := by
  induction L generalizing i with
  | nil => simp at h
  | cons y l ih =>
    cases i with
    | zero => simp at h; simp [isum, h]
    | succ i => simp at h; have := ih i h; simp only [List.take_succ_cons, isum] at this ⊢; omega
theorem isum_take_le (L : List Int) (h : ∀ x ∈ L, 0 ≤ x ∧ x ≤ 1048576) (i : Nat) : 0 ≤ isum (L.take i) ∧ isum (L.take i) ≤ i * 1048576 := by
  induction L generalizing i with
  | nil => simp [isum]; omega
  | cons y l ih =>
    cases i with
    | zero => simp [isum]
    | succ i =>
      have h1 := ih (fun x hx => h x (List.mem_cons_of_mem _ hx)) i
      have h2 := h y (List.mem_cons_self ..)
      simp only [List.take_succ_cons, isum]
      omega
theorem isum_drop (L : List Int) (i : Nat) (x : Int) (h : L[i]? = some x) : isum (L.drop i) = x + isum (L.drop (i + 1)) := by
  rw [List.drop_eq_getElem_cons (by
    rcases Nat.lt_or_ge i L.length with h' | h'
    · exact h'
    · rw [List.getElem?_eq_none h'] at h; cases h)]
  rw [List.getElem?_eq_some_iff] at h
  obtain ⟨_, rfl⟩ := h
  rfl
theorem plc_drop (L : List Int) (i : Nat) (x k : Int) (h : L[i]? = some x) : plc k (L.drop i) = if k < x then 0 else plc (k - x) (L.drop (i + 1)) + 1 := by
  rw [List.drop_eq_getElem_cons (by
    rcases Nat.lt_or_ge i L.length with h' | h'
    · exact h'
    · rw [List.getElem?_eq_none h'] at h; cases h)]
  rw [List.getElem?_eq_some_iff] at h
  obtain ⟨_, rfl⟩ := h
  rfl
end Go.Proofs.Ytadlfebpaijbhaa.W
