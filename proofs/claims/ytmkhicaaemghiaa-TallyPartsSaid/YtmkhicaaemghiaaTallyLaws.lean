/- The laws of tally, walked. -/
import Derived.Test.YtmkhicaaemghiaaTallySum
namespace Go.Proofs.Ytmkhicaaemghiaa.Ta
open Go.RowKit Go.Proofs.Ytmkhicaaemghiaa.W Go.Proofs.Ytmkhicaaemghiaa.Fl
set_option linter.unusedVariables false
set_option linter.unusedSimpArgs false

theorem order_eq {a b : Nat} {x y : Int} (ha : V a x) (hb : V b y) (h : x = y) : (FloatKind.f64.format.order a b == some .eq) = true := by
  have := V_eq ha hb
  rw [show (d.order a b == some .eq) = (FloatKind.f64.format.order a b == some .eq) from rfl] at this
  rw [this]
  simpa using h

theorem holds_lit (w : World) (t : TypeId) (cs : Array Value) (g sz n : Nat) (hg : Blk w g t cs) (hs : cs.size = n * sz) : Holds w w.heap.size sz (some ⟨g, 0, none⟩) n (fun i j => cs.getD (i * sz + j) undef) := fun hn =>
  ⟨g, 0, rfl, hg.lt, fun i j hi hj => by
    have hlt : i * sz + j < cs.size := by
      rw [hs]
      calc i * sz + j < i * sz + sz := by omega
        _ = (i + 1) * sz := by rw [Nat.succ_mul]
        _ ≤ n * sz := Nat.mul_le_mul_right _ (by omega)
    rw [Nat.zero_add, hg.cell, Array.getElem?_eq_getElem hlt]
    simp [Array.getD, hlt]⟩

theorem zero_tally (w : World) : (zeroValue 28).run Try.prog w = .ok (.agg (row 58 zero58)) w := by kernel_rfl
def actCell (k : Int) : Nat → Value := fun j => if j = 0 then .int .i64 k else if j = 4 then .string ⟨#[]⟩ else if j = 5 ∨ j = 8 then .slice none 0 0 else .int .i64 0
def csA : Array Value := #[.int .i64 1, .int .i64 0, .int .i64 0, .int .i64 0, .string ⟨#[]⟩, .slice none 0 0, .int .i64 0, .int .i64 0, .slice none 0 0, .int .i64 0, .int .i64 0,
  .int .i64 1, .int .i64 0, .int .i64 0, .int .i64 0, .string ⟨#[]⟩, .slice none 0 0, .int .i64 0, .int .i64 0, .slice none 0 0, .int .i64 0, .int .i64 0]
def csT : Array Value := #[.int .i64 0, .string ⟨#[97, 98]⟩, .int .i64 0, .int .i64 0, .string ⟨#[99]⟩, .int .i64 0]
def litS : Nat → ByteArray := fun i => if i = 0 then ⟨#[97, 98]⟩ else ⟨#[99]⟩
def litF : Nat → Nat := fun c => cnt (fun i => slotK 1) 2 c
def litE : Nat → Nat := fun c => cnt (fun i => slotE 0) 2 c
theorem lit_bytes : byts (fun _ => 1) (fun _ => 0) (fun i => (litS i).size) 2 = 3 := by decide +kernel
def litW (w : World) : World := (w.alloc (.cells csA 54)).alloc (.cells csT 57)
theorem of_lit (w : World) : Calls Try.prog 7 #[.slice (some ⟨w.heap.size, 0, none⟩) 2 2, .slice (some ⟨w.heap.size + 1, 0, none⟩) 2 2] (litW w)
    fun e w' => (∃ br bi, V br 1 ∧ V bi 1 ∧ e = .returned (.agg (row 58 (tcell (nn litF) (nn litE) 3 br bi)))) ∧ Below (w.heap.size + 2) (litW w) w' := by
  have h1 : Blk (litW w) w.heap.size 54 csA := (Blk.newAt w _ _ _ rfl).alloc _
  have h2 : Blk (litW w) (w.heap.size + 1) 57 csT := Blk.newAt (w.alloc _) _ _ _ (by simp)
  have hA := holds_lit _ _ csA _ 11 2 h1 rfl
  have hB := holds_lit _ _ csT _ 3 2 h2 rfl
  refine (of_any 2 2 2 2 2 _ _ _ _ (fun _ => 1) (fun _ => 0) litS (litW w) ⟨hA, ?_, ?_⟩ ⟨hB, ?_, ?_, ?_⟩ rfl (by omega) (by simp [maxLen]) (by simp [maxLen])).mono ?_
  · intro i hi
    rcases (show i = 0 ∨ i = 1 by omega) with rfl | rfl <;> rfl
  · intro i j hi hj
    have h : ∀ k : Fin 22, (csA.getD k.val undef).oneCell' = true := by decide
    exact h ⟨i * 11 + j, by omega⟩
  · intro i hi
    rcases (show i = 0 ∨ i = 1 by omega) with rfl | rfl <;> rfl
  · intro i hi
    rcases (show i = 0 ∨ i = 1 by omega) with rfl | rfl <;> rfl
  · intro i j hi hj
    have h : ∀ k : Fin 6, (csT.getD k.val undef).oneCell' = true := by decide
    exact h ⟨i * 3 + j, by omega⟩
  · rintro e w' ⟨⟨br, bi, hr, hi, rfl⟩, hb⟩
    refine ⟨⟨br, bi, hr, hi, ?_⟩, by simpa [litW] using hb⟩
    unfold tallyV
    rw [lit_bytes]
    rfl

set_option maxRecDepth 100000 in
set_option maxHeartbeats 2000000 in
theorem awake_any (w : World) : Calls Try.prog 11 #[] w fun e w' => e = .returned (.bool true) ∧ Below w.heap.size w w' := by
  have hz := zero_tally
  have HOf := hide (of_lit w)
  go_enter Try.func11, Try.ntmps11
  go_upto_region 3 with (first
    | (go_at_call 7; refine HOf.out.mono ?_; rintro e w' ⟨⟨br, bi, hr, hi, rfl⟩, hb1⟩; have HR := hide hr; have HI := hide hi; clear hr hi)
    | (with_reducible refine wpList_store_all rfl 28 (.tmp 2) (.tmp 10) rfl w'.heap.size rfl 28 58 _ _ rfl (Blk.newAt w' _ _ _ rfl) (by kernel_rfl) (fun j _ => tcell_one _ _ _ _ _ j) ?_))
  have hsz := hb1.size
  have hbl : Below w.heap.size w (litW w) := ((Below.refl _ _).alloc (Nat.le_refl _) _).alloc (by simp) _
  have hbW := (hbl.trans (hb1.mono (by omega))).alloc (by simp [litW] at hsz; omega) (.cells (row 58 zero58) 28)
  generalize hW : World.setRow _ _ _ = W
  have hBW : Blk W w'.heap.size 28 (row 58 (tcell (nn litF) (nn litE) 3 br bi)) := by
    rw [← hW]
    exact (Blk.newAt w' _ _ _ rfl).row_ _
  have hbW2 : Below w.heap.size w W := by
    rw [← hW]
    exact below_setRow hbW (by simp [litW] at hsz; omega) _
  have HBW := hide hBW
  have HB2 := hide hbW2
  have c1 : W.cell? ⟨w'.heap.size, 1, none⟩ = some (.int .i64 2) := hBW.at (i := 1) (by omega)
  have c24 : W.cell? ⟨w'.heap.size, 24, none⟩ = some (.int .i64 2) := hBW.at (i := 24) (by omega)
  have c56 : W.cell? ⟨w'.heap.size, 56, none⟩ = some (.int .i64 3) := hBW.at (i := 56) (by omega)
  have c57 : W.cell? ⟨w'.heap.size, 57, none⟩ = some (.complex .f64 br bi) := hBW.at (i := 57) (by omega)
  have o1 := order_eq HR.out V_one rfl
  have o2 := order_eq HI.out V_one rfl
  clear hW hBW hbW2 hbW hbl hsz hb1
  have HRt := hide (rate_any litF litE 3 br bi 2 W (by decide) (by omega) (by decide))
  go_wp2_with (first
    | (refine wpList_load_met 28 (.tmp 2) rfl (by rfl) w'.heap.size rfl 28 _ _ HBW.out rfl Try.underlying28 (by rw [row_size]; kernel_rfl) ?_)
    | (go_at_call 14; refine HRt.out.mono ?_; rintro e w' ⟨rfl, hb3⟩))
  go_ret
  exact ⟨rfl, HB2.out.trans (hb3.mono HB2.out.size)⟩
end Go.Proofs.Ytmkhicaaemghiaa.Ta
