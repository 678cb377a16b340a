/- Blocks whose cells are told by a function; rows loaded and stored whole or in part. No program is in sight. -/
import Derived.Test.YtadlfebpaijbhaaWords
import Derived.Laws.CopyRow
import Derived.Deep.WholeRow
import Derived.Laws.ResultCell
import Derived.Laws.CopyOwn
namespace Go.Proofs.Ytadlfebpaijbhaa.W
open Go.RowKit
set_option linter.unusedVariables false
set_option linter.unusedSimpArgs false

/-- n cells, each told by its place. -/
def row (n : Nat) (f : Nat → Value) : Array Value := Array.ofFn (n := n) fun i => f i.val
def upd {α : Type} (f : Nat → α) (i : Nat) (v : α) : Nat → α := fun j => if j = i then v else f j
def over {α : Type} (f : Nat → α) (o m : Nat) (h : Nat → α) : Nat → α := fun j => if o ≤ j ∧ j < o + m then h (j - o) else f j
theorem row_size (n : Nat) (f : Nat → Value) : (row n f).size = n := by simp [row]
theorem row_get {n i : Nat} (f : Nat → Value) (h : i < n) : (row n f)[i]? = some (f i) := by simp [row, h]
theorem row_congr {n : Nat} {f g : Nat → Value} (h : ∀ i, i < n → f i = g i) : row n f = row n g := by
  apply Array.ext
  · simp [row]
  · intro i h1 h2
    simp [row] at h1 ⊢
    exact h i h1
theorem row_set (n : Nat) (f : Nat → Value) (i : Nat) (v : Value) : (row n f).setIfInBounds i v = row n (upd f i v) := by
  apply Array.ext_getElem?
  intro j
  rw [Array.getElem?_setIfInBounds]
  by_cases hj : j < n
  · rw [row_get (upd f i v) hj]
    by_cases hij : i = j
    · subst hij
      rw [if_pos rfl, row_size, if_pos hj]
      simp [upd]
    · rw [if_neg hij, row_get f hj]
      simp only [upd]
      rw [if_neg (fun e => hij e.symm)]
  · have h1 : (row n f)[j]? = none := Array.getElem?_eq_none (by rw [row_size]; omega)
    have h2 : (row n (upd f i v))[j]? = none := Array.getElem?_eq_none (by rw [row_size]; omega)
    rw [h1, h2]
    split
    · subst j
      rw [row_size, if_neg hj]
    · rfl

section
variable {w w' : World} {g : Nat} {t : TypeId} {n : Nat} {f : Nat → Value} {cs : Array Value}
theorem Blk.newAt (w : World) (t : TypeId) (cs : Array Value) (g : Nat) (hg : g = w.heap.size) : Blk (w.alloc (.cells cs t)) g t cs := hg ▸ Blk.new w t cs
theorem Blk.at (h : Blk w g t (row n f)) {i : Nat} (hi : i < n) : w.cell? ⟨g, i, none⟩ = some (f i) := by rw [h.cell, row_get _ hi]
theorem Blk.upd (h : Blk w g t (row n f)) (i : Nat) (v : Value) : Blk (w.setCell ⟨g, i, none⟩ v) g t (row n (W.upd f i v)) := by
  have := h.set_ i v
  rwa [row_set] at this
theorem Blk.as {f' : Nat → Value} (h : Blk w g t (row n f)) (e : ∀ i, i < n → f i = f' i) : Blk w g t (row n f') := by rwa [row_congr e] at h
theorem Blk.one_ {v : Value} (h : Blk w g t #[v]) : w.cell? ⟨g, 0, none⟩ = some v := by rw [h.cell]; rfl
theorem Blk.row_ (h : Blk w g t cs) (cs' : Array Value) : Blk (w.setRow g cs') g t cs' := setRow_heap w g cs cs' t (0, 0) h
theorem Blk.farRow (h : Blk w g t cs) {p : Nat} (hp : g ≠ p) (cs' : Array Value) : Blk (w.setRow p cs') g t cs := by
  unfold Blk at h ⊢
  simp only [World.setRow, Array.getElem?_modify]
  rw [if_neg (fun e => hp e.symm)]
  exact h
theorem setRow_drewN (w : World) (k g : Nat) (cs : Array Value) : (w.drewN k).setRow g cs = (w.setRow g cs).drewN k := rfl
theorem Chg.setRow {S : Nat → Prop} (h : Chg S w w') {p : Nat} (hp : S p ∨ w.heap.size ≤ p) (cs : Array Value) : Chg S w (w'.setRow p cs) :=
  ⟨h.os, h.tape, h.output, by rw [size_setRow]; exact h.size, fun i hi hn => by
    have hne : p ≠ i := by
      rintro rfl
      rcases hp with hp | hp
      · exact hn hp
      · omega
    rw [← h.block i hi hn]
    simp only [World.setRow, Array.getElem?_modify]
    rw [if_neg hne]⟩
end

section
variable {P : Program}
theorem run_load_sub (w : World) (g o : Nat) (t ty : TypeId) (n m : Nat) (f : Nat → Value) (d : TypeDesc) (hg : Blk w g t (row n f))
    (hd : (match d with | .struct _ | .array _ _ => true | _ => false) = true) (hu : P.underlying ty = some d) (hi : (P.info? ty).map (·.size) = some m) (hm : o + m ≤ n) :
    (loadVar ty ⟨g, o, none⟩).run P w = .ok (.agg (row m fun i => f (o + i))) w := by
  have hl := run_loadCells_list (P := P) w ⟨g, o, none⟩ (row m fun i => f (o + i)).toList (fun j v hv => by
      have hadd : (⟨g, o, none⟩ : Addr).add j = ⟨g, o + j, none⟩ := by unfold Addr.add; split <;> simp_all
      have hj : j < m := by
        rcases Nat.lt_or_ge j m with h | h
        · exact h
        · rw [List.getElem?_eq_none (by simp [row_size]; omega)] at hv; cases hv
      rw [hadd, hg.at (by omega)]
      have := row_get (fun i => f (o + i)) hj
      simp at hv this
      rw [this] at hv
      exact hv)
  cases hq : P.info? ty with
  | none => simp [hq] at hi
  | some i =>
    have hs : i.size = m := by simpa [hq] using hi
    have hagg : (isAgg ty).run P w = .ok true w := by
      unfold isAgg
      rw [Sem.run_bind, run_underlying hu w]
      cases d <;> simp_all
    simp only [Array.length_toList, Array.toArray_toList, row_size] at hl
    simp [loadVar, Sem.run_bind, hagg, sizeOf, typeInfo, hq, hs, hl]

theorem over_list (n o m : Nat) (f h : Nat → Value) (hm : o + m ≤ n) :
    ((row n f).toList.take o ++ (row m h).toList ++ (row n f).toList.drop (o + m)).toArray = row n (over f o m h) := by
  apply Array.ext_getElem?
  intro j
  have hlen : ((row n f).toList.take o).length = o := by simp [row_size]; omega
  simp only [List.getElem?_toArray, List.append_assoc]
  by_cases h1 : j < o
  · rw [List.getElem?_append_left (by omega), List.getElem?_take, if_pos h1, Array.getElem?_toList, row_get _ (by omega), row_get _ (by omega)]
    simp [over, Nat.not_le.2 h1]
  · rw [List.getElem?_append_right (by omega), hlen]
    by_cases h2 : j < o + m
    · rw [List.getElem?_append_left (by simp [row_size]; omega), Array.getElem?_toList, row_get _ (by omega), row_get _ (by omega)]
      simp [over, Nat.not_lt.1 h1, h2]
    · rw [List.getElem?_append_right (by simp [row_size]; omega), List.getElem?_drop]
      by_cases h3 : j < n
      · rw [row_get _ h3]
        simp only [Array.length_toList, row_size, Array.getElem?_toList]
        rw [show o + m + (j - o - m) = j by omega, row_get _ h3]
        simp [over, h2]
      · rw [Array.getElem?_toList, Array.getElem?_eq_none (by simp [row_size]; omega), Array.getElem?_eq_none (by simp [row_size]; omega)]

theorem run_store_sub (w : World) (g o : Nat) (t ty : TypeId) (n m : Nat) (f h : Nat → Value) (hg : Blk w g t (row n f)) (hi : (P.info? ty).map (·.size) = some m) (hm : o + m ≤ n)
    (h1 : ∀ i, i < m → (h i).oneCell' = true) : (storeVar ty ⟨g, o, none⟩ (.agg (row m h))).run P w = .ok () (w.setRow g (row n (over f o m h))) := by
  have hst := run_storeCells_at P g o t (row m h).toList 0 (row n f) w hg (by simp [row_size]; omega) (fun v hv => by
    obtain ⟨j, hj, rfl⟩ := List.getElem_of_mem hv
    simp [row_size] at hj
    have := h1 j hj
    simpa [row] using this)
  simp only [Nat.add_zero, Array.length_toList, row_size] at hst
  rw [over_list n o m f h hm] at hst
  cases hq : P.info? ty with
  | none => simp [hq] at hi
  | some i =>
    have hs : i.size = m := by simpa [hq] using hi
    simp [storeVar, sizeOf, typeInfo, hq, Value.cells, hs, row_size, hst]

/-- A part of a row, loaded as one value. -/
theorem wpList_load_sub {ops : Array Oper} {rest : List Oper} {o : Oper} {a : Act} {w : World} {Q : Exit → Act → World → Prop} (hgd : o.guard = none) (ty : TypeId) (x : Operand) (ho : o.op = .load ty x)
    (g off : Nat) (hx : a.eval x = .pointer (some ⟨g, off, none⟩)) (t : TypeId) (n m : Nat) (f : Nat → Value) (d : TypeDesc) (hg : Blk w g t (row n f))
    (hd : (match d with | .struct _ | .array _ _ => true | _ => false) = true) (hu : P.underlying ty = some d) (hi : (P.info? ty).map (·.size) = some m) (hm : off + m ≤ n)
    (h : wpList P ops Q rest (a.put o.dst (.agg (row m fun i => f (off + i)))) w) : wpList P ops Q (o :: rest) a w :=
  wpList_plain hgd fun _ hK => by
    unfold Oper.wp execOp
    simp only [ho, hx, Instr.loadAt, Instr.sureAddr, Sem.run_bind, Sem.run_pure, Result.andThen_ok, run_load_sub w g off t ty n m f d hg hd hu hi hm]
    exact hK _ _ h
/-- .. told by another function. -/
theorem wpList_load_part {ops : Array Oper} {rest : List Oper} {o : Oper} {a : Act} {w : World} {Q : Exit → Act → World → Prop} (hgd : o.guard = none) (ty : TypeId) (x : Operand) (ho : o.op = .load ty x)
    (g off : Nat) (hx : a.eval x = .pointer (some ⟨g, off, none⟩)) (t : TypeId) (n m : Nat) (f h' : Nat → Value) (d : TypeDesc) (hg : Blk w g t (row n f)) (hh : ∀ i, i < m → f (off + i) = h' i)
    (hd : (match d with | .struct _ | .array _ _ => true | _ => false) = true) (hu : P.underlying ty = some d) (hi : (P.info? ty).map (·.size) = some m) (hm : off + m ≤ n)
    (h : wpList P ops Q rest (a.put o.dst (.agg (row m h'))) w) : wpList P ops Q (o :: rest) a w :=
  wpList_load_sub hgd ty x ho g off hx t n m f d hg hd hu hi hm (by rw [row_congr (f := fun i => f (off + i)) (g := h') hh]; exact h)
/-- .. under a guard that is met. -/
theorem wpList_load_partM {ops : Array Oper} {rest : List Oper} {o : Oper} {a : Act} {w : World} {Q : Exit → Act → World → Prop} (hw : Region.wanted o (yielded ops a.tmps) = true) (ty : TypeId) (x : Operand) (ho : o.op = .load ty x)
    (g off : Nat) (hx : a.eval x = .pointer (some ⟨g, off, none⟩)) (t : TypeId) (n m : Nat) (f h' : Nat → Value) (d : TypeDesc) (hg : Blk w g t (row n f)) (hh : ∀ i, i < m → f (off + i) = h' i)
    (hd : (match d with | .struct _ | .array _ _ => true | _ => false) = true) (hu : P.underlying ty = some d) (hi : (P.info? ty).map (·.size) = some m) (hm : off + m ≤ n)
    (h : wpList P ops Q rest (a.put o.dst (.agg (row m h'))) w) : wpList P ops Q (o :: rest) a w :=
  wpList_step fun K hK => by
    simp only [hw, if_true]
    unfold Oper.wp execOp
    simp only [ho, hx, Instr.loadAt, Instr.sureAddr, Sem.run_bind, Sem.run_pure, Result.andThen_ok, run_load_sub w g off t ty n m f d hg hd hu hi hm]
    rw [row_congr (f := fun i => f (off + i)) (g := h') hh]
    exact hK _ _ h
theorem wpList_store_sub {ops : Array Oper} {rest : List Oper} {o : Oper} {a : Act} {w : World} {Q : Exit → Act → World → Prop} (hgd : o.guard = none) (ty : TypeId) (x y : Operand) (ho : o.op = .store ty x y)
    (g off : Nat) (hx : a.eval x = .pointer (some ⟨g, off, none⟩)) (t : TypeId) (n m : Nat) (f h' : Nat → Value) (hy : a.eval y = .agg (row m h')) (hg : Blk w g t (row n f))
    (hi : (P.info? ty).map (·.size) = some m) (hm : off + m ≤ n) (h1 : ∀ i, i < m → (h' i).oneCell' = true)
    (h : wpList P ops Q rest (a.put o.dst undef) (w.setRow g (row n (over f off m h')))) : wpList P ops Q (o :: rest) a w :=
  wpList_plain hgd fun _ hK => by
    unfold Oper.wp execOp
    simp only [ho, hx, hy, Instr.storeAt, Instr.sureAddr, Sem.run_bind, Sem.run_pure, Result.andThen_ok, run_store_sub w g off t ty n m f h' hg hi hm h1]
    exact hK _ _ h
theorem wpList_load_all {ops : Array Oper} {rest : List Oper} {o : Oper} {a : Act} {w : World} {Q : Exit → Act → World → Prop} (hgd : o.guard = none) (ty : TypeId) (x : Operand) (ho : o.op = .load ty x)
    (g : Nat) (hx : a.eval x = .pointer (some ⟨g, 0, none⟩)) (t : TypeId) (n : Nat) (f : Nat → Value) (d : TypeDesc) (hg : Blk w g t (row n f))
    (hd : (match d with | .struct _ | .array _ _ => true | _ => false) = true) (hu : P.underlying ty = some d) (hi : (P.info? ty).map (·.size) = some n)
    (h : wpList P ops Q rest (a.put o.dst (.agg (row n f))) w) : wpList P ops Q (o :: rest) a w :=
  wpList_load_sub hgd ty x ho g 0 hx t n n f d hg hd hu hi (by omega) (by simpa using h)
theorem wpList_store_all {ops : Array Oper} {rest : List Oper} {o : Oper} {a : Act} {w : World} {Q : Exit → Act → World → Prop} (hgd : o.guard = none) (ty : TypeId) (x y : Operand) (ho : o.op = .store ty x y)
    (g : Nat) (hx : a.eval x = .pointer (some ⟨g, 0, none⟩)) (t : TypeId) (n : Nat) (f h' : Nat → Value) (hy : a.eval y = .agg (row n h')) (hg : Blk w g t (row n f))
    (hi : (P.info? ty).map (·.size) = some n) (h1 : ∀ i, i < n → (h' i).oneCell' = true)
    (h : wpList P ops Q rest (a.put o.dst undef) (w.setRow g (row n h'))) : wpList P ops Q (o :: rest) a w :=
  wpList_store_sub hgd ty x y ho g 0 hx t n n f h' hy hg hi (by omega) h1 (by
    rw [row_congr (g := h') (fun i hi => by simp [over, hi])]
    exact h)
theorem results_cell_sub {fn : Func} {p : Tmp} {ty : TypeId} (h : fn.results = #[.cell p ty]) (tmps : Array Value) (w : World) (g : Nat) (t : TypeId) (n : Nat) (f : Nat → Value) (d : TypeDesc)
    (hp : tmps.getD p undef = .pointer (some ⟨g, 0, none⟩)) (hg : Blk w g t (row n f))
    (hd : (match d with | .struct _ | .array _ _ => true | _ => false) = true) (hu : P.underlying ty = some d) (hi : (P.info? ty).map (·.size) = some n) :
    (results fn tmps).run P w = .ok (.agg (row n f)) w :=
  results_cell_row h tmps w g t (row n f) (0, 0) d hp hg hu (by cases d <;> first | rfl | cases hd) (by rw [row_size]; exact hi)
end
/-- A guarded load of a whole row. -/
theorem wpList_load_met {P : Program} {ops : Array Oper} {rest : List Oper} {o : Oper} {a : Act} {w : World} {Q : Exit → Act → World → Prop} (ty : TypeId) (x : Operand) (ho : o.op = .load ty x)
    (hw : Region.wanted o (yielded ops a.tmps) = true) (g : Nat) (hx : a.eval x = .pointer (some ⟨g, 0, none⟩)) (t : TypeId) (cs : Array Value) (d : TypeDesc) (hg : Blk w g t cs)
    (hd : (match d with | .struct _ | .array _ _ => true | _ => false) = true) (hu : P.underlying ty = some d) (hi : (P.info? ty).map (·.size) = some cs.size)
    (h : wpList P ops Q rest (a.put o.dst (.agg cs)) w) : wpList P ops Q (o :: rest) a w :=
  wpList_step fun K hK => by
    simp only [hw, if_true]
    exact wp_load_row ty x ho g hx t cs (0, 0) d hg hu (by cases d <;> first | rfl | cases hd) hi (hK _ _ h)
/-- An array's element, by value. -/
theorem run_index_row {P : Program} (t e : TypeId) (n : Nat) (f : Nat → Value) (i : Nat) (hi : i < n) (de : TypeDesc) (hu : P.underlying t = some (.array n e)) (hde : (match de with | .struct _ | .array _ _ => true | _ => false) = false) (he : P.underlying e = some de) (hs : (P.info? e).map (·.size) = some 1) (w : World) :
    (Instr.index t (.agg (row n f)) (.int .i64 (i : Int))).run P w = .ok (f i) w := by
  have hin : (0 : Int) ≤ (i : Int) ∧ (i : Int) < (n : Int) := by omega
  have hagg : (isAgg e).run P w = .ok false w := by
    unfold isAgg
    rw [Sem.run_bind, run_underlying he w]
    cases de <;> simp_all
  cases hq : P.info? e with
  | none => simp [hq] at hs
  | some x =>
    have hx : x.size = 1 := by simpa [hq] using hs
    simp [Instr.index, asIntOf, run_underlying hu, hin, sizeOf, typeInfo, hq, hx, part, Sem.run_bind, hagg, row_get f hi]
    intro h; omega
/-- Two results, the first of them a row in memory. -/
theorem results_sub_tmp {P : Program} {fn : Func} {p u : Tmp} {ty : TypeId} (h : fn.results = #[.cell p ty, .tmp u]) (tmps : Array Value) (w : World) (g : Nat) (t : TypeId) (n : Nat) (f : Nat → Value) (d : TypeDesc)
    (v : Value) (hp : tmps.getD p undef = .pointer (some ⟨g, 0, none⟩)) (hv : tmps.getD u undef = v) (hg : Blk w g t (row n f))
    (hd : (match d with | .struct _ | .array _ _ => true | _ => false) = true) (hu : P.underlying ty = some d) (hi : (P.info? ty).map (·.size) = some n) :
    (results fn tmps).run P w = .ok (.tuple #[.agg (row n f), v]) w := by
  rw [results_cell_tmp h, hp, hv]
  have hl := run_loadVar_row (P := P) w g t ty (row n f) (0, 0) d hg hu (by cases d <;> first | rfl | cases hd) (by rw [row_size]; exact hi)
  simp [asAddr, hl]
/-- Bytes as cells. -/
def u8s (f : Nat → BitVec 8) : Nat → Value := fun i => .int .u8 ((f i).toNat : Int)
theorem u8s_upd (f : Nat → BitVec 8) (i : Nat) (x : BitVec 8) : upd (u8s f) i (.int .u8 (x.toNat : Int)) = u8s (upd f i x) := by
  funext j
  simp only [upd, u8s]
  split <;> rfl
end Go.Proofs.Ytadlfebpaijbhaa.W
