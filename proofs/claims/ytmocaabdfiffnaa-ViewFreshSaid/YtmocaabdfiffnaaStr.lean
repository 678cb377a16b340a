/- Texts as bytes: told by a function; copied into a row; made of a row. No program is in sight. -/
import Derived.Test.YtmocaabdfiffnaaRow
import Derived.Laws.BytesArg
import Derived.Laws.CopyRow
namespace Go.Proofs.Ytmocaabdfiffnaa.W
open Go.RowKit
set_option linter.unusedVariables false
set_option linter.unusedSimpArgs false

/-- n bytes, each told by its place. -/
def strB (n : Nat) (f : Nat → BitVec 8) : ByteArray := ⟨(Array.ofFn (n := n) fun i => UInt8.ofBitVec (f i.val))⟩
/-- A text's byte. -/
def sbyte (s : ByteArray) (i : Nat) : BitVec 8 := (s.data.getD i 0).toBitVec
theorem strB_size (n : Nat) (f : Nat → BitVec 8) : (strB n f).size = n := by simp [strB, ByteArray.size]
theorem sbyte_strB {n i : Nat} (f : Nat → BitVec 8) (h : i < n) : sbyte (strB n f) i = f i := by
  simp [sbyte, strB, h]
theorem strB_congr {n : Nat} {f g : Nat → BitVec 8} (h : ∀ i, i < n → f i = g i) : strB n f = strB n g := by
  unfold strB
  congr 1
  apply Array.ext
  · simp
  · intro i h1 h2
    simp at h1 ⊢
    rw [h i h1]
theorem strB_eta (s : ByteArray) : strB s.size (sbyte s) = s := by
  obtain ⟨d⟩ := s
  unfold strB
  congr 1
  apply Array.ext
  · simp [ByteArray.size]
  · intro i h1 h2
    simp [sbyte, h2]
theorem strB_of_size {s : ByteArray} {n : Nat} (h : s.size = n) : s = strB n (sbyte s) := by
  subst h
  exact (strB_eta s).symm
theorem strB_ext {s t : ByteArray} (h : s.size = t.size) (hb : ∀ i, i < s.size → sbyte s i = sbyte t i) : s = t := by
  rw [strB_of_size (rfl : s.size = s.size), strB_of_size h.symm]
  exact strB_congr hb
theorem strB_inj {n : Nat} {f g : Nat → BitVec 8} (h : strB n f = strB n g) : ∀ i, i < n → f i = g i := fun i hi => by
  rw [← sbyte_strB f hi, ← sbyte_strB g hi, h]
theorem getElem_sbyte (s : ByteArray) (i : Nat) (h : i < s.size) : ((s[i]'h).toNat : Int) = ((sbyte s i).toNat : Int) := by
  have h' : i < s.data.size := h
  simp only [sbyte, Array.getD, h', dif_pos]
  rfl
theorem strB_zero (f : Nat → BitVec 8) : strB 0 f = ⟨#[]⟩ := by simp [strB]
theorem size_zero {s : ByteArray} (h : s.size = 0) : s = ⟨#[]⟩ := by
  rw [strB_of_size h, strB_zero]
theorem toList_eq_iff (a b : ByteArray) : (a.toList == b.toList) = decide (a = b) := by
  rw [ByteArray.toList_eq, ByteArray.toList_eq]
  rw [Bool.eq_iff_iff]
  simp
  constructor
  · intro h; cases a; cases b; simp_all
  · intro h; rw [h]

section
variable {P : Program} {w : World} {g : Nat} {ty : TypeId} {n : Nat}
theorem u8s_str (n : Nat) (f : Nat → BitVec 8) : (strB n f).data.map (fun b => Value.int .u8 (b.toNat : Int)) = row n (u8s f) := by
  apply Array.ext
  · simp [strB, row_size]
  · intro i h1 h2
    simp [strB, row, u8s]
/-- 'copy(a[..], s)': as many bytes as there are room and text. -/
theorem run_copy_str (w : World) (dT sT rt elem : TypeId) (g off N dLen dCap m : Nat) (f : Nat → Value) (s : ByteArray) (hu : P.underlying dT = some (.slice elem)) (hsz : (P.info? elem).map (·.size) = some 1)
    (hg : Blk w g ty (row N f)) (hm : m = Nat.min s.size dLen) (hfit : off + m ≤ N) :
    (Builtin.copy_ #[dT, sT] rt #[.slice (some ⟨g, off, none⟩) dLen dCap, .string s]).run P w = .ok (goInt m) (w.setRow g (row N (over f off m (u8s (sbyte s))))) := by
  have hcells : ((s.extract 0 m).data.map fun b => Value.int .u8 (b.toNat : Int)) = row m (u8s (sbyte s)) := by
    have hle : m ≤ s.size := by rw [hm]; exact Nat.min_le_left _ _
    have e : s.extract 0 m = strB m (sbyte s) := by
      have h1 : (s.extract 0 m).size = m := by simp; omega
      refine strB_ext (by rw [h1, strB_size]) (fun i hi => ?_)
      rw [h1] at hi
      rw [sbyte_strB _ hi]
      have h2 : i < s.data.size := by have : s.data.size = s.size := rfl; omega
      have h3 : (s.data.extract 0 m)[i]? = s.data[i]? := by
        rw [Array.getElem?_extract, if_pos (by omega), Nat.zero_add]
      simp only [sbyte, Array.getD_eq_getD_getElem?, ByteArray.data_extract, h3]
    rw [e, u8s_str]
  have hst := run_storeCells_at P g off ty (row m (u8s (sbyte s))).toList 0 (row N f) w hg (by simp [row_size]; omega) (fun v hv => by
    obtain ⟨j, hj, rfl⟩ := List.getElem_of_mem hv
    simp [row_size] at hj
    simp [row, u8s]
    rfl)
  simp only [Nat.add_zero, Array.length_toList, row_size] at hst
  rw [over_list N off m f _ hfit] at hst
  cases hq : P.info? elem with
  | none => simp [hq] at hsz
  | some x =>
    have hx : x.size = 1 := by simpa [hq] using hsz
    simp only [Builtin.copy_]
    simp [run_underlying hu, Builtin.lenOf, Builtin.firstCells, sizeOf, typeInfo, hq, hx, ← hm]
    have hl := congrArg Array.toList hcells
    simp at hl
    rw [hl, hst]
    rfl
theorem wpList_copy_str {ops : Array Oper} {rest : List Oper} {o : Oper} {a : Act} {Q : Exit → Act → World → Prop} (hgd : o.guard = none) (d s : Operand) (dT sT : TypeId)
    (ho : o.op = .call { callee := .builtin .copy, args := #[d, s], argTypes := #[dT, sT] }) (elem : TypeId) (hu : P.underlying dT = some (.slice elem)) (hsz : (P.info? elem).map (·.size) = some 1)
    (off N dLen dCap m : Nat) (f : Nat → Value) (x : ByteArray) (hd : a.eval d = .slice (some ⟨g, off, none⟩) dLen dCap) (hs : a.eval s = .string x)
    (hg : Blk w g ty (row N f)) (hm : m = Nat.min x.size dLen) (hfit : off + m ≤ N)
    (h : wpList P ops Q rest (a.put o.dst (goInt m)) (w.setRow g (row N (over f off m (u8s (sbyte x)))))) : wpList P ops Q (o :: rest) a w := by
  refine wpList_plain hgd fun K hK => ?_
  have hrun := run_copy_str (P := P) w dT sT o.type elem g off N dLen dCap m f x hu hsz hg hm hfit
  unfold Oper.wp
  simp [execOp, ho, resolve, invoke, builtin, hd, hs, hrun, Result.andThen]
  exact hK _ _ h
theorem strOfNums_u8 (n : Nat) (f : Nat → BitVec 8) : strOfNums ((List.range n).map fun i => ((f i).toNat : Int)) = strB n f := by
  refine strB_ext (by rw [strOfNums_size, strB_size]; simp) (fun i hi => ?_)
  have hi' : i < n := by rw [strOfNums_size] at hi; simpa using hi
  rw [sbyte_strB f hi']
  apply BitVec.eq_of_toNat_eq
  simp [sbyte, strOfNums, hi']
/-- A text made of a row's bytes. -/
theorem run_convert_row (w : World) (src dst e : TypeId) (hs : P.underlying src = some (.slice e)) (he : P.underlying e = some (.int .u8)) (hd : P.underlying dst = some .string) (b off len cap : Nat) (f : Nat → BitVec 8)
    (hc : ∀ i, i < len → w.cell? ⟨b, off + i, none⟩ = some (.int .u8 ((f i).toNat : Int))) : (convert src dst (.slice (some ⟨b, off, none⟩) len cap)).run P w = .ok (.string (strB len f)) w := by
  have h := run_convert_bytes_arg (P := P) w src e hs he b off len cap ((List.range len).map fun i => ((f i).toNat : Int)) (by simp) (fun i hi => by
    rw [hc i hi]
    simp [List.getD, hi]) dst hd
  rw [h, strOfNums_u8]
end
end Go.Proofs.Ytmocaabdfiffnaa.W
