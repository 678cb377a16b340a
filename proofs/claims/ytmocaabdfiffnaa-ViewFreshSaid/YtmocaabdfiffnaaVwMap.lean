/- Numbers and the first block of each: the plain fold, and a map that holds just it. -/
import Derived.Test.YtmocaabdfiffnaaVwImage
import Derived.Maps.OwnSet
import Derived.Maps.StringElems
namespace Go.Proofs.Ytmocaabdfiffnaa.Ct
open Go.RowKit Go.Proofs.Ytmocaabdfiffnaa.W Go.Maps
set_option linter.unusedVariables false
set_option linter.unusedSimpArgs false

abbrev Ent := Nat × ByteArray
def fnd (l : List Ent) (n : Nat) : Nat → Option Nat
  | 0 => none
  | k + 1 => if (l[k]?.map (·.1)) = some n then some k else fnd l n k
def blkAt (l : List Ent) (k : Nat) : ByteArray := (l[k]?.map (·.2)).getD ByteArray.empty
theorem fnd_lt {l : List Ent} {n : Nat} : ∀ {k j : Nat}, fnd l n k = some j → j < k
  | 0, _, h => by cases h
  | k + 1, j, h => by
    unfold fnd at h
    split at h
    · cases h; omega
    · have := fnd_lt h; omega
theorem fnd_append (l m : List Ent) (n : Nat) : ∀ k, k ≤ l.length → fnd (l ++ m) n k = fnd l n k
  | 0, _ => rfl
  | k + 1, h => by
    unfold fnd
    rw [List.getElem?_append_left (by omega), fnd_append l m n k (by omega)]
theorem fnd_push (l : List Ent) (m : Nat) (b : ByteArray) (n : Nat) : fnd (l ++ [(m, b)]) n (l.length + 1) = if m = n then some l.length else fnd l n l.length := by
  show (if (((l ++ [(m, b)])[l.length]?).map (·.1)) = some n then some l.length else fnd (l ++ [(m, b)]) n l.length) = _
  rw [fnd_append l _ n _ (Nat.le_refl _)]
  simp
theorem blkAt_old {l m : List Ent} {k : Nat} (h : k < l.length) : blkAt (l ++ m) k = blkAt l k := by
  unfold blkAt
  rw [List.getElem?_append_left h]
theorem blkAt_new (l : List Ent) (m : Nat) (b : ByteArray) : blkAt (l ++ [(m, b)]) l.length = b := by
  unfold blkAt
  simp
def stp (st : List Ent × Bool) (n : Int) (b : ByteArray) : List Ent × Bool :=
  if n < 0 then st else match fnd st.1 n.toNat st.1.length with
    | none => (st.1 ++ [(n.toNat, b)], st.2)
    | some k => (st.1, st.2 || decide (blkAt st.1 k ≠ b))
noncomputable def stt (x : Nat → ByteArray) : Nat → List Ent × Bool
  | 0 => ([], false)
  | p + 1 => stp (stt x p) (numOf (blk (x (p / 288)) (p % 288)) (p % 288)) (blk (x (p / 288)) (p % 288))
theorem stt_succ (x : Nat → ByteArray) {d i : Nat} (hi : i < 288) : stt x (288 * d + i + 1) = stp (stt x (288 * d + i)) (numOf (blk (x d) i) i) (blk (x d) i) := by
  show stp _ (numOf (blk (x ((288 * d + i) / 288)) ((288 * d + i) % 288)) ((288 * d + i) % 288)) (blk (x ((288 * d + i) / 288)) ((288 * d + i) % 288)) = _
  rw [show (288 * d + i) / 288 = d by omega, show (288 * d + i) % 288 = i by omega]
theorem stp_low {st : List Ent × Bool} {n : Int} {b : ByteArray} (h : n < 0) : stp st n b = st := if_pos h
theorem stp_new {st : List Ent × Bool} {n : Nat} {b : ByteArray} (h : fnd st.1 n st.1.length = none) : stp st (n : Int) b = (st.1 ++ [(n, b)], st.2) := by
  unfold stp
  rw [if_neg (by omega), Int.toNat_natCast, h]
theorem stp_old {st : List Ent × Bool} {n : Nat} {b : ByteArray} {k : Nat} (h : fnd st.1 n st.1.length = some k) : stp st (n : Int) b = (st.1, st.2 || decide (blkAt st.1 k ≠ b)) := by
  unfold stp
  rw [if_neg (by omega), Int.toNat_natCast, h]
theorem stp_true {st : List Ent × Bool} {n : Int} {b : ByteArray} (h : st.2 = true) : (stp st n b).2 = true := by
  unfold stp
  split
  · exact h
  · split
    · exact h
    · simp [h]
theorem stt_mono (x : Nat → ByteArray) {p : Nat} (h : (stt x p).2 = true) : ∀ q, (stt x (p + q)).2 = true
  | 0 => h
  | q + 1 => stp_true (stt_mono x h q)
theorem stt_len (x : Nat → ByteArray) : ∀ p, (stt x p).1.length ≤ p
  | 0 => Nat.le_refl _
  | p + 1 => by
    have h := stt_len x p
    show (stp _ _ _).1.length ≤ _
    unfold stp
    split
    · omega
    · split
      · simp; omega
      · show (stt x p).1.length ≤ _
        omega
/-- The map holds the numbers and their first blocks. -/
structure MapIs (D : DataW Unit) (l : List Ent) : Prop where
  size : Maps.size D = l.length
  no : ∀ n : Nat, fnd l n l.length = none → Maps.has D (.int .i64 n) = false
  yes : ∀ n k : Nat, fnd l n l.length = some k → Maps.has D (.int .i64 n) = true ∧ ∀ z, D.atKey (.int .i64 n) z = .lit (.string (blkAt l k).data.toList)
theorem lit_ne {n m : Nat} (h : n ≠ m) : (Lit.int .i64 (n : Int)) ≠ Lit.int .i64 (m : Int) := by
  intro e
  injection e with _ e
  exact h (by omega)
theorem isKey (n : Nat) : WideAt.IsKeyLit (Lit.int .i64 (n : Int)) := by trivial
theorem MapIs.start : MapIs (.map []) [] := ⟨rfl, fun _ _ => rfl, fun n k h => by cases h⟩
theorem MapIs.push {D : DataW Unit} {l : List Ent} (h : MapIs D l) (hT : Maps.Tidy D) {n : Nat} (b : ByteArray) (hn : fnd l n l.length = none) : MapIs (D.put (.int .i64 n) (.lit (.string b.data.toList))) (l ++ [(n, b)]) := by
  have hl : (l ++ [(n, b)]).length = l.length + 1 := by simp
  refine ⟨?_, fun m hm => ?_, fun m k hm => ?_⟩
  · rw [Maps.size_put hT, h.no n hn, hl, h.size]
    rfl
  · rw [hl, fnd_push] at hm
    split at hm
    · cases hm
    · rename_i hne
      rw [Maps.has_put_other (lit_ne (fun e => hne e.symm))]
      exact h.no m hm
  · rw [hl, fnd_push] at hm
    split at hm
    · rename_i he
      subst he
      cases hm
      refine ⟨Maps.has_put_same hT.isMap (isKey _) _, fun z => ?_⟩
      rw [Maps.atKey_put_same hT.isMap (isKey _), blkAt_new]
    · rename_i hne
      have hk := fnd_lt hm
      have hy := h.yes m k hm
      refine ⟨by rw [Maps.has_put_other (lit_ne (fun e => hne e.symm))]; exact hy.1, fun z => ?_⟩
      rw [Maps.atKey_put_other (lit_ne (fun e => hne e.symm)), hy.2 z, blkAt_old hk]
theorem MapIs.again {D : DataW Unit} {l : List Ent} (h : MapIs D l) (hT : Maps.Tidy D) {n k : Nat} (b : ByteArray) (hn : fnd l n l.length = some k) (hb : blkAt l k = b) : MapIs (D.put (.int .i64 n) (.lit (.string b.data.toList))) l := by
  refine ⟨?_, fun m hm => ?_, fun m j hm => ?_⟩
  · rw [Maps.size_put hT, (h.yes n k hn).1]
    exact h.size
  · have hne : m ≠ n := fun e => by subst e; rw [hn] at hm; cases hm
    rw [Maps.has_put_other (lit_ne hne)]
    exact h.no m hm
  · by_cases he : m = n
    · subst he
      rw [hn] at hm
      cases hm
      refine ⟨Maps.has_put_same hT.isMap (isKey _) _, fun z => ?_⟩
      rw [Maps.atKey_put_same hT.isMap (isKey _), hb]
    · have hy := h.yes m j hm
      refine ⟨by rw [Maps.has_put_other (lit_ne he)]; exact hy.1, fun z => ?_⟩
      rw [Maps.atKey_put_other (lit_ne he), hy.2 z]
theorem bytes_ext {a b : ByteArray} (h : a.data.toList = b.data.toList) : a = b := by
  cases a; cases b
  simp only [ByteArray.mk.injEq]
  exact Array.toList_inj.1 h
/-- 'v, ok := m[k]' at elements that are strings. -/
theorem wpList_lookup_own_ok_str {P : Program} (w : World) {ops : Array Oper} {rest : List Oper} {o : Oper} {a : Act} {Q : Exit → Act → World → Prop} (hg : o.guard = none) (m x : Operand) (t : TypeId) (hop : o.op = Op.lookup t m x true)
    (k e : TypeId) (K : Keyed P k) (ht : P.underlying t = some (.map k e)) (he : P.underlying e = some .string) (hz : (zeroValue e).run P w = .ok (.string ByteArray.empty) w) (b n : Nat) (D : DataW Unit)
    (hm : a.eval m = .map (some b)) (hown : w.ownsMap P k (plainElem P e) b n D) (key : Value) (kl : Lit) (hx : a.eval x = key) (hkey : keyOf P k key = some kl)
    (bb : Bool) (hbb : Maps.has D kl = bb) (v : ByteArray) (hv : D.atKey kl (.lit (.string ByteArray.empty.data.toList)) = .lit (.string v.data.toList))
    (hK : wpList P ops Q rest (a.put o.dst (.tuple #[.string v, .bool bb])) w) :
    wpList P ops Q (o :: rest) a w :=
  wpList_lookup_own_ok w hg m x t hop k e K ht (plainElem P e) hz (.lit (.string ByteArray.empty.data.toList)) [] (plainElem_string he (by decide)) b n D hm hown key kl hx hkey (fun u ps hu => by
    obtain ⟨c, rfl, hc, hwc⟩ := plainElem_string_inv he hu
    have h1 := congrArg Prod.fst hc
    rw [hv] at h1
    injection h1 with h1
    injection h1 with h1
    rw [← bytes_ext h1, hbb]
    exact hK)
end Go.Proofs.Ytmocaabdfiffnaa.Ct
