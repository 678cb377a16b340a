/- Floats that may be no numbers: which words count as one. No program is in sight. -/
import Derived.Test.YtadlfebpaijbhaaFloat
import Derived.Test.YtadlfebpaijbhaaWords
import Derived.Laws.ComplexArith
namespace Go.Proofs.Ytadlfebpaijbhaa.Fl
open Ieee
set_option linter.unusedVariables false
set_option linter.unusedSimpArgs false

def Nan (a : Nat) : Prop := (d.read a).isNaN = true
/-- The same words, or both no numbers. -/
def E (a b : Nat) : Prop := a = b ∨ (Nan a ∧ Nan b)
theorem E.refl (a : Nat) : E a a := .inl rfl
theorem E.symm {a b : Nat} (h : E a b) : E b a := h.elim (fun e => .inl e.symm) (fun e => .inr ⟨e.2, e.1⟩)
theorem E.trans {a b c : Nat} (h : E a b) (k : E b c) : E a c := by
  rcases h with rfl | ⟨h1, h2⟩
  · exact k
  · rcases k with rfl | ⟨k1, k2⟩
    · exact .inr ⟨h1, h2⟩
    · exact .inr ⟨h1, k2⟩
/-- What an operation gives: its word, or any word that is no number where it has no answer. -/
def Res (o : Option Nat) (r : Nat) : Prop := o = some r ∨ (o = none ∧ Nan r)
theorem Res.E {o : Option Nat} {r s : Nat} (h : Res o r) (k : Res o s) : E r s := by
  rcases h with h | ⟨h, hr⟩
  · rcases k with k | ⟨k, hs⟩
    · exact .inl (Option.some.inj (h.symm.trans k))
    · rw [h] at k; cases k
  · rcases k with k | ⟨k, hs⟩
    · rw [h] at k; cases k
    · exact .inr ⟨hr, hs⟩
theorem nan_form {a : Nat} (h : Nan a) : ∃ s f, d.read a = .nan s f := by
  unfold Nan Datum.isNaN at h
  cases hd : d.read a with
  | number s m e => rw [hd] at h; cases h
  | infinity s => rw [hd] at h; cases h
  | nan s f => exact ⟨s, f, rfl⟩
theorem add_nan_left {a b : Nat} (h : Nan a) : d.add a b = none := by
  obtain ⟨s, f, e⟩ := nan_form h
  simp [Format.add, e, Datum.sum]
theorem add_nan_right {a b : Nat} (h : Nan b) : d.add a b = none := by
  obtain ⟨s, f, e⟩ := nan_form h
  cases hd : d.read a <;> simp [Format.add, e, hd, Datum.sum]
theorem mul_nan_left {a b : Nat} (h : Nan a) : d.mul a b = none := by
  obtain ⟨s, f, e⟩ := nan_form h
  simp [Format.mul, e, Datum.product]
theorem mul_nan_right {a b : Nat} (h : Nan b) : d.mul a b = none := by
  obtain ⟨s, f, e⟩ := nan_form h
  cases hd : d.read a <;> simp [Format.mul, e, hd, Datum.product]
theorem sub_nan_left {a b : Nat} (h : Nan a) : d.sub a b = none := by
  obtain ⟨s, f, e⟩ := nan_form h
  simp [Format.sub, e, Datum.sum]
theorem sub_nan_right {a b : Nat} (h : Nan b) : d.sub a b = none := by
  obtain ⟨s, f, e⟩ := nan_form h
  cases hd : d.read a <;> simp [Format.sub, e, hd, Datum.sum, Datum.opposite]
theorem add_E {a a' b b' : Nat} (h : E a a') (k : E b b') : d.add a b = d.add a' b' := by
  rcases h with rfl | ⟨h1, h2⟩
  · rcases k with rfl | ⟨k1, k2⟩
    · rfl
    · rw [add_nan_right k1, add_nan_right k2]
  · rw [add_nan_left h1, add_nan_left h2]
theorem mul_E {a a' b b' : Nat} (h : E a a') (k : E b b') : d.mul a b = d.mul a' b' := by
  rcases h with rfl | ⟨h1, h2⟩
  · rcases k with rfl | ⟨k1, k2⟩
    · rfl
    · rw [mul_nan_right k1, mul_nan_right k2]
  · rw [mul_nan_left h1, mul_nan_left h2]
theorem sub_E {a a' b b' : Nat} (h : E a a') (k : E b b') : d.sub a b = d.sub a' b' := by
  rcases h with rfl | ⟨h1, h2⟩
  · rcases k with rfl | ⟨k1, k2⟩
    · rfl
    · rw [sub_nan_right k1, sub_nan_right k2]
  · rw [sub_nan_left h1, sub_nan_left h2]
theorem neg_nan {a : Nat} : Nan (Op.negFloat .f64 a) ↔ Nan a := by
  unfold Nan
  rw [read_neg]
  cases d.read a <;> simp [Datum.opposite, Datum.isNaN]
theorem neg_E {a b : Nat} (h : E a b) : E (Op.negFloat .f64 a) (Op.negFloat .f64 b) := by
  rcases h with rfl | ⟨h1, h2⟩
  · exact .refl _
  · exact .inr ⟨neg_nan.2 h1, neg_nan.2 h2⟩
/-- A word is equal to itself just where it is a number. -/
theorem order_self (a : Nat) : (d.order a a == some .eq) = !(d.read a).isNaN := by
  unfold Format.order
  cases hd : d.read a with
  | number s m e => simp [Datum.order, Datum.isNaN]
  | infinity s => simp [Datum.order, Datum.isNaN]
  | nan s f => simp [Datum.order, Datum.isNaN]
theorem nan_cut (t : Nat) : Nan ((t % 2) * 2 ^ 63 + 0x7ff0000000000000 + 1 + (t / 2) % (2 ^ 52 - 1)) := by
  unfold Nan
  have h1 : (t / 2) % (2 ^ 52 - 1) < 2 ^ 52 - 1 := Nat.mod_lt _ (by decide)
  have hw : (t % 2) * 2 ^ 63 + 0x7ff0000000000000 + 1 + (t / 2) % (2 ^ 52 - 1) = d.word (t % 2 == 1) (0x7ff0000000000000 + 1 + (t / 2) % (2 ^ 52 - 1)) := by
    unfold Format.word
    rw [signWeight_d]
    rcases Nat.mod_two_eq_zero_or_one t with h | h
    · simp [h]
    · simp [h]; omega
  rw [hw, read_word _ _ (by omega)]
  rw [if_neg (by omega), if_neg (by omega)]
  first | rfl | (split <;> first | rfl | (exfalso; omega)) | skip
theorem run_farith (P : Program) (w : World) (op : BinOp) (o : Option Nat) (x y : Nat) (h : (op = .add ∧ o = d.add x y) ∨ (op = .sub ∧ o = d.sub x y) ∨ (op = .mul ∧ o = d.mul x y) ∨ (op = .quo ∧ o = d.div x y)) :
    ∃ r n, Res o r ∧ (Op.floatArith op .f64 x y).run P w = .ok (.float .f64 r) (w.drewN n) := by
  have hf : FloatKind.f64.format = d := rfl
  cases ho : o with
  | some r =>
    refine ⟨r, 0, .inl rfl, ?_⟩
    rcases h with ⟨rfl, e⟩ | ⟨rfl, e⟩ | ⟨rfl, e⟩ | ⟨rfl, e⟩ <;> (rw [ho] at e; simp [Op.floatArith, hf, ← e]; rfl)
  | none =>
    refine ⟨_, 1, .inr ⟨rfl, nan_cut (w.tape w.drawn (.nanBits .f64 x y))⟩, ?_⟩
    rcases h with ⟨rfl, e⟩ | ⟨rfl, e⟩ | ⟨rfl, e⟩ | ⟨rfl, e⟩ <;> (rw [ho] at e; simp [Op.floatArith, hf, ← e, run_choose_drew, Question.forced, Question.cut]; rfl)
end Go.Proofs.Ytadlfebpaijbhaa.Fl
