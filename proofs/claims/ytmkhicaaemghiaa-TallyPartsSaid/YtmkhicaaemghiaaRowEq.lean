/- Two arrays of whole numbers, held against each other. No program is in sight. -/
import Derived.Test.YtmkhicaaemghiaaRow
import Derived.Laws.StructEq
namespace Go.Proofs.Ytmkhicaaemghiaa.W
open Go.RowKit
set_option linter.unusedVariables false
set_option linter.unusedSimpArgs false

def ints (k : IntKind) (f : Nat → Int) : Nat → Value := fun i => .int k (f i)
def eqTo (f g : Nat → Int) (n : Nat) : Bool := (List.range n).all fun i => f i == g i
theorem eqTo_iff {f g : Nat → Int} {n : Nat} : eqTo f g n = true ↔ ∀ i, i < n → f i = g i := by
  simp [eqTo]
theorem run_equalIn_ints {P : Program} {t e : TypeId} {n d : Nat} {k : IntKind} (f g : Nat → Int) (hu : P.underlying t = some (.array n e)) (he : P.underlying e = some (.int k)) (hs : (P.info? e).map (·.size) = some 1) (w : World) :
    (Op.equalIn (d + 2) t (.agg (row n (ints k f))) (.agg (row n (ints k g)))).run P w = .ok (eqTo f g n) w := by
  have hagg : ∀ w, (isAgg e).run P w = .ok false w := fun w => by
    unfold isAgg
    rw [Sem.run_bind, run_underlying he w]
    rfl
  have hpart : ∀ (f : Nat → Int) (i : Nat) (w : World), i < n → (part e (row n (ints k f)) i).run P w = .ok (.int k (f i)) w := fun f i w hi => by
    unfold part
    rw [Sem.run_bind, hagg]
    simp [row_get (ints k f) hi]
    rfl
  cases hq : P.info? e with
  | none => simp [hq] at hs
  | some x =>
    have hx : x.size = 1 := by simpa [hq] using hs
    have hE : ∀ (a b : Int) (w : World), (Op.equalIn (d + 1) e (.int k a) (.int k b)).run P w = .ok (a == b) w := fun a b w => run_equalIn_int w d e k k a b he
    rw [show d + 2 = (d + 1) + 1 from rfl]
    generalize d + 1 = D at hE ⊢
    simp only [Op.equalIn, Sem.run_bind, run_underlying hu, Result.andThen_ok, sizeOf, typeInfo, run_program, hq, hx]
    have hlist : ∀ (l : List Nat) (w : World), (∀ i ∈ l, i < n) → (forIn (m := Sem) l ((none, ()) : Option Bool × Unit) fun i _ => do
        if (!(← Op.equalIn D e (← part e (row n (ints k f)) (i * x.size)) (← part e (row n (ints k g)) (i * x.size)))) = true then pure (.done (some false, ())) else pure (.yield (none, ()))).run P w =
          .ok (if (l.all fun i => f i == g i) then (none, ()) else (some false, ())) w := by
      intro l
      induction l with
      | nil => intro w _; rfl
      | cons i l ih =>
        intro w hl
        have h1 := hl i (List.mem_cons_self ..)
        simp only [List.forIn_cons, Sem.run_bind, hx, Nat.mul_one, hpart f i w h1, hpart g i w h1, Result.andThen_ok, hE, List.all_cons]
        by_cases hfg : f i = g i
        · have := ih w (fun j hj => hl j (List.mem_cons_of_mem _ hj))
          simp only [hx, Nat.mul_one] at this
          simp [hfg]
          simpa using this
        · simp [hfg]
    have h := hlist (List.range' 0 n) w (fun i hi => by simp [List.mem_range'] at hi; omega)
    simp [Std.Legacy.Range.forIn_eq_forIn_range', Std.Legacy.Range.size] at h ⊢
    rw [h]
    by_cases hall : ∀ x, x < n → f x = g x
    · rw [if_pos hall, eqTo_iff.2 hall]
      rfl
    · have : eqTo f g n = false := by
        cases hq : eqTo f g n
        · rfl
        · exact absurd (eqTo_iff.1 hq) hall
      rw [if_neg hall, this]
      rfl
theorem run_eql_ints {P : Program} {t e : TypeId} {n : Nat} {k : IntKind} (f g : Nat → Int) (hu : P.underlying t = some (.array n e)) (he : P.underlying e = some (.int k)) (hs : (P.info? e).map (·.size) = some 1) (w : World) :
    (binOp .eql t (.agg (row n (ints k f))) (.agg (row n (ints k g)))).run P w = .ok (.bool (eqTo f g n)) w := by
  rw [run_eql_struct, show (10000 : Nat) = 9998 + 2 from rfl, run_equalIn_ints f g hu he hs w]
  rfl
end Go.Proofs.Ytmkhicaaemghiaa.W
