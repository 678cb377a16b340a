/- Sums of turned phases whose parts are whole numbers are exact; what they come to. No program is in sight. -/
import Derived.Test.YtadlfebpaijbhaaPhaseSpec
namespace Go.Proofs.Ytadlfebpaijbhaa.Ph
open Go.RowKit Go.Proofs.Ytadlfebpaijbhaa.W Go.Proofs.Ytadlfebpaijbhaa.Fl
set_option linter.unusedVariables false
set_option linter.unusedSimpArgs false

def sumI (a b : Nat → Int) (by_ : Int) : Nat → Int × Int
  | 0 => (0, 0)
  | n + 1 => ((sumI a b by_ n).1 + (rotI ((by_ * (n : Int)) % 4).toNat (a n) (b n)).1, (sumI a b by_ n).2 + (rotI ((by_ * (n : Int)) % 4).toNat (a n) (b n)).2)
theorem rotI_abs (M : Nat) : ∀ (k : Nat) (x y : Int), x.natAbs ≤ M → y.natAbs ≤ M → (rotI k x y).1.natAbs ≤ M ∧ (rotI k x y).2.natAbs ≤ M
  | 0, _, _, h, h' => ⟨h, h'⟩
  | k + 1, x, y, h, h' => rotI_abs M k _ _ (by omega) h
theorem resV {o : Option Nat} {r x : Nat} {n : Int} (h : Res o r) (k : o = some x) (v : V x n) : Fl.V r n := by
  rcases h with h | ⟨h, _⟩
  · rw [k] at h
    injection h with h
    rwa [← h]
  · rw [k] at h; cases h
theorem resAdd {a b r : Nat} {x y : Int} (h : Res (Fl.d.add a b) r) (ha : V a x) (hb : V b y) (hxy : (x + y).natAbs ≤ 9007199254740992) : Fl.V r (x + y) := by
  obtain ⟨q, h1, h2⟩ := V_add ha hb hxy
  exact resV h h1 h2
theorem resMul {a b r : Nat} {x y : Int} (h : Res (Fl.d.mul a b) r) (ha : V a x) (hb : V b y) (hxy : (x * y).natAbs ≤ 9007199254740992) : Fl.V r (x * y) := by
  obtain ⟨q, h1, h2⟩ := V_mul ha hb hxy
  exact resV h h1 h2
theorem V_sum {l : Nat → Nat × Nat} {a b : Nat → Int} {by_ : Int} {M : Nat} (hM : 4 * M ≤ 9007199254740992) (hl : ∀ i, i < 4 → V (l i).1 (a i) ∧ V (l i).2 (b i) ∧ (a i).natAbs ≤ M ∧ (b i).natAbs ≤ M) :
    ∀ (n : Nat) (r s : Nat), n ≤ 4 → SumIs l by_ n r s → V r (sumI a b by_ n).1 ∧ V s (sumI a b by_ n).2 ∧ (sumI a b by_ n).1.natAbs ≤ n * M ∧ (sumI a b by_ n).2.natAbs ≤ n * M
  | 0, r, s, _, h => by
    obtain ⟨rfl, rfl⟩ := h
    exact ⟨V_zero, V_zero, by simp [sumI], by simp [sumI]⟩
  | n + 1, r, s, hn, h => by
    obtain ⟨r0, s0, h0, h1, h2⟩ := h
    obtain ⟨v1, v2, a1, a2⟩ := V_sum hM hl n r0 s0 (by omega) h0
    obtain ⟨w1, w2, b1, b2⟩ := hl n (by omega)
    obtain ⟨c1, c2⟩ := rotI_abs M ((by_ * (n : Int)) % 4).toNat _ _ b1 b2
    obtain ⟨u1, u2⟩ := V_rot ((by_ * (n : Int)) % 4).toNat w1 w2
    have e : (n + 1) * M = n * M + M := by rw [Nat.add_mul, Nat.one_mul]
    have e4 : n * M ≤ 3 * M := Nat.mul_le_mul_right _ (by omega)
    simp only [sumI]
    rw [e]
    exact ⟨resAdd h1 v1 u1 (by omega), resAdd h2 v2 u2 (by omega), by omega, by omega⟩
theorem natAbs_count {n : Int} (h : isCount n = true) : 0 ≤ n ∧ n ≤ 1048576 := by simpa [isCount] using h
theorem V_in {n : Nat → Int} (h : ∀ i, i < 4 → isCount (n i) = true) : ∀ i, i < 4 → V (inN n 4 i).1 (n i) ∧ V (inN n 4 i).2 0 ∧ (n i).natAbs ≤ 1048576 ∧ (0 : Int).natAbs ≤ 1048576 := by
  intro i hi
  have := natAbs_count (h i hi)
  unfold inN
  rw [if_pos hi]
  exact ⟨V_ofInt _ (by omega), V_zero, by omega, by decide⟩
/-- The whole numbers of a spectrum. -/
def specR (n : Nat → Int) (k : Nat) : Int := if k = 0 then n 0 + n 1 + n 2 + n 3 else if k = 2 then n 0 - n 1 + n 2 - n 3 else n 0 - n 2
def specI (n : Nat → Int) (k : Nat) : Int := if k = 1 then n 3 - n 1 else if k = 3 then n 1 - n 3 else 0
theorem sum_spec (n : Nat → Int) {k : Nat} (hk : k < 4) : sumI n (fun _ => 0) (-(k : Int)) 4 = (specR n k, specI n k) := by
  have h4 : k = 0 ∨ k = 1 ∨ k = 2 ∨ k = 3 := by omega
  rcases h4 with rfl | rfl | rfl | rfl
  all_goals
    simp [sumI, rotI, specR, specI]
    try omega
theorem V_spec {n : Nat → Int} (h : ∀ i, i < 4 → isCount (n i) = true) {k : Nat} (hk : k < 4) {r s : Nat} (hs : SumIs (inN n 4) (-(k : Int)) 4 r s) : V r (specR n k) ∧ V s (specI n k) := by
  have := V_sum (by decide) (V_in h) 4 r s (by omega) hs
  rw [sum_spec n hk] at this
  exact ⟨this.1, this.2.1⟩
theorem spec_abs {n : Nat → Int} (h : ∀ i, i < 4 → isCount (n i) = true) (k : Nat) : (specR n k).natAbs ≤ 4194304 ∧ (specI n k).natAbs ≤ 4194304 := by
  have h0 := natAbs_count (h 0 (by omega))
  have h1 := natAbs_count (h 1 (by omega))
  have h2 := natAbs_count (h 2 (by omega))
  have h3 := natAbs_count (h 3 (by omega))
  unfold specR specI
  constructor
  · split <;> (try split) <;> omega
  · split <;> (try split) <;> omega
/-- .. and back. -/
theorem sum_back (n : Nat → Int) {t : Nat} (ht : t < 4) : sumI (specR n) (specI n) (t : Int) 4 = (4 * n t, 0) := by
  have h4 : t = 0 ∨ t = 1 ∨ t = 2 ∨ t = 3 := by omega
  rcases h4 with rfl | rfl | rfl | rfl
  all_goals
    simp [sumI, rotI, specR, specI]
    try omega
/-- A square of a phase of whole parts. -/
def sqI (n : Nat → Int) (k : Nat) : Int := specR n k * specR n k + specI n k * specI n k
theorem sq_bound {x : Int} (h : x.natAbs ≤ 4194304) : 0 ≤ x * x ∧ x * x ≤ 17592186044416 := by
  obtain ⟨n, hn⟩ : ∃ n : Nat, x * x = ((n * n : Nat) : Int) ∧ n ≤ 4194304 := by
    obtain ⟨n, rfl | rfl⟩ := Int.eq_nat_or_neg x
    · exact ⟨n, by simp, by simpa using h⟩
    · exact ⟨n, by rw [Int.neg_mul_neg]; simp, by simpa using h⟩
  have h2 : n * n ≤ 4194304 * 4194304 := Nat.mul_le_mul hn.2 hn.2
  rw [hn.1]
  omega
theorem sqI_bound {n : Nat → Int} (h : ∀ i, i < 4 → isCount (n i) = true) (k : Nat) : 0 ≤ sqI n k ∧ sqI n k ≤ 35184372088832 := by
  obtain ⟨h1, h2⟩ := spec_abs h k
  have := sq_bound h1
  have := sq_bound h2
  unfold sqI
  omega
theorem V_norm {n : Nat → Int} (h : ∀ i, i < 4 → isCount (n i) = true) {k : Nat} {a b x y r : Nat} (ha : V a (specR n k)) (hb : V b (specI n k)) (h1 : Res (Fl.d.mul a a) x) (h2 : Res (Fl.d.mul b b) y) (h3 : Res (Fl.d.add x y) r) : V r (sqI n k) := by
  obtain ⟨b1, b2⟩ := spec_abs h k
  have c1 := sq_bound b1
  have c2 := sq_bound b2
  exact resAdd h3 (resMul h1 ha ha (by omega)) (resMul h2 hb hb (by omega)) (by omega)
/-- The quarter of four times a number. -/
theorem V_quarter {a r : Nat} {n : Int} (ha : V a (4 * n)) (hn : n.natAbs ≤ 9007199254740992) (h : Res (Fl.d.mul a 4598175219545276416) r) : V r n := by
  obtain ⟨s, m, i, h1, h2, h3⟩ := ha
  have hC := C_is
  have hq : Fl.d.read 4598175219545276416 = .number false 4503599627370496 (-54) := by decide
  have e : Fl.d.mul a 4598175219545276416 = some (Fl.d.write (.number (s ^^ false) (m * 4503599627370496) (i + -54))) := by
    unfold Ieee.Format.mul
    rw [h1, hq]
    rfl
  refine resV h e (write_exact _ _ _ _ hn (by omega) ?_)
  have hq2 := pow_pos' 54
  refine Int.eq_of_mul_eq_mul_right (show ((2 ^ 54 : Nat) : Int) ≠ 0 by omega) ?_
  have e1 := signed_mul s (m * 4503599627370496) (i + -54 + (C : Int)).toNat 54
  have e2 := signed_mul s m (i + (C : Int)).toNat 52
  rw [Bool.xor_false]
  rw [e1]
  have e3 : Ieee.signed s (m * 4503599627370496) ((i + -54 + (C : Int)).toNat + 54) = Ieee.signed s m ((i + (C : Int)).toNat + 52) := by
    rw [show (i + -54 + (C : Int)).toNat + 54 = (i + (C : Int)).toNat by omega]
    unfold Ieee.signed
    rw [Nat.shiftLeft_eq, Nat.shiftLeft_eq, Nat.mul_assoc, Nat.pow_add, Nat.mul_comm 4503599627370496]
  rw [e3, ← e2, h3]
  rw [show ((2 ^ 54 : Nat) : Int) = 4 * ((2 ^ 52 : Nat) : Int) by decide]
  simp only [Int.mul_assoc, Int.mul_comm, Int.mul_left_comm]
end Go.Proofs.Ytadlfebpaijbhaa.Ph
