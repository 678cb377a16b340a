/- Floats that are whole numbers: sums, products and comparisons of them are exact. No program is in sight. -/
import Derived.Test.YtadlfebpaijbhaaWords
import Derived.Laws.FloatArith
import Derived.Laws.ComplexArith
import Derived.WalkLawsBesides
namespace Go.Proofs.Ytadlfebpaijbhaa.Fl
open Go.RowKit Ieee
set_option linter.unusedVariables false
set_option linter.unusedSimpArgs false

def d : Format := Ieee.double
theorem leastPlace_d : d.leastPlace = -1074 := by decide
theorem signWeight_d : d.signWeight = 9223372036854775808 := by decide
theorem binade_d : d.binade = 4503599627370496 := by decide
theorem infRung_d : d.infRung = 9218868437227405312 := by decide
theorem fractionBits_d : d.fractionBits = 52 := rfl

/-- A number above all places' depths. -/
def C : Nat := 3000
theorem C_is : C = 3000 := rfl
attribute [irreducible] C
/-- The word b stands for the whole number n. -/
def V (b : Nat) (n : Int) : Prop := ∃ s m e, d.read b = .number s m e ∧ -1074 ≤ e ∧ signed s m (e + (C : Int)).toNat = n * ((2 ^ C : Nat) : Int)

theorem cut_exact (neg : Bool) (q drop : Nat) (hq : 0 < q) : Toward.even.cut neg (q * 2 ^ drop) drop = q := by
  have hlog : (q * 2 ^ drop).log2 = q.log2 + drop := by
    rw [Nat.log2_eq_iff (Nat.pos_iff_ne_zero.1 (Nat.mul_pos hq (Nat.pow_pos (by omega))))]
    have h1 := Nat.log2_self_le (Nat.pos_iff_ne_zero.1 hq)
    have h2 := @Nat.lt_log2_self q
    constructor
    · rw [Nat.pow_add]; exact Nat.mul_le_mul_right _ h1
    · rw [show q.log2 + drop + 1 = (q.log2 + 1) + drop from by omega, Nat.pow_add]
      exact (Nat.mul_lt_mul_right (Nat.pow_pos (by omega))).2 h2
  unfold Toward.cut
  have hp : 0 < 2 ^ drop := Nat.pow_pos (by omega)
  simp only [hlog, Nat.min_eq_left (show drop ≤ q.log2 + drop + 2 by omega), Nat.one_shiftLeft, Nat.mul_div_cancel _ hp, Nat.mul_mod_left]
  have h1 : decide (2 ^ drop < 2 * 0) = false := by simp
  have h2 : (2 ^ drop == 2 * 0) = false := by first | (simp; done) | (simp; omega)
  rw [h1, h2]
  rfl

theorem read_word (neg : Bool) (r : Nat) (h : r < 9223372036854775808) : d.read (d.word neg r) = 
    (if r < 4503599627370496 then Datum.number neg r (-1074)
     else if r < 9218868437227405312 then .number neg (4503599627370496 + r % 4503599627370496) (-1074 + (r / 4503599627370496 - 1 : Nat))
     else if r = 9218868437227405312 then .infinity neg else .nan neg (r - 9218868437227405312)) := by
  unfold Format.read Format.word
  rw [signWeight_d, binade_d, infRung_d, leastPlace_d]
  cases neg
  · simp only [Bool.false_eq_true, if_false]
    rw [show r % 9223372036854775808 = r from Nat.mod_eq_of_lt h, show r / 9223372036854775808 % 2 = 0 from by omega]
    rfl
  · simp only [if_true]
    rw [show (9223372036854775808 + r) % 9223372036854775808 = r from by omega, show (9223372036854775808 + r) / 9223372036854775808 % 2 = 1 from by omega]
    rfl

theorem nearest_zero (neg : Bool) (place : Int) : d.read (d.nearest neg 0 place) = .number neg 0 (-1074) := by
  unfold Format.nearest
  rw [if_pos rfl, read_word neg 0 (by omega), if_pos (by omega)]

set_option maxRecDepth 100000 in
theorem nearest_exact (neg : Bool) (mag : Nat) (place : Int) (N : Nat) (hN : N ≤ 9007199254740992) (hp : -(C : Int) ≤ place) (h : mag * 2 ^ (place + (C : Int)).toNat = N * 2 ^ C) :
    ∃ m e, d.read (d.nearest neg mag place) = .number neg m e ∧ -1074 ≤ e ∧ m * 2 ^ (e + (C : Int)).toNat = N * 2 ^ C := by
  have hC := C_is
  have h2p : ∀ k : Nat, 0 < 2 ^ k := fun k => Nat.pow_pos (by omega)
  by_cases hz : N = 0
  · subst hz
    have hm : mag = 0 := by
      rw [Nat.zero_mul] at h
      rcases Nat.mul_eq_zero.1 h with h | h
      · exact h
      · have := h2p (place + (C : Int)).toNat; omega
    subst hm
    exact ⟨0, -1074, nearest_zero neg place, by omega, by rw [Nat.zero_mul, Nat.zero_mul]⟩
  · have hm : mag ≠ 0 := by
      rintro rfl
      rw [Nat.zero_mul] at h
      have := Nat.mul_pos (show 0 < N by omega) (h2p C)
      omega
    obtain ⟨L, hL⟩ : ∃ L, L = N.log2 := ⟨_, rfl⟩
    have hL1 : 2 ^ L ≤ N := by rw [hL]; exact Nat.log2_self_le hz
    have hL2 : N < 2 ^ (L + 1) := by rw [hL]; exact Nat.lt_log2_self
    have hL53 : L ≤ 53 := by
      rcases Nat.lt_or_ge 53 L with hlt | hge
      · have : 2 ^ 54 ≤ 2 ^ L := Nat.pow_le_pow_right (by omega) hlt
        omega
      · exact hge
    -- the place of the first digit
    have hlog : (mag.log2 : Int) + place = L := by
      have e1 : (mag * 2 ^ (place + (C : Int)).toNat).log2 = mag.log2 + (place + (C : Int)).toNat := by
        rw [Nat.log2_eq_iff (Nat.pos_iff_ne_zero.1 (Nat.mul_pos (Nat.pos_of_ne_zero hm) (h2p _)))]
        have a1 := Nat.log2_self_le hm
        have a2 := @Nat.lt_log2_self mag
        constructor
        · rw [Nat.pow_add]; exact Nat.mul_le_mul_right _ a1
        · rw [show mag.log2 + (place + (C : Int)).toNat + 1 = (mag.log2 + 1) + (place + (C : Int)).toNat from by omega, Nat.pow_add]
          exact (Nat.mul_lt_mul_right (h2p _)).2 a2
      have e2 : (N * 2 ^ C).log2 = L + C := by
        rw [Nat.log2_eq_iff (Nat.pos_iff_ne_zero.1 (Nat.mul_pos (Nat.pos_of_ne_zero hz) (h2p _)))]
        constructor
        · rw [Nat.pow_add]; exact Nat.mul_le_mul_right _ hL1
        · rw [show L + C + 1 = (L + 1) + C from by omega, Nat.pow_add]
          exact (Nat.mul_lt_mul_right (h2p _)).2 hL2
      rw [h, e2] at e1
      omega
    -- the digits that are kept
    obtain ⟨K, hK1, hK2, hK⟩ : ∃ K, 4503599627370496 ≤ K ∧ K < 9007199254740992 ∧ K * 2 ^ (L + (C - 52)) = N * 2 ^ C := by
      rcases Nat.lt_or_ge L 53 with hlt | hge
      · refine ⟨N * 2 ^ (52 - L), ?_, ?_, ?_⟩
        · have : 2 ^ L * 2 ^ (52 - L) ≤ N * 2 ^ (52 - L) := Nat.mul_le_mul_right _ hL1
          rw [← Nat.pow_add, show L + (52 - L) = 52 from by omega] at this
          exact this
        · have : N * 2 ^ (52 - L) < 2 ^ (L + 1) * 2 ^ (52 - L) := (Nat.mul_lt_mul_right (h2p _)).2 hL2
          rw [← Nat.pow_add, show L + 1 + (52 - L) = 53 from by omega] at this
          exact this
        · rw [Nat.mul_assoc, ← Nat.pow_add, show 52 - L + (L + (C - 52)) = C from by omega]
      · have e53 : L = 53 := by omega
        subst e53
        have : N = 2 ^ 53 := by have : 2 ^ 53 = 9007199254740992 := by decide
                                omega
        subst this
        refine ⟨2 ^ 52, by decide, by decide, ?_⟩
        rw [← Nat.pow_add, ← Nat.pow_add, show 52 + (53 + (C - 52)) = 53 + C from by omega]
    have hKpos : 0 < K := by omega
    have hlast : max (place + (mag.log2 : Int) - (d.fractionBits : Int)) d.leastPlace = (L : Int) - 52 := by
      rw [leastPlace_d, fractionBits_d]
      omega
    have hcut : Toward.even.cut neg (mag <<< (place - ((L : Int) - 52)).toNat) (((L : Int) - 52) - place).toNat = K := by
      rcases (show place < (L : Int) - 52 ∨ (L : Int) - 52 ≤ place by omega) with hlt | hge
      · rw [show (place - ((L : Int) - 52)).toNat = 0 from by omega, Nat.shiftLeft_zero]
        have hmag : mag = K * 2 ^ (((L : Int) - 52) - place).toNat := by
          refine Nat.eq_of_mul_eq_mul_right (h2p (place + (C : Int)).toNat) ?_
          rw [h, Nat.mul_assoc, ← Nat.pow_add, show (((L : Int) - 52) - place).toNat + (place + (C : Int)).toNat = L + (C - 52) from by omega, hK]
        conv => lhs; rw [hmag]
        exact cut_exact neg K _ hKpos
      · rw [show (((L : Int) - 52) - place).toNat = 0 from by omega, Nat.shiftLeft_eq]
        have hmag : mag * 2 ^ (place - ((L : Int) - 52)).toNat = K := by
          refine Nat.eq_of_mul_eq_mul_right (h2p (L + (C - 52))) ?_
          rw [hK, Nat.mul_assoc, ← Nat.pow_add, show (place - ((L : Int) - 52)).toNat + (L + (C - 52)) = (place + (C : Int)).toNat from by omega, h]
        rw [hmag]
        have := cut_exact neg K 0 hKpos
        simpa using this
    refine ⟨K, (L : Int) - 52, ?_, by omega, ?_⟩
    · unfold Format.nearest
      rw [if_neg hm]
      simp only [hlast]
      rw [hcut, leastPlace_d, binade_d, infRung_d]
      have e1 : ((L : Int) - 52 - -1074).toNat = L + 1022 := by omega
      rw [e1, Nat.min_eq_left (by omega), read_word neg _ (by omega), if_neg (by omega), if_pos (by omega)]
      have e2 : (L + 1022) * 4503599627370496 + K = (L + 1023) * 4503599627370496 + (K - 4503599627370496) := by omega
      rw [e2]
      have e3 : ((L + 1023) * 4503599627370496 + (K - 4503599627370496)) % 4503599627370496 = K - 4503599627370496 := by omega
      have e4 : ((L + 1023) * 4503599627370496 + (K - 4503599627370496)) / 4503599627370496 = L + 1023 := by omega
      rw [e3, e4]
      simp only [Datum.number.injEq]
      exact ⟨trivial, by omega, by omega⟩
    · rw [show ((L : Int) - 52 + (C : Int)).toNat = L + (C - 52) from by omega]
      exact hK

theorem signed_mul (s : Bool) (m a b : Nat) : signed s m a * ((2 ^ b : Nat) : Int) = signed s m (a + b) := by
  unfold signed
  cases s
  · simp only [Bool.false_eq_true, if_false, Nat.shiftLeft_eq]
    rw [← Int.natCast_mul, Nat.mul_assoc, ← Nat.pow_add]
  · simp only [if_true, Nat.shiftLeft_eq]
    rw [Int.neg_mul, ← Int.natCast_mul, Nat.mul_assoc, ← Nat.pow_add]
theorem signed_abs (s : Bool) (m a : Nat) : (signed s m a).natAbs = m * 2 ^ a := by
  unfold signed
  cases s
  · simp only [Bool.false_eq_true, if_false, Int.natAbs_natCast, Nat.shiftLeft_eq]
  · simp only [if_true, Int.natAbs_neg, Int.natAbs_natCast, Nat.shiftLeft_eq]
theorem pow_pos' (k : Nat) : (0 : Int) < ((2 ^ k : Nat) : Int) := by
  have : 0 < 2 ^ k := Nat.pow_pos (by omega)
  omega

/-- A number that is written is read as it was, if it is whole and not too great. -/
theorem write_exact (neg : Bool) (mag : Nat) (place : Int) (n : Int) (hn : n.natAbs ≤ 9007199254740992) (hp : -(C : Int) ≤ place)
    (h : signed neg mag (place + (C : Int)).toNat = n * ((2 ^ C : Nat) : Int)) : V (d.write (.number neg mag place)) n := by
  have habs : mag * 2 ^ (place + (C : Int)).toNat = n.natAbs * 2 ^ C := by
    have := congrArg Int.natAbs h
    rw [signed_abs, Int.natAbs_mul, Int.natAbs_natCast] at this
    exact this
  obtain ⟨m, e, h1, h2, h3⟩ := nearest_exact neg mag place n.natAbs hn hp habs
  refine ⟨neg, m, e, h1, h2, ?_⟩
  have e1 : signed neg m (e + (C : Int)).toNat = signed neg mag (place + (C : Int)).toNat := by
    unfold signed
    rw [Nat.shiftLeft_eq, Nat.shiftLeft_eq, h3, habs]
  rw [e1, h]

theorem V_add {a b : Nat} {x y : Int} (ha : V a x) (hb : V b y) (hxy : (x + y).natAbs ≤ 9007199254740992) : ∃ r, d.add a b = some r ∧ V r (x + y) := by
  obtain ⟨s, m, i, h1, h2, h3⟩ := ha
  obtain ⟨t, n, j, k1, k2, k3⟩ := hb
  have hC := C_is
  unfold Format.add
  rw [h1, k1]
  refine ⟨_, rfl, write_exact _ _ _ _ hxy (by omega) ?_⟩
  have e1 := signed_mul s m (i - min i j).toNat (min i j + (C : Int)).toNat
  have e2 := signed_mul t n (j - min i j).toNat (min i j + (C : Int)).toNat
  rw [show (i - min i j).toNat + (min i j + (C : Int)).toNat = (i + (C : Int)).toNat from by omega, h3] at e1
  rw [show (j - min i j).toNat + (min i j + (C : Int)).toNat = (j + (C : Int)).toNat from by omega, k3] at e2
  obtain ⟨T, hT⟩ : ∃ T, T = signed s m (i - min i j).toNat + signed t n (j - min i j).toNat := ⟨_, rfl⟩
  rw [← hT]
  have e3 : T * ((2 ^ (min i j + (C : Int)).toNat : Nat) : Int) = (x + y) * ((2 ^ C : Nat) : Int) := by
    rw [hT, Int.add_mul, e1, e2, Int.add_mul]
  rw [← e3]
  have hp := pow_pos' (min i j + (C : Int)).toNat
  unfold signed
  by_cases h0 : T = 0
  · subst h0
    simp
  · rw [if_neg h0]
    by_cases hneg : T < 0
    · simp only [hneg, decide_true, if_true, Nat.shiftLeft_eq]
      rw [Int.natCast_mul, ← Int.neg_mul, show -((T.natAbs : Nat) : Int) = T from by omega]
    · simp only [hneg, decide_false, Bool.false_eq_true, if_false, Nat.shiftLeft_eq]
      rw [Int.natCast_mul, show ((T.natAbs : Nat) : Int) = T from by omega]

theorem V_order {a b : Nat} {x y : Int} (ha : V a x) (hb : V b y) : d.order a b = some (compare x y) := by
  obtain ⟨s, m, i, h1, h2, h3⟩ := ha
  obtain ⟨t, n, j, k1, k2, k3⟩ := hb
  have hC := C_is
  unfold Format.order
  rw [h1, k1]
  simp only [Datum.order]
  have e1 := signed_mul s m (i - min i j).toNat (min i j + (C : Int)).toNat
  have e2 := signed_mul t n (j - min i j).toNat (min i j + (C : Int)).toNat
  rw [show (i - min i j).toNat + (min i j + (C : Int)).toNat = (i + (C : Int)).toNat from by omega, h3] at e1
  rw [show (j - min i j).toNat + (min i j + (C : Int)).toNat = (j + (C : Int)).toNat from by omega, k3] at e2
  have hp := pow_pos' (min i j + (C : Int)).toNat
  have hq := pow_pos' C
  obtain ⟨A, hA⟩ : ∃ A, A = signed s m (i - min i j).toNat := ⟨_, rfl⟩
  obtain ⟨B, hB⟩ : ∃ B, B = signed t n (j - min i j).toNat := ⟨_, rfl⟩
  rw [← hA] at e1 ⊢
  rw [← hB] at e2 ⊢
  congr 1
  rcases Int.lt_trichotomy x y with hlt | he | hgt
  · have : x * ((2 ^ C : Nat) : Int) < y * ((2 ^ C : Nat) : Int) := Int.mul_lt_mul_of_pos_right hlt hq
    rw [← e1, ← e2] at this
    have hAB : A < B := Int.lt_of_mul_lt_mul_right this (Int.le_of_lt hp)
    rw [Int.compare_eq_lt.2 hAB, Int.compare_eq_lt.2 hlt]
  · subst he
    rw [← e1] at e2
    have hAB : B = A := Int.eq_of_mul_eq_mul_right (by omega) e2
    rw [hAB]
    simp
  · have : y * ((2 ^ C : Nat) : Int) < x * ((2 ^ C : Nat) : Int) := Int.mul_lt_mul_of_pos_right hgt hq
    rw [← e1, ← e2] at this
    have hAB : B < A := Int.lt_of_mul_lt_mul_right this (Int.le_of_lt hp)
    rw [Int.compare_eq_gt.2 hAB, Int.compare_eq_gt.2 hgt]
theorem V_eq {a b : Nat} {x y : Int} (ha : V a x) (hb : V b y) : (d.order a b == some .eq) = (x == y) := by
  rw [V_order ha hb]
  rcases Int.lt_trichotomy x y with hlt | he | hgt
  · rw [Int.compare_eq_lt.2 hlt, show (x == y) = false from by simp; omega]; rfl
  · subst he; simp
  · rw [Int.compare_eq_gt.2 hgt, show (x == y) = false from by simp; omega]; rfl
theorem V_gt {a b : Nat} {x y : Int} (ha : V a x) (hb : V b y) : (d.order a b == some .gt) = decide (y < x) := by
  rw [V_order ha hb]
  rcases Int.lt_trichotomy x y with hlt | he | hgt
  · rw [Int.compare_eq_lt.2 hlt, show decide (y < x) = false from by simp; omega]; rfl
  · subst he; simp
  · rw [Int.compare_eq_gt.2 hgt, show decide (y < x) = true from by simp; omega]; rfl

theorem V_ofInt (n : Int) (h : n.natAbs ≤ 9007199254740992) : V (floatOfInt .f64 n) n := by
  have hC := C_is
  refine write_exact _ _ _ _ h (by omega) ?_
  rw [show ((0 : Int) + (C : Int)).toNat = C from by omega]
  unfold signed
  by_cases hneg : n < 0
  · simp only [hneg, decide_true, if_true, Nat.shiftLeft_eq]
    rw [Int.natCast_mul, ← Int.neg_mul, show -((n.natAbs : Nat) : Int) = n from by omega]
  · simp only [hneg, decide_false, Bool.false_eq_true, if_false, Nat.shiftLeft_eq]
    rw [Int.natCast_mul, show ((n.natAbs : Nat) : Int) = n from by omega]

theorem V_mul {a b : Nat} {x y : Int} (ha : V a x) (hb : V b y) (hxy : (x * y).natAbs ≤ 9007199254740992) : ∃ r, d.mul a b = some r ∧ V r (x * y) := by
  obtain ⟨s, m, i, h1, h2, h3⟩ := ha
  obtain ⟨t, n, j, k1, k2, k3⟩ := hb
  have hC := C_is
  unfold Format.mul
  rw [h1, k1]
  refine ⟨_, rfl, write_exact _ _ _ _ hxy (by omega) ?_⟩
  have hq := pow_pos' C
  refine Int.eq_of_mul_eq_mul_right (show ((2 ^ C : Nat) : Int) ≠ 0 by omega) ?_
  rw [signed_mul]
  have e : signed (s ^^ t) (m * n) ((i + j + (C : Int)).toNat + C) = signed s m (i + (C : Int)).toNat * signed t n (j + (C : Int)).toNat := by
    rw [show (i + j + (C : Int)).toNat + C = (i + (C : Int)).toNat + (j + (C : Int)).toNat from by omega]
    unfold signed
    cases s <;> cases t <;> simp only [Bool.xor_false, Bool.xor_true, Bool.false_xor, Bool.not_true, Bool.not_false, Bool.false_eq_true, if_false, if_true, Nat.shiftLeft_eq, Int.natCast_mul, Nat.pow_add, Int.neg_mul, Int.mul_neg, Int.neg_neg]
    all_goals simp only [Int.mul_assoc, Int.mul_comm, Int.mul_left_comm]
  rw [e, h3, k3]
  simp only [Int.mul_assoc, Int.mul_comm, Int.mul_left_comm]

/-! ### The other sign -/
theorem opp_ifs (s : Bool) (r a b c : Nat) :
    (if r < a then Datum.number (!s) r (-1074) else if r < b then Datum.number (!s) (a + r % a) (-1074 + (r / a - 1 : Nat)) else if r = c then Datum.infinity (!s) else Datum.nan (!s) (r - c)) =
    (if r < a then Datum.number s r (-1074) else if r < b then Datum.number s (a + r % a) (-1074 + (r / a - 1 : Nat)) else if r = c then Datum.infinity s else Datum.nan s (r - c)).opposite := by
  by_cases h1 : r < a
  · rw [if_pos h1, if_pos h1]; rfl
  · rw [if_neg h1, if_neg h1]
    by_cases h2 : r < b
    · rw [if_pos h2, if_pos h2]; rfl
    · rw [if_neg h2, if_neg h2]
      by_cases h3 : r = c
      · rw [if_pos h3, if_pos h3]; rfl
      · rw [if_neg h3, if_neg h3]; rfl
theorem read_neg (b : Nat) : d.read (Op.negFloat .f64 b) = (d.read b).opposite := by
  have e0 : Op.negFloat .f64 b = b ^^^ 2 ^ 63 := rfl
  rw [e0]
  have e1 : (b ^^^ 2 ^ 63) % 2 ^ 63 = b % 2 ^ 63 := by
    rw [Nat.xor_mod_two_pow, Nat.mod_self, Nat.xor_zero]
  have e2 : (b ^^^ 2 ^ 63) / 2 ^ 63 = (b / 2 ^ 63) ^^^ 1 := by
    rw [Nat.xor_div_two_pow, Nat.div_self (Nat.pow_pos (by omega))]
  have e3 : ((b / 2 ^ 63) ^^^ 1) % 2 = ((b / 2 ^ 63) % 2) ^^^ 1 := by
    have := @Nat.xor_mod_two_pow (b / 2 ^ 63) 1 1
    simpa using this
  unfold Format.read
  rw [signWeight_d, binade_d, infRung_d, leastPlace_d]
  have q1 : (9223372036854775808 : Nat) = 2 ^ 63 := by decide
  rw [q1, e1, e2, e3]
  have hb : (b / 2 ^ 63) % 2 = 0 ∨ (b / 2 ^ 63) % 2 = 1 := by omega
  rcases hb with h | h
  · rw [h]
    simp only [show ((0 ^^^ 1 : Nat) == 1) = true from rfl, show ((0 : Nat) == 1) = false from rfl]
    exact opp_ifs false (b % 2 ^ 63) 4503599627370496 9218868437227405312 9218868437227405312
  · rw [h]
    simp only [show ((1 ^^^ 1 : Nat) == 1) = false from rfl, show ((1 : Nat) == 1) = true from rfl]
    exact opp_ifs true (b % 2 ^ 63) 4503599627370496 9218868437227405312 9218868437227405312
theorem V_neg {b : Nat} {n : Int} (h : V b n) : V (Op.negFloat .f64 b) (-n) := by
  obtain ⟨s, m, e, h1, h2, h3⟩ := h
  refine ⟨!s, m, e, by rw [read_neg, h1]; rfl, h2, ?_⟩
  rw [Int.neg_mul, ← h3]
  unfold signed
  cases s <;> simp
theorem neg_neg (b : Nat) : Op.negFloat .f64 (Op.negFloat .f64 b) = b := by
  show (b ^^^ 2 ^ 63) ^^^ 2 ^ 63 = b
  rw [Nat.xor_assoc, Nat.xor_self, Nat.xor_zero]
theorem V_zero : V 0 0 := ⟨false, 0, -1074, by decide, by omega, by simp [signed]⟩
theorem V_one : V 4607182418800017408 1 := by
  have h := V_ofInt 1 (by decide)
  have e : floatOfInt .f64 1 = 4607182418800017408 := by decide
  rwa [e] at h
end Go.Proofs.Ytadlfebpaijbhaa.Fl
