/- The plain law of gf: what the functions on elements compute, and that it is a field. No program is in sight. -/
import Derived.Test.YtikhaocpohfcnaaWords
namespace Go.Proofs.Ytikhaocpohfcnaa.Gf

/-- Multiplied by x. -/
def tw (a : BitVec 8) : BitVec 8 := if a &&& 128#8 ≠ 0#8 then (a <<< 1) ^^^ 27#8 else a <<< 1
/-- Added. -/
def ad (a b : BitVec 8) : BitVec 8 := a ^^^ b
def sr (b : BitVec 8) : BitVec 8 := b >>> 1
def od (b : BitVec 8) : Bool := b.getLsbD 0
/-- What is gathered. -/
def ga (a b o : BitVec 8) : BitVec 8 := if od b then ad o a else o
/-- What is left of a product: 'n' bits. -/
def mulN : Nat → BitVec 8 → BitVec 8 → BitVec 8 → BitVec 8
  | 0, _, _, o => o
  | n + 1, a, b, o => mulN n (tw a) (sr b) (ga a b o)
def mu (a b : BitVec 8) : BitVec 8 := mulN 8 a b 0#8

theorem mulN_zero_b (n : Nat) : ∀ a o, mulN n a 0#8 o = o := by
  induction n with
  | zero => intro a o; rfl
  | succ n ih => intro a o; simp only [mulN]; rw [show sr 0#8 = 0#8 from rfl, show ga a 0#8 o = o from rfl]; exact ih _ _
theorem sr_lt (n : Nat) (b : BitVec 8) (h : b.toNat < 2 ^ (n + 1)) : (sr b).toNat < 2 ^ n := by
  simp only [sr, BitVec.toNat_ushiftRight, Nat.shiftRight_succ, Nat.shiftRight_zero]
  have : 2 ^ (n + 1) = 2 * 2 ^ n := by rw [Nat.pow_succ]; omega
  omega

/-! ### Additive functions are told by eight elements. -/
def Additive (f : BitVec 8 → BitVec 8) : Prop := ∀ a b, f (a ^^^ b) = f a ^^^ f b
theorem x4 (a b c d : BitVec 8) : (a ^^^ b) ^^^ (c ^^^ d) = (a ^^^ c) ^^^ (b ^^^ d) := by
  rw [BitVec.xor_assoc, BitVec.xor_assoc, ← BitVec.xor_assoc b c d, BitVec.xor_comm b c, BitVec.xor_assoc c b d]
def bitOf (a : BitVec 8) (i : Nat) : BitVec 8 := if a.getLsbD i then 1#8 <<< i else 0#8
theorem by_bits : ∀ a : BitVec 8, a = bitOf a 0 ^^^ (bitOf a 1 ^^^ (bitOf a 2 ^^^ (bitOf a 3 ^^^ (bitOf a 4 ^^^ (bitOf a 5 ^^^ (bitOf a 6 ^^^ bitOf a 7)))))) := by decide +kernel
theorem Additive.zero {f : BitVec 8 → BitVec 8} (h : Additive f) : f 0#8 = 0#8 := by
  have := h 0#8 0#8
  rw [BitVec.xor_self, BitVec.xor_self] at this
  exact this
theorem Additive.ext {f g : BitVec 8 → BitVec 8} (hf : Additive f) (hg : Additive g) (h : ∀ i : Fin 8, f (1#8 <<< i.val) = g (1#8 <<< i.val)) (a : BitVec 8) : f a = g a := by
  have e : ∀ i : Fin 8, f (bitOf a i.val) = g (bitOf a i.val) := by
    intro i
    unfold bitOf
    split
    · exact h i
    · rw [hf.zero, hg.zero]
  rw [by_bits a]
  rw [hf, hf, hf, hf, hf, hf, hf, hg, hg, hg, hg, hg, hg, hg]
  rw [show f (bitOf a 0) = g (bitOf a 0) from e 0, show f (bitOf a 1) = g (bitOf a 1) from e 1, show f (bitOf a 2) = g (bitOf a 2) from e 2, show f (bitOf a 3) = g (bitOf a 3) from e 3,
    show f (bitOf a 4) = g (bitOf a 4) from e 4, show f (bitOf a 5) = g (bitOf a 5) from e 5, show f (bitOf a 6) = g (bitOf a 6) from e 6, show f (bitOf a 7) = g (bitOf a 7) from e 7]

theorem tw_alt : ∀ a : BitVec 8, tw a = (a <<< 1) ^^^ (if a.getLsbD 7 then 27#8 else 0#8) := by decide +kernel
theorem tw_add (a b : BitVec 8) : tw (a ^^^ b) = tw a ^^^ tw b := by
  rw [tw_alt, tw_alt, tw_alt, BitVec.shiftLeft_xor_distrib, BitVec.getLsbD_xor, x4]
  congr 1
  cases a.getLsbD 7 <;> cases b.getLsbD 7 <;> decide
theorem sr_add (a b : BitVec 8) : sr (a ^^^ b) = sr a ^^^ sr b := by unfold sr; rw [BitVec.ushiftRight_xor_distrib]
theorem ga_addB (a b b' o o' : BitVec 8) : ga a (b ^^^ b') (o ^^^ o') = ga a b o ^^^ ga a b' o' := by
  unfold ga od ad
  rw [BitVec.getLsbD_xor]
  cases b.getLsbD 0 <;> cases b'.getLsbD 0
  · rfl
  · simp [BitVec.xor_assoc]
  · simp only [if_true, Bool.xor_false, if_false, Bool.false_eq_true]; rw [BitVec.xor_assoc, BitVec.xor_comm o' a, ← BitVec.xor_assoc]
  · simp only [Bool.xor_self, if_true]; rw [x4, BitVec.xor_self, BitVec.xor_zero]; rfl
theorem ga_addA (a a' b o o' : BitVec 8) : ga (a ^^^ a') b (o ^^^ o') = ga a b o ^^^ ga a' b o' := by
  unfold ga ad
  split
  · exact x4 _ _ _ _
  · rfl
theorem mulN_addB (n : Nat) : ∀ a b b' o o', mulN n a (b ^^^ b') (o ^^^ o') = mulN n a b o ^^^ mulN n a b' o' := by
  induction n with
  | zero => intro a b b' o o'; rfl
  | succ n ih => intro a b b' o o'; simp only [mulN]; rw [sr_add, ga_addB, ih]
theorem mulN_addA (n : Nat) : ∀ a a' b o o', mulN n (a ^^^ a') b (o ^^^ o') = mulN n a b o ^^^ mulN n a' b o' := by
  induction n with
  | zero => intro a a' b o o'; rfl
  | succ n ih => intro a a' b o o'; simp only [mulN]; rw [tw_add, ga_addA, ih]
theorem mu_addB (a : BitVec 8) : Additive (mu a) := fun b b' => by
  unfold mu
  rw [← mulN_addB, BitVec.xor_self]
theorem mu_addA (b : BitVec 8) : Additive (fun a => mu a b) := fun a a' => by
  show mu (a ^^^ a') b = mu a b ^^^ mu a' b
  unfold mu
  rw [← mulN_addA, BitVec.xor_self]
theorem Additive.comp {f g : BitVec 8 → BitVec 8} (hf : Additive f) (hg : Additive g) : Additive (fun a => f (g a)) := fun a b => by
  show f (g (a ^^^ b)) = f (g a) ^^^ f (g b)
  rw [hg, hf]

theorem mu_comm_basis : ∀ i j : Fin 8, mu (1#8 <<< i.val) (1#8 <<< j.val) = mu (1#8 <<< j.val) (1#8 <<< i.val) := by decide +kernel
theorem mu_comm (a b : BitVec 8) : mu a b = mu b a := by
  refine Additive.ext (f := fun a => mu a b) (g := mu b) (mu_addA b) (mu_addB b) (fun i => ?_) a
  exact Additive.ext (f := mu (1#8 <<< i.val)) (g := fun b => mu b (1#8 <<< i.val)) (mu_addB _) (mu_addA _) (fun j => mu_comm_basis i j) b
theorem mu_assoc_basis : ∀ i j k : Fin 8, mu (mu (1#8 <<< i.val) (1#8 <<< j.val)) (1#8 <<< k.val) = mu (1#8 <<< i.val) (mu (1#8 <<< j.val) (1#8 <<< k.val)) := by decide +kernel
theorem mu_assoc (a b c : BitVec 8) : mu (mu a b) c = mu a (mu b c) := by
  refine Additive.ext (f := fun a => mu (mu a b) c) (g := fun a => mu a (mu b c)) ((mu_addA c).comp (mu_addA b)) (mu_addA _) (fun i => ?_) a
  refine Additive.ext (f := fun b => mu (mu (1#8 <<< i.val) b) c) (g := fun b => mu (1#8 <<< i.val) (mu b c)) ((mu_addA c).comp (mu_addB _)) ((mu_addB _).comp (mu_addA c)) (fun j => ?_) b
  exact Additive.ext (f := fun c => mu (mu (1#8 <<< i.val) (1#8 <<< j.val)) c) (g := fun c => mu (1#8 <<< i.val) (mu (1#8 <<< j.val) c)) (mu_addB _) ((mu_addB _).comp (mu_addB _)) (fun k => mu_assoc_basis i j k) c
theorem mu_one : ∀ a : BitVec 8, mu a 1#8 = a := by decide +kernel
theorem mu_two : ∀ a : BitVec 8, mu a 2#8 = tw a := by decide +kernel
theorem one_mu (a : BitVec 8) : mu 1#8 a = a := by rw [mu_comm, mu_one]
theorem mu_zero (a : BitVec 8) : mu a 0#8 = 0#8 := (mu_addB a).zero
theorem zero_mu (a : BitVec 8) : mu 0#8 a = 0#8 := by rw [mu_comm, mu_zero]

/-! ### Powers. -/
def powN (a : BitVec 8) : Nat → BitVec 8
  | 0 => 1#8
  | n + 1 => mu (powN a n) a
theorem powN_add (a : BitVec 8) (m n : Nat) : powN a (m + n) = mu (powN a m) (powN a n) := by
  induction n with
  | zero => rw [Nat.add_zero]; exact (mu_one _).symm
  | succ n ih => rw [← Nat.add_assoc]; simp only [powN]; rw [ih, mu_assoc]
theorem powN_sq (a : BitVec 8) (n : Nat) : powN (mu a a) n = powN a (2 * n) := by
  induction n with
  | zero => rfl
  | succ n ih => rw [show 2 * (n + 1) = (2 * n + 1) + 1 from by omega]; simp only [powN]; rw [ih, mu_assoc]
theorem powN_odd (a : BitVec 8) (n : Nat) : powN a (2 * n + 1) = mu (powN (mu a a) n) a := by simp only [powN]; rw [powN_sq]
theorem pow255_basis : ∀ a : BitVec 8, a ≠ 0#8 →
    (fun a1 => (fun a2 => (fun a3 => (fun a4 => (fun a5 => (fun a6 => (fun a7 => mu (mu (mu (mu (mu (mu (mu a7 a6) a5) a4) a3) a2) a1) a) (mu a6 a6)) (mu a5 a5)) (mu a4 a4)) (mu a3 a3)) (mu a2 a2)) (mu a1 a1)) (mu a a) = 1#8 := by decide +kernel
theorem powN_255 (a : BitVec 8) (h : a ≠ 0#8) : powN a 255 = 1#8 := by
  rw [powN_odd a 127, powN_odd _ 63, powN_odd _ 31, powN_odd _ 15, powN_odd _ 7, powN_odd _ 3, powN_odd _ 1]
  rw [← pow255_basis a h]
  simp only [powN, one_mu]
theorem powN_zero (n : Nat) : powN 0#8 (n + 1) = 0#8 := by simp only [powN]; exact mu_zero _
theorem powN_mul255 (a : BitVec 8) (h : a ≠ 0#8) (q : Nat) : powN a (255 * q) = 1#8 := by
  induction q with
  | zero => rfl
  | succ q ih => rw [Nat.mul_succ, powN_add, ih, powN_255 a h, mu_one]
theorem powN_mod (a : BitVec 8) (h : a ≠ 0#8) (n : Nat) : powN a n = powN a (n % 255) := by
  conv => lhs; rw [← Nat.div_add_mod n 255]
  rw [powN_add, powN_mul255 a h, one_mu]
/-- What Pow answers. -/
def pw (a : BitVec 8) (n : Int) : BitVec 8 := if a = 0#8 then (if n = 0 then 1#8 else 0#8) else powN a (n % 255).toNat
def iv (a : BitVec 8) : BitVec 8 := pw a 254
theorem pw_nat (a : BitVec 8) (n : Nat) : pw a (n : Int) = powN a n := by
  unfold pw
  split
  · rename_i h
    subst h
    cases n with
    | zero => rfl
    | succ n => rw [if_neg (by omega), powN_zero]
  · rename_i h
    rw [show ((n : Int) % 255).toNat = n % 255 from by omega, ← powN_mod a h]
theorem pw_add (a : BitVec 8) (h : a ≠ 0#8) (m k : Int) : mu (pw a m) (pw a k) = pw a (m + k) := by
  unfold pw
  rw [if_neg h, if_neg h, if_neg h, ← powN_add, powN_mod a h]
  congr 1
  omega
theorem iv_mu (a : BitVec 8) (h : a ≠ 0#8) : mu a (iv a) = 1#8 := by
  unfold iv
  rw [show (254 : Int) = ((254 : Nat) : Int) from rfl, pw_nat, mu_comm]
  exact powN_255 a h
theorem pw_mul (a : BitVec 8) (h : a ≠ 0#8) (m : Nat) (j : Int) : powN (pw a j) m = pw a (j * m) := by
  induction m with
  | zero => unfold pw; simp only [if_neg h]; rw [show (j * ((0 : Nat) : Int) % 255).toNat = 0 from by simp]; rfl
  | succ m ih => simp only [powN]; rw [ih, pw_add a h]; congr 1; rw [Int.natCast_succ, Int.mul_add, Int.mul_one]
theorem pw_ne (a : BitVec 8) (h : a ≠ 0#8) (j : Int) : pw a j ≠ 0#8 := by
  intro e
  have h1 := pw_add a h j (-j)
  rw [e, zero_mu, show j + -j = ((0 : Nat) : Int) from by omega, pw_nat] at h1
  exact absurd h1 (by simp [powN])
theorem pw_inv (a : BitVec 8) (h : a ≠ 0#8) (m : Int) : pw a (-m) = pw (iv a) m := by
  have h2 : iv a ≠ 0#8 := pw_ne a h _
  conv => rhs; unfold pw
  rw [if_neg h2]
  unfold iv
  rw [pw_mul a h]
  unfold pw
  rw [if_neg h, if_neg h]
  congr 1
  omega
theorem pw_period (a : BitVec 8) (h : a ≠ 0#8) (m k : Int) (e : m % 255 = k % 255) : pw a m = pw a k := by unfold pw; rw [if_neg h, if_neg h, e]
end Go.Proofs.Ytikhaocpohfcnaa.Gf
