/- The plain law of AES: bytes' images, states of 16 bytes as functions, there and back. No program is in sight. -/
import Derived.Test.YtikhaocpohfcnaaGfRest
namespace Go.Proofs.Ytikhaocpohfcnaa.Ae
open Go.Proofs.Ytikhaocpohfcnaa.Gf
set_option linter.unusedVariables false
set_option linter.unusedSimpArgs false

/-- The power 254, by squares. -/
def ivF (a : BitVec 8) : BitVec 8 :=
  (fun a1 => (fun a2 => (fun a3 => (fun a4 => (fun a5 => (fun a6 => (fun a7 => mu (mu (mu (mu (mu (mu a7 a6) a5) a4) a3) a2) a1) (mu a6 a6)) (mu a5 a5)) (mu a4 a4)) (mu a3 a3)) (mu a2 a2)) (mu a1 a1)) (mu a a)
theorem iv_fast (a : BitVec 8) : iv a = ivF a := by
  unfold iv
  rw [show (254 : Int) = ((254 : Nat) : Int) from rfl, pw_nat]
  rw [show (254 : Nat) = 2 * 127 from rfl, ← powN_sq, powN_odd _ 63, powN_odd _ 31, powN_odd _ 15, powN_odd _ 7, powN_odd _ 3, powN_odd _ 1]
  simp only [powN, one_mu]
  rfl
/-- A byte's image. -/
def sb (a : BitVec 8) : BitVec 8 := iv a ^^^ tn (iv a) 1 ^^^ tn (iv a) 2 ^^^ tn (iv a) 3 ^^^ tn (iv a) 4 ^^^ 99#8
/-- Whose image a byte is. -/
def ub (a : BitVec 8) : BitVec 8 := iv (tn a 1 ^^^ tn a 3 ^^^ tn a 6 ^^^ 5#8)
def sbF (a : BitVec 8) : BitVec 8 := (fun i : BitVec 8 => i ^^^ i.rotateLeft 1 ^^^ i.rotateLeft 2 ^^^ i.rotateLeft 3 ^^^ i.rotateLeft 4 ^^^ 99#8) (ivF a)
def ubF (a : BitVec 8) : BitVec 8 := ivF (a.rotateLeft 1 ^^^ a.rotateLeft 3 ^^^ a.rotateLeft 6 ^^^ 5#8)
theorem sb_fast (a : BitVec 8) : sb a = sbF a := by
  unfold sb
  rw [iv_fast]
  rfl
theorem ub_fast (a : BitVec 8) : ub a = ubF a := by
  unfold ub
  rw [iv_fast]
  rfl
theorem ub_sbF : ∀ a : BitVec 8, ubF (sbF a) = a := by decide +kernel
theorem sb_ubF : ∀ a : BitVec 8, sbF (ubF a) = a := by decide +kernel
theorem ub_sb (a : BitVec 8) : ub (sb a) = a := by rw [sb_fast, ub_fast, ub_sbF]
theorem sb_ub (a : BitVec 8) : sb (ub a) = a := by rw [sb_fast, ub_fast, sb_ubF]
theorem sb_inj {a b : BitVec 8} (h : sb a = sb b) : a = b := by rw [← ub_sb a, h, ub_sb]
theorem ub_inj {a b : BitVec 8} (h : ub a = ub b) : a = b := by rw [← sb_ub a, h, sb_ub]
theorem sb_83 : sb 83#8 = 237#8 := by rw [sb_fast]; decide

/-! ### States. -/
abbrev St := Nat → BitVec 8
def addS (kf : St) (n : Nat) (s : St) : St := fun i => s i ^^^ kf (16 * n + i)
def imgS (s : St) : St := fun i => sb (s ((i + 4 * (i % 4)) % 16))
def backS (s : St) : St := fun i => ub (s ((i + 12 * (i % 4)) % 16))
def all4 (s : St) (c : Nat) : BitVec 8 := s c ^^^ s (c + 1) ^^^ s (c + 2) ^^^ s (c + 3)
def mixS (s : St) : St := fun i => s i ^^^ all4 s (i - i % 4) ^^^ tw (s i ^^^ s (i - i % 4 + (i % 4 + 1) % 4))
def rndS (kf : St) : Nat → St → St
  | 0, s => addS kf 0 s
  | n + 1, s => addS kf (n + 1) (mixS (imgS (rndS kf n s)))
def encS (kf : St) (s : St) : St := addS kf 14 (imgS (rndS kf 13 s))
/-- n rounds back, from round 13 down. -/
def bakS (kf : St) : Nat → St → St
  | 0, s => backS (addS kf 14 s)
  | n + 1, s => backS (mixS (mixS (mixS (addS kf (13 - n) (bakS kf n s)))))
def decS (kf : St) (s : St) : St := addS kf 0 (bakS kf 13 s)
/-- The same sixteen bytes. -/
def Eq16 (s t : St) : Prop := ∀ i, i < 16 → s i = t i
theorem Eq16.refl (s : St) : Eq16 s s := fun _ _ => rfl
theorem Eq16.trans {s t u : St} (h : Eq16 s t) (k : Eq16 t u) : Eq16 s u := fun i hi => (h i hi).trans (k i hi)
theorem Eq16.symm {s t : St} (h : Eq16 s t) : Eq16 t s := fun i hi => (h i hi).symm
theorem addS_congr {kf : St} {n : Nat} {s t : St} (h : Eq16 s t) : Eq16 (addS kf n s) (addS kf n t) := fun i hi => by unfold addS; rw [h i hi]
theorem imgS_congr {s t : St} (h : Eq16 s t) : Eq16 (imgS s) (imgS t) := fun i hi => by unfold imgS; rw [h _ (Nat.mod_lt _ (by omega))]
theorem backS_congr {s t : St} (h : Eq16 s t) : Eq16 (backS s) (backS t) := fun i hi => by unfold backS; rw [h _ (Nat.mod_lt _ (by omega))]
theorem all4_congr {s t : St} {c : Nat} (h : Eq16 s t) (hc : c + 3 < 16) : all4 s c = all4 t c := by unfold all4; rw [h c (by omega), h (c + 1) (by omega), h (c + 2) (by omega), h (c + 3) hc]
theorem mixS_congr {s t : St} (h : Eq16 s t) : Eq16 (mixS s) (mixS t) := fun i hi => by
  unfold mixS
  rw [all4_congr h (by omega), h i hi, h (i - i % 4 + (i % 4 + 1) % 4) (by omega)]
theorem addS_twice (kf : St) (n : Nat) (s : St) : Eq16 (addS kf n (addS kf n s)) s := fun i hi => by
  unfold addS
  rw [BitVec.xor_assoc, BitVec.xor_self, BitVec.xor_zero]
theorem back_img (s : St) : Eq16 (backS (imgS s)) s := fun i hi => by
  unfold backS imgS
  rw [ub_sb]
  congr 1
  omega
theorem img_back (s : St) : Eq16 (imgS (backS s)) s := fun i hi => by
  unfold backS imgS
  rw [sb_ub]
  congr 1
  omega
/-! Mixing four times is nothing: twice is s + 4 (s + s turned by two). -/
theorem xs (a b : BitVec 8) : a ^^^ (a ^^^ b) = b := by rw [← BitVec.xor_assoc, BitVec.xor_self, BitVec.zero_xor]
theorem xlc (a b c : BitVec 8) : a ^^^ (b ^^^ c) = b ^^^ (a ^^^ c) := by rw [← BitVec.xor_assoc, BitVec.xor_comm a b, BitVec.xor_assoc]
theorem tw0 : tw 0#8 = 0#8 := by decide
/-- A column of four. -/
def mc (a b c d : BitVec 8) : BitVec 8 := a ^^^ (a ^^^ b ^^^ c ^^^ d) ^^^ tw (a ^^^ b)
set_option maxHeartbeats 2000000 in
theorem mc2 (a b c d : BitVec 8) : mc (mc a b c d) (mc b c d a) (mc c d a b) (mc d a b c) = a ^^^ tw (tw (a ^^^ c)) := by
  unfold mc
  simp only [tw_add]
  generalize tw (tw a) = a2
  generalize tw (tw b) = b2
  generalize tw (tw c) = c2
  generalize tw (tw d) = d2
  generalize tw a = a1
  generalize tw b = b1
  generalize tw c = c1
  generalize tw d = d1
  simp only [BitVec.xor_assoc, BitVec.xor_comm, xlc, BitVec.xor_self, xs, BitVec.xor_zero, BitVec.zero_xor]
theorem mixS_mc (s : St) (c : Nat) (hc : c % 4 = 0) : mixS s c = mc (s c) (s (c + 1)) (s (c + 2)) (s (c + 3)) ∧ mixS s (c + 1) = mc (s (c + 1)) (s (c + 2)) (s (c + 3)) (s c) ∧
    mixS s (c + 2) = mc (s (c + 2)) (s (c + 3)) (s c) (s (c + 1)) ∧ mixS s (c + 3) = mc (s (c + 3)) (s c) (s (c + 1)) (s (c + 2)) := by
  have e0 : c - c % 4 = c := by omega
  have e1 : c + 1 - (c + 1) % 4 = c := by omega
  have e2 : c + 2 - (c + 2) % 4 = c := by omega
  have e3 : c + 3 - (c + 3) % 4 = c := by omega
  have f0 : c + (c % 4 + 1) % 4 = c + 1 := by omega
  have f1 : c + ((c + 1) % 4 + 1) % 4 = c + 2 := by omega
  have f2 : c + ((c + 2) % 4 + 1) % 4 = c + 3 := by omega
  have f3 : c + ((c + 3) % 4 + 1) % 4 = c := by omega
  unfold mixS all4 mc
  rw [e0, e1, e2, e3, f0, f1, f2, f3]
  refine ⟨rfl, ?_, ?_, ?_⟩
  all_goals
    congr 2
    simp only [BitVec.xor_assoc, BitVec.xor_comm, xlc]
def two (s : St) (i : Nat) : BitVec 8 := s i ^^^ tw (tw (s i ^^^ s (i - i % 4 + (i % 4 + 2) % 4)))
theorem mix_twice (s : St) (c : Nat) (hc : c % 4 = 0) : mixS (mixS s) c = s c ^^^ tw (tw (s c ^^^ s (c + 2))) ∧ mixS (mixS s) (c + 1) = s (c + 1) ^^^ tw (tw (s (c + 1) ^^^ s (c + 3))) ∧
    mixS (mixS s) (c + 2) = s (c + 2) ^^^ tw (tw (s (c + 2) ^^^ s c)) ∧ mixS (mixS s) (c + 3) = s (c + 3) ^^^ tw (tw (s (c + 3) ^^^ s (c + 1))) := by
  obtain ⟨h0, h1, h2, h3⟩ := mixS_mc s c hc
  obtain ⟨k0, k1, k2, k3⟩ := mixS_mc (mixS s) c hc
  rw [k0, k1, k2, k3, h0, h1, h2, h3]
  exact ⟨mc2 _ _ _ _, mc2 _ _ _ _, mc2 _ _ _ _, mc2 _ _ _ _⟩
theorem fold2 (a c x : BitVec 8) : (a ^^^ x) ^^^ tw (tw ((a ^^^ x) ^^^ (c ^^^ x))) = a ^^^ x ^^^ tw (tw (a ^^^ c)) := by
  congr 3
  simp only [BitVec.xor_assoc, BitVec.xor_comm, xlc, BitVec.xor_self, xs, BitVec.xor_zero, BitVec.zero_xor]
theorem mix_four0 (s : St) (c : Nat) (hc : c % 4 = 0) : mixS (mixS (mixS (mixS s))) c = s c ∧ mixS (mixS (mixS (mixS s))) (c + 1) = s (c + 1) ∧ mixS (mixS (mixS (mixS s))) (c + 2) = s (c + 2) ∧ mixS (mixS (mixS (mixS s))) (c + 3) = s (c + 3) := by
  obtain ⟨h0, h1, h2, h3⟩ := mix_twice s c hc
  obtain ⟨k0, k1, k2, k3⟩ := mix_twice (mixS (mixS s)) c hc
  rw [k0, k1, k2, k3, h0, h1, h2, h3]
  refine ⟨?_, ?_, ?_, ?_⟩
  · rw [BitVec.xor_comm (s (c + 2)) (s c), fold2, BitVec.xor_assoc, BitVec.xor_self, BitVec.xor_zero]
  · rw [BitVec.xor_comm (s (c + 3)) (s (c + 1)), fold2, BitVec.xor_assoc, BitVec.xor_self, BitVec.xor_zero]
  · rw [BitVec.xor_comm (s c) (s (c + 2)), fold2, BitVec.xor_assoc, BitVec.xor_self, BitVec.xor_zero]
  · rw [BitVec.xor_comm (s (c + 1)) (s (c + 3)), fold2, BitVec.xor_assoc, BitVec.xor_self, BitVec.xor_zero]
theorem mix_four (s : St) (i : Nat) : mixS (mixS (mixS (mixS s))) i = s i := by
  obtain ⟨h0, h1, h2, h3⟩ := mix_four0 s (i - i % 4) (by omega)
  have h4 : i % 4 = 0 ∨ i % 4 = 1 ∨ i % 4 = 2 ∨ i % 4 = 3 := by omega
  rcases h4 with h | h | h | h
  · rw [show i - i % 4 = i by omega] at h0; exact h0
  · rw [show i - i % 4 + 1 = i by omega] at h1; exact h1
  · rw [show i - i % 4 + 2 = i by omega] at h2; exact h2
  · rw [show i - i % 4 + 3 = i by omega] at h3; exact h3
/-- There and back. -/
theorem bak_rnd (kf : St) (s : St) : ∀ n, n ≤ 13 → Eq16 (bakS kf n (encS kf s)) (rndS kf (13 - n) s)
  | 0, _ => by
    unfold bakS encS
    exact (backS_congr (addS_twice kf 14 _)).trans (back_img _)
  | n + 1, hn => by
    have h := bak_rnd kf s n (by omega)
    obtain ⟨m, hm⟩ : ∃ m, 13 - n = m + 1 := ⟨12 - n, by omega⟩
    rw [hm] at h
    unfold bakS
    rw [hm, show 13 - (n + 1) = m by omega]
    unfold rndS at h
    refine (backS_congr (mixS_congr (mixS_congr (mixS_congr ((addS_congr h).trans (addS_twice kf (m + 1) _)))))).trans ?_
    refine (backS_congr (t := imgS (rndS kf m s)) (fun i _ => mix_four _ i)).trans (back_img _)
theorem dec_enc (kf : St) (s : St) : Eq16 (decS kf (encS kf s)) s := by
  unfold decS
  refine (addS_congr (bak_rnd kf s 13 (by omega))).trans ?_
  exact addS_twice kf 0 s
theorem rnd_congr (kf : St) {s t : St} (h : Eq16 s t) : ∀ n, Eq16 (rndS kf n s) (rndS kf n t)
  | 0 => addS_congr h
  | n + 1 => addS_congr (mixS_congr (imgS_congr (rnd_congr kf h n)))
theorem enc_congr (kf : St) {s t : St} (h : Eq16 s t) : Eq16 (encS kf s) (encS kf t) := addS_congr (imgS_congr (rnd_congr kf h 13))
theorem bak_congr (kf : St) {s t : St} (h : Eq16 s t) : ∀ n, Eq16 (bakS kf n s) (bakS kf n t)
  | 0 => backS_congr (addS_congr h)
  | n + 1 => backS_congr (mixS_congr (mixS_congr (mixS_congr (addS_congr (bak_congr kf h n)))))
theorem dec_congr (kf : St) {s t : St} (h : Eq16 s t) : Eq16 (decS kf s) (decS kf t) := addS_congr (bak_congr kf h 13)
/-- Back and there. -/
theorem rnd_bak (kf : St) (s : St) : ∀ n, n ≤ 13 → Eq16 (rndS kf n (decS kf s)) (bakS kf (13 - n) s)
  | 0, _ => by
    unfold rndS decS
    exact addS_twice kf 0 _
  | n + 1, hn => by
    have h := rnd_bak kf s n (by omega)
    obtain ⟨m, hm⟩ : ∃ m, 13 - n = m + 1 := ⟨12 - n, by omega⟩
    rw [hm] at h
    unfold rndS
    rw [show 13 - (n + 1) = m by omega]
    unfold bakS at h
    rw [show 13 - m = n + 1 by omega] at h
    refine (addS_congr (mixS_congr ((imgS_congr h).trans (img_back _)))).trans ?_
    exact (addS_congr (fun i _ => mix_four _ i)).trans (addS_twice kf (n + 1) _)
theorem enc_dec (kf : St) (s : St) : Eq16 (encS kf (decS kf s)) s := by
  unfold encS
  refine (addS_congr (imgS_congr (rnd_bak kf s 13 (by omega)))).trans ?_
  unfold bakS
  exact (addS_congr (img_back _)).trans (addS_twice kf 14 s)
end Go.Proofs.Ytikhaocpohfcnaa.Ae
