/- A tally's parts, told as plain functions. -/
import Derived.Test.YtmkhicaaemghiaaTallyAdd
namespace Go.Proofs.Ytmkhicaaemghiaa.Ta
open Go.RowKit Go.Proofs.Ytmkhicaaemghiaa.W Go.Proofs.Ytmkhicaaemghiaa.Fl
set_option linter.unusedVariables false
set_option linter.unusedSimpArgs false

def sh {α : Type} (f : Nat → α) (k : Nat) : Nat → α := fun i => f (k + i)
theorem cnt_add (s : Nat → Nat) (k c : Nat) : ∀ m, cnt s (k + m) c = cnt s k c + cnt (sh s k) m c
  | 0 => rfl
  | m + 1 => by
    show cnt s (k + m) c + (if s (k + m) = c then 1 else 0) = cnt s k c + (cnt (sh s k) m c + (if s (k + m) = c then 1 else 0))
    rw [cnt_add s k c m]
    omega
theorem wrap_wrap (a b : Int) : wrap64 (wrap64 a + b) = wrap64 (a + b) := by unfold wrap64; omega
theorem wrap_wrap2 (a b : Int) : wrap64 (a + wrap64 b) = wrap64 (a + b) := by unfold wrap64; omega
theorem byts_in (K E : Nat → Int) (Ln : Nat → Nat) : ∀ n, wrap64 (byts K E Ln n) = byts K E Ln n
  | 0 => IntWalk.wrap64_in 0 (by omega)
  | n + 1 => by
    unfold byts
    split
    · have := wrap_wrap (byts K E Ln n + (Ln n : Int)) 0
      rw [Int.add_zero, Int.add_zero] at this
      exact this
    · exact byts_in K E Ln n
theorem byts_add (K E : Nat → Int) (Ln : Nat → Nat) (k : Nat) : ∀ m, wrap64 (byts K E Ln k + byts (sh K k) (sh E k) (sh Ln k) m) = byts K E Ln (k + m)
  | 0 => by
    show wrap64 (byts K E Ln k + 0) = _
    rw [Int.add_zero]
    exact byts_in K E Ln k
  | m + 1 => by
    have ih := byts_add K E Ln k m
    have hr : reads (sh K k) (sh E k) m = reads K E (k + m) := rfl
    show wrap64 (_ + (if reads (sh K k) (sh E k) m then wrap64 (byts (sh K k) (sh E k) (sh Ln k) m + ((sh Ln k m : Nat) : Int)) else byts (sh K k) (sh E k) (sh Ln k) m)) = (if reads K E (k + m) then wrap64 (byts K E Ln (k + m) + (Ln (k + m) : Int)) else byts K E Ln (k + m))
    rw [hr]
    split
    · rw [← ih, wrap_wrap2, wrap_wrap]
      show _ = wrap64 (_ + ((sh Ln k m : Nat) : Int))
      congr 1
      omega
    · exact ih
theorem rotI0 (a b : Int) : Ph.rotI 0 a b = (a, b) := rfl
theorem rotI1 (a b : Int) : Ph.rotI 1 a b = (-b, a) := rfl
theorem rotI2 (a b : Int) : Ph.rotI 2 a b = (-a, -b) := rfl
theorem rotI3 (a b : Int) : Ph.rotI 3 a b = (- -b, -a) := rfl
theorem q_add (k m : Nat) : (Ph.rotI (k % 4) (qre m) (qim m)).1 = qre (k + m) ∧ (Ph.rotI (k % 4) (qre m) (qim m)).2 = qim (k + m) := by
  have h4 : k % 4 = 0 ∨ k % 4 = 1 ∨ k % 4 = 2 ∨ k % 4 = 3 := by omega
  have m4 : m % 4 = 0 ∨ m % 4 = 1 ∨ m % 4 = 2 ∨ m % 4 = 3 := by omega
  rcases h4 with h | h | h | h <;> rcases m4 with h' | h' | h' | h' <;> (have hs : (k + m) % 4 = ((k % 4) + (m % 4)) % 4 := by omega) <;> rw [h, h'] at hs <;> simp only [h, rotI0, rotI1, rotI2, rotI3, qre, qim, h', hs] <;> decide
theorem rotI_add (j : Nat) (hj : j < 4) (a b x y : Int) : (Ph.rotI j (a + x) (b + y)).1 = (Ph.rotI j a b).1 + (Ph.rotI j x y).1 ∧ (Ph.rotI j (a + x) (b + y)).2 = (Ph.rotI j a b).2 + (Ph.rotI j x y).2 := by
  have h4 : j = 0 ∨ j = 1 ∨ j = 2 ∨ j = 3 := by omega
  rcases h4 with rfl | rfl | rfl | rfl
  · exact ⟨rfl, rfl⟩
  · refine ⟨?_, ?_⟩
    · show -(b + y) = -b + -y
      omega
    · rfl
  · refine ⟨?_, ?_⟩
    · show -(a + x) = -a + -x
      omega
    · show -(b + y) = -b + -y
      omega
  · refine ⟨?_, ?_⟩
    · show - -(b + y) = - -b + - -y
      omega
    · show -(a + x) = -a + -x
      omega
theorem beat_add (K E : Nat → Int) (k : Nat) : ∀ m, beatR K E (k + m) = beatR K E k + (Ph.rotI (k % 4) (beatR (sh K k) (sh E k) m) (beatI (sh K k) (sh E k) m)).1 ∧ beatI K E (k + m) = beatI K E k + (Ph.rotI (k % 4) (beatR (sh K k) (sh E k) m) (beatI (sh K k) (sh E k) m)).2
  | 0 => by
    have h4 : k % 4 = 0 ∨ k % 4 = 1 ∨ k % 4 = 2 ∨ k % 4 = 3 := by omega
    show beatR K E k = beatR K E k + (Ph.rotI (k % 4) 0 0).1 ∧ beatI K E k = beatI K E k + (Ph.rotI (k % 4) 0 0).2
    rcases h4 with h | h | h | h <;> rw [h] <;> simp only [rotI0, rotI1, rotI2, rotI3] <;> omega
  | m + 1 => by
    obtain ⟨i1, i2⟩ := beat_add K E k m
    have hr : reads (sh K k) (sh E k) m = reads K E (k + m) := rfl
    show (if reads K E (k + m) then beatR K E (k + m) + qre (k + m) else beatR K E (k + m)) = beatR K E k + (Ph.rotI (k % 4) (if reads (sh K k) (sh E k) m then beatR (sh K k) (sh E k) m + qre m else beatR (sh K k) (sh E k) m) (if reads (sh K k) (sh E k) m then beatI (sh K k) (sh E k) m + qim m else beatI (sh K k) (sh E k) m)).1 ∧
      (if reads K E (k + m) then beatI K E (k + m) + qim (k + m) else beatI K E (k + m)) = beatI K E k + (Ph.rotI (k % 4) (if reads (sh K k) (sh E k) m then beatR (sh K k) (sh E k) m + qre m else beatR (sh K k) (sh E k) m) (if reads (sh K k) (sh E k) m then beatI (sh K k) (sh E k) m + qim m else beatI (sh K k) (sh E k) m)).2
    rw [hr]
    split
    · obtain ⟨q1, q2⟩ := q_add k m
      obtain ⟨r1, r2⟩ := rotI_add (k % 4) (by omega) (beatR (sh K k) (sh E k) m) (beatI (sh K k) (sh E k) m) (qre m) (qim m)
      rw [r1, r2, q1, q2]
      omega
    · exact ⟨i1, i2⟩
theorem res_V {br t r : Nat} {x y : Int} (h : Res (Fl.d.add br t) r) (hx : V br x) (hy : V t y) (hb : (x + y).natAbs ≤ 9007199254740992) : V r (x + y) := by
  obtain ⟨r', h1, h2⟩ := V_add hx hy hb
  rw [h1] at h
  rcases h with h | ⟨h, _⟩
  · cases h; exact h2
  · cases h
theorem ActsAt.part {w : World} {B n k m : Nat} {A : Option Addr} {F : Nat → Nat → Value} {K : Nat → Int} (h : ActsAt w B A n F K) (c : Nat) (hc : n ≤ c) (hkm : k + m ≤ n) : ActsAt w B (if c = k then A else A.map (·.add (k * 11))) m (sh F k) (sh K k) :=
  ⟨fun hm => by
    obtain ⟨b, off, hA, hB, hcell⟩ := h.holds (by omega)
    subst hA
    rw [if_neg (by omega)]
    refine ⟨b, off + k * 11, by simp [Go.WideShapes.add_plain], hB, fun i j hi hj => ?_⟩
    have := hcell (k + i) j (by omega) hj
    rw [show off + k * 11 + i * 11 + j = off + (k + i) * 11 + j by omega]
    exact this, fun i hi => h.kind (k + i) (by omega), fun i j hi hj => h.one (k + i) j (by omega) hj⟩
theorem ToldAt.part {w : World} {B n k m : Nat} {A : Option Addr} {F : Nat → Nat → Value} {E : Nat → Int} {S : Nat → ByteArray} (h : ToldAt w B A n F E S) (c : Nat) (hc : n ≤ c) (hkm : k + m ≤ n) : ToldAt w B (if c = k then A else A.map (·.add (k * 3))) m (sh F k) (sh E k) (sh S k) :=
  ⟨fun hm => by
    obtain ⟨b, off, hA, hB, hcell⟩ := h.holds (by omega)
    subst hA
    rw [if_neg (by omega)]
    refine ⟨b, off + k * 3, by simp [Go.WideShapes.add_plain], hB, fun i j hi hj => ?_⟩
    have := hcell (k + i) j (by omega) hj
    rw [show off + k * 3 + i * 3 + j = off + (k + i) * 3 + j by omega]
    exact this, fun i hi => h.err (k + i) (by omega), fun i hi => h.text (k + i) (by omega), fun i j hi hj => h.one (k + i) j (by omega) hj⟩
theorem ActsAt.head {w : World} {B n k : Nat} {A : Option Addr} {F : Nat → Nat → Value} {K : Nat → Int} (h : ActsAt w B A n F K) (hk : k ≤ n) : ActsAt w B A k F K :=
  ⟨fun hm => by
    obtain ⟨b, off, hA, hB, hcell⟩ := h.holds (by omega)
    exact ⟨b, off, hA, hB, fun i j hi hj => hcell i j (by omega) hj⟩, fun i hi => h.kind i (by omega), fun i j hi hj => h.one i j (by omega) hj⟩
theorem ToldAt.head {w : World} {B n k : Nat} {A : Option Addr} {F : Nat → Nat → Value} {E : Nat → Int} {S : Nat → ByteArray} (h : ToldAt w B A n F E S) (hk : k ≤ n) : ToldAt w B A k F E S :=
  ⟨fun hm => by
    obtain ⟨b, off, hA, hB, hcell⟩ := h.holds (by omega)
    exact ⟨b, off, hA, hB, fun i j hi hj => hcell i j (by omega) hj⟩, fun i hi => h.err i (by omega), fun i hi => h.text i (by omega), fun i j hi hj => h.one i j (by omega) hj⟩
theorem ActsAt.on {w W : World} {n : Nat} {A : Option Addr} {F : Nat → Nat → Value} {K : Nat → Int} (h : ActsAt w w.heap.size A n F K) (hb : Below w.heap.size w W) : ActsAt W W.heap.size A n F K :=
  ⟨fun hm => by
    obtain ⟨b, off, hA, hB, hcell⟩ := (h.below hb).holds hm
    exact ⟨b, off, hA, Nat.lt_of_lt_of_le hB hb.size, hcell⟩, h.kind, h.one⟩
theorem ToldAt.on {w W : World} {n : Nat} {A : Option Addr} {F : Nat → Nat → Value} {E : Nat → Int} {S : Nat → ByteArray} (h : ToldAt w w.heap.size A n F E S) (hb : Below w.heap.size w W) : ToldAt W W.heap.size A n F E S :=
  ⟨fun hm => by
    obtain ⟨b, off, hA, hB, hcell⟩ := (h.below hb).holds hm
    exact ⟨b, off, hA, Nat.lt_of_lt_of_le hB hb.size, hcell⟩, h.err, h.text, h.one⟩
end Go.Proofs.Ytmkhicaaemghiaa.Ta
