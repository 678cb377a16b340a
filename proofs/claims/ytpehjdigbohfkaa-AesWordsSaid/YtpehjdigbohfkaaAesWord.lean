/- The contract of a key's word. -/
import Derived.Test.YtpehjdigbohfkaaAesAwake
namespace Go.Proofs.Ytpehjdigbohfkaa.Ae
open Go.RowKit Go.Proofs.Ytpehjdigbohfkaa.W Go.Proofs.Ytpehjdigbohfkaa.Gf
set_option linter.unusedVariables false
set_option linter.unusedSimpArgs false

theorem word_range (g : Nat) (i : Int) (h : i < 0 ∨ 60 ≤ i) (w : World) : Calls Try.prog 18 #[.pointer (some ⟨g, 0, none⟩), .int .i64 i] w fun e w' => e = .returned (.tuple #[.int .u32 0, .int .i64 3]) ∧ Below w.heap.size w w' := by
  by_cases h0 : i < 0
  · have h1 : decide (i < 0) = true := by simp [h0]
    clear h
    go_enter Try.func18, Try.ntmps18
    go_wp2_with fail
    go_ret2
    exact ⟨rfl, Below.refl _ _⟩
  · have h1 : decide (i < 0) = false := by simp; omega
    have h2 : (60 : Int) ≤ i := by omega
    clear h h0
    go_enter Try.func18, Try.ntmps18
    go_wp2_with fail
    go_ret2
    exact ⟨rfl, Below.refl _ _⟩
def wordN (a b c d : BitVec 8) : Nat := 256 * (256 * (256 * a.toNat + b.toNat) + c.toNat) + d.toNat
theorem or_u32_nat (a b : Nat) (ha : a < 4294967296) (hb : b < 4294967296) : bits .or .u32 (a : Int) (b : Int) = ((a ||| b : Nat) : Int) := by
  have h1 : (BitVec.ofInt 32 (a : Int)).toNat = a := by
    rw [BitVec.ofInt_natCast, BitVec.toNat_ofNat]; exact Nat.mod_eq_of_lt (by omega)
  have h2 : (BitVec.ofInt 32 (b : Int)).toNat = b := by
    rw [BitVec.ofInt_natCast, BitVec.toNat_ofNat]; exact Nat.mod_eq_of_lt (by omega)
  have h3 : a ||| b < 2 ^ 32 := Nat.or_lt_two_pow (by omega) (by omega)
  show IntKind.u32.wrap ((BitVec.ofInt 32 (a : Int) ||| BitVec.ofInt 32 (b : Int)).toNat : Int) = _
  rw [BitVec.toNat_or, h1, h2]
  simp [IntKind.wrap, IntKind.signed, IntKind.bits]
  omega
theorem or_add (x y k : Nat) (hy : y < 2 ^ k) : (x * 2 ^ k) ||| y = x * 2 ^ k + y := by
  rw [Nat.mul_comm x]
  exact (Nat.two_pow_add_eq_or_of_lt hy x).symm
theorem word_or (a b c d : BitVec 8) : bits BinOp.or IntKind.u32 (bits BinOp.or IntKind.u32 (bits BinOp.or IntKind.u32 ((a.toNat : Int) * 16777216) ((b.toNat : Int) * 65536)) ((c.toNat : Int) * 256)) (d.toNat : Int) = (wordN a b c d : Int) := by
  have ha := a.isLt
  have hb := b.isLt
  have hc := c.isLt
  have hd := d.isLt
  have e1 : bits BinOp.or IntKind.u32 ((a.toNat : Int) * 16777216) ((b.toNat : Int) * 65536) = ((a.toNat * 16777216 + b.toNat * 65536 : Nat) : Int) := by
    rw [show (a.toNat : Int) * 16777216 = ((a.toNat * 2 ^ 24 : Nat) : Int) by omega, show (b.toNat : Int) * 65536 = ((b.toNat * 65536 : Nat) : Int) by omega, or_u32_nat _ _ (by omega) (by omega), or_add _ _ 24 (by omega)]
  rw [e1]
  have e2 : bits BinOp.or IntKind.u32 ((a.toNat * 16777216 + b.toNat * 65536 : Nat) : Int) ((c.toNat : Int) * 256) = ((a.toNat * 16777216 + b.toNat * 65536 + c.toNat * 256 : Nat) : Int) := by
    rw [show a.toNat * 16777216 + b.toNat * 65536 = (a.toNat * 256 + b.toNat) * 2 ^ 16 by omega, show (c.toNat : Int) * 256 = ((c.toNat * 256 : Nat) : Int) by omega, or_u32_nat _ _ (by omega) (by omega), or_add _ _ 16 (by omega)]
  rw [e2]
  rw [show a.toNat * 16777216 + b.toNat * 65536 + c.toNat * 256 = ((a.toNat * 256 + b.toNat) * 256 + c.toNat) * 2 ^ 8 by omega, or_u32_nat _ _ (by omega) (by omega), or_add _ _ 8 (by omega)]
  unfold wordN
  congr 1
  omega
set_option maxRecDepth 100000 in
set_option maxHeartbeats 1000000 in
theorem word_ok (g i : Nat) (kf : St) (hi : i < 60) (w : World) (hk : KeyAt w g kf) : Calls Try.prog 18 #[.pointer (some ⟨g, 0, none⟩), .int .i64 (i : Int)] w
    fun e w' => e = .returned (.tuple #[.int .u32 (wordN (kf (4 * i)) (kf (4 * i + 1)) (kf (4 * i + 2)) (kf (4 * i + 3)) : Int), .int .i64 0]) ∧ Below w.heap.size w w' := by
  have hz := zero84
  obtain ⟨v, hv⟩ : ∃ v : St, (fun r => kf (4 * i + r)) = v := ⟨_, rfl⟩
  have e0 : kf (4 * i) = v 0 := by rw [← hv]; rfl
  have e1 : kf (4 * i + 1) = v 1 := by rw [← hv]
  have e2 : kf (4 * i + 2) = v 2 := by rw [← hv]
  have e3 : kf (4 * i + 3) = v 3 := by rw [← hv]
  rw [e0, e1, e2, e3]
  have HK : Hid (Blk w g 49 (row 752 (u8s (keyF kf)))) := hide hk
  have HP : Hid (∀ r, r < 4 → u8s (keyF kf) (i * 4 + r) = u8s v r) := hide (fun r hr => by
    simp only [u8s, keyF]
    rw [if_pos (by omega), ← hv, show i * 4 + r = 4 * i + r by omega])
  have h1 : decide ((i : Int) < 0) = false := by simp
  have h2 : decide ((60 : Int) ≤ (i : Int)) = false := by simp; omega
  have h3 : (i : Int) < 60 := by omega
  clear hk hv e0 e1 e2 e3
  go_enter Try.func18, Try.ntmps18
  go_upto_region 6 with (first
    | (with_reducible refine wpList_load_part rfl 45 (.tmp 21) rfl g (i * 4) rfl 49 752 4 _ (u8s v) _ HK.out HP.out rfl Try.underlying45 info84 (by omega) ?_)
    | (with_reducible refine wpList_store_all rfl 45 (.tmp 6) (.tmp 22) rfl w.heap.size rfl 45 4 _ _ rfl (Blk.newAt w _ _ _ rfl) info84 (fun j _ => u8_one _ j) ?_))
  have HW2 : Hid (Blk ((w.alloc (.cells (row 4 (u8s fun _ => 0#8)) 45)).setRow w.heap.size (row 4 (u8s v))) w.heap.size 45 (row 4 (u8s v))) := hide ((Blk.newAt w _ _ _ rfl).row_ _)
  have HB2 : Hid (Below w.heap.size w ((w.alloc (.cells (row 4 (u8s fun _ => 0#8)) 45)).setRow w.heap.size (row 4 (u8s v)))) := hide (below_setRow ((Below.refl _ _).alloc (Nat.le_refl _) _) (Nat.le_refl _) _)
  generalize hWW : ((w.alloc (.cells (row 4 (u8s fun _ => 0#8)) 45)).setRow w.heap.size (row 4 (u8s v))) = W2 at HW2 HB2
  have l0 := HW2.out.at (i := 0) (by omega)
  have l1 := HW2.out.at (i := 1) (by omega)
  have l2 := HW2.out.at (i := 2) (by omega)
  have l3 := HW2.out.at (i := 3) (by omega)
  simp only [u8s] at l0 l1 l2 l3
  obtain ⟨a, ha⟩ : ∃ a, v 0 = a := ⟨_, rfl⟩
  obtain ⟨b, hb⟩ : ∃ a, v 1 = a := ⟨_, rfl⟩
  obtain ⟨c, hc⟩ : ∃ a, v 2 = a := ⟨_, rfl⟩
  obtain ⟨d, hd⟩ : ∃ a, v 3 = a := ⟨_, rfl⟩
  rw [ha] at l0
  rw [hb] at l1
  rw [hc] at l2
  rw [hd] at l3
  have HV := hide (And.intro ha (And.intro hb (And.intro hc hd)))
  have o1 := word_or a b c d
  clear hWW HK HP ha hb hc hd
  go_wp2_with fail
  go_ret2
  obtain ⟨h0, h1, h2, h3⟩ := HV.out
  subst h0
  subst h1
  subst h2
  subst h3
  exact ⟨rfl, HB2.out⟩
end Go.Proofs.Ytpehjdigbohfkaa.Ae
