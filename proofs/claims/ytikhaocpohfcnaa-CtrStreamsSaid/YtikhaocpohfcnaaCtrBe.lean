/- Contracts of be: a number laid, a number read, texts xored. -/
import Derived.Test.YtikhaocpohfcnaaCtrPlain
namespace Go.Proofs.Ytikhaocpohfcnaa.Ct
open Go.RowKit Go.Proofs.Ytikhaocpohfcnaa.W Go.Proofs.Ytikhaocpohfcnaa.Gf Go.Proofs.Ytikhaocpohfcnaa.Ae
set_option linter.unusedVariables false
set_option linter.unusedSimpArgs false

theorem make8 (w : World) : (Instr.makeSlice 56 (.int .i64 8) (.int .i64 8)).run Try.prog w = .ok (.slice (some ⟨w.heap.size, 0, none⟩) 8 8) (w.alloc (.cells (row 8 (u8s fun _ => 0#8)) 5)) := by kernel_rfl
def putF (n i : Nat) : St := fun j => if 8 - i ≤ j then nb n j else 0#8
theorem putF_succ (n i : Nat) (h : i < 8) : ∀ j, j < 8 → upd (putF n i) (7 - i) (nb n (7 - i)) j = putF n (i + 1) j := by
  intro j hj
  unfold upd putF
  by_cases e : j = 7 - i
  · rw [if_pos e, if_pos (by omega), e]
  · rw [if_neg e]
    by_cases h2 : 8 - i ≤ j
    · rw [if_pos h2, if_pos (by omega)]
    · rw [if_neg h2, if_neg (by omega)]
def PutRel (w : World) (n k : Nat) (s32 : Value) (wr : World) : Prop := ∃ i : Nat, s32 = .int .i64 (i : Int) ∧ i + k = 8 ∧ Blk wr w.heap.size 5 (row 8 (u8s (putF n i))) ∧ Below w.heap.size w wr
set_option maxRecDepth 100000 in
theorem put_any (n : Nat) (hn : n ≤ 1099511627776) (w : World) : Calls Try.prog 27 #[.int .i64 (n : Int), .int .i64 8] w fun e w' => e = .returned (.tuple #[.string (numB n), .int .i64 0]) ∧ Below w.heap.size w w' := by
  have hmk := make8
  have h1 : decide ((n : Int) < 0) = false := by simp
  go_enter Try.func27, Try.ntmps27
  go_wp2_with fail
  go_loopg [32] 8 (fun k s32 wr => PutRel w n k s32 wr)
  case atStart => exact ⟨0, rfl, rfl, (Blk.newAt w _ _ _ rfl).as (fun j hj => by simp [u8s, putF, show ¬ 8 ≤ j by omega]), (Below.refl _ _).alloc (Nat.le_refl _) _⟩
  case round =>
    obtain ⟨i, rfl, hk, hx, hbx⟩ := hrel
    have HX := hide hx
    have HBx := hide hbx
    clear hx hbx
    by_cases hi : i < 8
    · have hgk : 0 < gk := by omega
      have hi' : (i : Int) < 8 := by omega
      obtain ⟨m, hm⟩ : ∃ m : Nat, 7 - i = m := ⟨_, rfl⟩
      obtain ⟨p, hp⟩ : ∃ p : Nat, 8 * i = p := ⟨_, rfl⟩
      obtain ⟨q, hq⟩ : ∃ q : Nat, n / 2 ^ p = q := ⟨_, rfl⟩
      have e1 : IntKind.i64.wrap (7 - (i : Int)) = (m : Int) := by rw [show 7 - (i : Int) = (m : Int) by omega]; exact IntWalk.i64_in _ (by omega)
      have e2 : IntKind.i64.wrap (8 * (i : Int)) = (p : Int) := by rw [show 8 * (i : Int) = (p : Int) by omega]; exact IntWalk.i64_in _ (by omega)
      have e3 : Op.shift .shr .i64 (n : Int) .i64 (p : Int) = pure (.int .i64 (q : Int)) := by
        rw [shift_shr_i64 _ _ _ (by omega) (by omega)]
        congr 2
        rw [← hq]
        simp
      have hnb : BitVec.ofNat 8 q = nb n m := by
        unfold nb
        rw [← hq, ← hp, show 7 - m = i by omega, Nat.pow_mul]
      have e4 : IntKind.u8.wrap (q : Int) = ((nb n m).toNat : Int) := by
        rw [← hnb, BitVec.toNat_ofNat]
        simp [IntKind.wrap, IntKind.bits, IntKind.signed]
      have hm8 : (m : Int) < 8 := by omega
      have fx := HX.out.frozen m
      have ck := HX.out.at (i := m) (by omega)
      simp only [u8s] at ck
      obtain ⟨y, hy⟩ : ∃ y, nb n m = y := ⟨_, rfl⟩
      have HV : Hid (nb n m = y ∧ 7 - i = m) := hide ⟨hy, hm⟩
      rw [hy] at e4
      clear hy hm hp hq hnb
      go_wp2_with fail
      go_roundg (gk - 1)
      case measure => omega
      case rel =>
        have h2 := HX.out.upd m (.int .u8 (y.toNat : Int))
        rw [u8s_upd, ← HV.out.1, ← HV.out.2] at h2
        rw [← HV.out.1, ← HV.out.2]
        exact ⟨i + 1, by go_num, by omega, h2.as (fun j hj => by simp only [u8s]; rw [putF_succ n i hi j hj]), HBx.out.setCell (Nat.le_refl _) _⟩
    · have hi' : decide (i < 8) = false := by simp; omega
      have hi'' : decide ((i : Int) < 8) = false := by simp; omega
      obtain rfl : i = 8 := by omega
      clear hi
      have hcv := run_convert_row wr _ _ _ Try.underlying56 Try.underlying5 Try.underlying9 w.heap.size 0 8 8 (nb n) (fun j hj => by
        rw [Nat.zero_add, HX.out.at hj]
        simp only [u8s, putF]
        rw [if_pos (by omega)])
      go_wp2_with fail
      go_ret2
      exact ⟨rfl, HBx.out⟩
def GetRel (w : World) (f : St) (k : Nat) (s4 s24 : Value) (wr : World) : Prop := ∃ i : Nat, s24 = .int .i64 (i : Int) ∧ s4 = .int .i64 (val f i : Int) ∧ i + k = 8 ∧ wr = w
set_option maxRecDepth 100000 in
theorem get_big (s : ByteArray) (hs : s.size = 8) (h0 : ¬ (sbyte s 0).toNat < 128) (w : World) : Calls Try.prog 33 #[.string s] w fun e w' => e = .returned (.tuple #[.int .i64 0, .int .i64 3]) ∧ Below w.heap.size w w' := by
  have hne : (s.toList == []) = false := by
    rw [ByteArray.toList_eq]
    cases h : s.data.toList with
    | nil =>
      have : s.data.size = 0 := by rw [← Array.length_toList, h]; rfl
      have : s.size = 0 := this
      omega
    | cons a l => rfl
  have t1 : decide ((8 : Int) < (s.size : Int)) = false := by simp; omega
  have t2 : ((s.size : Int) == 8) = true := by simp; omega
  have t3 : decide (8 < s.size) = false := by simp; omega
  have t4 : (s.size == 8) = true := by simp; omega
  have g2 : 0 < s.size := by omega
  have g0 := getElem_sbyte s 0 g2
  have g1 : decide (127 < ((sbyte s 0).toNat : Int)) = true := by simp; omega
  clear hs h0
  go_enter Try.func33, Try.ntmps33
  go_wp2_with fail
  go_ret2
  exact ⟨rfl, Below.refl _ _⟩
set_option maxRecDepth 100000 in
theorem get_ok (s : ByteArray) (hs : s.size = 8) (h0 : (sbyte s 0).toNat < 128) (w : World) : Calls Try.prog 33 #[.string s] w fun e w' => e = .returned (.tuple #[.int .i64 (val (sbyte s) 8 : Int), .int .i64 0]) ∧ Below w.heap.size w w' := by
  have hne : (s.toList == []) = false := by
    rw [ByteArray.toList_eq]
    cases h : s.data.toList with
    | nil =>
      have : s.data.size = 0 := by rw [← Array.length_toList, h]; rfl
      have : s.size = 0 := this
      omega
    | cons a l => rfl
  have t1 : decide ((8 : Int) < (s.size : Int)) = false := by simp; omega
  have t2 : ((s.size : Int) == 8) = true := by simp; omega
  have t3 : decide (8 < s.size) = false := by simp; omega
  have t4 : (s.size == 8) = true := by simp; omega
  have g2 : 0 < s.size := by omega
  have g0 := getElem_sbyte s 0 g2
  have g1 : decide (127 < ((sbyte s 0).toNat : Int)) = false := by simp; omega
  have HS := hide hs
  have H0 := hide h0
  clear hs h0
  go_enter Try.func33, Try.ntmps33
  go_wp2_with fail
  go_loopg [4, 24] 8 (fun k s4 s24 wr => GetRel w (sbyte s) k s4 s24 wr)
  case atStart => exact ⟨0, rfl, rfl, rfl, rfl⟩
  case round =>
    obtain ⟨i, rfl, rfl, hk, rfl⟩ := hrel
    by_cases hi : i < 8
    · have hgk : 0 < gk := by omega
      have hi' : (i : Int) < (s.size : Int) := by rw [HS.out]; omega
      have l0 : i < s.size := by rw [HS.out]; omega
      have gi := getElem_sbyte s i l0
      obtain ⟨v, hv⟩ : ∃ v, val (sbyte s) i = v := ⟨_, rfl⟩
      obtain ⟨b, hb⟩ : ∃ b, sbyte s i = b := ⟨_, rfl⟩
      obtain ⟨u, hu⟩ : ∃ u, val (sbyte s) (i + 1) = u := ⟨_, rfl⟩
      have hbl := b.isLt
      have hu2 : u = v * 256 + b.toNat := by rw [← hu, ← hv, ← hb]; rfl
      have hul : u < 9223372036854775808 := by rw [← hu]; exact val_lt63 _ H0.out (by omega)
      have e1 : IntKind.i64.wrap ((v : Int) * 256) = ((v * 256 : Nat) : Int) := by rw [show (v : Int) * 256 = ((v * 256 : Nat) : Int) by omega]; exact IntWalk.i64_in _ (by omega)
      have e2 : IntKind.i64.wrap (b.toNat : Int) = (b.toNat : Int) := IntWalk.i64_in _ (by omega)
      have e3 : bits BinOp.or IntKind.i64 ((v * 256 : Nat) : Int) (b.toNat : Int) = (u : Int) := by
        show IntKind.i64.wrap ((BitVec.ofInt 64 ((v * 256 : Nat) : Int) ||| BitVec.ofInt 64 (b.toNat : Int)).toNat : Int) = _
        rw [BitVec.toNat_or, BitVec.ofInt_natCast, BitVec.ofInt_natCast, BitVec.toNat_ofNat, BitVec.toNat_ofNat, Nat.mod_eq_of_lt (by omega), Nat.mod_eq_of_lt (by omega), or_byte _ _ (by omega), ← hu2]
        exact IntWalk.i64_in _ (by omega)
      obtain ⟨v2, hv2⟩ : ∃ v2, v * 256 = v2 := ⟨_, rfl⟩
      rw [hv2] at e1 e3
      rw [hb] at gi
      have HU := hide hu
      clear hb hu hu2 hul hv2
      simp only [hv]
      clear hv
      go_wp2_with fail
      go_roundg (gk - 1)
      case measure => omega
      case rel => exact ⟨i + 1, by go_num, by rw [HU.out], by omega, rfl⟩
    · have hi' : decide ((i : Int) < (s.size : Int)) = false := by rw [HS.out]; simp; omega
      have hi'' : decide (i < s.size) = false := by rw [HS.out]; simp; omega
      obtain rfl : i = 8 := by omega
      clear hi
      go_wp2_with fail
      go_ret2
      exact ⟨rfl, Below.refl _ _⟩
def XorRel (w : World) (n : Nat) (f g : St) (k : Nat) (s18 : Value) (wr : World) : Prop := ∃ i : Nat, s18 = .int .i64 (i : Int) ∧ i + k = n ∧ Blk wr w.heap.size 5 (row n (u8s (mixA (fun j => f j ^^^ g j) (fun _ => 0#8) i))) ∧ Below w.heap.size w wr
set_option maxRecDepth 100000 in
theorem xor_any (a b : ByteArray) (hab : b.size = a.size) (ha : a.size ≤ 1000) (w : World) : Calls Try.prog 30 #[.string a, .string b] w fun e w' => e = .returned (.tuple #[.string (xorB a.size (sbyte a) (sbyte b)), .int .i64 0]) ∧ Below w.heap.size w w' := by
  obtain ⟨n, hn⟩ : ∃ n, a.size = n := ⟨_, rfl⟩
  rw [hn] at hab ha ⊢
  have hmk := make_bytes n ha
  have t1 : ((n : Int) != (n : Int)) = false := by simp
  have t2 : ((a.size : Int)) = (n : Int) := by omega
  have t3 : ((b.size : Int)) = (n : Int) := by omega
  have HA := hide hn
  have HB := hide hab
  clear hn hab
  go_enter Try.func30, Try.ntmps30
  go_wp2_with fail
  go_loopg [18] n (fun k s18 wr => XorRel w n (sbyte a) (sbyte b) k s18 wr)
  case atStart => exact ⟨0, rfl, by omega, (Blk.newAt w _ _ _ rfl).as (fun j hj => by simp [u8s, mixA]), (Below.refl _ _).alloc (Nat.le_refl _) _⟩
  case round =>
    obtain ⟨i, rfl, hk, hx, hbx⟩ := hrel
    have HX := hide hx
    have HBx := hide hbx
    clear hx hbx
    by_cases hi : i < n
    · have hgk : 0 < gk := by omega
      have hi' : (i : Int) < (n : Int) := by omega
      have la : i < a.size := by rw [HA.out]; omega
      have lb : i < b.size := by rw [HB.out]; omega
      have ga := getElem_sbyte a i la
      have gb := getElem_sbyte b i lb
      obtain ⟨x, hx⟩ : ∃ x, sbyte a i = x := ⟨_, rfl⟩
      obtain ⟨y, hy⟩ : ∃ x, sbyte b i = x := ⟨_, rfl⟩
      have ex := xor_u8 x y
      obtain ⟨z, hz⟩ : ∃ z, x ^^^ y = z := ⟨_, rfl⟩
      rw [hz] at ex
      rw [hx] at ga
      rw [hy] at gb
      have fx := HX.out.frozen i
      have ck := HX.out.at hi
      simp only [u8s] at ck
      have HV : Hid ((fun j => sbyte a j ^^^ sbyte b j) i = z) := hide (by simp only [hx, hy, hz])
      clear hx hy hz
      go_upto_region 7 with fail
      refine wp_region_still_tail 10 (by kernel_rfl) (by kernel_rfl) ?_
      simp only [List.take_succ_cons, List.take_zero, List.drop_succ_cons, List.drop_zero]
      repeat (refine wpStill_step (fun K hK => ?_); go_simp; refine hK _ ?_; clear hK K)
      refine wpStill_nil ?_
      change wpList _ _ _ _ _ wr.drew
      go_wp2_with fail
      go_roundg (gk - 1)
      case measure => omega
      case rel =>
        have h1 := (HX.out.upd i (.int .u8 (z.toNat : Int))).drewN 1
        rw [u8s_upd, ← HV.out, mixA_succ] at h1
        rw [← HV.out]
        exact ⟨i + 1, by go_num, by omega, h1, below_drewN (HBx.out.setCell (Nat.le_refl _) _) 1⟩
    · have hi' : decide (i < n) = false := by simp; omega
      have hi'' : decide ((i : Int) < (n : Int)) = false := by simp; omega
      obtain rfl : i = n := by omega
      clear hi
      have hcv := run_convert_row wr _ _ _ Try.underlying56 Try.underlying5 Try.underlying9 w.heap.size 0 i i (fun j => sbyte a j ^^^ sbyte b j) (fun j hj => by
        rw [Nat.zero_add, HX.out.at hj]
        simp only [u8s, mixA]
        rw [if_pos hj])
      go_wp2_with fail
      go_ret2
      exact ⟨rfl, HBx.out⟩
end Go.Proofs.Ytikhaocpohfcnaa.Ct
