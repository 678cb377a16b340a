/- The document's sum of two texts, walked. -/
import Derived.Test.YtikhaocpohfcnaaCtrRef
import Derived.BigQuiet
namespace Go.Proofs.Ytikhaocpohfcnaa.Ct
open Go.RowKit Go.Proofs.Ytikhaocpohfcnaa.W Go.Proofs.Ytikhaocpohfcnaa.Gf Go.Proofs.Ytikhaocpohfcnaa.Ae
set_option linter.unusedVariables false
set_option linter.unusedSimpArgs false

theorem row_snoc (i : Nat) (F : St) : (row i (u8s F)).toList ++ [.int .u8 ((F i).toNat : Int)] = (row (i + 1) (u8s F)).toList := by
  apply List.ext_getElem?
  intro j
  rw [List.getElem?_append]
  simp only [Array.length_toList, row_size, Array.getElem?_toList]
  by_cases h1 : j < i
  · rw [if_pos h1, row_get _ h1, row_get _ (by omega)]
  · rw [if_neg h1]
    by_cases h2 : j = i
    · subst h2
      rw [row_get _ (by omega), Nat.sub_self]
      rfl
    · rw [Array.getElem?_eq_none (by rw [row_size]; omega), List.getElem?_eq_none (by simp; omega)]
theorem xor_bit (x y : BitVec 8) (k : Nat) : (x ^^^ y).toNat / 2 ^ k % 2 = if x.toNat / 2 ^ k % 2 = y.toNat / 2 ^ k % 2 then 0 else 1 := by
  have h := Nat.testBit_xor x.toNat y.toNat k
  rw [Nat.testBit_eq_decide_div_mod_eq, Nat.testBit_eq_decide_div_mod_eq, Nat.testBit_eq_decide_div_mod_eq] at h
  rw [BitVec.toNat_xor]
  have h1 := Nat.mod_two_eq_zero_or_one (x.toNat / 2 ^ k)
  have h2 := Nat.mod_two_eq_zero_or_one (y.toNat / 2 ^ k)
  have h3 := Nat.mod_two_eq_zero_or_one ((x.toNat ^^^ y.toNat) / 2 ^ k)
  rcases h1 with h1 | h1 <;> rcases h2 with h2 | h2 <;> rcases h3 with h3 | h3 <;> simp [h1, h2, h3] at h ⊢
theorem mod_step (z k : Nat) : z % 2 ^ (k + 1) = z % 2 ^ k + 2 ^ k * (z / 2 ^ k % 2) := by
  rw [Nat.pow_succ, Nat.mod_mul]
def RXorRel (w : World) (F : St) (n k : Nat) (s5 s6 : Value) (wr : World) : Prop :=
  ∃ (i : Nat) (A : Option Addr) (c : Nat), s5 = .slice A i c ∧ s6 = .int .i64 (i : Int) ∧ i + k = n ∧ wr.ownsRow w.heap.size 5 1 (.slice A i c) i (row i (u8s F)).toList ∧ Below w.heap.size w wr
def RBitRel2 (wr : World) (z k : Nat) (s7 s8 s9 : Value) (wx : World) : Prop := ∃ j p v : Nat, s9 = .int .i64 (j : Int) ∧ s8 = .int .i64 (p : Int) ∧ s7 = .int .i64 (v : Int) ∧ p = 2 ^ j ∧ v = z % 2 ^ j ∧ j + k = 8 ∧ ∃ d, wx = wr.drewN d
set_option maxRecDepth 100000 in
set_option maxHeartbeats 1000000 in
theorem rxor_any (a b : ByteArray) (n : Nat) (ha : a.size = n) (hb : b.size = n) (hn : n ≤ 1000) (w : World) : Calls Try.prog 14 #[.string a, .string b] w fun e w' => e = .returned (.string (xorB n (sbyte a) (sbyte b))) ∧ Below w.heap.size w w' := by
  obtain ⟨i0, hi0, hz0, hz1, hz2⟩ := info3 u8_info
  have t2 : ((a.size : Int)) = (n : Int) := by omega
  have t3 : ((b.size : Int)) = (n : Int) := by omega
  have HA := hide ha
  have HB := hide hb
  clear ha hb
  go_enter Try.func14, Try.ntmps14
  go_wp2_with fail
  go_loopg [5, 6] n (fun k s5 s6 wr => RXorRel w (fun j => sbyte a j ^^^ sbyte b j) n k s5 s6 wr)
  case atStart => exact ⟨0, none, 0, rfl, rfl, by omega, ⟨rfl, .inl ⟨rfl, rfl⟩⟩, Below.refl _ _⟩
  case round =>
    obtain ⟨i, A, c, rfl, rfl, hk, hown, hbx⟩ := hrel
    have HOwn := hide hown
    have HBx := hide hbx
    clear hown hbx
    by_cases hi : i < n
    · have hgk : 0 < gk := by omega
      have hi' : (i : Int) < (n : Int) := by omega
      have la : i < a.size := by rw [HA.out]; omega
      have lb : i < b.size := by rw [HB.out]; omega
      have la' : (i : Int) < (a.size : Int) := by omega
      have lb' : (i : Int) < (b.size : Int) := by omega
      have ga := getElem_sbyte a i la
      have gb := getElem_sbyte b i lb
      obtain ⟨x, hx⟩ : ∃ x, sbyte a i = x := ⟨_, rfl⟩
      obtain ⟨y, hy⟩ : ∃ x, sbyte b i = x := ⟨_, rfl⟩
      rw [hx] at ga
      rw [hy] at gb
      have hxl := x.isLt
      have hyl := y.isLt
      obtain ⟨z, hz⟩ : ∃ z, x ^^^ y = z := ⟨_, rfl⟩
      have HF : Hid ((fun j => sbyte a j ^^^ sbyte b j) i = z) := hide (by simp only [hx, hy, hz])
      have HZ := hide hz
      have px : IntKind.i64.wrap (x.toNat : Int) = (x.toNat : Int) := IntWalk.i64_in _ (by omega)
      have py : IntKind.i64.wrap (y.toNat : Int) = (y.toNat : Int) := IntWalk.i64_in _ (by omega)
      clear hx hy hz
      obtain ⟨g0, hg0⟩ : ∃ g, g = gk := ⟨gk, rfl⟩
      subst hg0
      go_wp2_with fail
      go_loopg [7, 8, 9] 8 (fun k s7 s8 s9 wx => RBitRel2 wr z.toNat k s7 s8 s9 wx)
      case atStart => exact ⟨0, 1, 0, rfl, rfl, rfl, rfl, by simp [Nat.mod_one], rfl, 0, rfl⟩
      case round =>
        obtain ⟨j, p, v, rfl, rfl, rfl, hp, hv, hk2, d, rfl⟩ := hrel
        by_cases hj : j < 8
        · have hgk2 : 0 < gk := by omega
          have hj' : (j : Int) < 8 := by omega
          have hp256 : 1 ≤ p ∧ p ≤ 128 := by
            have h8 : j = 0 ∨ j = 1 ∨ j = 2 ∨ j = 3 ∨ j = 4 ∨ j = 5 ∨ j = 6 ∨ j = 7 := by omega
            rcases h8 with rfl | rfl | rfl | rfl | rfl | rfl | rfl | rfl <;> subst hp <;> decide
          have hv256 : v < 256 := by
            have : v ≤ z.toNat := by rw [hv]; exact Nat.mod_le _ _
            have := z.isLt
            omega
          obtain ⟨qa, hqa⟩ : ∃ q : Nat, x.toNat / p = q := ⟨_, rfl⟩
          obtain ⟨qb, hqb⟩ : ∃ q : Nat, y.toNat / p = q := ⟨_, rfl⟩
          obtain ⟨ra, hra⟩ : ∃ q : Nat, qa % 2 = q := ⟨_, rfl⟩
          obtain ⟨rb, hrb⟩ : ∃ q : Nat, qb % 2 = q := ⟨_, rfl⟩
          obtain ⟨p2, hp2⟩ : ∃ q : Nat, p * 2 = q := ⟨_, rfl⟩
          obtain ⟨v2, hv2⟩ : ∃ q : Nat, v + p = q := ⟨_, rfl⟩
          have hqa2 : qa ≤ x.toNat := by rw [← hqa]; exact Nat.div_le_self _ _
          have hqb2 : qb ≤ y.toNat := by rw [← hqb]; exact Nat.div_le_self _ _
          have p0 : ((p : Int) == 0) = false := by simp; omega
          have p1 : ¬ (p : Int) = 0 := by omega
          have e1 : Int.tdiv (x.toNat : Int) (p : Int) = (qa : Int) := by rw [Int.tdiv_eq_ediv_of_nonneg (by omega), ← hqa]; rfl
          have e2 : Int.tdiv (y.toNat : Int) (p : Int) = (qb : Int) := by rw [Int.tdiv_eq_ediv_of_nonneg (by omega), ← hqb]; rfl
          have e3 : IntKind.i64.wrap (qa : Int) = (qa : Int) := IntWalk.i64_in _ (by omega)
          have e4 : IntKind.i64.wrap (qb : Int) = (qb : Int) := IntWalk.i64_in _ (by omega)
          have e5 : Int.tmod (qa : Int) 2 = (ra : Int) := by rw [Int.tmod_eq_emod_of_nonneg (by omega)]; omega
          have e6 : Int.tmod (qb : Int) 2 = (rb : Int) := by rw [Int.tmod_eq_emod_of_nonneg (by omega)]; omega
          have e7 : IntKind.i64.wrap ((p : Int) * 2) = (p2 : Int) := by rw [show (p : Int) * 2 = (p2 : Int) by omega]; exact IntWalk.i64_in _ (by omega)
          have e8 : IntKind.i64.wrap ((v : Int) + (p : Int)) = (v2 : Int) := by rw [show (v : Int) + (p : Int) = (v2 : Int) by omega]; exact IntWalk.i64_in _ (by omega)
          have hzb := xor_bit x y j
          rw [HZ.out, ← hp, hqa, hqb, hra, hrb] at hzb
          have hst := mod_step z.toNat j
          rw [← hv, ← hp, hzb] at hst
          have HP : Hid (p2 = 2 ^ (j + 1)) := hide (by rw [Nat.pow_succ, ← hp, hp2])
          by_cases hab : ra = rb
          · have c1 : ((ra : Int) != (rb : Int)) = false := by simp; omega
            have c2 : (ra != rb) = false := by simp; omega
            rw [if_pos hab, Nat.mul_zero, Nat.add_zero] at hst
            have HS := hide hst
            clear hst hzb hab hp2 hv2 hra hrb hqa hqb hqa2 hqb2 hp hv
            go_wp2_with fail
            go_quiet (fail)
            go_wp2_with fail
            go_roundg (gk - 1)
            case measure => omega
            case rel => exact ⟨j + 1, p2, v, by go_num, rfl, rfl, HP.out, HS.out.symm, by omega, _, rfl⟩
          · have c1 : ((ra : Int) != (rb : Int)) = true := by simp; omega
            have c2 : (ra != rb) = true := by simp; omega
            rw [if_neg hab, Nat.mul_one, hv2] at hst
            have HS := hide hst
            clear hst hzb hab hp2 hv2 hra hrb hqa hqb hqa2 hqb2 hp hv
            go_wp2_with fail
            go_quiet (fail)
            go_wp2_with fail
            go_roundg (gk - 1)
            case measure => omega
            case rel => exact ⟨j + 1, p2, v2, by go_num, rfl, rfl, HP.out, HS.out.symm, by omega, _, rfl⟩
        · have hj' : decide (j < 8) = false := by simp; omega
          have hj'' : decide ((j : Int) < 8) = false := by simp; omega
          obtain rfl : j = 8 := by omega
          have hvz : v = z.toNat := by rw [hv]; exact Nat.mod_eq_of_lt z.isLt
          subst hvz
          have e4 : IntKind.u8.wrap (z.toNat : Int) = (z.toNat : Int) := wrap_u8 (by omega) (by have := z.isLt; omega)
          have HOwn2 := hide (own_same HOwn.out (w' := wr.drewN d) rfl)
          have HBx2 := hide (below_drewN HBx.out d)
          have hsz := HBx.out.size
          generalize hwd : wr.drewN d = wd at HOwn2 HBx2 ⊢
          have hsz2 := HBx2.out.size
          clear hj hv hp hwd
          go_wp2_with (first
            | (at_builtin; refine wpList_append_at _ rfl (.tmp 40) (.tmp 43) 56 rfl w.heap.size 5 i0 (.int .u8 0) 1 1 Try.underlying56 hi0 hz0 hz1 hz2 rfl (by decide) _ i _ rfl (by exact HOwn2.out.alloc _) ⟨_, 0, none⟩ 1 1 [.int .u8 (z.toNat : Int)] rfl rfl (by exact new_cell _ _ _ _ rfl) (by simp [Value.oneCell']) (by simp [maxLen]; omega) (by omega) (by simp; omega) ?_; intro v1 w1 hown1 hg1 hat1; have HOwn1 := hide hown1; have HG1 := hide hg1; clear hown1 hg1 hat1))
          have hown1 := HOwn1.out
          obtain ⟨A1, c1, hv1⟩ := own_form hown1
          rw [hv1] at hown1 ⊢
          go_roundg (g0 - 1)
          case measure => omega
          case rel =>
            refine ⟨i + 1, A1, c1, rfl, by go_num, by omega, ?_, kept_below (HOwn2.out.alloc _) HG1.out (HBx2.out.alloc HBx2.out.size _) (Nat.le_refl _) (by simp; omega)⟩
            rw [← row_snoc, HF.out]
            exact hown1
    · have hi' : decide (i < n) = false := by simp; omega
      have hi'' : decide ((i : Int) < (n : Int)) = false := by simp; omega
      obtain rfl : i = n := by omega
      by_cases h0 : i = 0
      · subst h0
        have hown := HOwn.out
        have HE : Hid (xorB 0 (sbyte a) (sbyte b) = ⟨#[]⟩) := hide (strB_zero _)
        clear hi
        rcases hown.2 with ⟨hv, _⟩ | ⟨gb, cap, cur, hv, _, _, hc, _, _, _⟩
        · injection hv with a1 a2 a3
          subst a1 a3
          clear hown
          have hcv := nil_text
          go_wp2_with fail
          go_ret
          rw [HE.out]
          exact ⟨rfl, HBx.out⟩
        · injection hv with a1 a2 a3
          subst a1 a3
          have hcv := run_convert_row wr _ _ _ Try.underlying56 Try.underlying5 Try.underlying9 gb 0 0 c (fun j => sbyte a j ^^^ sbyte b j) (fun j hj => by omega)
          clear hown
          go_wp2_with fail
          go_ret
          exact ⟨rfl, HBx.out⟩
      · obtain ⟨gb, cur, rfl, hgb, hbk, hpc, hcur⟩ := own_first HOwn.out (by omega)
        have hcv := run_convert_row wr _ _ _ Try.underlying56 Try.underlying5 Try.underlying9 gb 0 i c (fun j => sbyte a j ^^^ sbyte b j) (fun j hj => by
          rw [Nat.zero_add, hbk.cell, hcur j (by omega), Array.getElem?_toList, row_get _ (by omega)]
          rfl)
        clear hbk hcur hgb hi
        go_wp2_with fail
        go_ret
        exact ⟨rfl, HBx.out⟩
end Go.Proofs.Ytikhaocpohfcnaa.Ct
