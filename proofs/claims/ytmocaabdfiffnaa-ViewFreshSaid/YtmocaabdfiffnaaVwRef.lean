/- The document's numbers and heads, walked. -/
import Derived.Test.YtmocaabdfiffnaaVwKind
import Derived.Test.YtmocaabdfiffnaaApp
import Derived.Lib.AppendStr
namespace Go.Proofs.Ytmocaabdfiffnaa.Ct
open Go.RowKit Go.Proofs.Ytmocaabdfiffnaa.W
set_option linter.unusedVariables false
set_option linter.unusedSimpArgs false

/-- The last i bytes of a number. -/
def lowB (n i : Nat) : ByteArray := strB i (fun j => BitVec.ofNat 8 (n / 256 ^ (i - 1 - j)))
theorem lowB_succ (n i : Nat) : strB 1 (fun _ => BitVec.ofNat 8 (n / 256 ^ i)) ++ lowB n i = lowB n (i + 1) := by
  unfold lowB
  rw [strB_append, Nat.add_comm 1 i]
  refine strB_congr (fun j hj => ?_)
  by_cases h : j < 1
  · rw [if_pos h, show i + 1 - 1 - j = i by omega]
  · rw [if_neg h, show i - 1 - (j - 1) = i + 1 - 1 - j by omega]
theorem lowB_size (n i : Nat) : (lowB n i).size = i := strB_size _ _
theorem lowB_eight (n : Nat) : lowB n 8 = numB n := rfl
def RPutRel (w : World) (n W k : Nat) (s0 s6 s7 : Value) (wr : World) : Prop := ∃ i m : Nat, m = n / 256 ^ i ∧ s7 = .int .i64 (i : Int) ∧ s0 = .int .i64 (m : Int) ∧ s6 = .string (lowB n i) ∧ i + k = W ∧ Below w.heap.size w wr
theorem one_byte (x : BitVec 8) : #[Value.int .u8 (x.toNat : Int)] = row 1 (u8s (fun _ => x)) := rfl
set_option maxRecDepth 100000 in
theorem rput_any (n W : Nat) (h1 : 1 ≤ W) (h8 : W ≤ 8) (hn : n < 9223372036854775808) (hw : n < 256 ^ W) (w : World) : Calls Try.prog 26 #[.int .i64 (n : Int), .int .i64 (W : Int)] w fun e w' => e = .returned (.tuple #[.string (lowB n W), .int .i64 0]) ∧ Below w.heap.size w w' := by
  have t1 : decide ((W : Int) < 1) = false := by simp; omega
  have t2 : decide ((8 : Int) < (W : Int)) = false := by simp; omega
  have t3 : decide (8 < W) = false := by simp; omega
  have t4 : decide ((n : Int) < 0) = false := by simp
  have HW := hide hw
  clear h1 hw
  go_enter Try.func26, Try.ntmps26
  go_wp2_with fail
  go_loopg [0, 6, 7] W (fun k s0 s6 s7 wr => RPutRel w n W k s0 s6 s7 wr)
  case atStart => exact ⟨0, n, by simp, rfl, rfl, by simp [lowB, strB_zero], by omega, Below.refl _ _⟩
  case round =>
    obtain ⟨i, m, hm, rfl, rfl, rfl, hk, hbx⟩ := hrel
    have HBx := hide hbx
    clear hbx
    by_cases hi : i < W
    · have hgk : 0 < gk := by omega
      have hi' : (i : Int) < (W : Int) := by omega
      have hmn : m ≤ n := by rw [hm]; exact Nat.div_le_self _ _
      obtain ⟨r, hr⟩ : ∃ r : Nat, m % 256 = r := ⟨_, rfl⟩
      obtain ⟨q, hq⟩ : ∃ q : Nat, m / 256 = q := ⟨_, rfl⟩
      have e1 : Int.tmod (m : Int) 256 = (r : Int) := by rw [Int.tmod_eq_emod_of_nonneg (by omega)]; omega
      have e2 : IntKind.i64.wrap (Int.tdiv (m : Int) 256) = (q : Int) := by
        rw [Int.tdiv_eq_ediv_of_nonneg (by omega), show (m : Int) / 256 = (q : Int) by omega]
        exact IntWalk.i64_in _ (by omega)
      have e3 : Int.tdiv (m : Int) 256 = (q : Int) := by rw [Int.tdiv_eq_ediv_of_nonneg (by omega)]; omega
      obtain ⟨x, hx⟩ : ∃ x, BitVec.ofNat 8 m = x := ⟨_, rfl⟩
      have hxr : x.toNat = r := by rw [← hx, BitVec.toNat_ofNat]; exact hr
      have e4 : IntKind.u8.wrap (r : Int) = (x.toNat : Int) := by rw [hxr]; exact wrap_u8 (by omega) (by omega)
      have HX : Hid (strB 1 (fun _ => x) ++ lowB n i = lowB n (i + 1) ∧ q = n / 256 ^ (i + 1)) := hide ⟨by rw [← lowB_succ, ← hx, hm], by rw [← hq, hm, Nat.pow_succ, Nat.div_div_eq_div_mul]⟩
      have hcv : ∀ W : World, (convert 32 9 (.slice (some ⟨W.heap.size, 0, none⟩) 1 1)).run Try.prog (W.alloc (.cells #[Value.int .u8 (x.toNat : Int)] 5)) = .ok (.string (strB 1 fun _ => x)) (W.alloc (.cells #[Value.int .u8 (x.toNat : Int)] 5)) := fun W =>
        run_convert_row _ _ _ _ Try.underlying32 Try.underlying5 Try.underlying9 _ 0 1 1 (fun _ => x) (fun j hj => by
          rw [one_byte, Nat.zero_add]
          exact (Blk.newAt W 5 (row 1 (u8s fun _ => x)) _ rfl).at hj)
      have hadd : ∀ w, (Op.stringOp .add (strB 1 fun _ => x) (lowB n i)).run Try.prog w = .ok (.string (strB 1 (fun _ => x) ++ lowB n i)) w := fun w => run_string_add_sum w _ _ (by simp only [lowB_size, strB_size]; omega)
      obtain ⟨y, hy⟩ : ∃ y, strB 1 (fun _ => x) ++ lowB n i = y := ⟨_, rfl⟩
      rw [hy] at hadd HX
      have HQ : Hid (wrap64 (q : Int) = (q : Int)) := hide (IntWalk.wrap64_in _ (by omega))
      clear hx hxr hr hq hm hmn hy
      go_wp2_with fail
      go_roundg (gk - 1)
      case measure => omega
      case rel => exact ⟨i + 1, q, HX.out.2, by go_num, by rw [HQ.out], by rw [HX.out.1], by omega, HBx.out.alloc HBx.out.size _⟩
    · have hi' : decide (i < W) = false := by simp; omega
      have hi'' : decide ((i : Int) < (W : Int)) = false := by simp; omega
      obtain rfl : i = W := by omega
      have hm0 : m = 0 := by rw [hm]; exact Nat.div_eq_of_lt HW.out
      have t5 : decide ((0 : Int) < (m : Int)) = false := by simp; omega
      have t6 : decide (0 < m) = false := by simp; omega
      clear hi hm hm0
      go_wp2_with fail
      go_ret2
      exact ⟨rfl, HBx.out⟩
theorem rput8 (n : Nat) (hn : n < 9223372036854775808) (w : World) : Calls Try.prog 26 #[.int .i64 (n : Int), .int .i64 8] w fun e w' => e = .returned (.tuple #[.string (numB n), .int .i64 0]) ∧ Below w.heap.size w w' := rput_any n 8 (by omega) (by omega) hn (Nat.lt_of_lt_of_le hn (by decide)) w
theorem rput1 (n : Nat) (hn : n < 256) (w : World) : Calls Try.prog 26 #[.int .i64 (n : Int), .int .i64 1] w fun e w' => e = .returned (.tuple #[.string (lowB n 1), .int .i64 0]) ∧ Below w.heap.size w w' := rput_any n 1 (by omega) (by omega) (by omega) (by omega) w
theorem rn8 (n : Nat) (hn : n < 9223372036854775808) (w : World) : Calls Try.prog 22 #[.int .i64 (n : Int), .int .i64 8] w fun e w' => e = .returned (.string (numB n)) ∧ Below w.heap.size w w' := by
  have H := hide hn
  clear hn
  go_enter Try.func22, Try.ntmps22
  go_wp2_with (first
    | (go_at_call 26; (with_reducible refine (rput8 n H.out _).mono ?_); rintro e w1 ⟨rfl, hb⟩; have HB1 := hide hb; clear hb))
  go_ret
  exact ⟨rfl, HB1.out⟩
theorem rn1 (n : Nat) (hn : n < 256) (w : World) : Calls Try.prog 22 #[.int .i64 (n : Int), .int .i64 1] w fun e w' => e = .returned (.string (lowB n 1)) ∧ Below w.heap.size w w' := by
  have H := hide hn
  clear hn
  go_enter Try.func22, Try.ntmps22
  go_wp2_with (first
    | (go_at_call 26; (with_reducible refine (rput1 n H.out _).mono ?_); rintro e w1 ⟨rfl, hb⟩; have HB1 := hide hb; clear hb))
  go_ret
  exact ⟨rfl, HB1.out⟩
theorem zeros7 (w : World) : Calls Try.prog 20 #[.int .i64 7] w fun e w' => e = .returned (.string (zerosB 7)) ∧ Below w.heap.size w w' := zeros_any 7 (by omega) w
theorem head_eq (n k : Nat) : numB n ++ lowB k 1 ++ zerosB 7 = headB n k := by
  unfold headB numB lowB zerosB
  rw [strB_append, strB_append, strB_append]
  refine strB_congr (fun i hi => ?_)
  unfold kb
  by_cases h1 : i < 8
  · rw [if_pos (by omega), if_pos h1, if_pos h1]
  · by_cases h2 : i < 9
    · rw [if_pos (by omega), if_neg h1, if_neg h1, if_pos (by omega), show 1 - 1 - (i - 8) = 0 by omega]
      simp
    · rw [if_neg (by omega), if_neg h1, if_neg (by omega)]
set_option maxRecDepth 100000 in
theorem head_any (n k : Nat) (hn : n < 9223372036854775808) (hk : k < 256) (w : World) : Calls Try.prog 18 #[.int .i64 (n : Int), .int .i64 (k : Int)] w fun e w' => e = .returned (.string (headB n k)) ∧ Below w.heap.size w w' := by
  have H := hide hn
  have HK := hide hk
  have hadd : ∀ w, (Op.stringOp .add (numB n) (lowB k 1)).run Try.prog w = .ok (.string (numB n ++ lowB k 1)) w := fun w => run_string_add_sum w _ _ (by simp only [lowB_size, numB_size]; omega)
  have hadd2 : ∀ w, (Op.stringOp .add (numB n ++ lowB k 1) (zerosB 7)).run Try.prog w = .ok (.string (headB n k)) w := fun w => by
    rw [← head_eq]
    exact run_string_add_sum w _ _ (by simp only [ByteArray.size_append, lowB_size, numB_size, zerosB, strB_size]; omega)
  obtain ⟨y, hy⟩ : ∃ y, numB n ++ lowB k 1 = y := ⟨_, rfl⟩
  rw [hy] at hadd hadd2
  clear hn hk hy
  go_enter Try.func18, Try.ntmps18
  go_wp2_with (first
    | (go_at_call 22; first
        | ((with_reducible refine (rn1 k HK.out _).mono ?_); rintro e w2 ⟨rfl, hb⟩; have HB2 := hide (HB1.out.trans (hb.mono HB1.out.size)); clear hb)
        | ((with_reducible refine (rn8 n H.out _).mono ?_); rintro e w1 ⟨rfl, hb⟩; have HB1 := hide hb; clear hb))
    | (go_at_call 20; (with_reducible refine (zeros7 _).mono ?_); rintro e w3 ⟨rfl, hb⟩; have HB3 := hide (HB2.out.trans (hb.mono HB2.out.size)); clear hb))
  go_ret
  exact ⟨rfl, HB3.out⟩
theorem head71 (w : World) : Calls Try.prog 18 #[.int .i64 7, .int .i64 1] w fun e w' => e = .returned (.string (headB 7 1)) ∧ Below w.heap.size w w' := head_any 7 1 (by omega) (by omega) w
theorem headk1 (n : Nat) (hn : n < 9223372036854775808) (w : World) : Calls Try.prog 18 #[.int .i64 (n : Int), .int .i64 1] w fun e w' => e = .returned (.string (headB n 1)) ∧ Below w.heap.size w w' := head_any n 1 hn (by omega) w
theorem headk2 (n : Nat) (hn : n < 9223372036854775808) (w : World) : Calls Try.prog 18 #[.int .i64 (n : Int), .int .i64 2] w fun e w' => e = .returned (.string (headB n 2)) ∧ Below w.heap.size w w' := head_any n 2 hn (by omega) w
end Go.Proofs.Ytmocaabdfiffnaa.Ct
