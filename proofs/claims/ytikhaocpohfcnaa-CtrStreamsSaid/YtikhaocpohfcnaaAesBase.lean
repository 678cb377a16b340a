/- What seats above aes need of it: nil words, texts and bytes 0, there and back. -/
import Derived.Test.YtikhaocpohfcnaaAesNew
import Derived.Laws.MakeOwn
import Derived.Laws.Concat
namespace Go.Proofs.Ytikhaocpohfcnaa.Ae
open Go.RowKit Go.Proofs.Ytikhaocpohfcnaa.W Go.Proofs.Ytikhaocpohfcnaa.Gf
set_option linter.unusedVariables false
set_option linter.unusedSimpArgs false

theorem make16 (w : World) : (Instr.makeSlice 56 (.int .i64 16) (.int .i64 16)).run Try.prog w = .ok (.slice (some ⟨w.heap.size, 0, none⟩) 16 16) (w.alloc (.cells (row 16 (u8s fun _ => 0#8)) 5)) := by kernel_rfl
theorem Eq16_sbyte (f : St) : Eq16 (sbyte (strB 16 f)) f := fun i hi => sbyte_strB f hi
theorem dec_enc_str (kf : St) (s : ByteArray) (hs : s.size = 16) : strB 16 (decS kf (sbyte (strB 16 (encS kf (sbyte s))))) = s := by
  conv => rhs; rw [strB_of_size hs]
  exact strB_congr (fun i hi => ((dec_congr kf (Eq16_sbyte _)).trans (dec_enc kf _)) i hi)
theorem enc_dec_str (kf : St) (s : ByteArray) (hs : s.size = 16) : strB 16 (encS kf (sbyte (strB 16 (decS kf (sbyte s))))) = s := by
  conv => rhs; rw [strB_of_size hs]
  exact strB_congr (fun i hi => ((enc_congr kf (Eq16_sbyte _)).trans (enc_dec kf _)) i hi)
theorem KeyAt.later {w w' : World} {g : Nat} {kf : St} (hb : Below w.heap.size w w') (h : KeyAt w g kf) : KeyAt w' g kf := W.later hb h
theorem made_row (n : Nat) : madeCells #[.int .u8 0] n = row n (u8s fun _ => 0#8) := by
  apply Array.ext
  · simp [size_madeCells, row_size]
  · intro i h1 h2
    simp [madeCells, row, u8s, Nat.mod_one]
theorem make_bytes (n : Nat) (hn : n ≤ 1000) (w : World) : (Instr.makeSlice 56 (.int .i64 (n : Int)) (.int .i64 (n : Int))).run Try.prog w = .ok (.slice (some ⟨w.heap.size, 0, none⟩) n n) (w.alloc (.cells (row n (u8s fun _ => 0#8)) 5)) := by
  obtain ⟨i, hi, hb, hs, hz⟩ : ∃ i, Try.prog.info? 5 = some i ∧ i.bytes = 1 ∧ i.size = 1 ∧ i.zero = some (.int .u8 0) := ⟨_, rfl, rfl, rfl, rfl⟩
  have h := run_make (P := Try.prog) w 56 5 i (.int .u8 0) Try.underlying56 hi hz .i64 .i64 n n (by omega) (by omega) (by rw [hb]; omega) (by omega)
  simp only [Int.toNat_natCast, hs, Nat.mul_one] at h
  rw [h]
  show Result.ok _ (w.alloc (.cells (madeCells #[.int .u8 0] n) 5)) = _
  rw [made_row]
def zerosB (n : Nat) : ByteArray := strB n fun _ => 0#8
theorem zeros_any (n : Nat) (hn : n ≤ 1000) (w : World) : Calls Try.prog 21 #[.int .i64 (n : Int)] w fun e w' => e = .returned (.string (zerosB n)) ∧ Below w.heap.size w w' := by
  have hmk := make_bytes n hn
  have hcv : ∀ wr, Blk wr w.heap.size 5 (row n (u8s fun _ => 0#8)) → (convert 56 9 (.slice (some ⟨w.heap.size, 0, none⟩) n n)).run Try.prog wr = .ok (.string (zerosB n)) wr := fun wr hb =>
    run_convert_row wr _ _ _ Try.underlying56 Try.underlying5 Try.underlying9 _ _ _ _ (fun _ => 0#8) (fun j hj => by
      rw [Nat.zero_add, hb.at hj]
      rfl)
  have hcv2 := hcv _ (Blk.newAt w _ _ _ rfl)
  clear hcv
  go_enter Try.func21, Try.ntmps21
  go_wp2_with fail
  go_ret
  exact ⟨rfl, (Below.refl _ _).alloc (Nat.le_refl _) _⟩
def fullB (s : ByteArray) (n : Nat) : ByteArray := if n ≤ s.size then s else s ++ zerosB (n - s.size)
theorem fullB_size {s : ByteArray} {n : Nat} (h : s.size ≤ n) : (fullB s n).size = n := by
  unfold fullB
  split
  · omega
  · rw [ByteArray.size_append]
    simp [zerosB, strB_size]
    omega
theorem full_any (s : ByteArray) (n : Nat) (hn : n ≤ 1000) (w : World) : Calls Try.prog 24 #[.string s, .int .i64 (n : Int)] w fun e w' => e = .returned (.string (fullB s n)) ∧ Below w.heap.size w w' := by
  unfold fullB
  by_cases h : n ≤ s.size
  · rw [if_pos h]
    have h1 : decide ((n : Int) ≤ (s.size : Int)) = true := by simp; omega
    go_enter Try.func24, Try.ntmps24
    go_wp2_with fail
    go_ret
    exact ⟨rfl, Below.refl _ _⟩
  · rw [if_neg h]
    have h1 : decide ((n : Int) ≤ (s.size : Int)) = false := by simp; omega
    obtain ⟨m, hm⟩ : ∃ m, n - s.size = m := ⟨_, rfl⟩
    have e1 : IntKind.i64.wrap ((n : Int) - (s.size : Int)) = (m : Int) := by
      rw [show (n : Int) - (s.size : Int) = (m : Int) by omega]
      exact IntWalk.i64_in _ (by omega)
    have hadd : ∀ w, (Op.stringOp .add s (zerosB m)).run Try.prog w = .ok (.string (s ++ zerosB m)) w := fun w => run_string_add_sum w _ _ (by simp only [zerosB, strB_size]; omega)
    have HZ := hide (fun W => zeros_any m (by omega) W)
    rw [hm]
    clear hm
    go_enter Try.func24, Try.ntmps24
    go_wp2_with (first | (go_at_call 21; (with_reducible refine (HZ.out _).mono ?_); rintro e w1 ⟨rfl, hb⟩; have HB := hide hb; clear hb))
    go_ret
    exact ⟨rfl, HB.out⟩
theorem full32 (s : ByteArray) (w : World) : Calls Try.prog 24 #[.string s, .int .i64 32] w fun e w' => e = .returned (.string (fullB s 32)) ∧ Below w.heap.size w w' := full_any s 32 (by omega) w
end Go.Proofs.Ytikhaocpohfcnaa.Ae
