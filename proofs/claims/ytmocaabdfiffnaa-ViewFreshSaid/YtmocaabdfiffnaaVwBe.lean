/- Contracts: bytes 0, a number read, a number's bounds. -/
import Derived.Test.YtmocaabdfiffnaaProg
import Derived.Test.YtmocaabdfiffnaaWords
import Derived.Test.YtmocaabdfiffnaaRow
import Derived.Test.YtmocaabdfiffnaaVwPlain
import Derived.Deep.DeepCutAuto
import Derived.Deep.CutRange
import Derived.StillTailTactics
import Derived.Deep.QuietTactic
import Derived.BigQuiet
import Derived.IntWalk
import Derived.BigRegion
import Derived.Laws.MakeOwn
import Derived.Laws.Concat
namespace Go.Proofs.Ytmocaabdfiffnaa.Ct
open Go.RowKit Go.Proofs.Ytmocaabdfiffnaa.W
set_option linter.unusedVariables false
set_option linter.unusedSimpArgs false

theorem made_row (n : Nat) : madeCells #[.int .u8 0] n = row n (u8s fun _ => 0#8) := by
  apply Array.ext
  · simp [size_madeCells, row_size]
  · intro i h1 h2
    simp [madeCells, row, u8s, Nat.mod_one]
theorem make_bytes (n : Nat) (hn : n ≤ 1000000) (w : World) : (Instr.makeSlice 32 (.int .i64 (n : Int)) (.int .i64 (n : Int))).run Try.prog w = .ok (.slice (some ⟨w.heap.size, 0, none⟩) n n) (w.alloc (.cells (row n (u8s fun _ => 0#8)) 5)) := by
  obtain ⟨i, hi, hb, hs, hz⟩ : ∃ i, Try.prog.info? 5 = some i ∧ i.bytes = 1 ∧ i.size = 1 ∧ i.zero = some (.int .u8 0) := ⟨_, rfl, rfl, rfl, rfl⟩
  have h := run_make (P := Try.prog) w 32 5 i (.int .u8 0) Try.underlying32 hi hz .i64 .i64 n n (by omega) (by omega) (by rw [hb]; omega) (by omega)
  simp only [Int.toNat_natCast, hs, Nat.mul_one] at h
  rw [h]
  show Result.ok _ (w.alloc (.cells (madeCells #[.int .u8 0] n) 5)) = _
  rw [made_row]
def zerosB (n : Nat) : ByteArray := strB n fun _ => 0#8
theorem zeros_any (n : Nat) (hn : n ≤ 1000000) (w : World) : Calls Try.prog 20 #[.int .i64 (n : Int)] w fun e w' => e = .returned (.string (zerosB n)) ∧ Below w.heap.size w w' := by
  have hmk := make_bytes n hn
  have hcv : ∀ wr, Blk wr w.heap.size 5 (row n (u8s fun _ => 0#8)) → (convert 32 9 (.slice (some ⟨w.heap.size, 0, none⟩) n n)).run Try.prog wr = .ok (.string (zerosB n)) wr := fun wr hb =>
    run_convert_row wr _ _ _ Try.underlying32 Try.underlying5 Try.underlying9 _ _ _ _ (fun _ => 0#8) (fun j hj => by
      rw [Nat.zero_add, hb.at hj]
      rfl)
  have hcv2 := hcv _ (Blk.newAt w _ _ _ rfl)
  clear hcv
  go_enter Try.func20, Try.ntmps20
  go_wp2_with fail
  go_ret
  exact ⟨rfl, (Below.refl _ _).alloc (Nat.le_refl _) _⟩
def GetRel (w : World) (f : St) (k : Nat) (s4 s24 : Value) (wr : World) : Prop := ∃ i : Nat, s24 = .int .i64 (i : Int) ∧ s4 = .int .i64 (val f i : Int) ∧ i + k = 8 ∧ wr = w
set_option maxRecDepth 100000 in
theorem get_big (s : ByteArray) (hs : s.size = 8) (h0 : ¬ (sbyte s 0).toNat < 128) (w : World) : Calls Try.prog 27 #[.string s] w fun e w' => e = .returned (.tuple #[.int .i64 0, .int .i64 3]) ∧ Below w.heap.size w w' := by
  have hne : (s.toList == []) = false := by
    rw [ByteArray.toList_eq]
    cases h : s.data.toList with
    | nil =>
      have : s.data.size = 0 := by rw [← Array.length_toList, h]; rfl
      have : s.size = 0 := this
      omega
    | cons a l => rfl
  have t1 : decide ((8 : Int) < (s.size : Int)) = false := by simp; omega
  have t2 : ((s.size : Int) == 8) = true := by simp; omega
  have t3 : decide (8 < s.size) = false := by simp; omega
  have t4 : (s.size == 8) = true := by simp; omega
  have g2 : 0 < s.size := by omega
  have g0 := getElem_sbyte s 0 g2
  have g1 : decide (127 < ((sbyte s 0).toNat : Int)) = true := by simp; omega
  clear hs h0
  go_enter Try.func27, Try.ntmps27
  go_wp2_with fail
  go_ret2
  exact ⟨rfl, Below.refl _ _⟩
set_option maxRecDepth 100000 in
theorem get_ok (s : ByteArray) (hs : s.size = 8) (h0 : (sbyte s 0).toNat < 128) (w : World) : Calls Try.prog 27 #[.string s] w fun e w' => e = .returned (.tuple #[.int .i64 (val (sbyte s) 8 : Int), .int .i64 0]) ∧ Below w.heap.size w w' := by
  have hne : (s.toList == []) = false := by
    rw [ByteArray.toList_eq]
    cases h : s.data.toList with
    | nil =>
      have : s.data.size = 0 := by rw [← Array.length_toList, h]; rfl
      have : s.size = 0 := this
      omega
    | cons a l => rfl
  have t1 : decide ((8 : Int) < (s.size : Int)) = false := by simp; omega
  have t2 : ((s.size : Int) == 8) = true := by simp; omega
  have t3 : decide (8 < s.size) = false := by simp; omega
  have t4 : (s.size == 8) = true := by simp; omega
  have g2 : 0 < s.size := by omega
  have g0 := getElem_sbyte s 0 g2
  have g1 : decide (127 < ((sbyte s 0).toNat : Int)) = false := by simp; omega
  have HS := hide hs
  have H0 := hide h0
  clear hs h0
  go_enter Try.func27, Try.ntmps27
  go_wp2_with fail
  go_loopg [4, 24] 8 (fun k s4 s24 wr => GetRel w (sbyte s) k s4 s24 wr)
  case atStart => exact ⟨0, rfl, rfl, rfl, rfl⟩
  case round =>
    obtain ⟨i, rfl, rfl, hk, rfl⟩ := hrel
    by_cases hi : i < 8
    · have hgk : 0 < gk := by omega
      have hi' : (i : Int) < (s.size : Int) := by rw [HS.out]; omega
      have l0 : i < s.size := by rw [HS.out]; omega
      have gi := getElem_sbyte s i l0
      obtain ⟨v, hv⟩ : ∃ v, val (sbyte s) i = v := ⟨_, rfl⟩
      obtain ⟨b, hb⟩ : ∃ b, sbyte s i = b := ⟨_, rfl⟩
      obtain ⟨u, hu⟩ : ∃ u, val (sbyte s) (i + 1) = u := ⟨_, rfl⟩
      have hbl := b.isLt
      have hu2 : u = v * 256 + b.toNat := by rw [← hu, ← hv, ← hb]; rfl
      have hul : u < 9223372036854775808 := by rw [← hu]; exact val_lt63 _ H0.out (by omega)
      have e1 : IntKind.i64.wrap ((v : Int) * 256) = ((v * 256 : Nat) : Int) := by rw [show (v : Int) * 256 = ((v * 256 : Nat) : Int) by omega]; exact IntWalk.i64_in _ (by omega)
      have e2 : IntKind.i64.wrap (b.toNat : Int) = (b.toNat : Int) := IntWalk.i64_in _ (by omega)
      have e3 : bits BinOp.or IntKind.i64 ((v * 256 : Nat) : Int) (b.toNat : Int) = (u : Int) := by
        show IntKind.i64.wrap ((BitVec.ofInt 64 ((v * 256 : Nat) : Int) ||| BitVec.ofInt 64 (b.toNat : Int)).toNat : Int) = _
        rw [BitVec.toNat_or, BitVec.ofInt_natCast, BitVec.ofInt_natCast, BitVec.toNat_ofNat, BitVec.toNat_ofNat, Nat.mod_eq_of_lt (by omega), Nat.mod_eq_of_lt (by omega), or_byte _ _ (by omega), ← hu2]
        exact IntWalk.i64_in _ (by omega)
      obtain ⟨v2, hv2⟩ : ∃ v2, v * 256 = v2 := ⟨_, rfl⟩
      rw [hv2] at e1 e3
      rw [hb] at gi
      have HU := hide hu
      clear hb hu hu2 hul hv2
      simp only [hv]
      clear hv
      go_wp2_with fail
      go_roundg (gk - 1)
      case measure => omega
      case rel => exact ⟨i + 1, by go_num, by rw [HU.out], by omega, rfl⟩
    · have hi' : decide ((i : Int) < (s.size : Int)) = false := by rw [HS.out]; simp; omega
      have hi'' : decide (i < s.size) = false := by rw [HS.out]; simp; omega
      obtain rfl : i = 8 := by omega
      clear hi
      go_wp2_with fail
      go_ret2
      exact ⟨rfl, Below.refl _ _⟩
def okN (n : Int) : Prop := 0 ≤ n ∧ n ≤ 1099511627776
theorem right_yes (n : Nat) (h : n ≤ 1099511627776) (w : World) : Calls Try.prog 28 #[.int .i64 (n : Int)] w fun e w' => e = .returned (.bool true) ∧ w' = w := by
  have h1 : decide ((0 : Int) ≤ (n : Int)) = true := by simp
  have h2 : decide ((n : Int) ≤ 1099511627776) = true := by simp; omega
  go_enter Try.func28, Try.ntmps28
  go_wp2_with fail
  go_ret
  exact ⟨rfl, rfl⟩
theorem right_no (n : Int) (h : n < 0 ∨ 1099511627776 < n) (w : World) : Calls Try.prog 28 #[.int .i64 n] w fun e w' => e = .returned (.bool false) ∧ w' = w := by
  by_cases h0 : n < 0
  · have h1 : decide ((0 : Int) ≤ n) = false := by simp; omega
    clear h h0
    go_enter Try.func28, Try.ntmps28
    go_wp2_with fail
    go_ret
    exact ⟨rfl, rfl⟩
  · have h1 : decide ((0 : Int) ≤ n) = true := by simp; omega
    have h2 : decide (n ≤ 1099511627776) = false := by simp; omega
    clear h h0
    go_enter Try.func28, Try.ntmps28
    go_wp2_with fail
    go_ret
    exact ⟨rfl, rfl⟩
end Go.Proofs.Ytmocaabdfiffnaa.Ct
