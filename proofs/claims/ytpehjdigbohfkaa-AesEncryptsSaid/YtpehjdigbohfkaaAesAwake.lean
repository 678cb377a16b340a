/- The law's helpers: rising texts, its awake; a nil key's word. -/
import Derived.Test.YtpehjdigbohfkaaAesLit
namespace Go.Proofs.Ytpehjdigbohfkaa.Ae
open Go.RowKit Go.Proofs.Ytpehjdigbohfkaa.W Go.Proofs.Ytpehjdigbohfkaa.Gf
set_option linter.unusedVariables false
set_option linter.unusedSimpArgs false

theorem word_nil (i : Int) (w : World) : Calls Try.prog 18 #[.pointer none, .int .i64 i] w fun e w' => e = .returned (.tuple #[.int .u32 0, .int .i64 1]) ∧ Below w.heap.size w w' := by
  go_enter Try.func18, Try.ntmps18
  go_wp2_with fail
  go_ret2
  exact ⟨rfl, Below.refl _ _⟩
def riseA (by_ i : Nat) : St := fun j => if j < i then rise by_ j else 0#8
theorem riseA_succ (by_ i : Nat) : upd (riseA by_ i) i (rise by_ i) = riseA by_ (i + 1) := by
  funext j
  simp only [upd, riseA]
  by_cases h : j = i
  · rw [if_pos h, if_pos (by omega), h]
  · rw [if_neg h]
    by_cases h2 : j < i
    · rw [if_pos h2, if_pos (by omega)]
    · rw [if_neg h2, if_neg (by omega)]
def RiseRel (w : World) (n by_ k : Nat) (s6 : Value) (wr : World) : Prop := ∃ i : Nat, s6 = .int .i64 (i : Int) ∧ i + k = n ∧ Blk wr w.heap.size 5 (row n (u8s (riseA by_ i))) ∧ Below w.heap.size w wr
set_option maxRecDepth 100000 in
set_option maxHeartbeats 1000000 in
theorem rising_any (n by_ : Nat) (hn : n ≤ 32) (hby : by_ ≤ 17) (hmk : ∀ w, (Instr.makeSlice 52 (.int .i64 (n : Int)) (.int .i64 (n : Int))).run Try.prog w = .ok (.slice (some ⟨w.heap.size, 0, none⟩) n n) (w.alloc (.cells (row n (u8s fun _ => 0#8)) 5)))
    (w : World) : Calls Try.prog 21 #[.int .i64 (n : Int), .int .i64 (by_ : Int)] w fun e w' => e = .returned (.string (strB n (rise by_))) ∧ Below w.heap.size w w' := by
  go_enter Try.func21, Try.ntmps21
  go_wp2_with fail
  go_loopg [6] n (fun k s6 wr => RiseRel w n by_ k s6 wr)
  case atStart => exact ⟨0, rfl, by omega, Blk.newAt w _ _ _ rfl, (Below.refl _ _).alloc (Nat.le_refl _) _⟩
  case round =>
    obtain ⟨i, rfl, hk, hb, hl⟩ := hrel
    have HB := hide hb
    have HL := hide hl
    clear hb hl
    by_cases hi : i < n
    · have hgk : 0 < gk := by omega
      have hi' : (i : Int) < (n : Int) := by omega
      obtain ⟨c, hc⟩ : ∃ c, i * by_ = c := ⟨_, rfl⟩
      have hc' : c ≤ 32 * 17 := by rw [← hc]; exact Nat.mul_le_mul (by omega) hby
      have e1 : IntKind.i64.wrap ((i : Int) * (by_ : Int)) = (c : Int) := by
        rw [← hc, ← Int.natCast_mul]
        exact IntWalk.i64_in _ (by rw [hc]; omega)
      have e2 : IntKind.u8.wrap (c : Int) = ((rise by_ i).toNat : Int) := by
        unfold rise
        rw [hc]
        simp [IntKind.wrap, IntKind.signed, IntKind.bits, BitVec.toNat_ofNat]
      have hcv : ∀ w, (convert 3 5 (.int .i64 (c : Int))).run Try.prog w = .ok (.int .u8 ((rise by_ i).toNat : Int)) w := fun w => by
        simp [convert, run_underlying Try.underlying3, run_underlying Try.underlying5, Conv.intToInt, e2]
      have ck := HB.out.at hi
      have fk := HB.out.frozen i
      simp only [u8s] at ck
      clear hc e2
      go_wp2_with fail
      go_roundg (gk - 1)
      case measure => omega
      case rel =>
        have h1 := HB.out.upd i (.int .u8 ((rise by_ i).toNat : Int))
        rw [u8s_upd, riseA_succ] at h1
        exact ⟨i + 1, by go_num, by omega, h1, HL.out.setCell (Nat.le_refl _) _⟩
    · have hi' : decide (i < n) = false := by simp; omega
      have hi'' : decide ((i : Int) < (n : Int)) = false := by simp; omega
      obtain rfl : i = n := by omega
      clear hi
      have hcv : (convert 52 9 (.slice (some ⟨w.heap.size, 0, none⟩) i i)).run Try.prog wr = .ok (.string (strB i (rise by_))) wr :=
        run_convert_row wr _ _ _ Try.underlying52 Try.underlying5 Try.underlying9 _ _ _ _ (rise by_) (fun j hj => by
          rw [Nat.zero_add, HB.out.at hj]
          simp only [u8s, riseA]
          rw [if_pos hj])
      go_wp2_with fail
      go_ret
      exact ⟨rfl, HL.out⟩
theorem make32 (w : World) : (Instr.makeSlice 52 (.int .i64 32) (.int .i64 32)).run Try.prog w = .ok (.slice (some ⟨w.heap.size, 0, none⟩) 32 32) (w.alloc (.cells (row 32 (u8s fun _ => 0#8)) 5)) := by kernel_rfl
theorem make16 (w : World) : (Instr.makeSlice 52 (.int .i64 16) (.int .i64 16)).run Try.prog w = .ok (.slice (some ⟨w.heap.size, 0, none⟩) 16 16) (w.alloc (.cells (row 16 (u8s fun _ => 0#8)) 5)) := by kernel_rfl
theorem rising32 (w : World) : Calls Try.prog 21 #[.int .i64 32, .int .i64 1] w fun e w' => e = .returned (.string (strB 32 (rise 1))) ∧ Below w.heap.size w w' := rising_any 32 1 (by omega) (by omega) make32 w
theorem rising16 (w : World) : Calls Try.prog 21 #[.int .i64 16, .int .i64 17] w fun e w' => e = .returned (.string (strB 16 (rise 17))) ∧ Below w.heap.size w w' := rising_any 16 17 (by omega) (by omega) make16 w
theorem Eq16_sbyte (f : St) : Eq16 (sbyte (strB 16 f)) f := fun i hi => sbyte_strB f hi
theorem dec_enc_str (kf : St) (s : ByteArray) (hs : s.size = 16) : strB 16 (decS kf (sbyte (strB 16 (encS kf (sbyte s))))) = s := by
  conv => rhs; rw [strB_of_size hs]
  exact strB_congr (fun i hi => ((dec_congr kf (Eq16_sbyte _)).trans (dec_enc kf _)) i hi)
theorem enc_dec_str (kf : St) (s : ByteArray) (hs : s.size = 16) : strB 16 (encS kf (sbyte (strB 16 (decS kf (sbyte s))))) = s := by
  conv => rhs; rw [strB_of_size hs]
  exact strB_congr (fun i hi => ((enc_congr kf (Eq16_sbyte _)).trans (enc_dec kf _)) i hi)
def cipher : ByteArray := ⟨#[142, 162, 183, 202, 81, 103, 69, 191, 234, 252, 73, 144, 75, 73, 96, 137]⟩
theorem enc_rise : strB 16 (encS (kfun (sbyte (strB 32 (rise 1)))) (sbyte (strB 16 (rise 17)))) = cipher :=
  enc_lit _ (fun c hc => kfun_kl _ (fun c hc => sbyte_strB _ hc) c hc) _ (fun i hi => sbyte_strB _ hi)
theorem dec_rise : strB 16 (decS (kfun (sbyte (strB 32 (rise 1)))) (sbyte cipher)) = strB 16 (rise 17) := by
  rw [← enc_rise]
  exact dec_enc_str _ _ (strB_size _ _)
theorem box83 (w : World) : Calls Try.prog 15 #[.int .u8 83] w fun e w' => e = .returned (.int .u8 237) ∧ Below w.heap.size w w' := by
  have h := box_any 83#8 w
  rw [sb_83] at h
  exact h
theorem KeyAt.later {w w' : World} {g : Nat} {kf : St} (hb : Below w.heap.size w w') (h : KeyAt w g kf) : KeyAt w' g kf := W.later hb h
abbrev key1 : St := kfun (sbyte (strB 32 (rise 1)))
theorem enc_rise_any (g : Nat) (w : World) (hk : KeyAt w g key1) : Calls Try.prog 10 #[.pointer (some ⟨g, 0, none⟩), .string (strB 16 (rise 17))] w fun e w' => e = .returned (.tuple #[.string ⟨#[142, 162, 183, 202, 81, 103, 69, 191, 234, 252, 73, 144, 75, 73, 96, 137]⟩, .int .i64 0]) ∧ Below w.heap.size w w' := by
  have h := encrypt_ok g _ _ (strB_size 16 (rise 17)) w hk
  rw [enc_rise] at h
  exact h
theorem dec_rise_any (g : Nat) (w : World) (hk : KeyAt w g key1) : Calls Try.prog 14 #[.pointer (some ⟨g, 0, none⟩), .string ⟨#[142, 162, 183, 202, 81, 103, 69, 191, 234, 252, 73, 144, 75, 73, 96, 137]⟩] w fun e w' => e = .returned (.tuple #[.string (strB 16 (rise 17)), .int .i64 0]) ∧ Below w.heap.size w w' := by
  have h := decrypt_ok g _ cipher rfl w hk
  rw [dec_rise] at h
  exact h
set_option maxRecDepth 100000 in
set_option maxHeartbeats 1000000 in
theorem awake_any (w : World) : Calls Try.prog 11 #[] w fun e w' => e = .returned (.bool true) ∧ Below w.heap.size w w' := by
  go_enter Try.func11, Try.ntmps11
  go_upto_region 2 with (first
    | (go_at_call 21; (with_reducible refine (rising32 _).mono ?_); rintro e w1 ⟨rfl, hb⟩; have HB1 := hide hb; clear hb)
    | (go_at_call 8; (with_reducible refine (new_ok _ (strB_size _ _) _).mono ?_); rintro e w2 ⟨rfl, hk, hb⟩; have HK2 := hide hk; have HB2 := hide (HB1.out.trans (hb.mono HB1.out.size)); clear hb hk))
  have HG := HK2.out.lt
  generalize w1.heap.size = g at HK2 HG ⊢
  have HS2 := hide HB2.out.size
  go_wp2_with (first
    | (go_at_call 10; (with_reducible refine (enc_rise_any g _ (KeyAt.later HB3.out.2 HK2.out)).mono ?_); rintro e w4 ⟨rfl, hb⟩; have HB4 := hide (HB3.out.2.trans (hb.mono HB3.out.2.size)); clear hb)
    | (go_at_call 14; (with_reducible refine (dec_rise_any g _ (KeyAt.later HB4.out HK2.out)).mono ?_); rintro e w5 ⟨rfl, hb⟩; have HB5 := hide (HB4.out.trans (hb.mono HB4.out.size)); clear hb)
    | (go_at_call 15; (with_reducible refine (box83 _).mono ?_); rintro e w7 ⟨rfl, hb⟩; have HB7 := hide (HB6.out.trans (hb.mono HB6.out.size)); clear hb)
    | (go_at_call 21; (with_reducible refine (rising16 _).mono ?_); rintro e w6 ⟨rfl, hb⟩; have HB6 := hide (HB5.out.trans (hb.mono HB5.out.size)); clear hb)
    | (go_at_call 21; (with_reducible refine (rising16 _).mono ?_); rintro e w3 ⟨rfl, hb⟩; have HB3 : Hid (True ∧ Below w2.heap.size w2 w3) := hide ⟨trivial, hb⟩; clear hb))
  go_ret
  exact ⟨rfl, HB2.out.trans (HB7.out.mono HB2.out.size)⟩
end Go.Proofs.Ytpehjdigbohfkaa.Ae
