/- The law of tally's rates, walked. -/
import Derived.Test.YtmkhicaaemghiaaTallyCountsLaw
namespace Go.Proofs.Ytmkhicaaemghiaa.Ta
open Go.RowKit Go.Proofs.Ytmkhicaaemghiaa.W Go.Proofs.Ytmkhicaaemghiaa.Fl
set_option linter.unusedVariables false
set_option linter.unusedSimpArgs false

def BestRel (W : World) (e : Nat → Nat) (k : Nat) (s10 s11 s12 : Value) (wr : World) : Prop :=
  ∃ i : Nat, s10 = .int .i64 ((wst e i).2 : Int) ∧ s11 = .int .i64 ((wst e i).1 : Int) ∧ s12 = .int .i64 (i : Int) ∧ i + k = 32 ∧ 1 ≤ i ∧ Below W.heap.size W wr

set_option maxRecDepth 100000 in
set_option maxHeartbeats 4000000 in
theorem rates_walk (n m c d l : Nat) (A B : Option Addr) (F G : Nat → Nat → Value) (K E : Nat → Int) (S : Nat → ByteArray) (w : World)
    (hA : ActsAt w w.heap.size A n F K) (hB : ToldAt w w.heap.size B m G E S) (hl : l = min n m) (hl2 : l < 140737488355328) (hn : n ≤ maxLen) (hm : m ≤ maxLen) :
    Calls Try.prog 4 #[.slice A n c, .slice B m d] w fun e w' => e = .returned (.bool true) ∧ Below w.heap.size w w' := by
  have HOf := hide (of_any n m c d l A B F G K E S w hA hB hl hl2 hn hm)
  have HA := hide hA
  have HB := hide hB
  clear hA hB
  have hz := zero_tally
  have hln : l ≤ n := by omega
  have hlm : l ≤ m := by omega
  obtain ⟨nn0, hnn⟩ : ∃ x, x = n := ⟨_, rfl⟩
  obtain ⟨mm0, hmm⟩ : ∃ x, x = m := ⟨_, rfl⟩
  have hcase : (m < n ∧ l = m) ∨ (decide (m < n) = false ∧ l = n) := by
    rcases Nat.lt_or_ge m n with h | h
    · exact .inl ⟨h, by omega⟩
    · exact .inr ⟨by simp; omega, by omega⟩
  clear hl hnn hmm
  rcases hcase with ⟨hmn, rfl⟩ | ⟨hmn, rfl⟩
  all_goals
    go_enter Try.func4, Try.ntmps4
    go_upto_region 3 with (first
      | (go_at_call 7; refine HOf.out.mono ?_; rintro e w' ⟨⟨br, bi, hr, hi, rfl⟩, hb1⟩; unfold tallyV; have HR := hide hr; have HI := hide hi; clear hr hi)
      | (with_reducible refine wpList_store_all rfl 28 (.tmp 6) (.tmp 21) rfl w'.heap.size rfl 28 58 _ _ rfl (Blk.newAt w' _ _ _ rfl) (by kernel_rfl) (fun j _ => tcell_one _ _ _ _ _ j) ?_))
    have hsz := hb1.size
    have hbW := hb1.alloc hsz (.cells (row 58 zero58) 28)
    obtain ⟨fK, hfK⟩ : ∃ f, (fun c => cnt (fun i => slotK (K i)) l c) = f := ⟨_, rfl⟩
    obtain ⟨fE, hfE⟩ : ∃ f, (fun c => cnt (fun i => slotE (E i)) l c) = f := ⟨_, rfl⟩
    obtain ⟨y, hy⟩ : ∃ y, byts K E (fun i => (S i).size) l = y := ⟨_, rfl⟩
    have e1 : (fun c => (cnt (fun i => slotK (K i)) l c : Int)) = nn fK := by rw [← hfK]; rfl
    have e2 : (fun c => (cnt (fun i => slotE (E i)) l c : Int)) = nn fE := by rw [← hfE]; rfl
    rw [e1, e2, hy]
    generalize hW : World.setRow _ _ _ = W
    have hBW : Blk W w'.heap.size 28 (row 58 (tcell (nn fK) (nn fE) y br bi)) := by
      rw [← hW]
      exact (Blk.newAt w' _ _ _ rfl).row_ _
    have hbW2 : Below w.heap.size w W := by
      rw [← hW]
      exact below_setRow hbW (by omega) _
    have HBW := hide hBW
    have HB2 := hide hbW2
    have HAW := hide (HA.out.below hbW2)
    have HTW := hide (HB.out.below hbW2)
    have hwW := hbW2.size
    have gW := hBW.lt
    have HFK := hide hfK
    have HFE := hide hfE
    have HY := hide hy
    clear hW hBW hbW2 hbW hsz hb1 hfK hfE hy e1 e2
    have HErr := hide (fun k (hk : k < 32) W' (hb : Below W.heap.size W W') => errors_any _ d l k B G E S w.heap.size W' (HTW.out.below (hb.mono hwW)) (by omega) hk (by omega))
    have hEe : ∀ k, cnt (fun i => slotE (E i)) l k = fE k := fun k => by rw [← HFE.out]
    have hs : psum fE 32 = l := by rw [← HFE.out]; exact psum_cnt _ 32 (fun i => slotE_lt _) l
    have h0l : fE 0 ≤ l := by rw [← HFE.out]; exact cnt_le _ _ _
    have HRt := hide (fun W4 => rate_any fK fE y br bi l W4 hs (by omega) h0l)
    have HWs := hide (fun W4 => worst_any fK fE y br bi W4)
    have HEe := hide hEe
    have e0 := HErr.out 0 (by omega) W (Below.refl _ _)
    rw [hEe] at e0
    have HE0 := hide e0
    obtain ⟨x, hx⟩ : ∃ x, fE 0 = x := ⟨_, rfl⟩
    rw [hx] at h0l HRt HE0
    obtain ⟨rt, hrt⟩ : ∃ r : Int, r = (if l = 0 then 0 else 100 * (x : Int) / (l : Int)) := ⟨_, rfl⟩
    rw [← hrt] at HRt
    clear hEe e0 hs hx
    by_cases hl0 : l = 0
    · have t0 : decide (0 < l) = false := by simp; omega
      have t0' : decide ((0 : Int) < (l : Int)) = false := by simp; omega
      rw [if_pos hl0] at hrt
      have HQ := hide hrt
      clear hl0 hrt
      go_wp2_with (first
        | (go_at_call 9; refine HE0.out.mono ?_; rintro e w3 ⟨rfl, rfl⟩)
        | (refine wpList_load_met 28 (.tmp 6) rfl (by rfl) w'.heap.size rfl 28 _ _ HBW.out rfl Try.underlying28 (by rw [row_size]; kernel_rfl) ?_)
        | (go_at_call 13; refine (HWs.out _).mono ?_; rintro e w5 ⟨rfl, hb5⟩))
      have HB5 := hide hb5
      have HB6 := hide (HB2.out.trans (hb5.mono hwW))
      have HBK5 := hide (later hb5 HBW.out)
      clear hb5
      go_loopg [10, 11, 12] 31 (fun k s10 s11 s12 wr => BestRel w5 fE k s10 s11 s12 wr)
      case atStart => exact ⟨1, rfl, rfl, rfl, rfl, Nat.le_refl _, Below.refl _ _⟩
      case round =>
        obtain ⟨i, rfl, rfl, rfl, hk, h1, hb⟩ := hrel
        have HBr := hide hb
        have hbW : Below W.heap.size W wr := HB5.out.trans (hb.mono HB5.out.size)
        by_cases hi : i < 32
        · have hst : wst fE (i + 1) = if (wst fE i).2 < fE i then (i, fE i) else wst fE i := by rw [wst, if_neg (by omega)]
          have e1 := HErr.out i hi wr hbW
          rw [HEe.out] at e1
          obtain ⟨a, ha⟩ : ∃ a, (wst fE i).1 = a := ⟨_, rfl⟩
          obtain ⟨b, hbb⟩ : ∃ b, (wst fE i).2 = b := ⟨_, rfl⟩
          obtain ⟨z, hz'⟩ : ∃ z, fE i = z := ⟨_, rfl⟩
          rw [hz'] at e1 hst
          rw [hbb] at hst
          rw [ha, hbb]
          have HA' := hide ha
          have HBb := hide hbb
          have HE1 := hide e1
          have hi' : (i : Int) < 32 := by omega
          have hgk : 0 < gk := by omega
          clear hb hbW
          by_cases hlt : b < z
          · rw [if_pos hlt] at hst
            have HST := hide hst
            clear hst hz' ha hbb e1
            go_wp2_with (first
              | (go_at_call 9; refine HE1.out.mono ?_; rintro e w3 ⟨rfl, rfl⟩))
            go_roundg (gk - 1)
            case measure => omega
            case rel => exact ⟨i + 1, by rw [HST.out], by rw [HST.out], by go_num, by omega, by omega, HBr.out⟩
          · rw [if_neg hlt] at hst
            have HST := hide hst
            have hlt' : decide (b < z) = false := by simpa using hlt
            clear hst hz' ha hbb hlt e1
            go_wp2_with (first
              | (go_at_call 9; refine HE1.out.mono ?_; rintro e w3 ⟨rfl, rfl⟩))
            go_roundg (gk - 1)
            case measure => omega
            case rel => exact ⟨i + 1, by rw [HST.out, HBb.out], by rw [HST.out, HA'.out], by go_num, by omega, by omega, HBr.out⟩
        · have hi' : decide (i < 32) = false := by simp; omega
          have hi'' : decide ((i : Int) < 32) = false := by simp; omega
          have hi3 : i = 32 := by omega
          have HBK6 := hide (later hb HBK5.out)
          have HB7 := hide (HB6.out.trans (hb.mono HB6.out.size))
          subst hi3
          obtain ⟨a, ha⟩ : ∃ a, (wst fE 32).1 = a := ⟨_, rfl⟩
          obtain ⟨b, hbb⟩ : ∃ b, (wst fE 32).2 = b := ⟨_, rfl⟩
          have sz5 := HB7.out.size
          clear hi hb hbW
          go_wp2_with (first
            | (go_at_call 11; refine (awake_any _).mono ?_; rintro e w6 ⟨rfl, hb6⟩; have HBK7 := hide (later hb6 HBK6.out))
            | (refine wpList_load_met 28 (.tmp 6) rfl (by rfl) w'.heap.size rfl 28 _ _ HBK7.out rfl Try.underlying28 (by rw [row_size]; kernel_rfl) ?_)
            | (go_at_call 14; refine (HRt.out _).mono ?_; rintro e w7 ⟨rfl, hb7⟩))
          go_ret
          exact ⟨by first | rfl | (rw [HQ.out]; rfl), (HB7.out.trans (hb6.mono HB7.out.size)).trans (hb7.mono (HB7.out.trans (hb6.mono HB7.out.size)).size)⟩
    · have t0 : decide (0 < l) = true := by simp; omega
      have t0' : decide ((0 : Int) < (l : Int)) = true := by simp; omega
      have t0'' : (0 : Int) < (l : Int) := by omega
      rw [if_neg hl0] at hrt
      have hq : 100 * (x : Int) / (l : Int) = rt := hrt.symm
      have HQ := hide hq
      clear hl0 hq hrt
      go_wp2_with (first
        | (go_at_call 9; refine HE0.out.mono ?_; rintro e w3 ⟨rfl, rfl⟩)
        | (refine wpList_load_met 28 (.tmp 6) rfl (by rfl) w'.heap.size rfl 28 _ _ HBW.out rfl Try.underlying28 (by rw [row_size]; kernel_rfl) ?_)
        | (go_at_call 13; refine (HWs.out _).mono ?_; rintro e w5 ⟨rfl, hb5⟩))
      have HB5 := hide hb5
      have HB6 := hide (HB2.out.trans (hb5.mono hwW))
      have HBK5 := hide (later hb5 HBW.out)
      clear hb5
      go_loopg [10, 11, 12] 31 (fun k s10 s11 s12 wr => BestRel w5 fE k s10 s11 s12 wr)
      case atStart => exact ⟨1, rfl, rfl, rfl, rfl, Nat.le_refl _, Below.refl _ _⟩
      case round =>
        obtain ⟨i, rfl, rfl, rfl, hk, h1, hb⟩ := hrel
        have HBr := hide hb
        have hbW : Below W.heap.size W wr := HB5.out.trans (hb.mono HB5.out.size)
        by_cases hi : i < 32
        · have hst : wst fE (i + 1) = if (wst fE i).2 < fE i then (i, fE i) else wst fE i := by rw [wst, if_neg (by omega)]
          have e1 := HErr.out i hi wr hbW
          rw [HEe.out] at e1
          obtain ⟨a, ha⟩ : ∃ a, (wst fE i).1 = a := ⟨_, rfl⟩
          obtain ⟨b, hbb⟩ : ∃ b, (wst fE i).2 = b := ⟨_, rfl⟩
          obtain ⟨z, hz'⟩ : ∃ z, fE i = z := ⟨_, rfl⟩
          rw [hz'] at e1 hst
          rw [hbb] at hst
          rw [ha, hbb]
          have HA' := hide ha
          have HBb := hide hbb
          have HE1 := hide e1
          have hi' : (i : Int) < 32 := by omega
          have hgk : 0 < gk := by omega
          clear hb hbW
          by_cases hlt : b < z
          · rw [if_pos hlt] at hst
            have HST := hide hst
            clear hst hz' ha hbb e1
            go_wp2_with (first
              | (go_at_call 9; refine HE1.out.mono ?_; rintro e w3 ⟨rfl, rfl⟩))
            go_roundg (gk - 1)
            case measure => omega
            case rel => exact ⟨i + 1, by rw [HST.out], by rw [HST.out], by go_num, by omega, by omega, HBr.out⟩
          · rw [if_neg hlt] at hst
            have HST := hide hst
            have hlt' : decide (b < z) = false := by simpa using hlt
            clear hst hz' ha hbb hlt e1
            go_wp2_with (first
              | (go_at_call 9; refine HE1.out.mono ?_; rintro e w3 ⟨rfl, rfl⟩))
            go_roundg (gk - 1)
            case measure => omega
            case rel => exact ⟨i + 1, by rw [HST.out, HBb.out], by rw [HST.out, HA'.out], by go_num, by omega, by omega, HBr.out⟩
        · have hi' : decide (i < 32) = false := by simp; omega
          have hi'' : decide ((i : Int) < 32) = false := by simp; omega
          have hi3 : i = 32 := by omega
          have HBK6 := hide (later hb HBK5.out)
          have HB7 := hide (HB6.out.trans (hb.mono HB6.out.size))
          subst hi3
          obtain ⟨a, ha⟩ : ∃ a, (wst fE 32).1 = a := ⟨_, rfl⟩
          obtain ⟨b, hbb⟩ : ∃ b, (wst fE 32).2 = b := ⟨_, rfl⟩
          have sz5 := HB7.out.size
          have tq : (rt == 100 * (x : Int) / (l : Int)) = true := by rw [HQ.out]; simp
          clear hi hb hbW
          go_wp2_with (first
            | (go_at_call 11; refine (awake_any _).mono ?_; rintro e w6 ⟨rfl, hb6⟩; have HBK7 := hide (later hb6 HBK6.out))
            | (refine wpList_load_met 28 (.tmp 6) rfl (by rfl) w'.heap.size rfl 28 _ _ HBK7.out rfl Try.underlying28 (by rw [row_size]; kernel_rfl) ?_)
            | (go_at_call 14; refine (HRt.out _).mono ?_; rintro e w7 ⟨rfl, hb7⟩))
          go_ret
          exact ⟨by first | rfl | (have hq := HQ.out; simp [hq]), (HB7.out.trans (hb6.mono HB7.out.size)).trans (hb7.mono (HB7.out.trans (hb6.mono HB7.out.size)).size)⟩
end Go.Proofs.Ytmkhicaaemghiaa.Ta
