/- The law of tally's counts, walked. -/
import Derived.Test.YtmkhicaaemghiaaTallyLaws
namespace Go.Proofs.Ytmkhicaaemghiaa.Ta
open Go.RowKit Go.Proofs.Ytmkhicaaemghiaa.W Go.Proofs.Ytmkhicaaemghiaa.Fl
set_option linter.unusedVariables false
set_option linter.unusedSimpArgs false

theorem ActsAt.draw {w : World} {B n : Nat} {A : Option Addr} {F : Nat → Nat → Value} {K : Nat → Int} (h : ActsAt w B A n F K) (q : Nat) : ActsAt (w.drewN q) B A n F K := ⟨h.holds.same rfl, h.kind, h.one⟩
theorem ToldAt.draw {w : World} {B n : Nat} {A : Option Addr} {F : Nat → Nat → Value} {E : Nat → Int} {S : Nat → ByteArray} (h : ToldAt w B A n F E S) (q : Nat) : ToldAt (w.drewN q) B A n F E S := ⟨h.holds.same rfl, h.err, h.text, h.one⟩
theorem below_same {B : Nat} {a b c : World} (h : Below B a b) (e1 : c.heap = b.heap) (e2 : c.os = b.os) (e3 : c.tape = b.tape) (e4 : c.output = b.output) : Below B a c :=
  ⟨e2.trans h.os, e3.trans h.tape, e4.trans h.output, by rw [e1]; exact h.size, by rw [e1]; exact h.block⟩
def TurnsRel (W : World) (m : Nat) (k : Nat) (s : Value) (wr : World) : Prop := ∃ i : Nat, s = .int .i64 (i : Int) ∧ i + k = m ∧ Below W.heap.size W wr

set_option maxRecDepth 100000 in
set_option maxHeartbeats 4000000 in
theorem counts_walk (n m c d l : Nat) (A B : Option Addr) (F G : Nat → Nat → Value) (K E : Nat → Int) (S : Nat → ByteArray) (w : World)
    (hA : ActsAt w w.heap.size A n F K) (hB : ToldAt w w.heap.size B m G E S) (hl : l = min n m) (hl2 : l < 140737488355328) (hn : n ≤ maxLen) (hm : m ≤ maxLen) :
    Calls Try.prog 3 #[.slice A n c, .slice B m d] w fun e w' => e = .returned (.bool true) ∧ Below w.heap.size w w' := by
  have HOf := hide (of_any n m c d l A B F G K E S w hA hB hl hl2 hn hm)
  have HA := hide hA
  have HB := hide hB
  clear hA hB
  have hz := zero_tally
  have hln : l ≤ n := by omega
  have hlm : l ≤ m := by omega
  obtain ⟨nn0, hnn⟩ : ∃ x, x = n := ⟨_, rfl⟩
  obtain ⟨mm0, hmm⟩ : ∃ x, x = m := ⟨_, rfl⟩
  have hcase : (m < n ∧ l = m) ∨ (decide (m < n) = false ∧ l = n) := by
    rcases Nat.lt_or_ge m n with h | h
    · exact .inl ⟨h, by omega⟩
    · exact .inr ⟨by simp; omega, by omega⟩
  clear hl hnn hmm
  rcases hcase with ⟨hmn, rfl⟩ | ⟨hmn, rfl⟩
  all_goals
    go_enter Try.func3, Try.ntmps3
    go_upto_region 3 with (first
      | (go_at_call 7; refine HOf.out.mono ?_; rintro e w' ⟨⟨br, bi, hr, hi, rfl⟩, hb1⟩; unfold tallyV; have HR := hide hr; have HI := hide hi; clear hr hi)
      | (with_reducible refine wpList_store_all rfl 28 (.tmp 6) (.tmp 19) rfl w'.heap.size rfl 28 58 _ _ rfl (Blk.newAt w' _ _ _ rfl) (by kernel_rfl) (fun j _ => tcell_one _ _ _ _ _ j) ?_))
    have hsz := hb1.size
    have hbW := hb1.alloc hsz (.cells (row 58 zero58) 28)
    obtain ⟨fK, hfK⟩ : ∃ f, (fun c => cnt (fun i => slotK (K i)) l c) = f := ⟨_, rfl⟩
    obtain ⟨fE, hfE⟩ : ∃ f, (fun c => cnt (fun i => slotE (E i)) l c) = f := ⟨_, rfl⟩
    obtain ⟨y, hy⟩ : ∃ y, byts K E (fun i => (S i).size) l = y := ⟨_, rfl⟩
    have e1 : (fun c => (cnt (fun i => slotK (K i)) l c : Int)) = nn fK := by rw [← hfK]; rfl
    have e2 : (fun c => (cnt (fun i => slotE (E i)) l c : Int)) = nn fE := by rw [← hfE]; rfl
    rw [e1, e2, hy]
    generalize hW : World.setRow _ _ _ = W
    have hBW : Blk W w'.heap.size 28 (row 58 (tcell (nn fK) (nn fE) y br bi)) := by
      rw [← hW]
      exact (Blk.newAt w' _ _ _ rfl).row_ _
    have hbW2 : Below w.heap.size w W := by
      rw [← hW]
      exact below_setRow hbW (by omega) _
    have HBW := hide hBW
    have HB2 := hide hbW2
    have HAW := hide (HA.out.below hbW2)
    have HTW := hide (HB.out.below hbW2)
    have hwW := hbW2.size
    have gW := hBW.lt
    have HFK := hide hfK
    have HFE := hide hfE
    have HY := hide hy
    clear hW hBW hbW2 hbW hsz hb1 hfK hfE hy e1 e2
    go_wp2_with fail
    go_loopg [7] 24 (fun k s7 wr => TurnsRel W 24 k s7 wr)
    case atStart => exact ⟨0, rfl, rfl, Below.refl _ _⟩
    case round =>
      obtain ⟨k, rfl, hk, hb⟩ := hrel
      have HBr := hide hb
      have hAr := HAW.out.below (hb.mono hwW)
      have hbr := HBW.out.below hb gW
      by_cases hk4 : k < 24
      · have ck := hbr.at (i := k) (by omega)
        rw [tcell_act _ _ _ _ _ hk4] at ck
        have hv : nn fK k = (cnt (fun i => slotK (K i)) l k : Int) := by rw [← HFK.out]; rfl
        rw [hv] at ck
        obtain ⟨x, hx⟩ : ∃ x, cnt (fun i => slotK (K i)) l k = x := ⟨_, rfl⟩
        have HKn := hide (fun q => kinds_any _ c l k A F K w.heap.size (wr.drewN q) (hAr.draw q) (by omega) hk4 (by omega))
        rw [hx] at ck HKn
        have hgk : 0 < gk := by omega
        have hk4' : (k : Int) < 24 := by omega
        clear hv hx hb hAr hbr
        go_wp2_with fail
        go_quiet ((go_at_call 8; with_reducible exact Calls.quiet_of_same (flipped (HKn.out _))))
        go_wp2_with fail
        go_roundg (gk - 1)
        case measure => omega
        case rel => exact ⟨k + 1, by go_num, by omega, below_same HBr.out rfl rfl rfl rfl⟩
      · have t1 : decide (k < 24) = false := by simp; omega
        have t2 : decide ((k : Int) < 24) = false := by simp; omega
        clear hb hAr hbr hk4
        go_wp2_with fail
        go_loopg [8] 32 (fun k s8 wr => TurnsRel W 32 k s8 wr)
        case atStart => exact ⟨0, rfl, rfl, HBr.out⟩
        case round =>
          clear HBr t1 t2
          obtain ⟨j, rfl, hj, hb⟩ := hrel
          have HBr := hide hb
          have hAr := HTW.out.below (hb.mono hwW)
          have hbr := HBW.out.below hb gW
          by_cases hj4 : j < 32
          · have ck := hbr.at (i := 24 + j) (by omega)
            rw [tcell_err _ _ _ _ _ hj4] at ck
            have hv : nn fE j = (cnt (fun i => slotE (E i)) l j : Int) := by rw [← HFE.out]; rfl
            rw [hv] at ck
            obtain ⟨x, hx⟩ : ∃ x, cnt (fun i => slotE (E i)) l j = x := ⟨_, rfl⟩
            have HKn := hide (fun q => errors_any _ d l j B G E S w.heap.size (wr.drewN q) (hAr.draw q) (by omega) hj4 (by omega))
            rw [hx] at ck HKn
            have hgk : 0 < gk := by omega
            have hj4' : (j : Int) < 32 := by omega
            clear hv hx hb hAr hbr
            go_wp2_with fail
            go_quiet ((go_at_call 9; with_reducible exact Calls.quiet_of_same (flipped (HKn.out _))))
            go_wp2_with fail
            go_roundg (gk - 1)
            case measure => omega
            case rel => exact ⟨j + 1, by go_num, by omega, below_same HBr.out rfl rfl rfl rfl⟩
          · have t1 : decide (j < 32) = false := by simp; omega
            have t2 : decide ((j : Int) < 32) = false := by simp; omega
            have hAr2 := HAW.out.below (hb.mono hwW)
            have HRd := hide (reads_any _ _ c d l A B F G K E S w.heap.size wr hAr2 hAr (by omega) (by omega) hl2)
            have HBr2 := hide hbr
            have HB3 := hide (HB2.out.trans (hb.mono hwW))
            rw [HY.out] at HRd
            have hsum : psum fK 24 = l := by rw [← HFK.out]; exact psum_cnt _ 24 (fun i => slotK_lt _) l
            obtain ⟨re, hre⟩ : ∃ x, beatR K E l = x := ⟨_, rfl⟩
            obtain ⟨im, him⟩ : ∃ x, beatI K E l = x := ⟨_, rfl⟩
            have b1 := beatR_le K E l
            have b2 := beatI_le K E l
            have o1 := order_eq HR.out (V_ofInt (beatR K E l) (by omega)) rfl
            have o2 := order_eq HI.out (V_ofInt (beatI K E l) (by omega)) rfl
            rw [hre] at o1 HRd
            rw [him] at o2 HRd
            have HMany := hide (fun W4 => many_any fK fE y br bi W4 (by rw [hsum]; omega))
            rw [hsum] at HMany
            clear hb hAr hbr hj4 hAr2 hsum hre him b1 b2
            go_wp2_with (first
              | (go_at_call 10; refine HRd.out.mono ?_; rintro e w3 ⟨rfl, rfl⟩)
              | (go_at_call 11; refine (awake_any _).mono ?_; rintro e w4 ⟨rfl, hb4⟩; have hbk := later hb4 HBr2.out; have c56 := hbk.at (i := 56) (by omega); have c57 := hbk.at (i := 57) (by omega); rw [tcell_bytes] at c56; rw [tcell_beat] at c57; have HBK := hide hbk; clear hbk)
              | (refine wpList_load_met 28 (.tmp 6) rfl (by rfl) w'.heap.size rfl 28 _ _ HBK.out rfl Try.underlying28 (by rw [row_size]; kernel_rfl) ?_)
              | (go_at_call 12; refine (HMany.out _).mono ?_; rintro e w5 ⟨rfl, hb5⟩))
            go_ret
            exact ⟨rfl, (HB3.out.trans (hb4.mono HB3.out.size)).trans (hb5.mono (HB3.out.trans (hb4.mono HB3.out.size)).size)⟩
end Go.Proofs.Ytmkhicaaemghiaa.Ta
