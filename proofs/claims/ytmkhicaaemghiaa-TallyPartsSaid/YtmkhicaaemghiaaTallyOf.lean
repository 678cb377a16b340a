/- The contract of tally.Of. -/
import Derived.Test.YtmkhicaaemghiaaTallyCount
import Derived.Laws.CopyOwn
namespace Go.Proofs.Ytmkhicaaemghiaa.Ta
open Go.RowKit Go.Proofs.Ytmkhicaaemghiaa.W Go.Proofs.Ytmkhicaaemghiaa.Fl
set_option linter.unusedVariables false
set_option linter.unusedSimpArgs false

theorem ActsAt.below {w w' : World} {B n : Nat} {A : Option Addr} {F : Nat → Nat → Value} {K : Nat → Int} (h : ActsAt w B A n F K) (hb : Below B w w') : ActsAt w' B A n F K := ⟨h.holds.below hb, h.kind, h.one⟩
theorem ToldAt.below {w w' : World} {B n : Nat} {A : Option Addr} {F : Nat → Nat → Value} {E : Nat → Int} {S : Nat → ByteArray} (h : ToldAt w B A n F E S) (hb : Below B w w') : ToldAt w' B A n F E S := ⟨h.holds.below hb, h.err, h.text, h.one⟩

theorem tcell_one (xs es : Nat → Int) (by_ : Int) (br bi c : Nat) : (tcell xs es by_ br bi c).oneCell' = true := by
  unfold tcell
  split <;> (try split) <;> (try split) <;> rfl
/-- A tally as a value. -/
def tallyV (K E : Nat → Int) (S : Nat → ByteArray) (n br bi : Nat) : Value :=
  .agg (row 58 (tcell (fun c => (cnt (fun i => slotK (K i)) n c : Int)) (fun c => (cnt (fun i => slotE (E i)) n c : Int)) (byts K E (fun i => (S i).size) n) br bi))
def zero58 : Nat → Value := tcell (fun _ => 0) (fun _ => 0) 0 0 0
def OfRel (w : World) (A B : Option Addr) (n m c d : Nat) (K E : Nat → Int) (S : Nat → ByteArray) (l : Nat) (k : Nat) (s14 : Value) (wr : World) : Prop :=
  ∃ i : Nat, s14 = .int .i64 (i : Int) ∧ i + k = l ∧ Blk wr w.heap.size 22 #[.slice A n c] ∧ Blk wr (w.heap.size + 1) 23 #[.slice B m d] ∧ Blk wr (w.heap.size + 2) 28 (row 58 zero58) ∧
    TallyBlk wr (w.heap.size + 3) K E S i ∧ Below w.heap.size w wr

set_option maxRecDepth 100000 in
set_option maxHeartbeats 4000000 in
theorem of_any (n m c d l : Nat) (A B : Option Addr) (F G : Nat → Nat → Value) (K E : Nat → Int) (S : Nat → ByteArray) (w : World)
    (hA : ActsAt w w.heap.size A n F K) (hB : ToldAt w w.heap.size B m G E S) (hl : l = min n m) (hl2 : l < 140737488355328) (hn : n ≤ maxLen) (hm : m ≤ maxLen) :
    Calls Try.prog 7 #[.slice A n c, .slice B m d] w fun e w' => (∃ br bi, V br (beatR K E l) ∧ V bi (beatI K E l) ∧ e = .returned (tallyV K E S l br bi)) ∧ Below w.heap.size w w' := by
  have HA := hide hA
  have HB := hide hB
  clear hA hB
  have hmf : ∀ (fn : Fn) (first cap : Array Value) (w : World), (Instr.makeFunc fn first cap).run Try.prog w = .ok (.func fn first cap) w := fun _ _ _ _ => rfl
  have hz : ∀ w, (zeroValue 28).run Try.prog w = .ok (.agg (row 58 zero58)) w := fun w => by kernel_rfl
  have hln : l ≤ n := by omega
  have hlm : l ≤ m := by omega
  have hcase : (m < n ∧ l = m) ∨ (decide (m < n) = false ∧ l = n) := by
    rcases Nat.lt_or_ge m n with h | h
    · exact .inl ⟨h, by omega⟩
    · exact .inr ⟨by simp; omega, by omega⟩
  clear hl
  rcases hcase with ⟨hmn, rfl⟩ | ⟨hmn, rfl⟩
  all_goals
    go_enter Try.func7, Try.ntmps7
    go_wp2_with fail
    go_loopg [14] l (fun k s14 wr => OfRel w A B _ _ c d K E S l k s14 wr)
    case atStart =>
      refine ⟨0, rfl, by omega, ?_, ?_, ?_, ⟨0, 0, V_zero, V_zero, ?_⟩, ?_⟩
      · exact (((Blk.newAt w _ _ _ rfl).alloc _).alloc _).alloc _
      · exact ((Blk.newAt (w.alloc _) _ _ _ (by simp)).alloc _).alloc _
      · exact (Blk.newAt ((w.alloc _).alloc _) _ _ _ (by simp)).alloc _
      · exact Blk.newAt (((w.alloc _).alloc _).alloc _) _ _ _ (by simp)
      · exact ((((Below.refl _ _).alloc (Nat.le_refl _) _).alloc (by simp) _).alloc (by simp; omega) _).alloc (by simp; omega) _
    case round =>
      obtain ⟨i, rfl, hk, h0, h1, h2, h3, hb⟩ := hrel
      have H0 := hide h0
      have H1 := hide h1
      have H2 := hide h2
      have H3 := hide h3
      have HBl := hide hb
      clear h0 h1 h2 hb
      by_cases hi : i < l
      · have hgk : 0 < gk := by omega
        clear h3
        go_wp2_with (first
          | (go_at_call 20; refine (count_any _ _ _ i _ _ _ _ _ _ _ _ K E S w.heap.size wr H0.out H1.out (HA.out.below HBl.out) (HB.out.below HBl.out) H3.out (by omega) (by omega) (by omega) (by omega) (by omega) HBl.out.size).mono ?_; rintro e w' ⟨rfl, h3, hch⟩))
        go_roundg (gk - 1)
        case measure => omega
        case rel =>
          exact ⟨i + 1, by go_num, by omega, H0.out.chg hch (by simp [one]), H1.out.chg hch (by simp [one]), H2.out.chg hch (by simp [one]), h3, HBl.out.trans (hch.below HBl.out.size (by intro j hj; simp [one] at hj; omega))⟩
      · have hi' : decide (i < l) = false := by simp; omega
        obtain rfl : i = l := by omega
        clear hi
        obtain ⟨br, bi, hr, hs, hblk⟩ := h3
        have HR := hide hr
        have HS := hide hs
        have HK := hide hblk
        clear hr hs hblk
        go_wp2_with (first
          | (with_reducible refine wpList_load_all rfl 28 (.tmp 5) rfl (w.heap.size + 3) rfl 28 58 _ _ HK.out rfl Try.underlying28 (by kernel_rfl) ?_)
          | (with_reducible refine wpList_store_all rfl 28 (.tmp 4) (.tmp 21) rfl (w.heap.size + 2) rfl 28 58 _ _ rfl H2.out (by kernel_rfl) (fun j _ => tcell_one _ _ _ _ _ j) ?_))
        refine bodyPost_ret (v := tallyV K E S i br bi) (results_cell_sub rfl _ _ (w.heap.size + 2) 28 58 _ _ rfl (H2.out.row_ _) rfl Try.underlying28 (by kernel_rfl)) rfl ⟨⟨br, bi, HR.out, HS.out, rfl⟩, ?_⟩
        exact below_setRow HBl.out (by omega) _
end Go.Proofs.Ytmkhicaaemghiaa.Ta
