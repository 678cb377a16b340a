/- The contract of view.Count. -/
import Derived.Test.YtmocaabdfiffnaaVwList
namespace Go.Proofs.Ytmocaabdfiffnaa.Ct
open Go.RowKit Go.Proofs.Ytmocaabdfiffnaa.W
set_option linter.unusedVariables false
set_option linter.unusedSimpArgs false

theorem info5 : (Try.prog.info? 46).map (·.size) = some 5 := by kernel_rfl
def zB (s : ByteArray) (i : Nat) : Bool := (blk s i).toList == (zerosB 64).toList
/-- Of the first k blocks those of kind q that are not zero. -/
def cntS (s : ByteArray) : Nat → Nat → Nat
  | 0, _ => 0
  | k + 1, q => cntS s k q + if zB s k = false ∧ whatOf k = q then 1 else 0
theorem cntS_le (s : ByteArray) (q : Nat) : ∀ k, cntS s k q ≤ k
  | 0 => Nat.le_refl _
  | k + 1 => by
    have := cntS_le s q k
    show cntS s k q + _ ≤ _
    split <;> omega
def cvs (s : ByteArray) (k : Nat) : Nat → Value := fun q => .int .i64 (cntS s k q : Int)
theorem cvs_zero (s : ByteArray) (k : Nat) (h : zB s k = true) : cvs s (k + 1) = cvs s k := by
  funext q
  show Value.int .i64 ((cntS s k q + _ : Nat) : Int) = _
  rw [if_neg (by simp [h])]
  rfl
theorem cvs_some (s : ByteArray) (k : Nat) (h : zB s k = false) : cvs s (k + 1) = upd (cvs s k) (whatOf k) (.int .i64 ((cntS s k (whatOf k) + 1 : Nat) : Int)) := by
  funext q
  unfold upd
  by_cases hq : q = whatOf k
  · subst hq
    rw [if_pos rfl]
    show Value.int .i64 ((cntS s k _ + _ : Nat) : Int) = _
    rw [if_pos ⟨h, rfl⟩]
  · rw [if_neg hq]
    show Value.int .i64 ((cntS s k q + _ : Nat) : Int) = _
    rw [if_neg (fun hh => hq hh.2.symm)]
    rfl
theorem what_lt (i : Nat) : whatOf i < 5 := by
  unfold whatOf
  split
  · omega
  · split
    · omega
    · split
      · omega
      · split <;> omega
structure CtAt (w : World) (s : ByteArray) (A : Option Addr) (c i : Nat) (wr : World) : Prop where
  r : Blk wr w.heap.size 46 (row 5 fun _ => .int .i64 0)
  o : Blk wr (w.heap.size + 1) 46 (row 5 (cvs s i))
  own : wr.ownsRow (w.heap.size + 2) 40 4 (.slice A 288 c) 288 (seens s 288)
  below : Below w.heap.size w wr
  size : w.heap.size + 2 ≤ wr.heap.size
def CtRel (w : World) (s : ByteArray) (A : Option Addr) (c : Nat) (k : Nat) (s16 : Value) (wr : World) : Prop :=
  ∃ i : Nat, s16 = .int .i64 (i : Int) ∧ i + k = 288 ∧ CtAt w s A c i wr
set_option maxRecDepth 100000 in
set_option maxHeartbeats 1000000 in
theorem count_yes (s : ByteArray) (hs : s.size = 18432) (w : World) : Calls Try.prog 14 #[.string s] w fun e w' => e = .returned (.tuple #[.agg (row 5 (cvs s 288)), .int .i64 0]) ∧ Below w.heap.size w w' := by
  have HL := hide (fun W => looks_yes s hs W)
  clear hs
  go_enter Try.func14, Try.ntmps14
  go_wp2_with (first
    | (go_at_call 13; (with_reducible refine (HL.out _).mono ?_); rintro e w1 ⟨A, c, rfl, hown, hb⟩; have HOwn := hide hown; have HB := hide hb; clear hown hb))
  have HAt : Hid (CtAt w s A c 0 w1) := hide (by
    have hb := HB.out
    have r0 := Blk.newAt w 46 (row 5 fun _ => .int .i64 0) _ rfl
    have o0 := Blk.newAt (w.alloc (.cells (row 5 fun _ => .int .i64 0) 46)) 46 (row 5 fun _ => .int .i64 0) (w.heap.size + 1) (by simp)
    refine ⟨W.later hb (r0.alloc _), W.later hb o0, ?_, (((Below.refl w.heap.size w).alloc (Nat.le_refl _) _).alloc (by simp) _).trans (hb.mono (by simp; omega)), ?_⟩
    · have := HOwn.out
      simpa using this
    · have := hb.size
      simpa using this)
  clear HOwn HB
  go_loopg [8, 16] 288 (fun k s8 s16 wr => CtRel w s A c k s16 wr)
  case atStart => exact ⟨0, rfl, rfl, HAt.out⟩
  case round =>
    obtain ⟨i, rfl, hk, hat⟩ := hrel
    have HA := hide hat
    clear hat
    by_cases hi : i < 288
    · have hlt : (i : Int) < 288 := by omega
      obtain ⟨g, cap, hv, hg1, hg2⟩ := HA.out.own.form (by omega)
      injection hv with hA' _ hc'
      subst hA' hc'
      have x0 : wr.cell? ⟨g, i * 4 + 0, none⟩ = some (.int .i64 (whatOf i : Int)) := (HA.out.own.cellAt _ (by omega)).trans (seens_at s hi (by omega))
      have x1 : wr.cell? ⟨g, i * 4 + 1, none⟩ = some (.int .i64 (idxOf i : Int)) := (HA.out.own.cellAt _ (by omega)).trans (seens_at s hi (by omega))
      have x2 : wr.cell? ⟨g, i * 4 + 2, none⟩ = some (.int .i64 (numOf (blk s i) i)) := (HA.out.own.cellAt _ (by omega)).trans (seens_at s hi (by omega))
      have x3 : wr.cell? ⟨g, i * 4 + 3, none⟩ = some (.bool (zB s i)) := (HA.out.own.cellAt _ (by omega)).trans (seens_at s hi (by omega))
      obtain ⟨v0, hv0⟩ : ∃ v, whatOf i = v := ⟨_, rfl⟩
      obtain ⟨v1, hv1⟩ : ∃ v, (idxOf i : Int) = v := ⟨_, rfl⟩
      obtain ⟨v2, hv2⟩ : ∃ v, numOf (blk s i) i = v := ⟨_, rfl⟩
      have hw5 : v0 < 5 := hv0 ▸ what_lt i
      have hSo := cvs_some s i
      rw [hv0] at x0 hSo
      rw [hv1] at x1
      rw [hv2] at x2
      obtain ⟨j, hj⟩ : ∃ j, i * 4 = j := ⟨_, rfl⟩
      rw [hj] at x0 x1 x2 x3
      rw [Nat.add_zero] at x0
      obtain ⟨z, hz⟩ : ∃ z, zB s i = z := ⟨_, rfl⟩
      rw [hz] at x3 hSo
      have hZe : z = true → cvs s (i + 1) = cvs s i := fun h => cvs_zero s i (hz.trans h)
      have HSo := hide hSo
      have HZe := hide hZe
      have HK := hide hk
      clear hSo hZe hv0 hv1 hv2 hz hk
      have co := HA.out.o.at hw5
      have fo := HA.out.o.frozen v0
      have go := HA.out.o.lt
      obtain ⟨n, hn⟩ : ∃ n, cntS s i v0 = n := ⟨_, rfl⟩
      have hnl : n ≤ 288 := by
        have := cntS_le s v0 i
        omega
      have co' : wr.cell? ⟨w.heap.size + 1, v0, none⟩ = some (.int .i64 (n : Int)) := by rw [co, ← hn]; rfl
      have e1 : IntKind.i64.wrap ((n : Int) + 1) = ((n + 1 : Nat) : Int) := by rw [show (n : Int) + 1 = ((n + 1 : Nat) : Int) by omega]; exact IntWalk.i64_in _ (by omega)
      have hv5 : (v0 : Int) < 5 := by omega
      have HN := hide hn
      clear co hn
      cases z with
      | true =>
        clear co' fo
        go_wp2_with fail
        have hk := HK.out
        go_roundg (gk - 1)
        case measure => omega
        case rel =>
          refine ⟨i + 1, by go_num, by omega, HA.out.r.alloc _, ?_, HA.out.own.alloc _, HA.out.below.alloc HA.out.below.size _, by have := HA.out.size; simp; omega⟩
          rw [HZe.out (by first | trivial | rfl)]
          exact HA.out.o.alloc _
      | false =>
        go_wp2_with fail
        have hk := HK.out
        go_roundg (gk - 1)
        case measure => omega
        case rel =>
          refine ⟨i + 1, by go_num, by omega, (HA.out.r.far (p := ⟨w.heap.size + 1, v0, none⟩) (by simp) _).alloc _, ?_, (ownsRow_setCell_below HA.out.own (a := ⟨w.heap.size + 1, v0, none⟩) (by simp) _).alloc _, (HA.out.below.setCell (p := ⟨w.heap.size + 1, v0, none⟩) (by simp) _).alloc (by have := HA.out.size; simp [World.setCell]; omega) _, by have := HA.out.size; simp [World.setCell]; omega⟩
          rw [HSo.out (by first | trivial | rfl), HN.out]
          exact (HA.out.o.upd v0 _).alloc _
    · obtain rfl : i = 288 := by omega
      clear hi hk
      go_wp2_with (first
        | (with_reducible refine wpList_load_all rfl 46 (.tmp 4) rfl (w.heap.size + 1) rfl 46 5 _ _ HA.out.o rfl Try.underlying46 info5 ?_)
        | (with_reducible refine wpList_store_all rfl 46 (.tmp 2) (.tmp 30) rfl w.heap.size rfl 46 5 _ _ rfl HA.out.r info5 (fun j _ => rfl) ?_))
      exact bodyPost_ret (results_sub_tmp rfl _ _ w.heap.size 46 5 _ _ _ rfl rfl (HA.out.r.row_ _) rfl Try.underlying46 info5) rfl ⟨rfl, below_setRow HA.out.below (Nat.le_refl _) _⟩
set_option maxRecDepth 100000 in
theorem count_no (s : ByteArray) (hs : s.size ≠ 18432) (w : World) : Calls Try.prog 14 #[.string s] w fun e w' => e = .returned (.tuple #[.agg (row 5 fun _ => .int .i64 0), .int .i64 6]) ∧ Below w.heap.size w w' := by
  have HL := hide (fun W => looks_no s hs W)
  clear hs
  go_enter Try.func14, Try.ntmps14
  go_wp2_with (first
    | (go_at_call 13; (with_reducible refine (HL.out _).mono ?_); rintro e w1 ⟨rfl, hb⟩; subst w1))
  have r0 := (Blk.newAt w 46 (row 5 fun _ => .int .i64 0) _ rfl).alloc (.cells (row 5 fun _ => .int .i64 0) 46)
  have o0 := Blk.newAt (w.alloc (.cells (row 5 fun _ => .int .i64 0) 46)) 46 (row 5 fun _ => .int .i64 0) (w.heap.size + 1) (by simp)
  have hb : Below w.heap.size w ((w.alloc (.cells (row 5 fun _ => .int .i64 0) 46)).alloc (.cells (row 5 fun _ => .int .i64 0) 46)) := ((Below.refl w.heap.size w).alloc (Nat.le_refl _) _).alloc (by simp) _
  have HR := hide r0
  have HO := hide o0
  have HB := hide hb
  clear r0 o0 hb
  generalize hw2 : (w.alloc (.cells (row 5 fun _ => .int .i64 0) 46)).alloc (.cells (row 5 fun _ => .int .i64 0) 46) = w2 at HR HO HB
  go_loopg [8, 16] 0 (fun k s8 s16 wr => s16 = .int .i64 0 ∧ wr = w2)
  case atStart => exact ⟨rfl, hw2⟩
  case round =>
    obtain ⟨rfl, rfl⟩ := hrel
    go_wp2_with (first
      | (with_reducible refine wpList_load_all rfl 46 (.tmp 4) rfl (w.heap.size + 1) rfl 46 5 _ _ HO.out rfl Try.underlying46 info5 ?_)
      | (with_reducible refine wpList_store_all rfl 46 (.tmp 2) (.tmp 30) rfl w.heap.size rfl 46 5 _ _ rfl HR.out info5 (fun j _ => rfl) ?_))
    exact bodyPost_ret (results_sub_tmp rfl _ _ w.heap.size 46 5 _ _ _ rfl rfl (HR.out.row_ _) rfl Try.underlying46 info5) rfl ⟨rfl, below_setRow HB.out (Nat.le_refl _) _⟩
end Go.Proofs.Ytmocaabdfiffnaa.Ct
