/- Contracts of gf's products of columns and of rows. -/
import Derived.Test.YtegimagdlcbljaaGfRef
import Derived.Test.YtegimagdlcbljaaRow
import Derived.Laws.CopyOwn
namespace Go.Proofs.Ytegimagdlcbljaa.Gf
open Go.RowKit Go.Proofs.Ytegimagdlcbljaa.W
set_option linter.unusedVariables false
set_option linter.unusedSimpArgs false

def colstep (a b : Nat → BitVec 8) (i k : Nat) (o : Nat → BitVec 8) : Nat → BitVec 8 := upd o ((i + k) % 4) (ad (o ((i + k) % 4)) (mu (a i) (b k)))
def colN (a b : Nat → BitVec 8) : Nat → Nat → BitVec 8
  | 0 => fun _ => 0#8
  | s + 1 => colstep a b (s / 4) (s % 4) (colN a b s)

def ColBlks (w : World) (a b o : Nat → BitVec 8) (wr : World) : Prop :=
  Blk wr w.heap.size 40 (row 4 (u8s a)) ∧ Blk wr (w.heap.size + 1) 40 (row 4 (u8s b)) ∧ Blk wr (w.heap.size + 2) 40 (row 4 (u8s fun _ => 0#8)) ∧ Blk wr (w.heap.size + 3) 40 (row 4 (u8s o)) ∧ Below w.heap.size w wr

def ColRel (w : World) (a b : Nat → BitVec 8) (k : Nat) (s9 : Value) (wr : World) : Prop :=
  ∃ i : Nat, s9 = .int .i64 (i : Int) ∧ i + k = 4 ∧ ColBlks w a b (colN a b (4 * i)) wr
def ColIn (w : World) (a b : Nat → BitVec 8) (i : Nat) (k : Nat) (s12 : Value) (wr : World) : Prop :=
  ∃ j : Nat, s12 = .int .i64 (j : Int) ∧ j + k = 4 ∧ ColBlks w a b (colN a b (4 * i + j)) wr

theorem at_and : ∀ i j : Fin 4, bits BinOp.and IntKind.i64 ((i.val : Int) + (j.val : Int)) 3 = (((i.val + j.val) % 4 : Nat) : Int) := by decide +kernel
theorem ColBlks.store {w wr W : World} {a b o : Nat → BitVec 8} {p : Nat} {x : BitVec 8} (h1 : Blk wr w.heap.size 40 (row 4 (u8s a))) (h2 : Blk wr (w.heap.size + 1) 40 (row 4 (u8s b)))
    (h3 : Blk wr (w.heap.size + 2) 40 (row 4 (u8s fun _ => 0#8))) (h4 : Blk wr (w.heap.size + 3) 40 (row 4 (u8s o))) (hb : Below w.heap.size w wr)
    (e1 : W.heap = (wr.setCell ⟨w.heap.size + 3, p, none⟩ (.int .u8 (x.toNat : Int))).heap) (e2 : W.os = wr.os) (e3 : W.tape = wr.tape) (e4 : W.output = wr.output) :
    ColBlks w a b (upd o p x) W := by
  have hh := h4.upd p (.int .u8 (x.toNat : Int))
  rw [u8s_upd] at hh
  have hb' := hb.setCell (p := ⟨w.heap.size + 3, p, none⟩) (by simp) (.int .u8 (x.toNat : Int))
  exact ⟨(h1.far (p := ⟨w.heap.size + 3, p, none⟩) (by simp) _).same e1, (h2.far (p := ⟨w.heap.size + 3, p, none⟩) (by simp) _).same e1, (h3.far (p := ⟨w.heap.size + 3, p, none⟩) (by simp) _).same e1, hh.same e1,
    ⟨e2.trans hb'.os, e3.trans hb'.tape, e4.trans hb'.output, by rw [e1]; exact hb'.size, by rw [e1]; exact hb'.block⟩⟩

set_option maxRecDepth 100000 in
set_option maxHeartbeats 2000000 in
theorem column_any (a b : Nat → BitVec 8) (w : World) :
    Calls Try.prog 21 #[.agg (row 4 (u8s a)), .agg (row 4 (u8s b))] w fun e w' => e = .returned (.agg (row 4 (u8s (colN a b 16)))) ∧ Below w.heap.size w w' := by
  go_enter Try.func21, Try.ntmps21
  go_wp2_with fail
  go_loopg [9] 4 (fun k s9 wr => ColRel w a b k s9 wr)
  case atStart =>
    refine ⟨0, rfl, rfl, ?_, ?_, ?_, ?_, ?_⟩
    · exact (((Blk.new w _ _).alloc _).alloc _).alloc _
    · have h := Blk.new (w.alloc (.cells (row 4 (u8s a)) 40)) 40 (row 4 (u8s b))
      rw [World.size_alloc] at h
      exact (h.alloc _).alloc _
    · have h := Blk.new ((w.alloc (.cells (row 4 (u8s a)) 40)).alloc (.cells (row 4 (u8s b)) 40)) 40 (row 4 (u8s fun _ => 0#8))
      simp only [World.size_alloc] at h
      exact h.alloc _
    · have h := Blk.new (((w.alloc (.cells (row 4 (u8s a)) 40)).alloc (.cells (row 4 (u8s b)) 40)).alloc (.cells (row 4 (u8s fun _ => 0#8)) 40)) 40 (row 4 (u8s fun _ => 0#8))
      simp only [World.size_alloc] at h
      exact h
    · exact ((((Below.refl _ _).alloc (Nat.le_refl _) _).alloc (by simp) _).alloc (by simp; omega) _).alloc (by simp; omega) _
  case round =>
    obtain ⟨i, rfl, hk, h1, h2, h3, h4, hb⟩ := hrel
    have H1 := hide h1
    have H2 := hide h2
    have H3 := hide h3
    have H4 := hide h4
    have HB := hide hb
    by_cases hi : i < 4
    · have hi' : (i : Int) < 4 := by omega
      have hk0 : 0 < gk := by omega
      obtain ⟨g0, rfl⟩ : ∃ g0 : Nat, g0 = gk := ⟨_, rfl⟩
      obtain ⟨wo, rfl⟩ : ∃ wo : World, wo = wr := ⟨_, rfl⟩
      clear h1 h2 h3 h4 hb
      go_wp2_with fail
      go_loopg [12] 4 (fun k s12 wr => ColIn w a b i k s12 wr)
      case atStart => exact ⟨0, rfl, rfl, H1.out, H2.out, H3.out, H4.out, HB.out⟩
      case round =>
        clear H1 H2 H3 H4 HB
        obtain ⟨j, rfl, hj, h1, h2, h3, h4, hb⟩ := hrel
        have H1 := hide h1
        have H2 := hide h2
        have H3 := hide h3
        have H4 := hide h4
        have HB := hide hb
        by_cases hj4 : j < 4
        · have hj' : (j : Int) < 4 := by omega
          have hgk0 : 0 < gk := by omega
          obtain ⟨p, hp⟩ : ∃ p, p = (i + j) % 4 := ⟨_, rfl⟩
          have hand : bits BinOp.and IntKind.i64 ((i : Int) + (j : Int)) 3 = (p : Int) := by
            rw [hp]
            exact at_and ⟨i, hi⟩ ⟨j, hj4⟩
          have hp4 : p < 4 := by omega
          have HP := hide hp
          obtain ⟨o, ho⟩ : ∃ o, colN a b (4 * i + j) = o := ⟨_, rfl⟩
          have HO := hide ho
          rw [ho] at H4 h4
          have ca := h1.at hi
          have cb := h2.at hj4
          have co := h4.at hp4
          have fo := h4.frozen p
          simp only [u8s] at ca cb co
          have q1 : IntKind.i64.wrap ((i : Int) + (j : Int)) = (i : Int) + (j : Int) := IntWalk.i64_in _ (by omega)
          have hp4' : (p : Int) < 4 := by omega
          clear h1 h2 h3 h4 hb hp ho
          go_wp2_with fail
          go_region_with (first
            | (go_at_call 9; refine (add_any _ _ _).mono ?_; rintro e w' ⟨rfl, rfl⟩)
            | (go_at_call 11; refine (mul_any _ _ _).mono ?_; rintro e w' ⟨rfl, hb1⟩; have co1 := (later hb1 (H4.out.same rfl)).at hp4; have fo1 := (later hb1 (H4.out.same rfl)).frozen p; simp only [u8s] at co1))
          all_goals
            have hj := (hide hj).out
            go_wp2_with fail
            go_roundg (gk - 1)
            case measure => omega
            case rel =>
              refine ⟨j + 1, by go_num, by omega, ?_⟩
              have e : colN a b (4 * i + (j + 1)) = upd o p (ad (o p) (mu (a i) (b j))) := by
                show colstep a b ((4 * i + j) / 4) ((4 * i + j) % 4) (colN a b (4 * i + j)) = _
                rw [show (4 * i + j) / 4 = i by omega, show (4 * i + j) % 4 = j by omega, HO.out, HP.out]
                rfl
              rw [e]
              exact ColBlks.store (later hb1 (H1.out.same rfl)) (later hb1 (H2.out.same rfl)) (later hb1 (H3.out.same rfl)) (later hb1 (H4.out.same rfl))
                ((below_drewN HB.out 1).trans (hb1.mono HB.out.size)) rfl rfl rfl rfl
        · obtain rfl : j = 4 := by omega
          obtain rfl : gk = 0 := by omega
          clear h1 h2 h3 h4 hb
          go_wp2_with fail
          go_roundg (g0 - 1)
          case measure => omega
          case rel => exact ⟨i + 1, by go_num, by omega, by rw [show 4 * (i + 1) = 4 * i + 4 by omega]; exact ⟨H1.out, H2.out, H3.out, H4.out, HB.out⟩⟩
    · have hi' : decide ((i : Int) < 4) = false := by simp; omega
      have hi'' : decide (i < 4) = false := by simp; omega
      have hi4 : i = 4 := by omega
      have HI := hide hi4
      clear hi hi4
      clear h1 h2 h3 h4 hb
      go_wp2_with (first
        | (with_reducible refine wpList_load_all rfl 40 (.tmp 5) rfl (w.heap.size + 3) rfl 40 4 _ _ H4.out rfl Try.underlying40 (by kernel_rfl) ?_)
        | (with_reducible refine wpList_store_all rfl 40 (.tmp 4) (.tmp 34) rfl (w.heap.size + 2) rfl 40 4 _ _ rfl H3.out (by kernel_rfl) (fun _ _ => rfl) ?_))
      refine bodyPost_ret (v := .agg (row 4 (u8s (colN a b (4 * i))))) (results_cell_sub rfl _ _ (w.heap.size + 2) 40 4 _ _ rfl (H3.out.row_ _) rfl Try.underlying40 (by kernel_rfl)) rfl ⟨by rw [HI.out], ?_⟩
      exact below_setRow HB.out (by omega) _
end Go.Proofs.Ytegimagdlcbljaa.Gf
