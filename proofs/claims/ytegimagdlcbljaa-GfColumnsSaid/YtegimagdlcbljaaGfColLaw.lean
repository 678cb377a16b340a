/- The law of gf's products of columns and rows, walked. -/
import Derived.Test.YtegimagdlcbljaaGfRow
import Derived.Test.YtegimagdlcbljaaGfLaws
import Derived.Deep.DeepCutAuto
import Derived.Deep.CutRange
import Derived.StillTailTactics
namespace Go.Proofs.Ytegimagdlcbljaa.Gf
open Go.RowKit Go.Proofs.Ytegimagdlcbljaa.W
set_option linter.unusedVariables false
set_option linter.unusedSimpArgs false

def f4 (x : BitVec 8 × BitVec 8 × BitVec 8 × BitVec 8) : Nat → BitVec 8 := fun i => match i with | 0 => x.1 | 1 => x.2.1 | 2 => x.2.2.1 | _ => x.2.2.2

theorem flipped {P : Program} {f : FuncId} {args : Array Value} {w : World} {v : Value} (h : Calls P f args w fun e w' => e = .returned v ∧ w = w') : Calls P f args w fun e w' => e = .returned v ∧ w' = w :=
  h.mono fun _ _ ⟨he, hw⟩ => ⟨he, hw.symm⟩
def cpy (f : Nat → BitVec 8) (i : Nat) : Nat → BitVec 8 := fun j => if j < i then f j else 0#8
theorem cpy_succ (f : Nat → BitVec 8) (i : Nat) : upd (cpy f i) i (f i) = cpy f (i + 1) := by
  funext j
  simp only [upd, cpy]
  by_cases h : j = i
  · subst h; simp
  · rw [if_neg h]
    by_cases h2 : j < i
    · rw [if_pos h2, if_pos (by omega)]
    · rw [if_neg h2, if_neg (by omega)]
def i64s (f : Nat → BitVec 8) : Nat → Value := fun i => .int .i64 ((f i).toNat : Int)
theorem i64s_upd (f : Nat → BitVec 8) (i : Nat) (x : BitVec 8) : upd (i64s f) i (.int .i64 (x.toNat : Int)) = i64s (upd f i x) := by
  funext j
  simp only [upd, i64s]
  split <;> rfl

/-- The five blocks in which the law keeps its columns. -/
structure Five (w : World) (g3 g4 g : Nat) (fA fB fx fy fw : Nat → BitVec 8) (wr : World) : Prop where
  a : Blk wr g3 36 (row 4 (u8s fA))
  b : Blk wr g4 36 (row 4 (u8s fB))
  x : Blk wr g 40 (row 4 (u8s fx))
  y : Blk wr (g + 1) 40 (row 4 (u8s fy))
  z : Blk wr (g + 2) 41 (row 4 (i64s fw))
  below : Below w.heap.size w wr
  ne : g3 ≠ g4
  lt3 : g3 < g
  lt4 : g4 < g
  old : w.heap.size ≤ g3
  old4 : w.heap.size ≤ g4
section
variable {w wr W : World} {g3 g4 g : Nat} {fA fB fx fy fw : Nat → BitVec 8}
theorem below_same {B : Nat} {a b c : World} (h : Below B a b) (e1 : c.heap = b.heap) (e2 : c.os = b.os) (e3 : c.tape = b.tape) (e4 : c.output = b.output) : Below B a c :=
  ⟨e2.trans h.os, e3.trans h.tape, e4.trans h.output, by rw [e1]; exact h.size, by rw [e1]; exact h.block⟩
theorem Five.same (h : Five w g3 g4 g fA fB fx fy fw wr) (e1 : W.heap = wr.heap) (e2 : W.os = wr.os) (e3 : W.tape = wr.tape) (e4 : W.output = wr.output) : Five w g3 g4 g fA fB fx fy fw W :=
  ⟨h.a.same e1, h.b.same e1, h.x.same e1, h.y.same e1, h.z.same e1, below_same h.below e1 e2 e3 e4, h.ne, h.lt3, h.lt4, h.old, h.old4⟩
theorem Five.later (h : Five w g3 g4 g fA fB fx fy fw wr) (hb : Below wr.heap.size wr W) : Five w g3 g4 g fA fB fx fy fw W :=
  ⟨Go.Proofs.Ytegimagdlcbljaa.W.later hb h.a, Go.Proofs.Ytegimagdlcbljaa.W.later hb h.b, Go.Proofs.Ytegimagdlcbljaa.W.later hb h.x, Go.Proofs.Ytegimagdlcbljaa.W.later hb h.y, Go.Proofs.Ytegimagdlcbljaa.W.later hb h.z, h.below.trans (hb.mono h.below.size), h.ne, h.lt3, h.lt4, h.old, h.old4⟩
theorem Five.alloc (h : Five w g3 g4 g fA fB fx fy fw wr) (o : Obj) : Five w g3 g4 g fA fB fx fy fw (wr.alloc o) :=
  ⟨h.a.alloc o, h.b.alloc o, h.x.alloc o, h.y.alloc o, h.z.alloc o, h.below.alloc h.below.size o, h.ne, h.lt3, h.lt4, h.old, h.old4⟩
theorem Five.farRow (h : Five w g3 g4 g fA fB fx fy fw wr) {r : Nat} (hr : g + 2 < r) (cs : Array Value) : Five w g3 g4 g fA fB fx fy fw (wr.setRow r cs) := by
  have := h.lt3
  have := h.lt4
  have := h.old
  exact ⟨h.a.farRow (by omega) _, h.b.farRow (by omega) _, h.x.farRow (by omega) _, h.y.farRow (by omega) _, h.z.farRow (by omega) _, below_setRow h.below (by omega) _, h.ne, h.lt3, h.lt4, h.old, h.old4⟩
theorem Five.setX (h : Five w g3 g4 g fA fB fx fy fw wr) (i : Nat) (v : BitVec 8) : Five w g3 g4 g fA fB (upd fx i v) fy fw (wr.setCell ⟨g, i, none⟩ (.int .u8 (v.toNat : Int))) := by
  have hx := h.x.upd i (.int .u8 (v.toNat : Int))
  rw [u8s_upd] at hx
  have := h.lt3
  have := h.lt4
  have := h.old
  exact ⟨h.a.far (by simp; omega) _, h.b.far (by simp; omega) _, hx, h.y.far (by simp) _, h.z.far (by simp) _, h.below.setCell (by simp; omega) _, h.ne, h.lt3, h.lt4, h.old, h.old4⟩
theorem Five.setY (h : Five w g3 g4 g fA fB fx fy fw wr) (i : Nat) (v : BitVec 8) : Five w g3 g4 g fA fB fx (upd fy i v) fw (wr.setCell ⟨g + 1, i, none⟩ (.int .u8 (v.toNat : Int))) := by
  have hx := h.y.upd i (.int .u8 (v.toNat : Int))
  rw [u8s_upd] at hx
  have := h.lt3
  have := h.lt4
  have := h.old
  exact ⟨h.a.far (by simp; omega) _, h.b.far (by simp; omega) _, h.x.far (by simp) _, hx, h.z.far (by simp) _, h.below.setCell (by simp; omega) _, h.ne, h.lt3, h.lt4, h.old, h.old4⟩
theorem Five.setZ (h : Five w g3 g4 g fA fB fx fy fw wr) (i : Nat) (v : BitVec 8) : Five w g3 g4 g fA fB fx fy (upd fw i v) (wr.setCell ⟨g + 2, i, none⟩ (.int .i64 (v.toNat : Int))) := by
  have hx := h.z.upd i (.int .i64 (v.toNat : Int))
  rw [i64s_upd] at hx
  have := h.lt3
  have := h.lt4
  have := h.old
  exact ⟨h.a.far (by simp; omega) _, h.b.far (by simp; omega) _, h.x.far (by simp) _, h.y.far (by simp) _, hx, h.below.setCell (by simp; omega) _, h.ne, h.lt3, h.lt4, h.old, h.old4⟩
end

theorem colN_congr {a a' b b' : Nat → BitVec 8} (h : ∀ i, i < 4 → a i = a' i) (h' : ∀ i, i < 4 → b i = b' i) : ∀ s, s ≤ 16 → colN a b s = colN a' b' s
  | 0, _ => rfl
  | s + 1, hs => by
    rw [colN, colN, colN_congr h h' s (by omega)]
    unfold colstep
    rw [h (s / 4) (by omega), h' (s % 4) (by omega)]
theorem cpy4 (f : Nat → BitVec 8) (i : Nat) (h : i < 4) : cpy f 4 i = f i := by simp [cpy, h]
def CmpRel (w : World) (g3 g4 g gz : Nat) (fA fB : Nat → BitVec 8) (k : Nat) (s14 : Value) (wr : World) : Prop :=
  ∃ i : Nat, s14 = .int .i64 (i : Int) ∧ i + k = 4 ∧ g + 2 < gz ∧ Five w g3 g4 g fA fB (cpy fA 4) (cpy fB 4) (colN fA fB 16) wr ∧ Blk wr gz 40 (row 4 (u8s (colN fA fB 16)))

theorem es_info : (Try.prog.info? 22).map (fun i => (i.zero, i.size, i.bytes)) = some (some (.int .u8 0), 1, 1) := by kernel_rfl
def bv (x : BitVec 8) : Value := .int .u8 (x.toNat : Int)
theorem take_more {p : List (BitVec 8)} {i : Nat} {x : BitVec 8} (h : p[i]? = some x) : (p.take (i + 1)).map (fun x => Value.int .u8 (x.toNat : Int)) = (p.take i).map (fun x => Value.int .u8 (x.toNat : Int)) ++ [.int .u8 (x.toNat : Int)] := by
  rw [List.take_add_one, h]
  simp
theorem rowN_take (p q : List (BitVec 8)) (a b : Nat) : ∀ l, l ≤ a → l ≤ b → rowN (p.take a) (q.take b) l = rowN p q l
  | 0, _, _ => rfl
  | l + 1, ha, hb => by
    rw [rowN, rowN, rowN_take p q a b l (by omega) (by omega)]
    simp only [List.getD_eq_getElem?_getD, List.getElem?_take]
    rw [if_pos (by omega), if_pos (by omega)]
def PutRel (w ws : World) (p : List (BitVec 8)) (l : Nat) (k : Nat) (s15 s18 : Value) (wr : World) : Prop :=
  ∃ (i : Nat) (A : Option Addr) (c : Nat), s15 = .slice A i c ∧ s18 = .int .i64 (i : Int) ∧ i + k = l ∧ wr.ownsRow ws.heap.size 22 1 (.slice A i c) i ((p.take i).map (fun x => Value.int .u8 (x.toNat : Int))) ∧ Below ws.heap.size ws wr
def SumRel (ws : World) (p q : List (BitVec 8)) (l : Nat) (k : Nat) (s17 s20 : Value) (wr : World) : Prop :=
  ∃ i : Nat, s17 = .int .i64 ((rowN p q i).toNat : Int) ∧ s20 = .int .i64 (i : Int) ∧ i + k = l ∧ Below ws.heap.size ws wr

def Head (w : World) (fA fB : Nat → BitVec 8) (L M : Option Addr) (n m c d : Nat) (s3 s4 s5 s6 : Value) (wx : World) : Prop :=
  ∃ g3 g4 : Nat, s3 = .pointer (some ⟨g3, 0, none⟩) ∧ s4 = .pointer (some ⟨g4, 0, none⟩) ∧ s5 = .slice L n c ∧ s6 = .slice M m d ∧ g3 ≠ g4 ∧ w.heap.size ≤ g3 ∧ w.heap.size ≤ g4 ∧
    Blk wx g3 36 (row 4 (u8s fA)) ∧ Blk wx g4 36 (row 4 (u8s fB)) ∧ Below w.heap.size w wx
def CopyRel (w : World) (g3 g4 g : Nat) (fA fB : Nat → BitVec 8) (k : Nat) (s10 : Value) (wr : World) : Prop :=
  ∃ i : Nat, s10 = .int .i64 (i : Int) ∧ i + k = 4 ∧ Five w g3 g4 g fA fB (cpy fA i) (cpy fB i) (fun _ => 0#8) wr
def WantRel (w : World) (g3 g4 g : Nat) (fA fB : Nat → BitVec 8) (k : Nat) (s11 : Value) (wr : World) : Prop :=
  ∃ i : Nat, s11 = .int .i64 (i : Int) ∧ i + k = 4 ∧ Five w g3 g4 g fA fB (cpy fA 4) (cpy fB 4) (colN fA fB (4 * i)) wr
def WantIn (w : World) (g3 g4 g : Nat) (fA fB : Nat → BitVec 8) (i : Nat) (k : Nat) (s12 : Value) (wr : World) : Prop :=
  ∃ j : Nat, s12 = .int .i64 (j : Int) ∧ j + k = 4 ∧ Five w g3 g4 g fA fB (cpy fA 4) (cpy fB 4) (colN fA fB (4 * i + j)) wr

set_option maxRecDepth 100000 in
set_option maxHeartbeats 4000000 in
theorem gfColumns_walk (a0 a1 a2 a3 b0 b1 b2 b3 : BitVec 8) (L M : Option Addr) (n m c d : Nat) (p q : List (BitVec 8)) (w : World) (hL : BytesAt w w.heap.size L n p) (hM : BytesAt w w.heap.size M m q) (hn : n ≤ maxLen) (hm : m ≤ maxLen) :
    Calls Try.prog 7 #[.agg #[.int .u8 (a0.toNat : Int), .int .u8 (a1.toNat : Int), .int .u8 (a2.toNat : Int), .int .u8 (a3.toNat : Int), .int .u8 (b0.toNat : Int), .int .u8 (b1.toNat : Int), .int .u8 (b2.toNat : Int), .int .u8 (b3.toNat : Int), .slice L n c, .slice M m d]] w
      fun e w' => e = .returned (.bool true) ∧ Below w.heap.size w w' := by
  have HL := hide hL
  have HM := hide hM
  clear hL hM
  go_enter Try.func7, Try.ntmps7
  go_upto_region 1 with fail
  go_cut [3, 4, 5, 6] (fun s3 s4 s5 s6 wx => Head w (f4 (a0, a1, a2, a3)) (f4 (b0, b1, b2, b3)) L M n m c d s3 s4 s5 s6 wx)
  case first =>
    go_region
    all_goals go_wp2_with fail
    all_goals go_meet
    all_goals
      refine ⟨_, _, rfl, rfl, rfl, rfl, by omega, by omega, by omega, ?_, ?_, ?_⟩
      · first
          | exact ((Blk.newAt (w.alloc _) _ _ _ (by simp)).alloc _).same rfl
          | exact (Blk.newAt ((w.alloc _).alloc _) _ _ _ (by simp)).same rfl
      · first
          | exact ((Blk.newAt (w.alloc _) _ _ _ (by simp)).alloc _).same rfl
          | exact (Blk.newAt ((w.alloc _).alloc _) _ _ _ (by simp)).same rfl
      · exact below_same ((((Below.refl _ _).alloc (Nat.le_refl _) _).alloc (by simp) _).alloc (by simp; omega) _) rfl rfl rfl rfl
  case rest =>
    obtain ⟨g3, g4, rfl, rfl, rfl, rfl, hne, h3, h4, hA, hB, hb⟩ := hcut
    obtain ⟨fA, hfA⟩ : ∃ f, f4 (a0, a1, a2, a3) = f := ⟨_, rfl⟩
    obtain ⟨fB, hfB⟩ : ∃ f, f4 (b0, b1, b2, b3) = f := ⟨_, rfl⟩
    rw [hfA] at hA
    rw [hfB] at hB
    clear hfA hfB
    have H0 := hide hA
    have H1 := hide hB
    have H2 := hide hb
    clear hA hB hb
    go_wp2_with fail
    go_loopg [10] 4 (fun k s10 wr => CopyRel w g3 g4 wc.heap.size fA fB k s10 wr)
    case atStart =>
      refine ⟨0, rfl, rfl, ?_, ?_, ?_, ?_, ?_, ?_, hne, H0.out.lt, H1.out.lt, h3, h4⟩
      · exact ((H0.out.alloc _).alloc _).alloc _
      · exact ((H1.out.alloc _).alloc _).alloc _
      · exact ((Blk.newAt wc _ _ _ rfl).alloc _).alloc _
      · exact (Blk.newAt (wc.alloc _) _ _ _ (by simp)).alloc _
      · exact Blk.newAt ((wc.alloc _).alloc _) _ _ _ (by simp)
      · have := H2.out.size
        exact ((H2.out.alloc this _).alloc (by simp; omega) _).alloc (by simp; omega) _
    case round =>
      obtain ⟨i, rfl, hk, h5⟩ := hrel
      have H5 := hide h5
      by_cases hi : i < 4
      ·
        have ca := h5.a.at hi
        have cb := h5.b.at hi
        have cx := h5.x.at hi
        have cy := h5.y.at hi
        have fx := h5.x.frozen i
        have fy := h5.y.frozen i
        simp only [u8s] at ca cb cx cy
        have hi' : (i : Int) < 4 := by omega
        have l3 := h5.lt3
        have l4 := h5.lt4
        have hgk : 0 < gk := by omega
        clear h5
        go_wp2_with fail
        go_roundg (gk - 1)
        case measure => omega
        case rel =>
          refine ⟨i + 1, by go_num, by omega, ?_⟩
          have hh := (H5.out.setX i (fA i)).setY i (fB i)
          rw [cpy_succ, cpy_succ] at hh
          exact hh
      · have hi' : decide (i < 4) = false := by simp; omega
        have hi4 : i = 4 := by omega
        subst hi4
        clear h5 hi
        go_wp2_with fail
        go_loopg [11] 4 (fun k s11 wr' => WantRel w g3 g4 wc.heap.size fA fB k s11 wr')
        case atStart => exact ⟨0, rfl, rfl, H5.out⟩
        case round =>
          clear H5 hk hi'
          obtain ⟨i, rfl, hk, h5⟩ := hrel
          have H5 := hide h5
          by_cases hi : i < 4
          · have hi' : (i : Int) < 4 := by omega
            have hk0 : 0 < gk := by omega
            obtain ⟨g0, rfl⟩ : ∃ g0 : Nat, g0 = gk := ⟨_, rfl⟩
            obtain ⟨wo, rfl⟩ : ∃ wo : World, wo = wr := ⟨_, rfl⟩
            clear h5
            go_wp2_with fail
            go_loopg [12] 4 (fun k s12 wr' => WantIn w g3 g4 wc.heap.size fA fB i k s12 wr')
            case atStart => exact ⟨0, rfl, rfl, H5.out⟩
            case round =>
              clear H5
              obtain ⟨j, rfl, hj, h5⟩ := hrel
              have H5 := hide h5
              by_cases hj4 : j < 4
              ·
                have hj' : (j : Int) < 4 := by omega
                have hgk0 : 0 < gk := by omega
                obtain ⟨p', hp⟩ : ∃ p, p = (i + j) % 4 := ⟨_, rfl⟩
                have hp4 : p' < 4 := by omega
                have HP := hide hp
                obtain ⟨o, ho⟩ : ∃ o, colN fA fB (4 * i + j) = o := ⟨_, rfl⟩
                have HO := hide ho
                rw [ho] at H5 h5
                have ca := h5.a.at hi
                have cb := h5.b.at hj4
                have co := h5.z.at hp4
                have fo := h5.z.frozen p'
                simp only [u8s, i64s] at ca cb co
                have hp4' : (p' : Int) < 4 := by omega
                have hmod2 : ((i : Int) + (j : Int)) % 4 = (p' : Int) := by omega
                have q1 : IntKind.i64.wrap ((i : Int) + (j : Int)) = (i : Int) + (j : Int) := IntWalk.i64_in _ (by omega)
                have hmod : ((i : Int) + (j : Int)).tmod 4 = (p' : Int) := by
                  rw [Int.tmod_eq_emod_of_nonneg (by omega)]
                  omega
                have q2 : IntKind.i64.wrap ((fA i).toNat : Int) = ((fA i).toNat : Int) := IntWalk.i64_in _ (by omega)
                have q3 : IntKind.i64.wrap ((fB j).toNat : Int) = ((fB j).toNat : Int) := IntWalk.i64_in _ (by omega)
                clear h5 hp ho
                go_wp2_with fail
                refine wp_region_still_tail 21 (by kernel_rfl) (by kernel_rfl) ?_
                simp only [List.take_succ_cons, List.take_zero, List.drop_succ_cons, List.drop_zero]
                repeat (first
                  | (refine wpStill_step (fun K hK => ?_); go_simp; refine hK _ ?_; clear hK K)
                  | (refine wpStill_step (fun K hK => ?_); go_simp; with_reducible refine ⟨_, flipped (rmul_any (fA i) (fB j) _), hK _ ?_⟩; clear hK K)
                  | (refine wpStill_step (fun K hK => ?_); go_simp; with_reducible refine ⟨_, flipped (radd_any (o p') (mu (fA i) (fB j)) _), hK _ ?_⟩; clear hK K))
                refine wpStill_nil ?_
                change wpList _ _ _ _ _ wr.drew
                go_wp2_with fail
                go_roundg (gk - 1)
                case measure => omega
                case rel =>
                  refine ⟨j + 1, by go_num, by omega, ?_⟩
                  have e : colN fA fB (4 * i + (j + 1)) = upd o p' (ad (o p') (mu (fA i) (fB j))) := by
                    show colstep fA fB ((4 * i + j) / 4) ((4 * i + j) % 4) (colN fA fB (4 * i + j)) = _
                    rw [show (4 * i + j) / 4 = i by omega, show (4 * i + j) % 4 = j by omega, HO.out, HP.out]
                    rfl
                  rw [e]
                  exact (H5.out.setZ p' _).same rfl rfl rfl rfl
              · have hj' : decide (j < 4) = false := by simp; omega
                obtain rfl : j = 4 := by omega
                obtain rfl : gk = 0 := by omega
                clear h5
                go_wp2_with fail
                go_roundg (g0 - 1)
                case measure => omega
                case rel => exact ⟨i + 1, by go_num, by omega, by rw [show 4 * (i + 1) = 4 * i + 4 by omega]; exact H5.out⟩
          · have hi' : decide (i < 4) = false := by simp; omega
            have hi'' : decide ((i : Int) < 4) = false := by simp; omega
            have hi4 : i = 4 := by omega
            have HI := hide hi4
            have lz := h5.z.lt
            clear h5 hi hi4
            go_wp2_with (first
              | (with_reducible refine wpList_load_all rfl 40 (.tmp 7) rfl wc.heap.size rfl 40 4 _ _ H5.out.x rfl Try.underlying40 (by kernel_rfl) ?_)
              | (with_reducible refine wpList_load_all rfl 40 (.tmp 8) rfl (wc.heap.size + 1) rfl 40 4 _ _ H5.out.y rfl Try.underlying40 (by kernel_rfl) ?_)
              | (with_reducible refine wpList_store_all rfl 40 (.tmp 13) (.tmp 74) rfl w'.heap.size rfl 40 4 (u8s fun _ => 0#8) _ rfl (Blk.newAt w' _ _ _ rfl) (by kernel_rfl) (fun _ _ => rfl) ?_)
              | (go_at_call 21; refine (column_any _ _ _).mono ?_; rintro e w' ⟨rfl, hb1⟩; have lw := hb1.size))
            go_loopg [14] 4 (fun k s14 wr' => CmpRel w g3 g4 wc.heap.size w'.heap.size fA fB k s14 wr')
            case atStart =>
              have h16 : colN fA fB (4 * i) = colN fA fB 16 := by rw [HI.out]
              refine ⟨0, rfl, rfl, by omega, ?_, ?_⟩
              · rw [h16] at H5
                exact ((H5.out.later hb1).alloc _).farRow (by omega) _
              · rw [colN_congr (a' := fA) (b' := fB) (fun i h => cpy4 fA i h) (fun i h => cpy4 fB i h) 16 (by omega)]
                exact (Blk.newAt w' _ _ _ rfl).row_ _
            case round =>
              clear H5 hk hi' hi'' lz HI lw
              obtain ⟨i, rfl, hk, hgz, h5, hz⟩ := hrel
              have H5 := hide h5
              have HZ := hide hz
              by_cases hi : i < 4
              · have cz := h5.z.at hi
                have ce := hz.at hi
                simp only [u8s, i64s] at cz ce
                have hi' : (i : Int) < 4 := by omega
                have hgk0 : 0 < gk := by omega
                have q2 : IntKind.i64.wrap ((colN fA fB 16 i).toNat : Int) = ((colN fA fB 16 i).toNat : Int) := IntWalk.i64_in _ (by omega)
                obtain ⟨v, hv⟩ : ∃ v, colN fA fB 16 i = v := ⟨_, rfl⟩
                rw [hv] at cz ce q2
                clear h5 hz hv
                go_wp2_with fail
                go_quiet (fail)
                go_wp2_with fail
                go_roundg (gk - 1)
                case measure => omega
                case rel => exact ⟨i + 1, by go_num, by omega, hgz, H5.out.same rfl rfl rfl rfl, HZ.out.same rfl⟩
              · have hi' : decide (i < 4) = false := by simp; omega
                have hi'' : decide ((i : Int) < 4) = false := by simp; omega
                have HB5 := hide h5.below
                clear H5 hz h5 HZ hi
                go_wp2_with fail
                obtain ⟨i0, hi0, hz0, hz1, hz2⟩ := info_parts es_info
                obtain ⟨l1, hl1⟩ : ∃ l1, l1 = min n 20 := ⟨_, rfl⟩
                obtain ⟨ws, hws⟩ : ∃ ws : World, ws = wr := ⟨_, rfl⟩
                subst hws
                go_loopg [15, 18] l1 (fun k s15 s18 wr' => PutRel w ws p l1 k s15 s18 wr')
                case atStart => exact ⟨0, none, 0, rfl, rfl, by omega, ⟨by simp, .inl ⟨rfl, rfl⟩⟩, Below.refl _ _⟩
                case round =>
                  obtain ⟨i, A, c', rfl, rfl, hk, hown, hb⟩ := hrel
                  have HB := hide hb
                  by_cases hi : i < l1
                  · have hin : i < n := by omega
                    have hi20 : (i : Int) < 20 := by omega
                    have hgk : 0 < gk := by omega
                    obtain ⟨b1, o1, rfl, hb1', hc1⟩ := HL.out.2 (by omega)
                    have lp := HL.out.1
                    have hp : p[i]? = some (p.getD i 0#8) := by rw [List.getD_eq_getElem?_getD, List.getElem?_eq_getElem (by omega)]; rfl
                    obtain ⟨x, hx⟩ : ∃ x, p.getD i 0#8 = x := ⟨_, rfl⟩
                    rw [hx] at hp
                    have cp := ((HB5.out.trans (hb.mono HB5.out.size)).cell (B := w.heap.size) (show (⟨b1, o1 + i, none⟩ : Addr).block < _ from hb1')).trans (hc1 i _ hp)
                    have HP := hide hp
                    have HO := hide hown
                    have HK := hide hk
                    have sz := hb.size
                    clear hb hp hc1 lp hx hk
                    go_wp2_with (first
                      | (at_builtin; refine wpList_append_at _ rfl (.tmp 97) (.tmp 102) 43 rfl ws.heap.size 22 i0 (.int .u8 0) 1 1 Try.underlying43 hi0 hz0 hz1 hz2 rfl (by decide) _ i _ rfl (hown.alloc _) ⟨wr.heap.size, 0, none⟩ 1 1 [.int .u8 (x.toNat : Int)] rfl rfl (cell_one_new _ _ _) (by simp [Value.oneCell']) (by simp [maxLen]; omega) (by omega) (by simp; omega) ?_; intro v1 w1 hown1 hg1 _; obtain ⟨A1, c1, hv1⟩ := own_form hown1; have HV := hide hown1; clear hown1))
                    have hown1 := HV.out
                    have hk := HK.out
                    rw [hv1] at hown1
                    go_roundg (gk - 1)
                    case measure => omega
                    case rel =>
                      refine ⟨i + 1, A1, c1, rfl, by go_num, by omega, ?_, ?_⟩
                      · rw [take_more HP.out]
                        exact hown1
                      · exact kept_below (hown.alloc _) hg1 (HB.out.alloc HB.out.size _) (by omega) (by simp; omega)
                  · obtain rfl : i = l1 := by omega
                    have HBy := hide (BytesAt.of_own hown)
                    have HB1 := hide (HB5.out.trans (hb.mono HB5.out.size))
                    have HI := hide hl1
                    have lp := HL.out.1
                    have hi1 : i ≤ n := by omega
                    have hi2 : i ≤ 20 := by omega
                    have hends : decide (i < n) = false ∨ (i < n ∧ decide ((i : Int) < 20) = false ∧ decide (i < 20) = false) := by
                      by_cases h : i < n
                      · exact .inr ⟨h, by simp; omega, by simp; omega⟩
                      · exact .inl (by simpa using h)
                    clear hown hb hl1 hi hk hi' hi'' HB5 HB
                    obtain ⟨l2, hl2⟩ : ∃ l2, l2 = min m 20 := ⟨_, rfl⟩
                    rcases hends with he | ⟨he1, he2, he3⟩
                    all_goals
                      clear hk
                      go_wp2_with fail
                      obtain ⟨wt, hwt⟩ : ∃ wt : World, wt = wr := ⟨_, rfl⟩
                      subst hwt
                      obtain ⟨l1, hll⟩ : ∃ l1, l1 = i := ⟨_, rfl⟩
                      subst hll
                      go_loopg [16, 19] l2 (fun k s16 s19 wr' => PutRel w wt q l2 k s16 s19 wr')
                      case atStart => exact ⟨0, none, 0, rfl, rfl, by omega, ⟨by simp, .inl ⟨rfl, rfl⟩⟩, Below.refl _ _⟩
                      case round =>
                        obtain ⟨j, A2, c2, rfl, rfl, hk, hown, hb⟩ := hrel
                        have HB := hide hb
                        by_cases hj : j < l2
                        · have hjm : j < m := by omega
                          have hj20 : (j : Int) < 20 := by omega
                          have hgk : 0 < gk := by omega
                          obtain ⟨b1, o1, rfl, hb1', hc1⟩ := HM.out.2 (by omega)
                          have lq := HM.out.1
                          have hp : q[j]? = some (q.getD j 0#8) := by rw [List.getD_eq_getElem?_getD, List.getElem?_eq_getElem (by omega)]; rfl
                          obtain ⟨x, hx⟩ : ∃ x, q.getD j 0#8 = x := ⟨_, rfl⟩
                          rw [hx] at hp
                          have cp := ((HB1.out.trans (hb.mono HB1.out.size)).cell (B := w.heap.size) (show (⟨b1, o1 + j, none⟩ : Addr).block < _ from hb1')).trans (hc1 j _ hp)
                          have HP := hide hp
                          have HK := hide hk
                          have sz := hb.size
                          clear hb hp hc1 lq hx hk
                          go_wp2_with (first
                            | (at_builtin; refine wpList_append_at _ rfl (.tmp 114) (.tmp 119) 43 rfl wt.heap.size 22 i0 (.int .u8 0) 1 1 Try.underlying43 hi0 hz0 hz1 hz2 rfl (by decide) _ j _ rfl (hown.alloc _) ⟨wr.heap.size, 0, none⟩ 1 1 [.int .u8 (x.toNat : Int)] rfl rfl (cell_one_new _ _ _) (by simp [Value.oneCell']) (by simp [maxLen]; omega) (by omega) (by simp; omega) ?_; intro v1 w1 hown1 hg1 _; obtain ⟨A1, c1, hv1⟩ := own_form hown1; have HV := hide hown1; clear hown1))
                          have hown1 := HV.out
                          have hk := HK.out
                          rw [hv1] at hown1
                          go_roundg (gk - 1)
                          case measure => omega
                          case rel =>
                            refine ⟨j + 1, A1, c1, rfl, by go_num, by omega, ?_, ?_⟩
                            · rw [take_more HP.out]
                              exact hown1
                            · exact kept_below (hown.alloc _) hg1 (HB.out.alloc HB.out.size _) (by omega) (by simp; omega)
                        · obtain rfl : j = l2 := by omega
                          have HBy2 := hide (BytesAt.of_own hown)
                          have HBy1 := hide ((HBy.out.below hb).more hb.size)
                          have HB2 := hide (HB1.out.trans (hb.mono HB1.out.size))
                          have lq := HM.out.1
                          have hj1 : j ≤ m := by omega
                          have hj2 : j ≤ 20 := by omega
                          have hends : decide (j < m) = false ∨ (j < m ∧ decide ((j : Int) < 20) = false ∧ decide (j < 20) = false) := by
                            by_cases h : j < m
                            · exact .inr ⟨h, by simp; omega, by simp; omega⟩
                            · exact .inl (by simpa using h)
                          clear hown hb hl2 hj hk HB HBy HB1
                          obtain ⟨l3, hl3⟩ : ∃ l3, l3 = min l1 j := ⟨_, rfl⟩
                          rcases hends with hf | ⟨hf1, hf2, hf3⟩
                          all_goals
                            go_wp2_with fail
                            obtain ⟨wu, hwu⟩ : ∃ wu : World, wu = wr := ⟨_, rfl⟩
                            subst hwu
                            obtain ⟨l2, hll⟩ : ∃ l2, l2 = j := ⟨_, rfl⟩
                            subst hll
                            go_loopg [17, 20] l3 (fun k s17 s20 wr' => SumRel wu p q l3 k s17 s20 wr')
                            case atStart => exact ⟨0, rfl, rfl, by omega, Below.refl _ _⟩
                            case round =>
                              obtain ⟨k, rfl, rfl, hk, hb⟩ := hrel
                              have HB := hide hb
                              by_cases hk3 : k < l3
                              · have hk1 : k < l1 := by omega
                                have hk2 : k < l2 := by omega
                                have hgk : 0 < gk := by omega
                                have hkn : k < n := by omega
                                have hkm : k < m := by omega
                                obtain ⟨b1, o1, rfl, hb1', hc1⟩ := HL.out.2 (by omega)
                                obtain ⟨b2, o2, rfl, hb2', hc2⟩ := HM.out.2 (by omega)
                                have hp : p[k]? = some (p.getD k 0#8) := by rw [List.getD_eq_getElem?_getD, List.getElem?_eq_getElem (by omega)]; rfl
                                have hq : q[k]? = some (q.getD k 0#8) := by rw [List.getD_eq_getElem?_getD, List.getElem?_eq_getElem (by omega)]; rfl
                                obtain ⟨x, hx⟩ : ∃ x, p.getD k 0#8 = x := ⟨_, rfl⟩
                                obtain ⟨y, hy⟩ : ∃ y, q.getD k 0#8 = y := ⟨_, rfl⟩
                                obtain ⟨o, ho⟩ : ∃ o, rowN p q k = o := ⟨_, rfl⟩
                                rw [hx] at hp
                                rw [hy] at hq
                                rw [ho]
                                have HX := hide hx
                                have HY := hide hy
                                have HO := hide ho
                                have hbb := HB2.out.trans (hb.mono HB2.out.size)
                                have cp := (hbb.cell (B := w.heap.size) (show (⟨b1, o1 + k, none⟩ : Addr).block < _ from hb1')).trans (hc1 k _ hp)
                                have cq := (hbb.cell (B := w.heap.size) (show (⟨b2, o2 + k, none⟩ : Addr).block < _ from hb2')).trans (hc2 k _ hq)
                                have q2 : IntKind.i64.wrap (x.toNat : Int) = (x.toNat : Int) := IntWalk.i64_in _ (by omega)
                                have q3 : IntKind.i64.wrap (y.toNat : Int) = (y.toNat : Int) := IntWalk.i64_in _ (by omega)
                                clear hb hp hq hc1 hc2 hx hy ho hbb
                                go_wp2_with fail
                                go_quiet ((first
                                  | (go_at_call 12; with_reducible exact Calls.quiet_of_same (flipped (rmul_any x y _)))
                                  | (go_at_call 10; with_reducible exact Calls.quiet_of_same (flipped (radd_any o (mu x y) _)))))
                                go_wp2_with fail
                                go_roundg (gk - 1)
                                case measure => omega
                                case rel =>
                                  refine ⟨k + 1, ?_, by go_num, by omega, below_same HB.out rfl rfl rfl rfl⟩
                                  rw [rowN, HO.out, HX.out, HY.out]
                              · have hkl : k = l3 := by omega
                                have HKL := hide hkl
                                have HBy3 := hide ((HBy1.out.below hb).more hb.size)
                                have HBy4 := hide ((HBy2.out.below hb).more hb.size)
                                have HB3 := hide (HB2.out.trans (hb.mono HB2.out.size))
                                have hends : decide (k < l1) = false ∨ (k < l1 ∧ decide (k < l2) = false) := by
                                  by_cases h : k < l1
                                  · exact .inr ⟨h, by simp; omega⟩
                                  · exact .inl (by simpa using h)
                                have HL3 := hide hl3
                                obtain ⟨o, ho⟩ : ∃ o, rowN p q k = o := ⟨_, rfl⟩
                                have ho' : rowN (p.take l1) (q.take l2) l3 = o := by rw [rowN_take _ _ _ _ _ (by omega) (by omega), ← hkl]; exact ho
                                have HO := hide ho'
                                rw [ho]
                                have q2 : IntKind.i64.wrap (o.toNat : Int) = (o.toNat : Int) := IntWalk.i64_in _ (by omega)
                                have m1 : l1 ≤ maxLen := by omega
                                have m2 : l2 ≤ maxLen := by omega
                                clear hb hk hkl hl3 hk3 HB ho ho'
                                rcases hends with hg | ⟨hg1, hg2⟩
                                all_goals
                                  go_wp2_with (first
                                    | (go_at_call 8; refine (awake_any _).mono ?_; rintro e w2 ⟨rfl, hbw⟩)
                                    | (go_at_call 22; refine (row_any _ _ _ _ _ _ l3 _ _ _ ((HBy3.out.below hbw).more hbw.size) ((HBy4.out.below hbw).more hbw.size) m1 m2 HL3.out).mono ?_; rw [HO.out]; rintro e w3 ⟨rfl, hbr⟩))
                                  go_ret
                                  exact ⟨rfl, (HB3.out.trans (hbw.mono HB3.out.size)).trans (hbr.mono (HB3.out.trans (hbw.mono HB3.out.size)).size)⟩
end Go.Proofs.Ytegimagdlcbljaa.Gf
