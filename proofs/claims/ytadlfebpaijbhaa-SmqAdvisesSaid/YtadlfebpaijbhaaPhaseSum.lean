/- Contracts of phase's sums of four phases. -/
import Derived.Test.YtadlfebpaijbhaaPhasePlus
import Derived.Test.YtadlfebpaijbhaaPhaseTurn
import Derived.Test.YtadlfebpaijbhaaRow
import Derived.Deep.DeepCutAuto
import Derived.Deep.CutRange
import Derived.StillTailTactics
import Derived.IntWalk
namespace Go.Proofs.Ytadlfebpaijbhaa.Ph
open Go.RowKit Go.Proofs.Ytadlfebpaijbhaa.W Go.Proofs.Ytadlfebpaijbhaa.Fl
set_option linter.unusedVariables false
set_option linter.unusedSimpArgs false

@[go_sem] theorem run_store_float (P : Program) (w : World) (a : Addr) (m : Mode) (k : FloatKind) (b : Nat) : (store a (.float k b) m).run P w = stored P w a (.float k b) m := run_store P w a _ m rfl
@[go_sem] theorem run_store_complex (P : Program) (w : World) (a : Addr) (m : Mode) (k : FloatKind) (x y : Nat) : (store a (.complex k x y) m).run P w = stored P w a (.complex k x y) m := run_store P w a _ m rfl
theorem flipped {P : Program} {f : FuncId} {args : Array Value} {w : World} {v : Value} (h : Calls P f args w fun e w' => e = .returned v ∧ w = w') : Calls P f args w fun e w' => e = .returned v ∧ w' = w :=
  h.mono fun _ _ ⟨he, hw⟩ => ⟨he, hw.symm⟩
def cpx (l : Nat → Nat × Nat) : Nat → Value := fun i => .complex .f64 (l i).1 (l i).2
/-- Sums of turned phases, rounded one by one. -/
def SumIs (l : Nat → Nat × Nat) (by_ : Int) : Nat → Nat → Nat → Prop
  | 0, r, s => r = 0 ∧ s = 0
  | n + 1, r, s => ∃ r0 s0, SumIs l by_ n r0 s0 ∧ Res (Fl.d.add r0 (rot ((by_ * (n : Int)) % 4).toNat (l n).1 (l n).2).1) r ∧ Res (Fl.d.add s0 (rot ((by_ * (n : Int)) % 4).toNat (l n).1 (l n).2).2) s
def Sum1E (go : Nat) (q : Nat × Nat) (r s : Nat) (w : World) (e : Ending) (w' : World) : Prop :=
  e = .returned (.tuple #[]) ∧ ∃ r' s', Res (Fl.d.add r q.1) r' ∧ Res (Fl.d.add s q.2) s' ∧ Blk w' go 80 #[.complex .f64 r' s'] ∧ Chg (one go) w w'

set_option maxRecDepth 100000 in
set_option maxHeartbeats 1000000 in
theorem sum1_any (t : Nat) (ht : t < 4) (go gl gb : Nat) (l : Nat → Nat × Nat) (by_ : Int) (h0 : -4 ≤ by_) (h1 : by_ ≤ 4) (r s : Nat) (w : World)
    (ho : Blk w go 80 #[.complex .f64 r s]) (hl : Blk w gl 81 (row 4 (cpx l))) (hb : Blk w gb 3 #[.int .i64 by_]) :
    Calls Try.prog 61 #[.int .i64 (t : Int), .pointer (some ⟨go, 0, none⟩), .pointer (some ⟨gl, 0, none⟩), .pointer (some ⟨gb, 0, none⟩)] w
      (Sum1E go (rot ((by_ * (t : Int)) % 4).toNat (l t).1 (l t).2) r s w) := by
  have co := ho.one_
  have cl := hl.at ht
  have cb := hb.one_
  have fo := ho.frozen 0
  have ht' : (t : Int) < 4 := by omega
  have HO := hide ho
  unfold cpx at cl
  obtain ⟨m, hm⟩ : ∃ m, by_ * (t : Int) = m := ⟨_, rfl⟩
  have hm2 : IntKind.i64.wrap (by_ * (t : Int)) = m := by
    rw [← hm]
    have h4 : t = 0 ∨ t = 1 ∨ t = 2 ∨ t = 3 := by omega
    refine IntWalk.i64_in _ ?_
    rcases h4 with rfl | rfl | rfl | rfl <;> omega
  obtain ⟨x, hx⟩ : ∃ x, (l t).1 = x := ⟨_, rfl⟩
  obtain ⟨y, hy⟩ : ∃ y, (l t).2 = y := ⟨_, rfl⟩
  rw [hx, hy] at cl ⊢
  rw [hm]
  clear ho hl hb hx hy hm
  have HT := hide (fun W => turn_any x y m W)
  go_enter Try.func61, Try.ntmps61
  refine wp_region_still_tail 8 (by kernel_rfl) (by kernel_rfl) ?_
  simp only [List.take_succ_cons, List.take_zero, List.drop_succ_cons, List.drop_zero]
  repeat (first
    | (refine wpStill_step (fun K hK => ?_); go_simp; refine hK _ ?_; clear hK K)
    | (refine wpStill_step (fun K hK => ?_); go_simp; with_reducible refine ⟨_, flipped (HT.out _), hK _ ?_⟩; clear hK K))
  refine wpStill_nil ?_
  change wpList _ _ _ _ _ w.drew
  clear hm2
  go_wp2_with (first
    | (go_at_call 62; (with_reducible refine (plus_any _ _ _ _ _).mono ?_); rintro e w' ⟨r', s', hr, hs, rfl, ⟨k, rfl⟩⟩; have HR := hide hr; have HS := hide hs; clear hr hs))
  go_end0
  refine ⟨rfl, r', s', HR.out, HS.out, ?_, ?_⟩
  · have := ((HO.out.drewN 1).drewN k).set_ 0 (.complex .f64 r' s')
    exact this
  · exact ((Chg.refl (W.one go) w).setCell (p := ⟨go, 0, none⟩) (.inl rfl) _).drewN _
def SumRel (w : World) (l : Nat → Nat × Nat) (by_ : Int) (k : Nat) (s9 : Value) (wr : World) : Prop :=
  ∃ i : Nat, s9 = .int .i64 (i : Int) ∧ i + k = 4 ∧ Blk wr w.heap.size 81 (row 4 (cpx l)) ∧ Blk wr (w.heap.size + 1) 3 #[.int .i64 by_] ∧
    (∃ r s, SumIs l by_ i r s ∧ Blk wr (w.heap.size + 2) 80 #[.complex .f64 r s]) ∧ Below w.heap.size w wr
def SumE (l : Nat → Nat × Nat) (by_ : Int) (w : World) (e : Ending) (w' : World) : Prop :=
  ∃ r s, SumIs l by_ 4 r s ∧ e = .returned (.complex .f64 r s) ∧ Below w.heap.size w w'
set_option maxRecDepth 100000 in
set_option maxHeartbeats 1000000 in
theorem sum_any (l : Nat → Nat × Nat) (by_ : Int) (h0 : -4 ≤ by_) (h1 : by_ ≤ 4) (w : World) :
    Calls Try.prog 60 #[.agg (row 4 (cpx l)), .int .i64 by_] w (SumE l by_ w) := by
  have hmf : ∀ (fn : Fn) (first cap : Array Value) (w : World), (Instr.makeFunc fn first cap).run Try.prog w = .ok (.func fn first cap) w := fun _ _ _ _ => rfl
  go_enter Try.func60, Try.ntmps60
  go_wp2_with fail
  go_loopg [9] 4 (fun k s9 wr => SumRel w l by_ k s9 wr)
  case atStart =>
    refine ⟨0, rfl, rfl, ?_, ?_, ⟨0, 0, ⟨rfl, rfl⟩, ?_⟩, ?_⟩
    · exact ((Blk.newAt w _ _ _ rfl).alloc _).alloc _
    · exact (Blk.newAt (w.alloc _) _ _ _ (by simp)).alloc _
    · exact Blk.newAt ((w.alloc _).alloc _) _ _ _ (by simp)
    · exact (((Below.refl _ _).alloc (Nat.le_refl _) _).alloc (by simp) _).alloc (by simp; omega) _
  case round =>
    obtain ⟨i, rfl, hk, hl, hb, ⟨r, s, hs, ho⟩, hbl⟩ := hrel
    have HL := hide hl
    have HB := hide hb
    have HS := hide hs
    have HO := hide ho
    have HBl := hide hbl
    clear hl hb hs hbl
    by_cases hi : i < 4
    · have hgk : 0 < gk := by omega
      clear ho
      go_wp2_with (first
        | (go_at_call 61; (with_reducible refine (sum1_any i hi _ _ _ l by_ h0 h1 r s _ HO.out HL.out HB.out).mono ?_); rintro e w' ⟨rfl, r', s', hr', hs', hbo', hch⟩; have HR' := hide hr'; have HS' := hide hs'; have HO' := hide hbo'; have HC := hide hch; clear hr' hs' hbo' hch))
      go_roundg (gk - 1)
      case measure => omega
      case rel =>
        exact ⟨i + 1, by go_num, by omega, HL.out.chg HC.out (by simp [W.one]), HB.out.chg HC.out (by simp [W.one]), ⟨r', s', ⟨r, s, HS.out, HR'.out, HS'.out⟩, HO'.out⟩,
          HBl.out.trans (HC.out.below HBl.out.size (by intro j hj; simp [W.one] at hj; omega))⟩
    · have hi' : decide (i < 4) = false := by simp; omega
      obtain rfl : i = 4 := by omega
      have co := ho.one_
      clear hi ho
      go_wp2_with fail
      go_ret
      exact ⟨r, s, HS.out, rfl, HBl.out⟩
end Go.Proofs.Ytadlfebpaijbhaa.Ph
