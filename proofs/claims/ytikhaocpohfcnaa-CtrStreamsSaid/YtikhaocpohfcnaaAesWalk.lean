/- Contracts of aes's bytes' images, and of its steps on states. -/
import Derived.Test.YtikhaocpohfcnaaAesPlain
import Derived.Test.YtikhaocpohfcnaaRow
import Derived.Deep.DeepCutAuto
import Derived.Deep.CutRange
import Derived.StillTailTactics
import Derived.Deep.QuietTactic
import Derived.BigQuiet
import Derived.IntWalk
namespace Go.Proofs.Ytikhaocpohfcnaa.Ae
open Go.RowKit Go.Proofs.Ytikhaocpohfcnaa.W Go.Proofs.Ytikhaocpohfcnaa.Gf
set_option linter.unusedVariables false
set_option linter.unusedSimpArgs false

theorem flipped {P : Program} {f : FuncId} {args : Array Value} {w : World} {v : Value} (h : Calls P f args w fun e w' => e = .returned v ∧ w = w') : Calls P f args w fun e w' => e = .returned v ∧ w' = w :=
  h.mono fun _ _ ⟨he, hw⟩ => ⟨he, hw.symm⟩
theorem xor_ad (a b : BitVec 8) : bits BinOp.xor IntKind.u8 (a.toNat : Int) (b.toNat : Int) = ((ad a b).toNat : Int) := xor_u8 a b
theorem xor99 (a : BitVec 8) : bits BinOp.xor IntKind.u8 (a.toNat : Int) 99 = ((ad a 99#8).toNat : Int) := xor_u8 a 99#8
theorem xor5 (a : BitVec 8) : bits BinOp.xor IntKind.u8 (a.toNat : Int) 5 = ((ad a 5#8).toNat : Int) := xor_u8 a 5#8
theorem box_any (a : BitVec 8) (w : World) : Calls Try.prog 36 #[.int .u8 (a.toNat : Int)] w fun e w' => e = .returned (.int .u8 ((sb a).toNat : Int)) ∧ Below w.heap.size w w' := by
  have hmf : ∀ (fn : Fn) (first cap : Array Value) (w : World), (Instr.makeFunc fn first cap).run Try.prog w = .ok (.func fn first cap) w := fun _ _ _ _ => rfl
  have HT := hide (fun n W => turn_any (iv a) n W)
  have x1 := xor_ad
  have x2 := xor99
  go_enter Try.func36, Try.ntmps36
  go_wp2_with (first
    | (go_at_call 49; (with_reducible refine (inv_any _ _).mono ?_); rintro e w1 ⟨rfl, hb⟩; have HB := hide hb; clear hb)
    | (go_at_call 50; (with_reducible refine (HT.out _ _).mono ?_); rintro e w' ⟨rfl, ⟨kd, rfl⟩⟩))
  go_ret
  exact ⟨ret_u8 rfl, below_drewN HB.out _⟩

/-! ### A key's block: its words, all images, and whose they are. -/
def keyF (kf : Nat → BitVec 8) : Nat → BitVec 8 := fun c => if c < 240 then kf c else if c < 496 then sb (BitVec.ofNat 8 (c - 240)) else ub (BitVec.ofNat 8 (c - 496))
def KeyAt (w : World) (g : Nat) (kf : Nat → BitVec 8) : Prop := Blk w g 65 (row 752 (u8s (keyF kf)))
theorem KeyAt.word {w : World} {g : Nat} {kf : Nat → BitVec 8} (h : KeyAt w g kf) {c : Nat} (hc : c < 240) : w.cell? ⟨g, c, none⟩ = some (.int .u8 ((kf c).toNat : Int)) := by
  have := Blk.at h (i := c) (by omega)
  rw [this]
  simp [u8s, keyF, hc]
theorem KeyAt.box {w : World} {g : Nat} {kf : Nat → BitVec 8} (h : KeyAt w g kf) (b : BitVec 8) : w.cell? ⟨g, 240 + b.toNat, none⟩ = some (.int .u8 ((sb b).toNat : Int)) := by
  have hb := b.isLt
  have := Blk.at h (i := 240 + b.toNat) (by omega)
  rw [this]
  simp only [u8s, keyF]
  rw [if_neg (by omega), if_pos (by omega), Nat.add_sub_cancel_left, BitVec.ofNat_toNat, BitVec.setWidth_eq]
theorem KeyAt.not_ {w : World} {g : Nat} {kf : Nat → BitVec 8} (h : KeyAt w g kf) (b : BitVec 8) : w.cell? ⟨g, 496 + b.toNat, none⟩ = some (.int .u8 ((ub b).toNat : Int)) := by
  have hb := b.isLt
  have := Blk.at h (i := 496 + b.toNat) (by omega)
  rw [this]
  simp only [u8s, keyF]
  rw [if_neg (by omega), if_neg (by omega), Nat.add_sub_cancel_left, BitVec.ofNat_toNat, BitVec.setWidth_eq]
theorem u8_one (s : Nat → BitVec 8) (i : Nat) : (u8s s i).oneCell' = true := rfl
theorem info16 : (Try.prog.info? 71).map (·.size) = some 16 := by kernel_rfl
theorem zero16 (w : World) : (zeroValue 71).run Try.prog w = .ok (.agg (row 16 (u8s fun _ => 0#8))) w := by kernel_rfl
/-- The first i bytes added. -/
def mixA (f s : St) (i : Nat) : St := fun j => if j < i then f j else s j
theorem mixA_succ (f s : St) (i : Nat) : upd (mixA f s i) i (f i) = mixA f s (i + 1) := by
  funext j
  simp only [upd, mixA]
  by_cases h : j = i
  · subst h; rw [if_pos rfl, if_pos (by omega)]
  · rw [if_neg h]
    by_cases h2 : j < i
    · rw [if_pos h2, if_pos (by omega)]
    · rw [if_neg h2, if_neg (by omega)]
theorem mixA_at (f s : St) (i : Nat) : mixA f s i i = s i := by simp [mixA]
structure TwoAt (w : World) (g : Nat) (kf s z : St) (wr : World) : Prop where
  key : KeyAt wr g kf
  a : Blk wr w.heap.size 71 (row 16 (u8s s))
  z : Blk wr (w.heap.size + 1) 71 (row 16 (u8s z))
  below : Below w.heap.size w wr
def AddRel (w : World) (g : Nat) (kf s : St) (n : Nat) (k : Nat) (s8 : Value) (wr : World) : Prop :=
  ∃ i : Nat, s8 = .int .i64 (i : Int) ∧ i + k = 16 ∧ TwoAt w g kf (mixA (addS kf n s) s i) (fun _ => 0#8) wr
set_option maxRecDepth 100000 in
set_option maxHeartbeats 1000000 in
theorem kadd_any (g n : Nat) (hn : n < 15) (kf s : St) (w : World) (hk : KeyAt w g kf) :
    Calls Try.prog 40 #[.pointer (some ⟨g, 0, none⟩), .agg (row 16 (u8s s)), .int .i64 (n : Int)] w fun e w' => e = .returned (.agg (row 16 (u8s (addS kf n s)))) ∧ Below w.heap.size w w' := by
  have hz := zero16
  have HK := hide hk
  have gl := hk.lt
  clear hk
  go_enter Try.func40, Try.ntmps40
  go_wp2_with fail
  go_loopg [8] 16 (fun k s8 wr => AddRel w g kf s n k s8 wr)
  case atStart =>
    refine ⟨0, rfl, rfl, ?_, ?_, ?_, ?_⟩
    · exact (Blk.alloc HK.out _).alloc _
    · exact (Blk.newAt w _ _ _ rfl).alloc _
    · exact Blk.newAt (w.alloc _) _ _ _ (by simp)
    · exact ((Below.refl _ _).alloc (Nat.le_refl _) _).alloc (by simp) _
  case round =>
    obtain ⟨i, rfl, hk, hs⟩ := hrel
    have HS := hide hs
    clear hs
    by_cases hi : i < 16
    · have hi' : (i : Int) < 16 := by omega
      have hgk : 0 < gk := by omega
      obtain ⟨c, hc⟩ : ∃ c, 16 * n + i = c := ⟨_, rfl⟩
      have hc240 : c < 240 := by omega
      have ck := HS.out.key.word hc240
      have ca := HS.out.a.at hi
      have fa := HS.out.a.frozen i
      have gne : ¬ g = w.heap.size := by omega
      simp only [u8s, mixA_at] at ca
      obtain ⟨x, hx⟩ : ∃ x, s i = x := ⟨_, rfl⟩
      obtain ⟨y, hy⟩ : ∃ x, kf c = x := ⟨_, rfl⟩
      have HV : Hid (addS kf n s i = ad x y) := hide (by unfold addS ad; rw [hc, hx, hy])
      rw [hx] at ca
      rw [hy] at ck
      obtain ⟨q, hq⟩ : ∃ q : Nat, i / 4 = q := ⟨_, rfl⟩
      obtain ⟨r, hr⟩ : ∃ r : Nat, i % 4 = r := ⟨_, rfl⟩
      obtain ⟨m, hm⟩ : ∃ m : Nat, 4 * n + q = m := ⟨_, rfl⟩
      have hmc : c = m * 4 + r := by omega
      rw [hmc] at ck
      have e1 : IntKind.i64.wrap (4 * (n : Int)) = 4 * (n : Int) := IntWalk.i64_in _ (by omega)
      have e2 : IntKind.i64.wrap ((i : Int) / 4) = (q : Int) := by rw [← hq]; exact IntWalk.i64_in _ (by omega)
      have e3 : IntKind.i64.wrap (4 * (n : Int) + (q : Int)) = (m : Int) := by rw [← hm]; rw [show 4 * (n : Int) + (q : Int) = ((4 * n + q : Nat) : Int) by simp]; exact IntWalk.i64_in _ (by omega)
      have e4 : Int.tmod (i : Int) 4 = (r : Int) := by rw [Int.tmod_eq_emod_of_nonneg (by omega)]; omega
      have hm60 : (m : Int) < 60 := by omega
      have hr4 : (r : Int) < 4 := by omega
      have hxr := xor_ad x y
      clear hx hy hc hq hr hm hmc
      go_wp2_with fail
      refine wp_region_still_tail 17 (by kernel_rfl) (by kernel_rfl) ?_
      simp only [List.take_succ_cons, List.take_zero, List.drop_succ_cons, List.drop_zero]
      repeat (refine wpStill_step (fun K hK => ?_); go_simp; refine hK _ ?_; clear hK K)
      refine wpStill_nil ?_
      change wpList _ _ _ _ _ wr.drew
      clear e1 e2 e3 e4 hxr
      go_wp2_with fail
      go_roundg (gk - 1)
      case measure => omega
      case rel =>
        have h1 := HS.out.a.upd i (.int .u8 ((ad x y).toNat : Int))
        rw [u8s_upd, ← HV.out, mixA_succ] at h1
        rw [← HV.out]
        exact ⟨i + 1, by go_num, by omega, Blk.far HS.out.key (by omega) _, h1, HS.out.z.far (by simp) _, below_drewN (HS.out.below.setCell (p := ⟨w.heap.size, i, none⟩) (Nat.le_refl _) _) 1⟩
    · have hi' : decide (i < 16) = false := by simp; omega
      have hi'' : decide ((i : Int) < 16) = false := by simp; omega
      obtain rfl : i = 16 := by omega
      clear hi
      go_wp2_with (first
        | (with_reducible refine wpList_load_all rfl 71 (.tmp 4) rfl w.heap.size rfl 71 16 _ _ HS.out.a rfl Try.underlying71 info16 ?_)
        | (with_reducible refine wpList_store_all rfl 71 (.tmp 6) (.tmp 30) rfl (w.heap.size + 1) rfl 71 16 _ _ rfl HS.out.z info16 (fun j _ => u8_one _ j) ?_))
      refine bodyPost_ret (results_cell_sub rfl _ _ (w.heap.size + 1) 71 16 _ _ rfl (HS.out.z.row_ _) rfl Try.underlying71 info16) rfl ⟨?_, below_setRow HS.out.below (by omega) _⟩
      have : row 16 (u8s (mixA (addS kf n s) s 16)) = row 16 (u8s (addS kf n s)) := row_congr (fun j hj => by simp [u8s, mixA, hj])
      rw [← this]
end Go.Proofs.Ytikhaocpohfcnaa.Ae
