/- Do both say the same of all groups and slots? The law's 'same', walked. -/
import Derived.Test.YtadlfebpaijbhaaSmqDo2
namespace Go.Proofs.Ytadlfebpaijbhaa.Lv
open Go.RowKit Go.Proofs.Ytadlfebpaijbhaa.W
set_option linter.unusedVariables false
set_option linter.unusedSimpArgs false

def NegRel (w : World) (n k : Nat) (s5 : Value) (wr : World) : Prop := ∃ j : Nat, s5 = .int .i64 (j : Int) ∧ j + k = n ∧ wr = w
set_option maxRecDepth 100000 in
theorem has_neg (A : Option Addr) (n c : Nat) (i : Int) (hi : i < 0) (L : List Nat) (hn : n = L.length) (hn2 : n ≤ 1000) (w : World) (hr : RowV w (.slice A n c) L) :
    Calls Try.prog 46 #[.slice A n c, .int .i64 i] w fun e w' => e = .returned (.bool false) ∧ w' = w := by
  have HR := hide hr
  have HN := hide hn
  clear hr hn
  go_enter Try.func46, Try.ntmps46
  go_wp2_with fail
  go_loopg [5] n (fun k s5 wr => NegRel w n k s5 wr)
  case atStart => exact ⟨0, rfl, by omega, rfl⟩
  case round =>
    obtain ⟨j, rfl, hk, hw⟩ := hrel
    subst wr
    by_cases hj : j < n
    · have hgk : 0 < gk := by omega
      have hj' : (j : Int) < (n : Int) := by omega
      obtain ⟨a, ha⟩ : ∃ a, L[j]? = some a := ⟨_, List.getElem?_eq_getElem (by rw [← HN.out]; exact hj)⟩
      obtain ⟨bb, rfl, _, hc⟩ := HR.out.at ha
      have t1 : ((a : Int) == i) = false := by simp; omega
      clear ha
      go_wp2_with fail
      go_roundg (gk - 1)
      case measure => omega
      case rel => exact ⟨j + 1, by go_num, by omega, rfl⟩
    · have hj' : decide (j < n) = false := by simp; omega
      have hj'' : decide ((j : Int) < (n : Int)) = false := by simp; omega
      clear hj hk
      go_wp2_with fail
      go_ret
      exact ⟨rfl, rfl⟩
set_option maxRecDepth 100000 in
theorem where_neg (gx : Nat) (i : Int) (hi : i < 0) (R : Nat → List Nat) (hlen : ∀ l, l < 4 → (R l).length ≤ 1000) (w : World) (hq : RefAt w gx R) :
    Calls Try.prog 29 #[.pointer (some ⟨gx, 0, none⟩), .int .i64 i] w fun e w' => e = .returned (.int .i64 (-1)) ∧ w' = w := by
  obtain ⟨V, hq⟩ := hq
  have HQ := hide hq
  have HL := hide hlen
  have HI := hide hi
  have gl := hq.blk.lt
  clear hq hlen hi
  go_enter Try.func29, Try.ntmps29
  go_wp2_with fail
  go_loopg [5] 4 (fun k s5 wr => NegRel w 4 k s5 wr)
  case atStart => exact ⟨0, rfl, rfl, rfl⟩
  case round =>
    obtain ⟨l, rfl, hk, hw⟩ := hrel
    subst wr
    by_cases hl : l < 4
    · have hgk : 0 < gk := by omega
      have hl' : (l : Int) < 4 := by omega
      have cv := HQ.out.blk.at hl
      obtain ⟨A, c, hv⟩ := (HQ.out.row l hl).form
      have hr := HQ.out.row l hl
      rw [hv] at cv hr
      obtain ⟨n, hn⟩ : ∃ n, (R l).length = n := ⟨_, rfl⟩
      rw [hn] at cv hr
      have HC := hide (has_neg A n c i HI.out (R l) hn.symm (by rw [← hn]; exact HL.out l hl) w hr)
      clear hv hr hn
      go_wp2_with (first
        | (go_at_call 46; (with_reducible refine HC.out.mono ?_); rintro e wx ⟨rfl, hw⟩; subst wx))
      go_roundg (gk - 1)
      case measure => omega
      case rel => exact ⟨l + 1, by go_num, by omega, rfl⟩
    · have hl' : decide (l < 4) = false := by simp; omega
      have hl'' : decide ((l : Int) < 4) = false := by simp; omega
      clear hl hk
      go_wp2_with fail
      go_ret
      exact ⟨rfl, rfl⟩
def whI (R : Nat → List Nat) (i : Int) : Int := if 0 ≤ i then whV R i.toNat else -1
theorem where_int (gx : Nat) (i : Int) (R : Nat → List Nat) (hlen : ∀ l, l < 4 → (R l).length ≤ 1000) (w : World) (hq : RefAt w gx R) :
    Calls Try.prog 29 #[.pointer (some ⟨gx, 0, none⟩), .int .i64 i] w fun e w' => e = .returned (.int .i64 (whI R i)) ∧ w' = w := by
  unfold whI
  by_cases hi : 0 ≤ i
  · obtain ⟨j, rfl⟩ : ∃ j : Nat, i = (j : Int) := ⟨i.toNat, by omega⟩
    rw [if_pos hi, Int.toNat_natCast]
    exact where_any gx j R hlen w hq
  · rw [if_neg hi]
    exact where_neg gx i (by omega) R hlen w hq
theorem heat_where {n : Nat} {R : Nat → List Nat} (g : Good n R) (i : Int) : (∃ k : Nat, whI R i = (k : Int) ∧ heatV n R i = .tuple #[.int .i64 (k : Int), .bool true]) ∨ (whI R i = -1 ∧ heatV n R i = .tuple #[.int .i64 0, .bool false]) := by
  unfold whI heatV
  by_cases hi : 0 ≤ i
  · obtain ⟨j, rfl⟩ : ∃ j : Nat, i = (j : Int) := ⟨i.toNat, by omega⟩
    rw [if_pos hi, Int.toNat_natCast]
    unfold whV
    by_cases hw : wh R j < 4
    · have hj : j < n := g.lt _ hw j (wh_mem hw)
      rw [if_pos hw, if_pos ⟨hi, by omega, hw⟩]
      exact .inl ⟨_, rfl, rfl⟩
    · rw [if_neg hw, if_neg (fun h => hw h.2.2)]
      exact .inr ⟨rfl, rfl⟩
  · rw [if_neg hi, if_neg (fun h => hi h.1)]
    exact .inr ⟨rfl, rfl⟩
def SameRel (w : World) (k : Nat) (s5 s6 s7 s8 s9 s10 s11 : Value) (wr : World) : Prop := ∃ j : Nat, s5 = .int .i64 ((j : Int) - 1) ∧ j + k = 18 ∧ wr = w
set_option maxRecDepth 100000 in
set_option maxHeartbeats 4000000 in
theorem same_any (gp gq gh gx ga gb : Nat) (s : Sm) (w : World) (hp : PA w gp gq gh s) (hx : XA w gx ga gb s) :
    Calls Try.prog 13 #[.pointer (some ⟨gp, 0, none⟩), .pointer (some ⟨gx, 0, none⟩)] w fun e w' => e = .returned (.bool true) ∧ ∃ n, w' = w.drewN n := by
  have c0 := hx.c0
  have c1 := hx.c1
  have ct := hx.ct
  have HH := hide (fun i => heat_any gp gq gh s i w hp)
  have HW := hide (fun i => warmth_any gp gq gh s i w hp)
  have HXH := hide (fun i => where_int ga i s.H (len16 hx.ok.h (by omega)) w hx.q)
  have HXW := hide (fun i => where_int gb i s.L (len16 hx.ok.l (by omega)) w hx.h)
  have HCk := hide (fun n => clock_any gp gq gh s (w.drewN n) (hp.drewN n))
  have HGH := hide hp.ok.h
  have HGL := hide hp.ok.l
  clear hp hx
  go_enter Try.func13, Try.ntmps13
  go_wp2_with fail
  go_loopg [5, 6, 7, 8, 9, 10, 11] 18 (fun k s5 s6 s7 s8 s9 s10 s11 wr => SameRel w k s5 s6 s7 s8 s9 s10 s11 wr)
  case atStart => exact ⟨0, rfl, rfl, rfl⟩
  case round =>
    obtain ⟨j, rfl, hk, hw⟩ := hrel
    subst wr
    obtain ⟨J, hJ⟩ : ∃ J, (j : Int) - 1 = J := ⟨_, rfl⟩
    rw [hJ]
    by_cases hj : j < 18
    · have hgk : 0 < gk := by omega
      have hJ1 : J < 17 := by omega
      have eJ : IntKind.i64.wrap (J + 1) = J + 1 := IntWalk.i64_in _ (by omega)
      have HJ2 : Hid (J + 1 = ((j + 1 : Nat) : Int) - 1) := hide (by omega)
      have HhJ := hide (HH.out J)
      have HwJ := hide (HW.out J)
      have HxJ := hide (HXH.out J)
      have HyJ := hide (HXW.out J)
      have hk' : j + 1 + (gk - 1) = 18 := by omega
      clear hJ hj hk
      rcases heat_where HGH.out J with ⟨k, e1, e2⟩ | ⟨e1, e2⟩
      all_goals
        rw [e1] at HxJ
        rw [e2] at HhJ
        clear e1 e2
        rcases heat_where HGL.out J with ⟨m, e3, e4⟩ | ⟨e3, e4⟩
        all_goals
          rw [e3] at HyJ
          rw [e4] at HwJ
          clear e3 e4
          try (have u1 : decide ((0 : Int) ≤ (k : Int)) = true := by simp)
          try (have u2 : decide ((0 : Int) ≤ (m : Int)) = true := by simp)
          go_wp2_with (first
            | (go_at_call 11; (with_reducible refine HhJ.out.mono ?_); rintro e wx ⟨rfl, hw⟩; subst wx)
            | (go_at_call 29; (with_reducible refine HxJ.out.mono ?_); rintro e wx ⟨rfl, hw⟩; subst wx)
            | (go_at_call 29; (with_reducible refine HyJ.out.mono ?_); rintro e wx ⟨rfl, hw⟩; subst wx)
            | (go_at_call 30; (with_reducible refine HwJ.out.mono ?_); rintro e wx ⟨rfl, hw⟩; subst wx))
          go_roundg (gk - 1)
          case measure => omega
          case rel => exact ⟨j + 1, by rw [HJ2.out], hk', rfl⟩
    · have hJ1 : decide (J < 17) = false := by simp; omega
      clear hJ hj hk
      go_upto_region 12 with fail
      go_quiet (first | (go_at_call 21; exact Calls.quiet_of_same (HCk.out _)))
      go_wp2_with fail
      go_ret
      exact ⟨rfl, _, rfl⟩
end Go.Proofs.Ytadlfebpaijbhaa.Lv
