/- Which group to bring in: walked, of both. -/
import Derived.Test.YtadlfebpaijbhaaSmqSame
import Derived.Test.YtadlfebpaijbhaaSmqPick
import Derived.Laws.EntriesVeiled
namespace Go.Proofs.Ytadlfebpaijbhaa.Lv
open Go.RowKit Go.Proofs.Ytadlfebpaijbhaa.W Go.Proofs.Ytadlfebpaijbhaa.Dice
set_option linter.unusedVariables false
set_option linter.unusedSimpArgs false

/-- A group's weight; the weights of the first ones. -/
def hl (R : Nat → List Nat) (g : Nat) : Nat := if wh R g < 4 then wh R g else 0
def wt (R : Nat → List Nat) (C : Nat → Bool) (g : Nat) : Int := if C g then 0 else (hl R g : Int) * (hl R g : Int)
def wts (R : Nat → List Nat) (C : Nat → Bool) : Nat → List Int
  | 0 => []
  | i + 1 => wts R C i ++ [wt R C i]
theorem wts_len (R : Nat → List Nat) (C : Nat → Bool) : ∀ i, (wts R C i).length = i
  | 0 => rfl
  | i + 1 => by simp [wts, wts_len R C i]
theorem hl_le (R : Nat → List Nat) (g : Nat) : hl R g ≤ 3 := by unfold hl; split <;> omega
theorem wt_le (R : Nat → List Nat) (C : Nat → Bool) (g : Nat) : 0 ≤ wt R C g ∧ wt R C g ≤ 9 := by
  have h := hl_le R g
  unfold wt
  split
  · omega
  · generalize hl R g = l at h ⊢
    have : l = 0 ∨ l = 1 ∨ l = 2 ∨ l = 3 := by omega
    rcases this with rfl | rfl | rfl | rfl <;> decide
theorem wts_le (R : Nat → List Nat) (C : Nat → Bool) : ∀ i, ∀ x ∈ wts R C i, 0 ≤ x ∧ x ≤ 1048576
  | 0, x, h => by cases h
  | i + 1, x, h => by
    rcases List.mem_append.1 h with h | h
    · exact wts_le R C i x h
    · have := wt_le R C i
      simp at h
      subst h
      omega
theorem wts_get (R : Nat → List Nat) (C : Nat → Bool) (g : Nat) : ∀ i, g < i → (wts R C i)[g]? = some (wt R C g)
  | 0, h => absurd h (by omega)
  | i + 1, h => by
    unfold wts
    by_cases hg : g < i
    · rw [List.getElem?_append_left (by rw [wts_len]; exact hg)]
      exact wts_get R C g i hg
    · obtain rfl : g = i := by omega
      rw [List.getElem?_append_right (by rw [wts_len]; omega), wts_len]
      simp
def lvF (gq : Nat) : Value := .func (.func 26) #[.pointer (some ⟨gq, 0, none⟩)] #[]
theorem prom1_any (gp gq gh : Nat) (s : Sm) (C : Nat → Bool) (g : Nat) (hg : g < 16) (gb gc : Nat) (w : World) (h : PA w gp gq gh s)
    (cb : w.cell? ⟨gb, 0, none⟩ = some (lvF gq)) (cc : w.cell? ⟨gc, g, none⟩ = some (.bool (C g))) :
    Calls Try.prog 27 #[.int .i64 (g : Int), .pointer (some ⟨gb, 0, none⟩), .pointer (some ⟨gc, 0, none⟩)] w fun e w' => e = .returned (.int .i64 (wt s.H C g)) ∧ w' = w := by
  have hgi : (g : Int) < 16 := by omega
  obtain ⟨l, b, hv, hl3, hw⟩ : ∃ (l : Nat) (b : Bool), heatV 16 s.H (g : Int) = .tuple #[.int .i64 (l : Int), .bool b] ∧ l ≤ 3 ∧ hl s.H g = l := by
    refine ⟨hl s.H g, decide (wh s.H g < 4), ?_, hl_le _ _, rfl⟩
    unfold heatV hl
    rw [Int.toNat_natCast]
    by_cases hw : wh s.H g < 4
    · rw [if_pos ⟨by omega, by omega, hw⟩, if_pos hw]
      simp [hw]
    · rw [if_neg (fun h => hw h.2.2), if_neg hw]
      simp [hw]
  have HL := hide (level_any gq 16 s.H (g : Int) w h.q)
  rw [hv] at HL
  have e1 : IntKind.i64.wrap ((l : Int) * (l : Int)) = (l : Int) * (l : Int) := by
    have : l = 0 ∨ l = 1 ∨ l = 2 ∨ l = 3 := by omega
    rcases this with rfl | rfl | rfl | rfl <;> decide
  unfold lvF at cb
  have hwt : wt s.H C g = if C g then 0 else (l : Int) * (l : Int) := by unfold wt; rw [hw]
  obtain ⟨x, hx⟩ : ∃ x, wt s.H C g = x := ⟨_, rfl⟩
  rw [hx] at hwt ⊢
  obtain ⟨c, hc⟩ : ∃ c, C g = c := ⟨_, rfl⟩
  rw [hc] at hwt cc
  clear h hv hw hx hc
  cases c with
  | true =>
    have hx : x = 0 := hwt
    subst hx
    clear hwt
    go_enter Try.func27, Try.ntmps27
    go_wp2_with (first
      | (go_at_call 26; (with_reducible refine HL.out.mono ?_); rintro e wx ⟨rfl, hw⟩; subst wx))
    go_ret
    exact ⟨rfl, rfl⟩
  | false =>
    have hx : x = (l : Int) * (l : Int) := hwt
    subst hx
    clear hwt
    go_enter Try.func27, Try.ntmps27
    go_wp2_with (first
      | (go_at_call 26; (with_reducible refine HL.out.mono ?_); rintro e wx ⟨rfl, hw⟩; subst wx))
    go_ret
    exact ⟨rfl, rfl⟩
def PrRel (w : World) (R : Nat → List Nat) (C : Nat → Bool) (gq : Nat) (k : Nat) (s10 s11 s23 : Value) (wr : World) : Prop := ∃ (i : Nat) (A : Option Addr) (c : Nat), s23 = .int .i64 (i : Int) ∧ s10 = .slice A i c ∧ i + k = 16 ∧
  Blk wr w.heap.size 35 (row 16 fun i => .bool (C i)) ∧ Blk wr (w.heap.size + 1) 33 #[lvF gq] ∧ Below w.heap.size w wr ∧ w.heap.size + 2 ≤ wr.heap.size ∧ wr.ownsRow (w.heap.size + 2) 3 1 (.slice A i c) i ((wts R C i).map (Value.int .i64))
set_option maxRecDepth 100000 in
set_option maxHeartbeats 1000000 in
theorem promote_core (gp gq gh : Nat) (s : Sm) (C : Nat → Bool) (draw g : Int) (b : Bool) (w : World) (h : PA w gp gq gh s) (v2 v3 : Int) (hb : b = (v3 == 0))
    (hpk : ∀ (A : Option Addr) (c : Nat) (W : World), IntsAt W W.heap.size A 16 (wts s.H C 16) → Calls Try.prog 28 #[.int .i64 draw, .slice A 16 c] W fun e w' => e = .returned (.tuple #[.int .i64 g, .int .i64 v2, .int .i64 v3]) ∧ ∃ k, w' = W.drewN k) :
    Calls Try.prog 12 #[.pointer (some ⟨gp, 0, none⟩), .agg (row 16 fun i => .bool (C i)), .int .i64 draw] w fun e w' => e = .returned (.tuple #[.int .i64 g, .bool b]) ∧ Below w.heap.size w w' := by
  obtain ⟨i0, hi0, hz0, hz1, hz2⟩ := info3 int_info
  have HP := hide h
  have HPk := hide hpk
  have c0 := h.c0
  have hmf : ∀ (fn : Fn) (first cap : Array Value) (w : World), (Instr.makeFunc fn first cap).run Try.prog w = .ok (.func fn first cap) w := fun _ _ _ _ => rfl
  clear h hpk
  have hz : ∀ w, (zeroValue 33).run Try.prog w = .ok .nilFunc w := fun w => by kernel_rfl
  go_enter Try.func12, Try.ntmps12
  go_upto_region 3 with fail
  have HP1 : Hid (PA (w.alloc (.cells (row 16 fun i => .bool (C i)) 35)) gp gq gh s) := hide (HP.out.later ((Below.refl w.heap.size w).alloc (Nat.le_refl _) _))
  have HC1 : Hid (Blk (w.alloc (.cells (row 16 fun i => .bool (C i)) 35)) w.heap.size 35 (row 16 fun i => .bool (C i))) := hide (Blk.newAt w _ _ _ rfl)
  have HB1 := hide ((Below.refl w.heap.size w).alloc (Nat.le_refl _) (.cells (row 16 fun i => .bool (C i)) 35))
  have hs1 : (w.alloc (.cells (row 16 fun i => .bool (C i)) 35)).heap.size = w.heap.size + 1 := by simp
  have HS1 := hide hs1
  clear hs1
  generalize w.alloc (.cells (row 16 fun i => .bool (C i)) 35) = W1 at HP1 HC1 HB1 HS1 ⊢
  clear c0
  have c0 := HP1.out.c0
  go_upto_region 4 with fail
  have hs1 := HS1.out
  have HC2 := hide (HC1.out.alloc (.cells #[lvF gq] 33))
  have HF2 : Hid (Blk (W1.alloc (.cells #[lvF gq] 33)) (w.heap.size + 1) 33 #[lvF gq]) := hide (Blk.newAt W1 _ _ _ hs1.symm)
  have HB2 := hide (HB1.out.alloc HB1.out.size (.cells #[lvF gq] 33))
  have HS2 : Hid (w.heap.size + 2 ≤ (W1.alloc (.cells #[lvF gq] 33)).heap.size) := hide (by simp; omega)
  change Code.wp _ _ _ _ (W1.alloc (.cells #[lvF gq] 33))
  obtain ⟨N, hN⟩ : ∃ N, W1.heap.size = N := ⟨_, rfl⟩
  have hN2 : N = w.heap.size + 1 := by omega
  rw [hN]
  subst hN2
  generalize W1.alloc (.cells #[lvF gq] 33) = W2 at HC2 HF2 HB2 HS2 ⊢
  clear c0 hs1 hN HS1 HB1 HC1 HP1
  go_wp2_with fail
  go_loopg [10, 11, 23] 16 (fun k s10 s11 s23 wr => PrRel w s.H C gq k s10 s11 s23 wr)
  case atStart => exact ⟨0, none, 0, rfl, rfl, rfl, HC2.out, HF2.out, HB2.out, HS2.out, ⟨rfl, .inl ⟨rfl, rfl⟩⟩⟩
  case round =>
    obtain ⟨i, A, c, rfl, rfl, hk, h1, h2, h3, h4, h5⟩ := hrel
    clear HC2 HF2 HB2 HS2
    have H1 := hide h1
    have H2 := hide h2
    have H3 := hide h3
    have H4 := hide h4
    have H5 := hide h5
    clear h1 h2 h3 h4 h5
    by_cases hi : i < 16
    · have hi' : (i : Int) < 16 := by omega
      have hgk : 0 < gk := by omega
      have HM := hide (prom1_any gp gq gh s C i hi (w.heap.size + 1) w.heap.size wr (HP.out.later H3.out) H2.out.one_ (H1.out.at hi))
      obtain ⟨x, hx⟩ : ∃ x, wt s.H C i = x := ⟨_, rfl⟩
      rw [hx] at HM
      have HX := hide hx
      have hk' : i + 1 + (gk - 1) = 16 := by omega
      clear hx hk
      go_wp2_with (first
        | (go_at_call 27; (with_reducible refine HM.out.mono ?_); rintro e wx ⟨rfl, hw⟩; subst wx)
        | (at_builtin; refine wpList_append_at _ rfl (.tmp 26) (.tmp 30) 41 rfl (w.heap.size + 2) 3 i0 (.int .i64 0) 1 8 Try.underlying41 hi0 hz0 hz1 hz2 rfl (by decide) _ i _ rfl (by exact H5.out.alloc _) ⟨wr.heap.size, 0, none⟩ 1 1 [.int .i64 x] rfl rfl (by exact new_cell _ _ _ _ rfl) (by simp [Value.oneCell']) (by simp [maxLen]; omega) (by omega) (by have := H4.out; simp; omega) ?_; intro v1 w1 hown1 hg1 hat1; have HO1 := hide hown1; have HG1 := hide hg1; obtain ⟨A1, c1, hv1⟩ := own_form hown1; subst hv1; clear hown1 hat1 hg1))
      have h4 := H4.out
      have own0 := H5.out.alloc (.cells #[.int .i64 x] 3)
      have hgs : (wr.alloc (.cells #[.int .i64 x] 3)).grownBy w1 (Value.slice A i c).ownBlock := HG1.out
      go_roundg (gk - 1)
      case measure => omega
      case rel =>
        refine ⟨i + 1, A1, c1, by go_num, rfl, hk', kept_blk own0 hgs (H1.out.alloc _) (by omega), kept_blk own0 hgs (H2.out.alloc _) (by omega), kept_below own0 hgs (H3.out.alloc H3.out.size _) (by omega) (by simp; omega), ?_, ?_⟩
        · have := hgs.size
          simp at this
          omega
        · have h := HO1.out
          rw [show (wts s.H C (i + 1)).map (Value.int .i64) = (wts s.H C i).map (Value.int .i64) ++ [.int .i64 x] by rw [← HX.out]; simp [wts]]
          exact h
    · obtain rfl : i = 16 := by omega
      have HK := hide (HPk.out A c wr (IntsAt.of_own H5.out))
      clear hi hk
      go_wp2_with (first
        | (go_at_call 28; (with_reducible refine HK.out.mono ?_); rintro e wx ⟨rfl, d, hw⟩; subst wx))
      go_ret2
      rw [hb]
      exact ⟨rfl, below_drewN H3.out d⟩
end Go.Proofs.Ytadlfebpaijbhaa.Lv
