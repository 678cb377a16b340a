/- The law of dice's fair picks, walked. -/
import Derived.Test.YthplghohhccojaaDicePlain2
import Derived.Test.YthplghohhccojaaBytes
namespace Go.Proofs.Ythplghohhccojaa.Dice
open Go.RowKit Go.Proofs.Ythplghohhccojaa.W
set_option linter.unusedVariables false
set_option linter.unusedSimpArgs false

/-- How many of the draws below k pick place i. -/
def gotF (W : List Int) (k : Int) (i : Nat) : Int :=
  if k ≤ isum (W.take i) then 0 else if isum (W.take (i + 1)) ≤ k then W.getD i 0 else k - isum (W.take i)
theorem plc_at : ∀ (W : List Int) (k : Int), (∀ x ∈ W, 0 ≤ x) → 0 ≤ k → k < isum W → plc k W < W.length ∧ isum (W.take (plc k W)) ≤ k ∧ k < isum (W.take (plc k W + 1))
  | [], k, _, h0, h1 => by simp [isum] at h1; omega
  | x :: l, k, h, h0, h1 => by
    have hx := h x (List.mem_cons_self ..)
    unfold plc
    split
    · rename_i hk
      refine ⟨by simp, ?_, ?_⟩
      · simpa [isum] using h0
      · simpa [isum] using hk
    · rename_i hk
      simp only [isum] at h1
      have ih := plc_at l (k - x) (fun y hy => h y (List.mem_cons_of_mem _ hy)) (by omega) (by omega)
      refine ⟨by have := ih.1; simp; omega, ?_, ?_⟩
      · have := ih.2.1
        simp only [List.take_succ_cons, isum]
        omega
      · have := ih.2.2
        simp only [List.take_succ_cons, isum]
        omega
theorem isum_mono (W : List Int) (h : ∀ x ∈ W, 0 ≤ x) (i j : Nat) (hij : i ≤ j) : isum (W.take i) ≤ isum (W.take j) := by
  induction j with
  | zero => rw [show i = 0 from by omega]; exact Int.le_refl _
  | succ j ih =>
    rcases Nat.lt_or_ge i (j + 1) with hlt | hge
    · have h1 := ih (by omega)
      rcases Nat.lt_or_ge j W.length with hj | hj
      · have h2 := isum_take_succ W j W[j] (List.getElem?_eq_getElem hj)
        have h3 := h W[j] (List.getElem_mem hj)
        omega
      · rw [List.take_of_length_le (show W.length ≤ j + 1 by omega)]
        rw [List.take_of_length_le hj] at h1
        exact h1
    · rw [show i = j + 1 from by omega]; exact Int.le_refl _
theorem gotF_step (W : List Int) (h : ∀ x ∈ W, 0 ≤ x) (k : Int) (h0 : 0 ≤ k) (h1 : k < isum W) (i : Nat) (hi : i < W.length) :
    gotF W (k + 1) i = gotF W k i + (if i = plc k W then 1 else 0) := by
  obtain ⟨p0, p1, p2⟩ := plc_at W k h h0 h1
  have hs := isum_take_succ W i W[i] (List.getElem?_eq_getElem hi)
  have hg : W.getD i 0 = W[i] := by rw [List.getD_eq_getElem?_getD, List.getElem?_eq_getElem hi]; rfl
  have hm := isum_mono W h i (i + 1) (by omega)
  unfold gotF
  rw [hg]
  by_cases he : i = plc k W
  · rw [if_pos he]
    rw [← he] at p1 p2
    repeat split
    all_goals omega
  · rw [if_neg he]
    rcases Nat.lt_or_ge i (plc k W) with hlt | hge
    · have h2 := isum_mono W h (i + 1) (plc k W) (by omega)
      repeat split
      all_goals omega
    · have h2 := isum_mono W h (plc k W + 1) i (by omega)
      repeat split
      all_goals omega
theorem gotF_zero (W : List Int) (h : ∀ x ∈ W, 0 ≤ x) (i : Nat) : gotF W 0 i = 0 := by
  have := isum_mono W h 0 i (by omega)
  unfold gotF
  rw [if_pos (by simpa [isum] using this)]
theorem gotF_end (W : List Int) (h : ∀ x ∈ W, 0 ≤ x) (i : Nat) (hi : i < W.length) : gotF W (isum W) i = W[i] := by
  have hs := isum_take_succ W i W[i] (List.getElem?_eq_getElem hi)
  have hg : W.getD i 0 = W[i] := by rw [List.getD_eq_getElem?_getD, List.getElem?_eq_getElem hi]; rfl
  have h1 := isum_mono W h (i + 1) W.length (by omega)
  rw [List.take_length] at h1
  have h2 := h W[i] (List.getElem_mem hi)
  unfold gotF
  rw [hg]
  repeat split
  all_goals omega

theorem isum_snoc (l : List Int) (x : Int) : isum (l ++ [x]) = isum l + x := by
  induction l with
  | nil => simp [isum]
  | cons y l ih => simp only [List.cons_append, isum, ih]; omega
def eight : Array Value := #[.int .i64 0, .int .i64 0, .int .i64 0, .int .i64 0, .int .i64 0, .int .i64 0, .int .i64 0, .int .i64 0]
theorem zero_got (w : World) : (zeroValue 24).run Try.prog w = .ok (.agg eight) w := by kernel_rfl
/-- The weights: each byte's rest by nine. -/
def wts (L : List (BitVec 8)) : List Int := L.map fun b => (b.toNat : Int) % 9
theorem wts_ok (L : List (BitVec 8)) : ∀ x ∈ wts L, 0 ≤ x ∧ x ≤ 8 := by
  intro x hx
  obtain ⟨b, _, rfl⟩ := List.mem_map.1 hx
  omega

def FairFill (w : World) (L : List (BitVec 8)) (n k : Nat) (s3 s4 s5 : Value) (wr : World) : Prop :=
  ∃ (i : Nat) (A : Option Addr) (c : Nat), s5 = .int .i64 (i : Int) ∧ s3 = .slice A i c ∧ s4 = .int .i64 (isum (wts (L.take i))) ∧ i + k = 8 ∧ i ≤ n ∧
    wr.ownsRow w.heap.size 3 1 (.slice A i c) i ((wts (L.take i)).map (Value.int .i64)) ∧ Below w.heap.size w wr
/-- The counts lie in block g. -/
def Got (w : World) (g : Nat) (W : List Int) (k : Int) : Prop :=
  ∃ cs : Array Value, Blk w g 24 cs ∧ cs.size = 8 ∧ ∀ i, i < W.length → cs[i]? = some (.int .i64 (gotF W k i))
theorem Got.set {w : World} {g : Nat} {W : List Int} {k : Int} (h : Got w g W k) (hW : ∀ x ∈ W, 0 ≤ x) (h0 : 0 ≤ k) (h1 : k < isum W) (h8 : W.length ≤ 8) (v : Int) (hv : v = gotF W k (plc k W) + 1) :
    Got (w.setCell ⟨g, plc k W, none⟩ (.int .i64 v)) g W (k + 1) := by
  obtain ⟨cs, c1, c2, c3⟩ := h
  have hp := (plc_at W k hW h0 h1).1
  refine ⟨_, c1.set_ _ _, by simpa using c2, fun i hi => ?_⟩
  rw [Array.getElem?_setIfInBounds, gotF_step W hW k h0 h1 i hi]
  by_cases he : plc k W = i
  · rw [if_pos he, if_pos (by omega), if_pos he.symm, hv, he]
  · rw [if_neg he, if_neg (fun e => he e.symm), Int.add_zero]
    exact c3 i hi
def FairDraw (w w1 : World) (g : Nat) (W : List Int) (k : Nat) (s7 : Value) (wr : World) : Prop :=
  ∃ j : Nat, s7 = .int .i64 (j : Int) ∧ (j : Int) + k = isum W ∧ Got wr g W j ∧ Below g w1 wr ∧ Below w.heap.size w wr
def FairTell (n k : Nat) (s11 : Value) (w2 wr : World) : Prop :=
  ∃ i q : Nat, s11 = .int .i64 (i : Int) ∧ i + k = n ∧ wr = w2.drewN q

set_option maxRecDepth 100000 in
set_option maxHeartbeats 2000000 in
theorem diceFair_walk (A : Option Addr) (n c : Nat) (L : List (BitVec 8)) (w : World) (hA : BytesAt w w.heap.size A n L) (hn : n ≤ maxLen) :
    Calls Try.prog 3 #[.slice A n c] w fun e w' => e = .returned (.bool true) ∧ Below w.heap.size w w' := by
  unfold maxLen at hn
  obtain ⟨i0, hi, hz0, hz1, hz2⟩ := info_parts int_info
  have HA := hide hA
  clear hA
  go_enter Try.func3, Try.ntmps3
  go_wp2_with fail
  go_loopg [3, 4, 5] 8 (fun k s3 s4 s5 wr => FairFill w L n k s3 s4 s5 wr)
  case atStart => exact ⟨0, none, 0, rfl, rfl, rfl, by omega, by omega, ⟨rfl, .inl ⟨rfl, rfl⟩⟩, Below.refl _ _⟩
  case round =>
    obtain ⟨i, A', c', rfl, rfl, rfl, hk, hin, hown, hb⟩ := hrel
    have HOwn := hide hown
    have HB := hide hb
    have HK := hide hk
    by_cases hgo : i < n ∧ i < 8
    · obtain ⟨g1, g2⟩ := hgo
      obtain ⟨hlen, hcell⟩ := HA.out
      obtain ⟨b, off, rfl, hbB, hc⟩ := hcell (by omega)
      obtain ⟨x, hx⟩ : ∃ x, L[i]? = some x := ⟨_, List.getElem?_eq_getElem (by omega)⟩
      have cx := (hb.cell (p := ⟨b, off + i, none⟩) hbB).trans (hc i x hx)
      have hwt : wts (L.take (i + 1)) = wts (L.take i) ++ [(x.toNat : Int) % 9] := by
        unfold wts
        rw [List.take_add_one, hx]
        simp
      have hcx1 := (hb.cell (p := ⟨b, off + i, none⟩) hbB)
      have g1' : (i : Int) < (n : Int) := by omega
      have bx : (x.toNat : Int) < 256 := by omega
      have hs := isum_take_le (wts (L.take i)) (fun y hy => by have := wts_ok _ y hy; omega) 8
      rw [List.take_of_length_le (by simp [wts]; omega)] at hs
      obtain ⟨s0, s1⟩ := hs
      have hsum : isum (wts (L.take (i + 1))) = isum (wts (L.take i)) + (x.toNat : Int) % 9 := by
        rw [hwt, isum_snoc]
      have HWt := hide hwt
      have HSum := hide hsum
      clear hown hb hk hlen hcell hc hx hwt hcx1 hsum
      go_wp2_with (first
        | (at_builtin; refine wpList_append_at _ rfl (.tmp 22) (.tmp 29) 23 rfl w.heap.size 3 i0 (.int .i64 0) 1 8 Try.underlying23 hi hz0 hz1 hz2 rfl (by decide) _ i _ rfl (by exact HOwn.out.alloc _) ⟨_, 0, none⟩ 1 1 [.int .i64 ((x.toNat : Int) % 9)] rfl rfl (by exact new_cell _ _ _ _ rfl) (by simp [Value.oneCell']) (by simp [maxLen]; omega) (by omega) (by have := HB.out.size; simp; omega) ?_; intro v1 w1 hown1 hg1 hat1; have cx1 := ((kept_below (HOwn.out.alloc _) hg1 (HB.out.alloc HB.out.size _) (Nat.le_refl _) (by have := HB.out.size; simp; omega)).cell (p := ⟨b, off + i, none⟩) hbB).trans ((HB.out.cell (p := ⟨b, off + i, none⟩) hbB).symm.trans cx); have HOwn1 := hide hown1; have HG1 := hide hg1; clear hown1 hg1 hat1))
      have hown1 := HOwn1.out
      have hk := HK.out
      obtain ⟨A1, c1, hv1⟩ := own_form hown1
      rw [hv1] at hown1 ⊢
      go_roundg (gk - 1)
      case measure => omega
      case rel =>
        refine ⟨i + 1, A1, c1, by go_num, rfl, by rw [HSum.out], by omega, by omega, ?_, kept_below (HOwn.out.alloc _) HG1.out (HB.out.alloc HB.out.size _) (Nat.le_refl _) (by have := HB.out.size; simp; omega)⟩
        rw [HWt.out, List.map_append]
        exact hown1
    · obtain ⟨W, hW⟩ : ∃ W, W = wts (L.take i) := ⟨_, rfl⟩
      rw [← hW] at hown ⊢
      have hWlen : W.length = i := by
        have := HA.out.1
        rw [hW]
        simp [wts]
        omega
      have hWok : ∀ x ∈ W, 0 ≤ x ∧ x ≤ 8 := by rw [hW]; exact wts_ok _
      have hWok0 : ∀ x ∈ W, 0 ≤ x := fun x hx => (hWok x hx).1
      have hWokm : ∀ x ∈ W, 0 ≤ x ∧ x ≤ 1048576 := fun x hx => by have := hWok x hx; omega
      have i8 : i ≤ 8 := by omega
      obtain ⟨S, hS⟩ : ∃ S : Nat, isum W = (S : Int) := ⟨(isum W).toNat, by
        have := isum_mono W hWok0 0 W.length (by omega)
        rw [List.take_length] at this
        simp [isum] at this
        omega⟩
      have hSle : S ≤ 67108864 := by
        have := isum_take_le W hWokm 8
        rw [List.take_of_length_le (by omega)] at this
        omega
      have HS := hide hS
      have HWlen := hide hWlen
      have HWok0 := hide hWok0
      have HWokm := hide hWokm
      have HInts := hide (IntsAt.of_own hown)
      have hz8 := zero_got
      rw [hS]
      clear hown hb hk hWlen hWok hWok0 hWokm hW hS
      have hex : (decide (i < n) = false) ∨ ((i : Int) < (n : Int) ∧ (8 : Int) ≤ (i : Int)) := by
        by_cases h : i < n
        · exact .inr ⟨by omega, by omega⟩
        · exact .inl (by simpa using h)
      clear hgo
      rcases hex with he1 | ⟨he1, he2⟩
      all_goals
        go_wp2_with fail
        obtain ⟨wo, rfl⟩ : ∃ wo : World, wo = wr := ⟨_, rfl⟩
        go_loopg [7] S (fun k s7 wr' => FairDraw w wo wo.heap.size W k s7 wr')
        case atStart =>
          refine ⟨0, rfl, by rw [HS.out]; simp, ⟨eight, Blk.new _ _ _, rfl, fun j hj => ?_⟩, (Below.refl _ _).alloc (Nat.le_refl _) _, HB.out.alloc HB.out.size _⟩
          have hj8 : j < 8 := by have := HWlen.out; omega
          rw [show ((0 : Nat) : Int) = 0 from rfl, gotF_zero W HWok0.out j]
          have : j = 0 ∨ j = 1 ∨ j = 2 ∨ j = 3 ∨ j = 4 ∨ j = 5 ∨ j = 6 ∨ j = 7 := by omega
          rcases this with rfl | rfl | rfl | rfl | rfl | rfl | rfl | rfl <;> rfl
        case round =>
          obtain ⟨j, rfl, hj, hgot, hb1, hb2⟩ := hrel
          rw [HS.out] at hj
          have HGot := hide hgot
          have HB1 := hide hb1
          have HB2 := hide hb2
          have HJ := hide hj
          by_cases hlt : j < S
          · have hlt' : (j : Int) < (S : Int) := by omega
            obtain ⟨p0, _, _⟩ := plc_at W (j : Int) HWok0.out (by omega) (by rw [HS.out]; omega)
            have hmod : (j : Int) % isum W = j := by rw [HS.out]; exact Int.emod_eq_of_lt (by omega) (by omega)
            have hdiv : (j : Int) / isum W = 0 := by rw [HS.out]; exact Int.ediv_eq_zero_of_lt (by omega) (by omega)
            obtain ⟨cs, c1, c2, c3⟩ := hgot
            have cp := c1.cell (plc (j : Int) W)
            have fp := c1.frozen (plc (j : Int) W)
            rw [c3 _ p0] at cp
            obtain ⟨v, hv⟩ : ∃ v, v = gotF W j (plc (j : Int) W) := ⟨_, rfl⟩
            rw [← hv] at cp
            have hv0 : 0 ≤ v ∧ v ≤ 100000000 := by
              have h1 := isum_take_le W HWokm.out (plc (j : Int) W)
              have h2 : W.getD (plc (j : Int) W) 0 ≤ 1048576 ∧ 0 ≤ W.getD (plc (j : Int) W) 0 := by
                rw [List.getD_eq_getElem?_getD, List.getElem?_eq_getElem p0]
                have := HWokm.out _ (List.getElem_mem p0)
                exact ⟨this.2, this.1⟩
              rw [hv]
              unfold gotF
              repeat split
              all_goals omega
            obtain ⟨v0, v1⟩ := hv0
            have HV := hide hv
            have pl : (plc (j : Int) W : Int) < (i : Int) := by have := HWlen.out; omega
            have p8 : plc (j : Int) W < 8 := by have := HWlen.out; omega
            have hipos : 0 < i := by omega
            obtain ⟨pp, hpp⟩ : ∃ pp, pp = plc (j : Int) W := ⟨_, rfl⟩
            rw [← hpp] at cp fp pl p8
            have HPP := hide hpp
            clear hb1 hb2 hj c1 c2 c3 p0 hv hpp
            go_wp2_with fail
            refine (pick_any (j : Int) A' i c' W _ ?_ (by omega) (by omega) (by omega) HWokm.out (by rw [HS.out]; omega)).mono ?_
            · exact (HInts.out.below HB1.out).more HB1.out.size
            rw [hmod, hdiv, ← HPP.out]
            clear hmod hdiv
            rintro e w' ⟨rfl, q, rfl⟩
            go_wp2_with fail
            have hj := HJ.out
            go_roundg (gk - 1)
            case measure => omega
            case rel =>
              refine ⟨j + 1, by go_num, by rw [HS.out]; omega, ?_, ?_, ?_⟩
              · have h := Got.set HGot.out HWok0.out (by omega) (by rw [HS.out]; omega) (by have := HWlen.out; omega) (v + 1) (by rw [HV.out])
                rw [← HPP.out] at h
                obtain ⟨cs, c1, c2, c3⟩ := h
                exact ⟨cs, c1.same rfl, c2, c3⟩
              · exact below_drewN (HB1.out.setCell (p := ⟨wo.heap.size, pp, none⟩) (Nat.le_refl _) _) _
              · exact below_drewN (HB2.out.setCell (p := ⟨wo.heap.size, pp, none⟩) HB.out.size _) _
          · obtain rfl : j = S := by omega
            have hdec : decide (j < j) = false := by simp
            clear hgot hb1 hb2 hj hlt
            go_wp2_with fail
            obtain ⟨w3, rfl⟩ : ∃ w3 : World, w3 = wr := ⟨_, rfl⟩
            go_loopg [11] i (fun k s11 wr' => FairTell i k s11 w3 wr')
            case atStart => exact ⟨0, 0, rfl, by omega, rfl⟩
            case round =>
              obtain ⟨r, q, rfl, hr, rfl⟩ := hrel
              have HR := hide hr
              by_cases hri : r < i
              · have hri' : (r : Int) < (i : Int) := by omega
                have hri8 : (r : Int) < 8 := by omega
                have hrW : r < W.length := by have := HWlen.out; omega
                obtain ⟨cs, c1, c2, c3⟩ := HGot.out
                have cr := c1.cell r
                rw [c3 r hrW, ← HS.out, gotF_end W HWok0.out r hrW] at cr
                obtain ⟨_, hIc⟩ := HInts.out.below HB1.out
                obtain ⟨b', off', rfl, hb', hc'⟩ := hIc (by omega)
                have cw := hc' r W[r] (List.getElem?_eq_getElem hrW)
                obtain ⟨y, hy⟩ : ∃ y, y = W[r] := ⟨_, rfl⟩
                rw [← hy] at cr cw
                have hyy : (y != y) = false := by simp
                clear hr c1 c2 c3 hIc hc' hy
                go_wp2_with fail
                go_quiet (fail)
                go_wp2_with fail
                have hr := HR.out
                go_roundg (gk - 1)
                case measure => omega
                case rel => exact ⟨r + 1, _, by go_num, by omega, by first | rfl | exact World.drewN_drewN _ _ _⟩
              · obtain rfl : r = i := by omega
                have hdec : decide (r < r) = false := by simp
                clear hr hri
                go_wp2_with (first
                  | (go_at_call 8; refine (awake_any _).mono ?_; rintro e w' ⟨rfl, hb'⟩))
                go_ret
                exact ⟨rfl, (below_drewN HB2.out _).trans (hb'.mono (by simpa using HB2.out.size))⟩
end Go.Proofs.Ythplghohhccojaa.Dice
