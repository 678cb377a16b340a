/- The contract of the reference's order. -/
import Derived.Test.YthplghohhccojaaDicePlain2
namespace Go.Proofs.Ythplghohhccojaa.Dice
open Go.RowKit Go.Proofs.Ythplghohhccojaa.W
set_option linter.unusedVariables false
set_option linter.unusedSimpArgs false

/-- The numbers from i on that are not among those that were told. -/
def unused (n : Nat) (outs : List Int) (i : Nat) : List Int := ((upto n).drop i).filter fun y => decide (y ∉ outs)
theorem upto_drop (n i : Nat) (h : i < n) : (upto n).drop i = (i : Int) :: (upto n).drop (i + 1) := by
  have hl : i < (upto n).length := by simpa [upto] using h
  rw [List.drop_eq_getElem_cons hl]
  congr 1
  have := upto_get n i h
  rw [List.getElem?_eq_getElem hl] at this
  exact Option.some.inj this
theorem unused_in (n i : Nat) (outs : List Int) (h : i < n) (hi : (i : Int) ∈ outs) : unused n outs i = unused n outs (i + 1) := by
  unfold unused
  rw [upto_drop n i h, List.filter_cons, if_neg (by simpa using hi)]
theorem unused_out (n i : Nat) (outs : List Int) (h : i < n) (hi : (i : Int) ∉ outs) : unused n outs i = (i : Int) :: unused n outs (i + 1) := by
  unfold unused
  rw [upto_drop n i h, List.filter_cons, if_pos (by simpa using hi)]
theorem unused_end (n : Nat) (outs : List Int) : unused n outs n = [] := by
  unfold unused
  rw [List.drop_of_length_le (by simp [upto])]
  rfl
theorem unused_all (n : Nat) : unused n [] 0 = upto n := by
  unfold unused
  rw [List.drop_zero, List.filter_eq_self]
  intro a _
  simp
theorem unused_nodup (n i : Nat) (outs : List Int) : (unused n outs i).Nodup := List.Pairwise.filter _ (List.Pairwise.sublist (List.drop_sublist _ _) (upto_nodup n))
theorem erase_filter : ∀ (L : List Int) (k : Nat) (x : Int), L.Nodup → L[k]? = some x → L.eraseIdx k = L.filter fun y => decide (y ≠ x)
  | [], k, x, _, h => by simp at h
  | y :: l, 0, x, hn, h => by
    obtain ⟨h1, h2⟩ := List.pairwise_cons.1 hn
    have hy : y = x := by simpa using h
    rw [List.eraseIdx_cons_zero, List.filter_cons, if_neg (by simp [hy])]
    symm
    rw [List.filter_eq_self]
    intro a ha
    have := h1 a ha
    rw [hy] at this
    simpa using fun e : a = x => this e.symm
  | y :: l, k + 1, x, hn, h => by
    obtain ⟨h1, h2⟩ := List.pairwise_cons.1 hn
    have hx : l[k]? = some x := by simpa using h
    have hy : y ≠ x := h1 x (List.mem_of_getElem? hx)
    rw [List.eraseIdx_cons_succ, List.filter_cons, if_pos (by simpa using hy), erase_filter l k x h2 hx]
theorem unused_next (n : Nat) (outs : List Int) (k : Nat) (x : Int) (h : (unused n outs 0)[k]? = some x) : unused n (outs ++ [x]) 0 = (unused n outs 0).eraseIdx k := by
  rw [erase_filter _ k x (unused_nodup n 0 outs) h]
  unfold unused
  rw [List.filter_filter]
  congr 1
  funext y
  by_cases h1 : y = x <;> by_cases h2 : y ∈ outs <;> simp [h1, h2]

def RefRel (w : World) (n : Nat) (R : List Int) (k : Nat) (s0 s5 : Value) (wr : World) : Prop :=
  ∃ (d : Int) (Ao : Option Addr) (co m : Nat) (outs : List Int), s0 = .int .i64 d ∧ s5 = .slice Ao m co ∧ m + k = n ∧ 0 ≤ d ∧ d ≤ 9223372036854775807 ∧
    wr.ownsRow w.heap.size 3 1 (.slice Ao m co) m (outs.map (Value.int .i64)) ∧ (unused n outs 0).length = k ∧ outs ++ ordL k d (unused n outs 0) = R ∧ Below w.heap.size w wr
def InRel (wr : World) (v : Value) (n : Nat) (x : Int) (outs : List Int) (k : Nat) (s5 s6 s7 : Value) (wr' : World) : Prop :=
  ∃ i q : Nat, s5 = v ∧ s7 = .int .i64 (i : Int) ∧ s6 = .int .i64 (q : Int) ∧ i + k = n ∧ (unused n outs i)[q]? = some x ∧ q ≤ 12 ∧ wr' = wr
def RefPost (w : World) (n : Nat) (L : List Int) (e : Ending) (w' : World) : Prop :=
  ∃ A c, e = .returned (.slice A n c) ∧ IntsAt w' w'.heap.size A n L ∧ Below w.heap.size w w'

set_option maxRecDepth 100000 in
set_option maxHeartbeats 2000000 in
theorem rorder_ok (d : Int) (n : Nat) (w : World) (h0 : 0 ≤ d) (h1 : d ≤ 9223372036854775807) (hn : n ≤ 12) :
    Calls Try.prog 12 #[.int .i64 d, .int .i64 (n : Int)] w (RefPost w n (ordL n d (upto n))) := by
  obtain ⟨i0, hi, hz0, hz1, hz2⟩ := info_parts int_info
  go_enter Try.func12, Try.ntmps12
  go_wp2_with fail
  go_loopg [0, 5] n (fun k s0 s5 wr => RefRel w n (ordL n d (upto n)) k s0 s5 wr)
  case atStart => exact ⟨d, none, 0, 0, [], rfl, rfl, by omega, h0, h1, ⟨rfl, .inl ⟨rfl, rfl⟩⟩, by rw [unused_all]; simp [upto], by rw [unused_all]; rfl, Below.refl _ _⟩
  case round =>
    obtain ⟨d', Ao, co, m, outs, rfl, rfl, hm, hd0, hd1, hown, hul, hord, hb⟩ := hrel
    have HOwn := hide hown
    have HUl := hide hul
    have HO := hide hord
    have HB := hide hb
    have HM := hide hm
    by_cases hz : gk = 0
    · subst hz
      obtain rfl : m = n := by omega
      have hlt : decide (m < m) = false := by simp
      clear hown hul hord hb hm
      go_wp2_with fail
      go_ret
      have hord := HO.out
      simp only [ordL, List.append_nil] at hord
      refine ⟨Ao, co, rfl, ?_, HB.out⟩
      rw [← hord]
      exact IntsAt.of_own HOwn.out
    · have hpos : 0 < gk := by omega
      obtain ⟨kk, hkk, hkk2⟩ : ∃ kk : Nat, d' % (gk : Int) = (kk : Int) ∧ kk < gk := ⟨(d' % (gk : Int)).toNat, by
        have := Int.emod_nonneg d' (show (gk : Int) ≠ 0 by omega)
        omega, by
        have := Int.emod_lt_of_pos d' (show (0 : Int) < gk by omega)
        omega⟩
      obtain ⟨dd, hdd⟩ : ∃ dd, d' / (gk : Int) = dd := ⟨_, rfl⟩
      obtain ⟨x, hx⟩ : ∃ x, (unused n outs 0)[kk]? = some x := ⟨_, List.getElem?_eq_getElem (by omega)⟩
      have HX := hide hx
      have hnm : (n : Int) - (m : Int) = (gk : Int) := by omega
      have hgpos : (0 : Int) < (gk : Int) := by omega
      have hmn : (m : Int) < (n : Int) := by omega
      have hdd0 : 0 ≤ dd ∧ dd ≤ 9223372036854775807 := by
        rw [← hdd]
        exact ⟨Int.ediv_nonneg hd0 (by omega), Int.le_trans (Int.ediv_le_self _ hd0) hd1⟩
      have hord' : outs ++ [x] ++ ordL (gk - 1) dd (unused n (outs ++ [x]) 0) = ordL n d (upto n) := by
        rw [← HO.out, unused_next n outs kk x hx]
        obtain ⟨k, rfl⟩ : ∃ k, gk = k + 1 := ⟨gk - 1, by omega⟩
        have e1 : d' % ((k : Int) + 1) = kk := hkk
        have e2 : d' / ((k : Int) + 1) = dd := hdd
        simp only [ordL, e1, e2, Int.toNat_natCast, List.getD_eq_getElem?_getD, hx, Option.getD_some, List.append_assoc, List.singleton_append, Nat.add_sub_cancel]
      have HO' := hide hord'
      have hlen' : (unused n (outs ++ [x]) 0).length = gk - 1 := by
        rw [unused_next n outs kk x hx, List.length_eraseIdx, if_pos (by omega)]
        omega
      have HLen' := hide hlen'
      have HDD := hide hdd0
      have hm12 : m ≤ 12 := by omega
      have hk12 : kk ≤ 12 := by omega
      clear hown hul hord hb hm hz hx hord' hlen' hdd0
      go_wp2_with fail
      rw [hkk, hdd]
      obtain ⟨g0, rfl⟩ : ∃ g0 : Nat, g0 = gk := ⟨_, rfl⟩
      obtain ⟨wo, rfl⟩ : ∃ wo : World, wo = wr := ⟨_, rfl⟩
      go_loopg [5, 6, 7] n (fun k s5 s6 s7 wr' => InRel wo (.slice Ao m co) n x outs k s5 s6 s7 wr')
      case atStart => exact ⟨0, kk, rfl, rfl, rfl, by omega, HX.out, hk12, rfl⟩
      case round =>
        obtain ⟨i, q, rfl, rfl, rfl, hik, hu, hq12, rfl⟩ := hrel
        by_cases hin : i < n
        · have hlt : (i : Int) < (n : Int) := by omega
          have HIK := hide hik
          by_cases hmem : (i : Int) ∈ outs
          · have hb1 : decide ((i : Int) ∈ outs) = true := by simpa using hmem
            rw [unused_in n i outs hin hmem] at hu
            have HU := hide hu
            clear hu hik hmem
            go_wp2_with (first
              | (go_at_call 10; refine (has_any Ao m co outs (i : Int) _ (IntsAt.of_own HOwn.out) (by omega)).mono ?_; rintro e w' ⟨rfl, rfl⟩))
            have hik := HIK.out
            go_roundg (gk - 1)
            case measure => omega
            case rel => exact ⟨i + 1, q, rfl, by go_num, rfl, by omega, HU.out, hq12, rfl⟩
          · have hb1 : decide ((i : Int) ∈ outs) = false := by simpa using hmem
            rw [unused_out n i outs hin hmem] at hu
            by_cases hq : q = 0
            · subst hq
              have hxi : x = (i : Int) := by simpa using hu.symm
              have HXI := hide hxi
              clear hu hik hmem hxi
              go_wp2_with (first
                | (go_at_call 10; refine (has_any Ao m co outs (i : Int) _ (IntsAt.of_own HOwn.out) (by omega)).mono ?_; rintro e w' ⟨rfl, rfl⟩)
                | (at_builtin; refine wpList_append_at _ rfl (.tmp 34) (.tmp 36) 23 rfl w.heap.size 3 i0 (.int .i64 0) 1 8 Try.underlying23 hi hz0 hz1 hz2 rfl (by decide) _ m _ rfl (by exact HOwn.out.alloc _) ⟨_, 0, none⟩ 1 1 [.int .i64 (i : Int)] rfl rfl (by exact new_cell _ _ _ _ rfl) (by simp [Value.oneCell']) (by simp [maxLen]; omega) (by omega) (by have := HB.out.size; simp; omega) ?_; intro v1 w1 hown1 hg1 hat1))
              obtain ⟨A1, c1, hv1⟩ := own_form hown1
              have hm := HM.out
              rw [hv1] at hown1 ⊢
              go_roundg (g0 - 1)
              case measure => omega
              case rel =>
                refine ⟨dd, A1, c1, m + 1, outs ++ [x], rfl, rfl, by omega, HDD.out.1, HDD.out.2, ?_, HLen'.out, HO'.out, kept_below (HOwn.out.alloc _) hg1 (HB.out.alloc HB.out.size _) (Nat.le_refl _) (by have := HB.out.size; simp; omega)⟩
                rw [List.map_append, HXI.out]
                exact hown1
            · have hq' : ((q : Int) == 0) = false := by simp; omega
              have hu' : (unused n outs (i + 1))[q - 1]? = some x := by
                obtain ⟨p, rfl⟩ : ∃ p, q = p + 1 := ⟨q - 1, by omega⟩
                simpa using hu
              have HU := hide hu'
              clear hu hik hmem hu'
              go_wp2_with (first
                | (go_at_call 10; refine (has_any Ao m co outs (i : Int) _ (IntsAt.of_own HOwn.out) (by omega)).mono ?_; rintro e w' ⟨rfl, rfl⟩))
              have hik := HIK.out
              go_roundg (gk - 1)
              case measure => omega
              case rel => exact ⟨i + 1, q - 1, rfl, by go_num, by congr 1; omega, by omega, HU.out, by omega, rfl⟩
        · exfalso
          obtain rfl : i = n := by omega
          rw [unused_end] at hu
          simp at hu
end Go.Proofs.Ythplghohhccojaa.Dice
