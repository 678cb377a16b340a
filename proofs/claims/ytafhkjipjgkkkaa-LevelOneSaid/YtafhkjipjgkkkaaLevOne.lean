/- The law that each thing is in one row, once, or in none: walked. -/
import Derived.Test.YtafhkjipjgkkkaaLevBal
namespace Go.Proofs.Ytafhkjipjgkkkaa.Lv
open Go.RowKit Go.Proofs.Ytafhkjipjgkkkaa.W
set_option linter.unusedVariables false
set_option linter.unusedSimpArgs false

def pre (R : Nat → List Nat) : Nat → List Nat
  | 0 => []
  | r + 1 => pre R r ++ R r
theorem mem_pre {R : Nat → List Nat} {x : Nat} : ∀ {r : Nat}, x ∈ pre R r ↔ ∃ k, k < r ∧ x ∈ R k
  | 0 => by simp [pre]
  | r + 1 => by
    simp only [pre, List.mem_append, mem_pre (r := r)]
    constructor
    · rintro (⟨k, hk, hx⟩ | hx)
      · exact ⟨k, by omega, hx⟩
      · exact ⟨r, by omega, hx⟩
    · rintro ⟨k, hk, hx⟩
      by_cases h : k < r
      · exact .inl ⟨k, h, hx⟩
      · exact .inr (by rwa [show r = k by omega])
def seenF (L : List Nat) : Nat → Int := fun x => if x ∈ L then 1 else 0
theorem seen_snoc (L : List Nat) (a : Nat) : upd (seenF L) a 1 = seenF (L ++ [a]) := by
  funext x
  simp only [upd, seenF, List.mem_append, List.mem_singleton]
  by_cases h : x = a
  · rw [if_pos h, if_pos (.inr h)]
  · rw [if_neg h]
    by_cases h2 : x ∈ L
    · rw [if_pos h2, if_pos (.inl h2)]
    · rw [if_neg h2, if_neg (by rintro (h3 | h3) <;> contradiction)]
structure OneAt (w : World) (gq gx n gs : Nat) (R : Nat → List Nat) (L : List Nat) (wr : World) : Prop where
  law : LawAt w gq gx n R wr
  s : Blk wr gs 38 (row 16 (i64s (seenF L)))
  ls : w.heap.size ≤ gs
theorem OneAt.later {w wr wx : World} {gq gx n gs : Nat} {R : Nat → List Nat} {L : List Nat} (h : OneAt w gq gx n gs R L wr) (hb : Below wr.heap.size wr wx) : OneAt w gq gx n gs R L wx := ⟨h.law.later hb, W.later hb h.s, h.ls⟩
theorem OneAt.put {w wr : World} {gq gx n gs : Nat} {R : Nat → List Nat} {L : List Nat} (h : OneAt w gq gx n gs R L wr) (a : Nat) : OneAt w gq gx n gs R (L ++ [a]) (wr.setCell ⟨gs, a, none⟩ (.int .i64 1)) := by
  have hc : Chg (one gs) wr (wr.setCell ⟨gs, a, none⟩ (.int .i64 1)) := chg_self gs a _ wr
  obtain ⟨cs, hb⟩ := h.law.q.blk
  have h1 := h.s.upd a (.int .i64 1)
  rw [i64s_upd, seen_snoc] at h1
  exact ⟨⟨h.law.q.chg hc (fun (e : gq = gs) => (Blk.ne_ hb h.s (by decide)) e), h.law.x.chg hc h.s (by decide) (by decide), h.law.below.setCell (p := ⟨gs, a, none⟩) h.ls _, h.law.lq, h.law.lx⟩, h1, h.ls⟩
theorem RowV.put {wr : World} {v : Value} {L : List Nat} {gs : Nat} {cs : Array Value} (h : RowV wr v L) (hs : Blk wr gs 38 cs) (a : Nat) (u : Value) : RowV (wr.setCell ⟨gs, a, none⟩ u) v L :=
  h.chg (chg_self gs a u wr) hs (by decide)
theorem zero16i (w : World) : (zeroValue 38).run Try.prog w = .ok (.agg (row 16 (i64s fun _ => 0))) w := by kernel_rfl
def O2 (w : World) (gq gx n gs : Nat) (R : Nat → List Nat) (k : Nat) (s11 : Value) (wr : World) : Prop := ∃ r : Nat, s11 = .int .i64 (r : Int) ∧ r + k = 4 ∧ OneAt w gq gx n gs R (pre R r) wr
def O3 (w : World) (gq gx n gs : Nat) (R : Nat → List Nat) (r : Nat) (A : Option Addr) (c M : Nat) (k : Nat) (s13 : Value) (wr : World) : Prop := ∃ j : Nat, s13 = .int .i64 (j : Int) ∧ j + k = M ∧ OneAt w gq gx n gs R (pre R r ++ (R r).take j) wr ∧ RowV wr (.slice A M c) (R r)
def O4 (w : World) (gq gx n gs : Nat) (R : Nat → List Nat) (k : Nat) (s16 : Value) (wr : World) : Prop := ∃ j : Nat, s16 = .int .i64 (j : Int) ∧ j + k = n ∧ OneAt w gq gx n gs R (pre R 4) wr
set_option maxRecDepth 100000 in
set_option maxHeartbeats 4000000 in
theorem levelOne_walk (a : Nat) (ha : a < 256) (A : Option Addr) (len c : Nat) (K I N : Nat → Int) (w : World) (hl : len ≤ maxLen) (hA : Holds w w.heap.size 3 A len (actAt K I N)) (hN : ∀ i, i < len → -9223372036854775808 ≤ N i ∧ N i ≤ 9223372036854775807) :
    Calls Try.prog 4 #[.int .u8 (a : Int), .slice A len c] w fun e w' => e = .returned (.bool true) ∧ Below w.heap.size w w' := by
  unfold maxLen at hl
  obtain ⟨r, hr⟩ : ∃ r : Nat, a % 16 = r := ⟨_, rfl⟩
  obtain ⟨n, hn⟩ : ∃ n : Nat, r + 1 = n := ⟨_, rfl⟩
  have e1 : Int.tmod (a : Int) 16 = (r : Int) := by rw [Int.tmod_eq_emod_of_nonneg (by omega)]; omega
  have e2 : IntKind.u8.wrap (r : Int) = (r : Int) := wrap_u8 (by omega) (by omega)
  have e3 : IntKind.i64.wrap (r : Int) = (r : Int) := IntWalk.i64_in _ (by omega)
  have e4 : IntKind.i64.wrap ((r : Int) + 1) = (n : Int) := by rw [show (r : Int) + 1 = (n : Int) by omega]; exact IntWalk.i64_in _ (by omega)
  have hn1 : 1 ≤ n := by omega
  have hn16 : n ≤ 16 := by omega
  have HN := hide hN
  have HA := hide hA
  have hz := zeroRef
  clear hr hn hN hA
  go_enter Try.func4, Try.ntmps4
  go_upto_region 6 with (first
    | (go_at_call 7; (with_reducible refine (new_ok n hn1 hn16 _).mono ?_); rintro e w1 ⟨rfl, hq, hb⟩; (obtain ⟨gq, hgq⟩ : ∃ g, w.heap.size = g := ⟨_, rfl⟩); (have HG := hide hgq); rw [hgq] at hq; simp only [hgq]; (have HQ1 := hide hq); (have HB1 := hide hb); clear hq hb hgq)
    | (go_at_call 8; (with_reducible refine (awake_any _).mono ?_); rintro e w2 ⟨rfl, hb⟩; have HB2 := hide hb; clear hb))
  obtain ⟨gx, hgx⟩ : ∃ g, w1.heap.size = g := ⟨_, rfl⟩
  have HLaw : Hid (LawAt w gq gx n E0 w2) := hide (by
    have hb1 := HB1.out
    have h0 := ref_new w1 gx hgx.symm
    have b1 : Below w1.heap.size w1 (w1.alloc (.cells (row 4 fun _ => .slice none 0 0) 32)) := (Below.refl _ _).alloc (Nat.le_refl _) _
    refine ⟨(HQ1.out.later b1).later HB2.out, h0.later HB2.out, (hb1.alloc hb1.size _).trans (HB2.out.mono (by have := hb1.size; simp; omega)), by have := HG.out; omega, by have := hb1.size; omega⟩)
  simp only [hgx]
  clear HQ1 HB1 HB2 hgx hz e1 e2 e3 e4
  generalize Value.agg (row 4 fun _ => Value.slice none 0 0) = vv
  have hz := zero16i
  go_wp2_with fail
  go_loopg [9] 60 (fun k s9 wr => ActRel w gq gx n 60 len k s9 wr)
  case atStart => exact ⟨0, E0, rfl, rfl, by omega, HLaw.out⟩
  case round =>
    clear HLaw
    obtain ⟨i, R, rfl, hk, hil, hlaw⟩ := hrel
    have HLaw := hide hlaw
    clear hlaw
    by_cases hgo : i < len ∧ i < 60
    · have hgk : 0 < gk := by omega
      have hi1 : (i : Int) < (len : Int) := by omega
      have hi2 : (i : Int) < 60 := by omega
      obtain ⟨b, off, rfl, hbB, hc⟩ := HA.out (by omega)
      have c0 := (HLaw.out.below.cell (p := ⟨b, off + i * 3 + 0, none⟩) hbB).trans (hc i 0 hgo.1 (by omega))
      have c1 := (HLaw.out.below.cell (p := ⟨b, off + i * 3 + 1, none⟩) hbB).trans (hc i 1 hgo.1 (by omega))
      have c2 := (HLaw.out.below.cell (p := ⟨b, off + i * 3 + 2, none⟩) hbB).trans (hc i 2 hgo.1 (by omega))
      simp [actAt] at c0 c1 c2
      have HDo := hide (do_any gq gx n (K i) (I i) (N i) (HN.out i hgo.1).1 (HN.out i hgo.1).2 R R hn16 HLaw.out.q.good wr HLaw.out.q HLaw.out.x)
      have HGo := hide hgo
      clear hc hgo
      obtain ⟨g0, hg0⟩ : ∃ g, g = gk := ⟨gk, rfl⟩
      subst hg0
      go_upto_region 11 with (first
        | (go_at_call 9; (with_reducible refine HDo.out.mono ?_); rintro e w3 hd; (obtain ⟨he, hl3⟩ := hd.law HLaw.out); subst he; (have HLaw3 := hide hl3); clear hd hl3))
      obtain ⟨R2, hR2⟩ : ∃ R2, stepR n R (K i) (I i) (N i) = R2 := ⟨_, rfl⟩
      rw [hR2] at HLaw3
      obtain ⟨gs, hgs⟩ : ∃ g, w3.heap.size = g := ⟨_, rfl⟩
      have HOne : Hid (OneAt w gq gx n gs R2 (pre R2 0) (w3.alloc (.cells (row 16 (i64s fun _ => 0)) 38))) := hide ⟨HLaw3.out.later ((Below.refl _ _).alloc (Nat.le_refl _) _), Blk.newAt w3 _ _ _ hgs.symm, by have := HLaw3.out.below.size; omega⟩
      generalize w3.alloc (.cells (row 16 (i64s fun _ => 0)) 38) = W4 at HOne ⊢
      simp only [hgs]
      clear hgs HLaw3 HDo HLaw c0 c1 c2 hR2
      go_wp2_with fail
      go_loopg [11] 4 (fun k s11 wx => O2 w gq gx n gs R2 k s11 wx)
      case atStart => exact ⟨0, rfl, rfl, HOne.out⟩
      case round =>
        clear HOne
        obtain ⟨r, rfl, hk2, hone⟩ := hrel
        have HOne := hide hone
        clear hone
        by_cases hr : r < 4
        · have hgk : 0 < gk := by omega
          have hr' : (r : Int) < 4 := by omega
          have HR4 := hide hr
          have HLi := hide (list_any gq n r R2 hr wr HOne.out.law.q)
          unfold ListE at HLi
          obtain ⟨v, hv⟩ : ∃ v, (R2 r).length = v := ⟨_, rfl⟩
          rw [hv] at HLi
          have HV := hide hv
          have hv16 : v ≤ 16 := by have := len_le HOne.out.law.q.good hr; omega
          clear hv
          obtain ⟨g1, hg1⟩ : ∃ g, g = gk := ⟨gk, rfl⟩
          subst hg1
          go_upto_region 15 with (first
            | (go_at_call 11; (with_reducible refine HLi.out.mono ?_); rintro e w5 ⟨A5, c5, rfl, ho, hb⟩; have HOne5 := hide (HOne.out.later hb); have HRow5 := hide (row_own ho HV.out.symm); clear ho hb))
          go_wp2_with fail
          go_loopg [13] v (fun k s13 wx => O3 w gq gx n gs R2 r A5 c5 v k s13 wx)
          case atStart => exact ⟨0, rfl, by omega, by simpa using HOne5.out, HRow5.out⟩
          case round =>
            clear HOne5 HRow5
            obtain ⟨j, rfl, hk3, hone, hrow⟩ := hrel
            have HOne := hide hone
            have HRow := hide hrow
            by_cases hj : j < v
            · have hgk : 0 < gk := by omega
              have hj' : (j : Int) < (v : Int) := by omega
              obtain ⟨x, hx⟩ : ∃ x, (R2 r)[j]? = some x := ⟨_, List.getElem?_eq_getElem (by rw [HV.out]; exact hj)⟩
              obtain ⟨bb, rfl, -, hcx⟩ := hrow.at hx
              have hgood := hone.law.q.good
              have hxm : x ∈ R2 r := List.mem_of_getElem? hx
              have hxn := hgood.lt r HR4.out x hxm
              have hx16 : (x : Int) < 16 := by omega
              have hxn' : decide ((n : Int) ≤ (x : Int)) = false := by simp; omega
              have hxn2 : decide (n ≤ x) = false := by simp; omega
              have hx0 : decide ((x : Int) < 0) = false := by simp
              have hnot : x ∉ pre R2 r ++ (R2 r).take j := by
                rw [List.mem_append, mem_pre]
                rintro (⟨k, hk, hm⟩ | hm)
                · have := hgood.apart k r (by have := HR4.out; omega) HR4.out x hm hxm
                  omega
                · obtain ⟨t, ht, he⟩ := List.getElem_of_mem hm
                  rw [List.length_take] at ht
                  rw [List.getElem_take] at he
                  have hnd := hgood.nd r HR4.out
                  have h2 : (R2 r)[t]? = (R2 r)[j]? := by rw [hx, List.getElem?_eq_getElem (by omega), he]
                  have := (List.getElem?_inj (by omega) hnd).1 h2
                  omega
              have cs := hone.s.at (i := x) (by omega)
              simp only [i64s, seenF] at cs
              rw [if_neg hnot] at cs
              have fs := hone.s.frozen x
              have HLv := hide (level_on gq n R2 x r hxn HR4.out hxm wr HOne.out.law.q)
              have HT : Hid (pre R2 r ++ (R2 r).take j ++ [x] = pre R2 r ++ (R2 r).take (j + 1)) := hide (by rw [List.take_add_one, hx]; simp)
              have tr : ((r : Int) != (r : Int)) = false := by simp
              have HXj := hide hx
              clear hone hrow hx hxm hnot hgood hxn
              go_upto_region 22 with (first
                | (go_at_call 12; (with_reducible refine HLv.out.mono ?_); rintro e wx ⟨rfl, hw⟩; subst wx))
              have HOne6 := hide (HOne.out.put x)
              have HRow6 := hide (HRow.out.put HOne.out.s x (.int .i64 1))
              generalize wr.setCell ⟨gs, x, none⟩ (.int .i64 1) = W6 at HOne6 HRow6 ⊢
              have cs6 := HOne6.out.s.at (i := x) (by omega)
              simp only [i64s, seenF] at cs6
              rw [if_pos (by simp)] at cs6
              obtain ⟨b6, hb6, -, hcx6⟩ := HRow6.out.at HXj.out
              injection hb6 with hb6
              injection hb6 with hb6
              subst hb6
              have HK3 : Hid (j + gk = v) := hide hk3
              clear cs fs hcx
              go_wp2_with fail
              go_roundg (gk - 1)
              case measure => omega
              case rel => exact ⟨j + 1, by go_num, by omega, by rw [← HT.out]; exact HOne6.out, HRow6.out⟩
            · have hj' : decide (j < v) = false := by simp; omega
              have hj'' : decide ((j : Int) < (v : Int)) = false := by simp; omega
              have HT : Hid (pre R2 r ++ (R2 r).take j = pre R2 (r + 1)) := hide (by rw [List.take_of_length_le (by have := HV.out; omega)]; rfl)
              clear hj hone hrow
              go_wp2_with fail
              go_roundg (g1 - 1)
              case measure => omega
              case rel => exact ⟨r + 1, by go_num, by omega, by rw [← HT.out]; exact HOne.out⟩
        · have hr' : decide (r < 4) = false := by simp; omega
          have hr'' : decide ((r : Int) < 4) = false := by simp; omega
          obtain rfl : r = 4 := by omega
          clear hr
          go_wp2_with fail
          go_loopg [16] n (fun k s16 wx => O4 w gq gx n gs R2 k s16 wx)
          case atStart => exact ⟨0, rfl, by omega, HOne.out⟩
          case round =>
            clear HOne
            obtain ⟨j, rfl, hk4, hone⟩ := hrel
            have HOne := hide hone
            by_cases hj : j < n
            · have hgk : 0 < gk := by omega
              have hj' : (j : Int) < (n : Int) := by omega
              have hj16 : (j : Int) < 16 := by omega
              have cs := hone.s.at (i := j) (by omega)
              simp only [i64s, seenF] at cs
              have hwle := wh_le R2 j
              by_cases hw : wh R2 j < 4
              · have hm : j ∈ pre R2 4 := mem_pre.2 ⟨_, hw, wh_mem hw⟩
                rw [if_pos hm] at cs
                have HLv := hide (level_on gq n R2 j (wh R2 j) hj hw (wh_mem hw) wr hone.law.q)
                obtain ⟨q, hq⟩ : ∃ q, wh R2 j = q := ⟨_, rfl⟩
                rw [hq] at HLv
                clear hone hj hm hw hq hwle
                go_wp2_with (first
                  | (go_at_call 12; (with_reducible refine HLv.out.mono ?_); rintro e wx ⟨rfl, hw⟩; subst wx))
                go_roundg (gk - 1)
                case measure => omega
                case rel => exact ⟨j + 1, by go_num, by omega, HOne.out⟩
              · have hw4 : wh R2 j = 4 := by omega
                have hm : j ∉ pre R2 4 := by
                  rw [mem_pre]
                  rintro ⟨k, hk, hm⟩
                  exact wh_none hw4 k hk hm
                rw [if_neg hm] at cs
                have HLv := hide (level_off gq n R2 j hj hw4 wr hone.law.q)
                clear hone hj hm hw hw4 hwle
                go_wp2_with (first
                  | (go_at_call 12; (with_reducible refine HLv.out.mono ?_); rintro e wx ⟨rfl, hw⟩; subst wx))
                go_roundg (gk - 1)
                case measure => omega
                case rel => exact ⟨j + 1, by go_num, by omega, HOne.out⟩
            · have hj' : decide (j < n) = false := by simp; omega
              have hj'' : decide ((j : Int) < (n : Int)) = false := by simp; omega
              clear hj hone
              go_wp2_with fail
              go_roundg (g0 - 1)
              case measure => omega
              case rel => exact ⟨i + 1, R2, by go_num, by omega, by have := HGo.out; omega, HOne.out.law⟩
    · have hcs : (decide ((i : Int) < (len : Int)) = false ∧ decide (i < len) = false) ∨ ((i : Int) < (len : Int) ∧ decide ((i : Int) < 60) = false ∧ decide (i < 60) = false) := by
        simp; omega
      clear hgo
      rcases hcs with ⟨t1, t2⟩ | ⟨t1, t2, t3⟩
      all_goals
        go_wp2_with fail
        go_ret
        exact ⟨rfl, HLaw.out.below⟩
end Go.Proofs.Ytafhkjipjgkkkaa.Lv
