/- The law on balancing: walked. -/
import Derived.Test.YtafhkjipjgkkkaaLevInts
import Derived.Test.YtafhkjipjgkkkaaLevDo3
import Derived.Test.YtafhkjipjgkkkaaLists
namespace Go.Proofs.Ytafhkjipjgkkkaa.Lv
open Go.RowKit Go.Proofs.Ytafhkjipjgkkkaa.W
set_option linter.unusedVariables false
set_option linter.unusedSimpArgs false

theorem bal_len (R : Nat → List Nat) (l t k : Nat) (h0 : 0 < l) : (bal R l t k).length = if k = l then (R l).length - t else if k + 1 = l then (R k).length + min t (R l).length else (R k).length := by
  unfold bal
  split
  · rw [List.length_drop]
  · split
    · rw [List.length_append, List.length_take]
    · rfl
theorem st_lens (R : Nat → List Nat) (m : Nat) : (stR R m 3 1).length ≤ m ∧ (stR R m 3 2).length ≤ m ∧ (stR R m 3 3).length ≤ m ∧ lenU (stR R m 3) 4 = lenU R 4 := by
  have h3 : ∀ k, (stR R m 1 k).length = if k = 3 then (R 3).length - ((R 3).length - m) else if k + 1 = 3 then (R k).length + min ((R 3).length - m) (R 3).length else (R k).length := fun k => bal_len R 3 _ k (by omega)
  have h2 : ∀ k, (stR R m 2 k).length = if k = 2 then (stR R m 1 2).length - ((stR R m 1 2).length - m) else if k + 1 = 2 then (stR R m 1 k).length + min ((stR R m 1 2).length - m) (stR R m 1 2).length else (stR R m 1 k).length := fun k => bal_len (stR R m 1) 2 _ k (by omega)
  have h1 : ∀ k, (stR R m 3 k).length = if k = 1 then (stR R m 2 1).length - ((stR R m 2 1).length - m) else if k + 1 = 1 then (stR R m 2 k).length + min ((stR R m 2 1).length - m) (stR R m 2 1).length else (stR R m 2 k).length := fun k => bal_len (stR R m 2) 1 _ k (by omega)
  have a3 := h3 3
  have a2 := h3 2
  have a1 := h3 1
  have a0 := h3 0
  have b3 := h2 3
  have b2 := h2 2
  have b1 := h2 1
  have b0 := h2 0
  have c3 := h1 3
  have c2 := h1 2
  have c1 := h1 1
  have c0 := h1 0
  simp at a3 a2 a1 a0 b3 b2 b1 b0 c3 c2 c1 c0
  simp only [lenU]
  omega
theorem bal_none {R : Nat → List Nat} {m : Nat} (h1 : (R 1).length ≤ m) (h2 : (R 2).length ≤ m) (h3 : (R 3).length ≤ m) : cntR R m 3 = 0 := by
  have e1 : stR R m 1 = R := by
    show bal R 3 ((R 3).length - m) = R
    rw [show (R 3).length - m = 0 by omega, bal_zero]
  have e2 : stR R m 2 = R := by
    show bal (stR R m 1) 2 ((stR R m 1 2).length - m) = R
    rw [e1, show (R 2).length - m = 0 by omega, bal_zero]
  show (((0 + ((R 3).length - m)) + ((stR R m 1 2).length - m)) + ((stR R m 2 1).length - m)) = 0
  rw [e1, e2]
  omega
/-- The calls as they are read. -/
def actAt (K I N : Nat → Int) (i j : Nat) : Value := .int .i64 (if j = 0 then K i else if j = 1 then I i else N i)
structure LawAt (w : World) (gq gx n : Nat) (R : Nat → List Nat) (wr : World) : Prop where
  q : QAt wr gq n R
  x : RefAt wr gx R
  below : Below w.heap.size w wr
  lq : w.heap.size ≤ gq
  lx : w.heap.size ≤ gx
theorem LawAt.later {w wr wx : World} {gq gx n : Nat} {R : Nat → List Nat} (h : LawAt w gq gx n R wr) (hb : Below wr.heap.size wr wx) : LawAt w gq gx n R wx := ⟨h.q.later hb, h.x.later hb, h.below.trans (hb.mono h.below.size), h.lq, h.lx⟩
def ActRel (w : World) (gq gx n M len : Nat) (k : Nat) (s : Value) (wr : World) : Prop := ∃ (i : Nat) (R : Nat → List Nat), s = .int .i64 (i : Int) ∧ i + k = M ∧ i ≤ len ∧ LawAt w gq gx n R wr
theorem zeroRef (w : World) : (zeroValue 32).run Try.prog w = .ok (.agg (row 4 fun _ => .slice none 0 0)) w := by kernel_rfl
theorem ref_new (w : World) (g : Nat) (hg : g = w.heap.size) : RefAt (w.alloc (.cells (row 4 fun _ => .slice none 0 0) 32)) g E0 :=
  ⟨_, Blk.newAt w _ _ _ hg, fun l hl => .inl ⟨rfl, rfl⟩⟩
def BRel (w : World) (gq gx n : Nat) (R : Nat → List Nat) (k : Nat) (s : Value) (wr : World) : Prop := ∃ r : Nat, s = .int .i64 (r : Int) ∧ r + k = 4 ∧ 1 ≤ r ∧ QAt wr gq n R ∧ Below w.heap.size w wr
theorem DoE.law {w wr w' : World} {gq gx n : Nat} {K I N : Int} {R : Nat → List Nat} {e : Ending} (h : LawAt w gq gx n R wr) (hd : DoE gq gx n K I N R R wr e w') : e = .returned (.bool true) ∧ LawAt w gq gx n (stepR n R K I N) w' := by
  obtain ⟨b, rfl, h1, h2, h3, h4⟩ := hd
  rw [h1 rfl]
  exact ⟨rfl, h2, h3, h.below.trans (h4.below h.below.size (fun i hi => by
    rcases hi with rfl | rfl
    · exact h.lq
    · exact h.lx)), h.lq, h.lx⟩
set_option maxRecDepth 100000 in
set_option maxHeartbeats 4000000 in
theorem levelBalance_walk (a : Nat) (ha : a < 256) (A : Option Addr) (len c : Nat) (K I N : Nat → Int) (most : Int) (w : World) (hl : len ≤ maxLen) (hA : Holds w w.heap.size 3 A len (actAt K I N)) (hN : ∀ i, i < len → -9223372036854775808 ≤ N i ∧ N i ≤ 9223372036854775807) :
    Calls Try.prog 5 #[.int .u8 (a : Int), .slice A len c, .int .i64 most] w fun e w' => e = .returned (.bool true) ∧ Below w.heap.size w w' := by
  unfold maxLen at hl
  obtain ⟨r, hr⟩ : ∃ r : Nat, a % 16 = r := ⟨_, rfl⟩
  obtain ⟨n, hn⟩ : ∃ n : Nat, r + 1 = n := ⟨_, rfl⟩
  have e1 : Int.tmod (a : Int) 16 = (r : Int) := by rw [Int.tmod_eq_emod_of_nonneg (by omega)]; omega
  have e2 : IntKind.u8.wrap (r : Int) = (r : Int) := wrap_u8 (by omega) (by omega)
  have e3 : IntKind.i64.wrap (r : Int) = (r : Int) := IntWalk.i64_in _ (by omega)
  have e4 : IntKind.i64.wrap ((r : Int) + 1) = (n : Int) := by rw [show (r : Int) + 1 = (n : Int) by omega]; exact IntWalk.i64_in _ (by omega)
  have hn1 : 1 ≤ n := by omega
  have hn16 : n ≤ 16 := by omega
  obtain ⟨m, hm⟩ : ∃ m, mostN most = m := ⟨_, rfl⟩
  have hmost := mostN_eq most
  rw [hm] at hmost
  have HM := hide hmost
  have HN := hide hN
  have HA := hide hA
  have hz := zeroRef
  clear hr hn hm hN hA hmost
  go_enter Try.func5, Try.ntmps5
  go_upto_region 6 with (first
    | (go_at_call 7; (with_reducible refine (new_ok n hn1 hn16 _).mono ?_); rintro e w1 ⟨rfl, hq, hb⟩; (obtain ⟨gq, hgq⟩ : ∃ g, w.heap.size = g := ⟨_, rfl⟩); (have HG := hide hgq); rw [hgq] at hq; simp only [hgq]; (have HQ1 := hide hq); (have HB1 := hide hb); clear hq hb hgq)
    | (go_at_call 8; (with_reducible refine (awake_any _).mono ?_); rintro e w2 ⟨rfl, hb⟩; have HB2 := hide hb; clear hb))
  obtain ⟨gx, hgx⟩ : ∃ g, w1.heap.size = g := ⟨_, rfl⟩
  have HLaw : Hid (LawAt w gq gx n E0 w2) := hide (by
    have hb1 := HB1.out
    have h0 := ref_new w1 gx hgx.symm
    have b1 : Below w1.heap.size w1 (w1.alloc (.cells (row 4 fun _ => .slice none 0 0) 32)) := (Below.refl _ _).alloc (Nat.le_refl _) _
    refine ⟨(HQ1.out.later b1).later HB2.out, h0.later HB2.out, (hb1.alloc hb1.size _).trans (HB2.out.mono (by have := hb1.size; simp; omega)), by have := HG.out; omega, by have := hb1.size; omega⟩)
  simp only [hgx]
  clear HQ1 HB1 HB2 hgx hz e1 e2 e3 e4
  generalize Value.agg (row 4 fun _ => Value.slice none 0 0) = vv
  go_wp2_with fail
  go_loopg [11] 60 (fun k s11 wr => ActRel w gq gx n 60 len k s11 wr)
  case atStart => exact ⟨0, E0, rfl, rfl, by omega, HLaw.out⟩
  case round =>
    clear HLaw
    obtain ⟨i, R, rfl, hk, hil, hlaw⟩ := hrel
    have HLaw := hide hlaw
    clear hlaw
    by_cases hgo : i < len ∧ i < 60
    · have hgk : 0 < gk := by omega
      have hi1 : (i : Int) < (len : Int) := by omega
      have hi2 : (i : Int) < 60 := by omega
      obtain ⟨b, off, rfl, hbB, hc⟩ := HA.out (by omega)
      have c0 := (HLaw.out.below.cell (p := ⟨b, off + i * 3 + 0, none⟩) hbB).trans (hc i 0 hgo.1 (by omega))
      have c1 := (HLaw.out.below.cell (p := ⟨b, off + i * 3 + 1, none⟩) hbB).trans (hc i 1 hgo.1 (by omega))
      have c2 := (HLaw.out.below.cell (p := ⟨b, off + i * 3 + 2, none⟩) hbB).trans (hc i 2 hgo.1 (by omega))
      simp [actAt] at c0 c1 c2
      have HDo := hide (do_any gq gx n (K i) (I i) (N i) (HN.out i hgo.1).1 (HN.out i hgo.1).2 R R hn16 HLaw.out.q.good wr HLaw.out.q HLaw.out.x)
      clear hc hgo
      go_wp2_with (first
        | (go_at_call 9; (with_reducible refine HDo.out.mono ?_); rintro e w3 hd; (obtain ⟨he, hl3⟩ := hd.law HLaw.out); subst he; (have HLaw3 := hide hl3); clear hd hl3))
      go_roundg (gk - 1)
      case measure => omega
      case rel => exact ⟨i + 1, _, by go_num, by omega, by omega, HLaw3.out⟩
    · have hcs : (decide ((i : Int) < (len : Int)) = false ∧ decide (i < len) = false) ∨ ((i : Int) < (len : Int) ∧ decide ((i : Int) < 60) = false ∧ decide (i < 60) = false) := by
        simp; omega
      clear hgo
      obtain ⟨u, hu⟩ : ∃ u, lenU R 4 = u := ⟨_, rfl⟩
      obtain ⟨R', hR'⟩ : ∃ R', stR R m 3 = R' := ⟨_, rfl⟩
      obtain ⟨s1, s2, s3, s4⟩ := st_lens R m
      have HLen := hide (fun W h => len_any gq n R W h)
      have HBal := hide (fun W h => balance_any gq n R most m HM.out W h)
      rw [hu] at HLen s4
      rw [hR'] at HBal s1 s2 s3 s4
      have HLen2 := hide (fun W h => len_any gq n R' W h)
      rw [s4] at HLen2
      have HBal2 := hide (fun W h => balance_any gq n R' most m HM.out W h)
      rw [bal_none s1 s2 s3] at HBal2
      have HS := hide (show ∀ r, 1 ≤ r → r < 4 → (R' r).length ≤ m from fun r h1 h4 => by
        have : r = 1 ∨ r = 2 ∨ r = 3 := by omega
        rcases this with rfl | rfl | rfl <;> assumption)
      clear hu hR' s1 s2 s3 s4
      have HlQ := hide HLaw.out.lq
      rcases hcs with ⟨t1, t2⟩ | ⟨t1, t2, t3⟩
      all_goals
        go_upto_region 12 with (first
          | (go_at_call 13; (with_reducible refine (HLen.out _ HLaw.out.q).mono ?_); rintro e w3 ⟨rfl, hb⟩; have HL3 := hide (HLaw.out.later hb); clear hb)
          | (go_at_call 14; (with_reducible refine (HBal.out _ HL3.out.q).mono ?_); rintro e w4 ⟨rfl, h1, h2⟩; have HQ4 := hide h1; have HB4 := hide (HL3.out.below.trans (h2.below HL3.out.below.size (fun i (hi : i = gq) => by have := HL3.out.lq; omega))); clear h1 h2))
        go_wp2_with fail
        go_loopg [13] 3 (fun k s13 wx => BRel w gq gx n R' k s13 wx)
        case atStart => exact ⟨1, rfl, rfl, by omega, HQ4.out, HB4.out⟩
        case round =>
          clear HQ4 HB4 t1
          obtain ⟨r, rfl, hk, hr1, hq, hb⟩ := hrel
          have HQ := hide hq
          have HB := hide hb
          clear hq hb
          by_cases hr : r < 4
          · have hgk : 0 < gk := by omega
            have hr' : (r : Int) < 4 := by omega
            have hlm := HS.out r hr1 hr
            have HLi := hide (list_any gq n r R' hr wr HQ.out)
            unfold ListE at HLi
            obtain ⟨v, hv⟩ : ∃ v, (R' r).length = v := ⟨_, rfl⟩
            rw [hv] at HLi hlm
            have t5 : decide ((m : Int) < (v : Int)) = false := by simp; omega
            have t6 : decide (m < v) = false := by simp; omega
            have hmm := HM.out
            clear hv
            go_wp2_with (first
              | (go_at_call 11; (with_reducible refine HLi.out.mono ?_); rintro e w5 ⟨A5, c5, rfl, ho, hb⟩; have HQ5 := hide (HQ.out.later hb); have HB5 := hide (HB.out.trans (hb.mono HB.out.size)); clear ho hb))
            go_roundg (gk - 1)
            case measure => omega
            case rel => exact ⟨r + 1, by go_num, by omega, by omega, HQ5.out, HB5.out⟩
          · have hr' : decide (r < 4) = false := by simp; omega
            have hr'' : decide ((r : Int) < 4) = false := by simp; omega
            clear hr
            go_wp2_with (first
              | (go_at_call 13; (with_reducible refine (HLen2.out _ HQ.out).mono ?_); rintro e w6 ⟨rfl, hb⟩; have HQ6 := hide (HQ.out.later hb); have HB6 := hide (HB.out.trans (hb.mono HB.out.size)); clear hb)
              | (go_at_call 14; (with_reducible refine (HBal2.out _ HQ6.out).mono ?_); rintro e w7 ⟨rfl, h1, h2⟩; have HB7 := hide (HB6.out.trans (h2.below HB6.out.size (fun i (hi : i = gq) => by have := HlQ.out; omega))); clear h1 h2))
            go_ret
            exact ⟨rfl, HB7.out⟩
end Go.Proofs.Ytafhkjipjgkkkaa.Lv
