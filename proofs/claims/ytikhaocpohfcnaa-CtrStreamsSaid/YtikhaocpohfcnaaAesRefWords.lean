/- The document's words of a key, walked . -/
import Derived.Test.YtikhaocpohfcnaaAesRefRow
import Derived.Test.YtikhaocpohfcnaaAesImage
import Derived.Test.YtikhaocpohfcnaaStr
import Derived.Deep.RegionHeld3
import Derived.Deep.AppendLies
namespace Go.Proofs.Ytikhaocpohfcnaa.Ae
open Go.RowKit Go.Proofs.Ytikhaocpohfcnaa.W Go.Proofs.Ytikhaocpohfcnaa.Gf
set_option linter.unusedVariables false
set_option linter.unusedSimpArgs false

theorem rc_powN (n : Nat) : rc n = powN 2#8 n := by
  induction n with
  | zero => rfl
  | succ n ih => simp only [rc, powN]; rw [ih, mu_two]
theorem own_keep {w w' : World} {base n : Nat} {e : TypeId} {v : Value} {xs : List Value} (h : w.ownsRow base e 1 v n xs) (hk : ∀ g, v.ownBlock = some g → w'.heap[g]? = w.heap[g]?) : w'.ownsRow base e 1 v n xs := by
  refine ⟨h.1, ?_⟩
  rcases h.2 with h1 | ⟨g, cap, cur, rfl, h2, h3, h4⟩
  · exact .inl h1
  · exact .inr ⟨g, cap, cur, rfl, h2, (hk g rfl).trans h3, h4⟩
theorem own_lt {w : World} {base n g : Nat} {e : TypeId} {v : Value} {xs : List Value} (h : w.ownsRow base e 1 v n xs) (hg : v.ownBlock = some g) : g < w.heap.size := by
  rcases h.2 with ⟨rfl, _⟩ | ⟨g', cap, cur, rfl, _, h3, _⟩
  · cases hg
  · have e : g' = g := by simpa [Value.ownBlock] using hg
    subst e
    rcases Nat.lt_or_ge g' w.heap.size with hlt | hge
    · exact hlt
    · rw [Array.getElem?_eq_none hge] at h3; cases h3
/-- A key's words as a row of rows. -/
structure Wds (w : World) (key : St) (i : Nat) (v : Value) (V : Nat → Value) (wr : World) : Prop where
  own : wr.ownsRow w.heap.size 76 1 v i ((List.range i).map V)
  word : ∀ j, j < i → ∃ q c, V j = .slice (some ⟨q, 0, none⟩) 4 c ∧ w.heap.size ≤ q ∧ v.ownBlock ≠ some q ∧ Ns wr q 4 (kword key j)
  below : Below w.heap.size w wr
section
variable {w wr wx : World} {key : St} {i : Nat} {v : Value} {V : Nat → Value}
theorem Wds.alloc (h : Wds w key i v V wr) (o : Obj) : Wds w key i v V (wr.alloc o) := ⟨h.own.alloc o, fun j hj => by
  obtain ⟨q, c, h1, h2, h3, h4⟩ := h.word j hj
  exact ⟨q, c, h1, h2, h3, h4.alloc o⟩, h.below.alloc h.below.size o⟩
theorem Wds.later (h : Wds w key i v V wr) (hb : Below wr.heap.size wr wx) : Wds w key i v V wx := ⟨own_keep h.own (fun g hg => hb.block g (own_lt h.own hg)), fun j hj => by
  obtain ⟨q, c, h1, h2, h3, h4⟩ := h.word j hj
  exact ⟨q, c, h1, h2, h3, h4.later hb⟩, h.below.trans (hb.mono h.below.size)⟩
theorem Wds.drewN (h : Wds w key i v V wr) (k : Nat) : Wds w key i v V (wr.drewN k) := ⟨own_same h.own rfl, h.word, below_drewN h.below k⟩
theorem Wds.push (h : Wds w key i v V wr) {q c : Nat} {v1 : Value} {w1 : World} (hq : w.heap.size ≤ q) (hne : v.ownBlock ≠ some q) (hn : Ns wr q 4 (kword key i))
    (ho : w1.ownsRow w.heap.size 76 1 v1 (i + 1) ((List.range i).map V ++ [.slice (some ⟨q, 0, none⟩) 4 c])) (hg : wr.grownBy w1 v.ownBlock) (hat : v1.ownBlock = v.ownBlock ∨ v1.ownBlock = some wr.heap.size) :
    Wds w key (i + 1) v1 (fun j => if j = i then .slice (some ⟨q, 0, none⟩) 4 c else V j) w1 := by
  have hfar : ∀ q', q' < wr.heap.size → v.ownBlock ≠ some q' → v1.ownBlock ≠ some q' := fun q' hlt hne' => by
    rcases hat with e | e <;> rw [e]
    · exact hne'
    · intro e'
      cases e'
      omega
  refine ⟨?_, fun j hj => ?_, kept_below h.own hg h.below (Nat.le_refl _) h.below.size⟩
  · have e : (List.range (i + 1)).map (fun j => if j = i then Value.slice (some ⟨q, 0, none⟩) 4 c else V j) = (List.range i).map V ++ [.slice (some ⟨q, 0, none⟩) 4 c] := by
      rw [List.range_succ, List.map_append]
      congr 1
      · refine List.map_congr_left (fun j hj => ?_)
        rw [if_neg (by have := List.mem_range.1 hj; omega)]
      · simp
    rw [e]
    exact ho
  · by_cases e : j = i
    · subst e
      exact ⟨q, c, by simp, hq, hfar q hn.lt hne, hn.grown h.own hg hne⟩
    · obtain ⟨q', c', h1, h2, h3, h4⟩ := h.word j (by omega)
      exact ⟨q', c', by simp [e, h1], h2, hfar q' h4.lt h3, h4.grown h.own hg h3⟩
end
theorem ints_info : (Try.prog.info? 76).map (fun i => (i.zero, i.size, i.bytes)) = some (some (.slice none 0 0), 1, 24) := by kernel_rfl
theorem rpow2 (n : Nat) (hn : n < 1000) (w : World) : Calls Try.prog 53 #[.int .i64 2, .int .i64 (n : Int)] w fun e w' => e = .returned (.int .i64 ((rc n).toNat : Int)) ∧ w = w' := by
  rw [rc_powN]
  exact rpow_any 2#8 n hn w
theorem imgs_at (b : BitVec 8) : imgs b.toNat = sb b := by unfold imgs; rw [BitVec.ofNat_toNat, BitVec.setWidth_eq]
theorem Ns.four (w : World) (a b c d : BitVec 8) (g : Nat) (hg : g = w.heap.size) : Ns (w.alloc (.cells #[.int .i64 (a.toNat : Int), .int .i64 (b.toNat : Int), .int .i64 (c.toNat : Int), .int .i64 (d.toNat : Int)] 3)) g 4 (f4 a b c d) :=
  ⟨_, Blk.newAt w _ _ _ hg, fun r hr => by
    have h : r = 0 ∨ r = 1 ∨ r = 2 ∨ r = 3 := by omega
    rcases h with rfl | rfl | rfl | rfl <;> rfl⟩
theorem gw_rot (i n1 : Nat) (v : St) (h : i % 8 = 0) (hn : i / 8 - 1 = n1) : ∀ r, r < 4 → upd (f4 (sb (v 1)) (sb (v 2)) (sb (v 3)) (sb (v 0))) 0 (ad (sb (v 1)) (rc n1)) r = gw i v r := by
  intro r hr
  unfold gw
  rw [if_pos h, hn]
  have h : r = 0 ∨ r = 1 ∨ r = 2 ∨ r = 3 := by omega
  rcases h with rfl | rfl | rfl | rfl <;> rfl
theorem gw_img (i : Nat) (v : St) (h : i % 8 = 4) : ∀ r, r < 4 → f4 (sb (v 0)) (sb (v 1)) (sb (v 2)) (sb (v 3)) r = gw i v r := by
  intro r hr
  unfold gw
  rw [if_neg (by omega), if_pos h]
  have h : r = 0 ∨ r = 1 ∨ r = 2 ∨ r = 3 := by omega
  rcases h with rfl | rfl | rfl | rfl <;> rfl
def IRel (wr : World) (q : Nat) (u p : St) (k : Nat) (s8 : Value) (wx : World) : Prop :=
  ∃ r : Nat, s8 = .int .i64 (r : Int) ∧ r + k = 4 ∧ Ns wx q 4 (fun j => if j < r then p j else u j) ∧ Below wr.heap.size wr wx
def WRel (w : World) (key : St) (k : Nat) (s5 s6 : Value) (wr : World) : Prop :=
  ∃ (i : Nat) (A : Option Addr) (c : Nat) (V : Nat → Value), s6 = .int .i64 (i : Int) ∧ s5 = .slice A i c ∧ i + k = 60 ∧ Wds w key i (.slice A i c) V wr
set_option maxRecDepth 100000 in
set_option maxHeartbeats 8000000 in
theorem rwords_any (s : ByteArray) (hs : s.size = 32) (g cb : Nat) (w : World) (hbox : Ns w g 256 imgs) :
    Calls Try.prog 44 #[.string s, .slice (some ⟨g, 0, none⟩) 256 cb] w fun e w' => ∃ gw c V, e = .returned (.slice (some ⟨gw, 0, none⟩) 60 c) ∧ Wds w (sbyte s) 60 (.slice (some ⟨gw, 0, none⟩) 60 c) V w' := by
  obtain ⟨i0, hi0, hz0, hz1, hz2⟩ := info_parts int_info
  obtain ⟨i1, hj0, hj1, hj2, hj3⟩ := info_parts ints_info
  have HS32 := hide hs
  have HBox := hide hbox
  clear hs hbox
  go_enter Try.func44, Try.ntmps44
  go_wp2_with fail
  go_loopg [5, 6] 60 (fun k s5 s6 wr => WRel w (sbyte s) k s5 s6 wr)
  case atStart => exact ⟨0, none, 0, fun _ => undef, rfl, rfl, by omega, ⟨⟨rfl, .inl ⟨rfl, rfl⟩⟩, fun j hj => absurd hj (by omega), Below.refl _ _⟩⟩
  case round =>
    obtain ⟨i, A, c, V, rfl, rfl, hk, hw⟩ := hrel
    have HW := hide hw
    clear hw
    by_cases hi : i < 60
    · have hgk : 0 < gk := by omega
      have hi' : (i : Int) < 60 := by omega
      by_cases hi8 : i < 8
      · have hi8' : (i : Int) < 8 := by omega
        obtain ⟨c0, hc0⟩ : ∃ c, 4 * i = c := ⟨_, rfl⟩
        obtain ⟨c1, hc1⟩ : ∃ c, 4 * i + 1 = c := ⟨_, rfl⟩
        obtain ⟨c2, hc2⟩ : ∃ c, 4 * i + 2 = c := ⟨_, rfl⟩
        obtain ⟨c3, hc3⟩ : ∃ c, 4 * i + 3 = c := ⟨_, rfl⟩
        have e0 : IntKind.i64.wrap (4 * (i : Int)) = (c0 : Int) := by rw [show 4 * (i : Int) = (c0 : Int) by omega]; exact IntWalk.i64_in _ (by omega)
        have e1 : IntKind.i64.wrap ((c0 : Int) + 1) = (c1 : Int) := by rw [show (c0 : Int) + 1 = (c1 : Int) by omega]; exact IntWalk.i64_in _ (by omega)
        have e2 : IntKind.i64.wrap ((c0 : Int) + 2) = (c2 : Int) := by rw [show (c0 : Int) + 2 = (c2 : Int) by omega]; exact IntWalk.i64_in _ (by omega)
        have e3 : IntKind.i64.wrap ((c0 : Int) + 3) = (c3 : Int) := by rw [show (c0 : Int) + 3 = (c3 : Int) by omega]; exact IntWalk.i64_in _ (by omega)
        have l0 : c0 < s.size := by rw [HS32.out]; omega
        have l1 : c1 < s.size := by rw [HS32.out]; omega
        have l2 : c2 < s.size := by rw [HS32.out]; omega
        have l3 : c3 < s.size := by rw [HS32.out]; omega
        have g0 := getElem_sbyte s c0 l0
        have g1 := getElem_sbyte s c1 l1
        have g2 := getElem_sbyte s c2 l2
        have g3 := getElem_sbyte s c3 l3
        have HC := hide (And.intro hc0 (And.intro hc1 (And.intro hc2 hc3)))
        clear hc0 hc1 hc2 hc3
        have p0 : IntKind.i64.wrap ((sbyte s c0).toNat : Int) = ((sbyte s c0).toNat : Int) := IntWalk.i64_in _ (by have := (sbyte s c0).isLt; omega)
        have p1 : IntKind.i64.wrap ((sbyte s c1).toNat : Int) = ((sbyte s c1).toNat : Int) := IntWalk.i64_in _ (by have := (sbyte s c1).isLt; omega)
        have p2 : IntKind.i64.wrap ((sbyte s c2).toNat : Int) = ((sbyte s c2).toNat : Int) := IntWalk.i64_in _ (by have := (sbyte s c2).isLt; omega)
        have p3 : IntKind.i64.wrap ((sbyte s c3).toNat : Int) = ((sbyte s c3).toNat : Int) := IntWalk.i64_in _ (by have := (sbyte s c3).isLt; omega)
        go_wp2_with fail
        go_region_held3 (fun _ => True) (trivial)
          ((refine step_append_lies _ (by rfl) _ _ _ (by rfl) w.heap.size 76 i1 _ 1 24 Try.underlying78 hj0 hj1 hj2 hj3 rfl (by omega) (.slice A i c) i ((List.range i).map V) (by rfl) (own_same ((HW.out.own.alloc _).alloc _) rfl)
              ⟨wr.heap.size + 1, 0, none⟩ 1 1 [.slice (some ⟨wr.heap.size, 0, none⟩) 4 4] (by rfl) (by rfl) (new_cell (wr.alloc _) _ _ _ (by simp)) (by simp [Value.oneCell'])
              (by omega) (by simp [maxLen]; omega) (by omega) (by have := HW.out.below.size; simp; omega) (wr.heap.size + 2) (by simp) ?_; intro gg cap w1 hown1 hgrow hat hlt))
        all_goals
          have HO1 := hide hown1
          have HG1 := hide hgrow
          have HA1 := hide hat
          clear hown1 hgrow hat hlt e0 e1 e2 e3 l0 l1 l2 l3 g0 g1 g2 g3 p0 p1 p2 p3
          go_wp2_with fail
          go_roundg (gk - 1)
          case measure => omega
          case rel =>
            have hn : Ns ((wr.alloc (.cells #[.int .i64 ((sbyte s c0).toNat : Int), .int .i64 ((sbyte s c1).toNat : Int), .int .i64 ((sbyte s c2).toNat : Int), .int .i64 ((sbyte s c3).toNat : Int)] 3)).alloc (.cells #[.slice (some ⟨wr.heap.size, 0, none⟩) 4 4] 76)) wr.heap.size 4 (kword (sbyte s) i) := by
              refine ((Ns.four wr (sbyte s c0) (sbyte s c1) (sbyte s c2) (sbyte s c3) _ rfl).as (fun r hr => ?_)).alloc _
              rw [kword_lo _ hi8]
              obtain ⟨h0, h1, h2, h3⟩ := HC.out
              subst h0
              subst h1
              subst h2
              subst h3
              have h : r = 0 ∨ r = 1 ∨ r = 2 ∨ r = 3 := by omega
              rcases h with rfl | rfl | rfl | rfl <;> rfl
            refine ⟨i + 1, some ⟨gg, 0, none⟩, cap, _, by go_num, rfl, by omega, (((HW.out.alloc _).alloc _).drewN 1).push HW.out.below.size ?_ (hn.drewN 1) HO1.out HG1.out ?_⟩
            · intro e
              have := own_lt HW.out.own e
              omega
            · rcases HA1.out with e | e
              · exact .inl e.symm
              · right
                rw [e]
                first
                  | simp [Value.ownBlock]
                  | (simp [Value.ownBlock]; rfl)
                  | (show some _ = some _; congr 1)
      · have hi8' : decide ((i : Int) < 8) = false := by simp; omega
        obtain ⟨m, hm⟩ : ∃ m, i - 1 = m := ⟨_, rfl⟩
        have e1 : IntKind.i64.wrap ((i : Int) - 1) = (m : Int) := by rw [show (i : Int) - 1 = (m : Int) by omega]; exact IntWalk.i64_in _ (by omega)
        obtain ⟨r8, hr8⟩ : ∃ r, i % 8 = r := ⟨_, rfl⟩
        have e2 : Int.tmod (i : Int) 8 = (r8 : Int) := by rw [Int.tmod_eq_emod_of_nonneg (by omega)]; omega
        obtain ⟨gA, cur, rfl, hgA, hbk, hcur⟩ := own_at HW.out.own (by omega)
        obtain ⟨q, cq, hVm, hq, hne, hn⟩ := HW.out.word m (by omega)
        have cw := (hbk.alloc (.cells #[] 3)).cell m
        rw [hcur m (by omega)] at cw
        simp only [List.getElem?_map, List.getElem?_range (show m < i by omega), Option.map_some, hVm] at cw
        have hm' : (m : Int) < (i : Int) := by omega
        have HM := hide hm
        have HR8 := hide hr8
        have HN := hide hn
        obtain ⟨v, hv⟩ : ∃ v, kword (sbyte s) m = v := ⟨_, rfl⟩
        rw [hv] at HN
        have HV := hide hv
        have HBK := hide hbk
        have HCUR := hide hcur
        clear hn hm hr8 hbk hcur hv hVm hne
        have HO : Hid ((wr.alloc (.cells #[] 3)).ownsRow wr.heap.size 3 1 (.slice (some ⟨wr.heap.size, 0, none⟩) 0 0) 0 []) := hide ⟨rfl, .inr ⟨_, 0, #[], rfl, Nat.le_refl _, heap_alloc_new wr _, Nat.le_refl _, by simp [maxLen], rfl, rfl⟩⟩
        have HNew : Hid (∀ j u, ([.int .i64 ((v 0).toNat : Int), .int .i64 ((v 1).toNat : Int), .int .i64 ((v 2).toNat : Int), .int .i64 ((v 3).toNat : Int)] : List Value)[j]? = some u → (wr.alloc (.cells #[] 3)).cell? ((⟨q, 0, none⟩ : Addr).add j) = some u) := hide (fun j u hj => by
          have hj4 : j < 4 := by
            have := (List.getElem?_eq_some_iff.1 hj).1
            simpa using this
          have h1 := (HN.out.alloc (.cells #[] 3)).at hj4
          have h2 : j = 0 ∨ j = 1 ∨ j = 2 ∨ j = 3 := by omega
          rcases h2 with rfl | rfl | rfl | rfl <;> (simp at hj; subst hj; simpa [Addr.add] using h1))
        go_upto_region 8 with (first
          | (at_builtin; refine wpList_append_at _ rfl (.tmp 42) (.tmp 47) 76 rfl wr.heap.size 3 i0 (.int .i64 0) 1 8 Try.underlying76 hi0 hz0 hz1 hz2 rfl (by decide) _ 0 _ rfl (by exact HO.out) ⟨q, 0, none⟩ 4 cq _ rfl rfl (by exact HNew.out) (by simp [Value.oneCell']) (by simp [maxLen]) (by omega) (by simp) ?_; intro v1 w1 hown1 hg1 hat1; have HO1 := hide hown1; have HG1 := hide hg1; clear hown1 hg1 hat1))
        obtain ⟨A1, c1, hv1⟩ := own_form HO1.out
        have ho1 := HO1.out
        rw [hv1] at ho1
        obtain ⟨q1, cur1, hA1, hq1, hb1, hc1⟩ := own_at ho1 (by omega)
        have HX1 : Hid (Ns w1 q1 4 v) := hide ⟨cur1, hb1, fun r hr => by
          rw [hc1 r (by omega)]
          have h : r = 0 ∨ r = 1 ∨ r = 2 ∨ r = 3 := by omega
          rcases h with rfl | rfl | rfl | rfl <;> rfl⟩
        have HB1 : Hid (Below wr.heap.size wr w1) := hide (kept_below HO.out HG1.out ((Below.refl _ wr).alloc (Nat.le_refl _) _) (Nat.le_refl _) (by simp))
        have HQ1 : Hid (wr.heap.size ≤ q1) := hide hq1
        have HBX : Hid (Ns wr g 256 imgs) := hide (HBox.out.later HW.out.below)
        rw [hA1] at hv1
        have hv2 : v1 = .slice (some ⟨q1, 0, none⟩) 4 c1 := hv1
        rw [hv2]
        obtain ⟨x0, hx0⟩ : ∃ x, v 0 = x := ⟨_, rfl⟩
        obtain ⟨x1, hx1⟩ : ∃ x, v 1 = x := ⟨_, rfl⟩
        obtain ⟨x2, hx2⟩ : ∃ x, v 2 = x := ⟨_, rfl⟩
        obtain ⟨x3, hx3⟩ : ∃ x, v 3 = x := ⟨_, rfl⟩
        have l0 := HX1.out.at (r := 0) (by omega)
        have l1 := HX1.out.at (r := 1) (by omega)
        have l2 := HX1.out.at (r := 2) (by omega)
        have l3 := HX1.out.at (r := 3) (by omega)
        have b0 := (HBX.out.later HB1.out).at (r := x0.toNat) x0.isLt
        have b1 := (HBX.out.later HB1.out).at (r := x1.toNat) x1.isLt
        have b2 := (HBX.out.later HB1.out).at (r := x2.toNat) x2.isLt
        have b3 := (HBX.out.later HB1.out).at (r := x3.toNat) x3.isLt
        rw [imgs_at] at b0 b1 b2 b3
        rw [hx0] at l0
        rw [hx1] at l1
        rw [hx2] at l2
        rw [hx3] at l3
        have k0 := x0.isLt
        have k1 := x1.isLt
        have k2 := x2.isLt
        have k3 := x3.isLt
        have k0' : (x0.toNat : Int) < 256 := by omega
        have k1' : (x1.toNat : Int) < 256 := by omega
        have k2' : (x2.toNat : Int) < 256 := by omega
        have k3' : (x3.toNat : Int) < 256 := by omega
        have HXV := hide (And.intro hx0 (And.intro hx1 (And.intro hx2 hx3)))
        clear hx0 hx1 hx2 hx3 ho1 hA1 hb1 hc1 hv1 hv2 HO1 HG1 HO HNew cw HBK HCUR HN hq1 e1 hm'
        have hcs : r8 = 0 ∨ r8 = 4 ∨ (¬ r8 = 0 ∧ ¬ r8 = 4) := by omega
        rcases hcs with h0 | h4 | ⟨h0, h4⟩
        focus
          subst h0
          have h4' : (((0 : Nat) : Int) == 4) = false := by decide
          go_upto_region 9 with fail
          refine wp_region_still_tail 24 (by kernel_rfl) (by kernel_rfl) ?_
          simp only [List.take_succ_cons, List.take_zero, List.drop_succ_cons, List.drop_zero]
          repeat (refine wpStill_step (fun K hK => ?_); go_simp; refine hK _ ?_; clear hK K)
          refine wpStill_nil ?_
          change wpList _ _ _ _ _ w1.drew
          clear l0 l1 l2 l3 b0 b1 b2 b3
          go_upto_region 10 with fail
          have HX2 : Hid (Ns ((w1.alloc (.cells #[.int .i64 ((sb x1).toNat : Int), .int .i64 ((sb x2).toNat : Int), .int .i64 ((sb x3).toNat : Int), .int .i64 ((sb x0).toNat : Int)] 3)).drew) w1.heap.size 4 (f4 (sb x1) (sb x2) (sb x3) (sb x0))) := hide ((Ns.four w1 _ _ _ _ _ rfl).drewN 1)
          have HB2 : Hid (Below wr.heap.size wr ((w1.alloc (.cells #[.int .i64 ((sb x1).toNat : Int), .int .i64 ((sb x2).toNat : Int), .int .i64 ((sb x3).toNat : Int), .int .i64 ((sb x0).toNat : Int)] 3)).drew)) := hide (below_drewN (HB1.out.alloc HB1.out.size _) 1)
          have HQ2 : Hid (wr.heap.size ≤ w1.heap.size) := hide HB1.out.size
          generalize (w1.alloc (.cells #[.int .i64 ((sb x1).toNat : Int), .int .i64 ((sb x2).toNat : Int), .int .i64 ((sb x3).toNat : Int), .int .i64 ((sb x0).toNat : Int)] 3)).drew = w2 at HX2 HB2 ⊢
          generalize w1.heap.size = q2 at HX2 HQ2 ⊢
          clear HX1 HB1 HQ1
          obtain ⟨q8, hq8⟩ : ∃ q : Nat, i / 8 = q := ⟨_, rfl⟩
          obtain ⟨n1, hn1⟩ : ∃ q : Nat, q8 - 1 = q := ⟨_, rfl⟩
          have e4 : IntKind.i64.wrap ((i : Int) / 8) = (q8 : Int) := by rw [← hq8]; exact IntWalk.i64_in _ (by omega)
          have e5 : IntKind.i64.wrap ((q8 : Int) - 1) = (n1 : Int) := by rw [show (q8 : Int) - 1 = (n1 : Int) by omega]; exact IntWalk.i64_in _ (by omega)
          have hn1000 : n1 < 1000 := by omega
          have l0 := HX2.out.at (r := 0) (by omega)
          have l0' : w2.cell? ⟨q2, 0, none⟩ = some (.int .i64 ((sb x1).toNat : Int)) := l0
          have fr := HX2.out.frozen 0
          have HQN := hide (And.intro hq8 hn1)
          clear l0 hq8 hn1
          go_wp2_with fail
          refine wp_region_still_tail 10 (by kernel_rfl) (by kernel_rfl) ?_
          simp only [List.take_succ_cons, List.take_zero, List.drop_succ_cons, List.drop_zero]
          repeat (first
            | (refine wpStill_step (fun K hK => ?_); go_simp; refine hK _ ?_; clear hK K)
            | (refine wpStill_step (fun K hK => ?_); go_simp; with_reducible refine ⟨_, flipped (rpow2 n1 hn1000 _), hK _ ?_⟩; clear hK K)
            | (refine wpStill_step (fun K hK => ?_); go_simp; with_reducible refine ⟨_, flipped (radd_any (sb x1) (rc n1) _), hK _ ?_⟩; clear hK K))
          refine wpStill_nil ?_
          change wpList _ _ _ _ _ w2.drew
          clear e4 e5
          go_upto_region 13 with fail
          have HX5 : Hid (Ns ((w2.setCell ⟨q2, 0, none⟩ (.int .i64 ((ad (sb x1) (rc n1)).toNat : Int))).drew) q2 4 (gw i v)) := hide (((HX2.out.set_ 0 (ad (sb x1) (rc n1))).as (fun r hr => by
            obtain ⟨h0, h1, h2, h3⟩ := HXV.out
            subst h0
            subst h1
            subst h2
            subst h3
            exact gw_rot i n1 v HR8.out (by rw [HQN.out.1]; exact HQN.out.2) r hr)).drewN 1)
          have HB5 : Hid (Below wr.heap.size wr ((w2.setCell ⟨q2, 0, none⟩ (.int .i64 ((ad (sb x1) (rc n1)).toNat : Int))).drew)) := hide (below_drewN (HB2.out.setCell HQ2.out _) 1)
          generalize (w2.setCell ⟨q2, 0, none⟩ (.int .i64 ((ad (sb x1) (rc n1)).toNat : Int))).drew = w5 at HX5 HB5 ⊢
          have HQ5 : Hid (wr.heap.size ≤ q2) := HQ2
          generalize q2 = q5 at HX5 HQ5 ⊢
          clear HXV HQN HR8 e2 h4'
        rotate_left 1
        focus
          subst h4
          have h0' : (((4 : Nat) : Int) == 0) = false := by decide
          go_upto_region 12 with fail
          refine wp_region_still_tail 24 (by kernel_rfl) (by kernel_rfl) ?_
          simp only [List.take_succ_cons, List.take_zero, List.drop_succ_cons, List.drop_zero]
          repeat (refine wpStill_step (fun K hK => ?_); go_simp; refine hK _ ?_; clear hK K)
          refine wpStill_nil ?_
          change wpList _ _ _ _ _ w1.drew
          clear l0 l1 l2 l3 b0 b1 b2 b3
          go_upto_region 13 with fail
          have HX5 : Hid (Ns ((w1.alloc (.cells #[.int .i64 ((sb x0).toNat : Int), .int .i64 ((sb x1).toNat : Int), .int .i64 ((sb x2).toNat : Int), .int .i64 ((sb x3).toNat : Int)] 3)).drew) w1.heap.size 4 (gw i v)) := hide (((Ns.four w1 _ _ _ _ _ rfl).as (fun r hr => by
            obtain ⟨h0, h1, h2, h3⟩ := HXV.out
            subst h0
            subst h1
            subst h2
            subst h3
            exact gw_img i v HR8.out r hr)).drewN 1)
          have HB5 : Hid (Below wr.heap.size wr ((w1.alloc (.cells #[.int .i64 ((sb x0).toNat : Int), .int .i64 ((sb x1).toNat : Int), .int .i64 ((sb x2).toNat : Int), .int .i64 ((sb x3).toNat : Int)] 3)).drew)) := hide (below_drewN (HB1.out.alloc HB1.out.size _) 1)
          have HQ5 : Hid (wr.heap.size ≤ w1.heap.size) := hide HB1.out.size
          generalize (w1.alloc (.cells #[.int .i64 ((sb x0).toNat : Int), .int .i64 ((sb x1).toNat : Int), .int .i64 ((sb x2).toNat : Int), .int .i64 ((sb x3).toNat : Int)] 3)).drew = w5 at HX5 HB5 ⊢
          generalize w1.heap.size = q5 at HX5 HQ5 ⊢
          clear HX1 HB1 HQ1 HXV HR8 e2 h0'
        rotate_left 1
        focus
          have h0' : ((r8 : Int) == 0) = false := by simp; omega
          have h4' : ((r8 : Int) == 4) = false := by simp; omega
          go_upto_region 13 with fail
          have HX5 : Hid (Ns w1 q1 4 (gw i v)) := hide (HX1.out.as (fun r hr => by
            have := HR8.out
            unfold gw
            rw [if_neg (by omega), if_neg (by omega)]))
          have HB5 := HB1
          have HQ5 := HQ1
          generalize w1 = w5 at HX5 HB5 ⊢
          generalize q1 = q5 at HX5 HQ5 ⊢
          clear HX1 HB1 HQ1 HXV HR8 e2 h0' h4' l0 l1 l2 l3 b0 b1 b2 b3
        all_goals
          obtain ⟨u, hu⟩ : ∃ u, gw i v = u := ⟨_, rfl⟩
          rw [hu] at HX5
          have HP : Hid (∀ r, ad (u r) (kword (sbyte s) (i - 8) r) = kword (sbyte s) i r) := hide (fun r => by
            rw [kword_hi (sbyte s) (i := i) (by omega), ← hu, ← HV.out, ← HM.out]
            exact BitVec.xor_comm _ _)
          clear hu HV HM
          obtain ⟨g0, hg0⟩ : ∃ g, g = gk := ⟨gk, rfl⟩
          subst hg0
          go_wp2_with fail
          go_loopg [8] 4 (fun k s8 wx => IRel wr q5 u (kword (sbyte s) i) k s8 wx)
          case atStart => exact ⟨0, rfl, rfl, HX5.out.as (fun r hr => by simp), HB5.out⟩
          case round =>
            obtain ⟨r, rfl, hk3, hx, hbx⟩ := hrel
            have HX := hide hx
            have HBx := hide hbx
            clear hx hbx HX5 HB5
            by_cases hr : r < 4
            · have hgk3 : 0 < gk := by omega
              have hr' : (r : Int) < 4 := by omega
              obtain ⟨m8, hm8⟩ : ∃ m8, i - 8 = m8 := ⟨_, rfl⟩
              have e5 : IntKind.i64.wrap ((i : Int) - 8) = (m8 : Int) := by rw [show (i : Int) - 8 = (m8 : Int) by omega]; exact IntWalk.i64_in _ (by omega)
              have hm8' : (m8 : Int) < (i : Int) := by omega
              obtain ⟨gB, curB, hAB, hgB, hbkB, hcurB⟩ := own_at (HW.out.later HBx.out).own (by omega)
              have hgg : gA = gB := by injection hAB with h; injection h
              subst hgg
              obtain ⟨qm, cqm, hVm, hqm, hnem, hnm⟩ := (HW.out.later HBx.out).word m8 (by omega)
              have cw := hbkB.cell m8
              rw [hcurB m8 (by omega)] at cw
              simp only [List.getElem?_map, List.getElem?_range (show m8 < i by omega), Option.map_some, hVm] at cw
              have cm := hnm.at hr
              have cx := HX.out.at hr
              have fx := HX.out.frozen r
              simp only [Nat.lt_irrefl, if_false] at cx
              obtain ⟨y, hy⟩ : ∃ y, kword (sbyte s) m8 r = y := ⟨_, rfl⟩
              obtain ⟨x, hx⟩ : ∃ x, u r = x := ⟨_, rfl⟩
              have HPr : Hid (kword (sbyte s) i r = ad x y) := hide (by rw [← HP.out, hm8, hx, hy])
              rw [hy] at cm
              rw [hx] at cx
              clear hy hx hVm hnm hbkB hcurB hAB hnem hm8
              go_wp2_with fail
              refine wp_region_still_tail 16 (by kernel_rfl) (by kernel_rfl) ?_
              simp only [List.take_succ_cons, List.take_zero, List.drop_succ_cons, List.drop_zero]
              repeat (first
                | (refine wpStill_step (fun K hK => ?_); go_simp; refine hK _ ?_; clear hK K)
                | (refine wpStill_step (fun K hK => ?_); go_simp; with_reducible refine ⟨_, flipped (radd_any x y _), hK _ ?_⟩; clear hK K))
              refine wpStill_nil ?_
              change wpList _ _ _ _ _ wr.drew
              clear e5
              go_wp2_with fail
              go_roundg (gk - 1)
              case measure => omega
              case rel =>
                have h1 := ((HX.out.set_ r (ad x y)).as (f' := fun j => if j < r + 1 then kword (sbyte s) i j else u j) (fun j hj => by
                  simp only [upd]
                  by_cases e : j = r
                  · rw [if_pos e, if_pos (by omega), e, HPr.out]
                  · rw [if_neg e]
                    by_cases e2 : j < r
                    · rw [if_pos e2, if_pos (by omega)]
                    · rw [if_neg e2, if_neg (by omega)])).drewN 1
                exact ⟨r + 1, by go_num, by omega, h1, below_drewN (HBx.out.setCell HQ5.out _) 1⟩
            · have hr' : decide (r < 4) = false := by simp; omega
              have hr'' : decide ((r : Int) < 4) = false := by simp; omega
              obtain rfl : r = 4 := by omega
              clear hr
              have HWx := hide (HW.out.later HBx.out)
              have HX6 := hide (HX.out.as (f' := kword (sbyte s) i) (fun j hj => by rw [if_pos hj]))
              have hle := HWx.out.below.size
              clear HX
              go_wp2_with (first
                | (at_builtin; refine wpList_append_at _ rfl (.tmp 135) (.tmp 137) 78 rfl w.heap.size 76 i1 (.slice none 0 0) 1 24 Try.underlying78 hj0 hj1 hj2 hj3 rfl (by decide) _ i _ rfl (by exact HWx.out.own.alloc _) ⟨wr.heap.size, 0, none⟩ 1 1 _ rfl rfl (by exact new_cell _ _ _ _ rfl) (by simp [Value.oneCell']) (by simp [maxLen]; omega) (by omega) (by simp; omega) ?_; intro v1 w1 hown1 hg1 hat1; have HO1 := hide hown1; have HG1 := hide hg1; have HA1 := hide hat1; clear hown1 hg1 hat1))
              obtain ⟨A2, c2, hv2⟩ := own_form HO1.out
              have hne : (Value.slice (some ⟨gA, 0, none⟩) i c).ownBlock ≠ some q5 := fun e => by
                have h1 := own_lt HW.out.own e
                have h2 := HQ5.out
                omega
              have hqq := Nat.le_trans HW.out.below.size HQ5.out
              have hp := (HWx.out.alloc _).push hqq hne (HX6.out.alloc _) HO1.out HG1.out HA1.out
              rw [hv2] at hp ⊢
              go_roundg (g0 - 1)
              case measure => omega
              case rel => exact ⟨i + 1, A2, c2, _, by go_num, rfl, by omega, hp⟩
    · have hi' : decide (i < 60) = false := by simp; omega
      have hi'' : decide ((i : Int) < 60) = false := by simp; omega
      obtain rfl : i = 60 := by omega
      clear hi
      obtain ⟨gw, cur, rfl, _⟩ := own_at HW.out.own (by omega)
      go_wp2_with fail
      go_ret
      exact ⟨gw, c, V, rfl, HW.out⟩
end Go.Proofs.Ytikhaocpohfcnaa.Ae
