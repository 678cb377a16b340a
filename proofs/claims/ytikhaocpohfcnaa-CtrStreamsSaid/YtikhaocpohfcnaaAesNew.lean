/- The contract of aes.New. -/
import Derived.Test.YtikhaocpohfcnaaAesImage
import Derived.BigRegion
namespace Go.Proofs.Ytikhaocpohfcnaa.Ae
open Go.RowKit Go.Proofs.Ytikhaocpohfcnaa.W Go.Proofs.Ytikhaocpohfcnaa.Gf
set_option linter.unusedVariables false
set_option linter.unusedSimpArgs false

theorem row4_eq (v : St) : (#[.int .u8 ((v 0).toNat : Int), .int .u8 ((v 1).toNat : Int), .int .u8 ((v 2).toNat : Int), .int .u8 ((v 3).toNat : Int)] : Array Value) = row 4 (u8s v) := by
  unfold row u8s
  rfl
theorem NewAt.rowFar {w wr : World} {f : St} (h : NewAt w f wr) {q : Nat} (hq : w.heap.size + 1 < q) (cs : Array Value) : NewAt w f (wr.setRow q cs) := ⟨h.key.farRow (by omega) _, h.p.farRow (by omega) _, below_setRow h.below (by omega) _⟩
theorem image_row (g gp : Nat) (v : St) (w : World) (hp : Blk w gp 24 #[.pointer (some ⟨g, 0, none⟩)]) (hg : g < w.heap.size)
    (hbox : ∀ b : BitVec 8, w.cell? ⟨g, 240 + b.toNat, none⟩ = some (.int .u8 ((sb b).toNat : Int))) :
    Calls Try.prog 37 #[.agg (row 4 (u8s v)), .pointer (some ⟨gp, 0, none⟩)] w
      fun e w' => e = .returned (.agg (row 4 (u8s fun r => sb (v r)))) ∧ Below w.heap.size w w' := by
  rw [← row4_eq]
  have h := image_lit g gp (v 0) (v 1) (v 2) (v 3) w hp hg hbox
  have e : row 4 (u8s (f4 (sb (v 0)) (sb (v 1)) (sb (v 2)) (sb (v 3)))) = row 4 (u8s fun r => sb (v r)) := row_congr (fun i hi => by
    have h : i = 0 ∨ i = 1 ∨ i = 2 ∨ i = 3 := by omega
    rcases h with rfl | rfl | rfl | rfl <;> rfl)
  rw [e] at h
  exact h
theorem nw_box (key : St) (c : Nat) {w : World} {g : Nat} (h : Blk w g 65 (row 752 (u8s (nw key c)))) (b : BitVec 8) : w.cell? ⟨g, 240 + b.toNat, none⟩ = some (.int .u8 ((sb b).toNat : Int)) := by
  have hb := b.isLt
  rw [h.at (i := 240 + b.toNat) (by omega)]
  simp only [u8s, nw]
  rw [if_neg (by omega), if_pos (by omega), Nat.add_sub_cancel_left, BitVec.ofNat_toNat, BitVec.setWidth_eq]
theorem nw_word (key : St) {i c m r : Nat} (hr : r < 4) (hm : 4 * m + 4 ≤ c) (hi : c ≤ 240) : nw key c (m * 4 + r) = kword key m r := by
  unfold nw kfun
  rw [if_pos (by omega), if_pos (by omega)]
  rw [show (m * 4 + r) / 4 = m by omega, show (m * 4 + r) % 4 = r by omega]
theorem nw_set (key : St) {i r : Nat} (hr : r < 4) (hi : i < 60) : ∀ c, c < 752 → upd (nw key (4 * i + r)) (i * 4 + r) (kword key i r) c = nw key (4 * i + (r + 1)) c := by
  intro c hc
  simp only [upd]
  unfold nw kfun
  by_cases h1 : c = i * 4 + r
  · rw [if_pos h1, if_pos (by omega), if_pos (by omega), h1, show (i * 4 + r) / 4 = i by omega, show (i * 4 + r) % 4 = r by omega]
  · rw [if_neg h1]
    by_cases h2 : c < 240
    · rw [if_pos h2, if_pos h2]
      by_cases h3 : c < 4 * i + r
      · rw [if_pos h3, if_pos (by omega)]
      · rw [if_neg h3, if_neg (by omega)]
    · rw [if_neg h2, if_neg h2]
theorem nw_copy (s : ByteArray) {i : Nat} (hi : i < 8) (t : ByteArray) (ht : ∀ r, r < 4 → sbyte t r = sbyte s (4 * i + r)) : ∀ c, c < 752 → over (u8s (nw (sbyte s) (4 * i))) (i * 4) 4 (u8s (sbyte t)) c = u8s (nw (sbyte s) (4 * (i + 1))) c := by
  intro c hc
  simp only [over, u8s]
  unfold nw kfun
  by_cases h1 : i * 4 ≤ c ∧ c < i * 4 + 4
  · rw [if_pos h1, if_pos (by omega), if_pos (by omega), ht _ (by omega), kword_lo _ (by omega)]
    simp only
    rw [show 4 * i + (c - i * 4) = 4 * (c / 4) + c % 4 by omega]
  · rw [if_neg h1]
    by_cases h2 : c < 240
    · rw [if_pos h2, if_pos h2]
      by_cases h3 : c < 4 * i
      · rw [if_pos h3, if_pos (by omega)]
      · rw [if_neg h3, if_neg (by omega)]
    · rw [if_neg h2, if_neg h2]
theorem sbyte_extract (s : ByteArray) (a b r : Nat) (h : a + r < b) (hb : b ≤ s.size) : sbyte (s.extract a b) r = sbyte s (a + r) := by
  have h3 : (s.data.extract a b)[r]? = s.data[a + r]? := by
    rw [Array.getElem?_extract, if_pos (by have : s.data.size = s.size := rfl; omega)]
  simp only [sbyte, Array.getD_eq_getD_getElem?, ByteArray.data_extract, h3]
theorem gw_lit (i : Nat) (v : St) (pw : BitVec 8) (h : i % 8 = 0) (h8 : 8 ≤ i) (hp : rc ((i - 1) / 8) = pw) : ∀ r, r < 4 → upd (fun r => sb (f4 (v 1) (v 2) (v 3) (v 0) r)) 0 (ad (sb (v 1)) pw) r = gw i v r := by
  intro r hr
  unfold gw
  rw [if_pos h, ← hp, show (i - 1) / 8 = i / 8 - 1 by omega]
  have h : r = 0 ∨ r = 1 ∨ r = 2 ∨ r = 3 := by omega
  rcases h with rfl | rfl | rfl | rfl <;> rfl
theorem rc_next {i : Nat} (h : i % 8 = 0) (h8 : 8 ≤ i) : tw (rc ((i - 1) / 8)) = rc (i / 8) := by
  rw [show i / 8 = (i - 1) / 8 + 1 by omega]
  rfl
def Img3 (w : World) (key u : St) (i q : Nat) (k : Nat) (s88 : Value) (wr : World) : Prop := ∃ r : Nat, s88 = .int .i64 (r : Int) ∧ r + k = 4 ∧ NewAt w (nw key (4 * i + r)) wr ∧ Blk wr q 61 (row 4 (u8s u))
def Img1 (w : World) (k : Nat) (s17 : Value) (wr : World) : Prop := ∃ i : Nat, s17 = .int .i64 (i : Int) ∧ i + k = 256 ∧ NewAt w (nk i) wr
def Img2 (w : World) (key : St) (k : Nat) (s7 s38 : Value) (wr : World) : Prop := ∃ i : Nat, s7 = .int .u8 ((rc ((i - 1) / 8)).toNat : Int) ∧ s38 = .int .i64 (i : Int) ∧ i + k = 60 ∧ NewAt w (nw key (4 * i)) wr
set_option maxRecDepth 100000 in
set_option maxHeartbeats 1000000 in
theorem new_ok (s : ByteArray) (hs : s.size = 32) (w : World) : Calls Try.prog 25 #[.string s] w fun e w' => e = .returned (.tuple #[.pointer (some ⟨w.heap.size, 0, none⟩), .int .i64 0]) ∧ KeyAt w' w.heap.size (kfun (sbyte s)) ∧ Below w.heap.size w w' := by
  have t1 : ((s.size : Int) != 32) = false := by simp; omega
  have t2 : (s.size != 32) = false := by simp; omega
  have HS32 := hide hs
  have hz := zero752
  have hmf : ∀ (fn : Fn) (first cap : Array Value) (w : World), (Instr.makeFunc fn first cap).run Try.prog w = .ok (.func fn first cap) w := fun _ _ _ _ => rfl
  clear hs
  go_enter Try.func25, Try.ntmps25
  go_upto_region 4 with fail
  have HN0 : Hid (NewAt w (nk 0) ((w.alloc (.cells (row 752 (u8s (nk 0))) 65)).alloc (.cells #[.pointer (some ⟨w.heap.size, 0, none⟩)] 24))) := hide
    ⟨(Blk.newAt w _ _ _ rfl).alloc _, Blk.newAt (w.alloc _) _ _ _ (by simp), ((Below.refl _ _).alloc (Nat.le_refl _) _).alloc (by simp) _⟩
  generalize (w.alloc (.cells (row 752 (u8s (nk 0))) 65)).alloc (.cells #[.pointer (some ⟨w.heap.size, 0, none⟩)] 24) = W at HN0 ⊢
  go_wp2_with fail
  go_loopg [17] 256 (fun k s17 wr => Img1 w k s17 wr)
  case atStart => exact ⟨0, rfl, rfl, HN0.out⟩
  case round =>
    clear HN0
    obtain ⟨i, rfl, hk, hs⟩ := hrel
    have HS := hide hs
    clear hs
    by_cases hi : i < 256
    · have hgk : 0 < gk := by omega
      have hi' : (i : Int) < 256 := by omega
      obtain ⟨b, hb⟩ : ∃ b : BitVec 8, b.toNat = i := ⟨BitVec.ofNat 8 i, by rw [BitVec.toNat_ofNat]; omega⟩
      have hcv : ∀ w, (convert 3 5 (.int .i64 (i : Int))).run Try.prog w = .ok (.int .u8 (b.toNat : Int)) w := fun w => by
        rw [hb]
        simp [convert, run_underlying Try.underlying3, run_underlying Try.underlying5, Conv.intToInt, wrap_u8 (x := (i : Int)) (by omega) (by omega)]
      have HB := hide hb
      have HX := hide (box_any b)
      clear hb
      go_upto_region 8 with (first
        | (go_at_call 36; (with_reducible refine (HX.out _).mono ?_); rintro e w2 ⟨rfl, hb⟩; have HS2 := hide (HS.out.later hb); clear hb))
      have cp := HS2.out.p.one_
      have ck1 := HS2.out.key.at (i := 240 + i) (by omega)
      have ck2 := HS2.out.key.at (i := 496 + (sb b).toNat) (by have := (sb b).isLt; omega)
      have fk1 := HS2.out.key.frozen (240 + i)
      have fk2 := HS2.out.key.frozen (496 + (sb b).toNat)
      have hx256 := (sb b).isLt
      have hx256' : ((sb b).toNat : Int) < 256 := by omega
      obtain ⟨x, hx⟩ : ∃ x, (sb b).toNat = x := ⟨_, rfl⟩
      rw [hx] at ck2 fk2 hx256 hx256' ⊢
      have hne : ¬ 240 + i = 496 + x := by omega
      have HX2 := hide hx
      clear hx HX
      go_region
      go_wp2_with fail
      go_roundg (gk - 1)
      case measure => omega
      case rel =>
        have h1 := (HS2.out.set_ (240 + i) (sb b)).set_ (496 + (sb b).toNat) b
        have h2 := (h1.as (nk_succ b HB.out)).drewN 1
        rw [HX2.out] at h2
        exact ⟨i + 1, by go_num, by omega, h2⟩
    · have hi' : decide (i < 256) = false := by simp; omega
      have hi'' : decide ((i : Int) < 256) = false := by simp; omega
      obtain rfl : i = 256 := by omega
      clear hi hi' hi''
      have HN1 := hide (HS.out.as (nk_nw (sbyte s)))
      clear HS
      go_wp2_with fail
      go_loopg [7, 38] 60 (fun k s7 s38 wr => Img2 w (sbyte s) k s7 s38 wr)
      case atStart => exact ⟨0, rfl, rfl, rfl, HN1.out⟩
      case round =>
        obtain ⟨i, rfl, rfl, hk, hs⟩ := hrel
        have HS := hide hs
        clear hs HN1
        by_cases hi : i < 60
        · have hgk : 0 < gk := by omega
          have hi' : (i : Int) < 60 := by omega
          by_cases hi8 : i < 8
          · have hi8' : (i : Int) < 8 := by omega
            obtain ⟨c, hc⟩ : ∃ c, 4 * i = c := ⟨_, rfl⟩
            have e1 : IntKind.i64.wrap (4 * (i : Int)) = (c : Int) := by rw [← hc, show 4 * (i : Int) = ((4 * i : Nat) : Int) by simp]; exact IntWalk.i64_in _ (by omega)
            have cp := HS.out.p.one_
            have hcs : c ≤ s.size := by rw [HS32.out]; omega
            have HM : Hid (4 = Nat.min (s.extract c s.size).size 4) := hide (by
              have h1 : (s.extract c s.size).size = s.size - c := by simp
              rw [h1, HS32.out]
              show 4 = min (32 - c) 4
              omega)
            have HC := hide hc
            clear hc
            go_wp2_with fail
            refine wp_region_still_tail 10 (by kernel_rfl) (by kernel_rfl) ?_
            simp only [List.take_succ_cons, List.take_zero, List.drop_succ_cons, List.drop_zero]
            repeat (refine wpStill_step (fun K hK => ?_); go_simp; refine hK _ ?_; clear hK K)
            refine wpStill_nil ?_
            change wpList _ _ _ _ _ wr.drew
            go_wp2_with (first
              | (with_reducible refine wpList_copy_str rfl (.tmp 48) (.tmp 52) 56 9 rfl 5 Try.underlying56 info8 (i * 4) 752 4 4 4 _ (s.extract c s.size) rfl rfl HS.out.key.drew HM.out (by omega) ?_))
            go_roundg (gk - 1)
            case measure => omega
            case rel =>
              have h1 := HS.out.key.drew.row_ (row 752 (over (u8s (nw (sbyte s) (4 * i))) (i * 4) 4 (u8s (sbyte (s.extract c s.size)))))
              rw [row_congr (nw_copy s hi8 (s.extract c s.size) (fun r hr => by rw [sbyte_extract s c s.size r (by have := HC.out; have := HS32.out; omega) (Nat.le_refl _), HC.out]))] at h1 ⊢
              refine ⟨i + 1, ?_, by go_num, by omega, ⟨h1, ?_, ?_⟩⟩
              · rw [show (i + 1 - 1) / 8 = (i - 1) / 8 by omega]
              · exact HS.out.p.drew.farRow (by omega) _
              · exact below_setRow (below_drewN HS.out.below 1) (Nat.le_refl _) _
          · have hi8' : decide ((i : Int) < 8) = false := by simp; omega
            obtain ⟨m, hm⟩ : ∃ m, i - 1 = m := ⟨_, rfl⟩
            have e1 : IntKind.i64.wrap ((i : Int) - 1) = (m : Int) := by rw [show (i : Int) - 1 = (m : Int) by omega]; exact IntWalk.i64_in _ (by omega)
            obtain ⟨r8, hr8⟩ : ∃ r, i % 8 = r := ⟨_, rfl⟩
            have e2 : Int.tmod (i : Int) 8 = (r8 : Int) := by rw [Int.tmod_eq_emod_of_nonneg (by omega)]; omega
            have cp := HS.out.p.one_
            have hm60 : (m : Int) < 60 := by omega
            have hm60' : m < 60 := by omega
            have hz4 := zero84
            obtain ⟨v, hv⟩ : ∃ v, kword (sbyte s) m = v := ⟨_, rfl⟩
            have HW : Hid (∀ r, r < 4 → u8s (nw (sbyte s) (4 * i)) (m * 4 + r) = u8s v r) := hide (fun r hr => by simp only [u8s]; rw [nw_word (sbyte s) (i := i) hr (by omega) (by omega), hv])
            have HV := hide hv
            have HM := hide hm
            have HR8 := hide hr8
            clear hv hm hr8
            go_upto_region 19 with (first
              | (with_reducible refine wpList_load_part rfl 61 (.tmp 59) rfl w.heap.size (m * 4) rfl 65 752 4 _ (u8s v) _ HS.out.key HW.out rfl Try.underlying61 info84 (by omega) ?_)
              | (with_reducible refine wpList_store_all rfl 61 (.tmp 10) (.tmp 60) rfl wr.heap.size rfl 61 4 _ _ rfl (Blk.newAt wr _ _ _ rfl) info84 (fun j _ => u8_one _ j) ?_))
            have HN2 : Hid (NewAt w (nw (sbyte s) (4 * i)) ((wr.alloc (.cells (row 4 (u8s fun _ => 0#8)) 61)).setRow wr.heap.size (row 4 (u8s v)))) := hide (by
              have hl := HS.out.below.size
              have hp := HS.out.p.lt
              have h := HS.out.alloc (.cells (row 4 (u8s fun _ => 0#8)) 61)
              exact ⟨h.key.farRow (by omega) _, h.p.farRow (by omega) _, below_setRow h.below (by omega) _⟩)
            have HW2 : Hid (Blk ((wr.alloc (.cells (row 4 (u8s fun _ => 0#8)) 61)).setRow wr.heap.size (row 4 (u8s v))) wr.heap.size 61 (row 4 (u8s v))) := hide ((Blk.newAt wr _ _ _ rfl).row_ _)
            have HG : Hid (w.heap.size + 1 < wr.heap.size) := hide HS.out.p.lt
            generalize hWW : ((wr.alloc (.cells (row 4 (u8s fun _ => 0#8)) 61)).setRow wr.heap.size (row 4 (u8s v))) = W2 at HN2 HW2
            generalize hq : wr.heap.size = q at HW2 HG
            clear HS HW cp e1
            obtain ⟨g0, hg0⟩ : ∃ g, g = gk := ⟨gk, rfl⟩
            subst hg0
            have hp7 := hide (rfl : rc ((i - 1) / 8) = rc ((i - 1) / 8))
            obtain ⟨pw, hpw⟩ : ∃ p, rc ((i - 1) / 8) = p := ⟨_, rfl⟩
            rw [hpw]
            have HP := hide hpw
            clear hpw hp7 hm60 hm60' hi8'
            have hcs : r8 = 0 ∨ r8 = 4 ∨ (¬ r8 = 0 ∧ ¬ r8 = 4) := by omega
            have HQ : Hid (q < W2.heap.size) := hide HW2.out.lt
            rcases hcs with h0 | h4 | ⟨h0, h4⟩
            focus
              subst h0
              have l1 := HW2.out.at (i := 1) (by omega)
              have l2 := HW2.out.at (i := 2) (by omega)
              have l3 := HW2.out.at (i := 3) (by omega)
              have l0 := HW2.out.at (i := 0) (by omega)
              simp only [u8s] at l0 l1 l2 l3
              have h := image_row w.heap.size (w.heap.size + 1) (f4 (v 1) (v 2) (v 3) (v 0)) W2 HN2.out.p HN2.out.key.lt (fun b => nw_box _ _ HN2.out.key b)
              rw [← four] at h
              have HI := hide h
              clear h
              go_upto_region 21 with (first
                | (go_at_call 37; (with_reducible refine HI.out.mono ?_); rintro e W3 ⟨rfl, hb⟩; have HN3 := hide (HN2.out.later hb); have HW3 := hide (later hb HW2.out); clear hb)
                | (with_reducible refine wpList_store_all rfl 61 (.tmp 10) (.tmp 75) rfl q rfl 61 4 _ _ rfl HW3.out info84 (fun j _ => u8_one _ j) ?_))
              clear l0 l1 l2 l3 HI e2
              have HN4 := hide (HN3.out.rowFar (q := q) HG.out (row 4 (u8s fun r => sb (f4 (v 1) (v 2) (v 3) (v 0) r))))
              have HW4 := hide (HW3.out.row_ (row 4 (u8s fun r => sb (f4 (v 1) (v 2) (v 3) (v 0) r))))
              change Code.wp _ _ _ _ (W3.setRow q (row 4 (u8s fun r => sb (f4 (v 1) (v 2) (v 3) (v 0) r))))
              generalize W3.setRow q (row 4 (u8s fun r => sb (f4 (v 1) (v 2) (v 3) (v 0) r))) = W4 at HN4 HW4 ⊢
              have l0 : W4.cell? ⟨q, 0, none⟩ = some (.int .u8 ((sb (v 1)).toNat : Int)) := HW4.out.at (i := 0) (by omega)
              have fr := HW4.out.frozen 0
              have hx := xor_ad (sb (v 1)) pw
              go_upto_region 22 with fail
              have HN5 : Hid (NewAt w (nw (sbyte s) (4 * i)) (W4.setCell ⟨q, 0, none⟩ (.int .u8 ((ad (sb (v 1)) pw).toNat : Int)))) := hide (HN4.out.far HG.out _)
              have HW5 : Hid (Blk (W4.setCell ⟨q, 0, none⟩ (.int .u8 ((ad (sb (v 1)) pw).toNat : Int))) q 61 (row 4 (u8s (gw i v)))) := hide (by
                have h1 := HW4.out.upd 0 (.int .u8 ((ad (sb (v 1)) pw).toNat : Int))
                rw [u8s_upd] at h1
                exact h1.as (fun c hc => by simp only [u8s]; rw [gw_lit i v pw HR8.out (by omega) HP.out c hc]))
              generalize W4.setCell ⟨q, 0, none⟩ (.int .u8 ((ad (sb (v 1)) pw).toNat : Int)) = W5 at HN5 HW5 ⊢
              clear l0 fr hx HN4 HW4 HN3 HW3 HN2 HW2
              go_upto_region 25 with (first | (go_at_call 38; (with_reducible refine (twice_any _ _).mono ?_); rintro e w' ⟨rfl, rfl⟩))
              have HP7 : Hid (tw pw = rc (i / 8)) := hide (by rw [← HP.out]; exact rc_next HR8.out (by omega))
              generalize tw pw = p7 at HP7 ⊢
              clear HR8
            rotate_left 1
            focus
              subst h4
              have h := image_row w.heap.size (w.heap.size + 1) v W2 HN2.out.p HN2.out.key.lt (fun b => nw_box _ _ HN2.out.key b)
              have HI := hide h
              clear h
              go_upto_region 25 with (first
                | (with_reducible refine wpList_load_all rfl 61 (.tmp 10) rfl q rfl 61 4 _ _ HW2.out rfl Try.underlying61 info84 ?_)
                | (go_at_call 37; (with_reducible refine HI.out.mono ?_); rintro e W3 ⟨rfl, hb⟩; have HN3 := hide (HN2.out.later hb); have HW3 := hide (later hb HW2.out); clear hb)
                | (with_reducible refine wpList_store_all rfl 61 (.tmp 10) (.tmp 87) rfl q rfl 61 4 _ _ rfl HW3.out info84 (fun j _ => u8_one _ j) ?_))
              have HN5 : Hid (NewAt w (nw (sbyte s) (4 * i)) (W3.setRow q (row 4 (u8s fun r => sb (v r))))) := hide (HN3.out.rowFar HG.out _)
              have HW5 : Hid (Blk (W3.setRow q (row 4 (u8s fun r => sb (v r)))) q 61 (row 4 (u8s (gw i v)))) := hide (by
                have h1 := HW3.out.row_ (row 4 (u8s fun r => sb (v r)))
                have e : gw i v = fun r => sb (v r) := by
                  funext r
                  have := HR8.out
                  unfold gw
                  rw [if_neg (by omega), if_pos (by omega)]
                rw [e]
                exact h1)
              change Code.wp _ _ _ _ (W3.setRow q (row 4 (u8s fun r => sb (v r))))
              generalize W3.setRow q (row 4 (u8s fun r => sb (v r))) = W5 at HN5 HW5 ⊢
              have HP7 : Hid (pw = rc (i / 8)) := hide (by rw [← HP.out, show (i - 1) / 8 = i / 8 by have := HR8.out; omega])
              generalize pw = p7 at HP HP7 ⊢
              clear HN3 HW3 HN2 HW2 HI e2 HR8 HP
            rotate_left 1
            focus
              have h0' : ((r8 : Int) == 0) = false := by simp; omega
              have h4' : ((r8 : Int) == 4) = false := by simp; omega
              go_upto_region 25 with fail
              have HN5 := HN2
              have HW5 : Hid (Blk W2 q 61 (row 4 (u8s (gw i v)))) := hide (by
                have e : gw i v = v := by
                  funext r
                  have := HR8.out
                  unfold gw
                  rw [if_neg (by omega), if_neg (by omega)]
                rw [e]
                exact HW2.out)
              have HP7 : Hid (pw = rc (i / 8)) := hide (by rw [← HP.out, show (i - 1) / 8 = i / 8 by have := HR8.out; omega])
              generalize pw = p7 at HP HP7 ⊢
              generalize hW5 : W2 = W5 at HN5 HW5 ⊢
              clear HN2 HW2 e2 HR8 HP h0' h4'
            all_goals
              have HU := hide (fun r => (rfl : gw i v r = gw i v r))
              obtain ⟨u, hu⟩ : ∃ u, gw i v = u := ⟨_, rfl⟩
              rw [hu] at HW5
              have HU := hide hu
              clear hu
              have HB : Hid (∀ r, kword (sbyte s) i r = kword (sbyte s) (i - 8) r ^^^ u r) := hide (fun r => by
                rw [kword_hi _ (by omega), ← HU.out, ← HV.out, ← HM.out])
              go_wp2_with fail
              go_loopg [88] 4 (fun k s88 wr => Img3 w (sbyte s) u i q k s88 wr)
              case atStart => exact ⟨0, rfl, rfl, HN5.out, HW5.out⟩
              case round =>
                obtain ⟨r, rfl, hk3, hs, hw⟩ := hrel
                have HS := hide hs
                have HW := hide hw
                clear hs hw HN5 HW5
                by_cases hr : r < 4
                · have hgk3 : 0 < gk := by omega
                  have hr' : (r : Int) < 4 := by omega
                  obtain ⟨m8, hm8⟩ : ∃ m8, i - 8 = m8 := ⟨_, rfl⟩
                  have e5 : IntKind.i64.wrap ((i : Int) - 8) = (m8 : Int) := by rw [show (i : Int) - 8 = (m8 : Int) by omega]; exact IntWalk.i64_in _ (by omega)
                  have hm8' : (m8 : Int) < 60 := by omega
                  have cp := HS.out.p.one_
                  have ck := HS.out.key.at (i := m8 * 4 + r) (by omega)
                  have ct := HW.out.at (i := r) (by omega)
                  have ckt := HS.out.key.at (i := i * 4 + r) (by omega)
                  have fk := HS.out.key.frozen (i * 4 + r)
                  simp only [u8s] at ck ct ckt
                  rw [nw_word (sbyte s) (i := i) hr (by omega) (by omega)] at ck
                  have HB2 : Hid (kword (sbyte s) i r = ad (kword (sbyte s) m8 r) (u r)) := hide (by rw [HB.out, hm8]; rfl)
                  obtain ⟨x, hx⟩ : ∃ x, kword (sbyte s) m8 r = x := ⟨_, rfl⟩
                  obtain ⟨y, hy⟩ : ∃ x, u r = x := ⟨_, rfl⟩
                  rw [hx] at ck
                  rw [hy] at ct
                  rw [hx, hy] at HB2
                  have hxr := xor_ad x y
                  have gne : ¬ w.heap.size = q := by have := HG.out; omega
                  clear hx hy hm8
                  go_wp2_with fail
                  refine wp_region_still_tail 20 (by kernel_rfl) (by kernel_rfl) ?_
                  simp only [List.take_succ_cons, List.take_zero, List.drop_succ_cons, List.drop_zero]
                  repeat (refine wpStill_step (fun K hK => ?_); go_simp; refine hK _ ?_; clear hK K)
                  refine wpStill_nil ?_
                  change wpList _ _ _ _ _ wr.drew
                  clear e5 hxr
                  go_wp2_with fail
                  go_roundg (gk - 1)
                  case measure => omega
                  case rel =>
                    have h1 := HS.out.set_ (i * 4 + r) (ad x y)
                    rw [← HB2.out] at h1 ⊢
                    exact ⟨r + 1, by go_num, by omega, (h1.as (nw_set (sbyte s) hr hi)).drewN 1, (HW.out.far (fun e => gne e.symm) _).drew⟩
                · have hr' : decide (r < 4) = false := by simp; omega
                  have hr'' : decide ((r : Int) < 4) = false := by simp; omega
                  obtain rfl : r = 4 := by omega
                  clear hr
                  go_wp2_with fail
                  go_roundg (g0 - 1)
                  case measure => omega
                  case rel =>
                    exact ⟨i + 1, by rw [HP7.out, Nat.add_sub_cancel], by go_num, by omega, HS.out⟩
        · have hi' : decide (i < 60) = false := by simp; omega
          have hi'' : decide ((i : Int) < 60) = false := by simp; omega
          obtain rfl : i = 60 := by omega
          clear hi
          have cp := HS.out.p.one_
          go_wp2_with fail
          go_ret2
          have h := HS.out.key
          rw [nw_all] at h
          exact ⟨rfl, h, HS.out.below⟩
end Go.Proofs.Ytikhaocpohfcnaa.Ae
