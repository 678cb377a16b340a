/- The law of every key's words, walked. -/
import Derived.Test.YtpehjdigbohfkaaAesWord
import Derived.Test.YtpehjdigbohfkaaAesRefWords
namespace Go.Proofs.Ytpehjdigbohfkaa.Ae
open Go.RowKit Go.Proofs.Ytpehjdigbohfkaa.W Go.Proofs.Ytpehjdigbohfkaa.Gf
set_option linter.unusedVariables false
set_option linter.unusedSimpArgs false

def accN (v : St) : Nat → Nat
  | 0 => 0
  | r + 1 => 256 * accN v r + (v r).toNat
theorem accN_lt (v : St) : ∀ r, r < 5 → accN v r < 256 ^ r
  | 0, _ => by simp [accN]
  | r + 1, h => by
    have h1 := accN_lt v r (by omega)
    have h2 := (v r).isLt
    simp only [accN, Nat.pow_succ]
    omega
theorem accN_four (v : St) : accN v 4 = wordN (v 0) (v 1) (v 2) (v 3) := by simp [accN, wordN]
theorem kfun_word (key : St) (i r : Nat) (hr : r < 4) : kfun key (4 * i + r) = kword key i r := by
  unfold kfun
  rw [show (4 * i + r) / 4 = i by omega, show (4 * i + r) % 4 = r by omega]
def LRel (v : St) (w6 : World) (k : Nat) (s10 s11 : Value) (wr : World) : Prop := ∃ r : Nat, s11 = .int .i64 (r : Int) ∧ s10 = .int .i64 (accN v r : Int) ∧ r + k = 4 ∧ wr = w6
set_option maxRecDepth 100000 in
set_option maxHeartbeats 1000000 in
theorem aesWords_walk (s : ByteArray) (i : Int) (w : World) : Calls Try.prog 6 #[.string s, .int .i64 i] w fun e w' => e = .returned (.bool true) ∧ Below w.heap.size w w' := by
  by_cases h32 : s.size = 32
  · have t1 : ((s.size : Int) != 32) = false := by simp; omega
    have t2 : (s.size != 32) = false := by simp; omega
    have HS := hide h32
    clear h32
    by_cases hr : i < 0 ∨ 60 ≤ i
    · have HR := hide hr
      have hcs : (decide (i < 0) = true) ∨ (decide (i < 0) = false ∧ (59 : Int) < i) := by
        by_cases h : i < 0
        · exact .inl (by simp [h])
        · exact .inr ⟨by simp; omega, by omega⟩
      clear hr
      rcases hcs with h1 | ⟨h1, h2⟩
      all_goals
        go_enter Try.func6, Try.ntmps6
        go_wp2_with (first
          | (go_at_call 8; (with_reducible refine (new_ok _ HS.out _).mono ?_); rintro e w1 ⟨rfl, hk, hb⟩; have HK := hide hk; have HB1 := hide hb; clear hb hk)
          | (go_at_call 18; (with_reducible refine (word_range _ _ HR.out _).mono ?_); rintro e w2 ⟨rfl, hb⟩; have HB2 := hide (HB1.out.trans (hb.mono HB1.out.size)); clear hb)
          | (go_at_call 11; (with_reducible refine (awake_any _).mono ?_); rintro e w3 ⟨rfl, hb⟩; have HB3 := hide (HB2.out.trans (hb.mono HB2.out.size)); clear hb))
        go_ret
        exact ⟨rfl, HB3.out⟩
    · obtain ⟨n, rfl⟩ : ∃ n : Nat, i = (n : Int) := ⟨i.toNat, by omega⟩
      have hn : n < 60 := by omega
      clear hr
      have h1 : decide ((n : Int) < 0) = false := by simp
      have h2 : decide ((59 : Int) < (n : Int)) = false := by simp; omega
      have h2' : decide (59 < n) = false := by simp; omega
      have h3 : (n : Int) < 60 := by omega
      obtain ⟨v, hv⟩ : ∃ v, kword (sbyte s) n = v := ⟨_, rfl⟩
      have HV := hide hv
      have e0 : kfun (sbyte s) (4 * n) = v 0 := by rw [← hv]; exact kfun_word (sbyte s) n 0 (by omega)
      have e1 : kfun (sbyte s) (4 * n + 1) = v 1 := by rw [← hv]; exact kfun_word (sbyte s) n 1 (by omega)
      have e2 : kfun (sbyte s) (4 * n + 2) = v 2 := by rw [← hv]; exact kfun_word (sbyte s) n 2 (by omega)
      have e3 : kfun (sbyte s) (4 * n + 3) = v 3 := by rw [← hv]; exact kfun_word (sbyte s) n 3 (by omega)
      have HWd : Hid (∀ g W, KeyAt W g (kfun (sbyte s)) → Calls Try.prog 18 #[.pointer (some ⟨g, 0, none⟩), .int .i64 (n : Int)] W fun e w' => e = .returned (.tuple #[.int .u32 (accN v 4 : Int), .int .i64 0]) ∧ Below W.heap.size W w') := hide (fun g W hk => by
        have h := word_ok g n _ hn W hk
        rw [e0, e1, e2, e3, ← accN_four] at h
        exact h)
      clear hv e0 e1 e2 e3
      go_enter Try.func6, Try.ntmps6
      go_upto_region 9 with (first
        | (go_at_call 8; (with_reducible refine (new_ok _ HS.out _).mono ?_); rintro e w1 ⟨rfl, hk, hb⟩; have HK := hide hk; have HB1 := hide hb; clear hb hk)
        | (go_at_call 18; (with_reducible refine (HWd.out _ _ HK.out).mono ?_); rintro e w2 ⟨rfl, hb⟩; have HB2 := hide (HB1.out.trans (hb.mono HB1.out.size)); clear hb)
        | (go_at_call 20; (with_reducible refine (rboxes_any _).mono ?_); rintro e w3 ⟨gb, cb, rfl, hgb, hnb, hb⟩; have HNB := hide hnb; have HB3 := hide (HB2.out.trans (hb.mono HB2.out.size)); clear hb hnb hgb)
        | (go_at_call 19; (with_reducible refine (rwords_any _ HS.out _ _ _ HNB.out).mono ?_); rintro e w4 ⟨gw, cw, V, rfl, hw⟩; have HW := hide hw; have HB4 := hide (HB3.out.trans (hw.below.mono HB3.out.size)); clear hw))
      have hx : ∃ q c, V n = .slice (some ⟨q, 0, none⟩) 4 c ∧ Ns w4 q 4 v := by
        obtain ⟨q, c, a1, _, _, a2⟩ := HW.out.word n hn
        rw [HV.out] at a2
        exact ⟨q, c, a1, a2⟩
      obtain ⟨q, cq, hVn, hnq⟩ := hx
      have cwn : w4.cell? ⟨gw, n, none⟩ = some (.slice (some ⟨q, 0, none⟩) 4 cq) := by
        obtain ⟨gB, curB, hAB, hgB, hbkB, hcurB⟩ := own_at HW.out.own (by omega)
        have hgg : gw = gB := by injection hAB with h; injection h
        subst hgg
        rw [hbkB.cell, hcurB n hn]
        simp only [List.getElem?_map, List.getElem?_range hn, Option.map_some, hVn]
      have HNQ := hide hnq
      clear hVn hnq
      have hl4 := accN_lt v 4 (by omega)
      have q4 : IntKind.i64.wrap (accN v 4 : Int) = (accN v 4 : Int) := IntWalk.i64_in _ (by omega)
      have HQ4 := hide q4
      clear q4 hl4
      go_wp2_with fail
      go_loopg [10, 11] 4 (fun k s10 s11 wr => LRel v w4 k s10 s11 wr)
      case atStart => exact ⟨0, rfl, rfl, rfl, rfl⟩
      case round =>
        obtain ⟨r, rfl, rfl, hk, rfl⟩ := hrel
        by_cases hr : r < 4
        · have hgk : 0 < gk := by omega
          have hr' : (r : Int) < 4 := by omega
          have cx := HNQ.out.at hr
          have hl1 := accN_lt v r (by omega)
          have hl1' : accN v r < 256 ^ 3 := Nat.lt_of_lt_of_le hl1 (Nat.pow_le_pow_right (by omega) (by omega))
          obtain ⟨y, hy⟩ : ∃ y, accN v r = y := ⟨_, rfl⟩
          obtain ⟨x, hx⟩ : ∃ y, (v r).toNat = y := ⟨_, rfl⟩
          have hxl := (v r).isLt
          obtain ⟨z, hz⟩ : ∃ z, 256 * y = z := ⟨_, rfl⟩
          obtain ⟨t, ht⟩ : ∃ t, z + x = t := ⟨_, rfl⟩
          have HT : Hid (accN v (r + 1) = t) := hide (by simp only [accN]; omega)
          rw [hy] at hl1' ⊢
          rw [hx] at cx hxl
          have q1 : IntKind.i64.wrap (256 * (y : Int)) = (z : Int) := by rw [show 256 * (y : Int) = (z : Int) by omega]; exact IntWalk.i64_in _ (by omega)
          have q2 : IntKind.i64.wrap ((z : Int) + (x : Int)) = (t : Int) := by rw [show (z : Int) + (x : Int) = (t : Int) by omega]; exact IntWalk.i64_in _ (by omega)
          clear hy hx hz ht hl1 hl1' hxl
          go_wp2_with fail
          go_roundg (gk - 1)
          case measure => omega
          case rel => exact ⟨r + 1, by go_num, by rw [HT.out], by omega, rfl⟩
        · have hr' : decide (r < 4) = false := by simp; omega
          have hr'' : decide ((r : Int) < 4) = false := by simp; omega
          obtain rfl : r = 4 := by omega
          clear hr
          have q4 := HQ4.out
          obtain ⟨z, hz⟩ : ∃ z, accN v 4 = z := ⟨_, rfl⟩
          rw [hz] at q4 ⊢
          clear hz
          go_wp2_with (first
            | (go_at_call 11; (with_reducible refine (awake_any _).mono ?_); rintro e w5 ⟨rfl, hb⟩; have HB5 := hide (HB4.out.trans (hb.mono HB4.out.size)); clear hb))
          go_ret
          exact ⟨rfl, HB5.out⟩
  · have t1 : ((s.size : Int) != 32) = true := by simp; omega
    have t2 : (s.size != 32) = true := by simp; omega
    have HS := hide h32
    clear h32
    go_enter Try.func6, Try.ntmps6
    go_wp2_with (first
      | (go_at_call 8; (with_reducible refine (new_bad _ HS.out _).mono ?_); rintro e w1 ⟨rfl, hb⟩; have HB1 := hide hb; clear hb)
      | (go_at_call 11; (with_reducible refine (awake_any _).mono ?_); rintro e w3 ⟨rfl, hb⟩; have HB3 := hide (HB1.out.trans (hb.mono HB1.out.size)); clear hb))
    go_ret
    exact ⟨rfl, HB3.out⟩
end Go.Proofs.Ytpehjdigbohfkaa.Ae
