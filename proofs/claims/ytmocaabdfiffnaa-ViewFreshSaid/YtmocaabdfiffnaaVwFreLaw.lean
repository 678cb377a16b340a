/- ViewFresh, walked. -/
import Derived.Test.YtmocaabdfiffnaaVwFreP
namespace Go.Proofs.Ytmocaabdfiffnaa.Ct
open Go.RowKit Go.Proofs.Ytmocaabdfiffnaa.W Go.Maps
set_option linter.unusedVariables false
set_option linter.unusedSimpArgs false

structure FvAt (W4 : World) (x : Nat → ByteArray) (p : Nat) (An : Option Addr) (m cn : Nat) (Ab : Option Addr) (cb : Nat) (wr : World) : Prop where
  nums : wr.ownsRow W4.heap.size 3 1 (.slice An m cn) m (numsV (stt x p).1)
  blks : wr.ownsRow W4.heap.size 9 1 (.slice Ab m cb) m (blksV (stt x p).1)
  len : m = (stt x p).1.length
  below : Below W4.heap.size W4 wr
theorem FvAt.later {W4 wr w' : World} {x : Nat → ByteArray} {p : Nat} {An : Option Addr} {m cn : Nat} {Ab : Option Addr} {cb : Nat} (h : FvAt W4 x p An m cn Ab cb wr) (hb : Below wr.heap.size wr w') : FvAt W4 x p An m cn Ab cb w' :=
  ⟨own_below h.nums hb, own_below h.blks hb, h.len, h.below.trans (hb.mono h.below.size)⟩
theorem FvAt.drewN {W4 wr : World} {x : Nat → ByteArray} {p : Nat} {An : Option Addr} {m cn : Nat} {Ab : Option Addr} {cb : Nat} (h : FvAt W4 x p An m cn Ab cb wr) (n : Nat) : FvAt W4 x p An m cn Ab cb (wr.drewN n) :=
  ⟨own_same h.nums rfl, own_same h.blks rfl, h.len, below_drewN h.below n⟩
def O1Rel (W4 : World) (x : Nat → ByteArray) (k : Nat) (s9 s10 s11 s12 : Value) (wr : World) : Prop :=
  ∃ (d m : Nat) (An : Option Addr) (cn : Nat) (Ab : Option Addr) (cb : Nat), s12 = .int .i64 (d : Int) ∧ s9 = .slice An m cn ∧ s10 = .slice Ab m cb ∧ s11 = .bool (stt x (288 * d)).2 ∧ d + k = 2 ∧ FvAt W4 x (288 * d) An m cn Ab cb wr
def O2Rel (W4 : World) (x : Nat → ByteArray) (dd : Nat) (k : Nat) (s9 s10 s11 s14 : Value) (wr : World) : Prop :=
  ∃ (i m : Nat) (An : Option Addr) (cn : Nat) (Ab : Option Addr) (cb : Nat), s14 = .int .i64 (i : Int) ∧ s9 = .slice An m cn ∧ s10 = .slice Ab m cb ∧ s11 = .bool (stt x (dd + i)).2 ∧ i + k = 288 ∧ FvAt W4 x (dd + i) An m cn Ab cb wr
def O3Rel (W6 : World) (l : List Ent) (n m : Nat) (k : Nat) (s16 s17 : Value) (wr : World) : Prop :=
  ∃ (j q : Nat), s17 = .int .i64 (j : Int) ∧ s16 = .int .i64 (atV (fnd l n j)) ∧ j + k = m ∧ wr = W6.drewN q
set_option maxRecDepth 100000 in
set_option maxHeartbeats 8000000 in
theorem viewFresh_walk (A1 A2 : Option Addr) (n1 c1 n2 c2 : Nat) (x : Nat → ByteArray) (hx : ∀ d, d < 2 → (x d).size = 18432) (w : World)
    (h1 : ∀ W, Below w.heap.size w W → Calls Try.prog 6 #[.slice A1 n1 c1] W fun e w' => e = .returned (.string (x 0)) ∧ Below W.heap.size W w')
    (h2 : ∀ W, Below w.heap.size w W → Calls Try.prog 6 #[.slice A2 n2 c2] W fun e w' => e = .returned (.string (x 1)) ∧ Below W.heap.size W w') :
    Calls Try.prog 4 #[.slice A1 n1 c1, .slice A2 n2 c2] w fun e w' => e = .returned (.bool true) ∧ Below w.heap.size w w' := by
  obtain ⟨T, hT⟩ : ∃ T, (stt x 576).2 = T := ⟨_, rfl⟩
  obtain ⟨L, hL⟩ : ∃ L : Nat, (stt x 576).1.length = L := ⟨_, rfl⟩
  have hLb : L ≤ 576 := by rw [← hL]; exact stt_len x 576
  obtain ⟨N, E, hN1, hN2, hE1, hE2, hF⟩ : ∃ N E : Int, (T = true → N = 0) ∧ (T = false → N = (L : Int)) ∧ (T = true → E = 12) ∧ (T = false → E = 0) ∧ ∀ (g : Nat) (W : World), Blk W g 9 #[.string (x 0), .string (x 1)] → Calls Try.prog 11 #[.slice (some ⟨g, 0, none⟩) 2 2] W fun e w' => e = .returned (.tuple #[.int .i64 N, .int .i64 E]) ∧ Below W.heap.size W w' := by
    have hf : ∀ (g : Nat) (W : World), Blk W g 9 #[.string (x 0), .string (x 1)] → Calls Try.prog 11 #[.slice (some ⟨g, 0, none⟩) 2 2] W fun e w' => e = freshE x ∧ Below W.heap.size W w' := fun g W h => fresh_yes g x hx W (fun d hd => by
      have hd' : d = 0 ∨ d = 1 := by omega
      rcases hd' with rfl | rfl
      · exact h.cell 0
      · exact h.cell 1) h.lt
    cases T with
    | true =>
      have e : freshE x = .returned (.tuple #[.int .i64 0, .int .i64 12]) := by unfold freshE; rw [if_pos hT]
      rw [e] at hf
      exact ⟨0, 12, fun _ => rfl, fun h => (by cases h), fun _ => rfl, fun h => (by cases h), hf⟩
    | false =>
      have e : freshE x = .returned (.tuple #[.int .i64 (L : Int), .int .i64 0]) := by unfold freshE; rw [if_neg (by rw [hT]; decide), hL]
      rw [e] at hf
      exact ⟨(L : Int), 0, fun h => (by cases h), fun _ => rfl, fun h => (by cases h), fun _ => rfl, hf⟩
  have hFn : ∀ (g : Nat) (W : World), Blk W g 9 #[.string (x 0), .string ⟨#[]⟩] → Calls Try.prog 11 #[.slice (some ⟨g, 0, none⟩) 2 2] W fun e w' => e = .returned (.tuple #[.int .i64 0, .int .i64 6]) ∧ Below W.heap.size W w' := fun g W h =>
    fresh_no g (x 0) ⟨#[]⟩ (hx 0 (by omega)) (by decide) W (h.cell 0) (h.cell 1) h.lt
  have HT := hide hT
  have HLe := hide hL
  have HN := hide (And.intro hN1 (And.intro hN2 (And.intro hE1 hE2)))
  have HF := hide hF
  have HFn := hide hFn
  have H1 := hide h1
  have H2 := hide h2
  have HRl := hide (fun d (hd : d < 2) i hi W => rlook_any (x d) i (hx d hd) hi W)
  have HRb := hide (fun d (hd : d < 2) i hi W => rblock_any (x d) i (hx d hd) hi W)
  have HX := hide (And.intro (rfl : x 0 = x 0) (rfl : x 1 = x 1))
  obtain ⟨a, ha⟩ : ∃ a, x 0 = a := ⟨_, rfl⟩
  obtain ⟨b, hb⟩ : ∃ b, x 1 = b := ⟨_, rfl⟩
  rw [ha] at H1 HF HFn
  rw [hb] at H2 HF
  have HAe := hide ha
  have HBe := hide hb
  clear hT hL hN1 hN2 hE1 hE2 hF hFn h1 h2 hx ha hb HX
  obtain ⟨i0, hi0, hz0, hz1, hz2⟩ := info3 int_info
  obtain ⟨j0, hj0, hy0, hy1, hy2⟩ := info3 str_info
  go_enter Try.func4, Try.ntmps4
  go_wp2_with (first
    | (go_at_call 6; first
        | ((with_reducible refine (H1.out _ (Below.refl _ _)).mono ?_); rintro e w2 ⟨rfl, hb⟩; have HB2 := hide hb; clear hb)
        | ((with_reducible refine (H2.out _ HB2.out).mono ?_); rintro e w3 ⟨rfl, hb⟩; have HB3 := hide (HB2.out.trans (hb.mono HB2.out.size)); clear hb))
    | (go_at_call 11; (with_reducible refine (HF.out _ _ (Blk.newAt _ _ _ _ rfl)).mono ?_); rintro e w4 ⟨rfl, hb⟩; have HB4 := hide ((HB3.out.alloc HB3.out.size _).trans (hb.mono (by have := HB3.out.size; simp; omega))); clear hb))
  clear H1 H2 HF HB2 HB3
  go_loopg [9, 10, 11, 12, 13, 14, 15, 16, 17] 2 (fun k s9 s10 s11 s12 s13 s14 s15 s16 s17 wr => O1Rel w4 x k s9 s10 s11 s12 wr)
  case atStart => exact ⟨0, 0, none, 0, none, 0, rfl, rfl, rfl, rfl, rfl, World.ownsRow_nil _ _ _ _, World.ownsRow_nil _ _ _ _, rfl, Below.refl _ _⟩
  case round =>
    obtain ⟨d, m, An, cn, Ab, cb, rfl, rfl, rfl, rfl, hk, hat⟩ := hrel
    have HAt := hide hat
    have HK := hide hk
    obtain ⟨t, ht⟩ : ∃ t, (stt x (288 * d)).2 = t := ⟨_, rfl⟩
    simp only [ht]
    have HTd := hide ht
    clear hat ht
    by_cases hd : d < 2
    · have hlt : (d : Int) < 2 := by omega
      obtain ⟨dd, hdd⟩ : ∃ dd, 288 * d = dd := ⟨_, rfl⟩
      have hnx : 288 * (d + 1) = dd + 288 := by omega
      have HSt : Hid (∀ i, i < 288 → stt x (dd + i + 1) = stp (stt x (dd + i)) (numOf (blk (x d) i) i) (blk (x d) i)) := hide (fun i hi => by rw [← hdd]; exact stt_succ x hi)
      have H224 : Hid (stt x (dd + 224) = stt x dd) := hide (by rw [← hdd]; exact stt_224 x d 224 (by omega))
      have HRld := hide (HRl.out d hd)
      have HRbd := hide (HRb.out d hd)
      have HAd : Hid (FvAt w4 x dd An m cn Ab cb wr) := hide (by rw [← hdd]; exact HAt.out)
      have HTt : Hid ((stt x dd).2 = t) := hide (by rw [← hdd]; exact HTd.out)
      have HY : Hid ((d = 0 → x d = a) ∧ (d = 1 → x d = b)) := hide ⟨fun h => by rw [h]; exact HAe.out, fun h => by rw [h]; exact HBe.out⟩
      obtain ⟨y, hy⟩ : ∃ y, x d = y := ⟨_, rfl⟩
      rw [hy] at HSt HRld HRbd HY
      have HNx := hide hnx
      have HDd := hide hdd
      clear hy hdd hnx hk HAt HTd
      have hd' : d = 0 ∨ d = 1 := by omega
      rcases hd' with rfl | rfl
      · obtain rfl : y = a := HY.out.1 rfl
        go_wp2_with fail
        obtain ⟨g0, rfl⟩ : ∃ g0 : Nat, g0 = gk := ⟨_, rfl⟩
        obtain ⟨wo, rfl⟩ : ∃ wo : World, wo = wr := ⟨_, rfl⟩
        go_loopg [9, 10, 11, 14, 15, 16, 17] 64 (fun k s9 s10 s11 s14 s15 s16 s17 wr => O2Rel w4 x dd k s9 s10 s11 s14 wr)
        case atStart => exact ⟨224, m, An, cn, Ab, cb, rfl, rfl, rfl, by rw [H224.out, HTt.out], rfl, by
          have h := HAd.out
          exact ⟨by rw [H224.out]; exact h.nums, by rw [H224.out]; exact h.blks, by rw [H224.out]; exact h.len, h.below⟩⟩
        case round =>
          obtain ⟨i, m, An, cn, Ab, cb, rfl, rfl, rfl, rfl, hk, hat⟩ := hrel
          have HAi := hide hat
          have HKi := hide hk
          by_cases hi : i < 288
          · have hlti : (i : Int) < 288 := by omega
            have hS := HSt.out i hi
            have hcs := numOf_cases (blk y i) i
            have HRli : Hid (∀ W, Calls Try.prog 12 #[.string y, .int .i64 (i : Int)] W fun e w' => e = .returned (.agg #[.int .i64 (whatOf i : Int), .int .i64 (idxOf i : Int), .int .i64 (numOf (blk y i) i), .bool ((blk y i).toList == (zerosB 64).toList)]) ∧ Below W.heap.size W w') := hide (fun W => HRld.out i hi W)
            have HRbi := hide (HRbd.out i hi)
            have hmb : m ≤ 576 := by
              have h1 := hat.len
              have h2 := stt_len x (dd + i)
              have h3 := HDd.out
              omega
            have hln := hat.len
            obtain ⟨bb, hbb⟩ : ∃ b, blk y i = b := ⟨_, rfl⟩
            obtain ⟨v0, hv0⟩ : ∃ v, (whatOf i : Int) = v := ⟨_, rfl⟩
            obtain ⟨v1, hv1⟩ : ∃ v, (idxOf i : Int) = v := ⟨_, rfl⟩
            obtain ⟨v2, hv2⟩ : ∃ v, numOf (blk y i) i = v := ⟨_, rfl⟩
            obtain ⟨v3, hv3⟩ : ∃ v, ((blk y i).toList == (zerosB 64).toList) = v := ⟨_, rfl⟩
            rw [hv0, hv1, hv2, hv3] at HRli
            rw [hv2] at hS hcs
            rw [hbb] at HRbi hS
            obtain ⟨st, hst⟩ : ∃ st, stt x (dd + i) = st := ⟨_, rfl⟩
            obtain ⟨l, t⟩ := st
            simp only [hst]
            rw [hst] at hS hln
            have HSs := hide hst
            clear hv0 hv1 hv2 hv3 hbb hk hat hst
            rcases hcs with rfl | ⟨n, rfl, hn⟩
            · have HS := hide (hS.trans (stp_low (by omega)))
              clear hS hln
              go_wp2_with (first
                | (go_at_call 12; (with_reducible refine (HRli.out _).mono ?_); rintro e w5 ⟨rfl, hb⟩; have HX5 := hide hb; clear hb))
              have hk := HKi.out
              go_roundg (gk - 1)
              case measure => omega
              case rel =>
                have h := HAi.out.later (HX5.out.alloc HX5.out.size (.cells #[.int .i64 v0, .int .i64 v1, .int .i64 (-1), .bool v3] 40))
                exact ⟨i + 1, m, An, cn, Ab, cb, by go_num, rfl, rfl, by rw [← Nat.add_assoc, HS.out], by omega, by rw [← Nat.add_assoc, HS.out, ← HSs.out]; exact h.nums, by rw [← Nat.add_assoc, HS.out, ← HSs.out]; exact h.blks, by rw [← Nat.add_assoc, HS.out, ← HSs.out]; exact h.len, h.below⟩
            · have t0 : decide ((n : Int) < 0) = false := by simp
              have HSu := hide hS
              have HLn := hide hln
              clear hS hln
              go_wp2_with (first
                | (go_at_call 12; (with_reducible refine (HRli.out _).mono ?_); rintro e w5 ⟨rfl, hb⟩; have HX5 := hide hb; clear hb))
              have k0 : Blk (w5.alloc (.cells #[.int .i64 v0, .int .i64 v1, .int .i64 (n : Int), .bool v3] 40)) w5.heap.size 40 #[.int .i64 v0, .int .i64 v1, .int .i64 (n : Int), .bool v3] := Blk.newAt w5 _ _ _ rfl
              have hat6 := HAi.out.later (HX5.out.alloc HX5.out.size (.cells #[.int .i64 v0, .int .i64 v1, .int .i64 (n : Int), .bool v3] 40))
              generalize w5.alloc (.cells #[.int .i64 v0, .int .i64 v1, .int .i64 (n : Int), .bool v3] 40) = W6 at k0 hat6 ⊢
              obtain ⟨gx, hgx⟩ : ∃ g, w5.heap.size = g := ⟨_, rfl⟩
              rw [hgx] at k0
              simp only [hgx]
              have HA6 := hide hat6
              have HK0 := hide k0
              clear hgx hat6 k0 HX5 HRli HAi
              obtain ⟨g1, rfl⟩ : ∃ g1 : Nat, g1 = gk := ⟨_, rfl⟩
              obtain ⟨wp, rfl⟩ : ∃ wp : World, wp = wr := ⟨_, rfl⟩
              go_loopg [16, 17] m (fun k s16 s17 wr => O3Rel W6 l n m k s16 s17 wr)
              case atStart => exact ⟨0, 0, rfl, rfl, by omega, rfl⟩
              case round =>
                obtain ⟨j, q, rfl, rfl, hk, rfl⟩ := hrel
                have HKj := hide hk
                by_cases hj : j < m
                · have hltj : (j : Int) < (m : Int) := by omega
                  have hj2 : j < l.length := by have := HLn.out; omega
                  obtain ⟨gn, capn, hvn, _, _⟩ := HA6.out.nums.form (by omega)
                  injection hvn with hvn1 _ hvn2
                  subst hvn1 hvn2
                  have cx : W6.cell? ⟨gn, j, none⟩ = some (.int .i64 ((l[j]'hj2).1 : Int)) := by
                    have h := (HA6.out.nums.cellAt j (by omega))
                    rw [HSs.out] at h
                    exact h.trans (numsV_at hj2)
                  have cn2 : W6.cell? ⟨gx, 2, none⟩ = some (.int .i64 (n : Int)) := HK0.out.cell 2
                  obtain ⟨u, hu⟩ : ∃ u, (l[j]'hj2).1 = u := ⟨_, rfl⟩
                  rw [hu] at cx
                  by_cases hun : u = n
                  · have hf := fnd_hit hj2 (hu.trans hun)
                    have HFd := hide hf
                    subst hun
                    clear hk hu hf
                    go_wp2_with fail
                    go_quiet (fail)
                    go_wp2_with fail
                    have hk := HKj.out
                    go_roundg (gk - 1)
                    case measure => omega
                    case rel => exact ⟨j + 1, _, by go_num, by rw [HFd.out]; rfl, by omega, by first | rfl | exact World.drewN_drewN _ _ _⟩
                  · have hf := fnd_miss hj2 (fun h => hun (hu.symm.trans h))
                    have HFd := hide hf
                    have t1 : ((u : Int) == (n : Int)) = false := by simp; omega
                    have t2 : (u == n) = false := by simp; omega
                    clear hk hu hf hun
                    go_wp2_with fail
                    go_quiet (fail)
                    go_wp2_with fail
                    have hk := HKj.out
                    go_roundg (gk - 1)
                    case measure => omega
                    case rel => exact ⟨j + 1, _, by go_num, by rw [HFd.out], by omega, by first | rfl | exact World.drewN_drewN _ _ _⟩
                · obtain rfl : j = m := by omega
                  have hjm : decide ((j : Int) < (j : Int)) = false := by simp
                  have hlj : l.length = j := HLn.out.symm
                  cases hf : fnd l n j with
                  | none =>
                    have hS := HSu.out
                    rw [stp_new (by rw [← HLn.out]; exact hf)] at hS
                    have HS := hide hS
                    simp only [hf, atV]
                    clear hk hS hf hlj hj
                    have HA7 := hide (HA6.out.drewN q)
                    have cn7 : (W6.drewN q).cell? ⟨gx, 2, none⟩ = some (.int .i64 (n : Int)) := (HK0.out.drewN q).cell 2
                    have gx7 := (HK0.out.drewN q).lt
                    generalize W6.drewN q = W7 at HA7 cn7 gx7 ⊢
                    go_wp2_with (first
                      | (at_builtin; refine wpList_append_at _ rfl (.tmp 65) (.tmp 68) 27 rfl w4.heap.size 3 i0 (.int .i64 0) 1 8 Try.underlying27 hi0 hz0 hz1 hz2 rfl (by decide) _ j _ rfl (by exact HA7.out.nums.alloc _) ⟨_, 0, none⟩ 1 1 [.int .i64 (n : Int)] rfl rfl (by exact new_cell _ _ _ _ rfl) (by simp [Value.oneCell']) (by simp [maxLen]; omega) (by omega) (by have := HA7.out.below.size; simp; omega) ?_; intro v8 w8 hown1 hg1 hat1; obtain ⟨A8, c8, e8⟩ := own_form hown1; subst e8; have HO8 := hide hown1; have HG8 : Hid ((W7.alloc (.cells #[.int .i64 (n : Int)] 3)).grownBy w8 (Value.slice An j cn).ownBlock) := hide hg1; have HBk8 := hide (own_kept (HA7.out.blks.alloc _) (HA7.out.nums.alloc (.cells #[.int .i64 (n : Int)] 3)) (by decide) HG8.out); have HBl8 := hide (kept_below (HA7.out.nums.alloc (.cells #[.int .i64 (n : Int)] 3)) HG8.out (HA7.out.below.alloc HA7.out.below.size _) (Nat.le_refl _) (by have := HA7.out.below.size; simp; omega)); clear hown1 hg1 hat1)
                      | (go_at_call 8; (with_reducible refine (HRbi.out _).mono ?_); rintro e wx ⟨rfl, hw⟩; subst wx)
                      | (at_builtin; refine wpList_append_at _ rfl (.tmp 70) (.tmp 74) 38 rfl w4.heap.size 9 j0 (.string ByteArray.empty) 1 16 Try.underlying38 hj0 hy0 hy1 hy2 rfl (by decide) _ j _ rfl (by exact HBk8.out.alloc _) ⟨_, 0, none⟩ 1 1 [.string bb] rfl rfl (by exact new_cell _ _ _ _ rfl) (by simp [Value.oneCell']) (by simp [maxLen]; omega) (by omega) (by have := HBl8.out.size; simp; omega) ?_; intro v9 w9 hown1 hg1 hat1; obtain ⟨A9, c9, e9⟩ := own_form hown1; subst e9; have HO9 := hide hown1; have HG9 : Hid ((w8.alloc (.cells #[.string bb] 9)).grownBy w9 (Value.slice Ab j cb).ownBlock) := hide hg1; clear hown1 hg1 hat1))
                    have hk := HKi.out
                    have hnm := own_kept (HO8.out.alloc _) (HBk8.out.alloc (.cells #[.string bb] 9)) (by decide) HG9.out
                    have hbl := kept_below (HBk8.out.alloc (.cells #[.string bb] 9)) HG9.out (HBl8.out.alloc HBl8.out.size _) (Nat.le_refl _) (by have := HBl8.out.size; simp; omega)
                    have hbk := HO9.out
                    rw [HSs.out] at hnm hbk
                    go_roundg (g1 - 1)
                    case measure => omega
                    case rel =>
                      refine ⟨i + 1, j + 1, A8, c8, A9, c9, by go_num, rfl, rfl, by rw [← Nat.add_assoc, HS.out], by omega, ?_, ?_, ?_, hbl⟩
                      · rw [← Nat.add_assoc, HS.out]
                        show w9.ownsRow _ _ 1 _ _ (numsV (l ++ [(n, bb)]))
                        rw [numsV_push]
                        exact hnm
                      · rw [← Nat.add_assoc, HS.out]
                        show w9.ownsRow _ _ 1 _ _ (blksV (l ++ [(n, bb)]))
                        rw [blksV_push]
                        exact hbk
                      · rw [← Nat.add_assoc, HS.out]
                        show j + 1 = (l ++ [(n, bb)]).length
                        rw [List.length_append, ← HLn.out]
                        rfl
                  | some k =>
                    have hS := HSu.out
                    rw [stp_old (by rw [← HLn.out]; exact hf)] at hS
                    have HS := hide hS
                    have hkj := fnd_lt hf
                    simp only [hf, atV]
                    clear hk hS hf hj
                    have hjl : k < l.length := by omega
                    have HA7 := hide (HA6.out.drewN q)
                    have tk0 : decide ((k : Int) < 0) = false := by simp
                    have tkj : (k : Int) < (j : Int) := by omega
                    obtain ⟨gb, capb, hvb, _, _⟩ := HA7.out.blks.form (by omega)
                    injection hvb with hvb1 _ hvb2
                    subst hvb1 hvb2
                    have ck : (W6.drewN q).cell? ⟨gb, k, none⟩ = some (.string (blkAt l k)) := by
                      have h := (HA7.out.blks.cellAt k (by omega))
                      rw [HSs.out] at h
                      exact h.trans (blksV_at hjl)
                    obtain ⟨v, hv⟩ : ∃ v, blkAt l k = v := ⟨_, rfl⟩
                    rw [hv] at ck
                    have HVb := hide hv
                    generalize W6.drewN q = W7 at HA7 ck ⊢
                    clear hlj hv hjl
                    cases t with
                    | true =>
                      go_wp2_with fail
                      go_quiet (first
                        | (go_at_call 8; exact Calls.quiet_of_same (HRbi.out _)))
                      go_wp2_with fail
                      have hk := HKi.out
                      have h := HA7.out.drewN nq
                      go_roundg (g1 - 1)
                      case measure => omega
                      case rel => exact ⟨i + 1, j, An, cn, _, cb, by go_num, rfl, rfl, by rw [← Nat.add_assoc, HS.out]; rfl, by omega, by rw [← Nat.add_assoc, HS.out, ← congrArg Prod.fst HSs.out]; exact h.nums, by rw [← Nat.add_assoc, HS.out, ← congrArg Prod.fst HSs.out]; exact h.blks, by rw [← Nat.add_assoc, HS.out, ← congrArg Prod.fst HSs.out]; exact h.len, h.below⟩
                    | false =>
                      by_cases hvb : v = bb
                      · have t1 : (v.toList == bb.toList) = true := by rw [toList_eq_iff]; simpa using hvb
                        have HE : Hid ((false || decide (blkAt l k ≠ bb)) = false) := hide (by rw [HVb.out, hvb]; simp)
                        clear hvb
                        go_wp2_with fail
                        go_quiet (first
                          | (go_at_call 8; exact Calls.quiet_of_same (HRbi.out _)))
                        go_wp2_with fail
                        have hk := HKi.out
                        have h := HA7.out.drewN nq
                        go_roundg (g1 - 1)
                        case measure => omega
                        case rel => exact ⟨i + 1, j, An, cn, _, cb, by go_num, rfl, rfl, by rw [← Nat.add_assoc, HS.out]; show _ = Value.bool (false || decide (blkAt l k ≠ bb)); rw [HE.out], by omega, by rw [← Nat.add_assoc, HS.out, ← congrArg Prod.fst HSs.out]; exact h.nums, by rw [← Nat.add_assoc, HS.out, ← congrArg Prod.fst HSs.out]; exact h.blks, by rw [← Nat.add_assoc, HS.out, ← congrArg Prod.fst HSs.out]; exact h.len, h.below⟩
                      · have t1 : (v.toList == bb.toList) = false := by rw [toList_eq_iff]; simpa using hvb
                        have HE : Hid ((false || decide (blkAt l k ≠ bb)) = true) := hide (by rw [HVb.out]; simpa using hvb)
                        clear hvb
                        go_wp2_with fail
                        go_quiet (first
                          | (go_at_call 8; exact Calls.quiet_of_same (HRbi.out _)))
                        go_wp2_with fail
                        have hk := HKi.out
                        have h := HA7.out.drewN nq
                        go_roundg (g1 - 1)
                        case measure => omega
                        case rel => exact ⟨i + 1, j, An, cn, _, cb, by go_num, rfl, rfl, by rw [← Nat.add_assoc, HS.out]; show _ = Value.bool (false || decide (blkAt l k ≠ bb)); rw [HE.out], by omega, by rw [← Nat.add_assoc, HS.out, ← congrArg Prod.fst HSs.out]; exact h.nums, by rw [← Nat.add_assoc, HS.out, ← congrArg Prod.fst HSs.out]; exact h.blks, by rw [← Nat.add_assoc, HS.out, ← congrArg Prod.fst HSs.out]; exact h.len, h.below⟩
          · obtain rfl : i = 288 := by omega
            clear hi hk hat
            go_wp2_with fail
            have hk := HK.out
            go_roundg (g0 - 1)
            case measure => omega
            case rel =>
              have h := HAi.out
              rw [← HNx.out] at h
              refine ⟨_, m, An, cn, Ab, cb, by go_num, rfl, rfl, ?_, by omega, h⟩
              rw [← HNx.out]
      · obtain rfl : y = b := HY.out.2 rfl
        go_wp2_with fail
        obtain ⟨g0, rfl⟩ : ∃ g0 : Nat, g0 = gk := ⟨_, rfl⟩
        obtain ⟨wo, rfl⟩ : ∃ wo : World, wo = wr := ⟨_, rfl⟩
        go_loopg [9, 10, 11, 14, 15, 16, 17] 64 (fun k s9 s10 s11 s14 s15 s16 s17 wr => O2Rel w4 x dd k s9 s10 s11 s14 wr)
        case atStart => exact ⟨224, m, An, cn, Ab, cb, rfl, rfl, rfl, by rw [H224.out, HTt.out], rfl, by
          have h := HAd.out
          exact ⟨by rw [H224.out]; exact h.nums, by rw [H224.out]; exact h.blks, by rw [H224.out]; exact h.len, h.below⟩⟩
        case round =>
          obtain ⟨i, m, An, cn, Ab, cb, rfl, rfl, rfl, rfl, hk, hat⟩ := hrel
          have HAi := hide hat
          have HKi := hide hk
          by_cases hi : i < 288
          · have hlti : (i : Int) < 288 := by omega
            have hS := HSt.out i hi
            have hcs := numOf_cases (blk y i) i
            have HRli : Hid (∀ W, Calls Try.prog 12 #[.string y, .int .i64 (i : Int)] W fun e w' => e = .returned (.agg #[.int .i64 (whatOf i : Int), .int .i64 (idxOf i : Int), .int .i64 (numOf (blk y i) i), .bool ((blk y i).toList == (zerosB 64).toList)]) ∧ Below W.heap.size W w') := hide (fun W => HRld.out i hi W)
            have HRbi := hide (HRbd.out i hi)
            have hmb : m ≤ 576 := by
              have h1 := hat.len
              have h2 := stt_len x (dd + i)
              have h3 := HDd.out
              omega
            have hln := hat.len
            obtain ⟨bb, hbb⟩ : ∃ b, blk y i = b := ⟨_, rfl⟩
            obtain ⟨v0, hv0⟩ : ∃ v, (whatOf i : Int) = v := ⟨_, rfl⟩
            obtain ⟨v1, hv1⟩ : ∃ v, (idxOf i : Int) = v := ⟨_, rfl⟩
            obtain ⟨v2, hv2⟩ : ∃ v, numOf (blk y i) i = v := ⟨_, rfl⟩
            obtain ⟨v3, hv3⟩ : ∃ v, ((blk y i).toList == (zerosB 64).toList) = v := ⟨_, rfl⟩
            rw [hv0, hv1, hv2, hv3] at HRli
            rw [hv2] at hS hcs
            rw [hbb] at HRbi hS
            obtain ⟨st, hst⟩ : ∃ st, stt x (dd + i) = st := ⟨_, rfl⟩
            obtain ⟨l, t⟩ := st
            simp only [hst]
            rw [hst] at hS hln
            have HSs := hide hst
            clear hv0 hv1 hv2 hv3 hbb hk hat hst
            rcases hcs with rfl | ⟨n, rfl, hn⟩
            · have HS := hide (hS.trans (stp_low (by omega)))
              clear hS hln
              go_wp2_with (first
                | (go_at_call 12; (with_reducible refine (HRli.out _).mono ?_); rintro e w5 ⟨rfl, hb⟩; have HX5 := hide hb; clear hb))
              have hk := HKi.out
              go_roundg (gk - 1)
              case measure => omega
              case rel =>
                have h := HAi.out.later (HX5.out.alloc HX5.out.size (.cells #[.int .i64 v0, .int .i64 v1, .int .i64 (-1), .bool v3] 40))
                exact ⟨i + 1, m, An, cn, Ab, cb, by go_num, rfl, rfl, by rw [← Nat.add_assoc, HS.out], by omega, by rw [← Nat.add_assoc, HS.out, ← HSs.out]; exact h.nums, by rw [← Nat.add_assoc, HS.out, ← HSs.out]; exact h.blks, by rw [← Nat.add_assoc, HS.out, ← HSs.out]; exact h.len, h.below⟩
            · have t0 : decide ((n : Int) < 0) = false := by simp
              have HSu := hide hS
              have HLn := hide hln
              clear hS hln
              go_wp2_with (first
                | (go_at_call 12; (with_reducible refine (HRli.out _).mono ?_); rintro e w5 ⟨rfl, hb⟩; have HX5 := hide hb; clear hb))
              have k0 : Blk (w5.alloc (.cells #[.int .i64 v0, .int .i64 v1, .int .i64 (n : Int), .bool v3] 40)) w5.heap.size 40 #[.int .i64 v0, .int .i64 v1, .int .i64 (n : Int), .bool v3] := Blk.newAt w5 _ _ _ rfl
              have hat6 := HAi.out.later (HX5.out.alloc HX5.out.size (.cells #[.int .i64 v0, .int .i64 v1, .int .i64 (n : Int), .bool v3] 40))
              generalize w5.alloc (.cells #[.int .i64 v0, .int .i64 v1, .int .i64 (n : Int), .bool v3] 40) = W6 at k0 hat6 ⊢
              obtain ⟨gx, hgx⟩ : ∃ g, w5.heap.size = g := ⟨_, rfl⟩
              rw [hgx] at k0
              simp only [hgx]
              have HA6 := hide hat6
              have HK0 := hide k0
              clear hgx hat6 k0 HX5 HRli HAi
              obtain ⟨g1, rfl⟩ : ∃ g1 : Nat, g1 = gk := ⟨_, rfl⟩
              obtain ⟨wp, rfl⟩ : ∃ wp : World, wp = wr := ⟨_, rfl⟩
              go_loopg [16, 17] m (fun k s16 s17 wr => O3Rel W6 l n m k s16 s17 wr)
              case atStart => exact ⟨0, 0, rfl, rfl, by omega, rfl⟩
              case round =>
                obtain ⟨j, q, rfl, rfl, hk, rfl⟩ := hrel
                have HKj := hide hk
                by_cases hj : j < m
                · have hltj : (j : Int) < (m : Int) := by omega
                  have hj2 : j < l.length := by have := HLn.out; omega
                  obtain ⟨gn, capn, hvn, _, _⟩ := HA6.out.nums.form (by omega)
                  injection hvn with hvn1 _ hvn2
                  subst hvn1 hvn2
                  have cx : W6.cell? ⟨gn, j, none⟩ = some (.int .i64 ((l[j]'hj2).1 : Int)) := by
                    have h := (HA6.out.nums.cellAt j (by omega))
                    rw [HSs.out] at h
                    exact h.trans (numsV_at hj2)
                  have cn2 : W6.cell? ⟨gx, 2, none⟩ = some (.int .i64 (n : Int)) := HK0.out.cell 2
                  obtain ⟨u, hu⟩ : ∃ u, (l[j]'hj2).1 = u := ⟨_, rfl⟩
                  rw [hu] at cx
                  by_cases hun : u = n
                  · have hf := fnd_hit hj2 (hu.trans hun)
                    have HFd := hide hf
                    subst hun
                    clear hk hu hf
                    go_wp2_with fail
                    go_quiet (fail)
                    go_wp2_with fail
                    have hk := HKj.out
                    go_roundg (gk - 1)
                    case measure => omega
                    case rel => exact ⟨j + 1, _, by go_num, by rw [HFd.out]; rfl, by omega, by first | rfl | exact World.drewN_drewN _ _ _⟩
                  · have hf := fnd_miss hj2 (fun h => hun (hu.symm.trans h))
                    have HFd := hide hf
                    have t1 : ((u : Int) == (n : Int)) = false := by simp; omega
                    have t2 : (u == n) = false := by simp; omega
                    clear hk hu hf hun
                    go_wp2_with fail
                    go_quiet (fail)
                    go_wp2_with fail
                    have hk := HKj.out
                    go_roundg (gk - 1)
                    case measure => omega
                    case rel => exact ⟨j + 1, _, by go_num, by rw [HFd.out], by omega, by first | rfl | exact World.drewN_drewN _ _ _⟩
                · obtain rfl : j = m := by omega
                  have hjm : decide ((j : Int) < (j : Int)) = false := by simp
                  have hlj : l.length = j := HLn.out.symm
                  cases hf : fnd l n j with
                  | none =>
                    have hS := HSu.out
                    rw [stp_new (by rw [← HLn.out]; exact hf)] at hS
                    have HS := hide hS
                    simp only [hf, atV]
                    clear hk hS hf hlj hj
                    have HA7 := hide (HA6.out.drewN q)
                    have cn7 : (W6.drewN q).cell? ⟨gx, 2, none⟩ = some (.int .i64 (n : Int)) := (HK0.out.drewN q).cell 2
                    have gx7 := (HK0.out.drewN q).lt
                    generalize W6.drewN q = W7 at HA7 cn7 gx7 ⊢
                    go_wp2_with (first
                      | (at_builtin; refine wpList_append_at _ rfl (.tmp 65) (.tmp 68) 27 rfl w4.heap.size 3 i0 (.int .i64 0) 1 8 Try.underlying27 hi0 hz0 hz1 hz2 rfl (by decide) _ j _ rfl (by exact HA7.out.nums.alloc _) ⟨_, 0, none⟩ 1 1 [.int .i64 (n : Int)] rfl rfl (by exact new_cell _ _ _ _ rfl) (by simp [Value.oneCell']) (by simp [maxLen]; omega) (by omega) (by have := HA7.out.below.size; simp; omega) ?_; intro v8 w8 hown1 hg1 hat1; obtain ⟨A8, c8, e8⟩ := own_form hown1; subst e8; have HO8 := hide hown1; have HG8 : Hid ((W7.alloc (.cells #[.int .i64 (n : Int)] 3)).grownBy w8 (Value.slice An j cn).ownBlock) := hide hg1; have HBk8 := hide (own_kept (HA7.out.blks.alloc _) (HA7.out.nums.alloc (.cells #[.int .i64 (n : Int)] 3)) (by decide) HG8.out); have HBl8 := hide (kept_below (HA7.out.nums.alloc (.cells #[.int .i64 (n : Int)] 3)) HG8.out (HA7.out.below.alloc HA7.out.below.size _) (Nat.le_refl _) (by have := HA7.out.below.size; simp; omega)); clear hown1 hg1 hat1)
                      | (go_at_call 8; (with_reducible refine (HRbi.out _).mono ?_); rintro e wx ⟨rfl, hw⟩; subst wx)
                      | (at_builtin; refine wpList_append_at _ rfl (.tmp 70) (.tmp 74) 38 rfl w4.heap.size 9 j0 (.string ByteArray.empty) 1 16 Try.underlying38 hj0 hy0 hy1 hy2 rfl (by decide) _ j _ rfl (by exact HBk8.out.alloc _) ⟨_, 0, none⟩ 1 1 [.string bb] rfl rfl (by exact new_cell _ _ _ _ rfl) (by simp [Value.oneCell']) (by simp [maxLen]; omega) (by omega) (by have := HBl8.out.size; simp; omega) ?_; intro v9 w9 hown1 hg1 hat1; obtain ⟨A9, c9, e9⟩ := own_form hown1; subst e9; have HO9 := hide hown1; have HG9 : Hid ((w8.alloc (.cells #[.string bb] 9)).grownBy w9 (Value.slice Ab j cb).ownBlock) := hide hg1; clear hown1 hg1 hat1))
                    have hk := HKi.out
                    have hnm := own_kept (HO8.out.alloc _) (HBk8.out.alloc (.cells #[.string bb] 9)) (by decide) HG9.out
                    have hbl := kept_below (HBk8.out.alloc (.cells #[.string bb] 9)) HG9.out (HBl8.out.alloc HBl8.out.size _) (Nat.le_refl _) (by have := HBl8.out.size; simp; omega)
                    have hbk := HO9.out
                    rw [HSs.out] at hnm hbk
                    go_roundg (g1 - 1)
                    case measure => omega
                    case rel =>
                      refine ⟨i + 1, j + 1, A8, c8, A9, c9, by go_num, rfl, rfl, by rw [← Nat.add_assoc, HS.out], by omega, ?_, ?_, ?_, hbl⟩
                      · rw [← Nat.add_assoc, HS.out]
                        show w9.ownsRow _ _ 1 _ _ (numsV (l ++ [(n, bb)]))
                        rw [numsV_push]
                        exact hnm
                      · rw [← Nat.add_assoc, HS.out]
                        show w9.ownsRow _ _ 1 _ _ (blksV (l ++ [(n, bb)]))
                        rw [blksV_push]
                        exact hbk
                      · rw [← Nat.add_assoc, HS.out]
                        show j + 1 = (l ++ [(n, bb)]).length
                        rw [List.length_append, ← HLn.out]
                        rfl
                  | some k =>
                    have hS := HSu.out
                    rw [stp_old (by rw [← HLn.out]; exact hf)] at hS
                    have HS := hide hS
                    have hkj := fnd_lt hf
                    simp only [hf, atV]
                    clear hk hS hf hj
                    have hjl : k < l.length := by omega
                    have HA7 := hide (HA6.out.drewN q)
                    have tk0 : decide ((k : Int) < 0) = false := by simp
                    have tkj : (k : Int) < (j : Int) := by omega
                    obtain ⟨gb, capb, hvb, _, _⟩ := HA7.out.blks.form (by omega)
                    injection hvb with hvb1 _ hvb2
                    subst hvb1 hvb2
                    have ck : (W6.drewN q).cell? ⟨gb, k, none⟩ = some (.string (blkAt l k)) := by
                      have h := (HA7.out.blks.cellAt k (by omega))
                      rw [HSs.out] at h
                      exact h.trans (blksV_at hjl)
                    obtain ⟨v, hv⟩ : ∃ v, blkAt l k = v := ⟨_, rfl⟩
                    rw [hv] at ck
                    have HVb := hide hv
                    generalize W6.drewN q = W7 at HA7 ck ⊢
                    clear hlj hv hjl
                    cases t with
                    | true =>
                      go_wp2_with fail
                      go_quiet (first
                        | (go_at_call 8; exact Calls.quiet_of_same (HRbi.out _)))
                      go_wp2_with fail
                      have hk := HKi.out
                      have h := HA7.out.drewN nq
                      go_roundg (g1 - 1)
                      case measure => omega
                      case rel => exact ⟨i + 1, j, An, cn, _, cb, by go_num, rfl, rfl, by rw [← Nat.add_assoc, HS.out]; rfl, by omega, by rw [← Nat.add_assoc, HS.out, ← congrArg Prod.fst HSs.out]; exact h.nums, by rw [← Nat.add_assoc, HS.out, ← congrArg Prod.fst HSs.out]; exact h.blks, by rw [← Nat.add_assoc, HS.out, ← congrArg Prod.fst HSs.out]; exact h.len, h.below⟩
                    | false =>
                      by_cases hvb : v = bb
                      · have t1 : (v.toList == bb.toList) = true := by rw [toList_eq_iff]; simpa using hvb
                        have HE : Hid ((false || decide (blkAt l k ≠ bb)) = false) := hide (by rw [HVb.out, hvb]; simp)
                        clear hvb
                        go_wp2_with fail
                        go_quiet (first
                          | (go_at_call 8; exact Calls.quiet_of_same (HRbi.out _)))
                        go_wp2_with fail
                        have hk := HKi.out
                        have h := HA7.out.drewN nq
                        go_roundg (g1 - 1)
                        case measure => omega
                        case rel => exact ⟨i + 1, j, An, cn, _, cb, by go_num, rfl, rfl, by rw [← Nat.add_assoc, HS.out]; show _ = Value.bool (false || decide (blkAt l k ≠ bb)); rw [HE.out], by omega, by rw [← Nat.add_assoc, HS.out, ← congrArg Prod.fst HSs.out]; exact h.nums, by rw [← Nat.add_assoc, HS.out, ← congrArg Prod.fst HSs.out]; exact h.blks, by rw [← Nat.add_assoc, HS.out, ← congrArg Prod.fst HSs.out]; exact h.len, h.below⟩
                      · have t1 : (v.toList == bb.toList) = false := by rw [toList_eq_iff]; simpa using hvb
                        have HE : Hid ((false || decide (blkAt l k ≠ bb)) = true) := hide (by rw [HVb.out]; simpa using hvb)
                        clear hvb
                        go_wp2_with fail
                        go_quiet (first
                          | (go_at_call 8; exact Calls.quiet_of_same (HRbi.out _)))
                        go_wp2_with fail
                        have hk := HKi.out
                        have h := HA7.out.drewN nq
                        go_roundg (g1 - 1)
                        case measure => omega
                        case rel => exact ⟨i + 1, j, An, cn, _, cb, by go_num, rfl, rfl, by rw [← Nat.add_assoc, HS.out]; show _ = Value.bool (false || decide (blkAt l k ≠ bb)); rw [HE.out], by omega, by rw [← Nat.add_assoc, HS.out, ← congrArg Prod.fst HSs.out]; exact h.nums, by rw [← Nat.add_assoc, HS.out, ← congrArg Prod.fst HSs.out]; exact h.blks, by rw [← Nat.add_assoc, HS.out, ← congrArg Prod.fst HSs.out]; exact h.len, h.below⟩
          · obtain rfl : i = 288 := by omega
            clear hi hk hat
            go_wp2_with fail
            have hk := HK.out
            go_roundg (g0 - 1)
            case measure => omega
            case rel =>
              have h := HAi.out
              rw [← HNx.out] at h
              refine ⟨_, m, An, cn, Ab, cb, by go_num, rfl, rfl, ?_, by omega, h⟩
              rw [← HNx.out]
    · obtain rfl : d = 2 := by omega
      have htt : t = T := by rw [← HTd.out]; exact HT.out
      subst htt
      have hml : m = L := by rw [← HLe.out]; exact HAt.out.len
      have HB5 := hide (HB4.out.trans (HAt.out.below.mono HB4.out.size))
      obtain ⟨hN1, hN2, hE1, hE2⟩ := HN.out
      cases t with
      | true =>
        obtain rfl := hN1 rfl
        obtain rfl := hE1 rfl
        clear hN1 hN2 hE1 hE2 hd hk hml HAt
        go_wp2_with (first
          | (go_at_call 11; (with_reducible refine (HFn.out _ _ (Blk.newAt _ _ _ _ rfl)).mono ?_); rintro e w7 ⟨rfl, hb⟩; have HB7 := hide ((HB5.out.alloc HB5.out.size _).trans (hb.mono (by have := HB5.out.size; simp; omega))); clear hb)
          | (go_at_call 9; (with_reducible refine (awake_any _).mono ?_); rintro e w8 ⟨rfl, hb⟩; have HB8 := hide (HB7.out.trans (hb.mono HB7.out.size)); clear hb))
        go_ret
        exact ⟨rfl, HB8.out⟩
      | false =>
        obtain rfl := hN2 rfl
        obtain rfl := hE2 rfl
        subst hml
        clear hN1 hN2 hE1 hE2 hd hk HAt
        go_wp2_with (first
          | (go_at_call 11; (with_reducible refine (HFn.out _ _ (Blk.newAt _ _ _ _ rfl)).mono ?_); rintro e w7 ⟨rfl, hb⟩; have HB7 := hide ((HB5.out.alloc HB5.out.size _).trans (hb.mono (by have := HB5.out.size; simp; omega))); clear hb)
          | (go_at_call 9; (with_reducible refine (awake_any _).mono ?_); rintro e w8 ⟨rfl, hb⟩; have HB8 := hide (HB7.out.trans (hb.mono HB7.out.size)); clear hb))
        go_ret
        exact ⟨rfl, HB8.out⟩
end Go.Proofs.Ytmocaabdfiffnaa.Ct
