/- The contract of view.Fresh at two images. -/
import Derived.Test.YtmocaabdfiffnaaVwMap
namespace Go.Proofs.Ytmocaabdfiffnaa.Ct
open Go.RowKit Go.Proofs.Ytmocaabdfiffnaa.W Go.Maps
set_option linter.unusedVariables false
set_option linter.unusedSimpArgs false

theorem lawInt : Keyed Try.prog 3 := int_keyed Try.underlying3
theorem zeroS (w : World) : (zeroValue 9).run Try.prog w = .ok (.string ByteArray.empty) w := by kernel_rfl
theorem numOf_cases (b : ByteArray) (i : Nat) : numOf b i = -1 ∨ ∃ n : Nat, numOf b i = (n : Int) ∧ n ≤ 1099511627776 := by
  unfold numOf
  split
  · rename_i h
    exact .inr ⟨_, rfl, h.2.1.2.2.1⟩
  · exact .inl rfl
theorem own_map {w w' : World} {b n : Nat} {D : DataW Unit} (h : w.ownsMap Try.prog 3 (plainElem Try.prog 9) b n D) (hb : Below w.heap.size w w') : w'.ownsMap Try.prog 3 (plainElem Try.prog 9) b n D := by
  have hl := h.lt
  obtain ⟨es, clock, hb', r⟩ := h
  exact ⟨es, clock, (hb.block b hl).trans hb', r⟩
structure FrAt (w : World) (x : Nat → ByteArray) (p : Nat) (D : DataW Unit) (wr : World) : Prop where
  own : wr.ownsMap Try.prog 3 (plainElem Try.prog 9) w.heap.size p D
  is : MapIs D (stt x p).1
  ok : (stt x p).2 = false
  below : Below w.heap.size w wr
theorem FrAt.later {w wr w' : World} {x : Nat → ByteArray} {p : Nat} {D : DataW Unit} (h : FrAt w x p D wr) (hb : Below wr.heap.size wr w') : FrAt w x p D w' := ⟨own_map h.own hb, h.is, h.ok, h.below.trans (hb.mono h.below.size)⟩
def F1Rel (w : World) (k : Nat) (s16 : Value) (wr : World) : Prop := ∃ i : Nat, s16 = .int .i64 (i : Int) ∧ i + k = 2 ∧ wr = w.alloc (.map #[] 0)
def F2Rel (w : World) (x : Nat → ByteArray) (k : Nat) (s26 : Value) (wr : World) : Prop := ∃ (d : Nat) (D : DataW Unit), s26 = .int .i64 (d : Int) ∧ d + k = 2 ∧ FrAt w x (288 * d) D wr
def F3Rel (w : World) (x : Nat → ByteArray) (d k : Nat) (s30 : Value) (wr : World) : Prop := ∃ (i : Nat) (D : DataW Unit), s30 = .int .i64 (i : Int) ∧ i + k = 288 ∧ FrAt w x (288 * d + i) D wr
noncomputable def freshE (x : Nat → ByteArray) : Ending := if (stt x 576).2 = true then .returned (.tuple #[.int .i64 0, .int .i64 12]) else .returned (.tuple #[.int .i64 ((stt x 576).1.length : Int), .int .i64 0])
theorem field2 (w : World) (a b c : Int) (d : Bool) : (Instr.field 40 (.agg #[.int .i64 a, .int .i64 b, .int .i64 c, .bool d]) 2).run Try.prog w = .ok (.int .i64 c) w := by kernel_rfl
set_option maxRecDepth 100000 in
set_option maxHeartbeats 2000000 in
theorem fresh_yes (g : Nat) (x : Nat → ByteArray) (hx : ∀ d, d < 2 → (x d).size = 18432) (w : World) (hc : ∀ d, d < 2 → w.cell? ⟨g, d, none⟩ = some (.string (x d))) (hg : g < w.heap.size) :
    Calls Try.prog 11 #[.slice (some ⟨g, 0, none⟩) 2 2] w fun e w' => e = freshE x ∧ Below w.heap.size w w' := by
  have hmm := @run_makeMap Try.prog
  have hfd := field2
  have HR := hide (fun d (hd : d < 2) W => vright_yes (x d) (hx d hd) W)
  have HL := hide (fun d (hd : d < 2) i hi W => look_any (x d) i (hx d hd) hi W)
  have HB := hide (fun d (hd : d < 2) i hi W => block_any (x d) i (hx d hd) hi W)
  have HZ := hide (fun d (hd : d < 2) i (hi : i < 288) => blk_size (hx d hd) hi)
  have HC := hide hc
  clear hx hc
  go_enter Try.func11, Try.ntmps11
  go_wp2_with fail
  go_loopg [6, 16] 2 (fun k s6 s16 wr => F1Rel w k s16 wr)
  case atStart => exact ⟨0, rfl, rfl, rfl⟩
  case round =>
    obtain ⟨i, rfl, hk, rfl⟩ := hrel
    by_cases hi : i < 2
    · have hlt : (i : Int) < 2 := by omega
      have c0 : (w.alloc (.map #[] 0)).cell? ⟨g, i, none⟩ = some (.string (x i)) := (((Below.refl w.heap.size w).alloc (Nat.le_refl _) _).cell (p := ⟨g, i, none⟩) hg).trans (HC.out i hi)
      obtain ⟨y, hy⟩ : ∃ y, x i = y := ⟨_, rfl⟩
      have HRi := hide (HR.out i hi)
      rw [hy] at c0 HRi
      have HK := hide hk
      clear hy hk
      go_wp2_with (first
        | (go_at_call 15; (with_reducible refine (HRi.out _).mono ?_); rintro e w1 ⟨rfl, hb⟩; subst w1))
      have hk := HK.out
      go_roundg (gk - 1)
      case measure => omega
      case rel => exact ⟨i + 1, by go_num, by omega, rfl⟩
    · obtain rfl : i = 2 := by omega
      clear hi hk
      go_wp2_with fail
      go_loopg [8, 9, 10, 11, 12, 26, 30] 2 (fun k s8 s9 s10 s11 s12 s26 s30 wr => F2Rel w x k s26 wr)
      case atStart => exact ⟨0, .map [], rfl, rfl, World.ownsMap_made _ _ _ _, MapIs.start, rfl, (Below.refl _ _).alloc (Nat.le_refl _) _⟩
      case round =>
        obtain ⟨d, D, rfl, hk, hat⟩ := hrel
        by_cases hd : d < 2
        · have hlt : (d : Int) < 2 := by omega
          have c0 : wr.cell? ⟨g, d, none⟩ = some (.string (x d)) := (hat.below.cell (p := ⟨g, d, none⟩) hg).trans (HC.out d hd)
          obtain ⟨y, hy⟩ : ∃ y, x d = y := ⟨_, rfl⟩
          have HLd := hide (HL.out d hd)
          have HBd := hide (HB.out d hd)
          have HZd := hide (HZ.out d hd)
          rw [hy] at c0 HLd HBd HZd
          have HSt := hide (fun i (hi : i < 288) => stt_succ x (d := d) hi)
          rw [hy] at HSt
          have HAt := hide hat
          have HK := hide hk
          clear hy hk hat
          go_wp2_with fail
          obtain ⟨g0, rfl⟩ : ∃ g0 : Nat, g0 = gk := ⟨_, rfl⟩
          obtain ⟨wo, rfl⟩ : ∃ wo : World, wo = wr := ⟨_, rfl⟩
          clear c0
          go_loopg [9, 10, 11, 12, 30] 288 (fun k s9 s10 s11 s12 s30 wr => F3Rel w x d k s30 wr)
          case atStart => exact ⟨0, D, rfl, rfl, HAt.out⟩
          case round =>
            obtain ⟨i, D', rfl, hk, hat⟩ := hrel
            have HA := hide hat
            have HKi := hide hk
            clear hat
            by_cases hi : i < 288
            · have hlt : (i : Int) < 288 := by omega
              have HLi : Hid (∀ W, Calls Try.prog 19 #[.string y, .int .i64 (i : Int)] W fun e w' => e = .returned (.agg #[.int .i64 (whatOf i : Int), .int .i64 (idxOf i : Int), .int .i64 (numOf (blk y i) i), .bool ((blk y i).toList == (zerosB 64).toList)]) ∧ Below W.heap.size W w') := hide (fun W => HLd.out i hi W)
              have HBi := hide (HBd.out i hi)
              have hS := HSt.out i hi
              have hsz := HZd.out i hi
              have hcs := numOf_cases (blk y i) i
              obtain ⟨b, hb⟩ : ∃ b, blk y i = b := ⟨_, rfl⟩
              obtain ⟨v0, hv0⟩ : ∃ v, (whatOf i : Int) = v := ⟨_, rfl⟩
              obtain ⟨v1, hv1⟩ : ∃ v, (idxOf i : Int) = v := ⟨_, rfl⟩
              obtain ⟨v2, hv2⟩ : ∃ v, numOf (blk y i) i = v := ⟨_, rfl⟩
              obtain ⟨v3, hv3⟩ : ∃ v, ((blk y i).toList == (zerosB 64).toList) = v := ⟨_, rfl⟩
              rw [hv0, hv1, hv2, hv3] at HLi
              rw [hv2] at hS hcs
              rw [hb] at HBi hS hsz
              clear hv0 hv1 hv2 hv3 hb hk
              have hsz' : b.size ≤ maxLen := by rw [hsz]; unfold maxLen; omega
              have HBS := hide hsz'
              clear hsz hsz'
              rcases hcs with rfl | ⟨n, rfl, hn⟩
              · have HS := hide (hS.trans (stp_low (by omega)))
                clear hS
                go_wp2_with (first
                  | (go_at_call 19; (with_reducible refine (HLi.out _).mono ?_); rintro e w2 ⟨rfl, hb⟩; (have HA2 := hide (HA.out.later hb)); clear hb))
                have hk := HKi.out
                go_roundg (gk - 1)
                case measure => omega
                case rel => exact ⟨i + 1, D', by go_num, by omega, HA2.out.own.mono (by omega), by rw [← Nat.add_assoc, HS.out]; exact HA2.out.is, by rw [← Nat.add_assoc, HS.out]; exact HA2.out.ok, HA2.out.below⟩
              · have t0 : decide ((n : Int) < 0) = false := by simp
                have HKey : Hid (keyOf Try.prog 3 (.int .i64 (n : Int)) = some (.int .i64 (n : Int))) := hide (keyOf_int_mk Try.underlying3 (WalkArith.wf_i64 (by omega)))
                have hlen := stt_len x (288 * d + i)
                cases hf : fnd (stt x (288 * d + i)).1 n (stt x (288 * d + i)).1.length with
                | none =>
                  have HS := hide (hS.trans (stp_new hf))
                  have HH := hide (HA.out.is.no n hf)
                  have HV : Hid (D'.atKey (.int .i64 n) (.lit (.string ByteArray.empty.data.toList)) = .lit (.string ByteArray.empty.data.toList)) := hide (Maps.atKey_of_not_has HH.out _)
                  have HF := hide hf
                  clear hS hf hlen
                  go_wp2_with (first
                    | (go_at_call 19; (with_reducible refine (HLi.out _).mono ?_); rintro e w2 ⟨rfl, hb⟩; (have HA2 := hide (HA.out.later hb)); clear hb)
                    | (at_lookup; refine wpList_lookup_own_ok_str _ rfl _ _ 55 rfl 3 9 lawInt Try.underlying55 Try.underlying9 (zeroS _) w.heap.size _ _ rfl HA2.out.own _ _ rfl HKey.out false HH.out ByteArray.empty HV.out ?_)
                    | (go_at_call 17; (with_reducible refine (HBi.out _).mono ?_); rintro e w3 ⟨rfl, hb⟩; subst w3)
                    | (at_mapUpdate; refine wpList_mapUpdate_own _ rfl _ _ _ 55 rfl 3 9 lawInt Try.underlying55 _ w.heap.size _ _ rfl HA2.out.own (by unfold maxLen; omega) _ _ _ rfl rfl HKey.out _ [] (plainElem_string Try.underlying9 HBS.out) ?_; intro w4 hown4 hgrow4))
                  have hk := HKi.out
                  go_roundg (gk - 1)
                  case measure => omega
                  case rel =>
                    refine ⟨i + 1, _, by go_num, by omega, hown4, ?_, ?_, HA2.out.below.grown hgrow4 HA2.out.below.size (fun j hj => by cases hj; exact Nat.le_refl _)⟩
                    · rw [← Nat.add_assoc, HS.out]
                      exact HA2.out.is.push (HA2.out.own.tidy lawInt) b HF.out
                    · rw [← Nat.add_assoc, HS.out]
                      exact HA2.out.ok
                | some k =>
                  have hyes := HA.out.is.yes n k hf
                  have HH := hide hyes.1
                  have HV := hide (hyes.2 (.lit (.string ByteArray.empty.data.toList)))
                  have hS2 := hS.trans (stp_old hf)
                  obtain ⟨v, hv⟩ : ∃ v, blkAt (stt x (288 * d + i)).1 k = v := ⟨_, rfl⟩
                  rw [hv] at HV hS2
                  have HVB := hide hv
                  have HF := hide hf
                  clear hyes hS hf hlen hv
                  by_cases hvb : v = b
                  · have t1 : (v.toList == b.toList) = true := by rw [toList_eq_iff]; simpa using hvb
                    have HS : Hid (stt x (288 * d + i + 1) = ((stt x (288 * d + i)).1, false)) := hide (by rw [hS2, HA.out.ok, hvb]; simp)
                    have HE := hide hvb
                    clear hS2 hvb
                    go_wp2_with (first
                      | (go_at_call 19; (with_reducible refine (HLi.out _).mono ?_); rintro e w2 ⟨rfl, hb⟩; (have HA2 := hide (HA.out.later hb)); clear hb)
                      | (at_lookup; refine wpList_lookup_own_ok_str _ rfl _ _ 55 rfl 3 9 lawInt Try.underlying55 Try.underlying9 (zeroS _) w.heap.size _ _ rfl HA2.out.own _ _ rfl HKey.out true HH.out v HV.out ?_)
                      | (go_at_call 17; (with_reducible refine (HBi.out _).mono ?_); rintro e w3 ⟨rfl, hb⟩; subst w3)
                      | (at_mapUpdate; refine wpList_mapUpdate_own _ rfl _ _ _ 55 rfl 3 9 lawInt Try.underlying55 _ w.heap.size _ _ rfl HA2.out.own (by unfold maxLen; omega) _ _ _ rfl rfl HKey.out _ [] (plainElem_string Try.underlying9 HBS.out) ?_; intro w4 hown4 hgrow4))
                    have hk := HKi.out
                    go_roundg (gk - 1)
                    case measure => omega
                    case rel =>
                      refine ⟨i + 1, _, by go_num, by omega, hown4, ?_, ?_, HA2.out.below.grown hgrow4 HA2.out.below.size (fun j hj => by cases hj; exact Nat.le_refl _)⟩
                      · rw [← Nat.add_assoc, HS.out]
                        exact HA2.out.is.again (HA2.out.own.tidy lawInt) b HF.out (HVB.out.trans HE.out)
                      · rw [← Nat.add_assoc, HS.out]
                  · have t1 : (v.toList == b.toList) = false := by rw [toList_eq_iff]; simpa using hvb
                    have HS : Hid ((stt x (288 * d + i + 1)).2 = true) := hide (by rw [hS2]; simp [hvb])
                    clear hS2 hvb
                    go_wp2_with (first
                      | (go_at_call 19; (with_reducible refine (HLi.out _).mono ?_); rintro e w2 ⟨rfl, hb⟩; (have HA2 := hide (HA.out.later hb)); clear hb)
                      | (at_lookup; refine wpList_lookup_own_ok_str _ rfl _ _ 55 rfl 3 9 lawInt Try.underlying55 Try.underlying9 (zeroS _) w.heap.size _ _ rfl HA2.out.own _ _ rfl HKey.out true HH.out v HV.out ?_)
                      | (go_at_call 17; (with_reducible refine (HBi.out _).mono ?_); rintro e w3 ⟨rfl, hb⟩; subst w3))
                    go_ret2
                    have hT : (stt x 576).2 = true := by
                      have h := stt_mono x HS.out (576 - (288 * d + i + 1))
                      rwa [show 288 * d + i + 1 + (576 - (288 * d + i + 1)) = 576 by omega] at h
                    exact ⟨by unfold freshE; rw [if_pos hT]; rfl, HA2.out.below⟩
            · obtain rfl : i = 288 := by omega
              clear hi hk
              go_wp2_with fail
              have hk := HK.out
              go_roundg (g0 - 1)
              case measure => omega
              case rel => exact ⟨d + 1, D', by go_num, by omega, by rw [show 288 * (d + 1) = 288 * d + 288 by omega]; exact HA.out⟩
        · obtain rfl : d = 2 := by omega
          have HAt := hide hat
          have hsz : Maps.size D = (stt x 576).1.length := hat.is.size
          have hok : (stt x 576).2 = false := hat.ok
          have HOK := hide hok
          clear hat hk hd hok
          go_wp2_with (first
            | (at_len; refine wpList_len_own _ rfl _ 55 rfl 3 9 Try.underlying55 _ w.heap.size _ _ rfl HAt.out.own ?_))
          go_ret2
          exact ⟨by unfold freshE; rw [if_neg (by rw [HOK.out]; decide)]; simp [hsz], HAt.out.below⟩
set_option maxRecDepth 100000 in
set_option maxHeartbeats 1000000 in
theorem fresh_no (g : Nat) (a b : ByteArray) (ha : a.size = 18432) (hb : b.size ≠ 18432) (w : World) (ca : w.cell? ⟨g, 0, none⟩ = some (.string a)) (cb : w.cell? ⟨g, 1, none⟩ = some (.string b)) (hg : g < w.heap.size) :
    Calls Try.prog 11 #[.slice (some ⟨g, 0, none⟩) 2 2] w fun e w' => e = .returned (.tuple #[.int .i64 0, .int .i64 6]) ∧ Below w.heap.size w w' := by
  have hmm := @run_makeMap Try.prog
  have HA := hide (fun W => vright_yes a ha W)
  have HB := hide (fun W => vright_no b hb W)
  have CA := hide ca
  have CB := hide cb
  clear ha hb ca cb
  go_enter Try.func11, Try.ntmps11
  go_wp2_with fail
  go_loopg [6, 16] 2 (fun k s6 s16 wr => F1Rel w k s16 wr ∧ (s16 = .int .i64 0 ∨ s16 = .int .i64 1))
  case atStart => exact ⟨⟨0, rfl, rfl, rfl⟩, .inl rfl⟩
  case round =>
    obtain ⟨⟨i, rfl, hk, rfl⟩, hi⟩ := hrel
    rcases hi with hi | hi
    · obtain rfl : i = 0 := by
        injection hi with _ h
        omega
      have c0 : (w.alloc (.map #[] 0)).cell? ⟨g, 0, none⟩ = some (.string a) := (((Below.refl w.heap.size w).alloc (Nat.le_refl _) _).cell (p := ⟨g, 0, none⟩) hg).trans CA.out
      have HK := hide hk
      clear hk hi
      go_wp2_with (first
        | (go_at_call 15; (with_reducible refine (HA.out _).mono ?_); rintro e w1 ⟨rfl, hb⟩; subst w1))
      have hk := HK.out
      go_roundg (gk - 1)
      case measure => omega
      case rel => exact ⟨⟨1, rfl, by omega, rfl⟩, .inr rfl⟩
    · obtain rfl : i = 1 := by
        injection hi with _ h
        omega
      have c0 : (w.alloc (.map #[] 0)).cell? ⟨g, 1, none⟩ = some (.string b) := (((Below.refl w.heap.size w).alloc (Nat.le_refl _) _).cell (p := ⟨g, 1, none⟩) hg).trans CB.out
      clear hk hi
      go_wp2_with (first
        | (go_at_call 15; (with_reducible refine (HB.out _).mono ?_); rintro e w1 ⟨rfl, hb⟩; subst w1))
      go_ret2
      exact ⟨rfl, (Below.refl w.heap.size w).alloc (Nat.le_refl _) _⟩
end Go.Proofs.Ytmocaabdfiffnaa.Ct
