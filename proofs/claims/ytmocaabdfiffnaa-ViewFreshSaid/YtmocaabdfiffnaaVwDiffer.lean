/- The contract of view.Differ. -/
import Derived.Test.YtmocaabdfiffnaaVwInts
namespace Go.Proofs.Ytmocaabdfiffnaa.Ct
open Go.RowKit Go.Proofs.Ytmocaabdfiffnaa.W
set_option linter.unusedVariables false
set_option linter.unusedSimpArgs false

def sameB (a b : ByteArray) (slow : Bool) (i : Nat) : Bool := if i = 0 ∧ slow = true then (((blk a i).extract 0 32).toList == ((blk b i).extract 0 32).toList) else ((blk a i).toList == (blk b i).toList)
set_option maxRecDepth 100000 in
set_option maxHeartbeats 1000000 in
theorem same_any (a b : ByteArray) (slow : Bool) (i : Nat) (ha : a.size = 18432) (hb : b.size = 18432) (hi : i < 288) (ga gb gs : Nat) (wr : World) (ca : wr.cell? ⟨ga, 0, none⟩ = some (.string a)) (cb : wr.cell? ⟨gb, 0, none⟩ = some (.string b)) (cs : wr.cell? ⟨gs, 0, none⟩ = some (.bool slow)) :
    Calls Try.prog 16 #[.int .i64 (i : Int), .pointer (some ⟨ga, 0, none⟩), .pointer (some ⟨gb, 0, none⟩), .pointer (some ⟨gs, 0, none⟩)] wr fun e w' => e = .returned (.bool (sameB a b slow i)) ∧ ∃ k, w' = wr.drewN k := by
  have HA := hide (fun W => block_any a i ha hi W)
  have HB := hide (fun W => block_any b i hb hi W)
  have s1 : (32 : Int) ≤ ((blk a i).size : Int) := by rw [blk_size ha hi]; omega
  have s2 : (32 : Int) ≤ ((blk b i).size : Int) := by rw [blk_size hb hi]; omega
  have s3 : 32 ≤ (blk a i).size := by rw [blk_size ha hi]; omega
  have s4 : 32 ≤ (blk b i).size := by rw [blk_size hb hi]; omega
  have hS : sameB a b slow i = if i = 0 ∧ slow = true then (((blk a i).extract 0 32).toList == ((blk b i).extract 0 32).toList) else ((blk a i).toList == (blk b i).toList) := rfl
  obtain ⟨x, hx⟩ : ∃ x, blk a i = x := ⟨_, rfl⟩
  obtain ⟨y, hy⟩ : ∃ y, blk b i = y := ⟨_, rfl⟩
  rw [hx, hy] at hS
  rw [hx] at HA s1 s3
  rw [hy] at HB s2 s4
  clear ha hb hx hy hi
  by_cases h0 : i = 0
  · subst h0
    cases slow with
    | true =>
      rw [hS, if_pos ⟨rfl, rfl⟩]
      clear hS
      go_enter Try.func16, Try.ntmps16
      go_wp2_with fail
      go_quiet (first
        | (go_at_call 17; first | with_reducible exact Calls.quiet_of_same (HA.out _) | with_reducible exact Calls.quiet_of_same (HB.out _)))
      go_wp2_with fail
      go_quiet (fail)
      go_wp2_with fail
      go_ret
      exact ⟨rfl, _, by first | rfl | exact World.drewN_drewN _ _ _⟩
    | false =>
      rw [hS, if_neg (by simp)]
      clear hS s1 s2 s3 s4
      go_enter Try.func16, Try.ntmps16
      go_wp2_with fail
      go_quiet (first
        | (go_at_call 17; first | with_reducible exact Calls.quiet_of_same (HA.out _) | with_reducible exact Calls.quiet_of_same (HB.out _)))
      go_wp2_with fail
      go_ret
      exact ⟨rfl, _, rfl⟩
  · rw [hS, if_neg (fun h => h0 h.1)]
    have t1 : ((i : Int) == 0) = false := by simp; omega
    have t2 : (i == 0) = false := by simp; omega
    clear hS s1 s2 s3 s4 h0
    go_enter Try.func16, Try.ntmps16
    go_wp2_with fail
    go_quiet (first
      | (go_at_call 17; first | with_reducible exact Calls.quiet_of_same (HA.out _) | with_reducible exact Calls.quiet_of_same (HB.out _)))
    go_wp2_with fail
    go_ret
    exact ⟨rfl, _, rfl⟩
/-- Where two images differ, of the first k blocks. -/
def difs (a b : ByteArray) (slow : Bool) (k : Nat) : List Nat := (List.range k).filter fun i => !sameB a b slow i
theorem difs_same {a b : ByteArray} {slow : Bool} {k : Nat} (h : sameB a b slow k = true) : difs a b slow (k + 1) = difs a b slow k := by
  unfold difs
  rw [List.range_succ, List.filter_append]
  simp [h]
theorem difs_not {a b : ByteArray} {slow : Bool} {k : Nat} (h : sameB a b slow k = false) : difs a b slow (k + 1) = difs a b slow k ++ [k] := by
  unfold difs
  rw [List.range_succ, List.filter_append]
  simp [h]
theorem difs_len (a b : ByteArray) (slow : Bool) (k : Nat) : (difs a b slow k).length ≤ k := by
  unfold difs
  have := List.length_filter_le (fun i => !sameB a b slow i) (List.range k)
  simpa using this
structure DfAt (w : World) (a b : ByteArray) (slow : Bool) (A : Option Addr) (m c i : Nat) (wr : World) : Prop where
  ba : Blk wr w.heap.size 9 #[.string a]
  bb : Blk wr (w.heap.size + 1) 9 #[.string b]
  bs : Blk wr (w.heap.size + 2) 4 #[.bool slow]
  own : wr.ownsRow (w.heap.size + 3) 3 1 (.slice A m c) m (toV (difs a b slow i))
  len : m = (difs a b slow i).length
  below : Below w.heap.size w wr
  size : w.heap.size + 3 ≤ wr.heap.size
theorem DfAt.drewN {w wr : World} {a b : ByteArray} {slow : Bool} {A : Option Addr} {m c i : Nat} (h : DfAt w a b slow A m c i wr) (k : Nat) : DfAt w a b slow A m c i (wr.drewN k) := ⟨h.ba, h.bb, h.bs, own_same h.own rfl, h.len, below_drewN h.below k, h.size⟩
def DfRel (w : World) (a b : ByteArray) (slow : Bool) (k : Nat) (s9 s20 : Value) (wr : World) : Prop :=
  ∃ (i m : Nat) (A : Option Addr) (c : Nat), s20 = .int .i64 (i : Int) ∧ s9 = .slice A m c ∧ i + k = 288 ∧ DfAt w a b slow A m c i wr
set_option maxRecDepth 100000 in
set_option maxHeartbeats 1000000 in
theorem differ_yes (a b : ByteArray) (slow : Bool) (ha : a.size = 18432) (hb : b.size = 18432) (w : World) : Calls Try.prog 7 #[.string a, .string b, .bool slow] w fun e w' => ∃ A c m, e = .returned (.tuple #[.slice A m c, .int .i64 0]) ∧ m = (difs a b slow 288).length ∧ RowV w' (.slice A m c) (difs a b slow 288) ∧ Below w.heap.size w w' := by
  obtain ⟨i0, hi0, hz0, hz1, hz2⟩ := info3 int_info
  have HA := hide (fun W => vright_yes a ha W)
  have HB := hide (fun W => vright_yes b hb W)
  have HS := hide (fun i hi ga gb gs wr ca cb cs => same_any a b slow i ha hb hi ga gb gs wr ca cb cs)
  clear ha hb
  go_enter Try.func7, Try.ntmps7
  go_wp2_with (first
    | (go_at_call 15; first
        | ((with_reducible refine (HA.out _).mono ?_); rintro e w1 ⟨rfl, hb⟩; subst w1)
        | ((with_reducible refine (HB.out _).mono ?_); rintro e w1 ⟨rfl, hb⟩; subst w1)))
  go_loopg [9, 10, 20] 288 (fun k s9 s10 s20 wr => DfRel w a b slow k s9 s20 wr)
  case atStart =>
    refine ⟨0, 0, none, 0, rfl, rfl, rfl, ((Blk.newAt w _ _ _ rfl).alloc _).alloc _, (Blk.newAt (w.alloc _) _ _ _ (by simp)).alloc _, Blk.newAt ((w.alloc _).alloc _) _ _ _ (by simp), World.ownsRow_nil _ _ _ _, rfl, ?_, by simp⟩
    exact ((((Below.refl w.heap.size w).alloc (Nat.le_refl _) _).alloc (by simp) _).alloc (by simp; omega) _)
  case round =>
    obtain ⟨i, m, A, c, rfl, rfl, hk, hat⟩ := hrel
    by_cases hi : i < 288
    · have hlt : (i : Int) < 288 := by omega
      obtain ⟨q, hq⟩ : ∃ q, sameB a b slow i = q := ⟨_, rfl⟩
      have HSi := hide (fun wr ca cb cs => HS.out i hi w.heap.size (w.heap.size + 1) (w.heap.size + 2) wr ca cb cs)
      rw [hq] at HSi
      have hlen := difs_len a b slow i
      have hm := hat.len
      have hm2 : m ≤ 288 := by omega
      have HAt := hide hat
      have HK := hide hk
      cases q with
      | true =>
        have HD := hide (difs_same hq)
        clear hat hq hk hlen hm HA HB
        go_wp2_with (first
          | (go_at_call 16; (with_reducible refine (HSi.out _ HAt.out.ba.one_ HAt.out.bb.one_ HAt.out.bs.one_).mono ?_); rintro e w1 ⟨rfl, kq, hw⟩; subst w1))
        have hk := HK.out
        go_roundg (gk - 1)
        case measure => omega
        case rel =>
          refine ⟨i + 1, m, A, c, by go_num, rfl, by omega, ?_⟩
          have h := HAt.out.drewN kq
          exact ⟨h.ba, h.bb, h.bs, by rw [HD.out]; exact h.own, by rw [HD.out]; exact h.len, h.below, h.size⟩
      | false =>
        have HD := hide (difs_not hq)
        clear hat hq hk hlen hm HA HB
        go_wp2_with (first
          | (go_at_call 16; (with_reducible refine (HSi.out _ HAt.out.ba.one_ HAt.out.bb.one_ HAt.out.bs.one_).mono ?_); rintro e w1 ⟨rfl, kq, hw⟩; have HAt2 := hide (HAt.out.drewN kq); rw [← hw] at HAt2; clear hw)
          | (at_builtin; refine wpList_append_at _ rfl (.tmp 27) (.tmp 29) 27 rfl (w.heap.size + 3) 3 i0 (.int .i64 0) 1 8 Try.underlying27 hi0 hz0 hz1 hz2 rfl (by decide) _ m _ rfl (by exact HAt2.out.own.alloc _) ⟨_, 0, none⟩ 1 1 [.int .i64 (i : Int)] rfl rfl (by exact new_cell _ _ _ _ rfl) (by simp [Value.oneCell']) (by simp [maxLen]; omega) (by omega) (by have := HAt2.out.size; simp; omega) ?_; intro v1 w3 hown1 hg1 hat1))
        obtain ⟨A1, c1, e1⟩ := own_form hown1
        rw [e1] at hown1 ⊢
        have hk := HK.out
        have h := HAt2.out
        have own0 := h.own.alloc (.cells #[.int .i64 (i : Int)] 3)
        go_roundg (gk - 1)
        case measure => omega
        case rel =>
          refine ⟨i + 1, m + 1, A1, c1, by go_num, rfl, by omega, kept_blk own0 hg1 (h.ba.alloc _) (by omega), kept_blk own0 hg1 (h.bb.alloc _) (by omega), kept_blk own0 hg1 (h.bs.alloc _) (by omega), ?_, ?_, kept_below own0 hg1 (h.below.alloc h.below.size _) (by omega) (by have := h.size; simp; omega), ?_⟩
          · rw [HD.out, show toV (difs a b slow i ++ [i]) = toV (difs a b slow i) ++ [.int .i64 (i : Int)] by simp [toV]]
            exact hown1
          · rw [HD.out, List.length_append, ← h.len]
            rfl
          · have := hg1.size
            have := h.size
            simp at *
            omega
    · obtain rfl : i = 288 := by omega
      have HAt := hide hat
      clear hat hi hk
      go_wp2_with fail
      go_ret2
      refine ⟨A, c, m, rfl, HAt.out.len, ?_, HAt.out.below⟩
      have h := HAt.out.own
      have hl := HAt.out.len
      subst hl
      exact RowV.of_own h
theorem differ_no (a b : ByteArray) (slow : Bool) (ha : a.size = 18432) (hb : b.size ≠ 18432) (w : World) : Calls Try.prog 7 #[.string a, .string b, .bool slow] w fun e w' => e = .returned (.tuple #[.slice none 0 0, .int .i64 6]) ∧ Below w.heap.size w w' := by
  have HA := hide (fun W => vright_yes a ha W)
  have HB := hide (fun W => vright_no b hb W)
  clear ha hb
  go_enter Try.func7, Try.ntmps7
  go_wp2_with (first
    | (go_at_call 15; first
        | ((with_reducible refine (HA.out _).mono ?_); rintro e w1 ⟨rfl, hb⟩; subst w1)
        | ((with_reducible refine (HB.out _).mono ?_); rintro e w1 ⟨rfl, hb⟩; subst w1)))
  go_ret2
  exact ⟨rfl, ((((Below.refl w.heap.size w).alloc (Nat.le_refl _) _).alloc (by simp) _).alloc (by simp; omega) _)⟩
end Go.Proofs.Ytmocaabdfiffnaa.Ct
