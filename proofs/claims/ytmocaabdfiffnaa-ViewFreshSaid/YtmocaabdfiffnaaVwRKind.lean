/- The document's kind of a block, walked. -/
import Derived.Test.YtmocaabdfiffnaaVwRef
import Derived.BigQuiet
namespace Go.Proofs.Ytmocaabdfiffnaa.Ct
open Go.RowKit Go.Proofs.Ytmocaabdfiffnaa.W
set_option linter.unusedVariables false
set_option linter.unusedSimpArgs false

set_option maxRecDepth 100000 in
theorem rget_big (s : ByteArray) (hs : s.size = 8) (h0 : ¬ (sbyte s 0).toNat < 128) (w : World) : Calls Try.prog 25 #[.string s] w fun e w' => e = .returned (.tuple #[.int .i64 0, .int .i64 3]) ∧ Below w.heap.size w w' := by
  have t1 : decide ((8 : Int) < (s.size : Int)) = false := by simp; omega
  have t2 : ((s.size : Int) == 8) = true := by simp; omega
  have t3 : decide (8 < s.size) = false := by simp; omega
  have t4 : (s.size == 8) = true := by simp; omega
  have t5 : ((s.size : Int) == 0) = false := beq_eq_false_iff_ne.2 (by omega)
  have t6 : (s.size == 0) = false := beq_eq_false_iff_ne.2 (by omega)
  have g2 : 0 < s.size := by omega
  have g0 := getElem_sbyte s 0 g2
  have g1 : decide ((128 : Int) ≤ ((sbyte s 0).toNat : Int)) = true := by simp; omega
  clear hs h0
  go_enter Try.func25, Try.ntmps25
  go_wp2_with fail
  go_ret2
  exact ⟨rfl, Below.refl _ _⟩
set_option maxRecDepth 100000 in
theorem rget_ok (s : ByteArray) (hs : s.size = 8) (h0 : (sbyte s 0).toNat < 128) (w : World) : Calls Try.prog 25 #[.string s] w fun e w' => e = .returned (.tuple #[.int .i64 (val (sbyte s) 8 : Int), .int .i64 0]) ∧ Below w.heap.size w w' := by
  have t1 : decide ((8 : Int) < (s.size : Int)) = false := by simp; omega
  have t2 : ((s.size : Int) == 8) = true := by simp; omega
  have t3 : decide (8 < s.size) = false := by simp; omega
  have t4 : (s.size == 8) = true := by simp; omega
  have t5 : ((s.size : Int) == 0) = false := beq_eq_false_iff_ne.2 (by omega)
  have t6 : (s.size == 0) = false := beq_eq_false_iff_ne.2 (by omega)
  have g2 : 0 < s.size := by omega
  have g0 := getElem_sbyte s 0 g2
  have g1 : decide ((128 : Int) ≤ ((sbyte s 0).toNat : Int)) = false := by simp; omega
  have HS := hide hs
  have H0 := hide h0
  clear hs h0
  go_enter Try.func25, Try.ntmps25
  go_wp2_with fail
  go_loopg [4, 5] 8 (fun k s4 s5 wr => GetRel w (sbyte s) k s4 s5 wr)
  case atStart => exact ⟨0, rfl, rfl, rfl, rfl⟩
  case round =>
    obtain ⟨i, rfl, rfl, hk, rfl⟩ := hrel
    by_cases hi : i < 8
    · have hgk : 0 < gk := by omega
      have hi' : (i : Int) < (s.size : Int) := by rw [HS.out]; omega
      have l0 : i < s.size := by rw [HS.out]; omega
      have gi := getElem_sbyte s i l0
      obtain ⟨v, hv⟩ : ∃ v, val (sbyte s) i = v := ⟨_, rfl⟩
      obtain ⟨b, hb⟩ : ∃ b, sbyte s i = b := ⟨_, rfl⟩
      obtain ⟨u, hu⟩ : ∃ u, val (sbyte s) (i + 1) = u := ⟨_, rfl⟩
      have hbl := b.isLt
      have hu2 : u = v * 256 + b.toNat := by rw [← hu, ← hv, ← hb]; rfl
      have hul : u < 9223372036854775808 := by rw [← hu]; exact val_lt63 _ H0.out (by omega)
      obtain ⟨v2, hv2⟩ : ∃ v2, v * 256 = v2 := ⟨_, rfl⟩
      have e1 : IntKind.i64.wrap ((v : Int) * 256) = (v2 : Int) := by rw [show (v : Int) * 256 = (v2 : Int) by omega]; exact IntWalk.i64_in _ (by omega)
      have e2 : IntKind.i64.wrap (b.toNat : Int) = (b.toNat : Int) := IntWalk.i64_in _ (by omega)
      have e3 : IntKind.i64.wrap ((v2 : Int) + (b.toNat : Int)) = (u : Int) := by rw [show (v2 : Int) + (b.toNat : Int) = (u : Int) by omega]; exact IntWalk.i64_in _ (by omega)
      rw [hb] at gi
      have HU := hide hu
      clear hb hu hu2 hul hv2
      simp only [hv]
      clear hv
      go_wp2_with fail
      go_roundg (gk - 1)
      case measure => omega
      case rel => exact ⟨i + 1, by go_num, by rw [HU.out], by omega, rfl⟩
    · have hi' : decide ((i : Int) < (s.size : Int)) = false := by rw [HS.out]; simp; omega
      have hi'' : decide (i < s.size) = false := by rw [HS.out]; simp; omega
      obtain rfl : i = 8 := by omega
      clear hi
      go_wp2_with fail
      go_ret2
      exact ⟨rfl, Below.refl _ _⟩
theorem rkind_len (s : ByteArray) (hs : s.size ≠ 64) (w : World) : Calls Try.prog 21 #[.string s] w fun e w' => e = .returned (.tuple #[.int .i64 0, .int .i64 0, .bool false]) ∧ Below w.heap.size w w' := by
  have t1 : ((s.size : Int) != 64) = true := by simp; omega
  have t2 : (s.size != 64) = true := by simp; omega
  clear hs
  go_enter Try.func21, Try.ntmps21
  go_wp2_with fail
  go_ret3
  exact ⟨rfl, Below.refl _ _⟩
set_option maxRecDepth 100000 in
theorem rkind_top (s : ByteArray) (hs : s.size = 64) (h0 : ¬ (sbyte s 0).toNat < 128) (w : World) : Calls Try.prog 21 #[.string s] w fun e w' => e = .returned (.tuple #[.int .i64 0, .int .i64 0, .bool false]) ∧ Below w.heap.size w w' := by
  obtain ⟨hz, hb⟩ := head_bytes hs
  have t1 : ((s.size : Int) != 64) = false := by simp; omega
  have t2 : (s.size != 64) = false := by simp; omega
  have l8 : 8 < s.size := by omega
  have l9 : (8 : Int) ≤ (s.size : Int) := by omega
  have g8 := getElem_sbyte s 8 l8
  have hbl := (sbyte s 8).isLt
  have HG := hide (fun W => rget_big (s.extract 0 8) hz (by rw [hb 0 (by omega)]; exact h0) W)
  clear hz hb h0 hs
  go_enter Try.func21, Try.ntmps21
  go_wp2_with (first
    | (go_at_call 25; (with_reducible refine (HG.out _).mono ?_); rintro e w1 ⟨rfl, hb⟩; have HB1 := hide hb; clear hb))
  go_quiet (fail)
  go_wp2_with fail
  go_ret3
  exact ⟨rfl, below_drewN HB1.out _⟩
set_option maxRecDepth 100000 in
theorem rkind_num (s : ByteArray) (hs : s.size = 64) (h0 : (sbyte s 0).toNat < 128) (h1 : ¬ val (sbyte s) 8 ≤ 1099511627776) (w : World) : Calls Try.prog 21 #[.string s] w fun e w' => e = .returned (.tuple #[.int .i64 0, .int .i64 0, .bool false]) ∧ Below w.heap.size w w' := by
  obtain ⟨hz, hb⟩ := head_bytes hs
  have t1 : ((s.size : Int) != 64) = false := by simp; omega
  have t2 : (s.size != 64) = false := by simp; omega
  have l8 : 8 < s.size := by omega
  have l9 : (8 : Int) ≤ (s.size : Int) := by omega
  have g8 := getElem_sbyte s 8 l8
  have hbl := (sbyte s 8).isLt
  have HG := hide (fun W => rget_ok (s.extract 0 8) hz (by rw [hb 0 (by omega)]; exact h0) W)
  have hv : val (sbyte (s.extract 0 8)) 8 = val (sbyte s) 8 := val_congr 8 hb
  rw [hv] at HG
  obtain ⟨v, hv⟩ : ∃ v, val (sbyte s) 8 = v := ⟨_, rfl⟩
  rw [hv] at HG h1
  have v1 : decide ((1099511627776 : Int) < (v : Int)) = true := by simp; omega
  have v2 : decide (1099511627776 < v) = true := by simp; omega
  clear hz hb h0 hs h1 hv
  go_enter Try.func21, Try.ntmps21
  go_wp2_with (first
    | (go_at_call 25; (with_reducible refine (HG.out _).mono ?_); rintro e w1 ⟨rfl, hb⟩; have HB1 := hide hb; clear hb))
  go_quiet (fail)
  go_wp2_with fail
  go_ret3
  exact ⟨rfl, below_drewN HB1.out _⟩
set_option maxRecDepth 100000 in
theorem rkind_cls (s : ByteArray) (hs : s.size = 64) (h0 : (sbyte s 0).toNat < 128) (h1 : val (sbyte s) 8 ≤ 1099511627776) (h2 : (sbyte s 8).toNat ≠ 1 ∧ (sbyte s 8).toNat ≠ 2) (w : World) : Calls Try.prog 21 #[.string s] w fun e w' => e = .returned (.tuple #[.int .i64 0, .int .i64 0, .bool false]) ∧ Below w.heap.size w w' := by
  obtain ⟨hz, hb⟩ := head_bytes hs
  have t1 : ((s.size : Int) != 64) = false := by simp; omega
  have t2 : (s.size != 64) = false := by simp; omega
  have l8 : 8 < s.size := by omega
  have l9 : (8 : Int) ≤ (s.size : Int) := by omega
  have g8 := getElem_sbyte s 8 l8
  have hbl := (sbyte s 8).isLt
  have HG := hide (fun W => rget_ok (s.extract 0 8) hz (by rw [hb 0 (by omega)]; exact h0) W)
  have hv : val (sbyte (s.extract 0 8)) 8 = val (sbyte s) 8 := val_congr 8 hb
  rw [hv] at HG
  obtain ⟨v, hv⟩ : ∃ v, val (sbyte s) 8 = v := ⟨_, rfl⟩
  rw [hv] at HG h1
  have v1 : decide ((1099511627776 : Int) < (v : Int)) = false := by simp; omega
  have v2 : decide (1099511627776 < v) = false := by simp; omega
  obtain ⟨k, hk⟩ : ∃ k, (sbyte s 8).toNat = k := ⟨_, rfl⟩
  rw [hk] at g8 h2
  have k1 : ((k : Int) != 1) = true := by simp; omega
  have k2 : ((k : Int) != 2) = true := by simp; omega
  have k3 : (k != 1) = true := by simp; omega
  have k4 : (k != 2) = true := by simp; omega
  clear hz hb h0 hs h1 hv h2 hk
  go_enter Try.func21, Try.ntmps21
  go_wp2_with (first
    | (go_at_call 25; (with_reducible refine (HG.out _).mono ?_); rintro e w1 ⟨rfl, hb⟩; have HB1 := hide hb; clear hb))
  go_quiet (fail)
  go_wp2_with fail
  go_ret3
  exact ⟨rfl, below_drewN HB1.out _⟩
def rkindV (c : Bool) (v k : Nat) : Value := bif c then .tuple #[.int .i64 (v : Int), .int .i64 (k : Int), .bool true] else .tuple #[.int .i64 0, .int .i64 0, .bool false]
set_option maxRecDepth 100000 in
set_option maxHeartbeats 2000000 in
theorem rkind_cmp (s : ByteArray) (c : Bool) (k : Nat) (hs : s.size = 64) (h0 : (sbyte s 0).toNat < 128) (h1 : val (sbyte s) 8 ≤ 1099511627776) (hk : (sbyte s 8).toNat = k) (h2 : k = 1 ∨ k = 2)
    (hcmp : ((s.extract 9 16).toList == (zerosB 7).toList) = c) (w : World) : Calls Try.prog 21 #[.string s] w fun e w' => e = .returned (rkindV c (val (sbyte s) 8) k) ∧ Below w.heap.size w w' := by
  obtain ⟨hz, hb⟩ := head_bytes hs
  have t1 : ((s.size : Int) != 64) = false := by simp; omega
  have t2 : (s.size != 64) = false := by simp; omega
  have l8 : 8 < s.size := by omega
  have l9 : (8 : Int) ≤ (s.size : Int) := by omega
  have g8 := getElem_sbyte s 8 l8
  have hbl := (sbyte s 8).isLt
  have HG := hide (fun W => rget_ok (s.extract 0 8) hz (by rw [hb 0 (by omega)]; exact h0) W)
  have hv : val (sbyte (s.extract 0 8)) 8 = val (sbyte s) 8 := val_congr 8 hb
  rw [hv] at HG
  have l10 : (8 : Int) < (s.size : Int) := by omega
  have l16 : (16 : Int) ≤ (s.size : Int) := by omega
  have l17 : 16 ≤ s.size := by omega
  obtain ⟨v, hv⟩ : ∃ v, val (sbyte s) 8 = v := ⟨_, rfl⟩
  rw [hv] at HG h1 ⊢
  have v1 : decide ((1099511627776 : Int) < (v : Int)) = false := by simp; omega
  have v2 : decide (1099511627776 < v) = false := by simp; omega
  rw [hk] at g8
  clear hz hb h0 hs h1 hv hk
  rcases h2 with rfl | rfl <;> cases c
  all_goals
    go_enter Try.func21, Try.ntmps21
    go_wp2_with (first
      | (go_at_call 25; (with_reducible refine (HG.out _).mono ?_); rintro e w1 ⟨rfl, hb⟩; have HB1 := hide hb; clear hb))
    refine wp_region_any (by kernel_rfl) ?_
    change wpAny _ _ _ _ _ _ _ (World.drew _)
    refine wpAny_ready (rs := [0]) (by kernel_rfl) (by simp) ?_
    refine AllReady.cons rfl (fun K hK => ?_) AllReady.nil
    go_simp
    refine hK _ _ ?_
    clear hK K
    refine wpAny_ready (rs := [1]) (by kernel_rfl) (by simp) ?_
    refine AllReady.cons rfl (fun K hK => ?_) AllReady.nil
    go_simp
    refine hK _ _ ?_
    clear hK K
    refine wpAny_ready (rs := [2]) (by kernel_rfl) (by simp) ?_
    refine AllReady.cons rfl (fun K hK => ?_) AllReady.nil
    go_simp
    refine hK _ _ ?_
    clear hK K
    refine wpAny_ready (rs := [3]) (by kernel_rfl) (by simp) ?_
    refine AllReady.cons rfl (fun K hK => ?_) AllReady.nil
    go_simp
    refine hK _ _ ?_
    clear hK K
    refine wpAny_ready (rs := [4]) (by kernel_rfl) (by simp) ?_
    refine AllReady.cons rfl (fun K hK => ?_) AllReady.nil
    go_simp
    refine hK _ _ ?_
    clear hK K
    refine wpAny_ready (rs := [5]) (by kernel_rfl) (by simp) ?_
    refine AllReady.cons rfl (fun K hK => ?_) AllReady.nil
    go_simp
    refine hK _ _ ?_
    clear hK K
    refine wpAny_ready (rs := [6]) (by kernel_rfl) (by simp) ?_
    refine AllReady.cons rfl (fun K hK => ?_) AllReady.nil
    go_simp
    refine hK _ _ ?_
    clear hK K
    refine wpAny_ready (rs := [7]) (by kernel_rfl) (by simp) ?_
    refine AllReady.cons rfl (fun K hK => ?_) AllReady.nil
    go_simp
    refine hK _ _ ?_
    clear hK K
    refine wpAny_ready (rs := [8]) (by kernel_rfl) (by simp) ?_
    refine AllReady.cons rfl (fun K hK => ?_) AllReady.nil
    go_simp
    refine hK _ _ ?_
    clear hK K
    refine wpAny_ready (rs := [9]) (by kernel_rfl) (by simp) ?_
    refine AllReady.cons rfl (fun K hK => ?_) AllReady.nil
    go_simp
    refine hK _ _ ?_
    clear hK K
    refine wpAny_ready (rs := [10]) (by kernel_rfl) (by simp) ?_
    refine AllReady.cons rfl (fun K hK => ?_) AllReady.nil
    go_simp
    refine hK _ _ ?_
    clear hK K
    refine wpAny_ready (rs := [11]) (by kernel_rfl) (by simp) ?_
    refine AllReady.cons rfl (fun K hK => ?_) AllReady.nil
    go_simp
    refine hK _ _ ?_
    clear hK K
    refine wpAny_ready (rs := [12]) (by kernel_rfl) (by simp) ?_
    refine AllReady.cons rfl (fun K hK => ?_) AllReady.nil
    go_simp
    refine hK _ _ ?_
    clear hK K
    refine wpAny_ready (rs := [13]) (by kernel_rfl) (by simp) ?_
    refine AllReady.cons rfl (fun K hK => ?_) AllReady.nil
    go_simp
    refine hK _ _ ?_
    clear hK K
    refine wpAny_ready (rs := [14]) (by kernel_rfl) (by simp) ?_
    refine AllReady.cons rfl (fun K hK => ?_) AllReady.nil
    go_simp
    refine hK _ _ ?_
    clear hK K
    refine wpAny_ready (rs := [15]) (by kernel_rfl) (by simp) ?_
    refine AllReady.cons rfl (fun K hK => ?_) AllReady.nil
    go_simp
    refine hK _ _ ?_
    clear hK K
    refine wpAny_ready (rs := [16]) (by kernel_rfl) (by simp) ?_
    refine AllReady.cons rfl (fun K hK => ?_) AllReady.nil
    go_simp
    refine hK _ _ ?_
    clear hK K
    refine wpAny_take (i := 17) (v := .string s) rfl (by kernel_rfl) (by kernel_rfl) (by kernel_rfl) (fun _ _ _ h => h) (Or.inl ⟨by rfl, fun W => by go_simp⟩) ?_
    refine wpAny_take (i := 18) (v := .string (s.extract 9 16)) rfl (by kernel_rfl) (by kernel_rfl) (by kernel_rfl) (fun _ _ _ h => h) (Or.inl ⟨by rfl, fun W => by go_simp⟩) ?_
    refine wpAny_ready (rs := [19]) (by kernel_rfl) (by simp) ?_
    refine AllReady.cons rfl (fun K hK => ?_) AllReady.nil
    go_simp
    go_at_call 20
    refine (zeros7 _).mono ?_
    rintro e w2 ⟨rfl, hb⟩
    have HB2 := hide hb
    clear hb
    refine hK _ _ ?_
    clear hK K
    refine wpAny_ready (rs := [20]) (by kernel_rfl) (by simp) ?_
    refine AllReady.cons rfl (fun K hK => ?_) AllReady.nil
    go_simp
    refine hK _ _ ?_
    clear hK K
    refine wpAny_ready (rs := [21]) (by kernel_rfl) (by simp) ?_
    refine AllReady.cons rfl (fun K hK => ?_) AllReady.nil
    go_simp
    refine hK _ _ ?_
    clear hK K
    refine wpAny_done (by kernel_rfl) ?_ _
    have HB3 := hide ((below_drewN HB1.out 1).trans (HB2.out.mono HB1.out.size))
    go_wp2_with fail
    try (go_quiet (fail))
    try (go_wp2_with fail)
    go_ret3
    first | exact ⟨rfl, HB3.out⟩ | exact ⟨rfl, below_drewN HB3.out _⟩
theorem rkind_no (s : ByteArray) (h : ¬ isK s) (w : World) : Calls Try.prog 21 #[.string s] w fun e w' => e = .returned (.tuple #[.int .i64 0, .int .i64 0, .bool false]) ∧ Below w.heap.size w w' := by
  by_cases hs : s.size = 64
  · by_cases h0 : (sbyte s 0).toNat < 128
    · by_cases h1 : val (sbyte s) 8 ≤ 1099511627776
      · by_cases h2 : (sbyte s 8).toNat = 1 ∨ (sbyte s 8).toNat = 2
        · refine rkind_cmp s false _ hs h0 h1 rfl h2 ?_ w
          cases hc : ((s.extract 9 16).toList == (zerosB 7).toList)
          · rfl
          · exact absurd ⟨hs, h0, h1, h2, (cmp7 hs).1 hc⟩ h
        · exact rkind_cls s hs h0 h1 (by omega) w
      · exact rkind_num s hs h0 h1 w
    · exact rkind_top s hs h0 w
  · exact rkind_len s hs w
theorem rkind_yes (s : ByteArray) (h : isK s) (k : Nat) (hk : (sbyte s 8).toNat = k) (w : World) : Calls Try.prog 21 #[.string s] w fun e w' => e = .returned (.tuple #[.int .i64 (val (sbyte s) 8 : Int), .int .i64 (k : Int), .bool true]) ∧ Below w.heap.size w w' := by
  obtain ⟨hs, h0, h1, h2, h3⟩ := h
  exact rkind_cmp s true k hs h0 h1 hk (hk ▸ h2) ((cmp7 hs).2 h3) w
end Go.Proofs.Ytmocaabdfiffnaa.Ct
