/- The contract of ctr's Kind. -/
import Derived.Test.YtmocaabdfiffnaaVwBe
import Derived.BigQuiet
namespace Go.Proofs.Ytmocaabdfiffnaa.Ct
open Go.RowKit Go.Proofs.Ytmocaabdfiffnaa.W
set_option linter.unusedVariables false
set_option linter.unusedSimpArgs false

theorem make7 (w : World) : (Instr.makeSlice 32 (.int .i64 7) (.int .i64 7)).run Try.prog w = .ok (.slice (some ⟨w.heap.size, 0, none⟩) 7 7) (w.alloc (.cells (row 7 (u8s fun _ => 0#8)) 5)) := by kernel_rfl
theorem conv7 (w : World) : (convert 32 9 (.slice (some ⟨w.heap.size, 0, none⟩) 7 7)).run Try.prog ((w.alloc (.cells (row 7 (u8s fun _ => 0#8)) 5)).drew) = .ok (.string (strB 7 fun _ => 0#8)) ((w.alloc (.cells (row 7 (u8s fun _ => 0#8)) 5)).drew) :=
  run_convert_row _ _ _ _ Try.underlying32 Try.underlying5 Try.underlying9 _ 0 7 7 (fun _ => 0#8) (fun i hi => by
    rw [Nat.zero_add]
    exact (Blk.newAt w 5 (row 7 (u8s (fun _ => 0#8))) _ rfl).at hi)
theorem kind_len (s : ByteArray) (hs : s.size ≠ 64) (w : World) : Calls Try.prog 24 #[.string s] w fun e w' => e = .returned (.tuple #[.int .i64 0, .int .i64 0, .int .i64 6]) ∧ Below w.heap.size w w' := by
  have t1 : ((s.size : Int) != 64) = true := by simp; omega
  have t2 : (s.size != 64) = true := by simp; omega
  clear hs
  go_enter Try.func24, Try.ntmps24
  go_wp2_with fail
  go_ret3
  exact ⟨rfl, Below.refl _ _⟩
theorem head_bytes {s : ByteArray} (hs : s.size = 64) : (s.extract 0 8).size = 8 ∧ ∀ i, i < 8 → sbyte (s.extract 0 8) i = sbyte s i := by
  refine ⟨by rw [ByteArray.size_extract, hs]; rfl, fun i hi => ?_⟩
  rw [sbyte_extract (by omega) (by omega), Nat.zero_add]
set_option maxRecDepth 100000 in
theorem kind_top (s : ByteArray) (hs : s.size = 64) (h0 : ¬ (sbyte s 0).toNat < 128) (w : World) : Calls Try.prog 24 #[.string s] w fun e w' => e = .returned (.tuple #[.int .i64 0, .int .i64 0, .int .i64 6]) ∧ Below w.heap.size w w' := by
  obtain ⟨hz, hb⟩ := head_bytes hs
  have t1 : ((s.size : Int) != 64) = false := by simp; omega
  have t2 : (s.size != 64) = false := by simp; omega
  have l8 : 8 < s.size := by omega
  have l9 : (8 : Int) ≤ (s.size : Int) := by omega
  have g8 := getElem_sbyte s 8 l8
  have hbl := (sbyte s 8).isLt
  have p8 : IntKind.i64.wrap ((sbyte s 8).toNat : Int) = ((sbyte s 8).toNat : Int) := IntWalk.i64_in _ (by omega)
  have HG := hide (fun W => get_big (s.extract 0 8) hz (by rw [hb 0 (by omega)]; exact h0) W)
  clear hz hb h0 hs
  go_enter Try.func24, Try.ntmps24
  go_wp2_with (first
    | (go_at_call 27; (with_reducible refine (HG.out _).mono ?_); rintro e w1 ⟨rfl, hb⟩; have HB1 := hide hb; clear hb))
  go_quiet (fail)
  go_wp2_with fail
  go_ret3
  exact ⟨rfl, below_drewN HB1.out _⟩
set_option maxRecDepth 100000 in
theorem kind_num (s : ByteArray) (hs : s.size = 64) (h0 : (sbyte s 0).toNat < 128) (h1 : ¬ val (sbyte s) 8 ≤ 1099511627776) (w : World) : Calls Try.prog 24 #[.string s] w fun e w' => e = .returned (.tuple #[.int .i64 0, .int .i64 0, .int .i64 6]) ∧ Below w.heap.size w w' := by
  obtain ⟨hz, hb⟩ := head_bytes hs
  have t1 : ((s.size : Int) != 64) = false := by simp; omega
  have t2 : (s.size != 64) = false := by simp; omega
  have l8 : 8 < s.size := by omega
  have l9 : (8 : Int) ≤ (s.size : Int) := by omega
  have g8 := getElem_sbyte s 8 l8
  have hbl := (sbyte s 8).isLt
  have p8 : IntKind.i64.wrap ((sbyte s 8).toNat : Int) = ((sbyte s 8).toNat : Int) := IntWalk.i64_in _ (by omega)
  have HG := hide (fun W => get_ok (s.extract 0 8) hz (by rw [hb 0 (by omega)]; exact h0) W)
  have hv : val (sbyte (s.extract 0 8)) 8 = val (sbyte s) 8 := val_congr 8 hb
  rw [hv] at HG
  obtain ⟨v, hv⟩ : ∃ v, val (sbyte s) 8 = v := ⟨_, rfl⟩
  rw [hv] at HG h1
  have H1 : Hid ((v : Int) < 0 ∨ 1099511627776 < (v : Int)) := hide (.inr (by omega))
  clear hz hb h0 hs h1 hv
  go_enter Try.func24, Try.ntmps24
  go_wp2_with (first
    | (go_at_call 27; (with_reducible refine (HG.out _).mono ?_); rintro e w1 ⟨rfl, hb⟩; have HB1 := hide hb; clear hb))
  go_quiet (first | (go_at_call 28; exact Calls.quiet_of_same (right_no _ H1.out _)))
  go_wp2_with fail
  go_ret3
  exact ⟨rfl, below_drewN HB1.out _⟩
set_option maxRecDepth 100000 in
theorem kind_cls (s : ByteArray) (hs : s.size = 64) (h0 : (sbyte s 0).toNat < 128) (h1 : val (sbyte s) 8 ≤ 1099511627776) (h2 : (sbyte s 8).toNat ≠ 1 ∧ (sbyte s 8).toNat ≠ 2) (w : World) : Calls Try.prog 24 #[.string s] w fun e w' => e = .returned (.tuple #[.int .i64 0, .int .i64 0, .int .i64 6]) ∧ Below w.heap.size w w' := by
  obtain ⟨hz, hb⟩ := head_bytes hs
  have t1 : ((s.size : Int) != 64) = false := by simp; omega
  have t2 : (s.size != 64) = false := by simp; omega
  have l8 : 8 < s.size := by omega
  have l9 : (8 : Int) ≤ (s.size : Int) := by omega
  have g8 := getElem_sbyte s 8 l8
  have hbl := (sbyte s 8).isLt
  have p8 : IntKind.i64.wrap ((sbyte s 8).toNat : Int) = ((sbyte s 8).toNat : Int) := IntWalk.i64_in _ (by omega)
  have HG := hide (fun W => get_ok (s.extract 0 8) hz (by rw [hb 0 (by omega)]; exact h0) W)
  have hv : val (sbyte (s.extract 0 8)) 8 = val (sbyte s) 8 := val_congr 8 hb
  rw [hv] at HG
  obtain ⟨v, hv⟩ : ∃ v, val (sbyte s) 8 = v := ⟨_, rfl⟩
  rw [hv] at HG h1
  have H1 := hide h1
  obtain ⟨k, hk⟩ : ∃ k, (sbyte s 8).toNat = k := ⟨_, rfl⟩
  rw [hk] at g8 p8 h2
  have k1 : ((k : Int) != 1) = true := by simp; omega
  have k2 : ((k : Int) != 2) = true := by simp; omega
  have k3 : (k != 1) = true := by simp; omega
  have k4 : (k != 2) = true := by simp; omega
  clear hz hb h0 hs h1 hv h2 hk
  go_enter Try.func24, Try.ntmps24
  go_wp2_with (first
    | (go_at_call 27; (with_reducible refine (HG.out _).mono ?_); rintro e w1 ⟨rfl, hb⟩; have HB1 := hide hb; clear hb))
  go_quiet (first | (go_at_call 28; exact Calls.quiet_of_same (right_yes _ H1.out _)))
  go_wp2_with fail
  go_ret3
  exact ⟨rfl, below_drewN HB1.out _⟩
def kindV (c : Bool) (v k : Nat) : Value := bif c then .tuple #[.int .i64 (v : Int), .int .i64 (k : Int), .int .i64 0] else .tuple #[.int .i64 0, .int .i64 0, .int .i64 6]
set_option maxRecDepth 100000 in
set_option maxHeartbeats 2000000 in
theorem kind_cmp (s : ByteArray) (c : Bool) (k : Nat) (hs : s.size = 64) (h0 : (sbyte s 0).toNat < 128) (h1 : val (sbyte s) 8 ≤ 1099511627776) (hk : (sbyte s 8).toNat = k) (h2 : k = 1 ∨ k = 2)
    (hcmp : ((s.extract 9 16).toList == (strB 7 fun _ => 0#8).toList) = c) (w : World) : Calls Try.prog 24 #[.string s] w fun e w' => e = .returned (kindV c (val (sbyte s) 8) k) ∧ Below w.heap.size w w' := by
  obtain ⟨hz, hb⟩ := head_bytes hs
  have t1 : ((s.size : Int) != 64) = false := by simp; omega
  have t2 : (s.size != 64) = false := by simp; omega
  have l8 : 8 < s.size := by omega
  have l9 : (8 : Int) ≤ (s.size : Int) := by omega
  have l16 : (16 : Int) ≤ (s.size : Int) := by omega
  have l17 : 16 ≤ s.size := by omega
  have g8 := getElem_sbyte s 8 l8
  have hbl := (sbyte s 8).isLt
  have p8 : IntKind.i64.wrap ((sbyte s 8).toNat : Int) = ((sbyte s 8).toNat : Int) := IntWalk.i64_in _ (by omega)
  have HG := hide (fun W => get_ok (s.extract 0 8) hz (by rw [hb 0 (by omega)]; exact h0) W)
  have hv : val (sbyte (s.extract 0 8)) 8 = val (sbyte s) 8 := val_congr 8 hb
  rw [hv] at HG
  obtain ⟨v, hv⟩ : ∃ v, val (sbyte s) 8 = v := ⟨_, rfl⟩
  rw [hv] at HG h1 ⊢
  have H1 := hide h1
  rw [hk] at g8 p8
  have hmk := make7
  have hcv := conv7
  clear hz hb h0 hs h1 hv hk
  rcases h2 with rfl | rfl <;> cases c
  all_goals
    go_enter Try.func24, Try.ntmps24
    go_wp2_with (first
      | (go_at_call 27; (with_reducible refine (HG.out _).mono ?_); rintro e w1 ⟨rfl, hb⟩; have HB1 := hide hb; clear hb))
    refine wp_region_any (by kernel_rfl) ?_
    change wpAny _ _ _ _ _ _ _ (World.drew _)
    refine wpAny_ready (rs := [0]) (by kernel_rfl) (by simp) ?_
    refine AllReady.cons rfl (fun K hK => ?_) AllReady.nil
    go_simp
    refine hK _ _ ?_
    clear hK K
    refine wpAny_ready (rs := [1]) (by kernel_rfl) (by simp) ?_
    refine AllReady.cons rfl (fun K hK => ?_) AllReady.nil
    go_simp
    refine hK _ _ ?_
    clear hK K
    refine wpAny_ready (rs := [2]) (by kernel_rfl) (by simp) ?_
    refine AllReady.cons rfl (fun K hK => ?_) AllReady.nil
    go_simp
    refine hK _ _ ?_
    clear hK K
    refine wpAny_ready (rs := [3]) (by kernel_rfl) (by simp) ?_
    refine AllReady.cons rfl (fun K hK => ?_) AllReady.nil
    go_simp
    refine hK _ _ ?_
    clear hK K
    refine wpAny_ready (rs := [4]) (by kernel_rfl) (by simp) ?_
    refine AllReady.cons rfl (fun K hK => ?_) AllReady.nil
    go_simp
    go_at_call 28
    refine (right_yes _ H1.out _).mono ?_
    rintro e wx ⟨rfl, hw⟩
    subst wx
    refine hK _ _ ?_
    clear hK K
    refine wpAny_ready (rs := [5]) (by kernel_rfl) (by simp) ?_
    refine AllReady.cons rfl (fun K hK => ?_) AllReady.nil
    go_simp
    refine hK _ _ ?_
    clear hK K
    refine wpAny_ready (rs := [6]) (by kernel_rfl) (by simp) ?_
    refine AllReady.cons rfl (fun K hK => ?_) AllReady.nil
    go_simp
    refine hK _ _ ?_
    clear hK K
    refine wpAny_ready (rs := [7]) (by kernel_rfl) (by simp) ?_
    refine AllReady.cons rfl (fun K hK => ?_) AllReady.nil
    go_simp
    refine hK _ _ ?_
    clear hK K
    refine wpAny_ready (rs := [8]) (by kernel_rfl) (by simp) ?_
    refine AllReady.cons rfl (fun K hK => ?_) AllReady.nil
    go_simp
    refine hK _ _ ?_
    clear hK K
    refine wpAny_ready (rs := [9]) (by kernel_rfl) (by simp) ?_
    refine AllReady.cons rfl (fun K hK => ?_) AllReady.nil
    go_simp
    refine hK _ _ ?_
    clear hK K
    refine wpAny_ready (rs := [10]) (by kernel_rfl) (by simp) ?_
    refine AllReady.cons rfl (fun K hK => ?_) AllReady.nil
    go_simp
    refine hK _ _ ?_
    clear hK K
    refine wpAny_ready (rs := [11]) (by kernel_rfl) (by simp) ?_
    refine AllReady.cons rfl (fun K hK => ?_) AllReady.nil
    go_simp
    refine hK _ _ ?_
    clear hK K
    refine wpAny_ready (rs := [12]) (by kernel_rfl) (by simp) ?_
    refine AllReady.cons rfl (fun K hK => ?_) AllReady.nil
    go_simp
    refine hK _ _ ?_
    clear hK K
    refine wpAny_ready (rs := [13]) (by kernel_rfl) (by simp) ?_
    refine AllReady.cons rfl (fun K hK => ?_) AllReady.nil
    go_simp
    refine hK _ _ ?_
    clear hK K
    refine wpAny_ready (rs := [14]) (by kernel_rfl) (by simp) ?_
    refine AllReady.cons rfl (fun K hK => ?_) AllReady.nil
    go_simp
    refine hK _ _ ?_
    clear hK K
    refine wpAny_ready (rs := [15]) (by kernel_rfl) (by simp) ?_
    refine AllReady.cons rfl (fun K hK => ?_) AllReady.nil
    go_simp
    refine hK _ _ ?_
    clear hK K
    refine wpAny_take (i := 16) (v := .string s) rfl (by kernel_rfl) (by kernel_rfl) (by kernel_rfl) (fun _ _ _ h => h) (Or.inl ⟨by rfl, fun W => by go_simp⟩) ?_
    refine wpAny_take (i := 17) (v := .string (s.extract 9 16)) rfl (by kernel_rfl) (by kernel_rfl) (by kernel_rfl) (fun _ _ _ h => h) (Or.inl ⟨by rfl, fun W => by go_simp⟩) ?_
    refine wpAny_ready (rs := [18]) (by kernel_rfl) (by simp) ?_
    refine AllReady.cons rfl (fun K hK => ?_) AllReady.nil
    go_simp
    refine hK _ _ ?_
    clear hK K
    refine wpAny_ready (rs := [19]) (by kernel_rfl) (by simp) ?_
    refine AllReady.cons rfl (fun K hK => ?_) AllReady.nil
    go_simp
    refine hK _ _ ?_
    clear hK K
    refine wpAny_ready (rs := [20]) (by kernel_rfl) (by simp) ?_
    refine AllReady.cons rfl (fun K hK => ?_) AllReady.nil
    go_simp
    refine hK _ _ ?_
    clear hK K
    refine wpAny_ready (rs := [21]) (by kernel_rfl) (by simp) ?_
    refine AllReady.cons rfl (fun K hK => ?_) AllReady.nil
    go_simp
    refine hK _ _ ?_
    clear hK K
    refine wpAny_done (by kernel_rfl) ?_ _
    go_wp2_with fail
    go_ret3
    exact ⟨rfl, below_drewN (HB1.out.alloc HB1.out.size _) 1⟩
theorem cmp7 {s : ByteArray} (hs : s.size = 64) : ((s.extract 9 16).toList == (strB 7 fun _ => 0#8).toList) = true ↔ ∀ i, 9 ≤ i → i < 16 → sbyte s i = 0#8 := by
  rw [toList_eq_iff]
  simp only [decide_eq_true_eq]
  constructor
  · intro he i h9 h16
    have h : sbyte (s.extract 9 16) (i - 9) = sbyte (strB 7 fun _ => 0#8) (i - 9) := congrArg (fun x => sbyte x (i - 9)) he
    rw [sbyte_extract (by omega) (by omega), sbyte_strB _ (by omega), show 9 + (i - 9) = i by omega] at h
    exact h
  · intro h
    refine strB_ext (by rw [ByteArray.size_extract, strB_size, hs]; rfl) (fun i hi => ?_)
    rw [ByteArray.size_extract, hs] at hi
    have hi' : i < 7 := hi
    rw [sbyte_extract (by omega) (by omega), sbyte_strB _ hi']
    exact h _ (by omega) (by omega)
theorem kind_no (s : ByteArray) (h : ¬ isK s) (w : World) : Calls Try.prog 24 #[.string s] w fun e w' => e = .returned (.tuple #[.int .i64 0, .int .i64 0, .int .i64 6]) ∧ Below w.heap.size w w' := by
  by_cases hs : s.size = 64
  · by_cases h0 : (sbyte s 0).toNat < 128
    · by_cases h1 : val (sbyte s) 8 ≤ 1099511627776
      · by_cases h2 : (sbyte s 8).toNat = 1 ∨ (sbyte s 8).toNat = 2
        · refine kind_cmp s false _ hs h0 h1 rfl h2 ?_ w
          cases hc : ((s.extract 9 16).toList == (strB 7 fun _ => 0#8).toList)
          · rfl
          · exact absurd ⟨hs, h0, h1, h2, (cmp7 hs).1 hc⟩ h
        · exact kind_cls s hs h0 h1 (by omega) w
      · exact kind_num s hs h0 h1 w
    · exact kind_top s hs h0 w
  · exact kind_len s hs w
theorem kind_yes (s : ByteArray) (h : isK s) (k : Nat) (hk : (sbyte s 8).toNat = k) (w : World) : Calls Try.prog 24 #[.string s] w fun e w' => e = .returned (.tuple #[.int .i64 (val (sbyte s) 8 : Int), .int .i64 (k : Int), .int .i64 0]) ∧ Below w.heap.size w w' := by
  obtain ⟨hs, h0, h1, h2, h3⟩ := h
  exact kind_cmp s true k hs h0 h1 hk (hk ▸ h2) ((cmp7 hs).2 h3) w
end Go.Proofs.Ytmocaabdfiffnaa.Ct
