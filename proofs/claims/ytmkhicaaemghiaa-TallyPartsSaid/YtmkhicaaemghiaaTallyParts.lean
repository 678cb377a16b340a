/- TallyParts, walked. -/
import Derived.Test.YtmkhicaaemghiaaTallyPartP
namespace Go.Proofs.Ytmkhicaaemghiaa.Ta
open Go.RowKit Go.Proofs.Ytmkhicaaemghiaa.W Go.Proofs.Ytmkhicaaemghiaa.Fl
set_option linter.unusedVariables false
set_option linter.unusedSimpArgs false

theorem storeCells_all {P : Program} (w : World) (g : Nat) (t : TypeId) (n : Nat) (f h : Nat → Value) (hg : Blk w g t (row n f)) (h1 : ∀ i, i < n → (h i).oneCell' = true) : (storeCells ⟨g, 0, none⟩ (row n h).toList).run P w = .ok () (w.setRow g (row n h)) := by
  have hst := run_storeCells_at P g 0 t (row n h).toList 0 (row n f) w hg (by simp [row_size]) (fun v hv => by
    obtain ⟨j, hj, rfl⟩ := List.getElem_of_mem hv
    simp [row_size] at hj
    have := h1 j hj
    simpa [row] using this)
  simp only [Nat.add_zero, Array.length_toList, row_size] at hst
  rw [over_list n 0 n f h (by omega), row_congr (f := over f 0 n h) (g := h) (fun i hi => by simp [over, hi])] at hst
  exact hst
/-- What region 4 leaves. -/
def P4 (W0 : World) (fa fe : Nat → Int) (y x z : Int) (s10 : Value) (wx : World) : Prop :=
  ∃ g10 r s : Nat, s10 = .pointer (some ⟨g10, 0, none⟩) ∧ V r x ∧ V s z ∧ Blk wx g10 28 (row 58 (tcell fa fe y r s)) ∧ Below W0.heap.size W0 wx
theorem V_eq_self {a b : Nat} {x : Int} (ha : V a x) (hb : V b x) : (FloatKind.f64.format.order a b == some .eq) = true := order_eq ha hb rfl
/-- The sum of the parts. -/
def AddR (fa fe : Nat → Int) (y x z : Int) (w : World) (e : Ending) (w' : World) : Prop :=
  Below w.heap.size w w' ∧ ∃ r s, V r x ∧ V s z ∧ e = .returned (.agg (row 58 (tcell fa fe y r s)))
def OfR (K E : Nat → Int) (S : Nat → ByteArray) (l : Nat) (w : World) (e : Ending) (w' : World) : Prop :=
  ∃ br bi, V br (beatR K E l) ∧ V bi (beatI K E l) ∧ e = .returned (tallyV K E S l br bi) ∧ Below w.heap.size w w'
theorem add_parts (K E : Nat → Int) (S : Nat → ByteArray) (k m l : Nat) (hl : k + m = l) (hl2 : l < 140737488355328) (b1 c1 b2 c2 : Nat) (h1 : V b1 (beatR K E k)) (h2 : V c1 (beatI K E k)) (h3 : V b2 (beatR (sh K k) (sh E k) m)) (h4 : V c2 (beatI (sh K k) (sh E k) m)) (W : World) :
    Calls Try.prog 15 #[tallyV K E S k b1 c1, tallyV (sh K k) (sh E k) (sh S k) m b2 c2, .int .i64 (k : Int)] W (AddR (fun c => (cnt (fun i => slotK (K i)) l c : Int)) (fun c => (cnt (fun i => slotE (E i)) l c : Int)) (byts K E (fun i => (S i).size) l) (beatR K E l) (beatI K E l) W) := by
  subst hl
  have h := add_any (fun c => (cnt (fun i => slotK (K i)) k c : Int)) (fun c => (cnt (fun i => slotE (E i)) k c : Int)) (byts K E (fun i => (S i).size) k) b1 c1 (fun c => (cnt (fun i => slotK (sh K k i)) m c : Int)) (fun c => (cnt (fun i => slotE (sh E k i)) m c : Int)) (byts (sh K k) (sh E k) (fun i => (sh S k i).size) m) b2 c2 (k : Int) W
  unfold tallyV
  refine h.mono ?_
  clear h
  rintro e w' ⟨hb, r, s, hr, hs, rfl⟩
  have hk4 : ((k : Int) % 4).toNat = k % 4 := by omega
  rw [hk4] at hr hs
  obtain ⟨v1, v2⟩ := Ph.V_rot (k % 4) h3 h4
  obtain ⟨q1, q2⟩ := beat_add K E k m
  have l1 := beatR_le K E (k + m)
  have l2 := beatI_le K E (k + m)
  have r1 := res_V hr h1 v1 (by rw [← q1]; omega)
  have r2 := res_V hs h2 v2 (by rw [← q2]; omega)
  rw [← q1] at r1
  rw [← q2] at r2
  refine ⟨hb, r, s, r1, r2, ?_⟩
  have hy : wrap64 (byts K E (fun i => (S i).size) k + byts (sh K k) (sh E k) (fun i => (sh S k i).size) m) = byts K E (fun i => (S i).size) (k + m) := byts_add K E (fun i => (S i).size) k m
  rw [hy]
  have ha : ∀ c, sumA (fun c => (cnt (fun i => slotK (K i)) k c : Int)) (fun c => (cnt (fun i => slotK (sh K k i)) m c : Int)) c = (cnt (fun i => slotK (K i)) (k + m) c : Int) := fun c => by
    have h := cnt_add (fun i => slotK (K i)) k c m
    have hb := cnt_le (fun i => slotK (K i)) c (k + m)
    show wrap64 ((cnt (fun i => slotK (K i)) k c : Int) + (cnt (sh (fun i => slotK (K i)) k) m c : Int)) = _
    rw [h, IntWalk.wrap64_in _ (by omega)]
    omega
  have he : ∀ c, sumA (fun c => (cnt (fun i => slotE (E i)) k c : Int)) (fun c => (cnt (fun i => slotE (sh E k i)) m c : Int)) c = (cnt (fun i => slotE (E i)) (k + m) c : Int) := fun c => by
    have h := cnt_add (fun i => slotE (E i)) k c m
    have hb := cnt_le (fun i => slotE (E i)) c (k + m)
    show wrap64 ((cnt (fun i => slotE (E i)) k c : Int) + (cnt (sh (fun i => slotE (E i)) k) m c : Int)) = _
    rw [h, IntWalk.wrap64_in _ (by omega)]
    omega
  rw [funext ha, funext he]
def SumE (W : World) (f : Nat → Nat) (k : Nat) (s11 s12 : Value) (wr : World) : Prop := ∃ i : Nat, s12 = .int .i64 (i : Int) ∧ s11 = .int .i64 (psum f i : Int) ∧ i + k = 32 ∧ wr = W
set_option maxRecDepth 100000 in
set_option maxHeartbeats 8000000 in
theorem parts_walk (n m c d l : Nat) (A B : Option Addr) (F G : Nat → Nat → Value) (K E : Nat → Int) (S : Nat → ByteArray) (at_ : Nat) (hat : at_ < 256) (w : World)
    (hA : ActsAt w w.heap.size A n F K) (hB : ToldAt w w.heap.size B m G E S) (hl : l = min n m) (hl2 : l < 140737488355328) (hnc : n ≤ c) (hmd : m ≤ d) (hc : c ≤ maxLen) (hd : d ≤ maxLen) :
    Calls Try.prog 6 #[.slice A n c, .slice B m d, .int .u8 (at_ : Int)] w fun e w' => e = .returned (.bool true) ∧ Below w.heap.size w w' := by
  obtain ⟨k, hk⟩ : ∃ k, at_ % (l + 1) = k := ⟨_, rfl⟩
  have hkl : k ≤ l := by
    have := Nat.mod_lt at_ (show 0 < l + 1 by omega)
    omega
  have hln : l ≤ n := by omega
  have hlm : l ≤ m := by omega
  have HOf := hide (fun W (hb : Below w.heap.size w W) => of_any n m c d l A B F G K E S W (hA.on hb) (hB.on hb) hl hl2 (by omega) (by omega))
  obtain ⟨A2, hA2⟩ : ∃ A2, (if c = k then A else A.map (·.add (k * 11))) = A2 := ⟨_, rfl⟩
  obtain ⟨B2, hB2⟩ : ∃ B2, (if d = k then B else B.map (·.add (k * 3))) = B2 := ⟨_, rfl⟩
  have HO1 := hide (fun W (hb : Below w.heap.size w W) => of_any k k c d k A B F G K E S W ((hA.head (by omega)).on hb) ((hB.head (by omega)).on hb) (by omega) (by omega) (by omega) (by omega))
  have HO2 := hide (fun W (hb : Below w.heap.size w W) => of_any (l - k) (l - k) (c - k) (d - k) (l - k) A2 B2 (sh F k) (sh G k) (sh K k) (sh E k) (sh S k) W (hA2 ▸ (hA.part c (by omega) (by omega)).on hb) (hB2 ▸ (hB.part d (by omega) (by omega)).on hb) (by omega) (by omega) (by omega) (by omega))
  have HAd := hide (fun b1 c1 b2 c2 h1 h2 h3 h4 W => add_parts K E S k (l - k) l (by omega) hl2 b1 c1 b2 c2 h1 h2 h3 h4 W)
  have hz := zero_tally
  have e1 : IntKind.i64.wrap (at_ : Int) = (at_ : Int) := IntWalk.i64_in _ (by omega)
  have e2 : IntKind.i64.wrap ((l : Int) + 1) = ((l + 1 : Nat) : Int) := by rw [show (l : Int) + 1 = ((l + 1 : Nat) : Int) by omega]; exact IntWalk.i64_in _ (by omega)
  have e2' : IntKind.i64.wrap ((l : Int) + 1) = (l : Int) + 1 := by rw [e2]; omega
  have e3 : Int.tmod (at_ : Int) ((l : Int) + 1) = (k : Int) := by rw [Int.tmod_eq_emod_of_nonneg (by omega), show (l : Int) + 1 = ((l + 1 : Nat) : Int) by omega, ← hk]; omega
  have e3' : IntKind.i64.wrap (k : Int) = (k : Int) := IntWalk.i64_in _ (by omega)
  have z1 : ((l : Int) + 1 == 0) = false := by simp; omega
  have z1' : ¬ ((l : Int) + 1 = 0) := by omega
  have hcase : (m < n ∧ l = m) ∨ (decide (m < n) = false ∧ l = n) := by
    rcases Nat.lt_or_ge m n with h | h
    · exact .inl ⟨h, by omega⟩
    · exact .inr ⟨by simp; omega, by omega⟩
  have HCase := hide hcase
  have HL := hide (And.intro hln (And.intro hlm hl2))
  clear hA hB hl hk hcase
  go_enter Try.func6, Try.ntmps6
  go_upto_region 1 with fail
  go_cut [7] (fun s7 wx => s7 = .int .i64 (l : Int) ∧ w = wx)
  case first =>
    rcases HCase.out with ⟨h1, h2⟩ | ⟨h1, h2⟩
    all_goals
      go_wp2_with fail
      go_meet
      refine ⟨?_, rfl⟩
      rw [h2]
  case rest =>
    obtain ⟨rfl, rfl⟩ := hcut
    go_upto_region 4 with (first
      | (go_at_call 7; (with_reducible refine (HOf.out _ (Below.refl _ _)).mono ?_); rintro e w1 ⟨⟨br, bi, hr, hi, rfl⟩, hb1⟩; unfold tallyV; have HR := hide hr; have HI := hide hi; clear hr hi)
      | (with_reducible refine wpList_store_all rfl 28 (.tmp 9) (.tmp 25) rfl w1.heap.size rfl 28 58 _ _ rfl (Blk.newAt w1 _ _ _ rfl) (by kernel_rfl) (fun j _ => tcell_one _ _ _ _ _ j) ?_))
    obtain ⟨fa, hfa⟩ : ∃ f : Nat → Int, (fun c => (cnt (fun i => slotK (K i)) l c : Int)) = f := ⟨_, rfl⟩
    obtain ⟨fe, hfe⟩ : ∃ f : Nat → Int, (fun c => (cnt (fun i => slotE (E i)) l c : Int)) = f := ⟨_, rfl⟩
    obtain ⟨y, hy⟩ : ∃ x, byts K E (fun i => (S i).size) l = x := ⟨_, rfl⟩
    obtain ⟨xr, hxr⟩ : ∃ x, beatR K E l = x := ⟨_, rfl⟩
    obtain ⟨xi, hxi⟩ : ∃ x, beatI K E l = x := ⟨_, rfl⟩
    rw [hfa, hfe, hy, hxr, hxi] at HAd
    rw [hxr] at HR
    rw [hxi] at HI
    simp only [hfa, hfe, hy]
    have hk0 : Blk ((w1.alloc (.cells (row 58 zero58) 28)).setRow w1.heap.size (row 58 (tcell fa fe y br bi))) w1.heap.size 28 (row 58 (tcell fa fe y br bi)) := (Blk.newAt w1 _ _ _ rfl).row_ _
    have hkb : Below w.heap.size w ((w1.alloc (.cells (row 58 zero58) 28)).setRow w1.heap.size (row 58 (tcell fa fe y br bi))) := below_setRow (hb1.alloc hb1.size _) hb1.size _
    generalize (w1.alloc (.cells (row 58 zero58) 28)).setRow w1.heap.size (row 58 (tcell fa fe y br bi)) = W0 at hk0 hkb ⊢
    obtain ⟨g9, hg9⟩ : ∃ g, w1.heap.size = g := ⟨_, rfl⟩
    rw [hg9] at hk0
    simp only [hg9]
    have HX := hide hk0
    have HB0 := hide hkb
    have HFa := hide (And.intro hfa hfe)
    clear hk0 hkb hg9 hb1 hfa hfe hy hxr hxi HOf
    obtain ⟨T0, hT0⟩ : ∃ T, tcell fa fe y br bi = T := ⟨_, rfl⟩
    rw [hT0] at HX
    simp only [hT0]
    have HT0 := hide hT0
    clear hT0
    simp only [Act.put, List.setIfInBounds_toArray, List.set_cons_succ, List.set_cons_zero]
    go_cut [10] (fun s10 wx => P4 W0 fa fe y xr xi s10 wx)
    case first =>
      refine wp_region_any (by kernel_rfl) ?_
      change wpAny _ _ _ _ _ _ _ (World.drew _)
      have HC0 : Hid (Below W0.heap.size W0 W0.drew) := hide (below_drewN (Below.refl _ _) 1)
      generalize W0.drew = W1 at HC0 ⊢
      have s1 : (k : Int) ≤ (c : Int) := by have := HL.out; omega
      have s2 : (k : Int) ≤ (l : Int) := by omega
      have s3 : (l : Int) ≤ (c : Int) := by have := HL.out; omega
      have s4 : (k : Int) ≤ (d : Int) := by have := HL.out; omega
      have s5 : (l : Int) ≤ (d : Int) := by have := HL.out; omega
      refine wpAny_take (i := 0) (v := .slice A n c) rfl (by kernel_rfl) (by kernel_rfl) (by kernel_rfl) (fun _ _ _ h => h) (Or.inl ⟨by rfl, fun W => by go_simp⟩) ?_
      refine wpAny_take (i := 1) (v := .int .i64 (k : Int)) rfl (by kernel_rfl) (by kernel_rfl) (by kernel_rfl) (fun _ _ _ h => h) (Or.inl ⟨by rfl, fun W => by go_simp⟩) ?_
      refine wpAny_take (i := 2) (v := .slice A k c) rfl (by kernel_rfl) (by kernel_rfl) (by kernel_rfl) (fun _ _ _ h => h) (Or.inl ⟨by rfl, fun W => by go_simp⟩) ?_
      refine wpAny_take (i := 3) (v := .slice B m d) rfl (by kernel_rfl) (by kernel_rfl) (by kernel_rfl) (fun _ _ _ h => h) (Or.inl ⟨by rfl, fun W => by go_simp⟩) ?_
      refine wpAny_take (i := 4) (v := .int .i64 (k : Int)) rfl (by kernel_rfl) (by kernel_rfl) (by kernel_rfl) (fun _ _ _ h => h) (Or.inl ⟨by rfl, fun W => by go_simp⟩) ?_
      refine wpAny_take (i := 5) (v := .slice B k d) rfl (by kernel_rfl) (by kernel_rfl) (by kernel_rfl) (fun _ _ _ h => h) (Or.inl ⟨by rfl, fun W => by go_simp⟩) ?_
      refine wpAny_take (i := 7) (v := .slice A n c) rfl (by kernel_rfl) (by kernel_rfl) (by kernel_rfl) (fun _ _ _ h => h) (Or.inl ⟨by rfl, fun W => by go_simp⟩) ?_
      refine wpAny_take (i := 8) (v := .int .i64 (k : Int)) rfl (by kernel_rfl) (by kernel_rfl) (by kernel_rfl) (fun _ _ _ h => h) (Or.inl ⟨by rfl, fun W => by go_simp⟩) ?_
      refine wpAny_take (i := 9) (v := .int .i64 (l : Int)) rfl (by kernel_rfl) (by kernel_rfl) (by kernel_rfl) (fun _ _ _ h => h) (Or.inl ⟨by rfl, fun W => by go_simp⟩) ?_
      refine wpAny_take (i := 10) (v := .slice A2 (l - k) (c - k)) rfl (by kernel_rfl) (by kernel_rfl) (by kernel_rfl) (fun _ _ _ h => h) (Or.inl ⟨by rfl, fun W => by go_simp⟩) ?_
      refine wpAny_take (i := 11) (v := .slice B m d) rfl (by kernel_rfl) (by kernel_rfl) (by kernel_rfl) (fun _ _ _ h => h) (Or.inl ⟨by rfl, fun W => by go_simp⟩) ?_
      refine wpAny_take (i := 12) (v := .int .i64 (k : Int)) rfl (by kernel_rfl) (by kernel_rfl) (by kernel_rfl) (fun _ _ _ h => h) (Or.inl ⟨by rfl, fun W => by go_simp⟩) ?_
      refine wpAny_take (i := 13) (v := .int .i64 (l : Int)) rfl (by kernel_rfl) (by kernel_rfl) (by kernel_rfl) (fun _ _ _ h => h) (Or.inl ⟨by rfl, fun W => by go_simp⟩) ?_
      refine wpAny_take (i := 14) (v := .slice B2 (l - k) (d - k)) rfl (by kernel_rfl) (by kernel_rfl) (by kernel_rfl) (fun _ _ _ h => h) (Or.inl ⟨by rfl, fun W => by go_simp⟩) ?_
      refine wpAny_take (i := 16) (v := .int .i64 (k : Int)) rfl (by kernel_rfl) (by kernel_rfl) (by kernel_rfl) (fun _ _ _ h => h) (Or.inl ⟨by rfl, fun W => by go_simp⟩) ?_
      simp only [List.getElem_toArray, List.getElem_cons_succ, List.getElem_cons_zero, Act.put, List.setIfInBounds_toArray, List.set_cons_zero, List.set_cons_succ]
      clear s1 s2 s3 s4 s5 hA2 hB2
      refine wpAny_ready (rs := [6, 18]) (by kernel_rfl) (by simp) ?_
      refine (AllReady.cons rfl (fun K hK => ?_) (AllReady.cons rfl (fun K hK => ?_) AllReady.nil))
      · skip
        have HK := hide hK
        clear hK
        go_simp
        go_at_call 7
        refine (HO1.out _ (HB0.out.trans (HC0.out.mono HB0.out.size))).mono ?_
        rintro e w2 ⟨⟨b1, c1, h1, h2, rfl⟩, hb⟩
        have HVA := hide (And.intro h1 h2)
        have H2 := hide (HC0.out.trans (hb.mono HC0.out.size))
        clear h1 h2 hb
        refine HK.out _ _ ?_
        clear HK K
        refine wpAny_ready (rs := [15, 18]) (by kernel_rfl) (by simp) ?_
        refine (AllReady.cons rfl (fun K hK => ?_) (AllReady.cons rfl (fun K hK => ?_) AllReady.nil))
        · skip
          have HK := hide hK
          clear hK
          go_simp
          go_at_call 7
          refine (HO2.out _ (HB0.out.trans (H2.out.mono HB0.out.size))).mono ?_
          rintro e w3 ⟨⟨b2, c2, h1, h2, rfl⟩, hb⟩
          have HVB := hide (And.intro h1 h2)
          have H3 := hide (H2.out.trans (hb.mono H2.out.size))
          clear h1 h2 hb
          refine HK.out _ _ ?_
          clear HK K
          refine wpAny_ready (rs := [17, 18]) (by kernel_rfl) (by simp) ?_
          refine (AllReady.cons rfl (fun K hK => ?_) (AllReady.cons rfl (fun K hK => ?_) AllReady.nil))
          · skip
            have HK := hide hK
            clear hK
            go_simp
            go_at_call 15
            refine (HAd.out b1 c1 b2 c2 HVA.out.1 HVA.out.2 HVB.out.1 HVB.out.2 _).mono ?_
            rintro e w4 ⟨hb, r, s, hr, hs, rfl⟩
            have HVD := hide (And.intro hr hs)
            have H4 := hide (H3.out.trans (hb.mono H3.out.size))
            clear hr hs hb
            refine HK.out _ _ ?_
            clear HK K
            refine wpAny_ready (rs := [18]) (by kernel_rfl) (by simp) ?_
            refine (AllReady.cons rfl (fun K hK => ?_) AllReady.nil)
            have HK := hide hK
            clear hK
            go_simp
            have cc : Blk (w4.alloc (.cells (row 58 zero58) 28)) w4.heap.size 28 (row 58 zero58) := Blk.newAt _ _ _ _ rfl
            have hh : Below W0.heap.size W0 (w4.alloc (.cells (row 58 zero58) 28)) := H4.out.alloc H4.out.size _
            have hgs : W0.heap.size ≤ w4.heap.size := H4.out.size
            generalize (w4.alloc (.cells (row 58 zero58) 28)) = w5 at cc hh ⊢
            obtain ⟨gC, hgC⟩ : ∃ g, w4.heap.size = g := ⟨_, rfl⟩
            rw [hgC] at cc hgs
            simp only [hgC]
            have C5 := hide cc
            have H5 := hide hh
            have HGS := hide hgs
            clear cc hh hgC hgs
            refine HK.out _ _ ?_
            clear HK K
            refine wpAny_ready (rs := [19]) (by kernel_rfl) (by simp) ?_
            refine (AllReady.cons rfl (fun K hK => ?_) AllReady.nil)
            have HK := hide hK
            clear hK
            have hst := storeCells_all (P := Try.prog) w5 gC 28 58 zero58 (tcell fa fe y r s) C5.out (fun j _ => tcell_one _ _ _ _ _ j)
            have hsz := row_size 58 (tcell fa fe y r s)
            go_simp
            refine HK.out _ _ ?_
            clear HK K
            refine wpAny_done (by kernel_rfl) ?_ _
            go_wp2_with fail
            go_meet
            exact ⟨gC, r, s, rfl, HVD.out.1, HVD.out.2, C5.out.row_ _, below_setRow H5.out HGS.out _⟩
          · skip
            have HK := hide hK
            clear hK
            go_simp
            have cc : Blk (w3.alloc (.cells (row 58 zero58) 28)) w3.heap.size 28 (row 58 zero58) := Blk.newAt _ _ _ _ rfl
            have hh : Below W0.heap.size W0 (w3.alloc (.cells (row 58 zero58) 28)) := H3.out.alloc H3.out.size _
            have hgs : W0.heap.size ≤ w3.heap.size := H3.out.size
            generalize (w3.alloc (.cells (row 58 zero58) 28)) = w7 at cc hh ⊢
            obtain ⟨gC, hgC⟩ : ∃ g, w3.heap.size = g := ⟨_, rfl⟩
            rw [hgC] at cc hgs
            simp only [hgC]
            have C7 := hide cc
            have H7 := hide hh
            have HGS := hide hgs
            clear cc hh hgC hgs
            refine HK.out _ _ ?_
            clear HK K
            refine wpAny_ready (rs := [17]) (by kernel_rfl) (by simp) ?_
            refine (AllReady.cons rfl (fun K hK => ?_) AllReady.nil)
            have HK := hide hK
            clear hK
            go_simp
            go_at_call 15
            refine (HAd.out b1 c1 b2 c2 HVA.out.1 HVA.out.2 HVB.out.1 HVB.out.2 _).mono ?_
            rintro e w8 ⟨hb, r, s, hr, hs, rfl⟩
            have HVD := hide (And.intro hr hs)
            have H8 := hide (H7.out.trans (hb.mono H7.out.size))
            have C8 := hide (W.later hb C7.out)
            clear hr hs hb
            refine HK.out _ _ ?_
            clear HK K
            refine wpAny_ready (rs := [19]) (by kernel_rfl) (by simp) ?_
            refine (AllReady.cons rfl (fun K hK => ?_) AllReady.nil)
            have HK := hide hK
            clear hK
            have hst := storeCells_all (P := Try.prog) w8 gC 28 58 zero58 (tcell fa fe y r s) C8.out (fun j _ => tcell_one _ _ _ _ _ j)
            have hsz := row_size 58 (tcell fa fe y r s)
            go_simp
            refine HK.out _ _ ?_
            clear HK K
            refine wpAny_done (by kernel_rfl) ?_ _
            go_wp2_with fail
            go_meet
            exact ⟨gC, r, s, rfl, HVD.out.1, HVD.out.2, C8.out.row_ _, below_setRow H8.out HGS.out _⟩
        · skip
          have HK := hide hK
          clear hK
          go_simp
          have cc : Blk (w2.alloc (.cells (row 58 zero58) 28)) w2.heap.size 28 (row 58 zero58) := Blk.newAt _ _ _ _ rfl
          have hh : Below W0.heap.size W0 (w2.alloc (.cells (row 58 zero58) 28)) := H2.out.alloc H2.out.size _
          have hgs : W0.heap.size ≤ w2.heap.size := H2.out.size
          generalize (w2.alloc (.cells (row 58 zero58) 28)) = w10 at cc hh ⊢
          obtain ⟨gC, hgC⟩ : ∃ g, w2.heap.size = g := ⟨_, rfl⟩
          rw [hgC] at cc hgs
          simp only [hgC]
          have C10 := hide cc
          have H10 := hide hh
          have HGS := hide hgs
          clear cc hh hgC hgs
          refine HK.out _ _ ?_
          clear HK K
          refine wpAny_ready (rs := [15]) (by kernel_rfl) (by simp) ?_
          refine (AllReady.cons rfl (fun K hK => ?_) AllReady.nil)
          have HK := hide hK
          clear hK
          go_simp
          go_at_call 7
          refine (HO2.out _ (HB0.out.trans (H10.out.mono HB0.out.size))).mono ?_
          rintro e w11 ⟨⟨b2, c2, h1, h2, rfl⟩, hb⟩
          have HVB := hide (And.intro h1 h2)
          have H11 := hide (H10.out.trans (hb.mono H10.out.size))
          have C11 := hide (W.later hb C10.out)
          clear h1 h2 hb
          refine HK.out _ _ ?_
          clear HK K
          refine wpAny_ready (rs := [17]) (by kernel_rfl) (by simp) ?_
          refine (AllReady.cons rfl (fun K hK => ?_) AllReady.nil)
          have HK := hide hK
          clear hK
          go_simp
          go_at_call 15
          refine (HAd.out b1 c1 b2 c2 HVA.out.1 HVA.out.2 HVB.out.1 HVB.out.2 _).mono ?_
          rintro e w12 ⟨hb, r, s, hr, hs, rfl⟩
          have HVD := hide (And.intro hr hs)
          have H12 := hide (H11.out.trans (hb.mono H11.out.size))
          have C12 := hide (W.later hb C11.out)
          clear hr hs hb
          refine HK.out _ _ ?_
          clear HK K
          refine wpAny_ready (rs := [19]) (by kernel_rfl) (by simp) ?_
          refine (AllReady.cons rfl (fun K hK => ?_) AllReady.nil)
          have HK := hide hK
          clear hK
          have hst := storeCells_all (P := Try.prog) w12 gC 28 58 zero58 (tcell fa fe y r s) C12.out (fun j _ => tcell_one _ _ _ _ _ j)
          have hsz := row_size 58 (tcell fa fe y r s)
          go_simp
          refine HK.out _ _ ?_
          clear HK K
          refine wpAny_done (by kernel_rfl) ?_ _
          go_wp2_with fail
          go_meet
          exact ⟨gC, r, s, rfl, HVD.out.1, HVD.out.2, C12.out.row_ _, below_setRow H12.out HGS.out _⟩
      · skip
        have HK := hide hK
        clear hK
        go_simp
        have cc : Blk (W1.alloc (.cells (row 58 zero58) 28)) W1.heap.size 28 (row 58 zero58) := Blk.newAt _ _ _ _ rfl
        have hh : Below W0.heap.size W0 (W1.alloc (.cells (row 58 zero58) 28)) := HC0.out.alloc HC0.out.size _
        have hgs : W0.heap.size ≤ W1.heap.size := HC0.out.size
        generalize (W1.alloc (.cells (row 58 zero58) 28)) = w14 at cc hh ⊢
        obtain ⟨gC, hgC⟩ : ∃ g, W1.heap.size = g := ⟨_, rfl⟩
        rw [hgC] at cc hgs
        simp only [hgC]
        have C14 := hide cc
        have H14 := hide hh
        have HGS := hide hgs
        clear cc hh hgC hgs
        refine HK.out _ _ ?_
        clear HK K
        refine wpAny_ready (rs := [6]) (by kernel_rfl) (by simp) ?_
        refine (AllReady.cons rfl (fun K hK => ?_) AllReady.nil)
        have HK := hide hK
        clear hK
        go_simp
        go_at_call 7
        refine (HO1.out _ (HB0.out.trans (H14.out.mono HB0.out.size))).mono ?_
        rintro e w15 ⟨⟨b1, c1, h1, h2, rfl⟩, hb⟩
        have HVA := hide (And.intro h1 h2)
        have H15 := hide (H14.out.trans (hb.mono H14.out.size))
        have C15 := hide (W.later hb C14.out)
        clear h1 h2 hb
        refine HK.out _ _ ?_
        clear HK K
        refine wpAny_ready (rs := [15]) (by kernel_rfl) (by simp) ?_
        refine (AllReady.cons rfl (fun K hK => ?_) AllReady.nil)
        have HK := hide hK
        clear hK
        go_simp
        go_at_call 7
        refine (HO2.out _ (HB0.out.trans (H15.out.mono HB0.out.size))).mono ?_
        rintro e w16 ⟨⟨b2, c2, h1, h2, rfl⟩, hb⟩
        have HVB := hide (And.intro h1 h2)
        have H16 := hide (H15.out.trans (hb.mono H15.out.size))
        have C16 := hide (W.later hb C15.out)
        clear h1 h2 hb
        refine HK.out _ _ ?_
        clear HK K
        refine wpAny_ready (rs := [17]) (by kernel_rfl) (by simp) ?_
        refine (AllReady.cons rfl (fun K hK => ?_) AllReady.nil)
        have HK := hide hK
        clear hK
        go_simp
        go_at_call 15
        refine (HAd.out b1 c1 b2 c2 HVA.out.1 HVA.out.2 HVB.out.1 HVB.out.2 _).mono ?_
        rintro e w17 ⟨hb, r, s, hr, hs, rfl⟩
        have HVD := hide (And.intro hr hs)
        have H17 := hide (H16.out.trans (hb.mono H16.out.size))
        have C17 := hide (W.later hb C16.out)
        clear hr hs hb
        refine HK.out _ _ ?_
        clear HK K
        refine wpAny_ready (rs := [19]) (by kernel_rfl) (by simp) ?_
        refine (AllReady.cons rfl (fun K hK => ?_) AllReady.nil)
        have HK := hide hK
        clear hK
        have hst := storeCells_all (P := Try.prog) w17 gC 28 58 zero58 (tcell fa fe y r s) C17.out (fun j _ => tcell_one _ _ _ _ _ j)
        have hsz := row_size 58 (tcell fa fe y r s)
        go_simp
        refine HK.out _ _ ?_
        clear HK K
        refine wpAny_done (by kernel_rfl) ?_ _
        go_wp2_with fail
        go_meet
        exact ⟨gC, r, s, rfl, HVD.out.1, HVD.out.2, C17.out.row_ _, below_setRow H17.out HGS.out _⟩
    case rest =>
      obtain ⟨g10, r, s, rfl, hr, hs, hx2, hb⟩ := hcut
      have hx1 := W.later hb HX.out
      rw [← HT0.out] at hx1
      obtain ⟨fK, hK1⟩ : ∃ f : Nat → Nat, (fun c => cnt (fun i => slotK (K i)) l c) = f := ⟨_, rfl⟩
      obtain ⟨fE, hE1⟩ : ∃ f : Nat → Nat, (fun c => cnt (fun i => slotE (E i)) l c) = f := ⟨_, rfl⟩
      have e4 : fa = nn fK := by rw [← HFa.out.1, ← hK1]; rfl
      have e5 : fe = nn fE := by rw [← HFa.out.2, ← hE1]; rfl
      have u1 : psum fK 24 = l := by rw [← hK1]; exact psum_cnt _ 24 (fun i => slotK_lt _) l
      have u2 : psum fE 32 = l := by rw [← hE1]; exact psum_cnt _ 32 (fun i => slotE_lt _) l
      rw [e4, e5] at hx1 hx2
      have HX1 := hide hx1
      have HX2 := hide hx2
      have HBc := hide (HB0.out.trans (hb.mono HB0.out.size))
      have HMany := hide (fun W4 => many_any fK fE y br bi W4 (by rw [u1]; omega))
      rw [u1] at HMany
      have o1 := V_eq_self HR.out hr
      have o2 := V_eq_self HI.out hs
      have HSm : Hid (∀ W4, Calls Try.prog 19 #[.agg (row 58 (tcell (nn fK) (nn fE) y br bi)), .agg (row 58 (tcell (nn fK) (nn fE) y br bi))] W4 fun e w' => e = .returned (.bool true) ∧ Below W4.heap.size W4 w') := hide (fun W4 => by
        have h := same_any (nn fK) (nn fE) y br bi (nn fK) (nn fE) y br bi W4
        have ht : sameT (nn fK) (nn fE) y br bi (nn fK) (nn fE) y br bi = true := by
          unfold sameT
          rw [eqTo_iff.2 (fun _ _ => rfl), eqTo_iff.2 (fun _ _ => rfl), sameB_iff.2 (Go.Proofs.Ytmkhicaaemghiaa.Fl.E.refl br), sameB_iff.2 (Go.Proofs.Ytmkhicaaemghiaa.Fl.E.refl bi)]
          simp
        rw [ht] at h
        exact h)
      have q1 : ∀ w, (binOp .eql 24 (.agg (row 24 (ints .i64 (nn fK)))) (.agg (row 24 (ints .i64 (nn fK))))).run Try.prog w = .ok (.bool true) w := fun w => by
        have h := run_eql_ints (P := Try.prog) (n := 24) (nn fK) (nn fK) Try.underlying24 Try.underlying3 infoI w
        rw [eqTo_iff.2 (fun _ _ => rfl)] at h
        exact h
      have q2 : ∀ w, (binOp .eql 25 (.agg (row 32 (ints .i64 (nn fE)))) (.agg (row 32 (ints .i64 (nn fE))))).run Try.prog w = .ok (.bool true) w := fun w => by
        have h := run_eql_ints (P := Try.prog) (n := 32) (nn fE) (nn fE) Try.underlying25 Try.underlying3 infoI w
        rw [eqTo_iff.2 (fun _ _ => rfl)] at h
        exact h
      clear hx1 hx2 hb hr hs e4 e5 hK1 hE1 HFa HX HT0 HB0 HO1 HO2 HAd HR HI hA2 hB2 u1
      go_wp2_with fail
      go_loopg [11, 12] 32 (fun k s11 s12 wr => SumE wc fE k s11 s12 wr)
      case atStart => exact ⟨0, rfl, rfl, rfl, rfl⟩
      case round =>
        obtain ⟨i, rfl, rfl, hk, rfl⟩ := hrel
        by_cases hi : i < 32
        · have hlt : (i : Int) < 32 := by omega
          have ce := HX1.out.at (i := 24 + i) (by omega)
          rw [tcell_err _ _ _ _ _ hi] at ce
          have hm := psum_mono fE (i + 1) 32 (by omega)
          have hp : psum fE (i + 1) = psum fE i + fE i := rfl
          have hv : nn fE i = (fE i : Int) := rfl
          rw [hv] at ce
          obtain ⟨p, hp1⟩ : ∃ p, psum fE i = p := ⟨_, rfl⟩
          obtain ⟨q, hq1⟩ : ∃ q, fE i = q := ⟨_, rfl⟩
          rw [hq1] at ce
          rw [hp1, hq1] at hp
          have ew : IntKind.i64.wrap ((p : Int) + (q : Int)) = ((p + q : Nat) : Int) := by rw [show (p : Int) + (q : Int) = ((p + q : Nat) : Int) by omega]; exact IntWalk.i64_in _ (by omega)
          have gl9 := HX1.out.lt
          simp only [hp1]
          have HP := hide hp
          have HK := hide hk
          clear hv hm hp hp1 hq1 hk
          go_wp2_with fail
          have hk := HK.out
          go_roundg (gk - 1)
          case measure => omega
          case rel => exact ⟨i + 1, by go_num, by rw [HP.out]; first | rfl | exact congrArg (Value.int .i64) (by omega), by omega, rfl⟩
        · obtain rfl : i = 32 := by omega
          have gl9 := HX1.out.lt
          have gl10 := HX2.out.lt
          simp only [u2]
          clear hi hk u2
          go_wp2_with (first
            | (go_at_call 11; (with_reducible refine (awake_any _).mono ?_); rintro e w4 ⟨rfl, hb4⟩; (have hbk1 := W.later hb4 HX1.out); (have hbk2 := W.later hb4 HX2.out); (have c56 := hbk1.at (i := 56) (by omega)); (have c57 := hbk1.at (i := 57) (by omega)); (have d56 := hbk2.at (i := 56) (by omega)); (have d57 := hbk2.at (i := 57) (by omega)); rw [tcell_bytes] at c56 d56; rw [tcell_beat] at c57 d57; (have HK1 := hide hbk1); (have HK2 := hide hbk2); (have HB4 := hide (HBc.out.trans (hb4.mono HBc.out.size))); clear hbk1 hbk2 hb4)
            | (refine wpList_load_partM (by rfl) 24 (.tmp 56) rfl g9 0 rfl 28 58 24 _ _ _ HK1.out (part24 _ _ _ _ _) rfl Try.underlying24 info24 (by omega) ?_)
            | (refine wpList_load_partM (by rfl) 24 (.tmp 58) rfl g10 0 rfl 28 58 24 _ _ _ HK2.out (part24 _ _ _ _ _) rfl Try.underlying24 info24 (by omega) ?_)
            | (refine wpList_load_partM (by rfl) 25 (.tmp 63) rfl g9 24 rfl 28 58 32 _ _ _ HK1.out (part32 _ _ _ _ _) rfl Try.underlying25 info32 (by omega) ?_)
            | (refine wpList_load_partM (by rfl) 25 (.tmp 65) rfl g10 24 rfl 28 58 32 _ _ _ HK2.out (part32 _ _ _ _ _) rfl Try.underlying25 info32 (by omega) ?_)
            | (refine wpList_load_met 28 (.tmp 9) rfl (by rfl) g9 rfl 28 _ _ HK1.out rfl Try.underlying28 (by rw [row_size]; kernel_rfl) ?_)
            | (go_at_call 12; (with_reducible refine (HMany.out _).mono ?_); rintro e w5 ⟨rfl, hb5⟩; have HK5 := hide (W.later hb5 HK1.out); have HB5 := hide (HB4.out.trans (hb5.mono HB4.out.size)); clear hb5)
            | (refine wpList_load_met 28 (.tmp 9) rfl (by rfl) g9 rfl 28 _ _ HK5.out rfl Try.underlying28 (by rw [row_size]; kernel_rfl) ?_)
            | (go_at_call 19; (with_reducible refine (HSm.out _).mono ?_); rintro e w6 ⟨rfl, hb6⟩))
          go_ret
          exact ⟨rfl, HB5.out.trans (hb6.mono HB5.out.size)⟩
end Go.Proofs.Ytmkhicaaemghiaa.Ta
