/- Contracts of tally.Add and tally.Same. -/
import Derived.Test.YtmkhicaaemghiaaTallyLaws
import Derived.Test.YtmkhicaaemghiaaPhSame
import Derived.Test.YtmkhicaaemghiaaRowEq
namespace Go.Proofs.Ytmkhicaaemghiaa.Ta
open Go.RowKit Go.Proofs.Ytmkhicaaemghiaa.W Go.Proofs.Ytmkhicaaemghiaa.Fl
set_option linter.unusedVariables false
set_option linter.unusedSimpArgs false

theorem run_cadd (P : Program) (w : World) (t : TypeId) (a b c e : Nat) : (binOp .add t (.complex .f64 a b) (.complex .f64 c e)).run P w =
    .ok (.complex .f64 (fpick w (Fl.d.add a c) a c) (fpick (w.drewN (fdraws (Fl.d.add a c))) (Fl.d.add b e) b e)) ((w.drewN (fdraws (Fl.d.add a c))).drewN (fdraws (Fl.d.add b e))) := by
  have h1 : ∀ (w : World) (x y : Nat), (Op.Complex.arith .add .f64 x y).run P w = .ok (fpick w (Fl.d.add x y) x y) (w.drewN (fdraws (Fl.d.add x y))) := fun w x y => by
    have h := run_fadd P w t x y
    simp [binOp] at h
    simp [Op.Complex.arith, h]
  simp [binOp, Op.complexOp, h1]
def mixA (a b : Nat → Int) (i : Nat) : Nat → Int := fun c => if c < i then wrap64 (a c + b c) else a c
theorem mixA_succ (a b : Nat → Int) (i : Nat) : upd (mixA a b i) i (wrap64 (a i + b i)) = mixA a b (i + 1) := by
  funext j
  simp only [upd, mixA]
  by_cases h : j = i
  · subst h; rw [if_pos rfl, if_pos (by omega)]
  · rw [if_neg h]
    by_cases h2 : j < i
    · rw [if_pos h2, if_pos (by omega)]
    · rw [if_neg h2, if_neg (by omega)]
theorem mixA_at (a b : Nat → Int) (i : Nat) : mixA a b i i = a i := by simp [mixA]
def sumA (a b : Nat → Int) : Nat → Int := fun c => wrap64 (a c + b c)
theorem info24 : (Try.prog.info? 24).map (·.size) = some 24 := by kernel_rfl
theorem info32 : (Try.prog.info? 25).map (·.size) = some 32 := by kernel_rfl
theorem info58 : (Try.prog.info? 28).map (·.size) = some 58 := by kernel_rfl
theorem infoI : (Try.prog.info? 3).map (·.size) = some 1 := by kernel_rfl
theorem index24 (f : Nat → Int) (i : Nat) (hi : i < 24) (w : World) : (Instr.index 24 (.agg (row 24 (ints .i64 f))) (.int .i64 (i : Int))).run Try.prog w = .ok (.int .i64 (f i)) w :=
  run_index_row 24 3 24 _ i hi _ Try.underlying24 rfl Try.underlying3 infoI w
theorem index32 (f : Nat → Int) (i : Nat) (hi : i < 32) (w : World) : (Instr.index 25 (.agg (row 32 (ints .i64 f))) (.int .i64 (i : Int))).run Try.prog w = .ok (.int .i64 (f i)) w :=
  run_index_row 25 3 32 _ i hi _ Try.underlying25 rfl Try.underlying3 infoI w
theorem part24 (xs es : Nat → Int) (by_ : Int) (br bi : Nat) : ∀ i, i < 24 → tcell xs es by_ br bi (0 + i) = ints .i64 xs i := fun i hi => by rw [Nat.zero_add, tcell_act _ _ _ _ _ hi]; rfl
theorem part32 (xs es : Nat → Int) (by_ : Int) (br bi : Nat) : ∀ i, i < 32 → tcell xs es by_ br bi (24 + i) = ints .i64 es i := fun i hi => by rw [tcell_err _ _ _ _ _ hi]; rfl

structure AddAt (w : World) (xs es : Nat → Int) (by_ : Int) (br bi : Nat) (xs' es' : Nat → Int) (by' : Int) (br' bi' : Nat) (wr : World) : Prop where
  a : Blk wr w.heap.size 28 (row 58 (tcell xs es by_ br bi))
  b : Blk wr (w.heap.size + 1) 28 (row 58 (tcell xs' es' by' br' bi'))
  z : Blk wr (w.heap.size + 2) 28 (row 58 zero58)
  below : Below w.heap.size w wr
theorem AddAt.act {w wr : World} {xs es xs' es' : Nat → Int} {by_ by' : Int} {br bi br' bi' : Nat} (h : AddAt w xs es by_ br bi xs' es' by' br' bi' wr) {i : Nat} (hi : i < 24) (x : Int) :
    AddAt w (upd xs i x) es by_ br bi xs' es' by' br' bi' (wr.setCell ⟨w.heap.size, i, none⟩ (.int .i64 x)) := by
  have h1 := h.a.upd i (.int .i64 x)
  rw [upd_act _ _ _ _ _ hi] at h1
  exact ⟨h1, h.b.far (by simp) _, h.z.far (by simp) _, h.below.setCell (by simp) _⟩
theorem AddAt.err {w wr : World} {xs es xs' es' : Nat → Int} {by_ by' : Int} {br bi br' bi' : Nat} (h : AddAt w xs es by_ br bi xs' es' by' br' bi' wr) {i : Nat} (hi : i < 32) (x : Int) :
    AddAt w xs (upd es i x) by_ br bi xs' es' by' br' bi' (wr.setCell ⟨w.heap.size, 24 + i, none⟩ (.int .i64 x)) := by
  have h1 := h.a.upd (24 + i) (.int .i64 x)
  rw [upd_err _ _ _ _ _ hi] at h1
  exact ⟨h1, h.b.far (by simp) _, h.z.far (by simp) _, h.below.setCell (by simp) _⟩
theorem AddAt.bytes {w wr : World} {xs es xs' es' : Nat → Int} {by_ by' : Int} {br bi br' bi' : Nat} (h : AddAt w xs es by_ br bi xs' es' by' br' bi' wr) (x : Int) :
    AddAt w xs es x br bi xs' es' by' br' bi' (wr.setCell ⟨w.heap.size, 56, none⟩ (.int .i64 x)) := by
  have h1 := h.a.upd 56 (.int .i64 x)
  rw [upd_bytes] at h1
  exact ⟨h1, h.b.far (by simp) _, h.z.far (by simp) _, h.below.setCell (by simp) _⟩
theorem AddAt.beat {w wr : World} {xs es xs' es' : Nat → Int} {by_ by' : Int} {br bi br' bi' : Nat} (h : AddAt w xs es by_ br bi xs' es' by' br' bi' wr) (r s : Nat) :
    AddAt w xs es by_ r s xs' es' by' br' bi' (wr.setCell ⟨w.heap.size, 57, none⟩ (.complex .f64 r s)) := by
  have h1 := h.a.upd 57 (.complex .f64 r s)
  rw [row_congr (fun c hc => upd_beat _ _ _ _ _ r s hc)] at h1
  exact ⟨h1, h.b.far (by simp) _, h.z.far (by simp) _, h.below.setCell (by simp) _⟩
theorem AddAt.drewN {w wr : World} {xs es xs' es' : Nat → Int} {by_ by' : Int} {br bi br' bi' : Nat} (h : AddAt w xs es by_ br bi xs' es' by' br' bi' wr) (k : Nat) : AddAt w xs es by_ br bi xs' es' by' br' bi' (wr.drewN k) :=
  ⟨h.a, h.b, h.z, below_drewN h.below k⟩
def Add1 (w : World) (xs es : Nat → Int) (by_ : Int) (br bi : Nat) (xs' es' : Nat → Int) (by' : Int) (br' bi' : Nat) (k : Nat) (s13 : Value) (wr : World) : Prop :=
  ∃ i : Nat, s13 = .int .i64 (i : Int) ∧ i + k = 24 ∧ AddAt w (mixA xs xs' i) es by_ br bi xs' es' by' br' bi' wr
def Add2 (w : World) (xs es : Nat → Int) (by_ : Int) (br bi : Nat) (xs' es' : Nat → Int) (by' : Int) (br' bi' : Nat) (k : Nat) (s28 : Value) (wr : World) : Prop :=
  ∃ i : Nat, s28 = .int .i64 (i : Int) ∧ i + k = 32 ∧ AddAt w (mixA xs xs' 24) (mixA es es' i) by_ br bi xs' es' by' br' bi' wr
/-- What a sum of two tallies is. -/
def AddE (xs es : Nat → Int) (by_ : Int) (br bi : Nat) (xs' es' : Nat → Int) (by' : Int) (t : Nat × Nat) (w : World) (e : Ending) (w' : World) : Prop :=
  Below w.heap.size w w' ∧ ∃ r s, Res (Fl.d.add br t.1) r ∧ Res (Fl.d.add bi t.2) s ∧ e = .returned (.agg (row 58 (tcell (sumA xs xs') (sumA es es') (wrap64 (by_ + by')) r s)))
theorem sum58 (xs es xs' es' : Nat → Int) (y : Int) (r s : Nat) : row 58 (tcell (mixA xs xs' 24) (mixA es es' 32) y r s) = row 58 (tcell (sumA xs xs') (sumA es es') y r s) := by
  apply row_congr
  intro c hc
  unfold tcell
  by_cases h1 : c < 24
  · rw [if_pos h1, if_pos h1]; simp [mixA, sumA, h1]
  · rw [if_neg h1, if_neg h1]
    by_cases h2 : c < 56
    · rw [if_pos h2, if_pos h2]; simp [mixA, sumA, show c - 24 < 32 by omega]
    · rw [if_neg h2, if_neg h2]
set_option maxRecDepth 100000 in
set_option maxHeartbeats 4000000 in
theorem add_any (xs es : Nat → Int) (by_ : Int) (br bi : Nat) (xs' es' : Nat → Int) (by' : Int) (br' bi' : Nat) (n : Int) (w : World) :
    Calls Try.prog 15 #[.agg (row 58 (tcell xs es by_ br bi)), .agg (row 58 (tcell xs' es' by' br' bi')), .int .i64 n] w
      (AddE xs es by_ br bi xs' es' by' (Ph.rot (n % 4).toNat br' bi') w) := by
  have hz := zero_tally
  have HT := hide (fun W => Ph.turn_any br' bi' n W)
  obtain ⟨t1, ht1⟩ : ∃ t, (Ph.rot (n % 4).toNat br' bi').1 = t := ⟨_, rfl⟩
  obtain ⟨t2, ht2⟩ : ∃ t, (Ph.rot (n % 4).toNat br' bi').2 = t := ⟨_, rfl⟩
  have het : Ph.rot (n % 4).toNat br' bi' = (t1, t2) := by rw [← ht1, ← ht2]
  rw [ht1, ht2] at HT
  rw [het]
  clear ht1 ht2 het
  go_enter Try.func15, Try.ntmps15
  go_upto_region 1 with fail
  have HS0 : Hid (AddAt w xs es by_ br bi xs' es' by' br' bi' (((w.alloc (.cells (row 58 (tcell xs es by_ br bi)) 28)).alloc (.cells (row 58 (tcell xs' es' by' br' bi')) 28)).alloc (.cells (row 58 zero58) 28))) := hide
    ⟨((Blk.newAt w _ _ _ rfl).alloc _).alloc _, (Blk.newAt (w.alloc _) _ _ _ (by simp)).alloc _, Blk.newAt ((w.alloc _).alloc _) _ _ _ (by simp), (((Below.refl _ _).alloc (Nat.le_refl _) _).alloc (by simp) _).alloc (by simp; omega) _⟩
  generalize (((w.alloc (.cells (row 58 (tcell xs es by_ br bi)) 28)).alloc (.cells (row 58 (tcell xs' es' by' br' bi')) 28)).alloc (.cells (row 58 zero58) 28)) = W at HS0 ⊢
  go_wp2_with (first
    | (with_reducible refine wpList_load_part rfl 24 (.tmp 11) rfl (w.heap.size + 1) 0 rfl 28 58 24 _ _ _ HS0.out.b (part24 _ _ _ _ _) rfl Try.underlying24 info24 (by omega) ?_))
  go_loopg [13] 24 (fun k s13 wr => Add1 w xs es by_ br bi xs' es' by' br' bi' k s13 wr)
  case atStart => exact ⟨0, rfl, rfl, HS0.out⟩
  case round =>
    clear HS0
    obtain ⟨i, rfl, hk, hs⟩ := hrel
    have HS := hide hs
    clear hs
    by_cases hi : i < 24
    · have hi' : (i : Int) < 24 := by omega
      have hgk : 0 < gk := by omega
      have hix := fun w => index24 xs' i hi w
      have ca := HS.out.a.at (i := i) (by omega)
      have fa := HS.out.a.frozen i
      rw [tcell_act _ _ _ _ _ hi, mixA_at] at ca
      obtain ⟨x, hx⟩ : ∃ x, xs i = x := ⟨_, rfl⟩
      obtain ⟨y, hy⟩ : ∃ x, xs' i = x := ⟨_, rfl⟩
      have HM := hide (mixA_succ xs xs' i)
      rw [hx, hy] at HM
      rw [hx] at ca
      rw [hy] at hix
      clear hx hy
      go_wp2_with fail
      go_roundg (gk - 1)
      case measure => omega
      case rel =>
        have h1 := HS.out.act hi (wrap64 (x + y))
        rw [HM.out] at h1
        exact ⟨i + 1, by go_num, by omega, h1⟩
    · have hi' : decide (i < 24) = false := by simp; omega
      have hi'' : decide ((i : Int) < 24) = false := by simp; omega
      obtain rfl : i = 24 := by omega
      clear hi
      go_wp2_with (first
        | (with_reducible refine wpList_load_part rfl 25 (.tmp 26) rfl (w.heap.size + 1) 24 rfl 28 58 32 _ _ _ HS.out.b (part32 _ _ _ _ _) rfl Try.underlying25 info32 (by omega) ?_))
      go_loopg [28] 32 (fun k s28 wr => Add2 w xs es by_ br bi xs' es' by' br' bi' k s28 wr)
      case atStart => exact ⟨0, rfl, rfl, HS.out⟩
      case round =>
        clear HS hi' hi''
        obtain ⟨i, rfl, hk, hs⟩ := hrel
        have HS := hide hs
        clear hs
        by_cases hi : i < 32
        · have hi' : (i : Int) < 32 := by omega
          have hgk : 0 < gk := by omega
          have hix := fun w => index32 es' i hi w
          have ca := HS.out.a.at (i := 24 + i) (by omega)
          have fa := HS.out.a.frozen (24 + i)
          rw [tcell_err _ _ _ _ _ hi, mixA_at] at ca
          obtain ⟨x, hx⟩ : ∃ x, es i = x := ⟨_, rfl⟩
          obtain ⟨y, hy⟩ : ∃ x, es' i = x := ⟨_, rfl⟩
          have HM := hide (mixA_succ es es' i)
          rw [hx, hy] at HM
          rw [hx] at ca
          rw [hy] at hix
          clear hx hy
          go_wp2_with fail
          go_roundg (gk - 1)
          case measure => omega
          case rel =>
            have h1 := HS.out.err hi (wrap64 (x + y))
            rw [HM.out] at h1
            exact ⟨i + 1, by go_num, by omega, h1⟩
        · have hi' : decide (i < 32) = false := by simp; omega
          have hi'' : decide ((i : Int) < 32) = false := by simp; omega
          obtain rfl : i = 32 := by omega
          clear hi
          have c56 := HS.out.a.at (i := 56) (by omega)
          have f56 := HS.out.a.frozen 56
          have d56 := HS.out.b.at (i := 56) (by omega)
          rw [tcell_bytes] at c56 d56
          go_upto_region 12 with fail
          have HS1 := hide (HS.out.bytes (wrap64 (by_ + by')))
          generalize (wr.setCell ⟨w.heap.size, 56, none⟩ (.int .i64 (wrap64 (by_ + by')))) = W1 at HS1 ⊢
          have c57 := HS1.out.a.at (i := 57) (by omega)
          have f57 := HS1.out.a.frozen 57
          have d57 := HS1.out.b.at (i := 57) (by omega)
          rw [tcell_beat] at c57 d57
          clear c56 f56 d56
          refine wp_region_still_tail 6 (by kernel_rfl) (by kernel_rfl) ?_
          simp only [List.take_succ_cons, List.take_zero, List.drop_succ_cons, List.drop_zero]
          repeat (first
            | (refine wpStill_step (fun K hK => ?_); go_simp; refine hK _ ?_; clear hK K)
            | (refine wpStill_step (fun K hK => ?_); go_simp; with_reducible refine ⟨_, flipped (HT.out _), hK _ ?_⟩; clear hK K))
          refine wpStill_nil ?_
          change wpList _ _ _ _ _ W1.drew
          have hadd := fun t w a b c e => run_cadd Try.prog w t a b c e
          go_upto_region 13 with fail
          have hr := fpick_res W1.drew (Fl.d.add br t1) br t1
          have hs := fpick_res (W1.drewN (1 + fdraws (Fl.d.add br t1))) (Fl.d.add bi t2) bi t2
          generalize fpick W1.drew (Fl.d.add br t1) br t1 = R at hr ⊢
          generalize fpick (W1.drewN (1 + fdraws (Fl.d.add br t1))) (Fl.d.add bi t2) bi t2 = S at hs ⊢
          generalize 1 + fdraws (Fl.d.add br t1) + fdraws (Fl.d.add bi t2) = K
          have HS2 := hide ((HS1.out.beat R S).drewN K)
          generalize (W1.setCell ⟨w.heap.size, 57, none⟩ (.complex .f64 R S)).drewN K = W2 at HS2 ⊢
          have HR := hide hr
          have HSs := hide hs
          clear hr hs c57 f57 d57 hadd
          go_wp2_with (first
            | (with_reducible refine wpList_load_all rfl 28 (.tmp 3) rfl w.heap.size rfl 28 58 _ _ HS2.out.a rfl Try.underlying28 info58 ?_)
            | (with_reducible refine wpList_store_all rfl 28 (.tmp 6) (.tmp 55) rfl (w.heap.size + 2) rfl 28 58 _ _ rfl HS2.out.z info58 (fun j _ => tcell_one _ _ _ _ _ j) ?_))
          refine bodyPost_ret (results_cell_sub rfl _ _ (w.heap.size + 2) 28 58 _ _ rfl (HS2.out.z.row_ _) rfl Try.underlying28 info58) rfl ⟨below_setRow HS2.out.below (by omega) _, R, S, HR.out, HSs.out, ?_⟩
          rw [sum58]
/-- Are two tallies the same? -/
def sameT (xs es : Nat → Int) (by_ : Int) (br bi : Nat) (xs' es' : Nat → Int) (by' : Int) (br' bi' : Nat) : Bool := eqTo xs xs' 24 && (eqTo es es' 32 && ((by_ == by') && (sameB br br' && sameB bi bi')))
set_option maxRecDepth 100000 in
set_option maxHeartbeats 4000000 in
theorem same_any (xs es : Nat → Int) (by_ : Int) (br bi : Nat) (xs' es' : Nat → Int) (by' : Int) (br' bi' : Nat) (w : World) :
    Calls Try.prog 19 #[.agg (row 58 (tcell xs es by_ br bi)), .agg (row 58 (tcell xs' es' by' br' bi'))] w
      fun e w' => e = .returned (.bool (sameT xs es by_ br bi xs' es' by' br' bi')) ∧ Below w.heap.size w w' := by
  have hp := fun W => Ph.pSame_any br bi br' bi' W
  have q1 := fun w => run_eql_ints (P := Try.prog) (n := 24) xs xs' Try.underlying24 Try.underlying3 infoI w
  have q2 := fun w => run_eql_ints (P := Try.prog) (n := 32) es es' Try.underlying25 Try.underlying3 infoI w
  have HF : Hid (∀ a b c d, eqTo xs xs' 24 = a → eqTo es es' 32 = b → (by_ == by') = c → (sameB br br' && sameB bi bi') = d → ∀ r, r = (a && (b && (c && d))) → r = sameT xs es by_ br bi xs' es' by' br' bi') := hide (by
    rintro a b c d rfl rfl rfl rfl r rfl
    rfl)
  obtain ⟨a, ha⟩ : ∃ a, eqTo xs xs' 24 = a := ⟨_, rfl⟩
  obtain ⟨b, hb⟩ : ∃ a, eqTo es es' 32 = a := ⟨_, rfl⟩
  obtain ⟨c, hc⟩ : ∃ a, (by_ == by') = a := ⟨_, rfl⟩
  obtain ⟨d, hd⟩ : ∃ a, (sameB br br' && sameB bi bi') = a := ⟨_, rfl⟩
  have HE := hide (HF.out a b c d ha hb hc hd)
  rw [ha] at q1
  rw [hb] at q2
  rw [hd] at hp
  have HP := hide hp
  clear ha hb hd hp HF
  go_enter Try.func19, Try.ntmps19
  go_upto_region 1 with fail
  have HA := hide ((Blk.newAt w 28 (row 58 (tcell xs es by_ br bi)) _ rfl).alloc (.cells (row 58 (tcell xs' es' by' br' bi')) 28))
  have HB := hide (Blk.newAt (w.alloc (.cells (row 58 (tcell xs es by_ br bi)) 28)) 28 (row 58 (tcell xs' es' by' br' bi')) (w.heap.size + 1) (by simp))
  have HBl := hide (((Below.refl w.heap.size w).alloc (Nat.le_refl _) (.cells (row 58 (tcell xs es by_ br bi)) 28)).alloc (by simp) (.cells (row 58 (tcell xs' es' by' br' bi')) 28))
  generalize ((w.alloc (.cells (row 58 (tcell xs es by_ br bi)) 28)).alloc (.cells (row 58 (tcell xs' es' by' br' bi')) 28)) = W at HA HB HBl ⊢
  have c56 := HA.out.at (i := 56) (by omega)
  have d56 := HB.out.at (i := 56) (by omega)
  have c57 := HA.out.at (i := 57) (by omega)
  have d57 := HB.out.at (i := 57) (by omega)
  rw [tcell_bytes] at c56 d56
  rw [tcell_beat] at c57 d57
  cases a
  · go_wp2_with (first
      | (with_reducible refine wpList_load_part rfl 24 (.tmp 5) rfl w.heap.size 0 rfl 28 58 24 _ _ _ HA.out (part24 _ _ _ _ _) rfl Try.underlying24 info24 (by omega) ?_)
      | (with_reducible refine wpList_load_part rfl 24 (.tmp 7) rfl (w.heap.size + 1) 0 rfl 28 58 24 _ _ _ HB.out (part24 _ _ _ _ _) rfl Try.underlying24 info24 (by omega) ?_))
    go_ret
    exact ⟨ret_bool (HE.out _ (by simp)), HBl.out⟩
  · cases b
    all_goals cases c
    all_goals
      go_wp2_with (first
        | (with_reducible refine wpList_load_part rfl 24 (.tmp 5) rfl w.heap.size 0 rfl 28 58 24 _ _ _ HA.out (part24 _ _ _ _ _) rfl Try.underlying24 info24 (by omega) ?_)
        | (with_reducible refine wpList_load_part rfl 24 (.tmp 7) rfl (w.heap.size + 1) 0 rfl 28 58 24 _ _ _ HB.out (part24 _ _ _ _ _) rfl Try.underlying24 info24 (by omega) ?_)
        | (refine wpList_load_partM (by rfl) 25 (.tmp 11) rfl w.heap.size 24 rfl 28 58 32 _ _ _ HA.out (part32 _ _ _ _ _) rfl Try.underlying25 info32 (by omega) ?_)
        | (refine wpList_load_partM (by rfl) 25 (.tmp 13) rfl (w.heap.size + 1) 24 rfl 28 58 32 _ _ _ HB.out (part32 _ _ _ _ _) rfl Try.underlying25 info32 (by omega) ?_)
        | (go_at_call 25; (with_reducible refine (HP.out _).mono ?_); rintro e w' ⟨rfl, rfl⟩))
      go_ret
      exact ⟨ret_bool (HE.out _ (by simp)), HBl.out⟩
end Go.Proofs.Ytmkhicaaemghiaa.Ta
