/- Contracts of aes's Encrypt and Decrypt. -/
import Derived.Test.YtikhaocpohfcnaaAesSteps
import Derived.Test.YtikhaocpohfcnaaStr
namespace Go.Proofs.Ytikhaocpohfcnaa.Ae
open Go.RowKit Go.Proofs.Ytikhaocpohfcnaa.W Go.Proofs.Ytikhaocpohfcnaa.Gf
set_option linter.unusedVariables false
set_option linter.unusedSimpArgs false

theorem info8 : (Try.prog.info? 5).map (·.size) = some 1 := by kernel_rfl
theorem over16 (s : ByteArray) (f : Nat → Value) : row 16 (over f 0 16 (u8s (sbyte s))) = row 16 (u8s (sbyte s)) := row_congr (fun i hi => by simp [over, hi])
theorem begin_nil (s : ByteArray) (w : World) : Calls Try.prog 39 #[.pointer none, .string s] w fun e w' => e = .returned (.tuple #[.agg (row 16 (u8s zs)), .int .i64 1]) ∧ Below w.heap.size w w' := by
  have hz : ∀ w, (zeroValue 71).run Try.prog w = .ok (.agg (row 16 (u8s zs))) w := zero16
  go_enter Try.func39, Try.ntmps39
  go_wp2_with (first
    | (with_reducible refine wpList_load_all rfl 71 (.tmp 6) rfl (w.heap.size + 1) rfl 71 16 _ _ (Blk.newAt (w.alloc _) _ _ _ (by simp)) rfl Try.underlying71 info16 ?_)
    | (with_reducible refine wpList_store_all rfl 71 (.tmp 4) (.tmp 10) rfl w.heap.size rfl 71 16 _ _ rfl ((Blk.newAt w _ _ _ rfl).alloc _) info16 (fun j _ => u8_one _ j) ?_))
  exact bodyPost_ret (results_sub_tmp rfl _ _ w.heap.size 71 16 _ _ _ rfl rfl (((Blk.newAt w _ _ _ rfl).alloc _).row_ _) rfl Try.underlying71 info16) rfl ⟨rfl, below_setRow (((Below.refl w.heap.size w).alloc (Nat.le_refl _) _).alloc (by simp) _) (Nat.le_refl _) _⟩
theorem begin_form (g : Nat) (s : ByteArray) (hs : s.size ≠ 16) (w : World) : Calls Try.prog 39 #[.pointer (some ⟨g, 0, none⟩), .string s] w fun e w' => e = .returned (.tuple #[.agg (row 16 (u8s zs)), .int .i64 6]) ∧ Below w.heap.size w w' := by
  have hz : ∀ w, (zeroValue 71).run Try.prog w = .ok (.agg (row 16 (u8s zs))) w := zero16
  have t1 : ((s.size : Int) != 16) = true := by simp; omega
  have t2 : (s.size != 16) = true := by simp; omega
  clear hs
  go_enter Try.func39, Try.ntmps39
  go_upto_region 2 with fail
  have HR := hide ((Blk.newAt w 71 (row 16 (u8s zs)) _ rfl).alloc (.cells (row 16 (u8s zs)) 71))
  have HO := hide (Blk.newAt (w.alloc (.cells (row 16 (u8s zs)) 71)) 71 (row 16 (u8s zs)) (w.heap.size + 1) (by simp))
  have HBl := hide (((Below.refl w.heap.size w).alloc (Nat.le_refl _) (.cells (row 16 (u8s zs)) 71)).alloc (by simp) (.cells (row 16 (u8s zs)) 71))
  generalize (w.alloc (.cells (row 16 (u8s zs)) 71)).alloc (.cells (row 16 (u8s zs)) 71) = W at HR HO HBl ⊢
  go_wp2_with (first
    | (with_reducible refine wpList_load_all rfl 71 (.tmp 6) rfl (w.heap.size + 1) rfl 71 16 _ _ HO.out rfl Try.underlying71 info16 ?_)
    | (with_reducible refine wpList_store_all rfl 71 (.tmp 4) (.tmp 15) rfl w.heap.size rfl 71 16 _ _ rfl HR.out info16 (fun j _ => u8_one _ j) ?_))
  exact bodyPost_ret (results_sub_tmp rfl _ _ w.heap.size 71 16 _ _ _ rfl rfl (HR.out.row_ _) rfl Try.underlying71 info16) rfl ⟨rfl, below_setRow HBl.out (Nat.le_refl _) _⟩
set_option maxRecDepth 100000 in
theorem begin_ok (g : Nat) (s : ByteArray) (hs : s.size = 16) (w : World) : Calls Try.prog 39 #[.pointer (some ⟨g, 0, none⟩), .string s] w fun e w' => e = .returned (.tuple #[.agg (row 16 (u8s (sbyte s))), .int .i64 0]) ∧ Below w.heap.size w w' := by
  have hz : ∀ w, (zeroValue 71).run Try.prog w = .ok (.agg (row 16 (u8s zs))) w := zero16
  have t1 : ((s.size : Int) != 16) = false := by simp; omega
  have t2 : (s.size != 16) = false := by simp; omega
  have HM : Hid (16 = Nat.min s.size 16) := hide (by rw [hs]; rfl)
  clear hs
  go_enter Try.func39, Try.ntmps39
  go_upto_region 2 with fail
  have HR := hide ((Blk.newAt w 71 (row 16 (u8s zs)) _ rfl).alloc (.cells (row 16 (u8s zs)) 71))
  have HO := hide (Blk.newAt (w.alloc (.cells (row 16 (u8s zs)) 71)) 71 (row 16 (u8s zs)) (w.heap.size + 1) (by simp))
  have HBl := hide (((Below.refl w.heap.size w).alloc (Nat.le_refl _) (.cells (row 16 (u8s zs)) 71)).alloc (by simp) (.cells (row 16 (u8s zs)) 71))
  generalize (w.alloc (.cells (row 16 (u8s zs)) 71)).alloc (.cells (row 16 (u8s zs)) 71) = W at HR HO HBl ⊢
  go_upto_region 7 with (first
    | (with_reducible refine wpList_copy_str rfl (.tmp 16) (.tmp 17) 56 9 rfl 5 Try.underlying56 info8 0 16 16 16 16 _ s rfl rfl HO.out HM.out (by omega) ?_))
  generalize hW2 : World.setRow _ _ _ = W2
  have HO2 : Hid (Blk W2 (w.heap.size + 1) 71 (row 16 (u8s (sbyte s)))) := hide (by
    rw [← hW2]
    have := HO.out.row_ (row 16 (over (u8s zs) 0 16 (u8s (sbyte s))))
    rw [over16] at this ⊢
    exact this)
  have HR2 : Hid (Blk W2 w.heap.size 71 (row 16 (u8s zs))) := hide (by
    rw [← hW2]
    exact HR.out.farRow (by omega) _)
  have HBl2 : Hid (Below w.heap.size w W2) := hide (by
    rw [← hW2]
    exact below_setRow HBl.out (by omega) _)
  clear hW2 HO HR HBl
  go_wp2_with (first
    | (with_reducible refine wpList_load_all rfl 71 (.tmp 6) rfl (w.heap.size + 1) rfl 71 16 _ _ HO2.out rfl Try.underlying71 info16 ?_)
    | (with_reducible refine wpList_store_all rfl 71 (.tmp 4) (.tmp 19) rfl w.heap.size rfl 71 16 _ _ rfl HR2.out info16 (fun j _ => u8_one _ j) ?_))
  exact bodyPost_ret (results_sub_tmp rfl _ _ w.heap.size 71 16 _ _ _ rfl rfl (HR2.out.row_ _) rfl Try.underlying71 info16) rfl ⟨rfl, below_setRow HBl2.out (Nat.le_refl _) _⟩
theorem kadd_lit (g : Nat) (kf st : St) (n : Nat) (z : Int) (hz : z = (n : Int)) (hn : n < 15) (W : World) (hk : KeyAt W g kf) :
    Calls Try.prog 40 #[.pointer (some ⟨g, 0, none⟩), .agg (row 16 (u8s st)), .int .i64 z] W fun e w' => e = .returned (.agg (row 16 (u8s (addS kf n st)))) ∧ Below W.heap.size W w' := by
  subst hz
  exact kadd_any g n hn kf st W hk
theorem zero_eta (w : World) : (zeroValue 71).run Try.prog w = .ok (.agg (row 16 (u8s zs))) w := zero16 w
theorem encrypt_nil (s : ByteArray) (w : World) : Calls Try.prog 28 #[.pointer none, .string s] w fun e w' => e = .returned (.tuple #[.string ⟨#[]⟩, .int .i64 1]) ∧ Below w.heap.size w w' := by
  have hz := zero_eta
  have HB := hide (begin_nil s)
  go_enter Try.func28, Try.ntmps28
  go_wp2_with (first
    | (go_at_call 39; (with_reducible refine (HB.out _).mono ?_); rintro e w1 ⟨rfl, hb⟩; have HB1 := hide hb; clear hb)
    | (with_reducible refine wpList_store_all rfl 71 (.tmp 6) (.tmp 13) rfl w1.heap.size rfl 71 16 _ _ rfl (Blk.newAt w1 _ _ _ rfl) info16 (fun j _ => u8_one _ j) ?_))
  go_ret2
  have := HB1.out.size
  exact ⟨rfl, below_setRow (HB1.out.alloc this _) this _⟩
theorem encrypt_form (g : Nat) (s : ByteArray) (hs : s.size ≠ 16) (w : World) : Calls Try.prog 28 #[.pointer (some ⟨g, 0, none⟩), .string s] w fun e w' => e = .returned (.tuple #[.string ⟨#[]⟩, .int .i64 6]) ∧ Below w.heap.size w w' := by
  have hz := zero_eta
  have HB := hide (begin_form g s hs)
  clear hs
  go_enter Try.func28, Try.ntmps28
  go_wp2_with (first
    | (go_at_call 39; (with_reducible refine (HB.out _).mono ?_); rintro e w1 ⟨rfl, hb⟩; have HB1 := hide hb; clear hb)
    | (with_reducible refine wpList_store_all rfl 71 (.tmp 6) (.tmp 13) rfl w1.heap.size rfl 71 16 _ _ rfl (Blk.newAt w1 _ _ _ rfl) info16 (fun j _ => u8_one _ j) ?_))
  go_ret2
  have := HB1.out.size
  exact ⟨rfl, below_setRow (HB1.out.alloc this _) this _⟩
/-- The key, and the state that is worked on. -/
structure CrAt (w : World) (g h : Nat) (kf st : St) (wr : World) : Prop where
  key : KeyAt wr g kf
  s : Blk wr h 71 (row 16 (u8s st))
  below : Below w.heap.size w wr
  ne : g ≠ h
  old : w.heap.size ≤ h
theorem CrAt.later {w wr wx : World} {g h : Nat} {kf st : St} (c : CrAt w g h kf st wr) (hb : Below wr.heap.size wr wx) : CrAt w g h kf st wx :=
  ⟨W.later hb c.key, W.later hb c.s, c.below.trans (hb.mono c.below.size), c.ne, c.old⟩
theorem CrAt.store {w wr : World} {g h : Nat} {kf st : St} (c : CrAt w g h kf st wr) (st' : St) : CrAt w g h kf st' (wr.setRow h (row 16 (u8s st'))) :=
  ⟨Blk.farRow c.key c.ne _, c.s.row_ _, below_setRow c.below c.old _, c.ne, c.old⟩
def EncRel (w : World) (g h : Nat) (kf s : St) (k : Nat) (s8 : Value) (wr : World) : Prop :=
  ∃ i : Nat, s8 = .int .i64 ((i + 1 : Nat) : Int) ∧ i + k = 13 ∧ CrAt w g h kf (rndS kf i s) wr
set_option maxRecDepth 100000 in
set_option maxHeartbeats 1000000 in
theorem encrypt_ok (g : Nat) (kf : St) (s : ByteArray) (hs : s.size = 16) (w : World) (hk : KeyAt w g kf) :
    Calls Try.prog 28 #[.pointer (some ⟨g, 0, none⟩), .string s] w fun e w' => e = .returned (.tuple #[.string (strB 16 (encS kf (sbyte s))), .int .i64 0]) ∧ Below w.heap.size w w' := by
  have hz := zero_eta
  have HB := hide (begin_ok g s hs)
  have HK := hide hk
  clear hs hk
  go_enter Try.func28, Try.ntmps28
  go_upto_region 4 with (first
    | (go_at_call 39; (with_reducible refine (HB.out _).mono ?_); rintro e w1 ⟨rfl, hb⟩; have HB1 := hide hb; clear hb)
    | (with_reducible refine wpList_store_all rfl 71 (.tmp 6) (.tmp 13) rfl w1.heap.size rfl 71 16 _ _ rfl (Blk.newAt w1 _ _ _ rfl) info16 (fun j _ => u8_one _ j) ?_))
  have l1 := HB1.out.size
  have l2 := HK.out.lt
  generalize hW : World.setRow _ _ _ = W
  have HC : Hid (CrAt w g w1.heap.size kf (sbyte s) W) := hide (by
    rw [← hW]
    exact ⟨Blk.farRow (Blk.alloc (later HB1.out HK.out) _) (by omega) _, (Blk.newAt w1 _ _ _ rfl).row_ _, below_setRow (HB1.out.alloc l1 _) l1 _, by omega, l1⟩)
  obtain ⟨h, hh⟩ : ∃ h, w1.heap.size = h := ⟨_, rfl⟩
  rw [hh] at HC ⊢
  clear hW hh l1 l2
  have HA0 := hide (fun st W hk => kadd_lit g kf st 0 0 rfl (by omega) W hk)
  go_wp2_with (first
    | (with_reducible refine wpList_load_all rfl 71 (.tmp 6) rfl h rfl 71 16 _ _ HC.out.s rfl Try.underlying71 info16 ?_)
    | (go_at_call 40; (with_reducible refine (HA0.out _ _ HC.out.key).mono ?_); rintro e w2 ⟨rfl, hb⟩; have HC2 := hide (HC.out.later hb); clear hb)
    | (with_reducible refine wpList_store_all rfl 71 (.tmp 6) (.tmp 20) rfl h rfl 71 16 _ _ rfl HC2.out.s info16 (fun j _ => u8_one _ j) ?_))
  go_loopg [8] 13 (fun k s8 wr => EncRel w g h kf (sbyte s) k s8 wr)
  case atStart => exact ⟨0, rfl, rfl, HC2.out.store _⟩
  case round =>
    clear HC HC2 HA0
    obtain ⟨i, rfl, hk, hc⟩ := hrel
    have HC := hide hc
    clear hc
    by_cases hi : i + 1 < 14
    · have hgk : 0 < gk := by omega
      have hi' : ((i + 1 : Nat) : Int) < 14 := by omega
      have HAn := hide (fun st W hk => kadd_lit g kf st (i + 1) ((i : Int) + 1) (by simp) (by omega) W hk)
      go_wp2_with (first
        | (with_reducible refine wpList_load_all rfl 71 (.tmp 6) rfl h rfl 71 16 _ _ HC.out.s rfl Try.underlying71 info16 ?_)
        | (go_at_call 42; (with_reducible refine (images_any _ _ _ _ HC.out.key).mono ?_); rintro e w2 ⟨rfl, hb⟩; have HC2 := hide (HC.out.later hb); clear hb)
        | (go_at_call 41; (with_reducible refine (mix_any _ _).mono ?_); rintro e w3 ⟨rfl, hb⟩; have HC3 := hide (HC2.out.later hb); clear hb)
        | (go_at_call 40; (with_reducible refine (HAn.out _ _ HC3.out.key).mono ?_); rintro e w4 ⟨rfl, hb⟩; have HC4 := hide (HC3.out.later hb); clear hb)
        | (with_reducible refine wpList_store_all rfl 71 (.tmp 6) (.tmp 31) rfl h rfl 71 16 _ _ rfl HC4.out.s info16 (fun j _ => u8_one _ j) ?_))
      go_roundg (gk - 1)
      case measure => omega
      case rel => exact ⟨i + 1, by go_num, by omega, HC4.out.store _⟩
    · have hi' : decide (((i + 1 : Nat) : Int) < 14) = false := by simp; omega
      obtain rfl : i = 13 := by omega
      have HAn := hide (fun st W hk => kadd_lit g kf st 14 14 rfl (by omega) W hk)
      clear hi
      go_upto_region 10 with (first
        | (with_reducible refine wpList_load_all rfl 71 (.tmp 6) rfl h rfl 71 16 _ _ HC.out.s rfl Try.underlying71 info16 ?_)
        | (go_at_call 42; (with_reducible refine (images_any _ _ _ _ HC.out.key).mono ?_); rintro e w2 ⟨rfl, hb⟩; have HC2 := hide (HC.out.later hb); clear hb)
        | (go_at_call 40; (with_reducible refine (HAn.out _ _ HC2.out.key).mono ?_); rintro e w4 ⟨rfl, hb⟩; have HC4 := hide (HC2.out.later hb); clear hb)
        | (with_reducible refine wpList_store_all rfl 71 (.tmp 6) (.tmp 36) rfl h rfl 71 16 _ _ rfl HC4.out.s info16 (fun j _ => u8_one _ j) ?_))
      have HC5 := hide (HC4.out.store (addS kf 14 (imgS (rndS kf 13 (sbyte s)))))
      generalize hW5 : World.setRow _ _ _ = W5
      have hcv : (convert 56 9 (.slice (some ⟨h, 0, none⟩) 16 16)).run Try.prog W5 = .ok (.string (strB 16 (encS kf (sbyte s)))) W5 :=
        run_convert_row W5 56 9 5 Try.underlying56 Try.underlying5 Try.underlying9 h 0 16 16 _ (fun j hj => by
          rw [Nat.zero_add, ← hW5]
          exact HC5.out.s.at hj)
      have HBl : Hid (Below w.heap.size w W5) := hide (by rw [← hW5]; exact HC5.out.below)
      clear hW5
      go_wp2_with fail
      go_ret2
      exact ⟨rfl, HBl.out⟩
def DecRel (w : World) (g h : Nat) (kf s : St) (k : Nat) (s8 : Value) (wr : World) : Prop :=
  ∃ i : Nat, s8 = .int .i64 (k : Int) ∧ i + k = 13 ∧ CrAt w g h kf (bakS kf i s) wr
end Go.Proofs.Ytikhaocpohfcnaa.Ae
