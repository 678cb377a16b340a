/- The contract of tally.Of's closure. -/
import Derived.Test.YtmkhicaaemghiaaTallyWalk
import Derived.Deep.DeepCutAuto
import Derived.Deep.CutRange
import Derived.StillTailTactics
import Derived.Laws.ComplexArith
namespace Go.Proofs.Ytmkhicaaemghiaa.Ta
open Go.RowKit Go.Proofs.Ytmkhicaaemghiaa.W Go.Proofs.Ytmkhicaaemghiaa.Fl
set_option linter.unusedVariables false
set_option linter.unusedSimpArgs false

@[go_sem] theorem run_store_float (P : Program) (w : World) (a : Addr) (m : Mode) (k : FloatKind) (b : Nat) : (store a (.float k b) m).run P w = stored P w a (.float k b) m := run_store P w a _ m rfl
@[go_sem] theorem run_store_complex (P : Program) (w : World) (a : Addr) (m : Mode) (k : FloatKind) (x y : Nat) : (store a (.complex k x y) m).run P w = stored P w a (.complex k x y) m := run_store P w a _ m rfl
theorem flipped {P : Program} {f : FuncId} {args : Array Value} {w : World} {v : Value} (h : Calls P f args w fun e w' => e = .returned v ∧ w = w') : Calls P f args w fun e w' => e = .returned v ∧ w' = w :=
  h.mono fun _ _ ⟨he, hw⟩ => ⟨he, hw.symm⟩

def rotI : Nat → Int → Int → Int × Int
  | 0, a, b => (a, b)
  | k + 1, a, b => rotI k (-b) a
theorem V_rot : ∀ (k a b : Nat) (x y : Int), V a x → V b y → V (rot k a b).1 (rotI k x y).1 ∧ V (rot k a b).2 (rotI k x y).2
  | 0, _, _, _, _, h, h' => ⟨h, h'⟩
  | k + 1, a, b, x, y, h, h' => V_rot k _ _ _ _ (V_neg h') h
theorem rotI_one (i : Nat) : rotI (i % 4) 1 0 = (qre i, qim i) := by
  have h4 : i % 4 = 0 ∨ i % 4 = 1 ∨ i % 4 = 2 ∨ i % 4 = 3 := by omega
  unfold qre qim
  rcases h4 with h | h | h | h <;> rw [h] <;> rfl
theorem V_turned (i : Nat) : V (rot ((i : Int) % 4).toNat 4607182418800017408 0).1 (qre i) ∧ V (rot ((i : Int) % 4).toNat 4607182418800017408 0).2 (qim i) := by
  rw [show ((i : Int) % 4).toNat = i % 4 by omega]
  have h := V_rot (i % 4) _ _ 1 0 V_one V_zero
  rw [rotI_one] at h
  exact h
theorem sum_complex {a b c d : Nat} {x y u v : Int} (ha : V a x) (hb : V b y) (hc : V c u) (hd : V d v) (h1 : (x + u).natAbs ≤ 9007199254740992) (h2 : (y + v).natAbs ≤ 9007199254740992) :
    ∃ r s, V r (x + u) ∧ V s (y + v) ∧ ∀ (P : Program) (w : World) (t : TypeId), (binOp .add t (.complex .f64 a b) (.complex .f64 c d)).run P w = .ok (.complex .f64 r s) w := by
  obtain ⟨r, e1, hr⟩ := V_add ha hc h1
  obtain ⟨s, e2, hs⟩ := V_add hb hd h2
  refine ⟨r, s, hr, hs, fun P w t => run_complex_sum w .add (.inl rfl) t .f64 a b c d r s ?_⟩
  have f1 : floatBits .add .f64 a c = some r := e1
  have f2 : floatBits .add .f64 b d = some s := e2
  simp [cSumBits, f1, f2]

/-- Acts and answers as they lie in memory. -/
structure ActsAt (w : World) (B : Nat) (A : Option Addr) (n : Nat) (F : Nat → Nat → Value) (K : Nat → Int) : Prop where
  holds : Holds w B 11 A n F
  kind : ∀ i, i < n → F i 0 = .int .i64 (K i)
  one : ∀ i j, i < n → j < 11 → (F i j).oneCell' = true
structure ToldAt (w : World) (B : Nat) (A : Option Addr) (n : Nat) (F : Nat → Nat → Value) (E : Nat → Int) (S : Nat → ByteArray) : Prop where
  holds : Holds w B 3 A n F
  err : ∀ i, i < n → F i 0 = .int .i64 (E i)
  text : ∀ i, i < n → F i 1 = .string (S i)
  one : ∀ i j, i < n → j < 3 → (F i j).oneCell' = true

/-- The tally's block behind n acts. -/
def TallyBlk (w : World) (g : Nat) (K E : Nat → Int) (S : Nat → ByteArray) (n : Nat) : Prop :=
  ∃ br bi, V br (beatR K E n) ∧ V bi (beatI K E n) ∧
    Blk w g 28 (row 58 (tcell (fun c => (cnt (fun i => slotK (K i)) n c : Int)) (fun c => (cnt (fun i => slotE (E i)) n c : Int)) (byts K E (fun i => (S i).size) n) br bi))

def CutRel (w : World) (i : Nat) (F G : Nat → Nat → Value) (s5 s6 : Value) (wx : World) : Prop :=
  ∃ g5 g6 : Nat, s5 = .pointer (some ⟨g5, 0, none⟩) ∧ s6 = .pointer (some ⟨g6, 0, none⟩) ∧ w.heap.size ≤ g5 ∧ w.heap.size ≤ g6 ∧ g5 ≠ g6 ∧ Blk wx g5 54 (row 11 (F i)) ∧ Blk wx g6 57 (row 3 (G i)) ∧ Chg none1 w wx

set_option maxRecDepth 100000 in
set_option maxHeartbeats 4000000 in
theorem count_any (gl gt go : Nat) (i n m c d : Nat) (A B : Option Addr) (F G : Nat → Nat → Value) (K E : Nat → Int) (S : Nat → ByteArray) (wb : Nat) (w : World)
    (hl : Blk w gl 22 #[.slice A n c]) (ht : Blk w gt 23 #[.slice B m d]) (hA : ActsAt w wb A n F K) (hB : ToldAt w wb B m G E S) (ho : TallyBlk w go K E S i)
    (hin : i < n) (him : i < m) (hi : i < 140737488355328) (hn : n ≤ maxLen) (hm : m ≤ maxLen) (hwb : wb ≤ w.heap.size) :
    Calls Try.prog 20 #[.int .i64 (i : Int), .pointer (some ⟨gl, 0, none⟩), .pointer (some ⟨gt, 0, none⟩), .pointer (some ⟨go, 0, none⟩)] w
      fun e w' => e = .returned (.tuple #[]) ∧ TallyBlk w' go K E S (i + 1) ∧ Chg (one go) w w' := by
  obtain ⟨b1, o1, rfl, hb1, hc1⟩ := hA.holds (by omega)
  obtain ⟨b2, o2, rfl, hb2, hc2⟩ := hB.holds (by omega)
  obtain ⟨br, bi, hbr, hbi, hblk⟩ := ho
  have cl := hl.cell 0
  have ct := ht.cell 0
  simp at cl ct
  have f0 := hc1 i 0 hin (by omega)
  have f1 := hc1 i 1 hin (by omega)
  have f2 := hc1 i 2 hin (by omega)
  have f3 := hc1 i 3 hin (by omega)
  have f4 := hc1 i 4 hin (by omega)
  have f5 := hc1 i 5 hin (by omega)
  have f6 := hc1 i 6 hin (by omega)
  have f7 := hc1 i 7 hin (by omega)
  have f8 := hc1 i 8 hin (by omega)
  have f9 := hc1 i 9 hin (by omega)
  have f10 := hc1 i 10 hin (by omega)
  have g0 := hc2 i 0 him (by omega)
  have g1 := hc2 i 1 him (by omega)
  have g2 := hc2 i 2 him (by omega)
  have p0 := hA.one i 0 hin (by omega)
  have p1 := hA.one i 1 hin (by omega)
  have p2 := hA.one i 2 hin (by omega)
  have p3 := hA.one i 3 hin (by omega)
  have p4 := hA.one i 4 hin (by omega)
  have p5 := hA.one i 5 hin (by omega)
  have p6 := hA.one i 6 hin (by omega)
  have p7 := hA.one i 7 hin (by omega)
  have p8 := hA.one i 8 hin (by omega)
  have p9 := hA.one i 9 hin (by omega)
  have p10 := hA.one i 10 hin (by omega)
  have q0 := hB.one i 0 him (by omega)
  have q1 := hB.one i 1 him (by omega)
  have q2 := hB.one i 2 him (by omega)
  simp only [Nat.add_zero] at f0 g0
  have n1 : b1 < w.heap.size := by omega
  have n2 : b2 < w.heap.size := by omega
  have sl := hl.lt
  have st := ht.lt
  have HL := hide hl
  have HT := hide ht
  have HA := hide hA
  have HB := hide hB
  have H1 := hide hbr
  have H2 := hide hbi
  have HBK := hide hblk
  have HI := hide hi
  clear hl ht hA hB hbr hbi hblk hc1 hc2
  have hst : ∀ (v : Value) (w : World) (a : Addr) (m : Mode), v.oneCell' = true → (store a v m).run Try.prog w = stored Try.prog w a v m := fun v w a m h => run_store Try.prog w a v m h
  go_enter Try.func20, Try.ntmps20
  go_upto_region 0 with fail
  go_cut [5, 6] (fun s5 s6 wx => CutRel w i F G s5 s6 wx)
  case first =>
    go_region
    all_goals go_wp2_with fail
    all_goals go_meet
    all_goals
      refine ⟨_, _, rfl, rfl, by omega, by omega, by omega, ?_, ?_, ?_⟩
      · first
          | exact ((Blk.newAt w _ (row 11 (F i)) _ (by simp)).alloc _).same rfl
          | exact (Blk.newAt (w.alloc _) _ (row 11 (F i)) _ (by simp)).same rfl
      · first
          | exact ((Blk.newAt w _ (row 3 (G i)) _ (by simp)).alloc _).same rfl
          | exact (Blk.newAt (w.alloc _) _ (row 3 (G i)) _ (by simp)).same rfl
      · exact (((Chg.refl none1 w).alloc _).alloc _).drewN 1
  case rest =>
    obtain ⟨g5, g6, rfl, rfl, h5, h6, h56, hb5, hb6, hc⟩ := hcut
    have so := HBK.out.lt
    have hbo := HBK.out.chg hc (fun h => h)
    have c5 := hb5.at (i := 0) (by omega)
    have c6 := hb6.at (i := 0) (by omega)
    have c61 := hb6.at (i := 1) (by omega)
    rw [HA.out.kind i hin] at c5
    rw [HB.out.err i him] at c6
    rw [HB.out.text i him] at c61
    clear f0 f1 f2 f3 f4 f5 f6 f7 f8 f9 f10 g0 g1 g2 p0 p1 p2 p3 p4 p5 p6 p7 p8 p9 p10 q0 q1 q2 hst cl ct
    obtain ⟨k1, hk1⟩ : ∃ k, slotK (K i) = k := ⟨_, rfl⟩
    obtain ⟨k2, hk2⟩ : ∃ k, slotE (E i) = k := ⟨_, rfl⟩
    have l1 : k1 < 24 := by have := slotK_lt (K i); omega
    have l2 : k2 < 32 := by have := slotE_lt (E i); omega
    obtain ⟨x1, hx1⟩ : ∃ x, cnt (fun i => slotK (K i)) i k1 = x := ⟨_, rfl⟩
    obtain ⟨x2, hx2⟩ : ∃ x, cnt (fun i => slotE (E i)) i k2 = x := ⟨_, rfl⟩
    have m1 : x1 ≤ 140737488355328 := by have := cnt_le (fun i => slotK (K i)) k1 i; omega
    have m2 : x2 ≤ 140737488355328 := by have := cnt_le (fun i => slotE (E i)) k2 i; omega
    obtain ⟨y, hy⟩ : ∃ y, byts K E (fun i => (S i).size) i = y := ⟨_, rfl⟩
    have ck := hbo.at (i := k1) (by omega)
    have fk := hbo.frozen k1
    have ce := hbo.at (i := 24 + k2) (by omega)
    have fe := hbo.frozen (24 + k2)
    have cy := hbo.at (i := 56) (by omega)
    have fy := hbo.frozen 56
    have cz := hbo.at (i := 57) (by omega)
    have fz := hbo.frozen 57
    rw [tcell_act _ _ _ _ _ l1, hx1] at ck
    rw [tcell_err _ _ _ _ _ l2, hx2] at ce
    rw [tcell_bytes, hy] at cy
    rw [tcell_beat] at cz
    have l1' : (k1 : Int) < 24 := by omega
    have l2' : (k2 : Int) < 32 := by omega
    have e12 : ¬ k1 = 24 + k2 := by omega
    have e1y : ¬ k1 = 56 := by omega
    have e1z : ¬ k1 = 57 := by omega
    have e2y : ¬ 24 + k2 = 56 := by omega
    have e2z : ¬ 24 + k2 = 57 := by omega
    have e5 : ¬ g5 = go := by omega
    have e6 : ¬ g6 = go := by omega
    have e5' : ¬ go = g5 := by omega
    have e6' : ¬ go = g6 := by omega
    have HC := hide hc
    have HO := hide hbo
    have HK1 := hide hk1
    have HK2 := hide hk2
    have HX1 := hide hx1
    have HX2 := hide hx2
    have HY := hide hy
    have kk := fun W => within_kind (K i) W
    have ke := fun W => within_err (E i) W
    rw [hk1] at kk
    rw [hk2] at ke
    have KK := hide kk
    have KE := hide ke
    obtain ⟨a, ha⟩ : ∃ a, K i = a := ⟨_, rfl⟩
    obtain ⟨b, hb⟩ : ∃ b, E i = b := ⟨_, rfl⟩
    rw [ha] at c5 KK
    rw [hb] at c6 KE
    have HA1 := hide ha
    have HB1 := hide hb
    clear hb5 hb6 hc hbo hk1 hk2 hx1 hx2 hy kk ke ha hb HBK h5 h6
    by_cases h1 : a = 1
    · have t1 : (a == 1) = true := by simpa using h1
      by_cases h2 : b = 0
      · have t2 : (b == 0) = true := by simpa using h2
        have HR : Hid (reads K E i = true) := hide (by simp [reads, HA1.out, HB1.out, h1, h2])
        obtain ⟨r, s, hr, hs, hsum⟩ := sum_complex H1.out H2.out (V_turned i).1 (V_turned i).2
          (by have := beatR_le K E i; have := HI.out; unfold qre; split <;> (try split) <;> omega) (by have := beatI_le K E i; have := HI.out; unfold qim; split <;> (try split) <;> omega)
        have hturn := fun W => turn_any 4607182418800017408 0 (i : Int) W
        obtain ⟨ta, hta⟩ : ∃ t, (rot ((i : Int) % 4).toNat 4607182418800017408 0).1 = t := ⟨_, rfl⟩
        obtain ⟨tb, htb⟩ : ∃ t, (rot ((i : Int) % 4).toNat 4607182418800017408 0).2 = t := ⟨_, rfl⟩
        rw [hta, htb] at hturn hsum
        have hsum' := fun W => hsum Try.prog W 26
        have HT := hide hturn
        have HRr := hide hr
        have HSs := hide hs
        clear hta htb hturn hsum hr hs h1 h2
        go_wp2_with (first
          | (go_at_call 21; with_reducible refine (KK.out _).mono ?_; rintro e w' ⟨rfl, rfl⟩)
          | (go_at_call 21; with_reducible refine (KE.out _).mono ?_; rintro e w' ⟨rfl, rfl⟩))
        have hb3 := ((HO.out.upd k1 (.int .i64 ((x1 : Int) + 1))).upd (24 + k2) (.int .i64 ((x2 : Int) + 1))).upd 56 (.int .i64 (wrap64 (y + ((S i).size : Int))))
        have hc3 := (((HC.out.mono (S' := one go) (fun _ _ h => h.elim)).setCell (p := ⟨go, k1, none⟩) (.inl rfl) (.int .i64 ((x1 : Int) + 1))).setCell (p := ⟨go, 24 + k2, none⟩) (.inl rfl) (.int .i64 ((x2 : Int) + 1))).setCell (p := ⟨go, 56, none⟩) (.inl rfl) (.int .i64 (wrap64 (y + ((S i).size : Int))))
        generalize hW3 : (((wc.setCell ⟨go, k1, none⟩ (.int .i64 ((x1 : Int) + 1))).setCell ⟨go, 24 + k2, none⟩ (.int .i64 ((x2 : Int) + 1))).setCell ⟨go, 56, none⟩ (.int .i64 (wrap64 (y + ((S i).size : Int))))) = W3 at hb3 hc3 ⊢
        clear hW3 ck fk ce fe cy fy cz fz c5 c6 c61
        have cz := hb3.at (i := 57) (by omega)
        have fz := hb3.frozen 57
        have HB3 := hide hb3
        have HC3 := hide hc3
        simp only [upd, if_neg (show ¬ 57 = 56 by omega), if_neg (show ¬ 57 = 24 + k2 by omega), if_neg (show ¬ 57 = k1 by omega), tcell_beat] at cz
        clear hb3 hc3
        refine wp_region_still_tail 6 (by kernel_rfl) (by kernel_rfl) ?_
        simp only [List.take_succ_cons, List.take_zero, List.drop_succ_cons, List.drop_zero]
        repeat (first
          | (refine wpStill_step (fun K hK => ?_); go_simp; refine hK _ ?_; clear hK K)
          | (refine wpStill_step (fun K hK => ?_); go_simp; with_reducible refine ⟨_, flipped (HT.out _), hK _ ?_⟩; clear hK K))
        refine wpStill_nil ?_
        change wpList _ _ _ _ _ W3.drew
        go_wp2_with fail
        go_end0
        refine ⟨rfl, ⟨r, s, ?_, ?_, ?_⟩, ?_⟩
        · rw [beatR, if_pos HR.out]; exact HRr.out
        · rw [beatI, if_pos HR.out]; exact HSs.out
        · have hh := (HB3.out.drewN 1).upd 57 (.complex .f64 r s)
          rw [upd_act _ _ _ _ _ l1, upd_err _ _ _ _ _ l2, upd_bytes, row_congr (fun c hc => upd_beat _ _ _ _ _ r s hc)] at hh
          have s1 := cnt_step (fun i => slotK (K i)) i x1 (by simp only [HK1.out]; exact HX1.out)
          have s2 := cnt_step (fun i => slotE (E i)) i x2 (by simp only [HK2.out]; exact HX2.out)
          simp only [HK1.out] at s1
          simp only [HK2.out] at s2
          rw [s1, s2] at hh
          rw [byts, if_pos HR.out, HY.out]
          exact hh
        · exact (HC3.out.drewN 1).setCell (p := ⟨go, 57, none⟩) (.inl rfl) _
      · have t2 : (b == 0) = false := by simpa using h2
        have HR : Hid (reads K E i = false) := hide (by simp [reads, HA1.out, HB1.out, h1, h2])
        clear h1 h2
        go_wp2_with (first
          | (go_at_call 21; with_reducible refine (KK.out _).mono ?_; rintro e w' ⟨rfl, rfl⟩)
          | (go_at_call 21; with_reducible refine (KE.out _).mono ?_; rintro e w' ⟨rfl, rfl⟩))
        go_end0
        refine ⟨rfl, ⟨br, bi, ?_, ?_, ?_⟩, ?_⟩
        · rw [beatR, HR.out]; exact H1.out
        · rw [beatI, HR.out]; exact H2.out
        · have hh := (HO.out.upd k1 (.int .i64 ((x1 : Int) + 1))).upd (24 + k2) (.int .i64 ((x2 : Int) + 1))
          rw [upd_act _ _ _ _ _ l1, upd_err _ _ _ _ _ l2] at hh
          have s1 := cnt_step (fun i => slotK (K i)) i x1 (by simp only [HK1.out]; exact HX1.out)
          have s2 := cnt_step (fun i => slotE (E i)) i x2 (by simp only [HK2.out]; exact HX2.out)
          simp only [HK1.out] at s1
          simp only [HK2.out] at s2
          rw [s1, s2] at hh
          rw [byts, HR.out]
          exact hh
        · exact ((HC.out.mono (S' := one go) (fun _ _ h => h.elim)).setCell (p := ⟨go, k1, none⟩) (.inl rfl) _).setCell (p := ⟨go, 24 + k2, none⟩) (.inl rfl) _
    · have t1 : (a == 1) = false := by simpa using h1
      have HR : Hid (reads K E i = false) := hide (by simp [reads, HA1.out, h1])
      clear h1
      go_wp2_with (first
        | (go_at_call 21; with_reducible refine (KK.out _).mono ?_; rintro e w' ⟨rfl, rfl⟩)
        | (go_at_call 21; with_reducible refine (KE.out _).mono ?_; rintro e w' ⟨rfl, rfl⟩))
      go_end0
      refine ⟨rfl, ⟨br, bi, ?_, ?_, ?_⟩, ?_⟩
      · rw [beatR, HR.out]; exact H1.out
      · rw [beatI, HR.out]; exact H2.out
      · have hh := (HO.out.upd k1 (.int .i64 ((x1 : Int) + 1))).upd (24 + k2) (.int .i64 ((x2 : Int) + 1))
        rw [upd_act _ _ _ _ _ l1, upd_err _ _ _ _ _ l2] at hh
        have s1 := cnt_step (fun i => slotK (K i)) i x1 (by simp only [HK1.out]; exact HX1.out)
        have s2 := cnt_step (fun i => slotE (E i)) i x2 (by simp only [HK2.out]; exact HX2.out)
        simp only [HK1.out] at s1
        simp only [HK2.out] at s2
        rw [s1, s2] at hh
        rw [byts, HR.out]
        exact hh
      · exact ((HC.out.mono (S' := one go) (fun _ _ h => h.elim)).setCell (p := ⟨go, k1, none⟩) (.inl rfl) _).setCell (p := ⟨go, 24 + k2, none⟩) (.inl rfl) _
end Go.Proofs.Ytmkhicaaemghiaa.Ta
