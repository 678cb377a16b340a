/- A thing put in, and taken out, of a queue's row: walked. -/
import Derived.Test.YtadlfebpaijbhaaLevSmall
import Derived.BigRegion
namespace Go.Proofs.Ytadlfebpaijbhaa.Lv
open Go.RowKit Go.Proofs.Ytadlfebpaijbhaa.W
set_option linter.unusedVariables false
set_option linter.unusedSimpArgs false

/-- What a call on a queue leaves: the queue as R, all else as it was. -/
def QPost (g n : Nat) (R : Nat → List Nat) (w w' : World) : Prop := QAt w' g n R ∧ Chg (one g) w w'
def put3 (F : Nat → Int) (i l : Nat) : Nat → Int := upd (upd (upd F (1 + i) (l : Int)) (17 + i) (F (53 + l))) (33 + i) (-1)
theorem put3_ne (F : Nat → Int) (i l j : Nat) (h1 : j ≠ 1 + i) (h2 : j ≠ 17 + i) (h3 : j ≠ 33 + i) : put3 F i l j = F j := by
  unfold put3 upd
  rw [if_neg h3, if_neg h2, if_neg h1]
set_option maxRecDepth 100000 in
set_option maxHeartbeats 1000000 in
theorem put_raw (g i l : Nat) (F : Nat → Int) (hi : i < 16) (hl : l < 4) (z : Nat) (hz : F (53 + l) = (z : Int)) (hz16 : z < 16) (w : World) (hq : QF w g F) :
    Calls Try.prog 50 #[.pointer (some ⟨g, 0, none⟩), .int .i64 (i : Int), .int .i64 (l : Int)] w fun e w' => e = .returned (.tuple #[]) ∧ QF w' g (upd (upd (put3 F i l) (33 + z) (i : Int)) (53 + l) (i : Int)) ∧ Chg (one g) w w' := by
  have c0 := hq.at (i := 53 + l) (by omega)
  rw [hz] at c0
  have f1 := hq.frozen (1 + i)
  have f2 := hq.frozen (17 + i)
  have f3 := hq.frozen (33 + i)
  have k1 := hq.at (i := 1 + i) (by omega)
  have k2 := hq.at (i := 17 + i) (by omega)
  have k3 := hq.at (i := 33 + i) (by omega)
  have gl := hq.lt
  have i16 : (i : Int) < 16 := by omega
  have l4 : (l : Int) < 4 := by omega
  have HQ := hide hq
  clear hq
  have HZ := hide hz
  clear hz
  go_enter Try.func50, Try.ntmps50
  go_upto_region 0 with fail
  go_region
  generalize hW : World.drew _ = W1
  have h1 : QF W1 g (put3 F i l) := by
    rw [← hW]
    have := ((HQ.out.set_ (1 + i) (l : Int)).set_ (17 + i) (z : Int)).set_ (33 + i) (-1)
    unfold put3
    rw [HZ.out]
    exact Blk.drew this
  have hc1 : Chg (one g) w W1 := by
    rw [← hW]
    exact ((((Chg.refl (one g) w).setCell (p := ⟨g, 1 + i, none⟩) (.inl rfl) _).setCell (p := ⟨g, 17 + i, none⟩) (.inl rfl) _).setCell (p := ⟨g, 33 + i, none⟩) (.inl rfl) _).drew
  clear hW f1 f2 f3 k1 k2 k3 c0
  have c1 := h1.at (i := 53 + l) (by omega)
  rw [put3_ne F i l (53 + l) (by omega) (by omega) (by omega), HZ.out] at c1
  have gl1 := h1.lt
  have k4 := h1.at (i := 33 + z) (by omega)
  have f4 := h1.frozen (33 + z)
  have z16 : (z : Int) < 16 := by omega
  have t1 : ((z : Int) == -1) = false := by simp
  have H1 := hide h1
  have HC1 := hide hc1
  clear h1 hc1
  go_upto_region 3 with fail
  go_region
  generalize hW : World.drew _ = W2
  have H2 : Hid (QF W2 g (upd (put3 F i l) (33 + z) (i : Int))) := hide (by
    rw [← hW]
    exact Blk.drew (H1.out.set_ (33 + z) (i : Int)))
  have HC2 : Hid (Chg (one g) w W2) := hide (by
    rw [← hW]
    exact (HC1.out.setCell (p := ⟨g, 33 + z, none⟩) (.inl rfl) _).drew)
  clear hW c1 k4 f4 t1
  have k5 := H2.out.at (i := 53 + l) (by omega)
  have f5 := H2.out.frozen (53 + l)
  go_wp2_with fail
  go_end0
  exact ⟨rfl, H2.out.set_ (53 + l) (i : Int), HC2.out.setCell (p := ⟨g, 53 + l, none⟩) (.inl rfl) _⟩
set_option maxRecDepth 100000 in
set_option maxHeartbeats 1000000 in
theorem put_raw0 (g i l : Nat) (F : Nat → Int) (hi : i < 16) (hl : l < 4) (hz : F (53 + l) = -1) (w : World) (hq : QF w g F) :
    Calls Try.prog 50 #[.pointer (some ⟨g, 0, none⟩), .int .i64 (i : Int), .int .i64 (l : Int)] w fun e w' => e = .returned (.tuple #[]) ∧ QF w' g (upd (upd (put3 F i l) (49 + l) (i : Int)) (53 + l) (i : Int)) ∧ Chg (one g) w w' := by
  have c0 := hq.at (i := 53 + l) (by omega)
  rw [hz] at c0
  have f1 := hq.frozen (1 + i)
  have f2 := hq.frozen (17 + i)
  have f3 := hq.frozen (33 + i)
  have k1 := hq.at (i := 1 + i) (by omega)
  have k2 := hq.at (i := 17 + i) (by omega)
  have k3 := hq.at (i := 33 + i) (by omega)
  have gl := hq.lt
  have i16 : (i : Int) < 16 := by omega
  have l4 : (l : Int) < 4 := by omega
  have HQ := hide hq
  clear hq
  have HZ := hide hz
  clear hz
  go_enter Try.func50, Try.ntmps50
  go_upto_region 0 with fail
  go_region
  generalize hW : World.drew _ = W1
  have h1 : QF W1 g (put3 F i l) := by
    rw [← hW]
    have := ((HQ.out.set_ (1 + i) (l : Int)).set_ (17 + i) (-1)).set_ (33 + i) (-1)
    unfold put3
    rw [HZ.out]
    exact Blk.drew this
  have hc1 : Chg (one g) w W1 := by
    rw [← hW]
    exact ((((Chg.refl (one g) w).setCell (p := ⟨g, 1 + i, none⟩) (.inl rfl) _).setCell (p := ⟨g, 17 + i, none⟩) (.inl rfl) _).setCell (p := ⟨g, 33 + i, none⟩) (.inl rfl) _).drew
  clear hW f1 f2 f3 k1 k2 k3 c0
  have c1 := h1.at (i := 53 + l) (by omega)
  rw [put3_ne F i l (53 + l) (by omega) (by omega) (by omega), HZ.out] at c1
  have gl1 := h1.lt
  have k4 := h1.at (i := 49 + l) (by omega)
  have f4 := h1.frozen (49 + l)
  have t1 : ((-1 : Int) == -1) = true := rfl
  have H1 := hide h1
  have HC1 := hide hc1
  clear h1 hc1
  go_upto_region 4 with fail
  generalize hW : World.setCell _ _ _ = W2
  have H2 : Hid (QF W2 g (upd (put3 F i l) (49 + l) (i : Int))) := hide (by
    rw [← hW]
    exact H1.out.set_ (49 + l) (i : Int))
  have HC2 : Hid (Chg (one g) w W2) := hide (by
    rw [← hW]
    exact HC1.out.setCell (p := ⟨g, 49 + l, none⟩) (.inl rfl) _)
  clear hW c1 k4 f4
  have k5 := H2.out.at (i := 53 + l) (by omega)
  have f5 := H2.out.frozen (53 + l)
  go_wp2_with fail
  go_end0
  exact ⟨rfl, H2.out.set_ (53 + l) (i : Int), HC2.out.setCell (p := ⟨g, 53 + l, none⟩) (.inl rfl) _⟩
set_option maxRecDepth 100000 in
set_option maxHeartbeats 1000000 in
theorem cut_raw00 (g i : Nat) (F : Nat → Int) (hi : i < 16) (l : Nat) (hl : l < 4) (hon : F (1 + i) = (l : Int)) (ha : F (17 + i) = -1) (hb : F (33 + i) = -1) (w : World) (hq : QF w g F) :
    Calls Try.prog 55 #[.pointer (some ⟨g, 0, none⟩), .int .i64 (i : Int)] w fun e w' => e = .returned (.tuple #[]) ∧ QF w' g (upd (upd (upd (upd (upd F (49 + l) (-1)) (53 + l) (-1)) (1 + i) (-1)) (17 + i) (-1)) (33 + i) (-1)) ∧ Chg (one g) w w' := by
  have c1 := hq.at (i := 1 + i) (by omega)
  have c2 := hq.at (i := 17 + i) (by omega)
  have c3 := hq.at (i := 33 + i) (by omega)
  rw [hon] at c1
  rw [ha] at c2
  rw [hb] at c3
  have gl := hq.lt
  have i16 : (i : Int) < 16 := by omega
  have l4 : (l : Int) < 4 := by omega
  have t3 : ((-1 : Int) == -1) = true := rfl
  have HQ := hide hq
  clear hq
  clear hon ha hb
  go_enter Try.func55, Try.ntmps55
  go_upto_region 0 with fail
  go_region
  have HQ1 : Hid (QF w.drew g F) := hide (Blk.drew HQ.out)
  have HC1 : Hid (Chg (one g) w w.drew) := hide (Chg.refl _ _).drew
  generalize w.drew = W1 at HQ1 HC1 ⊢
  clear c1 c2 c3
  have k1 := HQ1.out.at (i := 49 + l) (by omega)
  have f1 := HQ1.out.frozen (49 + l)
  have gl1 := HQ1.out.lt
  go_upto_region 4 with fail
  generalize hW : World.setCell _ _ _ = W2
  have HQ2 : Hid (QF W2 g (upd F (49 + l) (-1))) := hide (by
    rw [← hW]
    exact HQ1.out.set_ (49 + l) (-1))
  have HC2 : Hid (Chg (one g) w W2) := hide (by
    rw [← hW]
    exact HC1.out.setCell (p := ⟨g, 49 + l, none⟩) (.inl rfl) _)
  clear hW k1 f1
  have k2 := HQ2.out.at (i := 53 + l) (by omega)
  have f2 := HQ2.out.frozen (53 + l)
  have gl2 := HQ2.out.lt
  go_upto_region 7 with fail
  generalize hW : World.setCell _ _ _ = W3
  have HQ3 : Hid (QF W3 g (upd (upd F (49 + l) (-1)) (53 + l) (-1))) := hide (by
    rw [← hW]
    exact HQ2.out.set_ (53 + l) (-1))
  have HC3 : Hid (Chg (one g) w W3) := hide (by
    rw [← hW]
    exact HC2.out.setCell (p := ⟨g, 53 + l, none⟩) (.inl rfl) _)
  clear hW k2 f2
  have k3 := HQ3.out.at (i := 1 + i) (by omega)
  have k4 := HQ3.out.at (i := 17 + i) (by omega)
  have k5 := HQ3.out.at (i := 33 + i) (by omega)
  have f3 := HQ3.out.frozen (1 + i)
  have f4 := HQ3.out.frozen (17 + i)
  have f5 := HQ3.out.frozen (33 + i)
  have gl3 := HQ3.out.lt
  go_region
  go_wp2_with fail
  go_end0
  refine ⟨rfl, Blk.drew (((HQ3.out.set_ (1 + i) (-1)).set_ (17 + i) (-1)).set_ (33 + i) (-1)), ?_⟩
  exact (((HC3.out.setCell (p := ⟨g, 1 + i, none⟩) (.inl rfl) _).setCell (p := ⟨g, 17 + i, none⟩) (.inl rfl) _).setCell (p := ⟨g, 33 + i, none⟩) (.inl rfl) _).drew
set_option maxRecDepth 100000 in
set_option maxHeartbeats 1000000 in
theorem cut_raw01 (g i : Nat) (F : Nat → Int) (hi : i < 16) (l : Nat) (hl : l < 4) (hon : F (1 + i) = (l : Int)) (ha : F (17 + i) = -1) (b : Nat) (hb : F (33 + i) = (b : Int)) (hb16 : b < 16) (w : World) (hq : QF w g F) :
    Calls Try.prog 55 #[.pointer (some ⟨g, 0, none⟩), .int .i64 (i : Int)] w fun e w' => e = .returned (.tuple #[]) ∧ QF w' g (upd (upd (upd (upd (upd F (49 + l) (b : Int)) (17 + b) (-1)) (1 + i) (-1)) (17 + i) (-1)) (33 + i) (-1)) ∧ Chg (one g) w w' := by
  have c1 := hq.at (i := 1 + i) (by omega)
  have c2 := hq.at (i := 17 + i) (by omega)
  have c3 := hq.at (i := 33 + i) (by omega)
  rw [hon] at c1
  rw [ha] at c2
  rw [hb] at c3
  have gl := hq.lt
  have i16 : (i : Int) < 16 := by omega
  have l4 : (l : Int) < 4 := by omega
  have b16 : (b : Int) < 16 := by omega
  have t2 : ((b : Int) == -1) = false := by simp
  have t3 : ((-1 : Int) == -1) = true := rfl
  have HQ := hide hq
  clear hq
  clear hon ha hb
  go_enter Try.func55, Try.ntmps55
  go_upto_region 0 with fail
  go_region
  have HQ1 : Hid (QF w.drew g F) := hide (Blk.drew HQ.out)
  have HC1 : Hid (Chg (one g) w w.drew) := hide (Chg.refl _ _).drew
  generalize w.drew = W1 at HQ1 HC1 ⊢
  clear c1 c2 c3
  have k1 := HQ1.out.at (i := 49 + l) (by omega)
  have f1 := HQ1.out.frozen (49 + l)
  have gl1 := HQ1.out.lt
  go_upto_region 4 with fail
  generalize hW : World.setCell _ _ _ = W2
  have HQ2 : Hid (QF W2 g (upd F (49 + l) (b : Int))) := hide (by
    rw [← hW]
    exact HQ1.out.set_ (49 + l) (b : Int))
  have HC2 : Hid (Chg (one g) w W2) := hide (by
    rw [← hW]
    exact HC1.out.setCell (p := ⟨g, 49 + l, none⟩) (.inl rfl) _)
  clear hW k1 f1
  have k2 := HQ2.out.at (i := 17 + b) (by omega)
  have f2 := HQ2.out.frozen (17 + b)
  have gl2 := HQ2.out.lt
  go_upto_region 7 with fail
  generalize hW : World.setCell _ _ _ = W3
  have HQ3 : Hid (QF W3 g (upd (upd F (49 + l) (b : Int)) (17 + b) (-1))) := hide (by
    rw [← hW]
    exact HQ2.out.set_ (17 + b) (-1))
  have HC3 : Hid (Chg (one g) w W3) := hide (by
    rw [← hW]
    exact HC2.out.setCell (p := ⟨g, 17 + b, none⟩) (.inl rfl) _)
  clear hW k2 f2
  have k3 := HQ3.out.at (i := 1 + i) (by omega)
  have k4 := HQ3.out.at (i := 17 + i) (by omega)
  have k5 := HQ3.out.at (i := 33 + i) (by omega)
  have f3 := HQ3.out.frozen (1 + i)
  have f4 := HQ3.out.frozen (17 + i)
  have f5 := HQ3.out.frozen (33 + i)
  have gl3 := HQ3.out.lt
  go_region
  go_wp2_with fail
  go_end0
  refine ⟨rfl, Blk.drew (((HQ3.out.set_ (1 + i) (-1)).set_ (17 + i) (-1)).set_ (33 + i) (-1)), ?_⟩
  exact (((HC3.out.setCell (p := ⟨g, 1 + i, none⟩) (.inl rfl) _).setCell (p := ⟨g, 17 + i, none⟩) (.inl rfl) _).setCell (p := ⟨g, 33 + i, none⟩) (.inl rfl) _).drew
set_option maxRecDepth 100000 in
set_option maxHeartbeats 1000000 in
theorem cut_raw10 (g i : Nat) (F : Nat → Int) (hi : i < 16) (l : Nat) (hl : l < 4) (hon : F (1 + i) = (l : Int)) (a : Nat) (ha : F (17 + i) = (a : Int)) (ha16 : a < 16) (hb : F (33 + i) = -1) (w : World) (hq : QF w g F) :
    Calls Try.prog 55 #[.pointer (some ⟨g, 0, none⟩), .int .i64 (i : Int)] w fun e w' => e = .returned (.tuple #[]) ∧ QF w' g (upd (upd (upd (upd (upd F (33 + a) (-1)) (53 + l) (a : Int)) (1 + i) (-1)) (17 + i) (-1)) (33 + i) (-1)) ∧ Chg (one g) w w' := by
  have c1 := hq.at (i := 1 + i) (by omega)
  have c2 := hq.at (i := 17 + i) (by omega)
  have c3 := hq.at (i := 33 + i) (by omega)
  rw [hon] at c1
  rw [ha] at c2
  rw [hb] at c3
  have gl := hq.lt
  have i16 : (i : Int) < 16 := by omega
  have l4 : (l : Int) < 4 := by omega
  have a16 : (a : Int) < 16 := by omega
  have t1 : ((a : Int) == -1) = false := by simp
  have t3 : ((-1 : Int) == -1) = true := rfl
  have HQ := hide hq
  clear hq
  clear hon ha hb
  go_enter Try.func55, Try.ntmps55
  go_upto_region 0 with fail
  go_region
  have HQ1 : Hid (QF w.drew g F) := hide (Blk.drew HQ.out)
  have HC1 : Hid (Chg (one g) w w.drew) := hide (Chg.refl _ _).drew
  generalize w.drew = W1 at HQ1 HC1 ⊢
  clear c1 c2 c3
  have k1 := HQ1.out.at (i := 33 + a) (by omega)
  have f1 := HQ1.out.frozen (33 + a)
  have gl1 := HQ1.out.lt
  go_upto_region 4 with fail
  generalize hW : World.setCell _ _ _ = W2
  have HQ2 : Hid (QF W2 g (upd F (33 + a) (-1))) := hide (by
    rw [← hW]
    exact HQ1.out.set_ (33 + a) (-1))
  have HC2 : Hid (Chg (one g) w W2) := hide (by
    rw [← hW]
    exact HC1.out.setCell (p := ⟨g, 33 + a, none⟩) (.inl rfl) _)
  clear hW k1 f1
  have k2 := HQ2.out.at (i := 53 + l) (by omega)
  have f2 := HQ2.out.frozen (53 + l)
  have gl2 := HQ2.out.lt
  go_upto_region 7 with fail
  generalize hW : World.setCell _ _ _ = W3
  have HQ3 : Hid (QF W3 g (upd (upd F (33 + a) (-1)) (53 + l) (a : Int))) := hide (by
    rw [← hW]
    exact HQ2.out.set_ (53 + l) (a : Int))
  have HC3 : Hid (Chg (one g) w W3) := hide (by
    rw [← hW]
    exact HC2.out.setCell (p := ⟨g, 53 + l, none⟩) (.inl rfl) _)
  clear hW k2 f2
  have k3 := HQ3.out.at (i := 1 + i) (by omega)
  have k4 := HQ3.out.at (i := 17 + i) (by omega)
  have k5 := HQ3.out.at (i := 33 + i) (by omega)
  have f3 := HQ3.out.frozen (1 + i)
  have f4 := HQ3.out.frozen (17 + i)
  have f5 := HQ3.out.frozen (33 + i)
  have gl3 := HQ3.out.lt
  go_region
  go_wp2_with fail
  go_end0
  refine ⟨rfl, Blk.drew (((HQ3.out.set_ (1 + i) (-1)).set_ (17 + i) (-1)).set_ (33 + i) (-1)), ?_⟩
  exact (((HC3.out.setCell (p := ⟨g, 1 + i, none⟩) (.inl rfl) _).setCell (p := ⟨g, 17 + i, none⟩) (.inl rfl) _).setCell (p := ⟨g, 33 + i, none⟩) (.inl rfl) _).drew
set_option maxRecDepth 100000 in
set_option maxHeartbeats 1000000 in
theorem cut_raw11 (g i : Nat) (F : Nat → Int) (hi : i < 16) (l : Nat) (hl : l < 4) (hon : F (1 + i) = (l : Int)) (a : Nat) (ha : F (17 + i) = (a : Int)) (ha16 : a < 16) (b : Nat) (hb : F (33 + i) = (b : Int)) (hb16 : b < 16) (w : World) (hq : QF w g F) :
    Calls Try.prog 55 #[.pointer (some ⟨g, 0, none⟩), .int .i64 (i : Int)] w fun e w' => e = .returned (.tuple #[]) ∧ QF w' g (upd (upd (upd (upd (upd F (33 + a) (b : Int)) (17 + b) (a : Int)) (1 + i) (-1)) (17 + i) (-1)) (33 + i) (-1)) ∧ Chg (one g) w w' := by
  have c1 := hq.at (i := 1 + i) (by omega)
  have c2 := hq.at (i := 17 + i) (by omega)
  have c3 := hq.at (i := 33 + i) (by omega)
  rw [hon] at c1
  rw [ha] at c2
  rw [hb] at c3
  have gl := hq.lt
  have i16 : (i : Int) < 16 := by omega
  have l4 : (l : Int) < 4 := by omega
  have a16 : (a : Int) < 16 := by omega
  have t1 : ((a : Int) == -1) = false := by simp
  have b16 : (b : Int) < 16 := by omega
  have t2 : ((b : Int) == -1) = false := by simp
  have HQ := hide hq
  clear hq
  clear hon ha hb
  go_enter Try.func55, Try.ntmps55
  go_upto_region 0 with fail
  go_region
  have HQ1 : Hid (QF w.drew g F) := hide (Blk.drew HQ.out)
  have HC1 : Hid (Chg (one g) w w.drew) := hide (Chg.refl _ _).drew
  generalize w.drew = W1 at HQ1 HC1 ⊢
  clear c1 c2 c3
  have k1 := HQ1.out.at (i := 33 + a) (by omega)
  have f1 := HQ1.out.frozen (33 + a)
  have gl1 := HQ1.out.lt
  go_upto_region 4 with fail
  generalize hW : World.setCell _ _ _ = W2
  have HQ2 : Hid (QF W2 g (upd F (33 + a) (b : Int))) := hide (by
    rw [← hW]
    exact HQ1.out.set_ (33 + a) (b : Int))
  have HC2 : Hid (Chg (one g) w W2) := hide (by
    rw [← hW]
    exact HC1.out.setCell (p := ⟨g, 33 + a, none⟩) (.inl rfl) _)
  clear hW k1 f1
  have k2 := HQ2.out.at (i := 17 + b) (by omega)
  have f2 := HQ2.out.frozen (17 + b)
  have gl2 := HQ2.out.lt
  go_upto_region 7 with fail
  generalize hW : World.setCell _ _ _ = W3
  have HQ3 : Hid (QF W3 g (upd (upd F (33 + a) (b : Int)) (17 + b) (a : Int))) := hide (by
    rw [← hW]
    exact HQ2.out.set_ (17 + b) (a : Int))
  have HC3 : Hid (Chg (one g) w W3) := hide (by
    rw [← hW]
    exact HC2.out.setCell (p := ⟨g, 17 + b, none⟩) (.inl rfl) _)
  clear hW k2 f2
  have k3 := HQ3.out.at (i := 1 + i) (by omega)
  have k4 := HQ3.out.at (i := 17 + i) (by omega)
  have k5 := HQ3.out.at (i := 33 + i) (by omega)
  have f3 := HQ3.out.frozen (1 + i)
  have f4 := HQ3.out.frozen (17 + i)
  have f5 := HQ3.out.frozen (33 + i)
  have gl3 := HQ3.out.lt
  go_region
  go_wp2_with fail
  go_end0
  refine ⟨rfl, Blk.drew (((HQ3.out.set_ (1 + i) (-1)).set_ (17 + i) (-1)).set_ (33 + i) (-1)), ?_⟩
  exact (((HC3.out.setCell (p := ⟨g, 1 + i, none⟩) (.inl rfl) _).setCell (p := ⟨g, 17 + i, none⟩) (.inl rfl) _).setCell (p := ⟨g, 33 + i, none⟩) (.inl rfl) _).drew
end Go.Proofs.Ytadlfebpaijbhaa.Lv
