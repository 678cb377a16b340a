/- A queue's rows, told: walked. -/
import Derived.Test.YtadlfebpaijbhaaLevCalls
import Derived.Test.YtadlfebpaijbhaaApp
namespace Go.Proofs.Ytadlfebpaijbhaa.Lv
open Go.RowKit Go.Proofs.Ytadlfebpaijbhaa.W
set_option linter.unusedVariables false
set_option linter.unusedSimpArgs false

theorem int_info : (Try.prog.info? 3).map (fun i => (i.zero, i.size, i.bytes)) = some (some (.int .i64 0), 1, 8) := by kernel_rfl
theorem info3 {P : Program} {t : TypeId} {z : Value} {n b : Nat} (h : (P.info? t).map (fun i => (i.zero, i.size, i.bytes)) = some (some z, n, b)) : ∃ i, P.info? t = some i ∧ i.zero = some z ∧ i.size = n ∧ i.bytes = b := by
  cases hq : P.info? t with
  | none => simp [hq] at h
  | some i =>
    simp [hq] at h
    exact ⟨i, rfl, h.1, h.2.1, h.2.2⟩
def toV (L : List Nat) : List Value := L.map fun (a : Nat) => Value.int .i64 (a : Int)
/-- What the making of a row stands on. -/
structure LAt (w : World) (g : Nat) (F : Nat → Int) (A : Option Addr) (k c : Nat) (L : List Nat) (x : Int) (wr : World) : Prop where
  q : Blk wr w.heap.size 48 #[.pointer (some ⟨g, 0, none⟩)]
  o : Blk wr (w.heap.size + 1) 41 #[.slice A k c]
  i : Blk wr (w.heap.size + 2) 3 #[.int .i64 x]
  own : wr.ownsRow (w.heap.size + 3) 3 1 (.slice A k c) k (toV L)
  F : QF wr g F
  lt : g < w.heap.size
  below : Below w.heap.size w wr
  size : w.heap.size + 3 ≤ wr.heap.size
theorem own_alloc {w : World} {base : Nat} {e : TypeId} {s : Nat} {v : Value} {n : Nat} {xs : List Value} (h : w.ownsRow base e s v n xs) (o : Obj) : (w.alloc o).ownsRow base e s v n xs := h.alloc o
theorem own_far {w : World} {base : Nat} {e : TypeId} {s : Nat} {v : Value} {n : Nat} {xs : List Value} (h : w.ownsRow base e s v n xs) {p : Addr} (hp : p.block < base) (u : Value) : (w.setCell p u).ownsRow base e s v n xs := ownsRow_setCell_below h hp u
set_option maxRecDepth 100000 in
set_option maxHeartbeats 1000000 in
theorem list1_any (w : World) (g : Nat) (F : Nat → Int) (A : Option Addr) (k c : Nat) (L : List Nat) (a : Nat) (y : Int) (ha : a < 16) (hk : k < 100) (hy : F (33 + a) = y) (b : Bool) (hb : (y != -1) = b) (wr : World) (h : LAt w g F A k c L (a : Int) wr) :
    Calls Try.prog 48 #[.pointer (some ⟨w.heap.size + 1, 0, none⟩), .pointer (some ⟨w.heap.size + 2, 0, none⟩), .pointer (some ⟨w.heap.size, 0, none⟩)] wr fun e w' => e = .returned (.bool b) ∧ ∃ A' c', LAt w g F A' (k + 1) c' (L ++ [a]) y w' := by
  obtain ⟨i0, hi0, hz0, hz1, hz2⟩ := info3 int_info
  have co := h.o.one_
  have ci := h.i.one_
  have fo := h.o.frozen 0
  have gl := h.lt
  have hsz := h.size
  have a16 : (a : Int) < 16 := by omega
  have H := hide h
  have HY := hide hy
  clear h hy
  go_enter Try.func48, Try.ntmps48
  go_upto_region 2 with (first
    | (at_builtin; refine wpList_append_at _ rfl (.tmp 4) (.tmp 6) 41 rfl (w.heap.size + 3) 3 i0 (.int .i64 0) 1 8 Try.underlying41 hi0 hz0 hz1 hz2 rfl (by decide) _ k _ rfl (by exact H.out.own.alloc _) ⟨wr.heap.size, 0, none⟩ 1 1 [.int .i64 (a : Int)] rfl rfl (by exact new_cell _ _ _ _ rfl) (by simp [Value.oneCell']) (by simp [maxLen]; omega) (by omega) (by simp; omega) ?_; intro v1 w1 hown1 hg1 hat1; have co1 := (kept_blk (H.out.own.alloc _) hg1 (H.out.o.alloc _) (by omega)).one_; have fo1 := (kept_blk (H.out.own.alloc _) hg1 (H.out.o.alloc _) (by omega)).frozen 0; obtain ⟨A1, c1, hv1⟩ := own_form hown1; subst hv1; have HOwn1 := hide hown1; have HG1 := hide hg1; clear hown1 hg1 hat1))
  generalize hW : World.setCell _ _ _ = W2
  have hg := HG1.out
  have HA2 : Hid (LAt w g F A1 (k + 1) c1 (L ++ [a]) (a : Int) W2) := hide (by
    rw [← hW]
    have own0 := H.out.own.alloc (.cells #[.int .i64 (a : Int)] 3)
    have hgs : (wr.alloc (.cells #[.int .i64 (a : Int)] 3)).grownBy w1 (Value.slice A k c).ownBlock := hg
    have q1 := kept_blk own0 hgs (H.out.q.alloc _) (by omega)
    have o1 := kept_blk own0 hgs (H.out.o.alloc _) (by omega)
    have i1 := kept_blk own0 hgs (H.out.i.alloc _) (by omega)
    have F1 : QF w1 g F := kept_blk own0 hgs (Blk.alloc H.out.F _) (by omega)
    have b1 := kept_below own0 hgs (H.out.below.alloc H.out.below.size _) (by omega) (by simp; omega)
    refine ⟨q1.far (by simp) _, ?_, i1.far (by simp) _, ?_, Blk.far F1 (by show g ≠ w.heap.size + 1; omega) _, gl, b1.setCell (by show w.heap.size ≤ w.heap.size + 1; omega) _, ?_⟩
    · exact o1.set_ 0 _
    · have := own_far HOwn1.out (p := ⟨w.heap.size + 1, 0, none⟩) (by show w.heap.size + 1 < w.heap.size + 3; omega) (Value.slice A1 (k + 1) c1)
      rw [show toV (L ++ [a]) = toV L ++ [.int .i64 (a : Int)] by simp [toV]]
      exact this
    · have := hgs.size
      simp at this
      show w.heap.size + 3 ≤ (w1.setCell _ _).heap.size
      simp [World.setCell]
      omega)
  clear hW hg HG1 HOwn1 co1 fo1 co ci fo
  have cq := HA2.out.q.one_
  have ci := HA2.out.i.one_
  have fi := HA2.out.i.frozen 0
  have cf := HA2.out.F.at (i := 33 + a) (by omega)
  rw [HY.out] at cf
  have gl2 := HA2.out.F.lt
  go_region
  generalize hW : World.drew _ = W3
  have HA3 : Hid (LAt w g F A1 (k + 1) c1 (L ++ [a]) y W3) := hide (by
    rw [← hW]
    have h := HA2.out
    refine ⟨(h.q.far (p := ⟨w.heap.size + 2, 0, none⟩) (by simp) _).drew, (h.o.far (p := ⟨w.heap.size + 2, 0, none⟩) (by simp) _).drew, (h.i.set_ 0 (.int .i64 y)).drew, ?_, Blk.drew (Blk.far h.F (p := ⟨w.heap.size + 2, 0, none⟩) (by show g ≠ w.heap.size + 2; omega) _), gl, below_drewN (h.below.setCell (p := ⟨w.heap.size + 2, 0, none⟩) (by show w.heap.size ≤ w.heap.size + 2; omega) _) 1, ?_⟩
    · exact own_same (own_far h.own (p := ⟨w.heap.size + 2, 0, none⟩) (by show w.heap.size + 2 < w.heap.size + 3; omega) (.int .i64 y)) rfl
    · have := h.size
      show w.heap.size + 3 ≤ (W2.setCell _ _).heap.size
      simp [World.setCell]
      omega)
  clear hW cq ci fi cf
  have ci3 := HA3.out.i.one_
  go_wp2_with fail
  go_ret
  exact ⟨rfl, A1, c1, HA3.out⟩
def ListRel (w : World) (g : Nat) (F : Nat → Int) (Rl : List Nat) (k : Nat) (s7 : Value) (wr : World) : Prop :=
  ∃ (P rest : List Nat) (A : Option Addr) (c : Nat) (x : Int) (b : Bool), Rl = P ++ rest ∧ s7 = .bool b ∧ (b = true → ∃ a L, rest = a :: L ∧ x = (a : Int)) ∧ (b = false → rest = []) ∧ k = rest.length ∧ LAt w g F A P.length c P x wr
/-- What List tells. -/
def ListE (L : List Nat) (w : World) (e : Ending) (w' : World) : Prop := ∃ A c, e = .returned (.slice A L.length c) ∧ w'.ownsRow w.heap.size 3 1 (.slice A L.length c) L.length (toV L) ∧ Below w.heap.size w w'
theorem own_weak {w : World} {base base' : Nat} {e : TypeId} {s : Nat} {v : Value} {n : Nat} {xs : List Value} (h : w.ownsRow base e s v n xs) (hb : base' ≤ base) : w.ownsRow base' e s v n xs := by
  refine ⟨h.1, ?_⟩
  rcases h.2 with h0 | ⟨g, cap, cur, hv, hbs, hg⟩
  · exact .inl h0
  · exact .inr ⟨g, cap, cur, hv, by omega, hg⟩
set_option maxRecDepth 100000 in
set_option maxHeartbeats 1000000 in
theorem list_any (g n l : Nat) (R : Nat → List Nat) (hl : l < 4) (w : World) (hq : QAt w g n R) : Calls Try.prog 31 #[.pointer (some ⟨g, 0, none⟩), .int .i64 (l : Int)] w (ListE (R l) w) := by
  have HQ := hide hq
  have hlen := len_le hq.good hl
  obtain ⟨F, hF, hR⟩ := hq
  have h16 := hR.n16
  have HFq := hide hF
  have HR := hide hR
  have HL := hide hl
  have gl := hF.lt
  have hz : ∀ w, (zeroValue 41).run Try.prog w = .ok (.slice none 0 0) w := fun w => by kernel_rfl
  have hmf : ∀ (fn : Fn) (first cap : Array Value) (w : World), (Instr.makeFunc fn first cap).run Try.prog w = .ok (.func fn first cap) w := fun _ _ _ _ => rfl
  have HF1 : Hid (∀ W, QAt W g n R → (∃ x b, (b = true → ∃ a L, R l = a :: L ∧ x = (a : Int)) ∧ (b = false → R l = []) ∧ Calls Try.prog 47 #[.pointer (some ⟨g, 0, none⟩), .int .i64 (l : Int)] W fun e w' => e = .returned (.tuple #[.int .i64 x, .bool b]) ∧ w' = W)) := hide (fun W hW => by
    cases hRl : R l with
    | nil => exact ⟨0, false, fun h => Bool.noConfusion h, fun _ => rfl, front_none g n l R hl hRl W hW⟩
    | cons a L => exact ⟨(a : Int), true, fun _ => ⟨a, L, rfl, rfl⟩, fun h => Bool.noConfusion h, front_some g n l a L R hl hRl W hW⟩)
  clear hF hR hl
  go_enter Try.func31, Try.ntmps31
  go_upto_region 2 with fail
  have HQ1 : Hid (QAt ((w.alloc (.cells #[.pointer (some ⟨g, 0, none⟩)] 48)).alloc (.cells #[.slice none 0 0] 41)) g n R) := hide (HQ.out.later (((Below.refl _ _).alloc (Nat.le_refl _) _).alloc (by simp) _))
  obtain ⟨x, b, hb1, hb2, hfr⟩ := HF1.out _ HQ1.out
  have HB1 := hide hb1
  have HB2 := hide hb2
  have HFr := hide hfr
  clear hb1 hb2 hfr
  go_wp2_with (first
    | (go_at_call 47; (with_reducible refine HFr.out.mono ?_); rintro e wx ⟨rfl, hw⟩; subst wx))
  go_loopg [7] (R l).length (fun k s7 wr => ListRel w g F (R l) k s7 wr)
  case atStart =>
    refine ⟨[], R l, none, 0, x, b, rfl, rfl, HB1.out, HB2.out, rfl, ?_⟩
    have b2 := ((Below.refl w.heap.size w).alloc (Nat.le_refl _) (.cells #[.pointer (some ⟨g, 0, none⟩)] 48)).alloc (by simp) (.cells #[.slice none 0 0] 41)
    refine ⟨((Blk.newAt w _ _ _ rfl).alloc _).alloc _, (Blk.newAt (w.alloc _) _ _ _ (by simp)).alloc _, Blk.newAt ((w.alloc _).alloc _) _ _ _ (by simp), ⟨rfl, .inl ⟨rfl, rfl⟩⟩, Blk.alloc (Blk.alloc (Blk.alloc HFq.out _) _) _, gl, b2.alloc (by simp; omega) _, by simp⟩
  case round =>
    obtain ⟨P, rest, A, c, x, b, hP, rfl, hb1, hb2, hk, hla⟩ := hrel
    have HLa := hide hla
    have HP := hide hP
    have hPl : P.length < 100 := by
      have := congrArg List.length hP
      rw [List.length_append] at this
      omega
    cases b with
    | true =>
      obtain ⟨a, L, rfl, rfl⟩ := hb1 rfl
      have ha16 : a < 16 := by
        have := HR.out.good.lt l HL.out a (by rw [hP]; simp)
        omega
      have hsg := HR.out.seg l HL.out
      rw [hP, seg_append] at hsg
      have hy : F (33 + a) = hd L (-1) := hsg.2.2.1
      obtain ⟨y, hyy⟩ : ∃ y, hd L (-1) = y := ⟨_, rfl⟩
      rw [hyy] at hy
      obtain ⟨b', hb'⟩ : ∃ b', (y != -1) = b' := ⟨_, rfl⟩
      have HN : Hid ((b' = true → ∃ a L', L = a :: L' ∧ y = (a : Int)) ∧ (b' = false → L = [])) := hide (by
        cases L with
        | nil =>
          have e3 : y = -1 := hyy.symm
          subst e3
          have : b' = false := hb'.symm
          subst this
          exact ⟨fun h => Bool.noConfusion h, fun _ => rfl⟩
        | cons d L' =>
          have e3 : y = (d : Int) := hyy.symm
          subst e3
          have e4 : b' = true := by rw [← hb']; simp
          subst e4
          exact ⟨fun _ => ⟨d, L', rfl, rfl⟩, fun h => Bool.noConfusion h⟩)
      have hgk : 0 < gk := by simp at hk; omega
      have HC := hide (list1_any w g F A P.length c P a y ha16 hPl hy b' hb' wr HLa.out)
      have hk' : gk - 1 = L.length := by simp at hk; omega
      clear hb1 hb2 hla hP hsg hy hyy hb' hk
      go_wp2_with (first
        | (go_at_call 48; (with_reducible refine HC.out.mono ?_); rintro e w2 ⟨rfl, A', c', h⟩; have HLa2 := hide h; clear h))
      go_roundg (gk - 1)
      case measure => omega
      case rel =>
        have h := HLa2.out
        refine ⟨P ++ [a], L, A', c', y, b', by rw [HP.out]; simp, rfl, HN.out.1, HN.out.2, hk', ?_⟩
        rw [show (P ++ [a]).length = P.length + 1 by simp]
        exact h
    | false =>
      have hrest := hb2 rfl
      subst hrest
      rw [List.append_nil] at hP
      subst hP
      have co := HLa.out.o.one_
      clear hb1 hb2 hla hk
      go_wp2_with fail
      go_ret
      exact ⟨A, c, rfl, own_weak HLa.out.own (by omega), HLa.out.below⟩
/-- Of no level at all. -/
theorem list_none (p : Option Addr) (l : Int) (hf : ∀ W, Calls Try.prog 47 #[.pointer p, .int .i64 l] W fun e w' => e = .returned (.tuple #[.int .i64 0, .bool false]) ∧ w' = W) (w : World) :
    Calls Try.prog 31 #[.pointer p, .int .i64 l] w fun e w' => e = .returned (.slice none 0 0) ∧ Below w.heap.size w w' := by
  have HF := hide hf
  have hz : ∀ w, (zeroValue 41).run Try.prog w = .ok (.slice none 0 0) w := fun w => by kernel_rfl
  have hmf : ∀ (fn : Fn) (first cap : Array Value) (w : World), (Instr.makeFunc fn first cap).run Try.prog w = .ok (.func fn first cap) w := fun _ _ _ _ => rfl
  clear hf
  go_enter Try.func31, Try.ntmps31
  go_wp2_with (first
    | (go_at_call 47; (with_reducible refine (HF.out _).mono ?_); rintro e wx ⟨rfl, hw⟩; subst wx))
  go_loopg [7] 0 (fun k s7 wr => k = 0 ∧ s7 = .bool false ∧ wr.cell? ⟨w.heap.size + 1, 0, none⟩ = some (.slice none 0 0) ∧ Below w.heap.size w wr)
  case atStart =>
    refine ⟨rfl, rfl, ?_, ((((Below.refl w.heap.size w).alloc (Nat.le_refl _) _).alloc (by simp) _).alloc (by simp; omega) _)⟩
    exact ((Blk.newAt (w.alloc _) _ _ _ (by simp)).alloc _).one_
  case round =>
    obtain ⟨rfl, rfl, hc, hb⟩ := hrel
    have HB := hide hb
    clear hb
    go_wp2_with fail
    go_ret
    exact ⟨rfl, HB.out⟩
end Go.Proofs.Ytadlfebpaijbhaa.Lv
