/- The contract of dice's order of numbers. -/
import Derived.Test.YthplghohhccojaaDiceSmall
import Derived.Test.YthplghohhccojaaApp
namespace Go.Proofs.Ythplghohhccojaa.Dice
open Go.RowKit Go.Proofs.Ythplghohhccojaa.W
set_option linter.unusedVariables false
set_option linter.unusedSimpArgs false

theorem int_info : (Try.prog.info? 3).map (fun i => (i.zero, i.size, i.bytes)) = some (some (.int .i64 0), 1, 8) := by kernel_rfl

def iv (x : Int) : Value := .int .i64 x
/-- The order that a draw tells of the numbers that are left. -/
def ordL : Nat → Int → List Int → List Int
  | 0, _, _ => []
  | n + 1, d, L => L.getD (d % ((n : Int) + 1)).toNat 0 :: ordL n (d / ((n : Int) + 1)) (L.eraseIdx (d % ((n : Int) + 1)).toNat)
def upto (n : Nat) : List Int := (List.range n).map Int.ofNat

theorem order_neg (draw n : Int) (w : World) (h : draw < 0) :
    Calls Try.prog 9 #[.int .i64 draw, .int .i64 n] w fun e w' => e = .returned (.tuple #[.slice none 0 0, .int .i64 3]) ∧ Below w.heap.size w w' := by
  have h' : decide (draw < 0) = true := by simpa using h
  have hb : Below w.heap.size w (w.alloc (.cells #[.int .i64 draw] 3)) := (Below.refl _ _).alloc (Nat.le_refl _) _
  go_enter Try.func9, Try.ntmps9
  go_wp2
  go_ret2
  exact ⟨rfl, hb⟩
theorem order_arg (draw n : Int) (w : World) (h : 0 ≤ draw) (hn : n < 0 ∨ 12 < n) :
    Calls Try.prog 9 #[.int .i64 draw, .int .i64 n] w fun e w' => e = .returned (.tuple #[.slice none 0 0, .int .i64 2]) ∧ Below w.heap.size w w' := by
  have h' : decide (draw < 0) = false := by simpa using h
  have hb : Below w.heap.size w (w.alloc (.cells #[.int .i64 draw] 3)) := (Below.refl _ _).alloc (Nat.le_refl _) _
  by_cases h1 : n < 0
  · have h1' : decide (n < 0) = true := by simpa using h1
    clear hn
    go_enter Try.func9, Try.ntmps9
    go_wp2
    go_ret2
    exact ⟨rfl, hb⟩
  · have h1' : decide (n < 0) = false := by simpa using h1
    have h2' : decide (12 < n) = true := by simp; omega
    clear hn
    go_enter Try.func9, Try.ntmps9
    go_wp2
    go_ret2
    exact ⟨rfl, hb⟩

theorem next_any (s g : Nat) (d : Int) (A : Option Addr) (n c : Nat) (w : World) (hd : Blk w s 3 #[.int .i64 d]) (hl : Blk w g 23 #[.slice A n c]) (h0 : 0 ≤ d) (h1 : d ≤ 9223372036854775807) (hn : 0 < n) (hn2 : n ≤ 12) :
    Calls Try.prog 15 #[.pointer (some ⟨s, 0, none⟩), .pointer (some ⟨g, 0, none⟩)] w fun e w' => e = .returned (.int .i64 (d % (n : Int))) ∧ ∃ q, w' = (w.setCell ⟨s, 0, none⟩ (.int .i64 (d / (n : Int)))).drewN q := by
  have c1 := hd.cell 0
  have f1 := hd.frozen 0
  have c2 := hl.cell 0
  simp at c1 c2
  clear hd hl
  go_enter Try.func15, Try.ntmps15
  go_wp2
  go_ret
  exact ⟨rfl, 0, rfl⟩

def FillRel (w : World) (d : Int) (n k : Nat) (s22 : Value) (wr : World) : Prop :=
  ∃ (i : Nat) (A : Option Addr) (c : Nat), s22 = .int .i64 (i : Int) ∧ i + k = n ∧ Blk wr w.heap.size 3 #[.int .i64 d] ∧ Blk wr (w.heap.size + 1) 23 #[.slice A i c] ∧
    wr.ownsRow (w.heap.size + 2) 3 1 (.slice A i c) i ((upto i).map (Value.int .i64)) ∧ Below w.heap.size w wr

def OrderPost (w : World) (n : Nat) (L : List Int) (e : Ending) (w' : World) : Prop :=
  ∃ A c, e = .returned (.tuple #[.slice A n c, .int .i64 0]) ∧ c ≤ maxLen ∧ n ≤ c ∧ IntsAt w' w'.heap.size A n L ∧ Below w.heap.size w w'

theorem upto_succ (i : Nat) : (upto (i + 1)).map (Value.int .i64) = (upto i).map (Value.int .i64) ++ [.int .i64 (i : Int)] := by
  simp only [upto, List.range_succ, List.map_append, List.map_cons, List.map_nil]
  rfl
theorem upto_len (n : Nat) : (upto n).length = n := by simp [upto]
/-- What is left: a slice at its block's head. -/
def LeftAt (w : World) (base : Nat) (A : Option Addr) (k c : Nat) (L : List Int) : Prop :=
  L.length = k ∧ k ≤ c ∧ (0 < k → ∃ g, A = some ⟨g, 0, none⟩ ∧ base ≤ g ∧ g < w.heap.size ∧ ∀ j x, L[j]? = some x → w.cell? ⟨g, j, none⟩ = some (.int .i64 x))
theorem LeftAt.of_own {w : World} {base k c : Nat} {A : Option Addr} {e : TypeId} {L : List Int} (h : w.ownsRow base e 1 (.slice A k c) k (L.map (Value.int .i64))) : LeftAt w base A k c L := by
  have hI := IntsAt.of_own h
  rcases h.2 with ⟨hv, h0⟩ | ⟨g, cap, cur, hv, hb, hg, hc, _⟩
  · have hc0 : c = 0 := by injection hv
    exact ⟨hI.1, by omega, fun hn => absurd hn (by omega)⟩
  · have hA : A = some ⟨g, 0, none⟩ := by injection hv
    have hcc : c = cap := by injection hv
    refine ⟨hI.1, by omega, fun hn => ?_⟩
    obtain ⟨b, off, e1, e2, e3⟩ := hI.2 hn
    rw [hA] at e1
    simp at e1
    obtain ⟨rfl, rfl⟩ := e1
    exact ⟨g, hA, hb, e2, fun j x hx => by have := e3 j x hx; rwa [Nat.zero_add] at this⟩

theorem LeftAt.keep {w w' : World} {base k c g : Nat} {L : List Int} (h : LeftAt w base (some ⟨g, 0, none⟩) k c L) (hs : w.heap.size ≤ w'.heap.size) (hk : g < w.heap.size → w'.heap[g]? = w.heap[g]?) : LeftAt w' base (some ⟨g, 0, none⟩) k c L :=
  ⟨h.1, h.2.1, fun hn => by
    obtain ⟨g', e, h1, h2, h3⟩ := h.2.2 hn
    have : g = g' := by simpa using e
    subst this
    exact ⟨g, rfl, h1, by omega, fun j x hx => (World.cell?_of_block (hk h2)).trans (h3 j x hx)⟩⟩

theorem olds_at {w : World} {base k c g kk : Nat} {L : List Int} (h : LeftAt w base (some ⟨g, 0, none⟩) k c L) (hpos : 0 < k) :
    ∀ j u, ((L.take kk).map (Value.int .i64))[j]? = some u → w.drew.cell? ⟨g, 0 + j, none⟩ = some u := by
  intro j u hu
  obtain ⟨hl1, _, hh⟩ := h
  obtain ⟨g', e, _, _, hc⟩ := hh hpos
  have : g = g' := by simpa using e
  subst this
  rw [List.getElem?_map, List.getElem?_take] at hu
  split at hu
  · cases hj : L[j]? with
    | none => rw [hj] at hu; cases hu
    | some y =>
      rw [hj] at hu
      have := hc j y hj
      rw [Nat.zero_add]
      simp at hu
      rw [← hu]
      exact this
  · cases hu
theorem news_at {w : World} {base k c g kk : Nat} {L : List Int} (h : LeftAt w base (some ⟨g, 0, none⟩) k c L) (hpos : 0 < k) :
    ∀ j u, ((L.drop (kk + 1)).map (Value.int .i64))[j]? = some u → w.drew.cell? ((⟨g, kk + 1, none⟩ : Addr).add j) = some u := by
  intro j u hu
  obtain ⟨hl1, _, hh⟩ := h
  obtain ⟨g', e, _, _, hc⟩ := hh hpos
  have : g = g' := by simpa using e
  subst this
  rw [List.getElem?_map, List.getElem?_drop] at hu
  cases hj : L[kk + 1 + j]? with
  | none => rw [hj] at hu; cases hu
  | some y =>
    rw [hj] at hu
    have := hc _ y hj
    rw [Go.WideShapes.add_plain]
    simp at hu
    rw [← hu]
    exact this

/-- What stands behind the append of the number that was taken. -/
theorem round_facts {w wr w1 : World} {d dd x : Int} {g gk c m co q : Nat} {Ao : Option Addr} {L outs : List Int}
    (hd : Blk wr w.heap.size 3 #[.int .i64 d]) (hl : Blk wr (w.heap.size + 1) 23 #[.slice (some ⟨g, 0, none⟩) gk c]) (hleft : LeftAt wr (w.heap.size + 2) (some ⟨g, 0, none⟩) gk c L) (hpos : 0 < gk)
    (hne : (Value.slice Ao m co).ownBlock ≠ some g) (hown : wr.ownsRow (w.heap.size + 2) 3 1 (.slice Ao m co) m (outs.map (Value.int .i64))) (hb : Below w.heap.size w wr)
    (hg1 : (((wr.setCell ⟨w.heap.size, 0, none⟩ (.int .i64 dd)).alloc (.cells #[.int .i64 x] 3)).drewN q).grownBy w1 (Value.slice Ao m co).ownBlock) :
    Blk w1 w.heap.size 3 #[.int .i64 dd] ∧ Blk w1 (w.heap.size + 1) 23 #[.slice (some ⟨g, 0, none⟩) gk c] ∧ LeftAt w1 (w.heap.size + 2) (some ⟨g, 0, none⟩) gk c L ∧ Below w.heap.size w w1 := by
  have hS : ∀ k, (Value.slice Ao m co).ownBlock = some k → w.heap.size + 2 ≤ k := fun k hk => (hown.lt k hk).1
  have hgg : w.heap.size + 2 ≤ g := by
    obtain ⟨g', e, h1, _⟩ := hleft.2.2 hpos
    have : g = g' := by simpa using e
    omega
  refine ⟨?_, ?_, ?_, ?_⟩
  · exact Blk.chg (S := fun k => w.heap.size + 2 ≤ k) (((hd.set_ 0 _).alloc _).drewN q) (Chg.of_grown hg1 hS) (by omega)
  · exact Blk.chg (S := fun k => w.heap.size + 2 ≤ k) (((hl.far (p := ⟨w.heap.size, 0, none⟩) (by simp) _).alloc _).drewN q) (Chg.of_grown hg1 hS) (by omega)
  · refine hleft.keep ?_ (fun hlt => ?_)
    · have := hg1.size
      simp at this
      omega
    · have h1 := hg1.block g (by simp; omega) (fun e => hne e.symm)
      rw [h1]
      show ((wr.setCell ⟨w.heap.size, 0, none⟩ (.int .i64 dd)).alloc (.cells #[.int .i64 x] 3)).heap[g]? = _
      rw [Below.heap_alloc _ _ _ (by simp; omega), Below.heap_setCell _ _ _ _ (by simp; omega)]
  · refine Below.grown (w := ((wr.setCell ⟨w.heap.size, 0, none⟩ (.int .i64 dd)).alloc (.cells #[.int .i64 x] 3)).drewN q) ?_ hg1 (by simp; have := hb.size; omega) (fun k hk => by have := hS k hk; omega)
    exact below_drewN ((hb.setCell (p := ⟨w.heap.size, 0, none⟩) (Nat.le_refl _) _).alloc (by simpa using hb.size) _) q

def DrawRel (w : World) (n : Nat) (R : List Int) (k : Nat) (s7 : Value) (wr : World) : Prop :=
  ∃ (d : Int) (A Ao : Option Addr) (c co m : Nat) (L outs : List Int), s7 = .slice Ao m co ∧ m + k = n ∧ 0 ≤ d ∧ d ≤ 9223372036854775807 ∧ Blk wr w.heap.size 3 #[.int .i64 d] ∧ Blk wr (w.heap.size + 1) 23 #[.slice A k c] ∧
    LeftAt wr (w.heap.size + 2) A k c L ∧ (0 < k → ∀ g, A = some ⟨g, 0, none⟩ → (Value.slice Ao m co).ownBlock ≠ some g) ∧
    wr.ownsRow (w.heap.size + 2) 3 1 (.slice Ao m co) m (outs.map (Value.int .i64)) ∧ outs ++ ordL k d L = R ∧ Below w.heap.size w wr

theorem below_same {B : Nat} {a b c : World} (h : Below B a b) (e1 : c.heap = b.heap) (e2 : c.os = b.os) (e3 : c.tape = b.tape) (e4 : c.output = b.output) : Below B a c :=
  ⟨e2.trans h.os, e3.trans h.tape, e4.trans h.output, by rw [e1]; exact h.size, by rw [e1]; exact h.block⟩

theorem draw_next {w w1 w3 W : World} {dd x : Int} {n gk m c3 c1 : Nat} {A1 A3 : Option Addr} {v : Value} {L' outs R : List Int}
    (hd : Blk w1 w.heap.size 3 #[.int .i64 dd]) (hl : Blk w1 (w.heap.size + 1) 23 #[v]) (hb : Below w.heap.size w w1) (h0 : 0 ≤ dd) (h1 : dd ≤ 9223372036854775807)
    (hown : w1.ownsRow (w.heap.size + 2) 3 1 (.slice A1 (m + 1) c1) (m + 1) (outs.map (Value.int .i64) ++ [.int .i64 x]))
    (hg3 : w1.grownBy w3 none) (hleft : LeftAt w3 (w.heap.size + 2) A3 gk c3 L') (hne : 0 < gk → ∀ g, A3 = some ⟨g, 0, none⟩ → (Value.slice A1 (m + 1) c1).ownBlock ≠ some g)
    (hm : m + 1 + gk = n) (hord : outs ++ [x] ++ ordL gk dd L' = R)
    (e1 : W.heap = (w3.setCell ⟨w.heap.size + 1, 0, none⟩ (.slice A3 gk c3)).heap) (e2 : W.os = w3.os) (e3 : W.tape = w3.tape) (e4 : W.output = w3.output) :
    DrawRel w n R gk (.slice A1 (m + 1) c1) W := by
  have hc3 : Chg none1 w1 w3 := Chg.of_grown hg3 (fun k hk => by cases hk)
  have hsz := hl.lt
  have hown3 : w3.ownsRow (w.heap.size + 2) 3 1 (.slice A1 (m + 1) c1) (m + 1) (outs.map (Value.int .i64) ++ [.int .i64 x]) := by
    cases hob : (Value.slice A1 (m + 1) c1).ownBlock with
    | none => exact hown.kept hg3 (.inl hob)
    | some k => exact hown.kept hg3 (.inr (by rw [hob]; simp))
  refine ⟨dd, A3, A1, c3, c1, m + 1, L', outs ++ [x], rfl, hm, h0, h1, ?_, ?_, ?_, hne, ?_, hord, ?_⟩
  · exact Blk.same ((hd.chg hc3 (fun h => h)).far (p := ⟨w.heap.size + 1, 0, none⟩) (by simp) _) e1
  · exact Blk.same ((hl.chg hc3 (fun h => h)).set_ 0 _) e1
  · refine ⟨hleft.1, hleft.2.1, fun hp => ?_⟩
    obtain ⟨g, hA, hb3, hlt, hc⟩ := hleft.2.2 hp
    refine ⟨g, hA, hb3, by rw [e1]; simpa using hlt, fun j y hy => ?_⟩
    rw [← hc j y hy]
    refine World.cell?_of_block ?_
    rw [e1]
    exact Below.heap_setCell _ _ _ _ (by simp; omega)
  · have h := ownsRow_setCell_other hown3 (a := ⟨w.heap.size + 1, 0, none⟩) (fun e => by have := (hown3.lt _ e).1; simp at this) (.slice A3 gk c3)
    refine own_same ?_ e1
    rw [List.map_append]
    exact h
  · refine below_same ((hb.grown hg3 hb.size (fun k hk => by cases hk)).setCell (p := ⟨w.heap.size + 1, 0, none⟩) (by simp) (.slice A3 gk c3)) e1 e2 e3 e4

set_option maxRecDepth 100000 in
set_option maxHeartbeats 2000000 in
theorem order_ok (d : Int) (n : Nat) (w : World) (h0 : 0 ≤ d) (h1 : d ≤ 9223372036854775807) (hn : n ≤ 12) :
    Calls Try.prog 9 #[.int .i64 d, .int .i64 (n : Int)] w (OrderPost w n (ordL n d (upto n))) := by
  have hmf : ∀ (fn : Fn) (first cap : Array Value) (w : World), (Instr.makeFunc fn first cap).run Try.prog w = .ok (.func fn first cap) w := fun _ _ _ _ => rfl
  have h0' : decide (d < 0) = false := by simpa using h0
  have h1' : decide ((n : Int) < 0) = false := by simp
  have h2' : decide (12 < (n : Int)) = false := by simp; omega
  obtain ⟨i0, hi, hz0, hz1, hz2⟩ := info_parts int_info
  go_enter Try.func9, Try.ntmps9
  go_wp2_with fail
  go_loopg [22] n (fun k s22 wr => FillRel w d n k s22 wr)
  case atStart =>
    refine ⟨0, none, 0, rfl, by omega, ?_, ?_, ⟨by simp [upto], .inl ⟨rfl, rfl⟩⟩, ?_⟩
    · exact ((Blk.new w _ _).alloc _).same rfl
    · have h := Blk.new (w.alloc (.cells #[.int .i64 d] 3)) 23 #[.slice none 0 0]
      rw [World.size_alloc] at h
      exact h.same rfl
    · exact ((Below.refl _ _).alloc (Nat.le_refl _) _).alloc (by simp) _
  case round =>
    obtain ⟨i, A, c, rfl, hk, hd, hl, hown, hb⟩ := hrel
    have HD := hide hd
    have HL := hide hl
    have HB := hide hb
    have HK := hide hk
    have hsz := hl.lt
    by_cases hlt : i < n
    · have cl := hl.cell 0
      simp at cl
      have hlt' : (i : Int) < (n : Int) := by omega
      clear hd hl hb hk
      go_wp2_with (first
        | (at_builtin; refine wpList_append_at _ rfl (.tmp 25) (.tmp 27) 23 rfl (w.heap.size + 2) 3 i0 (.int .i64 0) 1 8 Try.underlying23 hi hz0 hz1 hz2 rfl (by decide) _ i _ rfl (hown.alloc _) ⟨wr.heap.size, 0, none⟩ 1 1 [.int .i64 (i : Int)] rfl rfl (cell_one_new _ _ _) (by simp [Value.oneCell']) (by simp [maxLen]; omega) (by omega) (by simp; omega) ?_; intro v1 w1 hown1 hg1 _; have cl1 := (kept_blk (hown.alloc _) hg1 (HL.out.alloc _) (by omega)).cell 0; simp at cl1; have fl1 := (kept_blk (hown.alloc _) hg1 (HL.out.alloc _) (by omega)).frozen 0; obtain ⟨A1, c1, hv1⟩ := own_form hown1; have HV := hide hown1; clear hown1))
      have hown1 := HV.out
      have hk := HK.out
      rw [hv1] at hown1
      go_roundg (gk - 1)
      case measure => omega
      case rel =>
        refine ⟨i + 1, A1, c1, by go_num, by omega, ?_, ?_, ?_, ?_⟩
        · exact (kept_blk (hown.alloc _) hg1 (HD.out.alloc _) (by omega)).far (by simp) _
        · exact (kept_blk (hown.alloc _) hg1 (HL.out.alloc _) (by omega)).set_ 0 _
        · rw [upto_succ]
          exact ownsRow_setCell_other hown1 (fun e => by have := (hown1.lt _ e).1; simp at this) _
        · exact (kept_below (hown.alloc _) hg1 (HB.out.alloc HB.out.size _) (by omega) (by have := HB.out.size; simp; omega)).setCell (by simp) _
    · obtain rfl : i = n := by omega
      have cl := hl.cell 0
      simp at cl
      have hlt' : decide (i < i) = false := by simp
      clear hd hl hb hk
      go_wp2_with fail
      go_loopg [7] i (fun k s7 wr' => DrawRel w i (ordL i d (upto i)) k s7 wr')
      case atStart => exact ⟨d, A, none, c, 0, 0, upto i, [], rfl, by omega, h0, h1, HD.out, HL.out, LeftAt.of_own hown, fun _ g _ => by simp [Value.ownBlock], ⟨rfl, .inl ⟨rfl, rfl⟩⟩, rfl, HB.out⟩
      case round =>
        clear hown cl
        obtain ⟨d', A', Ao, c', co, m, L, outs, rfl, hm, hd0, hd1, hd, hl, hleft, hne, hown, hord, hb⟩ := hrel
        have HD' := hide hd
        have HL' := hide hl
        have HB' := hide hb
        have HO := hide hord
        have HLeft := hide hleft
        have HNe := hide hne
        have HOw0 := hide hown
        have cl := hl.cell 0
        simp at cl
        by_cases hz : gk = 0
        · subst hz
          clear hd hl hb hleft hne hord
          go_wp2_with fail
          go_ret2
          have hord := HO.out
          simp only [ordL, List.append_nil] at hord
          obtain rfl : m = i := by omega
          have hcm : co ≤ maxLen ∧ m ≤ co := by
            rcases HOw0.out.2 with ⟨hv, h0⟩ | ⟨g, cap, cur, hv, _, _, h1, h2, _⟩
            · have : co = 0 := by injection hv
              exact ⟨by omega, by omega⟩
            · have : co = cap := by injection hv
              exact ⟨by omega, by omega⟩
          refine ⟨Ao, co, rfl, hcm.1, hcm.2, ?_, HB'.out⟩
          rw [← hord]
          exact IntsAt.of_own HOw0.out
        · have hpos : 0 < gk := by omega
          have hgk : gk ≤ 12 := by omega
          obtain ⟨hlen, hkc, hg⟩ := hleft
          obtain ⟨g, rfl, hgb, hglt, hgc⟩ := hg hpos
          obtain ⟨kk, hkk, hkk2⟩ : ∃ kk : Nat, d' % (gk : Int) = (kk : Int) ∧ kk < gk := ⟨(d' % (gk : Int)).toNat, by
            have := Int.emod_nonneg d' (show (gk : Int) ≠ 0 by omega)
            omega, by
            have := Int.emod_lt_of_pos d' (show (0 : Int) < gk by omega)
            omega⟩
          obtain ⟨dd, hdd⟩ : ∃ dd, d' / (gk : Int) = dd := ⟨_, rfl⟩
          obtain ⟨x, hx⟩ : ∃ x, L[kk]? = some x := ⟨_, List.getElem?_eq_getElem (by omega)⟩
          have cx := hgc kk x hx
          have HX := hide hx
          have hpos' : (0 : Int) < (gk : Int) := by omega
          have hkk2' : (kk : Int) < (gk : Int) := by omega
          have s0 : w.heap.size ≠ g := by omega
          have s1 : w.heap.size ≠ w.heap.size + 1 := by omega
          clear hd hl hb hord hne hz hgc hx
          have HOwn := hide hown
          go_wp2_with (first
            | (go_at_call 15; refine (next_any w.heap.size (w.heap.size + 1) d' _ gk c' wr HD'.out HL'.out hd0 hd1 hpos hgk).mono ?_; rintro e w' ⟨rfl, q, rfl⟩)
            | (at_builtin; refine wpList_append_at _ rfl (.tmp 36) (.tmp 41) 23 rfl (w.heap.size + 2) 3 i0 (.int .i64 0) 1 8 Try.underlying23 hi hz0 hz1 hz2 rfl (by decide) _ m _ rfl (by exact own_same ((ownsRow_setCell_below HOwn.out (a := ⟨w.heap.size, 0, none⟩) (by simp) _).alloc _) rfl) ⟨wr.heap.size, 0, none⟩ 1 1 [.int .i64 x] rfl rfl (by exact new_cell _ _ _ _ (by simp)) (by simp [Value.oneCell']) (by simp [maxLen]; omega) (by omega) (by simp; omega) ?_; intro v1 w1 hown1 hg1 hat1))
          obtain ⟨fd, fl, fleft, fb⟩ := round_facts HD'.out HL'.out HLeft.out hpos (HNe.out hpos g rfl) HOwn.out HB'.out hg1
          have FD := hide fd
          have FL := hide fl
          have FLeft := hide fleft
          have FB := hide fb
          have HOwn1 := hide hown1
          have HG1 := hide hg1
          have cl1 := fl.cell 0
          have fl1 := fl.frozen 0
          simp at cl1
          clear fd fl fleft fb hown1 hg1 hown cx
          have q1 : (kk : Int) ≤ (c' : Int) := by omega
          have q2 : (kk : Int) + 1 ≤ (gk : Int) := by omega
          have q3 : IntKind.i64.wrap ((kk : Int) + 1) = (kk : Int) + 1 := IntWalk.i64_in _ (by omega)
          have q4 : 0 ≤ (kk : Int) + 1 := by omega
          have q5 : ((kk : Int) + 1).toNat = kk + 1 := by omega
          have hL' : (L.eraseIdx kk).map (Value.int .i64) = (L.take kk).map (Value.int .i64) ++ (L.drop (kk + 1)).map (Value.int .i64) := by
            rw [List.eraseIdx_eq_take_drop_succ, List.map_append]
          have HLe := hide hL'
          have hord' : outs ++ [x] ++ ordL (gk - 1) dd (L.eraseIdx kk) = ordL i d (upto i) := by
            rw [← HO.out]
            obtain ⟨k, rfl⟩ : ∃ k, gk = k + 1 := ⟨gk - 1, by omega⟩
            have e1 : d' % ((k : Int) + 1) = kk := hkk
            have e2 : d' / ((k : Int) + 1) = dd := hdd
            simp only [ordL, e1, e2, Int.toNat_natCast, List.getD_eq_getElem?_getD, HX.out, Option.getD_some, List.append_assoc, List.singleton_append, Nat.add_sub_cancel]
          have HO' := hide hord'
          have hlenE : (L.eraseIdx kk).length = gk - 1 := by
            rw [List.length_eraseIdx, if_pos (by omega)]
            omega
          have HLenE := hide hlenE
          have hdd0 : 0 ≤ dd ∧ dd ≤ 9223372036854775807 := by
            rw [← hdd]
            exact ⟨Int.ediv_nonneg hd0 (by omega), Int.le_trans (Int.ediv_le_self _ hd0) hd1⟩
          have HDD := hide hdd0
          clear hL' hord' hlenE hdd0
          by_cases hcap : c' = kk + 1
          · have hcap' : kk + 1 = c' := hcap.symm
            have hge : gk ≤ c' := hkc
            clear hcap
            go_still_tail 8, (by kernel_rfl)
            change wpList _ _ _ _ _ w1.drew
            refine wpList_append_arg w1.drew rfl (.tmp 46) (.tmp 50) 23 rfl 3 i0 (.int .i64 0) 1 8 Try.underlying23 hi hz0 hz1 hz2 rfl (by decide) g 0 kk kk ((L.take kk).map (Value.int .i64)) rfl ?yalo ?yaolds _ _ _ [] rfl ?yan ?yac ?yah1 ?yaspare ?yab1 ?yab2 ?yaroom ?yagrow
            case yalo => simp; omega
            case yaolds => exact olds_at FLeft.out hpos
            case yan => first | (simp; done) | (simp; omega)
            case yac => intro j u hu; simp at hu
            case yah1 => intro u hu; cases hu
            case yaspare => intro hroom j hj; simp at hj
            case yab1 => simp [maxLen]; omega
            case yab2 => omega
            case yagrow => intro h; omega
            case yaroom =>
              intro hroom
              rw [Nat.le_antisymm hroom (Nat.le_add_right kk _)]
              have hgk1 : gk - 1 = kk := by omega
              obtain ⟨A1, c1, hv1⟩ := own_form HOwn1.out
              have HV1 := hide hv1
              clear hv1 hroom
              change wpList _ _ _ _ _ w1.drew
              go_wp2_with fail
              have hown1 := HOwn1.out
              rw [HV1.out] at hown1 ⊢
              rw [← hgk1]
              go_roundg (gk - 1)
              case measure => omega
              case rel =>
                refine draw_next FD.out FL.out FB.out HDD.out.1 HDD.out.2 hown1 (World.grownBy.refl w1 _) (A3 := some ⟨g, 0, none⟩) (c3 := gk - 1) ?_ ?_ (by omega) HO'.out rfl rfl rfl rfl
                · refine ⟨HLenE.out, Nat.le_refl _, fun hp => ?_⟩
                  obtain ⟨hl1, _, hh⟩ := FLeft.out
                  obtain ⟨g', e, h1, h2, h3⟩ := hh hpos
                  have : g = g' := by simpa using e
                  subst this
                  refine ⟨g, rfl, h1, h2, fun j y hy => h3 j y ?_⟩
                  rw [List.eraseIdx_eq_take_drop_succ, List.drop_of_length_le (by omega), List.append_nil, List.getElem?_take] at hy
                  split at hy
                  · exact hy
                  · cases hy
                · intro hp g' e
                  have : g = g' := by simpa using e
                  subst this
                  have hh := HNe.out hpos g rfl
                  rw [HV1.out] at hat1
                  rcases hat1 with h | h
                  · rw [h]; exact hh
                  · rw [h]; simp; omega
          · have hcap2 : ¬ c' ≤ kk + 1 := by omega
            go_still_tail 8, (by kernel_rfl)
            change wpList _ _ _ _ _ w1.drew
            refine wpList_append_arg w1.drew rfl (.tmp 46) (.tmp 50) 23 rfl 3 i0 (.int .i64 0) 1 8 Try.underlying23 hi hz0 hz1 hz2 rfl (by decide) g 0 kk kk ((L.take kk).map (Value.int .i64)) rfl ?zalo ?zaolds ⟨g, kk + 1, none⟩ (gk - (kk + 1)) _ ((L.drop (kk + 1)).map (Value.int .i64)) rfl ?zan ?zac ?zah1 ?zaspare ?zab1 ?zab2 ?zaroom ?zagrow
            case zalo => simp; omega
            case zaolds =>
              exact olds_at FLeft.out hpos
            case zan => simp; omega
            case zac =>
              exact news_at FLeft.out hpos
            case zah1 =>
              intro u hu
              obtain ⟨y, _, rfl⟩ := List.mem_map.1 hu
              simp [Value.oneCell']
            case zaspare =>
              intro hroom j hj
              simp at hj
              omega
            case zab1 => simp [maxLen]; omega
            case zab2 => omega
            case zaroom =>
              intro hroom
              have hdrop : L.drop (kk + 1) = [] := List.drop_of_length_le (by have := FLeft.out.1; omega)
              rw [hdrop]
              rw [Nat.le_antisymm hroom (Nat.le_add_right kk _)]
              have hgk1 : gk - 1 = kk := by omega
              obtain ⟨A1, c1, hv1⟩ := own_form HOwn1.out
              have HV1 := hide hv1
              clear hv1 hroom
              change wpList _ _ _ _ _ w1.drew
              go_wp2_with fail
              have hown1 := HOwn1.out
              rw [HV1.out] at hown1 ⊢
              rw [← hgk1]
              go_roundg (gk - 1)
              case measure => omega
              case rel =>
                refine draw_next FD.out FL.out FB.out HDD.out.1 HDD.out.2 hown1 (World.grownBy.refl w1 _) (A3 := some ⟨g, 0, none⟩) (c3 := gk - 1) ?_ ?_ (by omega) HO'.out rfl rfl rfl rfl
                · refine ⟨HLenE.out, Nat.le_refl _, fun hp => ?_⟩
                  obtain ⟨hl1, _, hh⟩ := FLeft.out
                  obtain ⟨g', e, h1, h2, h3⟩ := hh hpos
                  have : g = g' := by simpa using e
                  subst this
                  refine ⟨g, rfl, h1, h2, fun j y hy => h3 j y ?_⟩
                  rw [List.eraseIdx_eq_take_drop_succ, List.drop_of_length_le (by omega), List.append_nil, List.getElem?_take] at hy
                  split at hy
                  · exact hy
                  · cases hy
                · intro hp g' e
                  have : g = g' := by simpa using e
                  subst this
                  have hh := HNe.out hpos g rfl
                  rw [HV1.out] at hat1
                  rcases hat1 with h | h
                  · rw [h]; exact hh
                  · rw [h]; simp; omega
            case zagrow =>
              intro hcapg v3 w3 hown3 hg3
              have cl3 := ((Blk.drew FL.out).chg (Chg.of_grown hg3 (S := none1) (fun k hk => by cases hk)) (fun h => h)).cell 0
              have fl3 := ((Blk.drew FL.out).chg (Chg.of_grown hg3 (S := none1) (fun k hk => by cases hk)) (fun h => h)).frozen 0
              simp at cl3
              obtain ⟨A3, c3, hv3⟩ := own_form hown3
              have HOwn3 := hide hown3
              have HG3 := hide hg3
              clear hown3 hg3
              obtain ⟨A1, c1, hv1⟩ := own_form HOwn1.out
              have HV1 := hide hv1
              clear hv1
              go_wp2_with fail
              have hown1 := HOwn1.out
              have hown3 := HOwn3.out
              have hgk1 : kk + (gk - (kk + 1)) = gk - 1 := by omega
              rw [hv3, hgk1, ← HLe.out] at hown3
              rw [hgk1]
              rw [HV1.out] at hown1 ⊢
              go_roundg (gk - 1)
              case measure => omega
              case rel =>
                refine draw_next FD.out FL.out FB.out HDD.out.1 HDD.out.2 hown1 (w3 := w3) ?_ (A3 := A3) (c3 := c3) ?_ ?_ (by omega) HO'.out rfl rfl rfl rfl
                · exact ⟨HG3.out.os, HG3.out.tape, HG3.out.output, HG3.out.size, HG3.out.block⟩
                · have hh := LeftAt.of_own hown3
                  refine ⟨hh.1, hh.2.1, fun hp => ?_⟩
                  obtain ⟨g', e, h1, h2, h3⟩ := hh.2.2 hp
                  exact ⟨g', e, by have := FB.out.size; have := FL.out.lt; simp at h1; omega, h2, h3⟩
                · intro hp g' e hob
                  have h1 := (hown1.lt _ hob).2
                  have h3 := (hown3.lt g' (by rw [e]; rfl)).1
                  simp at h3
                  omega
end Go.Proofs.Ythplghohhccojaa.Dice
