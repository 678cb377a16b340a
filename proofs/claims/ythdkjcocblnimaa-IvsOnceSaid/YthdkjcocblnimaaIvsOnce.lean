/- The law of ivs' numbers that come once, walked. -/
import Derived.Test.YthdkjcocblnimaaIvsDo
namespace Go.Proofs.Ythdkjcocblnimaa.Ivs
open Go.RowKit Go.Proofs.Ythdkjcocblnimaa.W
set_option linter.unusedVariables false
set_option linter.unusedSimpArgs false

def zeros : Array Value := Array.replicate 256 (.bool false)
theorem zero_seen (w : World) : (zeroValue 38).run Try.prog w = .ok (.agg zeros) w := by kernel_rfl

/-- Which numbers have been given out: all lie below n. -/
def Seen (w : World) (g : Nat) (n : Int) : Prop :=
  ∃ cs : Array Value, Blk w g 38 cs ∧ cs.size = 256 ∧ ∀ k : Nat, k < 256 → n ≤ (k : Int) → cs[k]? = some (.bool false)
theorem Seen.mono {w : World} {g : Nat} {n n' : Int} (h : Seen w g n) (hn : n ≤ n') : Seen w g n' := by
  obtain ⟨cs, h1, h2, h3⟩ := h
  exact ⟨cs, h1, h2, fun k hk hle => h3 k hk (by omega)⟩
theorem Seen.set {w : World} {g : Nat} {n : Nat} (h : Seen w g n) (hn : n < 256) : Seen (w.setCell ⟨g, n, none⟩ (.bool true)) g ((n : Int) + 1) := by
  obtain ⟨cs, h1, h2, h3⟩ := h
  refine ⟨_, h1.set_ n _, by simpa using h2, fun k hk hle => ?_⟩
  rw [Array.getElem?_setIfInBounds]
  rw [if_neg (by omega)]
  exact h3 k hk (by omega)

def OnceRel (w : World) (B gs : Nat) (m : Int) (len : Nat) (k : Nat) (s6 s10 : Value) (wr : World) : Prop :=
  ∃ (i g n : Nat) (t : Int), s6 = .pointer (some ⟨g, 0, none⟩) ∧ s10 = .int .i64 (i : Int) ∧ i + k = 120 ∧ i ≤ len ∧ B ≤ g ∧ IsRow wr g n t m ∧ IsRef wr (B + 1) n t m ∧ Seen wr gs n ∧ Inv n t m ∧ Below B w wr

set_option maxRecDepth 100000 in
set_option maxHeartbeats 2000000 in
theorem ivsOnce_walk (a : Int) (A : Option Addr) (len c : Nat) (K X : Nat → Int) (w : World) (a0 : 0 ≤ a) (a1 : a < 256) (hl : len ≤ maxLen) (hA : Holds w w.heap.size 2 A len (actAt K X)) :
    Calls Try.prog 4 #[.int .u8 a, .slice A len c] w fun e w' => e = .returned (.bool true) ∧ Below w.heap.size w w' := by
  unfold maxLen at hl
  have HA := hide hA
  have hz := zero_seen
  have hx : IsRef ((w.alloc (.cells #[.int .i64 0, .int .i64 0, .int .i64 (a + 1)] 49)).alloc (.cells #[.int .i64 0, .int .i64 0, .int .i64 (a + 1)] 31)) (w.heap.size + 1) 0 0 (a + 1) := by
    have := Blk.new (w.alloc (.cells #[.int .i64 0, .int .i64 0, .int .i64 (a + 1)] 49)) 31 #[.int .i64 0, .int .i64 0, .int .i64 (a + 1)]
    rwa [World.size_alloc] at this
  have hr : IsRow ((w.alloc (.cells #[.int .i64 0, .int .i64 0, .int .i64 (a + 1)] 49)).alloc (.cells #[.int .i64 0, .int .i64 0, .int .i64 (a + 1)] 31)) w.heap.size 0 0 (a + 1) := (Blk.new _ _ _).alloc _
  have hb : Below w.heap.size w ((w.alloc (.cells #[.int .i64 0, .int .i64 0, .int .i64 (a + 1)] 49)).alloc (.cells #[.int .i64 0, .int .i64 0, .int .i64 (a + 1)] 31)) := ((Below.refl _ _).alloc (Nat.le_refl _) _).alloc (by simp) _
  have HX := hide hx
  have HR := hide hr
  have HB := hide hb
  clear hA hx hr hb
  go_enter Try.func4, Try.ntmps4
  go_wp2_with (first
    | (go_at_call 7; refine (new_yes 0 (a + 1) _ (by omega)).mono ?_; rintro e w' ⟨rfl, rfl⟩)
    | (go_at_call 9; refine (awake_any _).mono ?_; rintro e wa ⟨rfl, ha⟩))
  have HR' : Hid (IsRow wa w.heap.size 0 0 (a + 1)) := later ha (HR.out.same rfl)
  have HX' : Hid (IsRef wa (w.heap.size + 1) 0 0 (a + 1)) := later ha (HX.out.same rfl)
  have HB' : Hid (Below w.heap.size w wa) := HB.out.trans (ha.mono HB.out.size)
  clear HR HX HB ha
  go_loopg [6, 10] 120 (fun k s6 s10 wr => OnceRel w w.heap.size wa.heap.size (a + 1) len k s6 s10 wr)
  case atStart =>
    exact ⟨0, w.heap.size, 0, 0, rfl, rfl, by omega, by omega, Nat.le_refl _, (HR'.out.alloc _).same rfl, (HX'.out.alloc _).same rfl, ⟨zeros, (Blk.new _ _ _).same rfl, by simp [zeros], fun k hk _ => by simp [zeros, hk]⟩, ⟨by omega, by omega, by omega, by omega⟩, HB'.out.alloc HB'.out.size _⟩
  case round =>
    obtain ⟨i, g, n, t, rfl, rfl, hk, hil, hg, hr, hx, hs, hi, hb⟩ := hrel
    obtain ⟨t, rfl⟩ : ∃ t' : Nat, t = t' := ⟨t.toNat, by obtain ⟨i0, i1, i2, i3⟩ := hi; omega⟩
    obtain ⟨i0, i1, i2, i3⟩ := id hi
    have lr := hr.lt
    have lx := hx.lt
    have HR := hide hr
    have HX := hide hx
    have HS := hide hs
    have HI := hide hi
    have HB := hide hb
    have HK := hide hk
    have x1 := hx.cell 1
    have fx0 := hx.frozen 0
    have x0 := hx.cell 0
    simp at x0 x1
    have hne := hr.ne_ hx (by decide)
    have hns : g ≠ wa.heap.size ∧ w.heap.size + 1 ≠ wa.heap.size := by
      obtain ⟨cs, h1, _⟩ := hs
      exact ⟨hr.ne_ h1 (by decide), hx.ne_ h1 (by decide)⟩
    obtain ⟨hns1, hns2⟩ := hns
    clear hr hx hs hi
    by_cases hlt : i < len
    · obtain ⟨b, off, rfl, hbB, hc⟩ := HA.out (by omega)
      have c0 := (hb.cell (p := ⟨b, off + i * 2 + 0, none⟩) hbB).trans (hc i 0 hlt (by omega))
      have c1 := (hb.cell (p := ⟨b, off + i * 2 + 1, none⟩) hbB).trans (hc i 1 hlt (by omega))
      simp [actAt] at c0 c1
      clear hc
      by_cases h80 : i < 120
      · by_cases h5 : K i = 5
        · have h5' : (K i == 5) = true := by simpa using h5
          have hb0 : b ≠ w.heap.size + 1 := by omega
          clear hk hb h5
          go_wp2_with (first
            | (go_at_call 12; refine (top_any g n t (a + 1) _ HR.out).mono ?_; rintro e w' ⟨rfl, rfl⟩)
            | (go_at_call 7; refine (new_yes t (a + 1) _ (by omega)).mono ?_; rintro e w' ⟨rfl, rfl⟩))
          have hk := HK.out
          have hi' : Inv (t : Int) (t : Int) (a + 1) := ⟨by omega, Int.le_refl _, i2, i3⟩
          go_roundg (gk - 1)
          case measure => omega
          case rel =>
            refine ⟨i + 1, _, t, t, rfl, by go_num, by omega, by omega, HB.out.size, ?_, ?_, ?_, hi', ?_⟩
            · have h := Blk.new (w'.setCell ⟨w.heap.size + 1, 0, none⟩ (.int .i64 (t : Int))) 49 #[.int .i64 (t : Int), .int .i64 (t : Int), .int .i64 (a + 1)]
              rw [World.size_setCell] at h
              exact h.same rfl
            · exact ((HX.out.set_ 0 _).alloc _).same rfl
            · obtain ⟨cs, h1, h2, h3⟩ := HS.out
              exact Seen.mono (n := (n : Int)) ⟨cs, ((h1.far (p := ⟨w.heap.size + 1, 0, none⟩) (Ne.symm hns2) _).alloc _).same rfl, h2, h3⟩ i1
            · exact (HB.out.setCell (p := ⟨w.heap.size + 1, 0, none⟩) (Nat.le_succ _) _).alloc (by simpa using HB.out.size) _
        · have h5' : (K i == 5) = false := by simpa using h5
          clear hk hb h5 x0 x1 fx0
          go_wp2_with fail
          refine (do_any g _ n t (a + 1) wr HR.out HX.out HI.out (K i) (X i)).mono ?_
          rintro e w2 ⟨k2, n2, t2, ⟨hi2, hst⟩, rfl, hr2, hx2, hc2⟩
          have hb2 := HB.out.trans (hc2.below HB.out.size (fun j hj => by rcases hj with rfl | rfl <;> omega))
          have hs2 : Seen w2 wa.heap.size n := by
            obtain ⟨cs, h1, h2, h3⟩ := HS.out
            exact ⟨cs, h1.chg hc2 (fun hj => by rcases hj with h | h <;> omega), h2, h3⟩
          have HR2 := hide hr2
          have HX2 := hide hx2
          have HB2 := hide hb2
          have HI2 := hide hi2
          have HS2 := hide hs2
          rcases hst with ⟨rfl, rfl, _⟩ | ⟨rfl, hnm, rfl, _⟩
          · clear hi2 hr2 hx2 hb2 hc2 hs2
            go_wp2_with fail
            have hk := HK.out
            go_roundg (gk - 1)
            case measure => omega
            case rel => exact ⟨i + 1, g, n, t2, rfl, by go_num, by omega, by omega, hg, HR2.out.same rfl, HX2.out.same rfl, HS2.out, HI2.out, HB2.out⟩
          · obtain ⟨cs, q1, q2, q3⟩ := id hs2
            have hn256 : n < 256 := by omega
            have cn := q1.cell n
            have fn := q1.frozen n
            rw [q3 n hn256 (Int.le_refl _)] at cn
            have hnm' : decide (a + 1 ≤ (n : Int)) = false := by simpa using hnm
            clear hi2 hr2 hx2 hb2 hc2 hs2 q1 q2 q3
            go_wp2_with fail
            have hk := HK.out
            go_roundg (gk - 1)
            case measure => omega
            case rel =>
              refine ⟨i + 1, g, n + 1, t2, rfl, by go_num, by omega, by omega, hg, ?_, ?_, HS2.out.set hn256, HI2.out, HB2.out.setCell HB'.out.size _⟩
              · exact HR2.out.far hns1 _
              · exact HX2.out.far hns2 _
      · have h80' : (120 : Int) ≤ (i : Int) := by omega
        clear hk hb h80
        go_wp2_with fail
        go_ret
        exact ⟨rfl, HB.out⟩
    · have hge : (len : Int) ≤ (i : Int) := by omega
      clear hk hb hlt
      go_wp2_with fail
      go_ret
      exact ⟨rfl, HB.out⟩
end Go.Proofs.Ythdkjcocblnimaa.Ivs
