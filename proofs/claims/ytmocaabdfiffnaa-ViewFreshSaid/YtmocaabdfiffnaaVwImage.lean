/- The law's images: what the changes lay into 18432 bytes of 0. -/
import Derived.Test.YtmocaabdfiffnaaVwDiffer
namespace Go.Proofs.Ytmocaabdfiffnaa.Ct
open Go.RowKit Go.Proofs.Ytmocaabdfiffnaa.W
set_option linter.unusedVariables false
set_option linter.unusedSimpArgs false

def bAt (S : ByteArray) (k : Nat) : BitVec 8 := if k < S.size then sbyte S k else 0#8
/-- k bytes of a text, laid at o. -/
def putF (f : St) (o : Nat) (S : ByteArray) (k : Nat) : St := fun j => if o ≤ j ∧ j < o + k then bAt S (j - o) else f j
theorem upd_upd {α : Type} (f : Nat → α) (i : Nat) (a b : α) : upd (upd f i a) i b = upd f i b := by
  funext j
  unfold upd
  by_cases h : j = i <;> simp [h]
theorem putF_zero (f : St) (o : Nat) (S : ByteArray) : putF f o S 0 = f := by
  funext j
  unfold putF
  rw [if_neg (by omega)]
theorem putF_succ (f : St) (o : Nat) (S : ByteArray) (k : Nat) : putF f o S (k + 1) = upd (putF f o S k) (o + k) (bAt S k) := by
  funext j
  unfold putF upd
  by_cases h : j = o + k
  · subst h
    rw [if_pos (by omega), if_pos rfl, Nat.add_sub_cancel_left]
  · rw [if_neg h]
    show _ = if o ≤ j ∧ j < o + k then bAt S (j - o) else f j
    by_cases h2 : o ≤ j ∧ j < o + k
    · rw [if_pos h2, if_pos (by omega)]
    · rw [if_neg h2, if_neg (by omega)]
def imgF (K : Nat → Int) (S : Nat → ByteArray) : Nat → St
  | 0 => fun _ => 0#8
  | i + 1 => if K i < 0 ∨ 287 < K i then imgF K S i else putF (imgF K S i) (64 * (K i).toNat) (S i) 64
def chAt (K : Nat → Int) (S : Nat → ByteArray) : Nat → Nat → Value := fun i j => if j = 0 then .int .i64 (K i) else .string (S i)
structure ImAt (w : World) (A : Option Addr) (n : Nat) (K : Nat → Int) (S : Nat → ByteArray) (f : St) (wr : World) : Prop where
  row : Blk wr w.heap.size 5 (row 18432 (u8s f))
  holds : Holds wr w.heap.size 2 A n (chAt K S)
  below : Below w.heap.size w wr
theorem ImAt.put {w wr : World} {A : Option Addr} {n : Nat} {K : Nat → Int} {S : Nat → ByteArray} {f : St} (h : ImAt w A n K S f wr) (p : Nat) (x : BitVec 8) : ImAt w A n K S (upd f p x) (wr.setCell ⟨w.heap.size, p, none⟩ (.int .u8 (x.toNat : Int))) :=
  ⟨by rw [← u8s_upd]; exact h.row.upd p _, fun hn => by
    obtain ⟨b, off, hA, hB, hc⟩ := h.holds hn
    exact ⟨b, off, hA, hB, fun i j hi hj => (World.cell?_of_block (a := ⟨b, off + i * 2 + j, none⟩) (Below.heap_setCell wr _ _ b (by show b ≠ w.heap.size; omega))).trans (hc i j hi hj)⟩, h.below.setCell (p := ⟨w.heap.size, p, none⟩) (Nat.le_refl _) _⟩
theorem ImAt.same {w wr wr' : World} {A : Option Addr} {n : Nat} {K : Nat → Int} {S : Nat → ByteArray} {f : St} (h : ImAt w A n K S f wr) (k : Nat) (e : wr' = wr.drewN k) : ImAt w A n K S f wr' := by
  subst e
  exact ⟨h.row.drewN k, h.holds.same rfl, below_drewN h.below k⟩
def ImRel (w : World) (A : Option Addr) (n : Nat) (K : Nat → Int) (S : Nat → ByteArray) (k : Nat) (s4 : Value) (wr : World) : Prop :=
  ∃ i : Nat, s4 = .int .i64 (i : Int) ∧ i + k = 40 ∧ i ≤ n ∧ ImAt w A n K S (imgF K S i) wr
def InRel (w : World) (A : Option Addr) (n : Nat) (K : Nat → Int) (S : Nat → ByteArray) (f : St) (o : Nat) (x : ByteArray) (k : Nat) (s5 : Value) (wr : World) : Prop :=
  ∃ i : Nat, s5 = .int .i64 (i : Int) ∧ i + k = 64 ∧ ImAt w A n K S (putF f o x i) wr
def imgB (K : Nat → Int) (S : Nat → ByteArray) (n : Nat) : ByteArray := strB 18432 (imgF K S (if n < 40 then n else 40))
theorem imgB_size (K : Nat → Int) (S : Nat → ByteArray) (n : Nat) : (imgB K S n).size = 18432 := strB_size _ _
set_option maxRecDepth 100000 in
set_option maxHeartbeats 2000000 in
theorem image_any (A : Option Addr) (n c : Nat) (K : Nat → Int) (S : Nat → ByteArray) (hn : n ≤ maxLen) (w : World) (hA : Holds w w.heap.size 2 A n (chAt K S)) (hS : ∀ i, i < n → (S i).size ≤ maxLen) :
    Calls Try.prog 6 #[.slice A n c] w fun e w' => e = .returned (.string (imgB K S n)) ∧ Below w.heap.size w w' := by
  unfold maxLen at hn
  have hmk' : ∀ w : World, (Instr.makeSlice 32 (.int .i64 18432) (.int .i64 18432)).run Try.prog w = .ok (.slice (some ⟨w.heap.size, 0, none⟩) 18432 18432) (w.alloc (.cells (row 18432 (u8s fun _ => 0#8)) 5)) := fun w => make_bytes 18432 (by omega) w
  have HI : Hid (ImAt w A n K S (fun _ => 0#8) (w.alloc (.cells (row 18432 (u8s fun _ => 0#8)) 5))) := hide ⟨Blk.newAt w _ _ _ rfl, hA.below ((Below.refl _ _).alloc (Nat.le_refl _) _), (Below.refl _ _).alloc (Nat.le_refl _) _⟩
  have hcv : ∀ wr f, Blk wr w.heap.size 5 (row 18432 (u8s f)) → (convert 32 9 (.slice (some ⟨w.heap.size, 0, none⟩) 18432 18432)).run Try.prog wr = .ok (.string (strB 18432 f)) wr := fun wr f hb =>
    run_convert_row wr _ _ _ Try.underlying32 Try.underlying5 Try.underlying9 _ _ _ _ f (fun j hj => by
      rw [Nat.zero_add, hb.at hj]
      rfl)
  have HCV := hide hcv
  have HS := hide hS
  clear hcv hA hS
  generalize row 18432 (u8s fun _ => 0#8) = R at hmk' HI
  go_enter Try.func6, Try.ntmps6
  go_wp2_with fail
  clear hmk'
  go_loopg [4, 5] 40 (fun k s4 s5 wr => ImRel w A n K S k s4 wr)
  case atStart => exact ⟨0, rfl, rfl, Nat.zero_le _, HI.out⟩
  case round =>
    obtain ⟨i, rfl, hk, hin, hat⟩ := hrel
    have HAt := hide hat
    clear hat
    have HK := hide hk
    by_cases h1 : i < n
    · have hlt : (i : Int) < (n : Int) := by omega
      by_cases h40 : i < 40
      · have hlt40 : (i : Int) < 40 := by omega
        obtain ⟨b, off, rfl, hbB, hc⟩ := HAt.out.holds (by omega)
        have c0 : wr.cell? ⟨b, off + i * 2, none⟩ = some (.int .i64 (K i)) := hc i 0 h1 (by omega)
        clear hc
        obtain ⟨q, hq⟩ : ∃ q, K i = q := ⟨_, rfl⟩
        have hF : imgF K S (i + 1) = if K i < 0 ∨ 287 < K i then imgF K S i else putF (imgF K S i) (64 * (K i).toNat) (S i) 64 := rfl
        rw [hq] at c0 hF
        by_cases h0 : q < 0
        · rw [if_pos (.inl h0)] at hF
          have HF := hide hF
          clear hF hq hk
          go_wp2_with fail
          have hk := HK.out
          go_roundg (gk - 1)
          case measure => omega
          case rel => exact ⟨i + 1, by go_num, by omega, by omega, by rw [HF.out]; exact HAt.out⟩
        by_cases h287 : 287 < q
        · rw [if_pos (.inr h287)] at hF
          have t0 : decide (q < 0) = false := by simp; omega
          have HF := hide hF
          clear hF hq hk h0
          go_wp2_with fail
          have hk := HK.out
          go_roundg (gk - 1)
          case measure => omega
          case rel => exact ⟨i + 1, by go_num, by omega, by omega, by rw [HF.out]; exact HAt.out⟩
        · rw [if_neg (by omega)] at hF
          obtain ⟨a, rfl⟩ : ∃ a : Nat, q = (a : Int) := ⟨q.toNat, by omega⟩
          rw [Int.toNat_natCast] at hF
          have ha : a ≤ 287 := by omega
          have t0 : decide ((a : Int) < 0) = false := by simp
          have t1 : decide ((287 : Int) < (a : Int)) = false := by simp; omega
          have t2 : decide (287 < a) = false := by simp; omega
          obtain ⟨o, ho⟩ : ∃ o, 64 * a = o := ⟨_, rfl⟩
          obtain ⟨x, hx⟩ : ∃ x, S i = x := ⟨_, rfl⟩
          rw [ho, hx] at hF
          have e1 : IntKind.i64.wrap (64 * (a : Int)) = (o : Int) := by rw [show 64 * (a : Int) = (o : Int) by omega]; exact IntWalk.i64_in _ (by omega)
          have HF := hide hF
          have hxs : x.size ≤ 9223372036854775807 := by
            have := HS.out i h1
            rw [hx] at this
            exact this
          have HQ := hide hq
          have HX := hide hx
          clear hF hk h0 h287 hq hx
          go_wp2_with fail
          obtain ⟨g0, rfl⟩ : ∃ g0 : Nat, g0 = gk := ⟨_, rfl⟩
          obtain ⟨wo, rfl⟩ : ∃ wo : World, wo = wr := ⟨_, rfl⟩
          clear c0
          go_loopg [5] 64 (fun k s5 wr => InRel w (some ⟨b, off, none⟩) n K S (imgF K S i) o x k s5 wr)
          case atStart => exact ⟨0, rfl, rfl, by rw [putF_zero]; exact HAt.out⟩
          case round =>
            obtain ⟨k, rfl, hk, hat⟩ := hrel
            have HAk := hide hat
            have HKk := hide hk
            by_cases h64 : k < 64
            · have hlt64 : (k : Int) < 64 := by omega
              obtain ⟨b', off', hA', hB', hc'⟩ := hat.holds (by omega)
              cases hA'
              have c0 : wr.cell? ⟨b, off + i * 2, none⟩ = some (.int .i64 (a : Int)) := by
                rw [← HQ.out]
                exact hc' i 0 h1 (by omega)
              have c1 : wr.cell? ⟨b, off + i * 2 + 1, none⟩ = some (.string x) := by
                rw [← HX.out]
                exact hc' i 1 h1 (by omega)
              obtain ⟨p, hp⟩ : ∃ p, o + k = p := ⟨_, rfl⟩
              have e2 : IntKind.i64.wrap ((o : Int) + (k : Int)) = (p : Int) := by rw [show (o : Int) + (k : Int) = (p : Int) by omega]; exact IntWalk.i64_in _ (by omega)
              have p1 : (p : Int) < 18432 := by omega
              have p2 : p < 18432 := by omega
              have cp := hat.row.at p2
              have fp := hat.row.frozen p
              have gl := hat.row.lt
              have hPS := putF_succ (imgF K S i) o x k
              rw [hp] at hPS
              by_cases hkx : k < x.size
              · have hkx' : (k : Int) < (x.size : Int) := by omega
                have hb : bAt x k = sbyte x k := if_pos hkx
                rw [hb] at hPS
                have HPS := hide hPS
                have HP := hide hp
                clear hPS hb hk hat hc' hp ho
                go_upto_region 11 with fail
                go_region
                rw [getElem_sbyte]
                go_wp2_with fail
                have hk := HKk.out
                go_roundg (gk - 1)
                case measure => omega
                case rel =>
                  refine ⟨k + 1, by go_num, by omega, ?_⟩
                  rw [HPS.out]
                  have h := ((HAk.out.put p 0#8).put p (sbyte x k)).same 1 rfl
                  rw [upd_upd] at h
                  exact h
              · have hkx' : decide ((k : Int) < (x.size : Int)) = false := by simp; omega
                have hkx2 : decide (k < x.size) = false := by simp; omega
                have hb : bAt x k = 0#8 := if_neg hkx
                rw [hb] at hPS
                have HPS := hide hPS
                clear hPS hb hk hat hc' hkx hp ho
                go_wp2_with fail
                have hk := HKk.out
                go_roundg (gk - 1)
                case measure => omega
                case rel => exact ⟨k + 1, by go_num, by omega, by rw [HPS.out]; exact HAk.out.put p 0#8⟩
            · obtain rfl : k = 64 := by omega
              clear h64 hat hk
              go_wp2_with fail
              have hk := HK.out
              go_roundg (g0 - 1)
              case measure => omega
              case rel => exact ⟨i + 1, by go_num, by omega, by omega, by rw [HF.out]; exact HAk.out⟩
      · obtain rfl : i = 40 := by omega
        have hlt40 : decide (((40 : Nat) : Int) < 40) = false := by decide
        have hc := HCV.out _ _ HAt.out.row
        have hg : imgB K S n = strB 18432 (imgF K S 40) := by unfold imgB; rw [if_neg (by omega)]
        obtain ⟨y, hy⟩ : ∃ y, strB 18432 (imgF K S 40) = y := ⟨_, rfl⟩
        rw [hy] at hc hg
        have HG := hide hg
        clear hy hg h40 hk
        go_wp2_with fail
        go_ret
        exact ⟨by rw [HG.out]; rfl, HAt.out.below⟩
    · obtain rfl : i = n := by omega
      have hlt' : decide ((i : Int) < (i : Int)) = false := by simp
      have hc := HCV.out _ _ HAt.out.row
      have hg : imgB K S i = strB 18432 (imgF K S i) := by
        unfold imgB
        by_cases h : i < 40
        · rw [if_pos h]
        · rw [if_neg h, show i = 40 by omega]
      obtain ⟨y, hy⟩ : ∃ y, strB 18432 (imgF K S i) = y := ⟨_, rfl⟩
      rw [hy] at hc hg
      have HG := hide hg
      clear hy hg hk
      go_wp2_with fail
      go_ret
      exact ⟨by rw [HG.out]; rfl, HAt.out.below⟩
end Go.Proofs.Ytmocaabdfiffnaa.Ct
