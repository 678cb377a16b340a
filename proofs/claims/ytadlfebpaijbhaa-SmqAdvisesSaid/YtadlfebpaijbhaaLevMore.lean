/- A queue's length, its least one, its balance, its copy: walked. -/
import Derived.Test.YtadlfebpaijbhaaLevList
namespace Go.Proofs.Ytadlfebpaijbhaa.Lv
open Go.RowKit Go.Proofs.Ytadlfebpaijbhaa.W
set_option linter.unusedVariables false
set_option linter.unusedSimpArgs false

def lenU (R : Nat → List Nat) : Nat → Nat
  | 0 => 0
  | l + 1 => lenU R l + (R l).length
theorem lenU_le {n : Nat} {R : Nat → List Nat} (g : Good n R) : ∀ l, l ≤ 4 → lenU R l ≤ 4 * n
  | 0, _ => by simp [lenU]
  | 1, _ => by have := len_le g (l := 0) (by omega); simp [lenU]; omega
  | 2, _ => by have := len_le g (l := 0) (by omega); have := len_le g (l := 1) (by omega); simp [lenU]; omega
  | 3, _ => by have := len_le g (l := 0) (by omega); have := len_le g (l := 1) (by omega); have := len_le g (l := 2) (by omega); simp [lenU]; omega
  | 4, _ => by have := len_le g (l := 0) (by omega); have := len_le g (l := 1) (by omega); have := len_le g (l := 2) (by omega); have := len_le g (l := 3) (by omega); simp [lenU]; omega
  | n + 5, h => by omega
def LenRel (w : World) (R : Nat → List Nat) (k : Nat) (s3 s5 : Value) (wr : World) : Prop := ∃ i : Nat, s5 = .int .i64 (i : Int) ∧ s3 = .int .i64 (lenU R i : Int) ∧ i + k = 4 ∧ Below w.heap.size w wr
/-- The lowest level that has one; 4: none has. -/
def low (R : Nat → List Nat) : Nat := if R 0 ≠ [] then 0 else if R 1 ≠ [] then 1 else if R 2 ≠ [] then 2 else if R 3 ≠ [] then 3 else 4
def leastV (R : Nat → List Nat) : Int := if low R < 4 then hd (R (low R)) (-1) else 0
theorem low_at {R : Nat → List Nat} {i : Nat} (hi : i < 4) (h0 : ∀ k, k < i → R k = []) (h : R i ≠ []) : low R = i := by
  have h4 : i = 0 ∨ i = 1 ∨ i = 2 ∨ i = 3 := by omega
  unfold low
  rcases h4 with rfl | rfl | rfl | rfl
  · rw [if_pos h]
  · rw [if_neg (by rw [h0 0 (by omega)]; simp), if_pos h]
  · rw [if_neg (by rw [h0 0 (by omega)]; simp), if_neg (by rw [h0 1 (by omega)]; simp), if_pos h]
  · rw [if_neg (by rw [h0 0 (by omega)]; simp), if_neg (by rw [h0 1 (by omega)]; simp), if_neg (by rw [h0 2 (by omega)]; simp), if_pos h]
theorem low_none {R : Nat → List Nat} (h0 : ∀ k, k < 4 → R k = []) : low R = 4 := by
  unfold low
  rw [if_neg (by rw [h0 0 (by omega)]; simp), if_neg (by rw [h0 1 (by omega)]; simp), if_neg (by rw [h0 2 (by omega)]; simp), if_neg (by rw [h0 3 (by omega)]; simp)]
def LeastRel (w : World) (R : Nat → List Nat) (k : Nat) (s4 s5 s9 : Value) (wr : World) : Prop := ∃ i : Nat, s9 = .int .i64 (i : Int) ∧ s4 = .int .i64 0 ∧ s5 = .bool false ∧ i + k = 4 ∧ (∀ j, j < i → R j = []) ∧ wr = w
def LeastE (R : Nat → List Nat) (w : World) (e : Ending) (w' : World) : Prop := ∃ b, b = decide (low R < 4) ∧ e = .returned (.tuple #[.int .i64 (leastV R), .bool b]) ∧ w' = w
/-- The rows ahead of each level's round, and how many were moved. -/
def stR (R : Nat → List Nat) (m : Nat) : Nat → Nat → List Nat
  | 0 => R
  | j + 1 => bal (stR R m j) (3 - j) ((stR R m j (3 - j)).length - m)
def cntR (R : Nat → List Nat) (m : Nat) : Nat → Nat
  | 0 => 0
  | j + 1 => cntR R m j + ((stR R m j (3 - j)).length - m)
theorem good_bal {n : Nat} {R : Nat → List Nat} {l : Nat} (hl : l < 4) (h0 : 0 < l) (g : Good n R) : ∀ t, Good n (bal R l t)
  | 0 => by rw [bal_zero]; exact g
  | t + 1 => by
    have ih := good_bal hl h0 g t
    cases hB : (R l).drop t with
    | nil =>
      have hlen : (R l).length ≤ t := by
        rcases Nat.lt_or_ge t (R l).length with h | h
        · have := congrArg List.length hB; rw [List.length_drop] at this; simp at this; omega
        · exact h
      have e : bal R l (t + 1) = bal R l t := by
        unfold bal
        funext k
        split
        · rw [List.drop_of_length_le hlen, List.drop_of_length_le (by omega)]
        · split
          · rw [List.take_of_length_le hlen, List.take_of_length_le (by omega)]
          · rfl
      rw [e]; exact ih
    | cons a B =>
      have ha : a < n := ih.lt l hl a (by unfold bal; rw [if_pos rfl, hB]; simp)
      exact (good_putR ih (l := l - 1) ha (by omega)).congr (fun k hk => (bal_step hl h0 ih hB k hk).symm)
theorem good_stR {n : Nat} {R : Nat → List Nat} (m : Nat) (g : Good n R) : ∀ j, j ≤ 3 → Good n (stR R m j)
  | 0, _ => g
  | j + 1, h => good_bal (by omega) (by omega) (good_stR m g j (by omega)) _
theorem cntR_le {n : Nat} {R : Nat → List Nat} (m : Nat) (g : Good n R) : ∀ j, j ≤ 3 → cntR R m j ≤ j * n
  | 0, _ => by simp [cntR]
  | j + 1, h => by
    have h1 := cntR_le m g j (by omega)
    have h2 := len_le (good_stR m g j (by omega)) (l := 3 - j) (by omega)
    show cntR R m j + _ ≤ _
    rw [Nat.succ_mul]
    omega
def BalRel (w : World) (g n : Nat) (R : Nat → List Nat) (m k : Nat) (s5 s6 : Value) (wr : World) : Prop := ∃ j l : Nat, l = 3 - j ∧ s6 = .int .i64 (l : Int) ∧ s5 = .int .i64 (cntR R m j : Int) ∧ j + k = 3 ∧ QAt wr g n (stR R m j) ∧ Chg (one g) w wr
def BalIn (w : World) (g n : Nat) (R1 : Nat → List Nat) (l m c0 k : Nat) (s5 : Value) (wr : World) : Prop := ∃ t : Nat, s5 = .int .i64 ((c0 + t : Nat) : Int) ∧ t + k = (R1 l).length - m ∧ QAt wr g n (bal R1 l t) ∧ Chg (one g) w wr
set_option maxRecDepth 100000 in
set_option maxHeartbeats 1000000 in
theorem balance_any (g n : Nat) (R : Nat → List Nat) (most : Int) (m : Nat) (hm : (if most < 0 then (0 : Int) else most) = (m : Int)) (w : World) (hq : QAt w g n R) :
    Calls Try.prog 43 #[.pointer (some ⟨g, 0, none⟩), .int .i64 most] w fun e w' => e = .returned (.int .i64 (cntR R m 3 : Int)) ∧ QAt w' g n (stR R m 3) ∧ Chg (one g) w w' := by
  have HQ := hide hq
  have hn16 : n ≤ 16 := by obtain ⟨F, _, h⟩ := hq; exact h.n16
  clear hq
  go_enter Try.func43, Try.ntmps43
  go_wp2_with fail
  go_loopg [5, 6] 3 (fun k s5 s6 wr => BalRel w g n R m k s5 s6 wr)
  case atStart => exact ⟨0, 3, rfl, rfl, rfl, rfl, HQ.out, Chg.refl _ _⟩
  case round =>
    obtain ⟨j, l, hl, rfl, rfl, hk, hqr, hc⟩ := hrel
    have HQr := hide hqr
    have HCr := hide hc
    have hcl := cntR_le m HQ.out.good j (by omega)
    clear hqr hc
    by_cases hj : j < 3
    · have hgk : 0 < gk := by omega
      have hl0 : (0 : Int) < (l : Int) := by omega
      have hl4 : l < 4 := by omega
      have hl0n : 0 < l := by omega
      have HL := hide hl
      obtain ⟨R1, hR1⟩ : ∃ R1, stR R m j = R1 := ⟨_, rfl⟩
      obtain ⟨c0, hc0⟩ : ∃ c, cntR R m j = c := ⟨_, rfl⟩
      have hc100 : c0 ≤ 48 := by
        have : j * n ≤ 3 * n := Nat.mul_le_mul_right _ (by omega)
        omega
      have HS : Hid (stR R m (j + 1) = bal R1 l ((R1 l).length - m) ∧ cntR R m (j + 1) = c0 + ((R1 l).length - m)) := hide ⟨by rw [← hR1, hl]; rfl, by rw [← hR1, ← hc0, hl]; rfl⟩
      rw [hR1] at HQr
      rw [hc0]
      have hlen := len_le HQr.out.good hl4
      clear hR1 hc0 hl hcl
      obtain ⟨g0, hg0⟩ : ∃ g, g = gk := ⟨gk, rfl⟩
      subst hg0
      go_wp2_with fail
      go_loopg [5] ((R1 l).length - m) (fun k s5 wx => BalIn w g n R1 l m c0 k s5 wx)
      case atStart => exact ⟨0, rfl, by omega, by rw [bal_zero]; exact HQr.out, HCr.out⟩
      case round =>
        obtain ⟨t, rfl, hkt, hqx, hcx⟩ := hrel
        have HQx := hide hqx
        have HCx := hide hcx
        have hgood := hqx.good
        have hbl : bal R1 l t l = (R1 l).drop t := by unfold bal; rw [if_pos rfl]
        have hbll : (bal R1 l t l).length = (R1 l).length - t := by rw [hbl, List.length_drop]
        have HC := hide (list_any g n l (bal R1 l t) hl4 wr HQx.out)
        unfold ListE at HC
        rw [hbll] at HC
        obtain ⟨q, hq⟩ : ∃ q, (R1 l).length - t = q := ⟨_, rfl⟩
        rw [hq] at HC
        clear hqx hcx hbll
        by_cases ht : m < q
        · have ht' : (m : Int) < (q : Int) := by omega
          obtain ⟨a, B, hB⟩ : ∃ a B, (R1 l).drop t = a :: B := by
            cases h : (R1 l).drop t with
            | nil => have := congrArg List.length h; rw [List.length_drop] at this; simp at this; omega
            | cons a B => exact ⟨a, B, rfl⟩
          have hmem : a ∈ bal R1 l t l := by rw [hbl, hB]; simp
          have han : a < n := hgood.lt l hl4 a hmem
          have hwh : wh (bal R1 l t) a = l := wh_eq hgood hl4 hmem
          have hmv := fun W (h : QAt W g n (bal R1 l t)) => move_on g n (bal R1 l t) a (-1) han (by omega) W h
          rw [hwh, show moved l (-1) = l - 1 by unfold moved; omega] at hmv
          have HM := hide hmv
          have HST := hide (bal_step hl4 hl0n hgood hB)
          have HF : Hid (∀ W, QAt W g n (bal R1 l t) → W.cell? ⟨g, 49 + l, none⟩ = some (.int .i64 (a : Int)) ∧ g < W.heap.size) := hide (fun W h => by
            obtain ⟨F, h1, h2⟩ := h
            have := h1.at (i := 49 + l) (by omega)
            rw [h2.first l hl4, hbl, hB] at this
            exact ⟨this, h1.lt⟩)
          have l4' : (l : Int) < 4 := by omega
          have e1 : IntKind.i64.wrap (((c0 + t : Nat) : Int) + 1) = ((c0 + t + 1 : Nat) : Int) := by rw [show ((c0 + t : Nat) : Int) + 1 = ((c0 + t + 1 : Nat) : Int) by omega]; exact IntWalk.i64_in _ (by omega)
          obtain ⟨u, hu⟩ : ∃ u, c0 + t = u := ⟨_, rfl⟩
          rw [hu] at e1
          simp only [hu]
          have HU := hide hu
          have hgk2 : 0 < gk := by omega
          clear hB hmem hwh hmv hgood hbl hu
          go_wp2_with (first
            | (go_at_call 31; (with_reducible refine HC.out.mono ?_); rintro e w2 ⟨A, c, rfl, ho, hb⟩; (have HQ2 := hide (HQx.out.later hb)); (have HC2 := hide (HCx.out.trans (Chg.of_below (S := one g) hb) (fun _ _ h => h))); (obtain ⟨hcf, hgl⟩ := HF.out _ HQ2.out); clear ho hb)
            | (go_at_call 44; (with_reducible refine (HM.out _ HQ2.out).mono ?_); rintro e w3 ⟨rfl, h1, h2⟩; have H1 := hide h1; have H2 := hide (HC2.out.trans h2 (fun _ _ h => h)); clear h1 h2))
          go_roundg (gk - 1)
          case measure => omega
          case rel =>
            refine ⟨t + 1, ?_, by omega, H1.out.congr (fun k hk => (HST.out k hk).symm), H2.out⟩
            rw [← Nat.add_assoc, HU.out]
            go_num
        · have ht' : decide (m < q) = false := by simp; omega
          have ht'' : decide ((m : Int) < (q : Int)) = false := by simp; omega
          have hte : t = (R1 l).length - m := by omega
          have e2 : IntKind.i64.wrap ((l : Int) - 1) = ((l - 1 : Nat) : Int) := by rw [show (l : Int) - 1 = ((l - 1 : Nat) : Int) by omega]; exact IntWalk.i64_in _ (by omega)
          have HT := hide hte
          clear ht hte hgood hbl
          go_wp2_with (first
            | (go_at_call 31; (with_reducible refine HC.out.mono ?_); rintro e w2 ⟨A, c, rfl, ho, hb⟩; (have HQ2 := hide (HQx.out.later hb)); (have HC2 := hide (HCx.out.trans (Chg.of_below (S := one g) hb) (fun _ _ h => h))); clear ho hb))
          go_roundg (g0 - 1)
          case measure => omega
          case rel => exact ⟨j + 1, l - 1, by have := HL.out; omega, rfl, by rw [HS.out.2, HT.out, Int.natCast_add], by omega, by rw [HS.out.1, ← HT.out]; exact HQ2.out, HC2.out⟩
    · obtain rfl : j = 3 := by omega
      have h0 : decide ((0 : Int) < (l : Int)) = false := by simp; omega
      have h0' : decide (0 < l) = false := by simp; omega
      clear hj hl
      go_wp2_with fail
      go_ret
      exact ⟨rfl, HQr.out, HCr.out⟩
end Go.Proofs.Ytadlfebpaijbhaa.Lv
