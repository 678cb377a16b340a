/- The reference's calls: walked. -/
import Derived.Test.YtadlfebpaijbhaaLevRef
import Derived.BigQuiet
namespace Go.Proofs.Ytadlfebpaijbhaa.Lv
open Go.RowKit Go.Proofs.Ytadlfebpaijbhaa.W
set_option linter.unusedVariables false
set_option linter.unusedSimpArgs false

/-- 'append(s, nil...)': nothing is put behind a row of none. -/
theorem wpList_append_none {P : Program} {w : World} {ops : Array Oper} {rest : List Oper} {o : Oper} {a : Act} {Q : Exit → Act → World → Prop} (hgd : o.guard = none) (s x : Operand) (t : TypeId)
    (ho : o.op = .call { callee := .builtin .append, args := #[s, x], argTypes := #[t, t] }) (e : TypeId) (i : TypeInfo) (ht : P.underlying t = some (.slice e)) (hi : P.info? e = some i)
    (g : Nat) (hs : a.eval s = .slice (some ⟨g, 0, none⟩) 0 0) (hx : a.eval x = .slice none 0 0)
    (h : wpList P ops Q rest (a.put o.dst (.slice (some ⟨g, 0, none⟩) 0 0)) w) : wpList P ops Q (o :: rest) a w :=
  wpList_plain hgd fun K hK => by
    have hr : (Builtin.append_ #[t, t] o.type #[.slice (some ⟨g, 0, none⟩) 0 0, .slice none 0 0]).run P w = .ok (.slice (some ⟨g, 0, none⟩) 0 0) w := by
      simp [Builtin.append_, run_underlying ht, sizeOf, typeInfo, hi, Builtin.lenOf, Builtin.firstCells, loadCells, loadCellsFrom, storeCells]
    unfold Oper.wp execOp
    simp only [ho, resolve, invoke, builtin, Sem.run_bind, Sem.run_pure, Result.andThen_ok, List.map_toArray, List.map_cons, List.map_nil, hs, hx, hr]
    exact hK _ _ h
theorem own_empty (w : World) (base : Nat) (hb : base ≤ w.heap.size) (t : TypeId) : (w.alloc (.cells #[] t)).ownsRow base t 1 (.slice (some ⟨w.heap.size, 0, none⟩) 0 0) 0 [] :=
  ⟨rfl, .inr ⟨w.heap.size, 0, #[], rfl, hb, heap_alloc_new w _, Nat.le_refl _, by simp [maxLen], rfl, rfl⟩⟩
def RE (gx : Nat) (R : Nat → List Nat) (w : World) (e : Ending) (w' : World) : Prop := e = .returned (.tuple #[]) ∧ RefAt w' gx R ∧ Chg (one gx) w w'
set_option maxRecDepth 100000 in
set_option maxHeartbeats 1000000 in
theorem rput_any (gx i l : Nat) (R : Nat → List Nat) (hl : l < 4) (hlen : ∀ l, l < 4 → (R l).length ≤ 1000) (w : World) (hq : RefAt w gx R) :
    Calls Try.prog 35 #[.pointer (some ⟨gx, 0, none⟩), .int .i64 (i : Int), .int .i64 (l : Int)] w (RE gx (putR R i l) w) := by
  obtain ⟨i0, hi0, hz0, hz1, hz2⟩ := info3 int_info
  have HQ0 := hide hq
  have HL := hide hlen
  have l4 : (l : Int) < 4 := by omega
  have HL4 := hide hl
  obtain ⟨L, hL⟩ : ∃ L, rem R i l = L := ⟨_, rfl⟩
  have hLl : L.length ≤ 1000 := by
    rw [← hL]
    have := List.length_filter_le (fun x => decide (x ≠ i)) (R l)
    have := hlen l hl
    unfold rem
    omega
  have HLe := hide hL
  clear hq hlen hL
  go_enter Try.func35, Try.ntmps35
  go_upto_region 1 with (first
    | (go_at_call 37; (with_reducible refine (rremove_any gx i R HL.out _ HQ0.out).mono ?_); rintro e w1 ⟨rfl, h1, h2⟩; have H1 := hide h1; have H2 := hide h2; clear h1 h2))
  obtain ⟨V, hV⟩ := H1.out
  have HV := hide hV
  have cv := hV.blk.at hl
  have gl := hV.blk.lt
  have hrow := hV.row l hl
  rw [HLe.out] at hrow
  rcases hrow with ⟨hLn, hvl⟩ | ⟨b, cap, cs, hvl, hbk, hcs⟩
  · rw [hvl] at cv
    have HL0 := hide hLn
    clear hV hvl hLn hl
    go_upto_region 2 with (first
      | (at_builtin; refine wpList_append_none rfl (.tmp 10) (.tmp 16) 41 rfl 3 i0 Try.underlying41 hi0 _ rfl rfl ?_))
    have HO1 := hide (own_empty w1 w1.heap.size (Nat.le_refl _) 3)
    have HB1 := hide ((Below.refl w1.heap.size w1).alloc (Nat.le_refl _) (.cells #[] 3))
    generalize w1.alloc (.cells #[] 3) = W2 at HO1 HB1 ⊢
    have hsz1 := HB1.out.size
    go_upto_region 3 with (first
      | (at_builtin; refine wpList_append_at _ rfl (.tmp 18) (.tmp 20) 41 rfl w1.heap.size 3 i0 (.int .i64 0) 1 8 Try.underlying41 hi0 hz0 hz1 hz2 rfl (by decide) _ 0 [] rfl (by exact HO1.out.alloc _) ⟨_, 0, none⟩ 1 1 [.int .i64 (i : Int)] rfl rfl (by exact new_cell _ _ _ _ rfl) (by simp [Value.oneCell']) (by simp [maxLen]) (by omega) (by simp; omega) ?_; intro v1 w3 hown1 hg1 hat1; have HOwn1 := hide hown1; have HB3 := hide (kept_below (HO1.out.alloc _) hg1 (HB1.out.alloc HB1.out.size _) (Nat.le_refl _) (by simp; omega)); clear hown1 hg1 hat1))
    have hown1 := HOwn1.out
    obtain ⟨A1, c1, hv1⟩ := own_form hown1
    subst hv1
    have HF3 := hide (HV.out.later HB3.out)
    have cv3 := HF3.out.blk.at HL4.out
    have fv3 := HF3.out.blk.frozen l
    have gl3 := HF3.out.blk.lt
    have HRow : Hid (RowV w3 (.slice A1 (0 + 1) c1) (L ++ [i])) := hide (by
      rw [HL0.out]
      exact RowV.of_own (L := [i]) hown1)
    clear hown1 cv
    go_wp2_with fail
    go_end0
    have h := HF3.out.lay l _ _ HRow.out
    rw [← HLe.out] at h
    exact ⟨rfl, ⟨_, h⟩, (H2.out.trans (Chg.of_below (S := one gx) HB3.out) (fun _ _ h => h)).setCell (p := ⟨gx, l, none⟩) (.inl rfl) _⟩
  · rw [hvl] at cv
    have HBk := hide hbk
    have HCs := hide hcs
    have hblt := hbk.lt
    clear hV hvl hbk hcs hl
    obtain ⟨n, hn⟩ : ∃ n, L.length = n := ⟨_, rfl⟩
    have HNn := hide hn
    rw [hn] at cv hLl
    have hnews : Hid (∀ j u, (toV L)[j]? = some u → (w1.alloc (.cells #[] 3)).cell? ((⟨b, 0, none⟩ : Addr).add j) = some u) := hide (fun j u hj => by
      have hlt : j < L.length := by
        rcases Nat.lt_or_ge j L.length with h | h
        · exact h
        · rw [List.getElem?_eq_none (by simp [toV]; omega)] at hj; cases hj
      have := ((HBk.out.alloc (.cells #[] 3)).cell j)
      rw [HCs.out j hlt, hj] at this
      rw [← this]
      congr 1
      unfold Addr.add
      split <;> simp_all)
    have hone : Hid (∀ u ∈ toV L, u.oneCell' = true) := hide (fun u hu => by
      simp [toV] at hu
      obtain ⟨a, _, rfl⟩ := hu
      rfl)
    have hlenV : Hid ((toV L).length = n * 1) := hide (by simp [toV, hn])
    have HOe := hide (own_empty w1 w1.heap.size (Nat.le_refl _) 3)
    clear hn
    go_upto_region 2 with (first
      | (at_builtin; refine wpList_append_at _ rfl (.tmp 10) (.tmp 16) 41 rfl w1.heap.size 3 i0 (.int .i64 0) 1 8 Try.underlying41 hi0 hz0 hz1 hz2 rfl (by decide) _ 0 [] rfl (by exact HOe.out) ⟨b, 0, none⟩ n cap (toV L) rfl hlenV.out (by exact hnews.out) hone.out (by simp [maxLen]; omega) (by omega) (by simp) ?_; intro v1 w2 hown1 hg1 hat1; have HO1 := hide hown1; have HB1 := hide (kept_below HOe.out hg1 ((Below.refl w1.heap.size w1).alloc (Nat.le_refl _) _) (Nat.le_refl _) (by simp)); clear hown1 hg1 hat1))
    have hO1 := HO1.out
    obtain ⟨A2, c2, hv2⟩ := own_form hO1
    subst hv2
    have hsz1 := HB1.out.size
    clear hO1
    rw [Nat.zero_add, List.nil_append] at HO1
    simp only [Nat.zero_add]
    go_upto_region 3 with (first
      | (at_builtin; refine wpList_append_at _ rfl (.tmp 18) (.tmp 20) 41 rfl w1.heap.size 3 i0 (.int .i64 0) 1 8 Try.underlying41 hi0 hz0 hz1 hz2 rfl (by decide) _ n (toV L) rfl (by exact HO1.out.alloc _) ⟨_, 0, none⟩ 1 1 [.int .i64 (i : Int)] rfl rfl (by exact new_cell _ _ _ _ rfl) (by simp [Value.oneCell']) (by simp [maxLen]; omega) (by omega) (by simp; omega) ?_; intro v1 w3 hown1 hg1 hat1; have HOwn1 := hide hown1; have HB3 := hide (kept_below (HO1.out.alloc _) hg1 (HB1.out.alloc HB1.out.size _) (Nat.le_refl _) (by simp; omega)); clear hown1 hg1 hat1))
    have hown1 := HOwn1.out
    obtain ⟨A1, c1, hv1⟩ := own_form hown1
    subst hv1
    have HF3 := hide (HV.out.later HB3.out)
    have cv3 := HF3.out.blk.at HL4.out
    have fv3 := HF3.out.blk.frozen l
    have gl3 := HF3.out.blk.lt
    have HRow : Hid (RowV w3 (.slice A1 (n + 1) c1) (L ++ [i])) := hide (by
      have e : toV (L ++ [i]) = toV L ++ [.int .i64 (i : Int)] := by simp [toV]
      rw [← e, ← HNn.out, show L.length + 1 = (L ++ [i]).length by simp] at hown1
      rw [← HNn.out, show L.length + 1 = (L ++ [i]).length by simp]
      exact RowV.of_own hown1)
    clear hown1 cv
    go_wp2_with fail
    go_end0
    have h := HF3.out.lay l _ _ HRow.out
    rw [← HLe.out] at h
    exact ⟨rfl, ⟨_, h⟩, (H2.out.trans (Chg.of_below (S := one gx) HB3.out) (fun _ _ h => h)).setCell (p := ⟨gx, l, none⟩) (.inl rfl) _⟩
def MvRel1 (w : World) (T k : Nat) (s2 s6 : Value) (wr : World) : Prop := ∃ (l : Nat) (b : Int), s6 = .int .i64 (l : Int) ∧ s2 = .int .i64 b ∧ l + k = 3 ∧ moved l b = T ∧ -9223372036854775808 ≤ b ∧ b ≤ 9223372036854775807 ∧ wr = w
def MvRel2 (w : World) (T k : Nat) (s2 s6 : Value) (wr : World) : Prop := ∃ (l : Nat) (b : Int), s6 = .int .i64 (l : Int) ∧ s2 = .int .i64 b ∧ l = k ∧ l ≤ 3 ∧ (0 < b → l = 3) ∧ moved l b = T ∧ -9223372036854775808 ≤ b ∧ b ≤ 9223372036854775807 ∧ wr = w
set_option maxRecDepth 100000 in
set_option maxHeartbeats 1000000 in
theorem rmove_any (gx i : Nat) (b0 : Int) (R : Nat → List Nat) (hb1 : -9223372036854775808 ≤ b0) (hb2 : b0 ≤ 9223372036854775807) (hw : wh R i < 4) (hlen : ∀ l, l < 4 → (R l).length ≤ 1000) (w : World) (hq : RefAt w gx R) :
    Calls Try.prog 34 #[.pointer (some ⟨gx, 0, none⟩), .int .i64 (i : Int), .int .i64 b0] w (RE gx (putR R i (moved (wh R i) b0)) w) := by
  have HQ := hide hq
  have HL := hide hlen
  obtain ⟨l0, hl0⟩ : ∃ l0, wh R i = l0 := ⟨_, rfl⟩
  obtain ⟨T, hT⟩ : ∃ T, moved l0 b0 = T := ⟨_, rfl⟩
  have hW : whV R i = (l0 : Int) := by unfold whV; rw [if_pos hw, hl0]
  have HWh := hide (fun W hW2 => where_any gx i R hlen W hW2)
  rw [hW] at HWh
  rw [hl0] at hw ⊢
  rw [hT]
  have HT4 : Hid (T < 4) := hide (by rw [← hT]; exact moved_lt _ _)
  have HTT := hide hT
  clear hlen hq hW hl0 hT
  go_enter Try.func34, Try.ntmps34
  go_upto_region 1 with (first
    | (go_at_call 29; (with_reducible refine (HWh.out _ HQ.out).mono ?_); rintro e wx ⟨rfl, hw⟩; subst wx))
  go_wp2_with fail
  go_loopg [2, 6] (3 - l0) (fun k s2 s6 wr => MvRel1 w T k s2 s6 wr)
  case atStart => exact ⟨l0, b0, rfl, rfl, by omega, HTT.out, hb1, hb2, rfl⟩
  case round =>
    obtain ⟨l, b, rfl, rfl, hk, hT, hc1, hc2, hw⟩ := hrel
    subst wr
    have H1 := hide hT
    by_cases hgo : 0 < b ∧ l < 3
    · have t1 : decide ((0 : Int) < b) = true := by simp; omega
      have t2 : decide ((l : Int) < 3) = true := by simp; omega
      have t3 : (0 : Int) < b := hgo.1
      have t4 : (l : Int) < 3 := by omega
      have hgk : 0 < gk := by omega
      have e1 : IntKind.i64.wrap ((l : Int) + 1) = ((l + 1 : Nat) : Int) := by rw [show (l : Int) + 1 = ((l + 1 : Nat) : Int) by omega]; exact IntWalk.i64_in _ (by omega)
      have e2 : IntKind.i64.wrap (b - 1) = b - 1 := IntWalk.i64_in _ (by omega)
      have HE : Hid (moved (l + 1) (b - 1) = T) := hide (by rw [← hT]; unfold moved; omega)
      clear hT
      go_wp2_with fail
      go_roundg (gk - 1)
      case measure => omega
      case rel => exact ⟨l + 1, b - 1, by go_num, by go_num, by omega, HE.out, by omega, by omega, rfl⟩
    · have hq3 : (decide ((0 : Int) < b) = false) ∨ (decide ((0 : Int) < b) = true ∧ decide ((l : Int) < 3) = false ∧ decide (l < 3) = false) := by
        simp; omega
      have HG := hide hgo
      have hl3 : l ≤ 3 := by omega
      clear hT hgo
      rcases hq3 with t1 | ⟨t1, t2, t2'⟩
      all_goals
        go_wp2_with fail
        go_loopg [2, 6] l (fun k s2 s6 wr => MvRel2 w T k s2 s6 wr)
        case atStart => exact ⟨l, b, rfl, rfl, rfl, hl3, fun h => by have := HG.out; omega, H1.out, hc1, hc2, rfl⟩
        case round =>
          clear t1
          obtain ⟨l, b, rfl, rfl, hk2, hl3, hb3, hT, hc1, hc2, hw⟩ := hrel
          subst wr
          have HK2 := hide hk2
          by_cases hgo : b < 0 ∧ 0 < l
          · have t1 : decide (b < 0) = true := by simp; omega
            have t2 : decide ((0 : Int) < (l : Int)) = true := by simp; omega
            have t3 : b < 0 := hgo.1
            have t4 : (0 : Int) < (l : Int) := by omega
            have hgk : 0 < gk := by omega
            clear hk2
            have e1 : IntKind.i64.wrap ((l : Int) - 1) = ((l - 1 : Nat) : Int) := by rw [show (l : Int) - 1 = ((l - 1 : Nat) : Int) by omega]; exact IntWalk.i64_in _ (by omega)
            have e2 : IntKind.i64.wrap (b + 1) = b + 1 := IntWalk.i64_in _ (by omega)
            have HE : Hid (moved (l - 1) (b + 1) = T) := hide (by rw [← hT]; unfold moved; omega)
            clear hT
            go_wp2_with fail
            go_roundg (gk - 1)
            case measure => omega
            case rel => exact ⟨l - 1, b + 1, by go_num, by go_num, by have := HK2.out; omega, by omega, fun h => by omega, HE.out, by omega, by omega, rfl⟩
          · have hq3 : (decide (b < 0) = false) ∨ (decide (b < 0) = true ∧ decide ((0 : Int) < (l : Int)) = false ∧ decide (0 < l) = false) := by
              simp; omega
            have hlT : l = T := by rw [← hT]; unfold moved; omega
            have HL4 : Hid (l < 4) := hide (by omega)
            have HLT := hide hlT
            clear hT hgo hb3 hlT hk2
            rcases hq3 with t1 | ⟨t1, t2, t2'⟩
            all_goals
              go_wp2_with (first
                | (go_at_call 35; (with_reducible refine (rput_any gx i l R HL4.out HL.out _ HQ.out).mono ?_); rintro e w2 ⟨rfl, h1, h2⟩; have H3 := hide h1; have H4 := hide h2; clear h1 h2))
              go_end0
              refine ⟨rfl, ?_, H4.out⟩
              rw [← HLT.out]
              exact H3.out
theorem rmove_zero (gx i : Nat) (R : Nat → List Nat) (hw : wh R i < 4) (hlen : ∀ l, l < 4 → (R l).length ≤ 1000) (w : World) (hq : RefAt w gx R) :
    Calls Try.prog 34 #[.pointer (some ⟨gx, 0, none⟩), .int .i64 (i : Int), .int .i64 0] w (RE gx (putR R i (moved (wh R i) 0)) w) := rmove_any gx i 0 R (by omega) (by omega) hw hlen w hq
def RLeast (w : World) (R : Nat → List Nat) (k : Nat) (s3 : Value) (wr : World) : Prop := ∃ i : Nat, s3 = .int .i64 (i : Int) ∧ i + k = 4 ∧ (∀ j, j < i → R j = []) ∧ wr = w
def rleastV (R : Nat → List Nat) : Int := if low R < 4 then hd (R (low R)) (-1) else -1
def RBalRel (w : World) (gx : Nat) (R : Nat → List Nat) (m k : Nat) (s5 s6 : Value) (wr : World) : Prop := ∃ j l : Nat, l = 3 - j ∧ s6 = .int .i64 (l : Int) ∧ s5 = .int .i64 (cntR R m j : Int) ∧ j + k = 3 ∧ RefAt wr gx (stR R m j) ∧ Chg (one gx) w wr
def RBalIn (w : World) (gx : Nat) (R1 : Nat → List Nat) (l m c0 k : Nat) (s5 : Value) (wr : World) : Prop := ∃ t : Nat, s5 = .int .i64 ((c0 + t : Nat) : Int) ∧ t + k = (R1 l).length - m ∧ RefAt wr gx (bal R1 l t) ∧ Chg (one gx) w wr
set_option maxRecDepth 100000 in
set_option maxHeartbeats 1000000 in
theorem rbalance_any (gx n : Nat) (R : Nat → List Nat) (hn16 : n ≤ 16) (hg : Good n R) (most : Int) (m : Nat) (hm : (if most < 0 then (0 : Int) else most) = (m : Int)) (w : World) (hq : RefAt w gx R) :
    Calls Try.prog 41 #[.pointer (some ⟨gx, 0, none⟩), .int .i64 most] w fun e w' => e = .returned (.int .i64 (cntR R m 3 : Int)) ∧ RefAt w' gx (stR R m 3) ∧ Chg (one gx) w w' := by
  have HQ := hide hq
  have HG := hide hg
  clear hq hg
  have hcase : (decide (most < 0) = true ∧ (0 : Int) = (m : Int)) ∨ (decide (most < 0) = false ∧ most = (m : Int)) := by
    by_cases h : most < 0
    · rw [if_pos h] at hm
      exact .inl ⟨by simpa using h, hm⟩
    · rw [if_neg h] at hm
      exact .inr ⟨by simpa using h, hm⟩
  clear hm
  rcases hcase with ⟨t1, hm0⟩ | ⟨t1, rfl⟩
  · obtain rfl : m = 0 := by omega
    clear hm0
    go_enter Try.func41, Try.ntmps41
    go_wp2_with fail
    go_loopg [5, 6] 3 (fun k s5 s6 wr => RBalRel w gx R 0 k s5 s6 wr)
    case atStart => exact ⟨0, 3, rfl, rfl, rfl, rfl, HQ.out, Chg.refl _ _⟩
    case round =>
      obtain ⟨j, l, hl, rfl, rfl, hk, hqr, hc⟩ := hrel
      have HQr := hide hqr
      have HCr := hide hc
      have hcl := cntR_le 0 HG.out j (by omega)
      clear hqr hc
      by_cases hj : j < 3
      · have hgk : 0 < gk := by omega
        have hl0 : (0 : Int) < (l : Int) := by omega
        have hl4 : l < 4 := by omega
        have hl0n : 0 < l := by omega
        have l4' : (l : Int) < 4 := by omega
        have HL := hide hl
        have hgR := good_stR 0 HG.out j (by omega)
        obtain ⟨R1, hR1⟩ : ∃ R1, stR R 0 j = R1 := ⟨_, rfl⟩
        obtain ⟨c0, hc0⟩ : ∃ c, cntR R 0 j = c := ⟨_, rfl⟩
        have hc100 : c0 ≤ 48 := by
          have : j * n ≤ 3 * n := Nat.mul_le_mul_right _ (by omega)
          omega
        have HS : Hid (stR R 0 (j + 1) = bal R1 l ((R1 l).length - 0) ∧ cntR R 0 (j + 1) = c0 + ((R1 l).length - 0)) := hide ⟨by rw [← hR1, hl]; rfl, by rw [← hR1, ← hc0, hl]; rfl⟩
        rw [hR1] at HQr hgR
        rw [hc0]
        have hlen := len_le hgR hl4
        have HGR := hide hgR
        clear hR1 hc0 hl hcl hgR
        obtain ⟨g0, hg0⟩ : ∃ g, g = gk := ⟨gk, rfl⟩
        subst hg0
        go_wp2_with fail
        go_loopg [5] ((R1 l).length - 0) (fun k s5 wx => RBalIn w gx R1 l 0 c0 k s5 wx)
        case atStart => exact ⟨0, rfl, by omega, by rw [bal_zero]; exact HQr.out, HCr.out⟩
        case round =>
          obtain ⟨t, rfl, hkt, hqx, hcx⟩ := hrel
          have HQx := hide hqx
          have HCx := hide hcx
          have hgood := good_bal hl4 hl0n HGR.out t
          have hbl : bal R1 l t l = (R1 l).drop t := by unfold bal; rw [if_pos rfl]
          obtain ⟨V, hV⟩ := hqx
          have cv := hV.blk.at hl4
          have gl := hV.blk.lt
          have hr := hV.row l hl4
          obtain ⟨A, c, hvl⟩ := hr.form
          rw [hvl] at cv hr
          obtain ⟨q, hq⟩ : ∃ q, (R1 l).length - t = q := ⟨_, rfl⟩
          rw [hbl] at hr cv
          rw [List.length_drop, hq] at hr cv
          clear hV hvl hcx
          by_cases ht : 0 < q
          · have ht' : (0 : Int) < (q : Int) := by omega
            obtain ⟨a, B, hB⟩ : ∃ a B, (R1 l).drop t = a :: B := by
              cases h : (R1 l).drop t with
              | nil => have := congrArg List.length h; rw [List.length_drop] at this; simp at this; omega
              | cons a B => exact ⟨a, B, rfl⟩
            obtain ⟨bb, rfl, -, hca⟩ := hr.at (j := 0) (a := a) (by rw [hB]; rfl)
            have hq0 : (0 : Int) < (q : Int) := by omega
            have HPut := hide (fun W hW => rput_any gx a (l - 1) (bal R1 l t) (by omega) (fun k hk => by have := len_le hgood hk; omega) W hW)
            have HST := hide (bal_step hl4 hl0n hgood hB)
            have e2 : IntKind.i64.wrap ((l : Int) - 1) = ((l - 1 : Nat) : Int) := by rw [show (l : Int) - 1 = ((l - 1 : Nat) : Int) by omega]; exact IntWalk.i64_in _ (by omega)
            obtain ⟨l1, hl1⟩ : ∃ l1, l - 1 = l1 := ⟨_, rfl⟩
            rw [hl1] at HPut e2 HST
            have e1 : IntKind.i64.wrap (((c0 + t : Nat) : Int) + 1) = ((c0 + t + 1 : Nat) : Int) := by rw [show ((c0 + t : Nat) : Int) + 1 = ((c0 + t + 1 : Nat) : Int) by omega]; exact IntWalk.i64_in _ (by omega)
            obtain ⟨u, hu⟩ : ∃ u, c0 + t = u := ⟨_, rfl⟩
            rw [hu] at e1
            simp only [hu]
            have HU := hide hu
            have hgk2 : 0 < gk := by omega
            clear hB hr hgood hbl hu hl1 hq
            go_wp2_with (first
              | (go_at_call 35; (with_reducible refine (HPut.out _ HQx.out).mono ?_); rintro e w3 ⟨rfl, h1, h2⟩; have H1 := hide h1; have H2 := hide (HCx.out.trans h2 (fun _ _ h => h)); clear h1 h2))
            go_roundg (gk - 1)
            case measure => omega
            case rel =>
              refine ⟨t + 1, ?_, by omega, H1.out.congr (fun k hk => (HST.out k hk).symm), H2.out⟩
              rw [← Nat.add_assoc, HU.out]
              go_num
          · have ht' : decide (0 < q) = false := by simp; omega
            have ht'' : decide ((0 : Int) < (q : Int)) = false := by simp; omega
            have hte : t = (R1 l).length - 0 := by omega
            have e2 : IntKind.i64.wrap ((l : Int) - 1) = ((l - 1 : Nat) : Int) := by rw [show (l : Int) - 1 = ((l - 1 : Nat) : Int) by omega]; exact IntWalk.i64_in _ (by omega)
            have HT := hide hte
            clear ht hte hgood hbl hr
            go_wp2_with fail
            go_roundg (g0 - 1)
            case measure => omega
            case rel => exact ⟨j + 1, l - 1, by have := HL.out; omega, rfl, by rw [HS.out.2, HT.out, Int.natCast_add], by omega, by rw [HS.out.1, ← HT.out]; exact HQx.out, HCx.out⟩
      · obtain rfl : j = 3 := by omega
        have h0 : decide ((0 : Int) < (l : Int)) = false := by simp; omega
        have h0' : decide (0 < l) = false := by simp; omega
        clear hj hl
        go_wp2_with fail
        go_ret
        exact ⟨rfl, HQr.out, HCr.out⟩
  · go_enter Try.func41, Try.ntmps41
    go_wp2_with fail
    go_loopg [5, 6] 3 (fun k s5 s6 wr => RBalRel w gx R m k s5 s6 wr)
    case atStart => exact ⟨0, 3, rfl, rfl, rfl, rfl, HQ.out, Chg.refl _ _⟩
    case round =>
      obtain ⟨j, l, hl, rfl, rfl, hk, hqr, hc⟩ := hrel
      have HQr := hide hqr
      have HCr := hide hc
      have hcl := cntR_le m HG.out j (by omega)
      clear hqr hc
      by_cases hj : j < 3
      · have hgk : 0 < gk := by omega
        have hl0 : (0 : Int) < (l : Int) := by omega
        have hl4 : l < 4 := by omega
        have hl0n : 0 < l := by omega
        have l4' : (l : Int) < 4 := by omega
        have HL := hide hl
        have hgR := good_stR m HG.out j (by omega)
        obtain ⟨R1, hR1⟩ : ∃ R1, stR R m j = R1 := ⟨_, rfl⟩
        obtain ⟨c0, hc0⟩ : ∃ c, cntR R m j = c := ⟨_, rfl⟩
        have hc100 : c0 ≤ 48 := by
          have : j * n ≤ 3 * n := Nat.mul_le_mul_right _ (by omega)
          omega
        have HS : Hid (stR R m (j + 1) = bal R1 l ((R1 l).length - m) ∧ cntR R m (j + 1) = c0 + ((R1 l).length - m)) := hide ⟨by rw [← hR1, hl]; rfl, by rw [← hR1, ← hc0, hl]; rfl⟩
        rw [hR1] at HQr hgR
        rw [hc0]
        have hlen := len_le hgR hl4
        have HGR := hide hgR
        clear hR1 hc0 hl hcl hgR
        obtain ⟨g0, hg0⟩ : ∃ g, g = gk := ⟨gk, rfl⟩
        subst hg0
        go_wp2_with fail
        go_loopg [5] ((R1 l).length - m) (fun k s5 wx => RBalIn w gx R1 l m c0 k s5 wx)
        case atStart => exact ⟨0, rfl, by omega, by rw [bal_zero]; exact HQr.out, HCr.out⟩
        case round =>
          obtain ⟨t, rfl, hkt, hqx, hcx⟩ := hrel
          have HQx := hide hqx
          have HCx := hide hcx
          have hgood := good_bal hl4 hl0n HGR.out t
          have hbl : bal R1 l t l = (R1 l).drop t := by unfold bal; rw [if_pos rfl]
          obtain ⟨V, hV⟩ := hqx
          have cv := hV.blk.at hl4
          have gl := hV.blk.lt
          have hr := hV.row l hl4
          obtain ⟨A, c, hvl⟩ := hr.form
          rw [hvl] at cv hr
          obtain ⟨q, hq⟩ : ∃ q, (R1 l).length - t = q := ⟨_, rfl⟩
          rw [hbl] at hr cv
          rw [List.length_drop, hq] at hr cv
          clear hV hvl hcx
          by_cases ht : m < q
          · have ht' : (m : Int) < (q : Int) := by omega
            obtain ⟨a, B, hB⟩ : ∃ a B, (R1 l).drop t = a :: B := by
              cases h : (R1 l).drop t with
              | nil => have := congrArg List.length h; rw [List.length_drop] at this; simp at this; omega
              | cons a B => exact ⟨a, B, rfl⟩
            obtain ⟨bb, rfl, -, hca⟩ := hr.at (j := 0) (a := a) (by rw [hB]; rfl)
            have hq0 : (0 : Int) < (q : Int) := by omega
            have HPut := hide (fun W hW => rput_any gx a (l - 1) (bal R1 l t) (by omega) (fun k hk => by have := len_le hgood hk; omega) W hW)
            have HST := hide (bal_step hl4 hl0n hgood hB)
            have e2 : IntKind.i64.wrap ((l : Int) - 1) = ((l - 1 : Nat) : Int) := by rw [show (l : Int) - 1 = ((l - 1 : Nat) : Int) by omega]; exact IntWalk.i64_in _ (by omega)
            obtain ⟨l1, hl1⟩ : ∃ l1, l - 1 = l1 := ⟨_, rfl⟩
            rw [hl1] at HPut e2 HST
            have e1 : IntKind.i64.wrap (((c0 + t : Nat) : Int) + 1) = ((c0 + t + 1 : Nat) : Int) := by rw [show ((c0 + t : Nat) : Int) + 1 = ((c0 + t + 1 : Nat) : Int) by omega]; exact IntWalk.i64_in _ (by omega)
            obtain ⟨u, hu⟩ : ∃ u, c0 + t = u := ⟨_, rfl⟩
            rw [hu] at e1
            simp only [hu]
            have HU := hide hu
            have hgk2 : 0 < gk := by omega
            clear hB hr hgood hbl hu hl1 hq
            go_wp2_with (first
              | (go_at_call 35; (with_reducible refine (HPut.out _ HQx.out).mono ?_); rintro e w3 ⟨rfl, h1, h2⟩; have H1 := hide h1; have H2 := hide (HCx.out.trans h2 (fun _ _ h => h)); clear h1 h2))
            go_roundg (gk - 1)
            case measure => omega
            case rel =>
              refine ⟨t + 1, ?_, by omega, H1.out.congr (fun k hk => (HST.out k hk).symm), H2.out⟩
              rw [← Nat.add_assoc, HU.out]
              go_num
          · have ht' : decide (m < q) = false := by simp; omega
            have ht'' : decide ((m : Int) < (q : Int)) = false := by simp; omega
            have hte : t = (R1 l).length - m := by omega
            have e2 : IntKind.i64.wrap ((l : Int) - 1) = ((l - 1 : Nat) : Int) := by rw [show (l : Int) - 1 = ((l - 1 : Nat) : Int) by omega]; exact IntWalk.i64_in _ (by omega)
            have HT := hide hte
            clear ht hte hgood hbl hr
            go_wp2_with fail
            go_roundg (g0 - 1)
            case measure => omega
            case rel => exact ⟨j + 1, l - 1, by have := HL.out; omega, rfl, by rw [HS.out.2, HT.out, Int.natCast_add], by omega, by rw [HS.out.1, ← HT.out]; exact HQx.out, HCx.out⟩
      · obtain rfl : j = 3 := by omega
        have h0 : decide ((0 : Int) < (l : Int)) = false := by simp; omega
        have h0' : decide (0 < l) = false := by simp; omega
        clear hj hl
        go_wp2_with fail
        go_ret
        exact ⟨rfl, HQr.out, HCr.out⟩
end Go.Proofs.Ytadlfebpaijbhaa.Lv
