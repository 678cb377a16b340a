/- The contract of view.Look: all blocks that are seen, in a row of the call's own. -/
import Derived.Test.YtmocaabdfiffnaaVwRLook2
import Derived.Test.YtmocaabdfiffnaaApp
import Derived.Laws.OwnMore
namespace Go.Proofs.Ytmocaabdfiffnaa.Ct
open Go.RowKit Go.Proofs.Ytmocaabdfiffnaa.W
set_option linter.unusedVariables false
set_option linter.unusedSimpArgs false

theorem seen_info : (Try.prog.info? 40).map (fun i => (i.zero, i.size, i.bytes)) = some (some (.agg #[.int .i64 0, .int .i64 0, .int .i64 0, .bool false]), 4, 32) := by kernel_rfl
theorem info3 {P : Program} {t : TypeId} {z : Value} {n b : Nat} (h : (P.info? t).map (fun i => (i.zero, i.size, i.bytes)) = some (some z, n, b)) : ∃ i, P.info? t = some i ∧ i.zero = some z ∧ i.size = n ∧ i.bytes = b := by
  cases hq : P.info? t with
  | none => simp [hq] at h
  | some i =>
    simp [hq] at h
    exact ⟨i, rfl, h.1, h.2.1, h.2.2⟩
theorem new_cells (w : World) (t : TypeId) (l : List Value) (n : Nat) (hn : n = w.heap.size) : ∀ j x, l[j]? = some x → (w.alloc (.cells l.toArray t)).cell? ((⟨n, 0, none⟩ : Addr).add j) = some x := by
  subst hn
  intro j x h
  have hb := Blk.newAt w t l.toArray _ rfl
  rw [Go.WideShapes.add_plain, Nat.zero_add, hb.cell]
  simpa using h
theorem own_below {w w' : World} {base : Nat} {e : TypeId} {s : Nat} {v : Value} {n : Nat} {xs : List Value} (h : w.ownsRow base e s v n xs) (hb : Below w.heap.size w w') : w'.ownsRow base e s v n xs := by
  refine ⟨h.1, ?_⟩
  rcases h.2 with h0 | ⟨g, cap, cur, hv, hbs, hg, h4, h5, h6, ht⟩
  · exact .inl h0
  · exact .inr ⟨g, cap, cur, hv, hbs, (hb.block g (by
      rcases Nat.lt_or_ge g w.heap.size with hlt | hge
      · exact hlt
      · rw [Array.getElem?_eq_none hge] at hg; cases hg)).trans hg, h4, h5, h6, ht⟩
noncomputable def seenF (s : ByteArray) (i : Nat) : Nat → Value
  | 0 => .int .i64 (whatOf i : Int)
  | 1 => .int .i64 (idxOf i : Int)
  | 2 => .int .i64 (numOf (blk s i) i)
  | _ => .bool ((blk s i).toList == (zerosB 64).toList)
noncomputable def seens (s : ByteArray) (k : Nat) : List Value := (List.range (4 * k)).map fun m => seenF s (m / 4) (m % 4)
theorem seens_succ (s : ByteArray) (k : Nat) : seens s (k + 1) = seens s k ++ [.int .i64 (whatOf k : Int), .int .i64 (idxOf k : Int), .int .i64 (numOf (blk s k) k), .bool ((blk s k).toList == (zerosB 64).toList)] := by
  unfold seens
  rw [show 4 * (k + 1) = 4 * k + 1 + 1 + 1 + 1 by omega]
  simp only [List.range_succ, List.map_append, List.map_cons, List.map_nil, List.append_assoc, List.cons_append, List.nil_append]
  have d0 : (4 * k) / 4 = k := by omega
  have d1 : (4 * k + 1) / 4 = k := by omega
  have d2 : (4 * k + 1 + 1) / 4 = k := by omega
  have d3 : (4 * k + 1 + 1 + 1) / 4 = k := by omega
  have m0 : (4 * k) % 4 = 0 := by omega
  have m1 : (4 * k + 1) % 4 = 1 := by omega
  have m2 : (4 * k + 1 + 1) % 4 = 2 := by omega
  have m3 : (4 * k + 1 + 1 + 1) % 4 = 3 := by omega
  rw [d0, d1, d2, d3, m0, m1, m2, m3]
  rfl
theorem seens_at (s : ByteArray) {k i j : Nat} (hi : i < k) (hj : j < 4) : (seens s k)[i * 4 + j]? = some (seenF s i j) := by
  unfold seens
  rw [List.getElem?_map, List.getElem?_range (by omega)]
  show some (seenF s ((i * 4 + j) / 4) ((i * 4 + j) % 4)) = _
  rw [show (i * 4 + j) / 4 = i by omega, show (i * 4 + j) % 4 = j by omega]
def LkRel (w : World) (s : ByteArray) (k : Nat) (s4 s9 : Value) (wr : World) : Prop :=
  ∃ (i : Nat) (A : Option Addr) (c : Nat), s9 = .int .i64 (i : Int) ∧ s4 = .slice A i c ∧ i + k = 288 ∧ wr.ownsRow w.heap.size 40 4 (.slice A i c) i (seens s i) ∧ Below w.heap.size w wr
set_option maxRecDepth 100000 in
set_option maxHeartbeats 1000000 in
theorem looks_yes (s : ByteArray) (hs : s.size = 18432) (w : World) : Calls Try.prog 13 #[.string s] w fun e w' => ∃ A c, e = .returned (.tuple #[.slice A 288 c, .int .i64 0]) ∧ w'.ownsRow w.heap.size 40 4 (.slice A 288 c) 288 (seens s 288) ∧ Below w.heap.size w w' := by
  obtain ⟨i0, hi0, hz0, hz1, hz2⟩ := info3 seen_info
  have HR := hide (fun W => vright_yes s hs W)
  have HL := hide (fun i hi W => look_any s i hs hi W)
  clear hs
  go_enter Try.func13, Try.ntmps13
  go_wp2_with (first
    | (go_at_call 15; (with_reducible refine (HR.out _).mono ?_); rintro e w1 ⟨rfl, hb⟩; subst w1))
  go_loopg [4, 5, 9] 288 (fun k s4 s5 s9 wr => LkRel w s k s4 s9 wr)
  case atStart => exact ⟨0, none, 0, rfl, rfl, rfl, World.ownsRow_nil _ _ _ _, Below.refl _ _⟩
  case round =>
    obtain ⟨i, A, c, rfl, rfl, hk, hown, hb⟩ := hrel
    have HOwn := hide hown
    have HB := hide hb
    clear hown hb
    by_cases hi : i < 288
    · have hlt : (i : Int) < 288 := by omega
      have hL : ∀ W, Calls Try.prog 19 #[.string s, .int .i64 (i : Int)] W fun e w' => e = .returned (.agg #[.int .i64 (whatOf i : Int), .int .i64 (idxOf i : Int), .int .i64 (numOf (blk s i) i), .bool ((blk s i).toList == (zerosB 64).toList)]) ∧ Below W.heap.size W w' := HL.out i hi
      have HSucc := hide (seens_succ s i)
      obtain ⟨v0, hv0⟩ : ∃ v, (whatOf i : Int) = v := ⟨_, rfl⟩
      obtain ⟨v1, hv1⟩ : ∃ v, (idxOf i : Int) = v := ⟨_, rfl⟩
      obtain ⟨v2, hv2⟩ : ∃ v, numOf (blk s i) i = v := ⟨_, rfl⟩
      obtain ⟨v3, hv3⟩ : ∃ v, ((blk s i).toList == (zerosB 64).toList) = v := ⟨_, rfl⟩
      rw [hv0, hv1, hv2, hv3] at hL HSucc
      have HLi := hide hL
      clear hL hv0 hv1 hv2 hv3
      have HK := hide hk
      clear hk
      go_wp2_with (first
        | (go_at_call 19; (with_reducible refine (HLi.out _).mono ?_); rintro e w2 ⟨rfl, hb⟩; (have HOwn2 := hide (own_below HOwn.out hb)); (have HB2 := hide (HB.out.trans (hb.mono HB.out.size))); clear hb)
        | (at_builtin; refine wpList_append_at _ rfl (.tmp 12) (.tmp 16) 43 rfl w.heap.size 40 i0 _ 4 32 Try.underlying43 hi0 hz0 hz1 hz2 rfl (by decide) _ i _ rfl (by exact HOwn2.out.alloc _) ⟨_, 0, none⟩ 1 1 [.int .i64 v0, .int .i64 v1, .int .i64 v2, .bool v3] rfl rfl (by exact new_cells _ _ _ _ rfl) (by simp [Value.oneCell']) (by simp [maxLen]; omega) (by omega) (by have := HB2.out.size; simp; omega) ?_; intro v1' w3 hown1 hg1 hat1))
      obtain ⟨A1, c1, e1⟩ := own_form hown1
      rw [e1] at hown1 ⊢
      have hk := HK.out
      go_roundg (gk - 1)
      case measure => omega
      case rel =>
        refine ⟨i + 1, A1, c1, by go_num, rfl, by omega, ?_, kept_below (HOwn2.out.alloc _) hg1 (HB2.out.alloc HB2.out.size _) (Nat.le_refl _) (by have := HB2.out.size; simp; omega)⟩
        rw [HSucc.out]
        exact hown1
    · obtain rfl : i = 288 := by omega
      clear hi
      go_wp2_with fail
      go_ret2
      exact ⟨A, c, rfl, HOwn.out, HB.out⟩
theorem seens_holds {w : World} {base : Nat} {s : ByteArray} {A : Option Addr} {c : Nat} (h : w.ownsRow base 40 4 (.slice A 288 c) 288 (seens s 288)) : Holds w w.heap.size 4 A 288 (seenF s) := fun _ => by
  obtain ⟨g, cap, hv, _, _⟩ := h.form (by omega)
  injection hv with hA _ hc
  subst hA hc
  have hc : ∀ i j, i < 288 → j < 4 → w.cell? ⟨g, 0 + i * 4 + j, none⟩ = some (seenF s i j) := fun i j hi hj => by
    rw [show 0 + i * 4 + j = i * 4 + j by omega, h.cellAt _ (by omega), seens_at s hi hj]
  exact ⟨g, 0, rfl, (h.lt g rfl).2, hc⟩
theorem looks_no (s : ByteArray) (hs : s.size ≠ 18432) (w : World) : Calls Try.prog 13 #[.string s] w fun e w' => e = .returned (.tuple #[.slice none 0 0, .int .i64 6]) ∧ w' = w := by
  have HR := hide (fun W => vright_no s hs W)
  clear hs
  go_enter Try.func13, Try.ntmps13
  go_wp2_with (first
    | (go_at_call 15; (with_reducible refine (HR.out _).mono ?_); rintro e w1 ⟨rfl, hb⟩; subst w1))
  go_ret2
  exact ⟨rfl, rfl⟩
end Go.Proofs.Ytmocaabdfiffnaa.Ct
