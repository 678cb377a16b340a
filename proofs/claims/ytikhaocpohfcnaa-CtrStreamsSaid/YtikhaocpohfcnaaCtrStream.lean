/- Contracts of ctr's streams. -/
import Derived.Test.YtikhaocpohfcnaaCtrBe
import Derived.Test.YtikhaocpohfcnaaApp
import Derived.Lib.AppendStr
namespace Go.Proofs.Ytikhaocpohfcnaa.Ct
open Go.RowKit Go.Proofs.Ytikhaocpohfcnaa.W Go.Proofs.Ytikhaocpohfcnaa.Gf Go.Proofs.Ytikhaocpohfcnaa.Ae
set_option linter.unusedVariables false
set_option linter.unusedSimpArgs false

@[go_sem] theorem run_store_func (P : Program) (w : World) (a : Addr) (m : Mode) (f : Fn) (x y : Array Value) : (store a (.func f x y) m).run P w = stored P w a (.func f x y) m := run_store P w a _ m rfl
def okN (n : Int) : Prop := 0 ≤ n ∧ n ≤ 1099511627776
theorem right_yes (n : Nat) (h : n ≤ 1099511627776) (w : World) : Calls Try.prog 26 #[.int .i64 (n : Int)] w fun e w' => e = .returned (.bool true) ∧ w' = w := by
  have h1 : decide ((0 : Int) ≤ (n : Int)) = true := by simp
  have h2 : decide ((n : Int) ≤ 1099511627776) = true := by simp; omega
  go_enter Try.func26, Try.ntmps26
  go_wp2_with fail
  go_ret
  exact ⟨rfl, rfl⟩
theorem right_no (n : Int) (h : n < 0 ∨ 1099511627776 < n) (w : World) : Calls Try.prog 26 #[.int .i64 n] w fun e w' => e = .returned (.bool false) ∧ w' = w := by
  by_cases h0 : n < 0
  · have h1 : decide ((0 : Int) ≤ n) = false := by simp; omega
    clear h h0
    go_enter Try.func26, Try.ntmps26
    go_wp2_with fail
    go_ret
    exact ⟨rfl, rfl⟩
  · have h1 : decide ((0 : Int) ≤ n) = true := by simp; omega
    have h2 : decide (n ≤ 1099511627776) = false := by simp; omega
    clear h h0
    go_enter Try.func26, Try.ntmps26
    go_wp2_with fail
    go_ret
    exact ⟨rfl, rfl⟩
theorem own_first {w : World} {base : Nat} {e : TypeId} {A : Option Addr} {n c : Nat} {xs : List Value} (h : w.ownsRow base e 1 (.slice A n c) n xs) (hn : 0 < n) :
    ∃ g cur, A = some ⟨g, 0, none⟩ ∧ base ≤ g ∧ Blk w g e cur ∧ n ≤ c ∧ ∀ j, j < n → cur[j]? = xs[j]? := by
  rcases h.2 with ⟨_, h0⟩ | ⟨g, cap, cur, hv, hb, hg, hc, _, _, ht⟩
  · omega
  · injection hv with h1 h2 h3
    subst h3
    refine ⟨g, cur, h1, hb, hg, hc, fun j hj => ?_⟩
    rw [← ht, List.getElem?_take, if_pos (by omega)]
    simp
def tail8 (j : Nat) : St := fun i => if i = 7 then BitVec.ofNat 8 j else 0#8
theorem eight (x : BitVec 8) : #[Value.int .u8 0, .int .u8 0, .int .u8 0, .int .u8 0, .int .u8 0, .int .u8 0, .int .u8 0, .int .u8 (x.toNat : Int)] = row 8 (u8s (fun i => if i = 7 then x else 0#8)) := rfl
theorem blk_eq (n j : Nat) : Eq16 (sbyte (numB n ++ strB 8 (tail8 j))) (blkS n j) := by
  intro i hi
  unfold blkS
  by_cases h : i < 8
  · rw [if_pos h, sbyte_append_left (by rw [numB_size]; exact h)]
    exact sbyte_strB _ h
  · obtain ⟨k, rfl⟩ : ∃ k, i = 8 + k := ⟨i - 8, by omega⟩
    rw [if_neg h, sbyte_append_right (numB_size n), sbyte_strB _ (by omega)]
    unfold tail8
    by_cases h7 : k = 7
    · rw [if_pos h7, if_pos (by omega)]
    · rw [if_neg h7, if_neg (by omega)]
set_option maxRecDepth 100000 in
theorem piece_any (gk gf gt n j : Nat) (kf : St) (hj : j < 1000) (w : World) (hf : Blk w gf 55 #[.func (.func 28) #[.pointer (some ⟨gk, 0, none⟩)] #[]]) (ht : Blk w gt 9 #[.string (numB n)]) (hk : KeyAt w gk kf) :
    Calls Try.prog 29 #[.int .i64 (j : Int), .pointer (some ⟨gf, 0, none⟩), .pointer (some ⟨gt, 0, none⟩)] w fun e w' => e = .returned (.string (strB 16 (encS kf (blkS n j)))) ∧ Below w.heap.size w w' := by
  have cf := hf.one_
  have ct := ht.one_
  have HK := hide hk
  obtain ⟨x, hx⟩ : ∃ x, BitVec.ofNat 8 j = x := ⟨_, rfl⟩
  have e1 : IntKind.u8.wrap (j : Int) = (x.toNat : Int) := by
    rw [← hx, BitVec.toNat_ofNat]
    simp [IntKind.wrap, IntKind.bits, IntKind.signed]
  have hT : tail8 j = fun i => if i = 7 then x else 0#8 := by unfold tail8; rw [hx]
  have hcv : (convert 56 9 (.slice (some ⟨w.heap.size, 0, none⟩) 8 8)).run Try.prog (w.alloc (.cells #[Value.int .u8 0, .int .u8 0, .int .u8 0, .int .u8 0, .int .u8 0, .int .u8 0, .int .u8 0, .int .u8 (x.toNat : Int)] 5)) = .ok (.string (strB 8 (tail8 j))) (w.alloc (.cells #[Value.int .u8 0, .int .u8 0, .int .u8 0, .int .u8 0, .int .u8 0, .int .u8 0, .int .u8 0, .int .u8 (x.toNat : Int)] 5)) :=
    run_convert_row _ _ _ _ Try.underlying56 Try.underlying5 Try.underlying9 _ 0 8 8 (tail8 j) (fun i hi => by
      rw [eight, Nat.zero_add, (Blk.newAt w 5 (row 8 (u8s (fun i => if i = 7 then x else 0#8))) _ rfl).at hi, hT]
      rfl)
  have hadd : ∀ w, (Op.stringOp .add (numB n) (strB 8 (tail8 j))).run Try.prog w = .ok (.string (numB n ++ strB 8 (tail8 j))) w := fun w => run_string_add_sum w _ _ (by simp only [numB_size, strB_size]; omega)
  have HE := hide (fun (W : World) (hK : KeyAt W gk kf) => encrypt_ok gk kf (numB n ++ strB 8 (tail8 j)) (by rw [ByteArray.size_append, numB_size, strB_size]) W hK)
  have HR : Hid (strB 16 (encS kf (sbyte (numB n ++ strB 8 (tail8 j)))) = strB 16 (encS kf (blkS n j))) := hide (strB_congr (enc_congr kf (blk_eq n j)))
  clear hf ht hk hx hT
  go_enter Try.func29, Try.ntmps29
  go_wp2_with (first
    | (go_at_call 28; (with_reducible refine (HE.out _ ?_).mono ?_); (· exact Blk.alloc HK.out _); rintro e w1 ⟨rfl, hb⟩; have HB1 := hide hb; clear hb))
  go_ret
  rw [HR.out]
  exact ⟨rfl, ((Below.refl _ _).alloc (Nat.le_refl _) _).trans (HB1.out.mono (by simp))⟩
theorem rows_append (a b : Nat) (f g : St) (h : ∀ i, i < b → g i = f (a + i)) : (row a (u8s f)).toList ++ Go.Lib.strCells (strB b g) = (row (a + b) (u8s f)).toList := by
  have e : Go.Lib.strCells (strB b g) = (row b (u8s g)).toList := by
    rw [← u8s_str]
    simp [Go.Lib.strCells]
  rw [e]
  apply List.ext_getElem?
  intro i
  rw [List.getElem?_append]
  simp only [Array.length_toList, row_size, Array.getElem?_toList]
  by_cases h1 : i < a
  · rw [if_pos h1, row_get _ h1, row_get _ (by omega)]
  · rw [if_neg h1]
    by_cases h2 : i < a + b
    · rw [row_get _ (by omega), row_get _ h2]
      simp only [u8s]
      rw [h _ (by omega), show a + (i - a) = i by omega]
    · rw [Array.getElem?_eq_none (by rw [row_size]; omega), Array.getElem?_eq_none (by rw [row_size]; omega)]
theorem strm_blk (kf : St) (n j i : Nat) (h : i < 16) : encS kf (blkS n j) i = strm kf n (16 * j + i) := by
  unfold strm
  rw [show (16 * j + i) / 16 = j by omega, show (16 * j + i) % 16 = i by omega]
theorem u8_info : (Try.prog.info? 5).map (fun i => (i.zero, i.size, i.bytes)) = some (some (.int .u8 0), 1, 1) := by kernel_rfl
theorem info3 {P : Program} {t : TypeId} {z : Value} {n b : Nat} (h : (P.info? t).map (fun i => (i.zero, i.size, i.bytes)) = some (some z, n, b)) : ∃ i, P.info? t = some i ∧ i.zero = some z ∧ i.size = n ∧ i.bytes = b := by
  cases hq : P.info? t with
  | none => simp [hq] at h
  | some i =>
    simp [hq] at h
    exact ⟨i, rfl, h.1, h.2.1, h.2.2⟩
theorem stream_nil (n m : Int) (w : World) : Calls Try.prog 10 #[.pointer none, .int .i64 n, .int .i64 m] w fun e w' => e = .returned (.tuple #[.string ⟨#[]⟩, .int .i64 1]) ∧ Below w.heap.size w w' := by
  go_enter Try.func10, Try.ntmps10
  go_wp2_with fail
  go_ret2
  exact ⟨rfl, Below.refl _ _⟩
theorem stream_arg (g : Nat) (n m : Int) (h : n < 0 ∨ 1099511627776 < n) (w : World) : Calls Try.prog 10 #[.pointer (some ⟨g, 0, none⟩), .int .i64 n, .int .i64 m] w fun e w' => e = .returned (.tuple #[.string ⟨#[]⟩, .int .i64 2]) ∧ Below w.heap.size w w' := by
  have H := hide h
  clear h
  go_enter Try.func10, Try.ntmps10
  go_wp2_with (first | (go_at_call 26; (with_reducible refine (right_no _ H.out _).mono ?_); rintro e w1 ⟨rfl, rfl⟩))
  go_ret2
  exact ⟨rfl, Below.refl _ _⟩
theorem stream_big (g : Nat) (n : Nat) (hn : n ≤ 1099511627776) (m : Int) (h : m < 0 ∨ 4096 < m) (w : World) : Calls Try.prog 10 #[.pointer (some ⟨g, 0, none⟩), .int .i64 (n : Int), .int .i64 m] w fun e w' => e = .returned (.tuple #[.string ⟨#[]⟩, .int .i64 4]) ∧ Below w.heap.size w w' := by
  have H := hide hn
  by_cases h0 : m < 0
  · have h1 : decide (m < 0) = true := by simpa using h0
    clear h h0 hn
    go_enter Try.func10, Try.ntmps10
    go_wp2_with (first | (go_at_call 26; (with_reducible refine (right_yes _ H.out _).mono ?_); rintro e w1 ⟨rfl, rfl⟩))
    go_ret2
    exact ⟨rfl, Below.refl _ _⟩
  · have h1 : decide (m < 0) = false := by simpa using h0
    have h2 : decide ((4096 : Int) < m) = true := by simp; omega
    clear h h0 hn
    go_enter Try.func10, Try.ntmps10
    go_wp2_with (first | (go_at_call 26; (with_reducible refine (right_yes _ H.out _).mono ?_); rintro e w1 ⟨rfl, rfl⟩))
    go_ret2
    exact ⟨rfl, Below.refl _ _⟩
theorem own_below {w w' : World} {base : Nat} {e : TypeId} {s : Nat} {v : Value} {n : Nat} {xs : List Value} (h : w.ownsRow base e s v n xs) (hb : Below w.heap.size w w') : w'.ownsRow base e s v n xs := by
  refine ⟨h.1, ?_⟩
  rcases h.2 with h0 | ⟨g, cap, cur, hv, hbs, hg, h4, h5, h6, ht⟩
  · exact .inl h0
  · exact .inr ⟨g, cap, cur, hv, hbs, (hb.block g (by
      rcases Nat.lt_or_ge g w.heap.size with hlt | hge
      · exact hlt
      · rw [Array.getElem?_eq_none hge] at hg; cases hg)).trans hg, h4, h5, h6, ht⟩
theorem nil_text (w : World) : (convert 56 9 (.slice none 0 0)).run Try.prog w = .ok (.string ⟨#[]⟩) w := by kernel_rfl
structure StmAt (w : World) (w1 : World) (gk n : Nat) (kf : St) (wr : World) : Prop where
  t : Blk wr w1.heap.size 9 #[.string (numB n)]
  f : Blk wr (w1.heap.size + 1) 55 #[.func (.func 28) #[.pointer (some ⟨gk, 0, none⟩)] #[]]
  key : KeyAt wr gk kf
  below : Below w.heap.size w wr
  size : w1.heap.size + 2 ≤ wr.heap.size
theorem StmAt.later {w w1 wr wx : World} {gk n : Nat} {kf : St} (h : StmAt w w1 gk n kf wr) (hb : Below wr.heap.size wr wx) : StmAt w w1 gk n kf wx :=
  ⟨W.later hb h.t, W.later hb h.f, W.later hb h.key, h.below.trans (hb.mono h.below.size), Nat.le_trans h.size hb.size⟩
theorem StmAt.grown {w w1 wr wx : World} {gk n m : Nat} {kf : St} {v : Value} {xs : List Value} {e : TypeId} (h : StmAt w w1 gk n kf wr) (hown : wr.ownsRow (w1.heap.size + 2) e 1 v m xs) (hg : wr.grownBy wx v.ownBlock) (hk : gk < w1.heap.size) (hw : w.heap.size ≤ w1.heap.size) : StmAt w w1 gk n kf wx :=
  ⟨kept_blk hown hg h.t (by omega), kept_blk hown hg h.f (by omega), kept_blk hown hg h.key (by omega), kept_below hown hg h.below (by omega) h.below.size, Nat.le_trans h.size hg.size⟩
def StmRel (w w1 : World) (gk n : Nat) (kf : St) (M k : Nat) (s12 s13 : Value) (wr : World) : Prop :=
  ∃ (i m : Nat) (A : Option Addr) (c : Nat), m = 16 * i ∧ s12 = .slice A m c ∧ s13 = .int .i64 (i : Int) ∧ i + k = M ∧ wr.ownsRow (w1.heap.size + 2) 5 1 (.slice A m c) m (row m (u8s (strm kf n))).toList ∧ StmAt w w1 gk n kf wr
set_option maxRecDepth 100000 in
set_option maxHeartbeats 1000000 in
theorem stream_ok (g n m : Nat) (kf : St) (hn : n ≤ 1099511627776) (hm : m ≤ 4096) (w : World) (hk : KeyAt w g kf) : Calls Try.prog 10 #[.pointer (some ⟨g, 0, none⟩), .int .i64 (n : Int), .int .i64 (m : Int)] w fun e w' => e = .returned (.tuple #[.string (streamB kf n m), .int .i64 0]) ∧ Below w.heap.size w w' := by
  have H := hide hn
  have HK := hide hk
  have gl := hk.lt
  have h1 : decide ((m : Int) < 0) = false := by simp
  have h2 : decide ((4096 : Int) < (m : Int)) = false := by simp; omega
  have h3 : decide (4096 < m) = false := by simp; omega
  have hmf : ∀ (fn : Fn) (first cap : Array Value) (w : World), (Instr.makeFunc fn first cap).run Try.prog w = .ok (.func fn first cap) w := fun _ _ _ _ => rfl
  obtain ⟨i0, hi0, hz0, hz1, hz2⟩ := info3 u8_info
  clear hn hk
  go_enter Try.func10, Try.ntmps10
  go_wp2_with (first
    | (go_at_call 26; (with_reducible refine (right_yes _ H.out _).mono ?_); rintro e wx ⟨rfl, hw⟩; subst wx)
    | (go_at_call 27; (with_reducible refine (put_any _ H.out _).mono ?_); rintro e w1 ⟨rfl, hb⟩; have HB1 := hide hb; clear hb))
  go_loopg [12, 13] 257 (fun k s12 s13 wr => StmRel w w1 g n kf 257 k s12 s13 wr)
  case atStart =>
    have hsz := HB1.out.size
    refine ⟨0, 0, none, 0, rfl, rfl, rfl, by omega, ⟨rfl, .inl ⟨rfl, rfl⟩⟩, ?_, ?_, ?_, ?_, ?_⟩
    · exact (Blk.newAt w1 _ _ _ rfl).alloc _
    · exact Blk.newAt (w1.alloc (.cells #[.string (numB n)] 9)) 55 _ (w1.heap.size + 1) (by simp)
    · exact Blk.alloc (Blk.alloc (W.later HB1.out HK.out) _) _
    · exact (HB1.out.alloc hsz _).alloc (by simp; omega) _
    · simp
  case round =>
    have hsz := HB1.out.size
    obtain ⟨i, p, A, c, hp, rfl, rfl, hk, hown, hst⟩ := hrel
    have HP := hide hp
    have HOwn := hide hown
    have HS := hide hst
    have hsz2 := hst.size
    have hpl : p ≤ 16 * 257 := by omega
    clear hown hst
    by_cases hi : p < m
    · have hgk : 0 < gk := by omega
      have hi' : (p : Int) < (m : Int) := by omega
      have hj : i < 1000 := by omega
      clear hp
      have gl1 : g < w1.heap.size := by omega
      go_wp2_with (first
        | (go_at_call 29; (with_reducible refine (piece_any g _ _ n i kf hj _ HS.out.f HS.out.t HS.out.key).mono ?_); rintro e w2 ⟨rfl, hb⟩; have HB2 := hide hb; have HS2 := hide (HS.out.later hb); have HOwn2 := hide (own_below HOwn.out hb); clear hb)
        | (at_builtin; refine Go.Lib.wpList_append_own_string _ rfl (.tmp 42) (.tmp 45) 56 9 rfl (w1.heap.size + 2) 5 i0 Try.underlying56 Try.underlying9 hi0 hz0 hz1 hz2 _ p _ rfl (by exact HOwn2.out) (strB 16 (encS kf (blkS n i))) rfl (by rw [strB_size]; simp [maxLen]; omega) (by rw [strB_size]; omega) (by have := HB2.out.size; omega) ?_; intro v1 w3 hown1 hg1 hn1; have HOwn1 := hide hown1; have HG1 := hide hg1; clear hown1 hg1 hn1))
      have hown1 := HOwn1.out
      obtain ⟨A1, c1, hv1⟩ := own_form hown1
      rw [hv1] at hown1 ⊢
      rw [strB_size] at hown1
      go_roundg (gk - 1)
      case measure => omega
      case rel =>
        refine ⟨i + 1, p + 16, A1, c1, by have := HP.out; omega, rfl, by go_num, by omega, ?_, HS2.out.grown HOwn2.out HG1.out gl1 hsz⟩
        rw [rows_append p 16 _ _ (fun t ht => by rw [strm_blk kf n i t ht, HP.out])] at hown1
        exact hown1
    · have hi' : decide (p < m) = false := by simp; omega
      have hi'' : decide ((p : Int) < (m : Int)) = false := by simp; omega
      by_cases h0 : p = 0
      · obtain rfl : m = 0 := by omega
        subst h0
        have hown := HOwn.out
        have HE : Hid (streamB kf n 0 = ⟨#[]⟩) := hide (strB_zero _)
        have HSB := hide HS.out.below
        clear hi hp HP
        rcases hown.2 with ⟨hv, _⟩ | ⟨gb, cap, cur, hv, _, _, hc, _, _, _⟩
        · injection hv with a1 a2 a3
          subst a1 a3
          clear hown
          have hcv := nil_text
          go_wp2_with fail
          go_ret2
          rw [HE.out]
          exact ⟨rfl, HSB.out⟩
        · injection hv with a1 a2 a3
          subst a1 a3
          have hcv := run_convert_row wr _ _ _ Try.underlying56 Try.underlying5 Try.underlying9 gb 0 0 c (strm kf n) (fun j hj => by omega)
          clear hown
          go_wp2_with fail
          go_ret2
          exact ⟨rfl, HSB.out⟩
      · obtain ⟨gb, cur, rfl, hgb, hbk, hpc, hcur⟩ := own_first HOwn.out (by omega)
        have hmc : (m : Int) ≤ (c : Int) := by omega
        have hcv := run_convert_row wr _ _ _ Try.underlying56 Try.underlying5 Try.underlying9 gb 0 m c (strm kf n) (fun j hj => by
          rw [Nat.zero_add, hbk.cell, hcur j (by omega), Array.getElem?_toList, row_get _ (by omega)]
          rfl)
        have HBk := hide hbk
        clear hbk hcur hgb hi hp
        go_wp2_with fail
        go_ret2
        exact ⟨rfl, HS.out.below⟩
end Go.Proofs.Ytikhaocpohfcnaa.Ct
