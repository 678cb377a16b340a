/- Contracts of ctr's calls. -/
import Derived.Test.YtikhaocpohfcnaaCtrStream
namespace Go.Proofs.Ytikhaocpohfcnaa.Ct
open Go.RowKit Go.Proofs.Ytikhaocpohfcnaa.W Go.Proofs.Ytikhaocpohfcnaa.Gf Go.Proofs.Ytikhaocpohfcnaa.Ae
set_option linter.unusedVariables false
set_option linter.unusedSimpArgs false

theorem crypt_nil (n : Int) (s : ByteArray) (w : World) : Calls Try.prog 11 #[.pointer none, .int .i64 n, .string s] w fun e w' => e = .returned (.tuple #[.string ⟨#[]⟩, .int .i64 1]) ∧ Below w.heap.size w w' := by
  go_enter Try.func11, Try.ntmps11
  go_wp2_with (first | (go_at_call 10; (with_reducible refine (stream_nil _ _ _).mono ?_); rintro e w1 ⟨rfl, hb⟩; have HB1 := hide hb; clear hb))
  go_ret2
  exact ⟨rfl, HB1.out⟩
theorem crypt_arg (g : Nat) (n : Int) (h : n < 0 ∨ 1099511627776 < n) (s : ByteArray) (w : World) : Calls Try.prog 11 #[.pointer (some ⟨g, 0, none⟩), .int .i64 n, .string s] w fun e w' => e = .returned (.tuple #[.string ⟨#[]⟩, .int .i64 2]) ∧ Below w.heap.size w w' := by
  have H := hide h
  clear h
  go_enter Try.func11, Try.ntmps11
  go_wp2_with (first | (go_at_call 10; (with_reducible refine (stream_arg _ _ _ H.out _).mono ?_); rintro e w1 ⟨rfl, hb⟩; have HB1 := hide hb; clear hb))
  go_ret2
  exact ⟨rfl, HB1.out⟩
theorem crypt_ok (g n : Nat) (kf : St) (hn : n ≤ 1099511627776) (s : ByteArray) (hs : s.size ≤ 1000) (w : World) (hk : KeyAt w g kf) : Calls Try.prog 11 #[.pointer (some ⟨g, 0, none⟩), .int .i64 (n : Int), .string s] w fun e w' => e = .returned (.tuple #[.string (cryB kf n s), .int .i64 0]) ∧ Below w.heap.size w w' := by
  have H := hide hn
  have HS := hide hs
  have HK := hide hk
  have HX := hide (fun W => xor_any s (streamB kf n s.size) (strB_size _ _) hs W)
  have HR : Hid (xorB s.size (sbyte s) (sbyte (streamB kf n s.size)) = cryB kf n s) := hide (by
    unfold cryB xorB
    exact strB_congr (fun i hi => by rw [show sbyte (streamB kf n s.size) i = strm kf n i from sbyte_strB _ hi]))
  clear hn hs hk
  go_enter Try.func11, Try.ntmps11
  go_wp2_with (first
    | (go_at_call 10; (with_reducible refine (stream_ok g n s.size kf H.out (by have := HS.out; omega) _ HK.out).mono ?_); rintro e w1 ⟨rfl, hb⟩; have HB1 := hide hb; clear hb)
    | (go_at_call 30; (with_reducible refine (HX.out _).mono ?_); rintro e w2 ⟨rfl, hb⟩; have HB2 := hide hb; clear hb))
  go_ret2
  rw [HR.out]
  exact ⟨rfl, HB1.out.trans (HB2.out.mono HB1.out.size)⟩
theorem eight2 (x : BitVec 8) : #[Value.int .u8 (x.toNat : Int), .int .u8 0, .int .u8 0, .int .u8 0, .int .u8 0, .int .u8 0, .int .u8 0, .int .u8 0] = row 8 (u8s (fun i => if i = 0 then x else 0#8)) := rfl
set_option maxRecDepth 100000 in
theorem lay_any (n k : Nat) (hn : n ≤ 1099511627776) (hk : k < 256) (b : ByteArray) (hb : b.size ≤ 1000) (w : World) : Calls Try.prog 35 #[.int .i64 (n : Int), .int .i64 (k : Int), .string b] w fun e w' => e = .returned (.string (headB n k ++ b)) ∧ Below w.heap.size w w' := by
  have H := hide hn
  obtain ⟨x, hx⟩ : ∃ x, BitVec.ofNat 8 k = x := ⟨_, rfl⟩
  have e1 : IntKind.u8.wrap (k : Int) = (x.toNat : Int) := by
    rw [← hx, BitVec.toNat_ofNat]
    simp [IntKind.wrap, IntKind.bits, IntKind.signed]
  have hT : kb k = fun i => if i = 0 then x else 0#8 := by unfold kb; rw [hx]
  have hcv : ∀ W : World, (convert 56 9 (.slice (some ⟨W.heap.size, 0, none⟩) 8 8)).run Try.prog (W.alloc (.cells #[Value.int .u8 (x.toNat : Int), .int .u8 0, .int .u8 0, .int .u8 0, .int .u8 0, .int .u8 0, .int .u8 0, .int .u8 0] 5)) = .ok (.string (strB 8 (kb k))) (W.alloc (.cells #[Value.int .u8 (x.toNat : Int), .int .u8 0, .int .u8 0, .int .u8 0, .int .u8 0, .int .u8 0, .int .u8 0, .int .u8 0] 5)) := fun W =>
    run_convert_row _ _ _ _ Try.underlying56 Try.underlying5 Try.underlying9 _ 0 8 8 (kb k) (fun i hi => by
      rw [eight2, Nat.zero_add, (Blk.newAt W 5 (row 8 (u8s (fun i => if i = 0 then x else 0#8))) _ rfl).at hi, hT]
      rfl)
  have hadd : ∀ w, (Op.stringOp .add (numB n) (strB 8 (kb k))).run Try.prog w = .ok (.string (headB n k)) w := fun w => run_string_add_sum w _ _ (by simp only [numB_size, strB_size]; omega)
  have hadd2 : ∀ w, (Op.stringOp .add (headB n k) b).run Try.prog w = .ok (.string (headB n k ++ b)) w := fun w => run_string_add_sum w _ _ (by simp only [headB_size]; omega)
  clear hn hx hT hk
  go_enter Try.func35, Try.ntmps35
  go_wp2_with (first
    | (go_at_call 27; (with_reducible refine (put_any _ H.out _).mono ?_); rintro e w1 ⟨rfl, hb⟩; have HB1 := hide hb; clear hb))
  go_ret
  exact ⟨rfl, HB1.out.alloc HB1.out.size _⟩
theorem lay_one (n : Nat) (hn : n ≤ 1099511627776) (b : ByteArray) (hb : b.size ≤ 1000) (w : World) : Calls Try.prog 35 #[.int .i64 (n : Int), .int .i64 1, .string b] w fun e w' => e = .returned (.string (headB n 1 ++ b)) ∧ Below w.heap.size w w' := lay_any n 1 hn (by omega) b hb w
theorem lay_two (n : Nat) (hn : n ≤ 1099511627776) (b : ByteArray) (hb : b.size ≤ 1000) (w : World) : Calls Try.prog 35 #[.int .i64 (n : Int), .int .i64 2, .string b] w fun e w' => e = .returned (.string (headB n 2 ++ b)) ∧ Below w.heap.size w w' := lay_any n 2 hn (by omega) b hb w
theorem seal_nil (n : Int) (s : ByteArray) (w : World) : Calls Try.prog 20 #[.pointer none, .int .i64 n, .string s] w fun e w' => e = .returned (.tuple #[.string ⟨#[]⟩, .int .i64 1]) ∧ Below w.heap.size w w' := by
  go_enter Try.func20, Try.ntmps20
  go_wp2_with fail
  go_ret2
  exact ⟨rfl, Below.refl _ _⟩
theorem seal_arg (g : Nat) (n : Int) (h : n < 0 ∨ 1099511627776 < n) (s : ByteArray) (w : World) : Calls Try.prog 20 #[.pointer (some ⟨g, 0, none⟩), .int .i64 n, .string s] w fun e w' => e = .returned (.tuple #[.string ⟨#[]⟩, .int .i64 2]) ∧ Below w.heap.size w w' := by
  have H := hide h
  clear h
  go_enter Try.func20, Try.ntmps20
  go_wp2_with (first | (go_at_call 26; (with_reducible refine (right_no _ H.out _).mono ?_); rintro e wx ⟨rfl, hw⟩; subst wx))
  go_ret2
  exact ⟨rfl, Below.refl _ _⟩
theorem seal_form (g n : Nat) (hn : n ≤ 1099511627776) (s : ByteArray) (hs : s.size ≠ 48) (w : World) : Calls Try.prog 20 #[.pointer (some ⟨g, 0, none⟩), .int .i64 (n : Int), .string s] w fun e w' => e = .returned (.tuple #[.string ⟨#[]⟩, .int .i64 6]) ∧ Below w.heap.size w w' := by
  have H := hide hn
  have t1 : ((s.size : Int) != 48) = true := by simp; omega
  have t2 : (s.size != 48) = true := by simp; omega
  clear hn hs
  go_enter Try.func20, Try.ntmps20
  go_wp2_with (first | (go_at_call 26; (with_reducible refine (right_yes _ H.out _).mono ?_); rintro e wx ⟨rfl, hw⟩; subst wx))
  go_ret2
  exact ⟨rfl, Below.refl _ _⟩
def sealB (kf : St) (n : Nat) (s : ByteArray) : ByteArray := headB n 1 ++ cryB kf n s
theorem seal_ok (g n : Nat) (kf : St) (hn : n ≤ 1099511627776) (s : ByteArray) (hs : s.size = 48) (w : World) (hk : KeyAt w g kf) : Calls Try.prog 20 #[.pointer (some ⟨g, 0, none⟩), .int .i64 (n : Int), .string s] w fun e w' => e = .returned (.tuple #[.string (sealB kf n s), .int .i64 0]) ∧ Below w.heap.size w w' := by
  have H := hide hn
  have HS := hide hs
  have HK := hide hk
  have t1 : ((s.size : Int) != 48) = false := by simp; omega
  have t2 : (s.size != 48) = false := by simp; omega
  clear hn hs hk
  go_enter Try.func20, Try.ntmps20
  go_wp2_with (first
    | (go_at_call 26; (with_reducible refine (right_yes _ H.out _).mono ?_); rintro e wx ⟨rfl, hw⟩; subst wx)
    | (go_at_call 11; (with_reducible refine (crypt_ok g n kf H.out s (by have := HS.out; omega) _ HK.out).mono ?_); rintro e w1 ⟨rfl, hb⟩; have HB1 := hide hb; clear hb)
    | (go_at_call 35; (with_reducible refine (lay_one n H.out (cryB kf n s) (by rw [cryB_size]; have := HS.out; omega) _).mono ?_); rintro e w2 ⟨rfl, hb⟩; have HB2 := hide hb; clear hb))
  go_ret2
  exact ⟨rfl, HB1.out.trans (HB2.out.mono HB1.out.size)⟩
theorem Lay_arg (n : Int) (h : n < 0 ∨ 1099511627776 < n) (s : ByteArray) (w : World) : Calls Try.prog 23 #[.int .i64 n, .string s] w fun e w' => e = .returned (.tuple #[.string ⟨#[]⟩, .int .i64 2]) ∧ Below w.heap.size w w' := by
  have H := hide h
  clear h
  go_enter Try.func23, Try.ntmps23
  go_wp2_with (first | (go_at_call 26; (with_reducible refine (right_no _ H.out _).mono ?_); rintro e wx ⟨rfl, hw⟩; subst wx))
  go_ret2
  exact ⟨rfl, Below.refl _ _⟩
theorem Lay_form (n : Nat) (hn : n ≤ 1099511627776) (s : ByteArray) (hs : s.size ≠ 48) (w : World) : Calls Try.prog 23 #[.int .i64 (n : Int), .string s] w fun e w' => e = .returned (.tuple #[.string ⟨#[]⟩, .int .i64 6]) ∧ Below w.heap.size w w' := by
  have H := hide hn
  have t1 : ((s.size : Int) != 48) = true := by simp; omega
  have t2 : (s.size != 48) = true := by simp; omega
  clear hn hs
  go_enter Try.func23, Try.ntmps23
  go_wp2_with (first | (go_at_call 26; (with_reducible refine (right_yes _ H.out _).mono ?_); rintro e wx ⟨rfl, hw⟩; subst wx))
  go_ret2
  exact ⟨rfl, Below.refl _ _⟩
theorem Lay_ok (n : Nat) (hn : n ≤ 1099511627776) (s : ByteArray) (hs : s.size = 48) (w : World) : Calls Try.prog 23 #[.int .i64 (n : Int), .string s] w fun e w' => e = .returned (.tuple #[.string (headB n 2 ++ s), .int .i64 0]) ∧ Below w.heap.size w w' := by
  have H := hide hn
  have HS := hide hs
  have t1 : ((s.size : Int) != 48) = false := by simp; omega
  have t2 : (s.size != 48) = false := by simp; omega
  clear hn hs
  go_enter Try.func23, Try.ntmps23
  go_wp2_with (first
    | (go_at_call 26; (with_reducible refine (right_yes _ H.out _).mono ?_); rintro e wx ⟨rfl, hw⟩; subst wx)
    | (go_at_call 35; (with_reducible refine (lay_two n H.out s (by have := HS.out; omega) _).mono ?_); rintro e w2 ⟨rfl, hb⟩; have HB2 := hide hb; clear hb))
  go_ret2
  exact ⟨rfl, HB2.out⟩
end Go.Proofs.Ytikhaocpohfcnaa.Ct
