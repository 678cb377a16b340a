/- Rows of integers that the document's AES makes: words, all images. -/
import Derived.Test.YtikhaocpohfcnaaAesRefBox
import Derived.Test.YtikhaocpohfcnaaApp
import Derived.Test.YtikhaocpohfcnaaRow
namespace Go.Proofs.Ytikhaocpohfcnaa.Ae
open Go.RowKit Go.Proofs.Ytikhaocpohfcnaa.W Go.Proofs.Ytikhaocpohfcnaa.Gf
set_option linter.unusedVariables false
set_option linter.unusedSimpArgs false

theorem own_at {w : World} {base : Nat} {e : TypeId} {A : Option Addr} {n c : Nat} {xs : List Value} (h : w.ownsRow base e 1 (.slice A n c) n xs) (hn : 0 < n) :
    ∃ g cur, A = some ⟨g, 0, none⟩ ∧ base ≤ g ∧ Blk w g e cur ∧ ∀ j, j < n → cur[j]? = xs[j]? := by
  rcases h.2 with ⟨_, h0⟩ | ⟨g, cap, cur, hv, hb, hg, _, _, _, ht⟩
  · omega
  · injection hv with h1 h2 h3
    refine ⟨g, cur, h1, hb, hg, fun j hj => ?_⟩
    rw [← ht, List.getElem?_take, if_pos (by omega)]
    simp
/-- Block g's first n cells: integers of bytes. -/
def Ns (w : World) (g n : Nat) (f : St) : Prop := ∃ cs, Blk w g 3 cs ∧ ∀ r, r < n → cs[r]? = some (.int .i64 ((f r).toNat : Int))
section
variable {w w' : World} {g n : Nat} {f : St}
theorem Ns.at (h : Ns w g n f) {r : Nat} (hr : r < n) : w.cell? ⟨g, r, none⟩ = some (.int .i64 ((f r).toNat : Int)) := by
  obtain ⟨cs, hb, hc⟩ := h
  rw [hb.cell, hc r hr]
theorem Ns.frozen (h : Ns w g n f) (r : Nat) : w.frozen? ⟨g, r, none⟩ = false := by
  obtain ⟨cs, hb, hc⟩ := h
  exact hb.frozen r
theorem Ns.lt (h : Ns w g n f) : g < w.heap.size := by
  obtain ⟨cs, hb, hc⟩ := h
  exact hb.lt
theorem Ns.later (h : Ns w g n f) (hb : Below w.heap.size w w') : Ns w' g n f := by
  obtain ⟨cs, hb', hc⟩ := h
  exact ⟨cs, W.later hb hb', hc⟩
theorem Ns.alloc (h : Ns w g n f) (o : Obj) : Ns (w.alloc o) g n f := by
  obtain ⟨cs, hb', hc⟩ := h
  exact ⟨cs, hb'.alloc o, hc⟩
theorem Ns.drewN (h : Ns w g n f) (k : Nat) : Ns (w.drewN k) g n f := h
theorem Ns.far (h : Ns w g n f) {p : Addr} (hp : g ≠ p.block) (v : Value) : Ns (w.setCell p v) g n f := by
  obtain ⟨cs, hb', hc⟩ := h
  exact ⟨cs, hb'.far hp v, hc⟩
theorem Ns.set_ (h : Ns w g n f) (r : Nat) (x : BitVec 8) : Ns (w.setCell ⟨g, r, none⟩ (.int .i64 (x.toNat : Int))) g n (upd f r x) := by
  obtain ⟨cs, hb', hc⟩ := h
  refine ⟨_, hb'.set_ r _, fun j hj => ?_⟩
  rw [Array.getElem?_setIfInBounds]
  simp only [upd]
  by_cases e : r = j
  · subst e
    have h1 := hc r hj
    have hlt : r < cs.size := (Array.getElem?_eq_some_iff.1 h1).1
    rw [if_pos rfl, if_pos hlt, if_pos rfl]
  · rw [if_neg e, if_neg (fun e' => e e'.symm)]
    exact hc j hj
theorem Ns.as {f' : St} (h : Ns w g n f) (e : ∀ r, r < n → f r = f' r) : Ns w g n f' := by
  obtain ⟨cs, hb', hc⟩ := h
  exact ⟨cs, hb', fun r hr => by rw [hc r hr, e r hr]⟩
/-- What an append onto another row leaves. -/
theorem Ns.grown {v : Value} {base m : Nat} {e : TypeId} {xs : List Value} (h : Ns w g n f) (hown : w.ownsRow base e 1 v m xs) (hg : w.grownBy w' v.ownBlock) (hne : v.ownBlock ≠ some g) : Ns w' g n f := by
  obtain ⟨cs, hb', hc⟩ := h
  refine ⟨cs, hb'.chg (Chg.of_grown hg (S := fun k => v.ownBlock = some k) (fun k hk => hk)) (fun e => hne e), hc⟩
end
def imgs : St := fun j => sb (BitVec.ofNat 8 j)
def BoxRel (w : World) (k : Nat) (s1 s2 : Value) (wr : World) : Prop :=
  ∃ (i : Nat) (A : Option Addr) (c : Nat), s2 = .int .i64 (i : Int) ∧ s1 = .slice A i c ∧ i + k = 256 ∧
    wr.ownsRow w.heap.size 3 1 (.slice A i c) i ((List.range i).map fun j => .int .i64 ((imgs j).toNat : Int)) ∧ Below w.heap.size w wr
theorem int_info : (Try.prog.info? 3).map (fun i => (i.zero, i.size, i.bytes)) = some (some (.int .i64 0), 1, 8) := by kernel_rfl
def imgL (i : Nat) : List Value := (List.range i).map fun j => .int .i64 ((imgs j).toNat : Int)
theorem imgL_succ (i : Nat) : imgL i ++ [.int .i64 ((imgs i).toNat : Int)] = imgL (i + 1) := by
  simp [imgL, List.range_succ]
set_option maxRecDepth 100000 in
set_option maxHeartbeats 1000000 in
theorem rboxes_any (w : World) : Calls Try.prog 43 #[] w fun e w' => ∃ g c, e = .returned (.slice (some ⟨g, 0, none⟩) 256 c) ∧ w.heap.size ≤ g ∧ Ns w' g 256 imgs ∧ Below w.heap.size w w' := by
  obtain ⟨i0, hi0, hz0, hz1, hz2⟩ := info_parts int_info
  go_enter Try.func43, Try.ntmps43
  go_wp2_with fail
  go_loopg [1, 2] 256 (fun k s1 s2 wr => BoxRel w k s1 s2 wr)
  case atStart => exact ⟨0, none, 0, rfl, rfl, by omega, ⟨rfl, .inl ⟨rfl, rfl⟩⟩, Below.refl _ _⟩
  case round =>
    obtain ⟨i, A, c, rfl, rfl, hk, hown, hb⟩ := hrel
    have HOwn := hide hown
    have HB := hide hb
    clear hown hb
    by_cases hi : i < 256
    · have hgk : 0 < gk := by omega
      have hi' : (i : Int) < 256 := by omega
      obtain ⟨b, hbx⟩ : ∃ b : BitVec 8, b.toNat = i := ⟨BitVec.ofNat 8 i, by rw [BitVec.toNat_ofNat]; omega⟩
      have HBox : Hid (∀ W, Calls Try.prog 51 #[.int .i64 (i : Int)] W fun e w' => e = .returned (.int .i64 ((imgs i).toNat : Int)) ∧ W = w') := hide (fun W => by
        have h := rbox_any b W
        have e : imgs i = sb b := by unfold imgs; rw [← hbx, BitVec.ofNat_toNat, BitVec.setWidth_eq]
        rw [e, ← hbx]
        exact h)
      clear hbx
      go_wp2_with (first
        | (go_at_call 51; (with_reducible refine (HBox.out _).mono ?_); rintro e w' ⟨rfl, rfl⟩)
        | (at_builtin; refine wpList_append_at _ rfl (.tmp 7) (.tmp 10) 76 rfl w.heap.size 3 i0 (.int .i64 0) 1 8 Try.underlying76 hi0 hz0 hz1 hz2 rfl (by decide) _ i _ rfl (by exact HOwn.out.alloc _) ⟨_, 0, none⟩ 1 1 [.int .i64 ((imgs i).toNat : Int)] rfl rfl (by exact new_cell _ _ _ _ rfl) (by simp [Value.oneCell']) (by simp [maxLen]; omega) (by omega) (by have := HB.out.size; simp; omega) ?_; intro v1 w1 hown1 hg1 hat1; have HOwn1 := hide hown1; have HG1 := hide hg1; clear hown1 hg1 hat1))
      have hown1 := HOwn1.out
      obtain ⟨A1, c1, hv1⟩ := own_form hown1
      rw [hv1] at hown1 ⊢
      go_roundg (gk - 1)
      case measure => omega
      case rel =>
        refine ⟨i + 1, A1, c1, by go_num, rfl, by omega, ?_, kept_below (HOwn.out.alloc _) HG1.out (HB.out.alloc HB.out.size _) (Nat.le_refl _) (by have := HB.out.size; simp; omega)⟩
        have e := imgL_succ i
        unfold imgL at e
        rw [← e]
        exact hown1
    · have hi' : decide (i < 256) = false := by simp; omega
      have hi'' : decide ((i : Int) < 256) = false := by simp; omega
      obtain rfl : i = 256 := by omega
      clear hi
      obtain ⟨g, cur, rfl, hgb, hbk, hcur⟩ := own_at HOwn.out (by omega)
      have HBk := hide hbk
      have HCur := hide hcur
      clear hbk hcur
      go_wp2_with fail
      go_ret
      exact ⟨g, c, rfl, hgb, ⟨cur, HBk.out, fun r hr => by rw [HCur.out r hr]; simp [hr]⟩, HB.out⟩
end Go.Proofs.Ytikhaocpohfcnaa.Ae
