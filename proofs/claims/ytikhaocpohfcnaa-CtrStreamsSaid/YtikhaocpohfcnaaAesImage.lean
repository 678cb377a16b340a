/- The contract of aes.New's closure, and the plain law of a key's words. -/
import Derived.Test.YtikhaocpohfcnaaAesCrypt
import Derived.BigRegion
namespace Go.Proofs.Ytikhaocpohfcnaa.Ae
open Go.RowKit Go.Proofs.Ytikhaocpohfcnaa.W Go.Proofs.Ytikhaocpohfcnaa.Gf
set_option linter.unusedVariables false
set_option linter.unusedSimpArgs false

/-- Powers of x. -/
def rc : Nat → BitVec 8
  | 0 => 1#8
  | j + 1 => tw (rc j)
/-- What is added to the word eight ahead. -/
def gw (i : Nat) (v : St) : St := fun r => if i % 8 = 0 then (if r = 0 then ad (sb (v 1)) (rc (i / 8 - 1)) else sb (v ((r + 1) % 4))) else if i % 8 = 4 then sb (v r) else v r
/-- A key's words. -/
def kword (key : St) (i : Nat) : St := if h : i < 8 then fun r => key (4 * i + r) else fun r => kword key (i - 8) r ^^^ gw i (kword key (i - 1)) r
termination_by i
theorem kword_lo (key : St) {i : Nat} (h : i < 8) : kword key i = fun r => key (4 * i + r) := by rw [kword, dif_pos h]
theorem kword_hi (key : St) {i : Nat} (h : 8 ≤ i) : kword key i = fun r => kword key (i - 8) r ^^^ gw i (kword key (i - 1)) r := by
  conv => lhs; rw [kword, dif_neg (by omega)]
def kfun (key : St) : St := fun c => kword key (c / 4) (c % 4)
/-- The key's block behind i images. -/
def nk (i : Nat) : St := fun c => if c < 240 then 0#8 else if c < 496 then (if c - 240 < i then sb (BitVec.ofNat 8 (c - 240)) else 0#8) else (if (ub (BitVec.ofNat 8 (c - 496))).toNat < i then ub (BitVec.ofNat 8 (c - 496)) else 0#8)
theorem nk_zero (c : Nat) : nk 0 c = 0#8 := by
  unfold nk
  split
  · rfl
  · split <;> (rw [if_neg (by omega)])
theorem nk_succ (b : BitVec 8) {i : Nat} (hb : b.toNat = i) : ∀ c, c < 752 → upd (upd (nk i) (240 + i) (sb b)) (496 + (sb b).toNat) b c = nk (i + 1) c := by
  intro c hc
  have hi := b.isLt
  have hs := (sb b).isLt
  have eb : BitVec.ofNat 8 i = b := by rw [← hb, BitVec.ofNat_toNat, BitVec.setWidth_eq]
  simp only [upd]
  by_cases h1 : c = 496 + (sb b).toNat
  · rw [if_pos h1]
    unfold nk
    rw [if_neg (by omega), if_neg (by omega)]
    have e : BitVec.ofNat 8 (c - 496) = sb b := by rw [h1, Nat.add_sub_cancel_left, BitVec.ofNat_toNat, BitVec.setWidth_eq]
    rw [e, ub_sb, if_pos (by omega)]
  · rw [if_neg h1]
    by_cases h2 : c = 240 + i
    · rw [if_pos h2]
      unfold nk
      rw [if_neg (by omega), if_pos (by omega), if_pos (by omega), h2, Nat.add_sub_cancel_left, eb]
    · rw [if_neg h2]
      unfold nk
      by_cases h3 : c < 240
      · rw [if_pos h3, if_pos h3]
      · rw [if_neg h3, if_neg h3]
        by_cases h4 : c < 496
        · rw [if_pos h4, if_pos h4]
          by_cases h5 : c - 240 < i
          · rw [if_pos h5, if_pos (by omega)]
          · rw [if_neg h5, if_neg (by omega)]
        · rw [if_neg h4, if_neg h4]
          have hne : (ub (BitVec.ofNat 8 (c - 496))).toNat ≠ i := by
            intro he
            apply h1
            have h6 : ub (BitVec.ofNat 8 (c - 496)) = b := BitVec.eq_of_toNat_eq (by rw [he, hb])
            have h7 : BitVec.ofNat 8 (c - 496) = sb b := by rw [← h6, sb_ub]
            have h8 := congrArg BitVec.toNat h7
            rw [BitVec.toNat_ofNat] at h8
            omega
          by_cases h5 : (ub (BitVec.ofNat 8 (c - 496))).toNat < i
          · rw [if_pos h5, if_pos (by omega)]
          · rw [if_neg h5, if_neg (by omega)]
/-- The key's block behind i words. -/
def nw (key : St) (i : Nat) : St := fun c => if c < 240 then (if c < i then kfun key c else 0#8) else if c < 496 then sb (BitVec.ofNat 8 (c - 240)) else ub (BitVec.ofNat 8 (c - 496))
theorem nk_nw (key : St) : ∀ c, c < 752 → nk 256 c = nw key 0 c := by
  intro c hc
  unfold nk nw
  by_cases h3 : c < 240
  · rw [if_pos h3, if_pos h3, if_neg (by omega)]
  · rw [if_neg h3, if_neg h3]
    by_cases h4 : c < 496
    · rw [if_pos h4, if_pos h4, if_pos (by omega)]
    · rw [if_neg h4, if_neg h4, if_pos (BitVec.isLt _)]
theorem nw_all (key : St) : row 752 (u8s (nw key 240)) = row 752 (u8s (keyF (kfun key))) := row_congr (fun c hc => by
  simp only [u8s]
  congr 3
  unfold nw keyF
  by_cases h : c < 240
  · rw [if_pos h, if_pos h, if_pos h]
  · rw [if_neg h, if_neg h])
theorem zero752a (w : World) : (zeroValue 65).run Try.prog w = .ok (.agg (row 752 (u8s fun _ => 0#8))) w := by kernel_rfl
theorem zero752 (w : World) : (zeroValue 65).run Try.prog w = .ok (.agg (row 752 (u8s (nk 0)))) w := by
  have e : row 752 (u8s (nk 0)) = row 752 (u8s fun _ => 0#8) := row_congr (fun c _ => by simp only [u8s]; rw [nk_zero])
  rw [e]
  exact zero752a w
theorem new_bad (s : ByteArray) (hs : s.size ≠ 32) (w : World) : Calls Try.prog 25 #[.string s] w fun e w' => e = .returned (.tuple #[.pointer none, .int .i64 2]) ∧ Below w.heap.size w w' := by
  have t1 : ((s.size : Int) != 32) = true := by simp; omega
  have t2 : (s.size != 32) = true := by simp; omega
  clear hs
  go_enter Try.func25, Try.ntmps25
  go_wp2_with fail
  go_ret2
  exact ⟨rfl, Below.refl _ _⟩
structure NewAt (w : World) (f : St) (wr : World) : Prop where
  key : Blk wr w.heap.size 65 (row 752 (u8s f))
  p : Blk wr (w.heap.size + 1) 24 #[.pointer (some ⟨w.heap.size, 0, none⟩)]
  below : Below w.heap.size w wr
theorem NewAt.later {w wr wx : World} {f : St} (h : NewAt w f wr) (hb : Below wr.heap.size wr wx) : NewAt w f wx := ⟨W.later hb h.key, W.later hb h.p, h.below.trans (hb.mono h.below.size)⟩
theorem NewAt.drewN {w wr : World} {f : St} (h : NewAt w f wr) (k : Nat) : NewAt w f (wr.drewN k) := ⟨h.key, h.p, below_drewN h.below k⟩
theorem NewAt.alloc {w wr : World} {f : St} (h : NewAt w f wr) (o : Obj) : NewAt w f (wr.alloc o) := ⟨h.key.alloc o, h.p.alloc o, h.below.alloc h.below.size o⟩
theorem NewAt.set_ {w wr : World} {f : St} (h : NewAt w f wr) (i : Nat) (x : BitVec 8) : NewAt w (upd f i x) (wr.setCell ⟨w.heap.size, i, none⟩ (.int .u8 (x.toNat : Int))) := by
  have h1 := h.key.upd i (.int .u8 (x.toNat : Int))
  rw [u8s_upd] at h1
  exact ⟨h1, h.p.far (by simp) _, h.below.setCell (by simp) _⟩
theorem NewAt.as {w wr : World} {f f' : St} (h : NewAt w f wr) (e : ∀ c, c < 752 → f c = f' c) : NewAt w f' wr := ⟨h.key.as (fun c hc => by simp only [u8s]; rw [e c hc]), h.p, h.below⟩
theorem NewAt.far {w wr : World} {f : St} (h : NewAt w f wr) {q : Addr} (hq : w.heap.size + 1 < q.block) (v : Value) : NewAt w f (wr.setCell q v) := ⟨h.key.far (by omega) _, h.p.far (by omega) _, h.below.setCell (by omega) _⟩
def f4 (a b c d : BitVec 8) : St := fun r => match r with | 0 => a | 1 => b | 2 => c | _ => d
theorem info84 : (Try.prog.info? 61).map (·.size) = some 4 := by kernel_rfl
theorem zero84 (w : World) : (zeroValue 61).run Try.prog w = .ok (.agg (row 4 (u8s fun _ => 0#8))) w := by kernel_rfl
theorem four (a b c d : BitVec 8) : Value.agg (((((row 4 (u8s fun _ => 0#8)).setIfInBounds 0 (.int .u8 (a.toNat : Int))).setIfInBounds 1 (.int .u8 (b.toNat : Int))).setIfInBounds 2 (.int .u8 (c.toNat : Int))).setIfInBounds 3 (.int .u8 (d.toNat : Int))) = .agg (row 4 (u8s (f4 a b c d))) := by
  rw [row_set, row_set, row_set, row_set]
  refine congrArg Value.agg (row_congr (fun i hi => ?_))
  have h : i = 0 ∨ i = 1 ∨ i = 2 ∨ i = 3 := by omega
  rcases h with rfl | rfl | rfl | rfl <;> rfl
set_option maxRecDepth 100000 in
set_option maxHeartbeats 1000000 in
theorem image_lit (g gp : Nat) (a b c d : BitVec 8) (w : World) (hp : Blk w gp 24 #[.pointer (some ⟨g, 0, none⟩)]) (hg : g < w.heap.size)
    (hbox : ∀ b : BitVec 8, w.cell? ⟨g, 240 + b.toNat, none⟩ = some (.int .u8 ((sb b).toNat : Int))) :
    Calls Try.prog 37 #[.agg #[.int .u8 (a.toNat : Int), .int .u8 (b.toNat : Int), .int .u8 (c.toNat : Int), .int .u8 (d.toNat : Int)], .pointer (some ⟨gp, 0, none⟩)] w
      fun e w' => e = .returned (.agg (row 4 (u8s (f4 (sb a) (sb b) (sb c) (sb d))))) ∧ Below w.heap.size w w' := by
  have hz := zero84
  have cp := hp.one_
  have gl := hp.lt
  have ka := hbox a
  have kb := hbox b
  have kc := hbox c
  have kd := hbox d
  have la := a.isLt
  have lb := b.isLt
  have lc := c.isLt
  have ld := d.isLt
  have la' : (a.toNat : Int) < 256 := by omega
  have lb' : (b.toNat : Int) < 256 := by omega
  have lc' : (c.toNat : Int) < 256 := by omega
  have ld' : (d.toNat : Int) < 256 := by omega
  clear hbox hp
  go_enter Try.func37, Try.ntmps37
  go_upto_region 1 with fail
  have HO := hide (Blk.newAt (w.alloc (.cells #[.int .u8 (a.toNat : Int), .int .u8 (b.toNat : Int), .int .u8 (c.toNat : Int), .int .u8 (d.toNat : Int)] 61)) 61 (row 4 (u8s fun _ => 0#8)) (w.heap.size + 1) (by simp))
  have HBl := hide (((Below.refl w.heap.size w).alloc (Nat.le_refl _) (.cells #[.int .u8 (a.toNat : Int), .int .u8 (b.toNat : Int), .int .u8 (c.toNat : Int), .int .u8 (d.toNat : Int)] 61)).alloc (by simp) (.cells (row 4 (u8s fun _ => 0#8)) 61))
  have hA := (Blk.newAt w 61 #[.int .u8 (a.toNat : Int), .int .u8 (b.toNat : Int), .int .u8 (c.toNat : Int), .int .u8 (d.toNat : Int)] _ rfl).alloc (.cells (row 4 (u8s fun _ => 0#8)) 61)
  have hcell := fun (p : Addr) (hp : p.block < w.heap.size) => HBl.out.cell (p := p) hp
  generalize (w.alloc (.cells #[.int .u8 (a.toNat : Int), .int .u8 (b.toNat : Int), .int .u8 (c.toNat : Int), .int .u8 (d.toNat : Int)] 61)).alloc (.cells (row 4 (u8s fun _ => 0#8)) 61) = W at HO HBl hA hcell ⊢
  have c0 : W.cell? ⟨w.heap.size, 0, none⟩ = some (.int .u8 (a.toNat : Int)) := hA.cell 0
  have c1 : W.cell? ⟨w.heap.size, 1, none⟩ = some (.int .u8 (b.toNat : Int)) := hA.cell 1
  have c2 : W.cell? ⟨w.heap.size, 2, none⟩ = some (.int .u8 (c.toNat : Int)) := hA.cell 2
  have c3 : W.cell? ⟨w.heap.size, 3, none⟩ = some (.int .u8 (d.toNat : Int)) := hA.cell 3
  rw [← hcell _ gl] at cp
  rw [← hcell _ hg] at ka kb kc kd
  clear hcell hA
  refine wp_region_still_tail 28 (by kernel_rfl) (by kernel_rfl) ?_
  simp only [List.take_succ_cons, List.take_zero, List.drop_succ_cons, List.drop_zero]
  repeat (refine wpStill_step (fun K hK => ?_); go_simp; refine hK _ ?_; clear hK K)
  refine wpStill_nil ?_
  change wpList _ _ _ _ _ W.drew
  clear c0 c1 c2 c3 ka kb kc kd cp
  go_wp2_with (first
    | ((with_reducible refine wpList_store_all rfl 61 (.tmp 3) (.tmp 32) rfl (w.heap.size + 1) rfl 61 4 _ (u8s (f4 (sb a) (sb b) (sb c) (sb d))) ?_ (HO.out.drew) info84 (fun j _ => u8_one _ j) ?_); (· exact four _ _ _ _)))
  exact bodyPost_ret (results_cell_sub rfl _ _ (w.heap.size + 1) 61 4 _ _ rfl ((HO.out.drew).row_ _) rfl Try.underlying61 info84) rfl ⟨rfl, below_setRow (below_drewN HBl.out 1) (by omega) _⟩
end Go.Proofs.Ytikhaocpohfcnaa.Ae
