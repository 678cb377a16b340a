/- The document's mixed columns, walked. -/
import Derived.Test.YtikhaocpohfcnaaAesRefSteps
namespace Go.Proofs.Ytikhaocpohfcnaa.Ae
open Go.RowKit Go.Proofs.Ytikhaocpohfcnaa.W Go.Proofs.Ytikhaocpohfcnaa.Gf
set_option linter.unusedVariables false
set_option linter.unusedSimpArgs false

def co : St := fun r => match r with | 0 => 2#8 | 1 => 1#8 | 2 => 1#8 | _ => 3#8
def atM (t : Nat) : Nat := (t / 4 % 4 + t % 4) % 4 + 4 * (t / 16)
def mxF (s : St) : Nat → St
  | 0 => fun _ => 0#8
  | t + 1 => upd (mxF s t) (atM t) (ad (mxF s t (atM t)) (mu (co (t / 4 % 4)) (s (t % 4 + 4 * (t / 16)))))
theorem mu_three : ∀ a : BitVec 8, mu 3#8 a = tw a ^^^ a := by decide +kernel
theorem mu_two' (a : BitVec 8) : mu 2#8 a = tw a := by rw [mu_comm, mu_two]
def MRel (w : World) (s : St) (k : Nat) (s5 : Value) (wr : World) : Prop := ∃ c : Nat, s5 = .int .i64 (c : Int) ∧ c + k = 4 ∧ Ns wr w.heap.size 16 (mxF s (16 * c)) ∧ Ns wr (w.heap.size + 1) 4 co ∧ Below w.heap.size w wr
def MRel2 (w : World) (s : St) (c k : Nat) (s6 : Value) (wr : World) : Prop := ∃ i : Nat, s6 = .int .i64 (i : Int) ∧ i + k = 4 ∧ Ns wr w.heap.size 16 (mxF s (16 * c + 4 * i)) ∧ Ns wr (w.heap.size + 1) 4 co ∧ Below w.heap.size w wr
def MRel3 (w : World) (s : St) (c i k : Nat) (s7 : Value) (wr : World) : Prop := ∃ j : Nat, s7 = .int .i64 (j : Int) ∧ j + k = 4 ∧ Ns wr w.heap.size 16 (mxF s (16 * c + 4 * i + j)) ∧ Ns wr (w.heap.size + 1) 4 co ∧ Below w.heap.size w wr
set_option maxRecDepth 100000 in
set_option maxHeartbeats 1000000 in
theorem rmixed_raw (gs cs : Nat) (s : St) (w : World) (hs : Ns w gs 16 s) :
    Calls Try.prog 46 #[.slice (some ⟨gs, 0, none⟩) 16 cs] w fun e w' => e = .returned (.slice (some ⟨w.heap.size, 0, none⟩) 16 16) ∧ Ns w' w.heap.size 16 (mxF s 64) ∧ Below w.heap.size w w' := by
  have hmk := make16i
  have HS := hide hs
  have lgs := hs.lt
  clear hs
  go_enter Try.func46, Try.ntmps46
  go_wp2_with fail
  go_loopg [5] 4 (fun k s5 wr => MRel w s k s5 wr)
  case atStart => exact ⟨0, rfl, rfl, (Ns.zero w _ rfl).alloc _, ⟨_, Blk.newAt (w.alloc _) _ _ _ (by simp), fun r hr => by
    have h : r = 0 ∨ r = 1 ∨ r = 2 ∨ r = 3 := by omega
    rcases h with rfl | rfl | rfl | rfl <;> rfl⟩, ((Below.refl _ _).alloc (Nat.le_refl _) _).alloc (by simp) _⟩
  case round =>
    obtain ⟨c, rfl, hk, hx, hc0, hbx⟩ := hrel
    have HX := hide hx
    have HC := hide hc0
    have HBx := hide hbx
    clear hx hbx hc0
    by_cases hc : c < 4
    · have hgk : 0 < gk := by omega
      have hc' : (c : Int) < 4 := by omega
      obtain ⟨g0, hg0⟩ : ∃ g, g = gk := ⟨gk, rfl⟩
      subst hg0
      go_wp2_with fail
      go_loopg [6] 4 (fun k s6 wr => MRel2 w s c k s6 wr)
      case atStart => exact ⟨0, rfl, rfl, HX.out, HC.out, HBx.out⟩
      case round =>
        obtain ⟨i, rfl, hk2, hx, hc0, hbx⟩ := hrel
        have HX := hide hx
        have HC := hide hc0
        have HBx := hide hbx
        clear hx hbx hc0
        by_cases hi : i < 4
        · have hgk2 : 0 < gk := by omega
          have hi' : (i : Int) < 4 := by omega
          obtain ⟨g1, hg1⟩ : ∃ g, g = gk := ⟨gk, rfl⟩
          subst hg1
          go_wp2_with fail
          go_loopg [7] 4 (fun k s7 wr => MRel3 w s c i k s7 wr)
          case atStart => exact ⟨0, rfl, rfl, HX.out, HC.out, HBx.out⟩
          case round =>
            obtain ⟨j, rfl, hk3, hx, hc0, hbx⟩ := hrel
            have HX := hide hx
            have HC := hide hc0
            have HBx := hide hbx
            clear hx hbx hc0
            by_cases hj : j < 4
            · have hgk3 : 0 < gk := by omega
              have hj' : (j : Int) < 4 := by omega
              obtain ⟨t, ht⟩ : ∃ t : Nat, 16 * c + 4 * i + j = t := ⟨_, rfl⟩
              have t4 : t / 4 = 4 * c + i := by rw [← ht]; omega
              have t16 : t / 16 = c := by rw [← ht]; omega
              have tm : t % 4 = j := by rw [← ht]; omega
              have t44 : t / 4 % 4 = i := by rw [t4]; omega
              obtain ⟨ij, hij⟩ : ∃ t : Nat, i + j = t := ⟨_, rfl⟩
              obtain ⟨m4, hm4⟩ : ∃ t : Nat, ij % 4 = t := ⟨_, rfl⟩
              obtain ⟨c4, hc4⟩ : ∃ t : Nat, 4 * c = t := ⟨_, rfl⟩
              obtain ⟨a, ha⟩ : ∃ t : Nat, m4 + c4 = t := ⟨_, rfl⟩
              obtain ⟨p, hp⟩ : ∃ t : Nat, j + c4 = t := ⟨_, rfl⟩
              have e1 : IntKind.i64.wrap ((i : Int) + (j : Int)) = (ij : Int) := by rw [show (i : Int) + (j : Int) = (ij : Int) by omega]; exact IntWalk.i64_in _ (by omega)
              have e2 : Int.tmod (ij : Int) 4 = (m4 : Int) := by rw [Int.tmod_eq_emod_of_nonneg (by omega)]; omega
              have e3 : IntKind.i64.wrap (4 * (c : Int)) = (c4 : Int) := by rw [show 4 * (c : Int) = (c4 : Int) by omega]; exact IntWalk.i64_in _ (by omega)
              have e4 : IntKind.i64.wrap ((m4 : Int) + (c4 : Int)) = (a : Int) := by rw [show (m4 : Int) + (c4 : Int) = (a : Int) by omega]; exact IntWalk.i64_in _ (by omega)
              have e5 : IntKind.i64.wrap ((j : Int) + (c4 : Int)) = (p : Int) := by rw [show (j : Int) + (c4 : Int) = (p : Int) by omega]; exact IntWalk.i64_in _ (by omega)
              have ha16 : (a : Int) < 16 := by omega
              have hp16 : (p : Int) < 16 := by omega
              have HA : Hid (atM t = a) := hide (by unfold atM; rw [t44, tm, t16, hij, hm4, hc4, ha])
              have HI : Hid (t / 4 % 4 = i) := hide t44
              have HP : Hid (t % 4 + 4 * (t / 16) = p) := hide (by rw [tm, t16, hc4, hp])
              have HT := hide ht
              rw [ht] at HX
              have ca := HX.out.at (r := a) (by omega)
              have fa := HX.out.frozen a
              have cco := HC.out.at hi
              have csp := (HS.out.later HBx.out).at (r := p) (by omega)
              have hne : ¬ gs = w.heap.size := by omega
              obtain ⟨o, ho⟩ : ∃ o, mxF s t = o := ⟨_, rfl⟩
              have HO := hide ho
              rw [ho] at ca HX
              obtain ⟨x, hx⟩ : ∃ x, o a = x := ⟨_, rfl⟩
              obtain ⟨y, hy⟩ : ∃ x, co i = x := ⟨_, rfl⟩
              obtain ⟨z, hz⟩ : ∃ x, s p = x := ⟨_, rfl⟩
              have HV : Hid (mxF s (t + 1) = upd o a (ad x (mu y z))) := hide (by
                show upd (mxF s t) (atM t) _ = _
                rw [HA.out, HI.out, HP.out, ho, hx, hy, hz])
              rw [hx] at ca
              rw [hy] at cco
              rw [hz] at csp
              clear t4 t16 tm t44 hx hy hz ho ht hij hm4 hc4 ha hp
              go_wp2_with fail
              refine wp_region_still_tail 20 (by kernel_rfl) (by kernel_rfl) ?_
              simp only [List.take_succ_cons, List.take_zero, List.drop_succ_cons, List.drop_zero]
              repeat (first
                | (refine wpStill_step (fun K hK => ?_); go_simp; refine hK _ ?_; clear hK K)
                | (refine wpStill_step (fun K hK => ?_); go_simp; with_reducible refine ⟨_, flipped (rmul_any y z _), hK _ ?_⟩; clear hK K)
                | (refine wpStill_step (fun K hK => ?_); go_simp; with_reducible refine ⟨_, flipped (radd_any x (mu y z) _), hK _ ?_⟩; clear hK K))
              refine wpStill_nil ?_
              change wpList _ _ _ _ _ wr.drew
              clear e1 e2 e3 e4 e5
              go_wp2_with fail
              go_roundg (gk - 1)
              case measure => omega
              case rel =>
                have h1 := (HX.out.set_ a (ad x (mu y z))).drewN 1
                rw [← HV.out] at h1
                refine ⟨j + 1, by go_num, by omega, ?_, (HC.out.far (by simp) _).drewN 1, below_drewN (HBx.out.setCell (Nat.le_refl _) _) 1⟩
                rw [show 16 * c + 4 * i + (j + 1) = t + 1 by have := HT.out; omega]
                exact h1
            · have hj' : decide (j < 4) = false := by simp; omega
              have hj'' : decide ((j : Int) < 4) = false := by simp; omega
              obtain rfl : j = 4 := by omega
              clear hj
              go_wp2_with fail
              go_roundg (g1 - 1)
              case measure => omega
              case rel => exact ⟨i + 1, by go_num, by omega, HX.out, HC.out, HBx.out⟩
        · have hi' : decide (i < 4) = false := by simp; omega
          have hi'' : decide ((i : Int) < 4) = false := by simp; omega
          obtain rfl : i = 4 := by omega
          clear hi
          go_wp2_with fail
          go_roundg (g0 - 1)
          case measure => omega
          case rel => exact ⟨c + 1, by go_num, by omega, HX.out, HC.out, HBx.out⟩
    · have hc' : decide (c < 4) = false := by simp; omega
      have hc'' : decide ((c : Int) < 4) = false := by simp; omega
      obtain rfl : c = 4 := by omega
      clear hc
      go_wp2_with fail
      go_ret
      exact ⟨rfl, HX.out, HBx.out⟩
theorem mx_out (s : St) : ∀ j, j < 16 → mxF s 64 j = mixS s j := by
  intro j hj
  have h : j = 0 ∨ j = 1 ∨ j = 2 ∨ j = 3 ∨ j = 4 ∨ j = 5 ∨ j = 6 ∨ j = 7 ∨ j = 8 ∨ j = 9 ∨ j = 10 ∨ j = 11 ∨ j = 12 ∨ j = 13 ∨ j = 14 ∨ j = 15 := by omega
  rcases h with rfl | rfl | rfl | rfl | rfl | rfl | rfl | rfl | rfl | rfl | rfl | rfl | rfl | rfl | rfl | rfl
  all_goals
    simp [mxF, upd, atM, co, mu_two', mu_three, one_mu, ad, mixS, all4, tw_add]
    try (simp only [BitVec.xor_assoc, BitVec.xor_comm, xlc, BitVec.xor_self, xs, BitVec.xor_zero, BitVec.zero_xor])
theorem rmixed_any (gs cs : Nat) (s : St) (w : World) (hs : Ns w gs 16 s) :
    Calls Try.prog 46 #[.slice (some ⟨gs, 0, none⟩) 16 cs] w fun e w' => e = .returned (.slice (some ⟨w.heap.size, 0, none⟩) 16 16) ∧ Ns w' w.heap.size 16 (mixS s) ∧ Below w.heap.size w w' :=
  (rmixed_raw gs cs s w hs).mono (fun e w' ⟨h1, h2, h3⟩ => ⟨h1, h2.as (mx_out s), h3⟩)
end Go.Proofs.Ytikhaocpohfcnaa.Ae
