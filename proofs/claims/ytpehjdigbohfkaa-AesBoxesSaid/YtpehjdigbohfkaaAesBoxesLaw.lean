/- The law of every byte's image, walked. -/
import Derived.Test.YtpehjdigbohfkaaAesAwake
import Derived.Test.YtpehjdigbohfkaaAesRefBox
namespace Go.Proofs.Ytpehjdigbohfkaa.Ae
open Go.RowKit Go.Proofs.Ytpehjdigbohfkaa.W Go.Proofs.Ytpehjdigbohfkaa.Gf
set_option linter.unusedVariables false
set_option linter.unusedSimpArgs false

theorem same_u8 (a b : BitVec 8) : ((a.toNat : Int) == (b.toNat : Int)) = decide (a = b) := by
  rw [Bool.eq_iff_iff]
  simp
  constructor
  · intro h
    exact BitVec.eq_of_toNat_eq (by omega)
  · rintro rfl
    rfl
theorem sb_eq (a b : BitVec 8) : decide (sb a = sb b) = decide (a = b) := by
  rw [Bool.eq_iff_iff]
  simp
  exact ⟨sb_inj, fun h => by rw [h]⟩
set_option maxRecDepth 100000 in
set_option maxHeartbeats 1000000 in
theorem aesBoxes_walk (a b : BitVec 8) (w : World) : Calls Try.prog 5 #[.int .u8 (a.toNat : Int), .int .u8 (b.toNat : Int)] w fun e w' => e = .returned (.bool true) ∧ Below w.heap.size w w' := by
  have HU := hide (fun W => unbox_any (sb a) W)
  have HS := hide (fun W => box_any (ub a) W)
  rw [ub_sb] at HU
  rw [sb_ub] at HS
  have e1 := same_u8 a b
  have e2 := (same_u8 (sb a) (sb b)).trans (sb_eq a b)
  go_enter Try.func5, Try.ntmps5
  go_wp2_with (first
    | (go_at_call 15; (with_reducible refine (HS.out _).mono ?_); rintro e w5 ⟨rfl, hb⟩; have HB5 := hide (HB4.out.trans (hb.mono HB4.out.size)); clear hb)
    | (go_at_call 15; (with_reducible refine (box_any a w).mono ?_); rintro e w1 ⟨rfl, hb⟩; have HB1 := hide hb; clear hb)
    | (go_at_call 15; (with_reducible refine (box_any b _).mono ?_); rintro e w6 ⟨rfl, hb⟩; have HB6 := hide (HB5.out.trans (hb.mono HB5.out.size)); clear hb)
    | (go_at_call 11; (with_reducible refine (awake_any _).mono ?_); rintro e w2 ⟨rfl, hb⟩; have HB2 := hide (HB1.out.trans (hb.mono HB1.out.size)); clear hb)
    | (go_at_call 16; (with_reducible refine (rbox_any _ _).mono ?_); rintro e w' ⟨rfl, rfl⟩)
    | (go_at_call 17; (with_reducible refine (HU.out _).mono ?_); rintro e w3 ⟨rfl, hb⟩; have HB3 := hide (HB2.out.trans (hb.mono HB2.out.size)); clear hb)
    | (go_at_call 17; (with_reducible refine (unbox_any a _).mono ?_); rintro e w4 ⟨rfl, hb⟩; have HB4 := hide (HB3.out.trans (hb.mono HB3.out.size)); clear hb))
  go_ret
  exact ⟨rfl, HB6.out⟩
end Go.Proofs.Ytpehjdigbohfkaa.Ae
