/- The law that what is not asked for leaves: walked. -/
import Derived.Test.YtadlfebpaijbhaaSmqDoes
import Derived.Test.YtadlfebpaijbhaaSmqCoolP
namespace Go.Proofs.Ytadlfebpaijbhaa.Lv
open Go.RowKit Go.Proofs.Ytadlfebpaijbhaa.W Go.Proofs.Ytadlfebpaijbhaa.Dice
set_option linter.unusedVariables false
set_option linter.unusedSimpArgs false

def CoRel (w : World) (k : Nat) (s7 s8 s9 : Value) (wr : World) : Prop := ∃ i : Nat, s7 = .int .i64 (i : Int) ∧ i + k = 16 ∧ wr = w
set_option maxRecDepth 100000 in
set_option maxHeartbeats 4000000 in
theorem smqCools_walk (A : Option Addr) (len c : Nat) (K I : Nat → Int) (w : World) (hl : len ≤ maxLen) (hA : Holds w w.heap.size 2 A len (actA K I)) :
    Calls Try.prog 3 #[.slice A len c] w fun e w' => e = .returned (.bool true) ∧ Below w.heap.size w w' := by
  unfold maxLen at hl
  have HA := hide hA
  have HNew := hide (pnew_any w)
  clear hA
  go_enter Try.func3, Try.ntmps3
  go_upto_region 4 with (first
    | (go_at_call 6; (with_reducible refine HNew.out.mono ?_); rintro e w1 ⟨gp, gq, gh, rfl, h1, h2, h3⟩; have H1 := hide h1; have H2 := hide h2; have H3 := hide h3; clear h1 h2 h3)
    | (go_at_call 7; (with_reducible refine (xnew_any _).mono ?_); rintro e w2 ⟨gx, ga, gb, rfl, h1, h2, h3⟩; have H4 := hide h1; have H5 := hide h2; have H6 := hide h3; clear h1 h2 h3)
    | (go_at_call 8; (with_reducible refine (awake_any _).mono ?_); rintro e w3 ⟨rfl, hb⟩; have H7 := hide hb; clear hb))
  have HL0 := hide (la_new H1.out H2.out H3.out H4.out H5.out H6.out H7.out)
  clear H1 H2 H3 H4 H5 H6 H7 HNew
  go_wp2_with fail
  go_loopg [5] 100 (fun k s5 wr => LRel w gp gq gh gx ga gb 100 len k s5 wr)
  case atStart => exact ⟨0, sm0, rfl, rfl, by omega, Nat.le_refl _, HL0.out⟩
  case round =>
    clear HL0
    obtain ⟨i, s, rfl, hk, hil, hst, hla⟩ := hrel
    have HLa := hide hla
    clear hla
    by_cases hgo : i < len ∧ i < 100
    · have hgk : 0 < gk := by omega
      have hi1 : (i : Int) < (len : Int) := by omega
      have hi2 : (i : Int) < 100 := by omega
      obtain ⟨b, off, rfl, hbB, hc⟩ := HA.out (by omega)
      have c0 := (HLa.out.below.cell (p := ⟨b, off + i * 2 + 0, none⟩) hbB).trans (hc i 0 hgo.1 (by omega))
      have c1 := (HLa.out.below.cell (p := ⟨b, off + i * 2 + 1, none⟩) hbB).trans (hc i 1 hgo.1 (by omega))
      simp [actA] at c0 c1
      have HDo := hide (do_any gp gq gh gx ga gb s (K i) (I i) (by omega) wr HLa.out.p HLa.out.x)
      have HT : Hid ((stepS s (K i) (I i)).t ≤ i + 1) := hide (by
        have := stepS_t s (K i) (I i)
        omega)
      obtain ⟨s', hs'⟩ : ∃ s', stepS s (K i) (I i) = s' := ⟨_, rfl⟩
      rw [hs'] at HDo HT
      clear hc hgo hs' hst
      go_wp2_with (first
        | (go_at_call 9; (with_reducible refine HDo.out.mono ?_); intro e w3 hd; have HLa3 := hide (HLa.out.de hd); obtain ⟨he, _, _⟩ := hd; subst he))
      go_roundg (gk - 1)
      case measure => omega
      case rel => exact ⟨i + 1, s', by go_num, by omega, by omega, HT.out, HLa3.out⟩
    · have hcs : (decide ((i : Int) < (len : Int)) = false ∧ decide (i < len) = false) ∨ ((i : Int) < (len : Int) ∧ decide ((i : Int) < 100) = false ∧ decide (i < 100) = false) := by
        simp; omega
      clear hgo
      rcases hcs with ⟨t1, t2⟩ | ⟨t1, t2, t3⟩
      all_goals
        have HP0 : Hid (PA wr gp gq gh s) := hide HLa.out.p
        have HB0 := hide HLa.out.below
        have HLp := hide HLa.out.lp
        have Hst : Hid (s.t ≤ 100) := hide (by omega)
        clear HLa hk hil hst
        go_wp2_with fail
        go_loopg [6] 48 (fun k s6 wx => AwRel w gp gq gh (fun i => tickN i s) 48 k s6 wx)
        case atStart => exact ⟨0, rfl, rfl, HP0.out, HB0.out⟩
        case round =>
          clear HP0 HB0
          obtain ⟨i, rfl, hk, hp, hb⟩ := hrel
          have HP := hide hp
          have HB := hide hb
          clear hp hb
          by_cases hi : i < 48
          · have hi' : (i : Int) < 48 := by omega
            have hgk : 0 < gk := by omega
            have hk' : i + 1 + (gk - 1) = 48 := by omega
            have HT := hide (tick_any gp gq gh (tickN i s) (by rw [tickN_t]; have := Hst.out; omega) wr HP.out)
            obtain ⟨u, hu⟩ : ∃ u, (tickN i s).t + 1 = u := ⟨_, rfl⟩
            rw [hu] at HT
            clear hk hu
            go_wp2_with (first
              | (go_at_call 10; (with_reducible refine HT.out.mono ?_); intro e w2 ha; have HE := hide ha; obtain ⟨he, _, _⟩ := ha; subst he))
            go_roundg (gk - 1)
            case measure => omega
            case rel => exact ⟨i + 1, by go_num, hk', HE.out.2.1, HE.out.below HB.out HLp.out⟩
          · obtain rfl : i = 48 := by omega
            clear hi hk
            go_wp2_with fail
            go_loopg [7, 8, 9] 16 (fun k s7 s8 s9 wx => CoRel wr k s7 s8 s9 wx)
            case atStart => exact ⟨0, rfl, rfl, rfl⟩
            case round =>
              obtain ⟨i, rfl, hk, rfl⟩ := hrel
              by_cases hi : i < 16
              · have hi' : (i : Int) < 16 := by omega
                have hgk : 0 < gk := by omega
                have hk' : i + 1 + (gk - 1) = 16 := by omega
                have h := heat_any gp gq gh _ (i : Int) wr HP.out
                rw [cold_heat s i hi] at h
                have HHt := hide h
                clear h hk
                go_wp2_with (first
                  | (go_at_call 11; (with_reducible refine HHt.out.mono ?_); rintro e wx ⟨rfl, hw⟩; subst wx))
                go_roundg (gk - 1)
                case measure => omega
                case rel => exact ⟨i + 1, by go_num, hk', rfl⟩
              · have hi' : decide ((i : Int) < 16) = false := by simp; omega
                have hi'' : decide (i < 16) = false := by simp; omega
                clear hi hk
                have h := promote_any gp gq gh _ (fun _ => false) 7 (by omega) wr HP.out
                rw [cold_pro] at h
                obtain ⟨v, hv⟩ : ∃ v, proG (wts (tickN 48 s).H (fun _ => false) 16) 7 = v := ⟨_, rfl⟩
                rw [hv] at h
                have HPr := hide h
                have hz := zero16
                clear h hv
                go_wp2_with (first
                  | (go_at_call 12; (with_reducible refine HPr.out.mono ?_); rintro e w2 ⟨rfl, hb2⟩; have HB2 := hide hb2; clear hb2))
                go_ret
                exact ⟨rfl, HB.out.trans (HB2.out.mono HB.out.size)⟩
end Go.Proofs.Ytadlfebpaijbhaa.Lv
