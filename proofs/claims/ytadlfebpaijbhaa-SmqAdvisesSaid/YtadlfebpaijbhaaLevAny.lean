/- Things put in and taken out: what it makes of the rows. -/
import Derived.Test.YtadlfebpaijbhaaLevPut
namespace Go.Proofs.Ytadlfebpaijbhaa.Lv
open Go.RowKit Go.Proofs.Ytadlfebpaijbhaa.W
set_option linter.unusedVariables false
set_option linter.unusedSimpArgs false

def QE (g n : Nat) (R : Nat → List Nat) (w : World) (e : Ending) (w' : World) : Prop := e = .returned (.tuple #[]) ∧ QAt w' g n R ∧ Chg (one g) w w'
theorem put_any (g n i l : Nat) (R : Nat → List Nat) (hi : i < n) (hl : l < 4) (ho : ∀ k, k < 4 → i ∉ R k) (w : World) (hq : QAt w g n R) :
    Calls Try.prog 50 #[.pointer (some ⟨g, 0, none⟩), .int .i64 (i : Int), .int .i64 (l : Int)] w (QE g n (updR R l (R l ++ [i])) w) := by
  obtain ⟨F, hF, hR⟩ := hq
  have h16 := hR.n16
  have hlast := hR.last l hl
  have hfirst := hR.first l hl
  by_cases hnil : R l = []
  · rw [hnil] at hlast hfirst
    have hlast' : F (53 + l) = -1 := hlast
    refine (put_raw0 g i l F (by omega) hl hlast' w hF).mono ?_
    rintro e w' ⟨rfl, h1, h2⟩
    refine ⟨rfl, ⟨_, h1, ?_⟩, h2⟩
    refine rep_put hR hi hl ho ?_ (fun j hj => ?_) (fun j hj => ?_) (fun j hj => ?_) (fun k hk => ?_) (fun k hk => ?_)
    · simp only [put3, upd]
      (repeat' split) <;> first | rfl | omega
    · simp only [put3, upd]
      (repeat' split) <;> first | rfl | omega
    · rw [hnil]
      simp only [put3, upd, hlast', lst]
      (repeat' split) <;> first | rfl | omega
    · rw [hnil]
      simp only [put3, upd, lst]
      (repeat' split) <;> first | rfl | omega
    · rw [hnil]
      simp only [put3, upd, hd, List.nil_append]
      (repeat' split) <;> first | rfl | omega
    · simp only [put3, upd]
      (repeat' split) <;> first | rfl | omega
  · obtain ⟨A, z, hA⟩ := snoc_of hnil
    have hz16 : z < 16 := by
      have := hR.good.lt l hl z (by rw [hA]; simp)
      omega
    have hl2 : lst (-1) (R l) = (z : Int) := by rw [hA, lst_snoc]
    have hh : hd (R l ++ [i]) (-1) = F (49 + l) := by
      rw [hfirst]
      obtain ⟨a, _, ha⟩ := hd_mem hnil
      rw [hd_append, ha, ha]
    rw [hl2] at hlast
    refine (put_raw g i l F (by omega) hl z hlast hz16 w hF).mono ?_
    rintro e w' ⟨rfl, h1, h2⟩
    refine ⟨rfl, ⟨_, h1, ?_⟩, h2⟩
    refine rep_put hR hi hl ho ?_ (fun j hj => ?_) (fun j hj => ?_) (fun j hj => ?_) (fun k hk => ?_) (fun k hk => ?_)
    · simp only [put3, upd]
      (repeat' split) <;> first | rfl | omega
    · simp only [put3, upd]
      (repeat' split) <;> first | rfl | omega
    · rw [hl2]
      simp only [put3, upd, hlast]
      (repeat' split) <;> first | rfl | omega
    · have hzi : z ≠ i := by
        rintro rfl
        exact ho l hl (by rw [hA]; simp)
      rw [hl2]
      simp only [put3, upd]
      (repeat' split) <;> first | rfl | omega
    · rw [hh]
      simp only [put3, upd]
      (repeat' split) <;> first | rfl | omega | (subst_vars; rfl)
    · simp only [put3, upd]
      (repeat' split) <;> first | rfl | omega
theorem cut_any (g n i l : Nat) (R : Nat → List Nat) (A B : List Nat) (hl : l < 4) (hAB : R l = A ++ i :: B) (w : World) (hq : QAt w g n R) :
    Calls Try.prog 55 #[.pointer (some ⟨g, 0, none⟩), .int .i64 (i : Int)] w (QE g n (updR R l (A ++ B)) w) := by
  obtain ⟨F, hF, hR⟩ := hq
  have h16 := hR.n16
  have hmi : i ∈ R l := by rw [hAB]; simp
  have hi16 : i < 16 := by have := hR.good.lt l hl i hmi; omega
  have hon := hR.on l hl i hmi
  have hlast := hR.last l hl
  have hfirst := hR.first l hl
  have hseg := hR.seg l hl
  rw [hAB, seg_append] at hseg
  obtain ⟨_, ha, hb, _⟩ := hseg
  have hnd := hR.good.nd l hl
  rw [hAB, List.nodup_append] at hnd
  rw [hAB] at hlast hfirst
  by_cases hA : A = []
  · subst hA
    have ha' : F (17 + i) = -1 := ha
    cases B with
    | nil =>
      have hb' : F (33 + i) = -1 := hb
      refine (cut_raw00 g i F hi16 l hl hon ha' hb' w hF).mono ?_
      rintro e w' ⟨rfl, h1, h2⟩
      refine ⟨rfl, ⟨_, h1, ?_⟩, h2⟩
      refine rep_cut hR hl hAB ?_ (fun j hj => ?_) (fun j hj hne => ?_) (fun j hj hne => ?_) (fun k hk => ?_) (fun k hk => ?_) <;> simp only [upd, hd, lst, List.nil_append, List.append_nil] <;> (repeat' split) <;> first | rfl | omega
    | cons b B =>
      have hb' : F (33 + i) = (b : Int) := hb
      have hb16 : b < 16 := by have := hR.good.lt l hl b (by rw [hAB]; simp); omega
      have hbi : b ≠ i := fun e => (List.nodup_cons.1 hnd.2.1).1 (by rw [e]; simp)
      have hl3 : F (53 + l) = lst (-1) (b :: B) := hlast
      refine (cut_raw01 g i F hi16 l hl hon ha' b hb' hb16 w hF).mono ?_
      rintro e w' ⟨rfl, h1, h2⟩
      refine ⟨rfl, ⟨_, h1, ?_⟩, h2⟩
      refine rep_cut hR hl hAB ?_ (fun j hj => ?_) (fun j hj hne => ?_) (fun j hj hne => ?_) (fun k hk => ?_) (fun k hk => ?_)
      · simp only [upd]
        (repeat' split) <;> first | rfl | omega
      · simp only [upd]
        (repeat' split) <;> first | rfl | omega
      · simp only [upd, hd, lst]
        (repeat' split) <;> first | rfl | omega
      · simp only [upd, hd, lst]
        (repeat' split) <;> first | rfl | omega
      · simp only [upd, hd, List.nil_append]
        (repeat' split) <;> first | rfl | omega
      · rw [List.nil_append, ← hl3]
        simp only [upd]
        (repeat' split) <;> first | rfl | omega | (subst_vars; rfl)
  · obtain ⟨A', a, rfl⟩ := snoc_of hA
    have ha' : F (17 + i) = (a : Int) := by rw [← lst_snoc (-1) A' a]; exact ha
    have ha16 : a < 16 := by have := hR.good.lt l hl a (by rw [hAB]; simp); omega
    have hai : a ≠ i := hnd.2.2 a (by simp) i (by simp)
    have hls : lst (-1) (A' ++ [a]) = (a : Int) := lst_snoc _ _ _
    obtain ⟨x, _, hx⟩ := hd_mem hA
    cases B with
    | nil =>
      have hb' : F (33 + i) = -1 := hb
      have hf3 : hd (A' ++ [a] ++ []) (-1) = F (49 + l) := by rw [hfirst, hd_append (A' ++ [a]) [], hd_append (A' ++ [a]) [i], hx, hx]
      refine (cut_raw10 g i F hi16 l hl hon a ha' ha16 hb' w hF).mono ?_
      rintro e w' ⟨rfl, h1, h2⟩
      refine ⟨rfl, ⟨_, h1, ?_⟩, h2⟩
      refine rep_cut hR hl hAB ?_ (fun j hj => ?_) (fun j hj hne => ?_) (fun j hj hne => ?_) (fun k hk => ?_) (fun k hk => ?_)
      · simp only [upd]
        (repeat' split) <;> first | rfl | omega
      · simp only [upd]
        (repeat' split) <;> first | rfl | omega
      · rw [hls]
        simp only [upd, hd]
        (repeat' split) <;> first | rfl | omega
      · rw [hls]
        simp only [upd, hd]
        (repeat' split) <;> first | rfl | omega
      · rw [hf3]
        simp only [upd]
        (repeat' split) <;> first | rfl | omega | (subst_vars; rfl)
      · rw [List.append_nil, hls]
        simp only [upd]
        (repeat' split) <;> first | rfl | omega
    | cons b B =>
      have hb' : F (33 + i) = (b : Int) := hb
      have hb16 : b < 16 := by have := hR.good.lt l hl b (by rw [hAB]; simp); omega
      have hbi : b ≠ i := fun e => (List.nodup_cons.1 hnd.2.1).1 (by rw [e]; simp)
      have hab : a ≠ b := hnd.2.2 a (by simp) b (by simp)
      have hf3 : hd (A' ++ [a] ++ b :: B) (-1) = F (49 + l) := by rw [hfirst, hd_append (A' ++ [a]) (b :: B), hd_append (A' ++ [a]) (i :: b :: B), hx, hx]
      have hl3 : lst (-1) (A' ++ [a] ++ b :: B) = F (53 + l) := by
        rw [hlast, lst_append _ (A' ++ [a]) (b :: B), lst_append _ (A' ++ [a]) (i :: b :: B)]
        rfl
      refine (cut_raw11 g i F hi16 l hl hon a ha' ha16 b hb' hb16 w hF).mono ?_
      rintro e w' ⟨rfl, h1, h2⟩
      refine ⟨rfl, ⟨_, h1, ?_⟩, h2⟩
      refine rep_cut hR hl hAB ?_ (fun j hj => ?_) (fun j hj hne => ?_) (fun j hj hne => ?_) (fun k hk => ?_) (fun k hk => ?_)
      · simp only [upd]
        (repeat' split) <;> first | rfl | omega
      · simp only [upd]
        (repeat' split) <;> first | rfl | omega
      · rw [hls]
        simp only [upd, hd]
        (repeat' split) <;> first | rfl | omega
      · rw [hls]
        simp only [upd, hd]
        (repeat' split) <;> first | rfl | omega
      · rw [hf3]
        simp only [upd]
        (repeat' split) <;> first | rfl | omega | (subst_vars; rfl)
      · rw [hl3]
        simp only [upd]
        (repeat' split) <;> first | rfl | omega | (subst_vars; rfl)
theorem QAt.congr {w : World} {g n : Nat} {R R' : Nat → List Nat} (h : QAt w g n R) (e : ∀ l, l < 4 → R' l = R l) : QAt w g n R' := by
  obtain ⟨F, h1, h2⟩ := h
  exact ⟨F, h1, h2.congr e⟩
theorem QAt.good {w : World} {g n : Nat} {R : Nat → List Nat} (h : QAt w g n R) : Good n R := by
  obtain ⟨F, _, h2⟩ := h
  exact h2.good
/-- .. told by 'rem' and 'putR'. -/
theorem cut_rem (g n i l : Nat) (R : Nat → List Nat) (hl : l < 4) (hm : i ∈ R l) (w : World) (hq : QAt w g n R) :
    Calls Try.prog 55 #[.pointer (some ⟨g, 0, none⟩), .int .i64 (i : Int)] w (QE g n (rem R i) w) := by
  obtain ⟨A, B, hAB⟩ := List.append_of_mem hm
  exact (cut_any g n i l R A B hl hAB w hq).mono (fun e w' ⟨h1, h2, h3⟩ => ⟨h1, h2.congr (rem_split hq.good hl hAB), h3⟩)
theorem put_rem (g n i l : Nat) (R : Nat → List Nat) (hi : i < n) (hl : l < 4) (w : World) (hq : QAt w g n (rem R i)) :
    Calls Try.prog 50 #[.pointer (some ⟨g, 0, none⟩), .int .i64 (i : Int), .int .i64 (l : Int)] w (QE g n (putR R i l) w) :=
  (put_any g n i l (rem R i) hi hl (fun k _ => not_mem_rem R i k) w hq).mono (fun e w' ⟨h1, h2, h3⟩ => ⟨h1, h2.congr (fun k _ => by unfold putR updR; rfl), h3⟩)
end Go.Proofs.Ytadlfebpaijbhaa.Lv
