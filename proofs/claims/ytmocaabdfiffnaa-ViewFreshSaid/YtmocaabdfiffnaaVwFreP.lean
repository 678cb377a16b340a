/- The document's count of numbers: the plain side. -/
import Derived.Test.YtmocaabdfiffnaaVwAwake
namespace Go.Proofs.Ytmocaabdfiffnaa.Ct
open Go.RowKit Go.Proofs.Ytmocaabdfiffnaa.W Go.Maps
set_option linter.unusedVariables false
set_option linter.unusedSimpArgs false

theorem num_low (b : ByteArray) {i : Nat} (h : i < 224) : numOf b i = -1 := if_neg (fun hh => by omega)
theorem stt_224 (x : Nat → ByteArray) (d : Nat) : ∀ i, i ≤ 224 → stt x (288 * d + i) = stt x (288 * d)
  | 0, _ => rfl
  | i + 1, h => by
    show stt x (288 * d + i + 1) = _
    rw [stt_succ x (by omega), num_low _ (by omega), stp_low (by omega)]
    exact stt_224 x d i (by omega)
def numsV (l : List Ent) : List Value := l.map fun e => .int .i64 (e.1 : Int)
def blksV (l : List Ent) : List Value := l.map fun e => .string e.2
theorem numsV_at {l : List Ent} {k : Nat} (h : k < l.length) : (numsV l)[k]? = some (.int .i64 ((l[k]'h).1 : Int)) := by simp [numsV, h]
theorem blksV_at {l : List Ent} {k : Nat} (h : k < l.length) : (blksV l)[k]? = some (.string (blkAt l k)) := by simp [blksV, blkAt, h]
theorem numsV_push (l : List Ent) (n : Nat) (b : ByteArray) : numsV (l ++ [(n, b)]) = numsV l ++ [.int .i64 (n : Int)] := by simp [numsV]
theorem blksV_push (l : List Ent) (n : Nat) (b : ByteArray) : blksV (l ++ [(n, b)]) = blksV l ++ [.string b] := by simp [blksV]
def atV (o : Option Nat) : Int := match o with | none => -1 | some k => (k : Int)
theorem fnd_hit {l : List Ent} {n k : Nat} (h : k < l.length) (he : (l[k]'h).1 = n) : fnd l n (k + 1) = some k := by
  show (if (l[k]?.map (·.1)) = some n then some k else fnd l n k) = _
  rw [if_pos (by simp [h, he])]
theorem fnd_miss {l : List Ent} {n k : Nat} (h : k < l.length) (he : (l[k]'h).1 ≠ n) : fnd l n (k + 1) = fnd l n k := by
  show (if (l[k]?.map (·.1)) = some n then some k else fnd l n k) = _
  rw [if_neg (by simp [h, he])]
theorem own_ne {w : World} {b1 b2 : Nat} {e1 e2 : TypeId} {s1 s2 n1 n2 : Nat} {v1 v2 : Value} {x1 x2 : List Value} (h1 : w.ownsRow b1 e1 s1 v1 n1 x1) (h2 : w.ownsRow b2 e2 s2 v2 n2 x2) (hne : e1 ≠ e2) : v1.ownBlock = none ∨ v1.ownBlock ≠ v2.ownBlock := by
  rcases h1.2 with ⟨rfl, _⟩ | ⟨g, cap, cur, rfl, _, hg, _⟩
  · exact .inl rfl
  · refine .inr ?_
    rcases h2.2 with ⟨rfl, _⟩ | ⟨g', cap', cur', rfl, _, hg', _⟩
    · intro h
      cases h
    · intro h
      have hgg : g = g' := by
        simp [Value.ownBlock] at h
        exact h
      subst hgg
      rw [hg] at hg'
      injection hg' with hg'
      injection hg' with _ ht
      exact hne ht
theorem own_kept {w w' : World} {b1 b2 : Nat} {e1 e2 : TypeId} {s1 s2 n1 n2 : Nat} {v1 v2 : Value} {x1 x2 : List Value} (h1 : w.ownsRow b1 e1 s1 v1 n1 x1) (h2 : w.ownsRow b2 e2 s2 v2 n2 x2) (hne : e1 ≠ e2) (hg : w.grownBy w' v2.ownBlock) : w'.ownsRow b1 e1 s1 v1 n1 x1 :=
  h1.kept hg (own_ne h1 h2 hne)
theorem str_info : (Try.prog.info? 9).map (fun i => (i.zero, i.size, i.bytes)) = some (some (.string ByteArray.empty), 1, 16) := by kernel_rfl
end Go.Proofs.Ytmocaabdfiffnaa.Ct
