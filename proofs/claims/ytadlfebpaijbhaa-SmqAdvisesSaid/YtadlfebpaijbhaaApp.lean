/- Appends onto a row of the call's own: where the new row lies is told, too. No program is in sight. -/
import Derived.Test.YtadlfebpaijbhaaLists
import Derived.Maps.AppendAt
import Derived.Deep.AppendLies
import Derived.StillTailTactics
namespace Go.Proofs.Ytadlfebpaijbhaa.W
open Go.RowKit
set_option linter.unusedVariables false
set_option linter.unusedSimpArgs false

theorem own_form {w : World} {base : Nat} {e : TypeId} {s : Nat} {v : Value} {n : Nat} {xs : List Value} (h : w.ownsRow base e s v n xs) : ∃ A c, v = .slice A n c := by
  rcases h.2 with ⟨rfl, rfl⟩ | ⟨g, cap, cur, rfl, _⟩
  · exact ⟨none, 0, rfl⟩
  · exact ⟨_, cap, rfl⟩
theorem own_same {w w' : World} {base : Nat} {e : TypeId} {s : Nat} {v : Value} {n : Nat} {xs : List Value} (h : w.ownsRow base e s v n xs) (e1 : w'.heap = w.heap) : w'.ownsRow base e s v n xs := by
  refine ⟨h.1, ?_⟩
  rw [e1]
  exact h.2
theorem new_cell (w : World) (t : TypeId) (u : Value) (n : Nat) (hn : n = w.heap.size) : ∀ j x, [u][j]? = some x → (w.alloc (.cells #[u] t)).cell? ((⟨n, 0, none⟩ : Addr).add j) = some x := by
  subst hn
  exact cell_one_new _ _ _

section
variable {P : Program} (w : World)
theorem wpList_append_at {ops : Array Oper} {rest : List Oper} {o : Oper} {a : Act} {Q : Exit → Act → World → Prop} (hgd : o.guard = none) (s x : Operand) (t : TypeId)
    (ho : o.op = .call { callee := .builtin .append, args := #[s, x], argTypes := #[t, t] })
    (base : Nat) (e : TypeId) (i : TypeInfo) (z : Value) (size bytes : Nat) (ht : P.underlying t = some (.slice e)) (hi : P.info? e = some i) (hz : i.zero = some z)
    (hsize : i.size = size) (hby : i.bytes = bytes) (hzs : z.cells.size = size) (hsz : 0 < size)
    (v : Value) (n : Nat) (xs : List Value) (hs : a.eval s = v) (hown : w.ownsRow base e size v n xs)
    (ad : Addr) (m c : Nat) (news : List Value) (hx : a.eval x = .slice (some ad) m c) (hl : news.length = m * size) (hnews : ∀ j u, news[j]? = some u → w.cell? (ad.add j) = some u) (h1 : ∀ u ∈ news, u.oneCell' = true)
    (h63 : n + m ≤ maxLen) (hbytes : (n + m) * bytes ≤ 140737488355328) (hbase : base ≤ w.heap.size)
    (h : ∀ v' w', w'.ownsRow base e size v' (n + m) (xs ++ news) → w.grownBy w' v.ownBlock → (v'.ownBlock = v.ownBlock ∨ v'.ownBlock = some w.heap.size) → wpList P ops Q rest (a.put o.dst v') w') : wpList P ops Q (o :: rest) a w :=
  wpList_plain hgd fun K hK => by
    obtain ⟨v', w', hr, h2, h3, _, h4⟩ := run_append_own_at (P := P) w base t o.type e i z size bytes ht hi hz hsize hby hzs hsz v n xs hown ad m c news hl hnews h1 h63 hbytes hbase
    unfold Oper.wp execOp
    simp only [ho, resolve, invoke, builtin, Sem.run_bind, Sem.run_pure, Result.andThen_ok, List.map_toArray, List.map_cons, List.map_nil, hs, hx, hr]
    exact hK _ _ (h v' w' h2 h3 h4)
end

/-- What an append onto a row of the call's own leaves as it was. -/
theorem kept_blk {wr w1 : World} {base g n s : Nat} {e t : TypeId} {v : Value} {xs : List Value} {cs : Array Value} (hown : wr.ownsRow base e s v n xs) (hg : wr.grownBy w1 v.ownBlock) (h : Blk wr g t cs) (hlt : g < base) : Blk w1 g t cs :=
  h.chg (Chg.of_grown hg (S := fun k => base ≤ k) (fun k hk => (hown.lt k hk).1)) (by omega)
theorem kept_below {w wr w1 : World} {base B n s : Nat} {e : TypeId} {v : Value} {xs : List Value} (hown : wr.ownsRow base e s v n xs) (hg : wr.grownBy w1 v.ownBlock) (h : Below B w wr) (hB : B ≤ base) (hs : B ≤ wr.heap.size) : Below B w w1 :=
  h.grown hg hs (fun k hk => Nat.le_trans hB (hown.lt k hk).1)
end Go.Proofs.Ytadlfebpaijbhaa.W
