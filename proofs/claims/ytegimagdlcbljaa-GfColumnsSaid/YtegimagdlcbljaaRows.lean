/-
  No cell of these rows narrows 'for every input' (looked for: loops, veiled, ifaces, maps, wideKeys, modest, calm, conditions, laid).
  DERIVED. THE GIVEN ROWS OF THIS SEAT. 5 by the template 'for every input the law returns true; each argument reads behind the call as it read before'; 0 by the template 'total and deterministic' (their statements: YtegimagdlcbljaaTotals.lean).
  GIVEN WITH THE SEED: the statements are not yours to turn. If you find one false, say at which input.
  Laid BY PROGRAM, IN A SANDBOX (cutbox-rows.mjs): the forced cells as the released guide's own fill.sh prints them over the translation 00db8d9fa77baf8d… (all of the seat's roots in one cut). By AI agents, Wed Nov 11 2026. No macro, syntax, notation, axiom, sorry.
-/
import Derived.Test.YtegimagdlcbljaaChecked
import GoSem.Claim
import GoSem.ClaimJoined
import GoSem.ClaimMapViews
import Derived.JoinedTies
import Derived.KernelRfl
namespace Go.Proofs.Ytegimagdlcbljaa
/- THE CELL 'sum', in the pinned program and in every row, IS THE sha256 OF THE DUMP (.gsa) THAT YtegimagdlcbljaaProg.lean LOADS. Nothing in Lean hashes anything: it is a label: what it is worth is what the hold of that sum in a sandbox is worth. -/
noncomputable def Try.pinned : Pinned := { name := "ytegimagdlcbljaa", sum := "00db8d9fa77baf8d22c2b15a2ff8c7a8e25c3f3cc04d6fde2481de5b572b72c9", checked := Try.checked }
namespace Rows
def none {H : Type} : Left H := { results := [], args := [] }

/-- 'cellaretlaw02.GfMuls': WHATEVER THE INPUT: true; the input reads as it did. -/
def gfMulsSpec : ChangeSpec := { name := "gfMuls", fn := fun _ => fun
  | [d1, d2] => { results := [.lit (.bool true)], args := [d1, d2] }
  | _ => none }
def gfMulsRow : OpenClaim := { program := "ytegimagdlcbljaa", sum := "00db8d9fa77baf8d22c2b15a2ff8c7a8e25c3f3cc04d6fde2481de5b572b72c9", func := "cellaret/cellaretlaw02.GfMuls", spec := "gfMuls", unfollowed := true, recurses := true, apart := false }
def GfMulsSaid : Prop := gfMulsRow.holds Try.pinned (OpenSpec.ofChange gfMulsSpec)

/-- ITS FALSE NEIGHBOUR: 'it returns false'. Refute it at one input. -/
def gfMulsWrong : ChangeSpec := { name := "gfMuls", fn := fun _ => fun
  | [d1, d2] => { results := [.lit (.bool false)], args := [d1, d2] }
  | _ => none }
def GfMulsWrongFalsely : Prop := gfMulsRow.holds Try.pinned (OpenSpec.ofChange gfMulsWrong)

/-- 'cellaretlaw02.GfField': WHATEVER THE INPUT: true; the input reads as it did. -/
def gfFieldSpec : ChangeSpec := { name := "gfField", fn := fun _ => fun
  | [d1, d2, d3] => { results := [.lit (.bool true)], args := [d1, d2, d3] }
  | _ => none }
def gfFieldRow : OpenClaim := { program := "ytegimagdlcbljaa", sum := "00db8d9fa77baf8d22c2b15a2ff8c7a8e25c3f3cc04d6fde2481de5b572b72c9", func := "cellaret/cellaretlaw02.GfField", spec := "gfField", unfollowed := true, recurses := true, apart := false }
def GfFieldSaid : Prop := gfFieldRow.holds Try.pinned (OpenSpec.ofChange gfFieldSpec)

/-- ITS FALSE NEIGHBOUR: 'it returns false'. Refute it at one input. -/
def gfFieldWrong : ChangeSpec := { name := "gfField", fn := fun _ => fun
  | [d1, d2, d3] => { results := [.lit (.bool false)], args := [d1, d2, d3] }
  | _ => none }
def GfFieldWrongFalsely : Prop := gfFieldRow.holds Try.pinned (OpenSpec.ofChange gfFieldWrong)

/-- 'cellaretlaw02.GfPowers': WHATEVER THE INPUT: true; the input reads as it did. -/
def gfPowersSpec : ChangeSpec := { name := "gfPowers", fn := fun _ => fun
  | [d] => { results := [.lit (.bool true)], args := [d] }
  | _ => none }
def gfPowersRow : OpenClaim := { program := "ytegimagdlcbljaa", sum := "00db8d9fa77baf8d22c2b15a2ff8c7a8e25c3f3cc04d6fde2481de5b572b72c9", func := "cellaret/cellaretlaw02.GfPowers", spec := "gfPowers", unfollowed := true, recurses := true, apart := false }
def GfPowersSaid : Prop := gfPowersRow.holds Try.pinned (OpenSpec.ofChange gfPowersSpec)

/-- ITS FALSE NEIGHBOUR: 'it returns false'. Refute it at one input. -/
def gfPowersWrong : ChangeSpec := { name := "gfPowers", fn := fun _ => fun
  | [d] => { results := [.lit (.bool false)], args := [d] }
  | _ => none }
def GfPowersWrongFalsely : Prop := gfPowersRow.holds Try.pinned (OpenSpec.ofChange gfPowersWrong)

/-- 'cellaretlaw02.GfTurns': WHATEVER THE INPUT: true; the input reads as it did. -/
def gfTurnsSpec : ChangeSpec := { name := "gfTurns", fn := fun _ => fun
  | [d1, d2, d3] => { results := [.lit (.bool true)], args := [d1, d2, d3] }
  | _ => none }
def gfTurnsRow : OpenClaim := { program := "ytegimagdlcbljaa", sum := "00db8d9fa77baf8d22c2b15a2ff8c7a8e25c3f3cc04d6fde2481de5b572b72c9", func := "cellaret/cellaretlaw02.GfTurns", spec := "gfTurns", unfollowed := true, recurses := true, apart := false }
def GfTurnsSaid : Prop := gfTurnsRow.holds Try.pinned (OpenSpec.ofChange gfTurnsSpec)

/-- ITS FALSE NEIGHBOUR: 'it returns false'. Refute it at one input. -/
def gfTurnsWrong : ChangeSpec := { name := "gfTurns", fn := fun _ => fun
  | [d1, d2, d3] => { results := [.lit (.bool false)], args := [d1, d2, d3] }
  | _ => none }
def GfTurnsWrongFalsely : Prop := gfTurnsRow.holds Try.pinned (OpenSpec.ofChange gfTurnsWrong)

/-- 'cellaretlaw02.GfColumns': WHATEVER THE INPUT: true; the input reads as it did. -/
def gfColumnsSpec : ChangeSpec := { name := "gfColumns", fn := fun _ => fun
  | [d] => { results := [.lit (.bool true)], args := [d] }
  | _ => none }
def gfColumnsRow : OpenClaim := { program := "ytegimagdlcbljaa", sum := "00db8d9fa77baf8d22c2b15a2ff8c7a8e25c3f3cc04d6fde2481de5b572b72c9", func := "cellaret/cellaretlaw02.GfColumns", spec := "gfColumns", unfollowed := true, recurses := true, apart := false }
def GfColumnsSaid : Prop := gfColumnsRow.holds Try.pinned (OpenSpec.ofChange gfColumnsSpec)

/-- ITS FALSE NEIGHBOUR: 'it returns false'. Refute it at one input. -/
def gfColumnsWrong : ChangeSpec := { name := "gfColumns", fn := fun _ => fun
  | [d] => { results := [.lit (.bool false)], args := [d] }
  | _ => none }
def GfColumnsWrongFalsely : Prop := gfColumnsRow.holds Try.pinned (OpenSpec.ofChange gfColumnsWrong)

/- THE SECOND FORM. 'bulk': how many values and letters a reading holds, each counted each time it is reached (what is shared counts as often as it is met; a slice's spare places count too). A statement '..UptoSaid' is the law's where the arguments, and the package variables that the reading takes, are together of bulk at most 1048576: NARROWER than '..Said'. Prove '..Said' where nothing that the law and all that it calls make is longer than what came in: it says more and counts as full. Else prove '..UptoSaid'. A law counts once. -/
mutual
def uptoBulk {H : Type} : DataW H → Nat
  | .lit (.string bytes) => bytes.length + 1
  | .lit _ => 1
  | .nil => 1
  | .ptr d => uptoBulk d + 1
  | .slice elems spare => uptoBulkAll elems + uptoBulkAll spare + 1
  | .agg parts => uptoBulkAll parts + 1
  | .iface _ d => uptoBulk d + 1
  | .map entries => uptoBulkEntries entries + 1
  | .held _ => 1
def uptoBulkAll {H : Type} : List (DataW H) → Nat
  | [] => 0
  | d :: r => uptoBulk d + uptoBulkAll r
def uptoBulkEntries {H : Type} : List (Lit × DataW H) → Nat
  | [] => 0
  | x :: r => uptoBulkEntry x + uptoBulkEntries r
def uptoBulkEntry {H : Type} : Lit × DataW H → Nat
  | (.string bytes, d) => bytes.length + uptoBulk d + 1
  | (_, d) => uptoBulk d + 1
 end
def uptoSmall : (H : Type) → List (DataW H) → Bool := fun _ ds => decide (uptoBulkAll ds ≤ 1048576)
def OpenSpec.upto (s : _root_.Go.ChangeSpec) : _root_.Go.OpenSpec := { _root_.Go.OpenSpec.ofChange s with cond := some uptoSmall }

/-- 'cellaretlaw02.GfMuls', WHERE WHAT IT READS IS OF BULK AT MOST 1048576: true; the input reads as it did. -/
def gfMulsUptoRow : OpenClaim := { program := "ytegimagdlcbljaa", sum := "00db8d9fa77baf8d22c2b15a2ff8c7a8e25c3f3cc04d6fde2481de5b572b72c9", func := "cellaret/cellaretlaw02.GfMuls", spec := "gfMuls", unfollowed := true, recurses := true, apart := false, narrowed := true }
def GfMulsUptoSaid : Prop := gfMulsUptoRow.holds Try.pinned (OpenSpec.upto gfMulsSpec)

/-- 'cellaretlaw02.GfField', WHERE WHAT IT READS IS OF BULK AT MOST 1048576: true; the input reads as it did. -/
def gfFieldUptoRow : OpenClaim := { program := "ytegimagdlcbljaa", sum := "00db8d9fa77baf8d22c2b15a2ff8c7a8e25c3f3cc04d6fde2481de5b572b72c9", func := "cellaret/cellaretlaw02.GfField", spec := "gfField", unfollowed := true, recurses := true, apart := false, narrowed := true }
def GfFieldUptoSaid : Prop := gfFieldUptoRow.holds Try.pinned (OpenSpec.upto gfFieldSpec)

/-- 'cellaretlaw02.GfPowers', WHERE WHAT IT READS IS OF BULK AT MOST 1048576: true; the input reads as it did. -/
def gfPowersUptoRow : OpenClaim := { program := "ytegimagdlcbljaa", sum := "00db8d9fa77baf8d22c2b15a2ff8c7a8e25c3f3cc04d6fde2481de5b572b72c9", func := "cellaret/cellaretlaw02.GfPowers", spec := "gfPowers", unfollowed := true, recurses := true, apart := false, narrowed := true }
def GfPowersUptoSaid : Prop := gfPowersUptoRow.holds Try.pinned (OpenSpec.upto gfPowersSpec)

/-- 'cellaretlaw02.GfTurns', WHERE WHAT IT READS IS OF BULK AT MOST 1048576: true; the input reads as it did. -/
def gfTurnsUptoRow : OpenClaim := { program := "ytegimagdlcbljaa", sum := "00db8d9fa77baf8d22c2b15a2ff8c7a8e25c3f3cc04d6fde2481de5b572b72c9", func := "cellaret/cellaretlaw02.GfTurns", spec := "gfTurns", unfollowed := true, recurses := true, apart := false, narrowed := true }
def GfTurnsUptoSaid : Prop := gfTurnsUptoRow.holds Try.pinned (OpenSpec.upto gfTurnsSpec)

/-- 'cellaretlaw02.GfColumns', WHERE WHAT IT READS IS OF BULK AT MOST 1048576: true; the input reads as it did. -/
def gfColumnsUptoRow : OpenClaim := { program := "ytegimagdlcbljaa", sum := "00db8d9fa77baf8d22c2b15a2ff8c7a8e25c3f3cc04d6fde2481de5b572b72c9", func := "cellaret/cellaretlaw02.GfColumns", spec := "gfColumns", unfollowed := true, recurses := true, apart := false, narrowed := true }
def GfColumnsUptoSaid : Prop := gfColumnsUptoRow.holds Try.pinned (OpenSpec.upto gfColumnsSpec)

end Rows
end Go.Proofs.Ytegimagdlcbljaa
