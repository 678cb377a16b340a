/-
  No cell of these rows narrows 'for every input' (looked for: loops, veiled, ifaces, maps, wideKeys, modest, calm, conditions, laid).
  DERIVED. THE GIVEN ROWS OF THIS SEAT. 4 by the template 'for every input the law returns true; each argument reads behind the call as it read before'; 0 by the template 'total and deterministic' (their statements: YtafhkjipjgkkkaaTotals.lean).
  GIVEN WITH THE SEED: the statements are not yours to turn. If you find one false, say at which input.
  Laid BY PROGRAM, IN A SANDBOX (cutbox-rows.mjs): the forced cells as the released guide's own fill.sh prints them over the translation 04aaefb3110c3057… (all of the seat's roots in one cut). By AI agents, Wed Nov 11 2026. No macro, syntax, notation, axiom, sorry.
-/
import Derived.Test.YtafhkjipjgkkkaaChecked
import GoSem.Claim
import GoSem.ClaimJoined
import GoSem.ClaimMapViews
import Derived.JoinedTies
import Derived.KernelRfl
namespace Go.Proofs.Ytafhkjipjgkkkaa
/- THE CELL 'sum', in the pinned program and in every row, IS THE sha256 OF THE DUMP (.gsa) THAT YtafhkjipjgkkkaaProg.lean LOADS. Nothing in Lean hashes anything: it is a label: what it is worth is what the hold of that sum in a sandbox is worth. -/
noncomputable def Try.pinned : Pinned := { name := "ytafhkjipjgkkkaa", sum := "04aaefb3110c305752c5c6a96aec6fc91ead78a423aa041fcfe1b4ead3c90213", checked := Try.checked }
namespace Rows
def none {H : Type} : Left H := { results := [], args := [] }

/-- 'cellaretlaw24.LevelDoes': WHATEVER THE INPUT: true; the input reads as it did. -/
def levelDoesSpec : ChangeSpec := { name := "levelDoes", fn := fun _ => fun
  | [d1, d2] => { results := [.lit (.bool true)], args := [d1, d2] }
  | _ => none }
def levelDoesRow : OpenClaim := { program := "ytafhkjipjgkkkaa", sum := "04aaefb3110c305752c5c6a96aec6fc91ead78a423aa041fcfe1b4ead3c90213", func := "cellaret/cellaretlaw24.LevelDoes", spec := "levelDoes", unfollowed := true, recurses := true, apart := false }
def LevelDoesSaid : Prop := levelDoesRow.holds Try.pinned (OpenSpec.ofChange levelDoesSpec)

/-- ITS FALSE NEIGHBOUR: 'it returns false'. Refute it at one input. -/
def levelDoesWrong : ChangeSpec := { name := "levelDoes", fn := fun _ => fun
  | [d1, d2] => { results := [.lit (.bool false)], args := [d1, d2] }
  | _ => none }
def LevelDoesWrongFalsely : Prop := levelDoesRow.holds Try.pinned (OpenSpec.ofChange levelDoesWrong)

/-- 'cellaretlaw24.LevelOne': WHATEVER THE INPUT: true; the input reads as it did. -/
def levelOneSpec : ChangeSpec := { name := "levelOne", fn := fun _ => fun
  | [d1, d2] => { results := [.lit (.bool true)], args := [d1, d2] }
  | _ => none }
def levelOneRow : OpenClaim := { program := "ytafhkjipjgkkkaa", sum := "04aaefb3110c305752c5c6a96aec6fc91ead78a423aa041fcfe1b4ead3c90213", func := "cellaret/cellaretlaw24.LevelOne", spec := "levelOne", unfollowed := true, recurses := true, apart := false }
def LevelOneSaid : Prop := levelOneRow.holds Try.pinned (OpenSpec.ofChange levelOneSpec)

/-- ITS FALSE NEIGHBOUR: 'it returns false'. Refute it at one input. -/
def levelOneWrong : ChangeSpec := { name := "levelOne", fn := fun _ => fun
  | [d1, d2] => { results := [.lit (.bool false)], args := [d1, d2] }
  | _ => none }
def LevelOneWrongFalsely : Prop := levelOneRow.holds Try.pinned (OpenSpec.ofChange levelOneWrong)

/-- 'cellaretlaw24.LevelBalance': WHATEVER THE INPUT: true; the input reads as it did. -/
def levelBalanceSpec : ChangeSpec := { name := "levelBalance", fn := fun _ => fun
  | [d1, d2, d3] => { results := [.lit (.bool true)], args := [d1, d2, d3] }
  | _ => none }
def levelBalanceRow : OpenClaim := { program := "ytafhkjipjgkkkaa", sum := "04aaefb3110c305752c5c6a96aec6fc91ead78a423aa041fcfe1b4ead3c90213", func := "cellaret/cellaretlaw24.LevelBalance", spec := "levelBalance", unfollowed := true, recurses := true, apart := false }
def LevelBalanceSaid : Prop := levelBalanceRow.holds Try.pinned (OpenSpec.ofChange levelBalanceSpec)

/-- ITS FALSE NEIGHBOUR: 'it returns false'. Refute it at one input. -/
def levelBalanceWrong : ChangeSpec := { name := "levelBalance", fn := fun _ => fun
  | [d1, d2, d3] => { results := [.lit (.bool false)], args := [d1, d2, d3] }
  | _ => none }
def LevelBalanceWrongFalsely : Prop := levelBalanceRow.holds Try.pinned (OpenSpec.ofChange levelBalanceWrong)

/-- 'cellaretlaw24.LevelApart': WHATEVER THE INPUT: true; the input reads as it did. -/
def levelApartSpec : ChangeSpec := { name := "levelApart", fn := fun _ => fun
  | [d] => { results := [.lit (.bool true)], args := [d] }
  | _ => none }
def levelApartRow : OpenClaim := { program := "ytafhkjipjgkkkaa", sum := "04aaefb3110c305752c5c6a96aec6fc91ead78a423aa041fcfe1b4ead3c90213", func := "cellaret/cellaretlaw24.LevelApart", spec := "levelApart", unfollowed := true, recurses := true, apart := false }
def LevelApartSaid : Prop := levelApartRow.holds Try.pinned (OpenSpec.ofChange levelApartSpec)

/-- ITS FALSE NEIGHBOUR: 'it returns false'. Refute it at one input. -/
def levelApartWrong : ChangeSpec := { name := "levelApart", fn := fun _ => fun
  | [d] => { results := [.lit (.bool false)], args := [d] }
  | _ => none }
def LevelApartWrongFalsely : Prop := levelApartRow.holds Try.pinned (OpenSpec.ofChange levelApartWrong)

/- THE SECOND FORM. 'bulk': how many values and letters a reading holds, each counted each time it is reached (what is shared counts as often as it is met; a slice's spare places count too). A statement '..UptoSaid' is the law's where the arguments, and the package variables that the reading takes, are together of bulk at most 1048576: NARROWER than '..Said'. Prove '..Said' where nothing that the law and all that it calls make is longer than what came in: it says more and counts as full. Else prove '..UptoSaid'. A law counts once. -/
mutual
def uptoBulk {H : Type} : DataW H → Nat
  | .lit (.string bytes) => bytes.length + 1
  | .lit _ => 1
  | .nil => 1
  | .ptr d => uptoBulk d + 1
  | .slice elems spare => uptoBulkAll elems + uptoBulkAll spare + 1
  | .agg parts => uptoBulkAll parts + 1
  | .iface _ d => uptoBulk d + 1
  | .map entries => uptoBulkEntries entries + 1
  | .held _ => 1
def uptoBulkAll {H : Type} : List (DataW H) → Nat
  | [] => 0
  | d :: r => uptoBulk d + uptoBulkAll r
def uptoBulkEntries {H : Type} : List (Lit × DataW H) → Nat
  | [] => 0
  | x :: r => uptoBulkEntry x + uptoBulkEntries r
def uptoBulkEntry {H : Type} : Lit × DataW H → Nat
  | (.string bytes, d) => bytes.length + uptoBulk d + 1
  | (_, d) => uptoBulk d + 1
 end
def uptoSmall : (H : Type) → List (DataW H) → Bool := fun _ ds => decide (uptoBulkAll ds ≤ 1048576)
def OpenSpec.upto (s : _root_.Go.ChangeSpec) : _root_.Go.OpenSpec := { _root_.Go.OpenSpec.ofChange s with cond := some uptoSmall }

/-- 'cellaretlaw24.LevelDoes', WHERE WHAT IT READS IS OF BULK AT MOST 1048576: true; the input reads as it did. -/
def levelDoesUptoRow : OpenClaim := { program := "ytafhkjipjgkkkaa", sum := "04aaefb3110c305752c5c6a96aec6fc91ead78a423aa041fcfe1b4ead3c90213", func := "cellaret/cellaretlaw24.LevelDoes", spec := "levelDoes", unfollowed := true, recurses := true, apart := false, narrowed := true }
def LevelDoesUptoSaid : Prop := levelDoesUptoRow.holds Try.pinned (OpenSpec.upto levelDoesSpec)

/-- 'cellaretlaw24.LevelOne', WHERE WHAT IT READS IS OF BULK AT MOST 1048576: true; the input reads as it did. -/
def levelOneUptoRow : OpenClaim := { program := "ytafhkjipjgkkkaa", sum := "04aaefb3110c305752c5c6a96aec6fc91ead78a423aa041fcfe1b4ead3c90213", func := "cellaret/cellaretlaw24.LevelOne", spec := "levelOne", unfollowed := true, recurses := true, apart := false, narrowed := true }
def LevelOneUptoSaid : Prop := levelOneUptoRow.holds Try.pinned (OpenSpec.upto levelOneSpec)

/-- 'cellaretlaw24.LevelBalance', WHERE WHAT IT READS IS OF BULK AT MOST 1048576: true; the input reads as it did. -/
def levelBalanceUptoRow : OpenClaim := { program := "ytafhkjipjgkkkaa", sum := "04aaefb3110c305752c5c6a96aec6fc91ead78a423aa041fcfe1b4ead3c90213", func := "cellaret/cellaretlaw24.LevelBalance", spec := "levelBalance", unfollowed := true, recurses := true, apart := false, narrowed := true }
def LevelBalanceUptoSaid : Prop := levelBalanceUptoRow.holds Try.pinned (OpenSpec.upto levelBalanceSpec)

/-- 'cellaretlaw24.LevelApart', WHERE WHAT IT READS IS OF BULK AT MOST 1048576: true; the input reads as it did. -/
def levelApartUptoRow : OpenClaim := { program := "ytafhkjipjgkkkaa", sum := "04aaefb3110c305752c5c6a96aec6fc91ead78a423aa041fcfe1b4ead3c90213", func := "cellaret/cellaretlaw24.LevelApart", spec := "levelApart", unfollowed := true, recurses := true, apart := false, narrowed := true }
def LevelApartUptoSaid : Prop := levelApartUptoRow.holds Try.pinned (OpenSpec.upto levelApartSpec)

end Rows
end Go.Proofs.Ytafhkjipjgkkkaa
