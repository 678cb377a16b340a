/-
  No cell of these rows narrows 'for every input' (looked for: loops, veiled, ifaces, maps, wideKeys, modest, calm, conditions, laid).
  DERIVED. THE GIVEN ROWS OF THIS SEAT. 3 by the template 'for every input the law returns true; each argument reads behind the call as it read before'; 0 by the template 'total and deterministic' (their statements: YtadlfebpaijbhaaTotals.lean).
  GIVEN WITH THE SEED: the statements are not yours to turn. If you find one false, say at which input.
  Laid BY PROGRAM, IN A SANDBOX (cutbox-rows.mjs): the forced cells as the released guide's own fill.sh prints them over the translation dfefc160cad77119… (all of the seat's roots in one cut). By AI agents, Wed Nov 11 2026. No macro, syntax, notation, axiom, sorry.
-/
import Derived.Test.YtadlfebpaijbhaaChecked
import GoSem.Claim
import GoSem.ClaimJoined
import GoSem.ClaimMapViews
import Derived.JoinedTies
import Derived.KernelRfl
namespace Go.Proofs.Ytadlfebpaijbhaa
/- THE CELL 'sum', in the pinned program and in every row, IS THE sha256 OF THE DUMP (.gsa) THAT YtadlfebpaijbhaaProg.lean LOADS. Nothing in Lean hashes anything: it is a label: what it is worth is what the hold of that sum in a sandbox is worth. -/
noncomputable def Try.pinned : Pinned := { name := "ytadlfebpaijbhaa", sum := "dfefc160cad771191c6f52db116f93edfb7559d80da46a990e54a71b780389db", checked := Try.checked }
namespace Rows
def none {H : Type} : Left H := { results := [], args := [] }

/-- 'cellaretlaw25.SmqCools': WHATEVER THE INPUT: true; the input reads as it did. -/
def smqCoolsSpec : ChangeSpec := { name := "smqCools", fn := fun _ => fun
  | [d] => { results := [.lit (.bool true)], args := [d] }
  | _ => none }
def smqCoolsRow : OpenClaim := { program := "ytadlfebpaijbhaa", sum := "dfefc160cad771191c6f52db116f93edfb7559d80da46a990e54a71b780389db", func := "cellaret/cellaretlaw25.SmqCools", spec := "smqCools", unfollowed := true, recurses := true, apart := false }
def SmqCoolsSaid : Prop := smqCoolsRow.holds Try.pinned (OpenSpec.ofChange smqCoolsSpec)

/-- ITS FALSE NEIGHBOUR: 'it returns false'. Refute it at one input. -/
def smqCoolsWrong : ChangeSpec := { name := "smqCools", fn := fun _ => fun
  | [d] => { results := [.lit (.bool false)], args := [d] }
  | _ => none }
def SmqCoolsWrongFalsely : Prop := smqCoolsRow.holds Try.pinned (OpenSpec.ofChange smqCoolsWrong)

/-- 'cellaretlaw25.SmqDoes': WHATEVER THE INPUT: true; the input reads as it did. -/
def smqDoesSpec : ChangeSpec := { name := "smqDoes", fn := fun _ => fun
  | [d] => { results := [.lit (.bool true)], args := [d] }
  | _ => none }
def smqDoesRow : OpenClaim := { program := "ytadlfebpaijbhaa", sum := "dfefc160cad771191c6f52db116f93edfb7559d80da46a990e54a71b780389db", func := "cellaret/cellaretlaw25.SmqDoes", spec := "smqDoes", unfollowed := true, recurses := true, apart := false }
def SmqDoesSaid : Prop := smqDoesRow.holds Try.pinned (OpenSpec.ofChange smqDoesSpec)

/-- ITS FALSE NEIGHBOUR: 'it returns false'. Refute it at one input. -/
def smqDoesWrong : ChangeSpec := { name := "smqDoes", fn := fun _ => fun
  | [d] => { results := [.lit (.bool false)], args := [d] }
  | _ => none }
def SmqDoesWrongFalsely : Prop := smqDoesRow.holds Try.pinned (OpenSpec.ofChange smqDoesWrong)

/-- 'cellaretlaw25.SmqAdvises': WHATEVER THE INPUT: true; the input reads as it did. -/
def smqAdvisesSpec : ChangeSpec := { name := "smqAdvises", fn := fun _ => fun
  | [d] => { results := [.lit (.bool true)], args := [d] }
  | _ => none }
def smqAdvisesRow : OpenClaim := { program := "ytadlfebpaijbhaa", sum := "dfefc160cad771191c6f52db116f93edfb7559d80da46a990e54a71b780389db", func := "cellaret/cellaretlaw25.SmqAdvises", spec := "smqAdvises", unfollowed := true, recurses := true, apart := false }
def SmqAdvisesSaid : Prop := smqAdvisesRow.holds Try.pinned (OpenSpec.ofChange smqAdvisesSpec)

/-- ITS FALSE NEIGHBOUR: 'it returns false'. Refute it at one input. -/
def smqAdvisesWrong : ChangeSpec := { name := "smqAdvises", fn := fun _ => fun
  | [d] => { results := [.lit (.bool false)], args := [d] }
  | _ => none }
def SmqAdvisesWrongFalsely : Prop := smqAdvisesRow.holds Try.pinned (OpenSpec.ofChange smqAdvisesWrong)

/- THE SECOND FORM. 'bulk': how many values and letters a reading holds, each counted each time it is reached (what is shared counts as often as it is met; a slice's spare places count too). A statement '..UptoSaid' is the law's where the arguments, and the package variables that the reading takes, are together of bulk at most 1048576: NARROWER than '..Said'. Prove '..Said' where nothing that the law and all that it calls make is longer than what came in: it says more and counts as full. Else prove '..UptoSaid'. A law counts once. -/
mutual
def uptoBulk {H : Type} : DataW H → Nat
  | .lit (.string bytes) => bytes.length + 1
  | .lit _ => 1
  | .nil => 1
  | .ptr d => uptoBulk d + 1
  | .slice elems spare => uptoBulkAll elems + uptoBulkAll spare + 1
  | .agg parts => uptoBulkAll parts + 1
  | .iface _ d => uptoBulk d + 1
  | .map entries => uptoBulkEntries entries + 1
  | .held _ => 1
def uptoBulkAll {H : Type} : List (DataW H) → Nat
  | [] => 0
  | d :: r => uptoBulk d + uptoBulkAll r
def uptoBulkEntries {H : Type} : List (Lit × DataW H) → Nat
  | [] => 0
  | x :: r => uptoBulkEntry x + uptoBulkEntries r
def uptoBulkEntry {H : Type} : Lit × DataW H → Nat
  | (.string bytes, d) => bytes.length + uptoBulk d + 1
  | (_, d) => uptoBulk d + 1
 end
def uptoSmall : (H : Type) → List (DataW H) → Bool := fun _ ds => decide (uptoBulkAll ds ≤ 1048576)
def OpenSpec.upto (s : _root_.Go.ChangeSpec) : _root_.Go.OpenSpec := { _root_.Go.OpenSpec.ofChange s with cond := some uptoSmall }

/-- 'cellaretlaw25.SmqCools', WHERE WHAT IT READS IS OF BULK AT MOST 1048576: true; the input reads as it did. -/
def smqCoolsUptoRow : OpenClaim := { program := "ytadlfebpaijbhaa", sum := "dfefc160cad771191c6f52db116f93edfb7559d80da46a990e54a71b780389db", func := "cellaret/cellaretlaw25.SmqCools", spec := "smqCools", unfollowed := true, recurses := true, apart := false, narrowed := true }
def SmqCoolsUptoSaid : Prop := smqCoolsUptoRow.holds Try.pinned (OpenSpec.upto smqCoolsSpec)

/-- 'cellaretlaw25.SmqDoes', WHERE WHAT IT READS IS OF BULK AT MOST 1048576: true; the input reads as it did. -/
def smqDoesUptoRow : OpenClaim := { program := "ytadlfebpaijbhaa", sum := "dfefc160cad771191c6f52db116f93edfb7559d80da46a990e54a71b780389db", func := "cellaret/cellaretlaw25.SmqDoes", spec := "smqDoes", unfollowed := true, recurses := true, apart := false, narrowed := true }
def SmqDoesUptoSaid : Prop := smqDoesUptoRow.holds Try.pinned (OpenSpec.upto smqDoesSpec)

/-- 'cellaretlaw25.SmqAdvises', WHERE WHAT IT READS IS OF BULK AT MOST 1048576: true; the input reads as it did. -/
def smqAdvisesUptoRow : OpenClaim := { program := "ytadlfebpaijbhaa", sum := "dfefc160cad771191c6f52db116f93edfb7559d80da46a990e54a71b780389db", func := "cellaret/cellaretlaw25.SmqAdvises", spec := "smqAdvises", unfollowed := true, recurses := true, apart := false, narrowed := true }
def SmqAdvisesUptoSaid : Prop := smqAdvisesUptoRow.holds Try.pinned (OpenSpec.upto smqAdvisesSpec)

end Rows
end Go.Proofs.Ytadlfebpaijbhaa
