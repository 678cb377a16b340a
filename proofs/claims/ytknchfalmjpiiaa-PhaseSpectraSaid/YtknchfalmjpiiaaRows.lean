/-
  No cell of these rows narrows 'for every input' (looked for: loops, veiled, ifaces, maps, wideKeys, modest, calm, conditions, laid).
  DERIVED. THE GIVEN ROWS OF THIS SEAT. 5 by the template 'for every input the law returns true; each argument reads behind the call as it read before'; 0 by the template 'total and deterministic' (their statements: YtknchfalmjpiiaaTotals.lean).
  GIVEN WITH THE SEED: the statements are not yours to turn. If you find one false, say at which input.
  Laid BY PROGRAM, IN A SANDBOX (cutbox-rows.mjs): the forced cells as the released guide's own fill.sh prints them over the translation e1439dd69f4befae… (all of the seat's roots in one cut). By AI agents, Wed Nov 11 2026. No macro, syntax, notation, axiom, sorry.
-/
import Derived.Test.YtknchfalmjpiiaaChecked
import GoSem.Claim
import GoSem.ClaimJoined
import GoSem.ClaimMapViews
import Derived.JoinedTies
import Derived.KernelRfl
namespace Go.Proofs.Ytknchfalmjpiiaa
/- THE CELL 'sum', in the pinned program and in every row, IS THE sha256 OF THE DUMP (.gsa) THAT YtknchfalmjpiiaaProg.lean LOADS. Nothing in Lean hashes anything: it is a label: what it is worth is what the hold of that sum in a sandbox is worth. -/
noncomputable def Try.pinned : Pinned := { name := "ytknchfalmjpiiaa", sum := "e1439dd69f4befae8dafc6dadfaf58915eb8deb77315ba898dd2de2574e88b63", checked := Try.checked }
namespace Rows
def none {H : Type} : Left H := { results := [], args := [] }

/-- 'cellaretlaw07.PhaseTurns': WHATEVER THE INPUT: true; the input reads as it did. -/
def phaseTurnsSpec : ChangeSpec := { name := "phaseTurns", fn := fun _ => fun
  | [d] => { results := [.lit (.bool true)], args := [d] }
  | _ => none }
def phaseTurnsRow : OpenClaim := { program := "ytknchfalmjpiiaa", sum := "e1439dd69f4befae8dafc6dadfaf58915eb8deb77315ba898dd2de2574e88b63", func := "cellaret/cellaretlaw07.PhaseTurns", spec := "phaseTurns", inPlace := ["math.Float64bits", "math.Float64frombits"], unfollowed := true, recurses := true, apart := false }
def PhaseTurnsSaid : Prop := phaseTurnsRow.holds Try.pinned (OpenSpec.ofChange phaseTurnsSpec)

/-- ITS FALSE NEIGHBOUR: 'it returns false'. Refute it at one input. -/
def phaseTurnsWrong : ChangeSpec := { name := "phaseTurns", fn := fun _ => fun
  | [d] => { results := [.lit (.bool false)], args := [d] }
  | _ => none }
def PhaseTurnsWrongFalsely : Prop := phaseTurnsRow.holds Try.pinned (OpenSpec.ofChange phaseTurnsWrong)

/-- 'cellaretlaw07.PhaseAdds': WHATEVER THE INPUT: true; the input reads as it did. -/
def phaseAddsSpec : ChangeSpec := { name := "phaseAdds", fn := fun _ => fun
  | [d] => { results := [.lit (.bool true)], args := [d] }
  | _ => none }
def phaseAddsRow : OpenClaim := { program := "ytknchfalmjpiiaa", sum := "e1439dd69f4befae8dafc6dadfaf58915eb8deb77315ba898dd2de2574e88b63", func := "cellaret/cellaretlaw07.PhaseAdds", spec := "phaseAdds", inPlace := ["math.Float64bits", "math.Float64frombits"], unfollowed := true, recurses := true, apart := false }
def PhaseAddsSaid : Prop := phaseAddsRow.holds Try.pinned (OpenSpec.ofChange phaseAddsSpec)

/-- ITS FALSE NEIGHBOUR: 'it returns false'. Refute it at one input. -/
def phaseAddsWrong : ChangeSpec := { name := "phaseAdds", fn := fun _ => fun
  | [d] => { results := [.lit (.bool false)], args := [d] }
  | _ => none }
def PhaseAddsWrongFalsely : Prop := phaseAddsRow.holds Try.pinned (OpenSpec.ofChange phaseAddsWrong)

/-- 'cellaretlaw07.PhaseSpectra': WHATEVER THE INPUT: true; the input reads as it did. -/
def phaseSpectraSpec : ChangeSpec := { name := "phaseSpectra", fn := fun _ => fun
  | [d] => { results := [.lit (.bool true)], args := [d] }
  | _ => none }
def phaseSpectraRow : OpenClaim := { program := "ytknchfalmjpiiaa", sum := "e1439dd69f4befae8dafc6dadfaf58915eb8deb77315ba898dd2de2574e88b63", func := "cellaret/cellaretlaw07.PhaseSpectra", spec := "phaseSpectra", inPlace := ["math.Float64bits", "math.Float64frombits"], unfollowed := true, recurses := true, apart := false }
def PhaseSpectraSaid : Prop := phaseSpectraRow.holds Try.pinned (OpenSpec.ofChange phaseSpectraSpec)

/-- ITS FALSE NEIGHBOUR: 'it returns false'. Refute it at one input. -/
def phaseSpectraWrong : ChangeSpec := { name := "phaseSpectra", fn := fun _ => fun
  | [d] => { results := [.lit (.bool false)], args := [d] }
  | _ => none }
def PhaseSpectraWrongFalsely : Prop := phaseSpectraRow.holds Try.pinned (OpenSpec.ofChange phaseSpectraWrong)

/-- 'cellaretlaw07.PhaseBacks': WHATEVER THE INPUT: true; the input reads as it did. -/
def phaseBacksSpec : ChangeSpec := { name := "phaseBacks", fn := fun _ => fun
  | [d1, d2] => { results := [.lit (.bool true)], args := [d1, d2] }
  | _ => none }
def phaseBacksRow : OpenClaim := { program := "ytknchfalmjpiiaa", sum := "e1439dd69f4befae8dafc6dadfaf58915eb8deb77315ba898dd2de2574e88b63", func := "cellaret/cellaretlaw07.PhaseBacks", spec := "phaseBacks", inPlace := ["math.Float64bits", "math.Float64frombits"], unfollowed := true, recurses := true, apart := false }
def PhaseBacksSaid : Prop := phaseBacksRow.holds Try.pinned (OpenSpec.ofChange phaseBacksSpec)

/-- ITS FALSE NEIGHBOUR: 'it returns false'. Refute it at one input. -/
def phaseBacksWrong : ChangeSpec := { name := "phaseBacks", fn := fun _ => fun
  | [d1, d2] => { results := [.lit (.bool false)], args := [d1, d2] }
  | _ => none }
def PhaseBacksWrongFalsely : Prop := phaseBacksRow.holds Try.pinned (OpenSpec.ofChange phaseBacksWrong)

/-- 'cellaretlaw07.PhaseMuls': WHATEVER THE INPUT: true; the input reads as it did. -/
def phaseMulsSpec : ChangeSpec := { name := "phaseMuls", fn := fun _ => fun
  | [d] => { results := [.lit (.bool true)], args := [d] }
  | _ => none }
def phaseMulsRow : OpenClaim := { program := "ytknchfalmjpiiaa", sum := "e1439dd69f4befae8dafc6dadfaf58915eb8deb77315ba898dd2de2574e88b63", func := "cellaret/cellaretlaw07.PhaseMuls", spec := "phaseMuls", inPlace := ["math.Float64bits", "math.Float64frombits"], unfollowed := true, recurses := true, apart := false }
def PhaseMulsSaid : Prop := phaseMulsRow.holds Try.pinned (OpenSpec.ofChange phaseMulsSpec)

/-- ITS FALSE NEIGHBOUR: 'it returns false'. Refute it at one input. -/
def phaseMulsWrong : ChangeSpec := { name := "phaseMuls", fn := fun _ => fun
  | [d] => { results := [.lit (.bool false)], args := [d] }
  | _ => none }
def PhaseMulsWrongFalsely : Prop := phaseMulsRow.holds Try.pinned (OpenSpec.ofChange phaseMulsWrong)

/- THE SECOND FORM. 'bulk': how many values and letters a reading holds, each counted each time it is reached (what is shared counts as often as it is met; a slice's spare places count too). A statement '..UptoSaid' is the law's where the arguments, and the package variables that the reading takes, are together of bulk at most 1048576: NARROWER than '..Said'. Prove '..Said' where nothing that the law and all that it calls make is longer than what came in: it says more and counts as full. Else prove '..UptoSaid'. A law counts once. -/
mutual
def uptoBulk {H : Type} : DataW H → Nat
  | .lit (.string bytes) => bytes.length + 1
  | .lit _ => 1
  | .nil => 1
  | .ptr d => uptoBulk d + 1
  | .slice elems spare => uptoBulkAll elems + uptoBulkAll spare + 1
  | .agg parts => uptoBulkAll parts + 1
  | .iface _ d => uptoBulk d + 1
  | .map entries => uptoBulkEntries entries + 1
  | .held _ => 1
def uptoBulkAll {H : Type} : List (DataW H) → Nat
  | [] => 0
  | d :: r => uptoBulk d + uptoBulkAll r
def uptoBulkEntries {H : Type} : List (Lit × DataW H) → Nat
  | [] => 0
  | x :: r => uptoBulkEntry x + uptoBulkEntries r
def uptoBulkEntry {H : Type} : Lit × DataW H → Nat
  | (.string bytes, d) => bytes.length + uptoBulk d + 1
  | (_, d) => uptoBulk d + 1
 end
def uptoSmall : (H : Type) → List (DataW H) → Bool := fun _ ds => decide (uptoBulkAll ds ≤ 1048576)
def OpenSpec.upto (s : _root_.Go.ChangeSpec) : _root_.Go.OpenSpec := { _root_.Go.OpenSpec.ofChange s with cond := some uptoSmall }

/-- 'cellaretlaw07.PhaseTurns', WHERE WHAT IT READS IS OF BULK AT MOST 1048576: true; the input reads as it did. -/
def phaseTurnsUptoRow : OpenClaim := { program := "ytknchfalmjpiiaa", sum := "e1439dd69f4befae8dafc6dadfaf58915eb8deb77315ba898dd2de2574e88b63", func := "cellaret/cellaretlaw07.PhaseTurns", spec := "phaseTurns", inPlace := ["math.Float64bits", "math.Float64frombits"], unfollowed := true, recurses := true, apart := false, narrowed := true }
def PhaseTurnsUptoSaid : Prop := phaseTurnsUptoRow.holds Try.pinned (OpenSpec.upto phaseTurnsSpec)

/-- 'cellaretlaw07.PhaseAdds', WHERE WHAT IT READS IS OF BULK AT MOST 1048576: true; the input reads as it did. -/
def phaseAddsUptoRow : OpenClaim := { program := "ytknchfalmjpiiaa", sum := "e1439dd69f4befae8dafc6dadfaf58915eb8deb77315ba898dd2de2574e88b63", func := "cellaret/cellaretlaw07.PhaseAdds", spec := "phaseAdds", inPlace := ["math.Float64bits", "math.Float64frombits"], unfollowed := true, recurses := true, apart := false, narrowed := true }
def PhaseAddsUptoSaid : Prop := phaseAddsUptoRow.holds Try.pinned (OpenSpec.upto phaseAddsSpec)

/-- 'cellaretlaw07.PhaseSpectra', WHERE WHAT IT READS IS OF BULK AT MOST 1048576: true; the input reads as it did. -/
def phaseSpectraUptoRow : OpenClaim := { program := "ytknchfalmjpiiaa", sum := "e1439dd69f4befae8dafc6dadfaf58915eb8deb77315ba898dd2de2574e88b63", func := "cellaret/cellaretlaw07.PhaseSpectra", spec := "phaseSpectra", inPlace := ["math.Float64bits", "math.Float64frombits"], unfollowed := true, recurses := true, apart := false, narrowed := true }
def PhaseSpectraUptoSaid : Prop := phaseSpectraUptoRow.holds Try.pinned (OpenSpec.upto phaseSpectraSpec)

/-- 'cellaretlaw07.PhaseBacks', WHERE WHAT IT READS IS OF BULK AT MOST 1048576: true; the input reads as it did. -/
def phaseBacksUptoRow : OpenClaim := { program := "ytknchfalmjpiiaa", sum := "e1439dd69f4befae8dafc6dadfaf58915eb8deb77315ba898dd2de2574e88b63", func := "cellaret/cellaretlaw07.PhaseBacks", spec := "phaseBacks", inPlace := ["math.Float64bits", "math.Float64frombits"], unfollowed := true, recurses := true, apart := false, narrowed := true }
def PhaseBacksUptoSaid : Prop := phaseBacksUptoRow.holds Try.pinned (OpenSpec.upto phaseBacksSpec)

/-- 'cellaretlaw07.PhaseMuls', WHERE WHAT IT READS IS OF BULK AT MOST 1048576: true; the input reads as it did. -/
def phaseMulsUptoRow : OpenClaim := { program := "ytknchfalmjpiiaa", sum := "e1439dd69f4befae8dafc6dadfaf58915eb8deb77315ba898dd2de2574e88b63", func := "cellaret/cellaretlaw07.PhaseMuls", spec := "phaseMuls", inPlace := ["math.Float64bits", "math.Float64frombits"], unfollowed := true, recurses := true, apart := false, narrowed := true }
def PhaseMulsUptoSaid : Prop := phaseMulsUptoRow.holds Try.pinned (OpenSpec.upto phaseMulsSpec)

end Rows
end Go.Proofs.Ytknchfalmjpiiaa
