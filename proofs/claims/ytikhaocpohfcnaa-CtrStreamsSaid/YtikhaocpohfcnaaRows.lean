/-
  No cell of these rows narrows 'for every input' (looked for: loops, veiled, ifaces, maps, wideKeys, modest, calm, conditions, laid).
  DERIVED. THE GIVEN ROWS OF THIS SEAT. 6 by the template 'for every input the law returns true; each argument reads behind the call as it read before'; 0 by the template 'total and deterministic' (their statements: YtikhaocpohfcnaaTotals.lean).
  GIVEN WITH THE SEED: the statements are not yours to turn. If you find one false, say at which input.
  Laid BY PROGRAM, IN A SANDBOX (cutbox-rows.mjs): the forced cells as the released guide's own fill.sh prints them over the translation 71e544236b0ea814… (all of the seat's roots in one cut). By AI agents, Wed Nov 11 2026. No macro, syntax, notation, axiom, sorry.
-/
import Derived.Test.YtikhaocpohfcnaaChecked
import GoSem.Claim
import GoSem.ClaimJoined
import GoSem.ClaimMapViews
import Derived.JoinedTies
import Derived.KernelRfl
namespace Go.Proofs.Ytikhaocpohfcnaa
/- THE CELL 'sum', in the pinned program and in every row, IS THE sha256 OF THE DUMP (.gsa) THAT YtikhaocpohfcnaaProg.lean LOADS. Nothing in Lean hashes anything: it is a label: what it is worth is what the hold of that sum in a sandbox is worth. -/
noncomputable def Try.pinned : Pinned := { name := "ytikhaocpohfcnaa", sum := "71e544236b0ea814488d3f7be7bb4bb617df3b730635290767ed38648fe8515b", checked := Try.checked }
namespace Rows
def none {H : Type} : Left H := { results := [], args := [] }

/-- 'cellaretlaw05.CtrStreams': WHATEVER THE INPUT: true; the input reads as it did. -/
def ctrStreamsSpec : ChangeSpec := { name := "ctrStreams", fn := fun _ => fun
  | [d] => { results := [.lit (.bool true)], args := [d] }
  | _ => none }
def ctrStreamsRow : OpenClaim := { program := "ytikhaocpohfcnaa", sum := "71e544236b0ea814488d3f7be7bb4bb617df3b730635290767ed38648fe8515b", func := "cellaret/cellaretlaw05.CtrStreams", spec := "ctrStreams", unfollowed := true, recurses := true, apart := false }
def CtrStreamsSaid : Prop := ctrStreamsRow.holds Try.pinned (OpenSpec.ofChange ctrStreamsSpec)

/-- ITS FALSE NEIGHBOUR: 'it returns false'. Refute it at one input. -/
def ctrStreamsWrong : ChangeSpec := { name := "ctrStreams", fn := fun _ => fun
  | [d] => { results := [.lit (.bool false)], args := [d] }
  | _ => none }
def CtrStreamsWrongFalsely : Prop := ctrStreamsRow.holds Try.pinned (OpenSpec.ofChange ctrStreamsWrong)

/-- 'cellaretlaw05.CtrKinds': WHATEVER THE INPUT: true; the input reads as it did. -/
def ctrKindsSpec : ChangeSpec := { name := "ctrKinds", fn := fun _ => fun
  | [d1, d2] => { results := [.lit (.bool true)], args := [d1, d2] }
  | _ => none }
def ctrKindsRow : OpenClaim := { program := "ytikhaocpohfcnaa", sum := "71e544236b0ea814488d3f7be7bb4bb617df3b730635290767ed38648fe8515b", func := "cellaret/cellaretlaw05.CtrKinds", spec := "ctrKinds", unfollowed := true, recurses := true, apart := false }
def CtrKindsSaid : Prop := ctrKindsRow.holds Try.pinned (OpenSpec.ofChange ctrKindsSpec)

/-- ITS FALSE NEIGHBOUR: 'it returns false'. Refute it at one input. -/
def ctrKindsWrong : ChangeSpec := { name := "ctrKinds", fn := fun _ => fun
  | [d1, d2] => { results := [.lit (.bool false)], args := [d1, d2] }
  | _ => none }
def CtrKindsWrongFalsely : Prop := ctrKindsRow.holds Try.pinned (OpenSpec.ofChange ctrKindsWrong)

/-- 'cellaretlaw05.CtrAlike': WHATEVER THE INPUT: true; the input reads as it did. -/
def ctrAlikeSpec : ChangeSpec := { name := "ctrAlike", fn := fun _ => fun
  | [d] => { results := [.lit (.bool true)], args := [d] }
  | _ => none }
def ctrAlikeRow : OpenClaim := { program := "ytikhaocpohfcnaa", sum := "71e544236b0ea814488d3f7be7bb4bb617df3b730635290767ed38648fe8515b", func := "cellaret/cellaretlaw05.CtrAlike", spec := "ctrAlike", unfollowed := true, recurses := true, apart := false }
def CtrAlikeSaid : Prop := ctrAlikeRow.holds Try.pinned (OpenSpec.ofChange ctrAlikeSpec)

/-- ITS FALSE NEIGHBOUR: 'it returns false'. Refute it at one input. -/
def ctrAlikeWrong : ChangeSpec := { name := "ctrAlike", fn := fun _ => fun
  | [d] => { results := [.lit (.bool false)], args := [d] }
  | _ => none }
def CtrAlikeWrongFalsely : Prop := ctrAlikeRow.holds Try.pinned (OpenSpec.ofChange ctrAlikeWrong)

/-- 'cellaretlaw05.CtrNone': WHATEVER THE INPUT: true; the input reads as it did. -/
def ctrNoneSpec : ChangeSpec := { name := "ctrNone", fn := fun _ => fun
  | [d1, d2, d3] => { results := [.lit (.bool true)], args := [d1, d2, d3] }
  | _ => none }
def ctrNoneRow : OpenClaim := { program := "ytikhaocpohfcnaa", sum := "71e544236b0ea814488d3f7be7bb4bb617df3b730635290767ed38648fe8515b", func := "cellaret/cellaretlaw05.CtrNone", spec := "ctrNone", unfollowed := true, recurses := true, apart := false }
def CtrNoneSaid : Prop := ctrNoneRow.holds Try.pinned (OpenSpec.ofChange ctrNoneSpec)

/-- ITS FALSE NEIGHBOUR: 'it returns false'. Refute it at one input. -/
def ctrNoneWrong : ChangeSpec := { name := "ctrNone", fn := fun _ => fun
  | [d1, d2, d3] => { results := [.lit (.bool false)], args := [d1, d2, d3] }
  | _ => none }
def CtrNoneWrongFalsely : Prop := ctrNoneRow.holds Try.pinned (OpenSpec.ofChange ctrNoneWrong)

/-- 'cellaretlaw05.CtrSeals': WHATEVER THE INPUT: true; the input reads as it did. -/
def ctrSealsSpec : ChangeSpec := { name := "ctrSeals", fn := fun _ => fun
  | [d1, d2, d3] => { results := [.lit (.bool true)], args := [d1, d2, d3] }
  | _ => none }
def ctrSealsRow : OpenClaim := { program := "ytikhaocpohfcnaa", sum := "71e544236b0ea814488d3f7be7bb4bb617df3b730635290767ed38648fe8515b", func := "cellaret/cellaretlaw05.CtrSeals", spec := "ctrSeals", unfollowed := true, recurses := true, apart := false }
def CtrSealsSaid : Prop := ctrSealsRow.holds Try.pinned (OpenSpec.ofChange ctrSealsSpec)

/-- ITS FALSE NEIGHBOUR: 'it returns false'. Refute it at one input. -/
def ctrSealsWrong : ChangeSpec := { name := "ctrSeals", fn := fun _ => fun
  | [d1, d2, d3] => { results := [.lit (.bool false)], args := [d1, d2, d3] }
  | _ => none }
def CtrSealsWrongFalsely : Prop := ctrSealsRow.holds Try.pinned (OpenSpec.ofChange ctrSealsWrong)

/-- 'cellaretlaw05.CtrBack': WHATEVER THE INPUT: true; the input reads as it did. -/
def ctrBackSpec : ChangeSpec := { name := "ctrBack", fn := fun _ => fun
  | [d1, d2, d3] => { results := [.lit (.bool true)], args := [d1, d2, d3] }
  | _ => none }
def ctrBackRow : OpenClaim := { program := "ytikhaocpohfcnaa", sum := "71e544236b0ea814488d3f7be7bb4bb617df3b730635290767ed38648fe8515b", func := "cellaret/cellaretlaw05.CtrBack", spec := "ctrBack", unfollowed := true, recurses := true, apart := false }
def CtrBackSaid : Prop := ctrBackRow.holds Try.pinned (OpenSpec.ofChange ctrBackSpec)

/-- ITS FALSE NEIGHBOUR: 'it returns false'. Refute it at one input. -/
def ctrBackWrong : ChangeSpec := { name := "ctrBack", fn := fun _ => fun
  | [d1, d2, d3] => { results := [.lit (.bool false)], args := [d1, d2, d3] }
  | _ => none }
def CtrBackWrongFalsely : Prop := ctrBackRow.holds Try.pinned (OpenSpec.ofChange ctrBackWrong)

/- THE SECOND FORM. 'bulk': how many values and letters a reading holds, each counted each time it is reached (what is shared counts as often as it is met; a slice's spare places count too). A statement '..UptoSaid' is the law's where the arguments, and the package variables that the reading takes, are together of bulk at most 1048576: NARROWER than '..Said'. Prove '..Said' where nothing that the law and all that it calls make is longer than what came in: it says more and counts as full. Else prove '..UptoSaid'. A law counts once. -/
mutual
def uptoBulk {H : Type} : DataW H → Nat
  | .lit (.string bytes) => bytes.length + 1
  | .lit _ => 1
  | .nil => 1
  | .ptr d => uptoBulk d + 1
  | .slice elems spare => uptoBulkAll elems + uptoBulkAll spare + 1
  | .agg parts => uptoBulkAll parts + 1
  | .iface _ d => uptoBulk d + 1
  | .map entries => uptoBulkEntries entries + 1
  | .held _ => 1
def uptoBulkAll {H : Type} : List (DataW H) → Nat
  | [] => 0
  | d :: r => uptoBulk d + uptoBulkAll r
def uptoBulkEntries {H : Type} : List (Lit × DataW H) → Nat
  | [] => 0
  | x :: r => uptoBulkEntry x + uptoBulkEntries r
def uptoBulkEntry {H : Type} : Lit × DataW H → Nat
  | (.string bytes, d) => bytes.length + uptoBulk d + 1
  | (_, d) => uptoBulk d + 1
 end
def uptoSmall : (H : Type) → List (DataW H) → Bool := fun _ ds => decide (uptoBulkAll ds ≤ 1048576)
def OpenSpec.upto (s : _root_.Go.ChangeSpec) : _root_.Go.OpenSpec := { _root_.Go.OpenSpec.ofChange s with cond := some uptoSmall }

/-- 'cellaretlaw05.CtrStreams', WHERE WHAT IT READS IS OF BULK AT MOST 1048576: true; the input reads as it did. -/
def ctrStreamsUptoRow : OpenClaim := { program := "ytikhaocpohfcnaa", sum := "71e544236b0ea814488d3f7be7bb4bb617df3b730635290767ed38648fe8515b", func := "cellaret/cellaretlaw05.CtrStreams", spec := "ctrStreams", unfollowed := true, recurses := true, apart := false, narrowed := true }
def CtrStreamsUptoSaid : Prop := ctrStreamsUptoRow.holds Try.pinned (OpenSpec.upto ctrStreamsSpec)

/-- 'cellaretlaw05.CtrKinds', WHERE WHAT IT READS IS OF BULK AT MOST 1048576: true; the input reads as it did. -/
def ctrKindsUptoRow : OpenClaim := { program := "ytikhaocpohfcnaa", sum := "71e544236b0ea814488d3f7be7bb4bb617df3b730635290767ed38648fe8515b", func := "cellaret/cellaretlaw05.CtrKinds", spec := "ctrKinds", unfollowed := true, recurses := true, apart := false, narrowed := true }
def CtrKindsUptoSaid : Prop := ctrKindsUptoRow.holds Try.pinned (OpenSpec.upto ctrKindsSpec)

/-- 'cellaretlaw05.CtrAlike', WHERE WHAT IT READS IS OF BULK AT MOST 1048576: true; the input reads as it did. -/
def ctrAlikeUptoRow : OpenClaim := { program := "ytikhaocpohfcnaa", sum := "71e544236b0ea814488d3f7be7bb4bb617df3b730635290767ed38648fe8515b", func := "cellaret/cellaretlaw05.CtrAlike", spec := "ctrAlike", unfollowed := true, recurses := true, apart := false, narrowed := true }
def CtrAlikeUptoSaid : Prop := ctrAlikeUptoRow.holds Try.pinned (OpenSpec.upto ctrAlikeSpec)

/-- 'cellaretlaw05.CtrNone', WHERE WHAT IT READS IS OF BULK AT MOST 1048576: true; the input reads as it did. -/
def ctrNoneUptoRow : OpenClaim := { program := "ytikhaocpohfcnaa", sum := "71e544236b0ea814488d3f7be7bb4bb617df3b730635290767ed38648fe8515b", func := "cellaret/cellaretlaw05.CtrNone", spec := "ctrNone", unfollowed := true, recurses := true, apart := false, narrowed := true }
def CtrNoneUptoSaid : Prop := ctrNoneUptoRow.holds Try.pinned (OpenSpec.upto ctrNoneSpec)

/-- 'cellaretlaw05.CtrSeals', WHERE WHAT IT READS IS OF BULK AT MOST 1048576: true; the input reads as it did. -/
def ctrSealsUptoRow : OpenClaim := { program := "ytikhaocpohfcnaa", sum := "71e544236b0ea814488d3f7be7bb4bb617df3b730635290767ed38648fe8515b", func := "cellaret/cellaretlaw05.CtrSeals", spec := "ctrSeals", unfollowed := true, recurses := true, apart := false, narrowed := true }
def CtrSealsUptoSaid : Prop := ctrSealsUptoRow.holds Try.pinned (OpenSpec.upto ctrSealsSpec)

/-- 'cellaretlaw05.CtrBack', WHERE WHAT IT READS IS OF BULK AT MOST 1048576: true; the input reads as it did. -/
def ctrBackUptoRow : OpenClaim := { program := "ytikhaocpohfcnaa", sum := "71e544236b0ea814488d3f7be7bb4bb617df3b730635290767ed38648fe8515b", func := "cellaret/cellaretlaw05.CtrBack", spec := "ctrBack", unfollowed := true, recurses := true, apart := false, narrowed := true }
def CtrBackUptoSaid : Prop := ctrBackUptoRow.holds Try.pinned (OpenSpec.upto ctrBackSpec)

end Rows
end Go.Proofs.Ytikhaocpohfcnaa
