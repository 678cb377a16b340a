/-
  No cell of these rows narrows 'for every input' (looked for: loops, veiled, ifaces, maps, wideKeys, modest, calm, conditions, laid).
  DERIVED. THE GIVEN ROWS OF THIS SEAT. 4 by the template 'for every input the law returns true; each argument reads behind the call as it read before'; 0 by the template 'total and deterministic' (their statements: YthdkjcocblnimaaTotals.lean).
  GIVEN WITH THE SEED: the statements are not yours to turn. If you find one false, say at which input.
  Laid BY PROGRAM, IN A SANDBOX (cutbox-rows.mjs): the forced cells as the released guide's own fill.sh prints them over the translation 38a544cb144b53d1… (all of the seat's roots in one cut). By AI agents, Wed Nov 11 2026. No macro, syntax, notation, axiom, sorry.
-/
import Derived.Test.YthdkjcocblnimaaChecked
import GoSem.Claim
import GoSem.ClaimJoined
import GoSem.ClaimMapViews
import Derived.JoinedTies
import Derived.KernelRfl
namespace Go.Proofs.Ythdkjcocblnimaa
/- THE CELL 'sum', in the pinned program and in every row, IS THE sha256 OF THE DUMP (.gsa) THAT YthdkjcocblnimaaProg.lean LOADS. Nothing in Lean hashes anything: it is a label: what it is worth is what the hold of that sum in a sandbox is worth. -/
noncomputable def Try.pinned : Pinned := { name := "ythdkjcocblnimaa", sum := "38a544cb144b53d12f9d6e7b4dc5146ba4a1b9ab03f576c1cba10b588a09d508", checked := Try.checked }
namespace Rows
def none {H : Type} : Left H := { results := [], args := [] }

/-- 'cellaretlaw20.IvsDo': WHATEVER THE INPUT: true; the input reads as it did. -/
def ivsDoSpec : ChangeSpec := { name := "ivsDo", fn := fun _ => fun
  | [d1, d2, d3] => { results := [.lit (.bool true)], args := [d1, d2, d3] }
  | _ => none }
def ivsDoRow : OpenClaim := { program := "ythdkjcocblnimaa", sum := "38a544cb144b53d12f9d6e7b4dc5146ba4a1b9ab03f576c1cba10b588a09d508", func := "cellaret/cellaretlaw20.IvsDo", spec := "ivsDo", unfollowed := true, recurses := true, apart := false }
def IvsDoSaid : Prop := ivsDoRow.holds Try.pinned (OpenSpec.ofChange ivsDoSpec)

/-- ITS FALSE NEIGHBOUR: 'it returns false'. Refute it at one input. -/
def ivsDoWrong : ChangeSpec := { name := "ivsDo", fn := fun _ => fun
  | [d1, d2, d3] => { results := [.lit (.bool false)], args := [d1, d2, d3] }
  | _ => none }
def IvsDoWrongFalsely : Prop := ivsDoRow.holds Try.pinned (OpenSpec.ofChange ivsDoWrong)

/-- 'cellaretlaw20.IvsOnce': WHATEVER THE INPUT: true; the input reads as it did. -/
def ivsOnceSpec : ChangeSpec := { name := "ivsOnce", fn := fun _ => fun
  | [d1, d2] => { results := [.lit (.bool true)], args := [d1, d2] }
  | _ => none }
def ivsOnceRow : OpenClaim := { program := "ythdkjcocblnimaa", sum := "38a544cb144b53d12f9d6e7b4dc5146ba4a1b9ab03f576c1cba10b588a09d508", func := "cellaret/cellaretlaw20.IvsOnce", spec := "ivsOnce", unfollowed := true, recurses := true, apart := false }
def IvsOnceSaid : Prop := ivsOnceRow.holds Try.pinned (OpenSpec.ofChange ivsOnceSpec)

/-- ITS FALSE NEIGHBOUR: 'it returns false'. Refute it at one input. -/
def ivsOnceWrong : ChangeSpec := { name := "ivsOnce", fn := fun _ => fun
  | [d1, d2] => { results := [.lit (.bool false)], args := [d1, d2] }
  | _ => none }
def IvsOnceWrongFalsely : Prop := ivsOnceRow.holds Try.pinned (OpenSpec.ofChange ivsOnceWrong)

/-- 'cellaretlaw20.IvsAll': WHATEVER THE INPUT: true; the input reads as it did. -/
def ivsAllSpec : ChangeSpec := { name := "ivsAll", fn := fun _ => fun
  | [d] => { results := [.lit (.bool true)], args := [d] }
  | _ => none }
def ivsAllRow : OpenClaim := { program := "ythdkjcocblnimaa", sum := "38a544cb144b53d12f9d6e7b4dc5146ba4a1b9ab03f576c1cba10b588a09d508", func := "cellaret/cellaretlaw20.IvsAll", spec := "ivsAll", unfollowed := true, recurses := true, apart := false }
def IvsAllSaid : Prop := ivsAllRow.holds Try.pinned (OpenSpec.ofChange ivsAllSpec)

/-- ITS FALSE NEIGHBOUR: 'it returns false'. Refute it at one input. -/
def ivsAllWrong : ChangeSpec := { name := "ivsAll", fn := fun _ => fun
  | [d] => { results := [.lit (.bool false)], args := [d] }
  | _ => none }
def IvsAllWrongFalsely : Prop := ivsAllRow.holds Try.pinned (OpenSpec.ofChange ivsAllWrong)

/-- 'cellaretlaw20.IvsNone': WHATEVER THE INPUT: true; the input reads as it did. -/
def ivsNoneSpec : ChangeSpec := { name := "ivsNone", fn := fun _ => fun
  | [d1, d2, d3] => { results := [.lit (.bool true)], args := [d1, d2, d3] }
  | _ => none }
def ivsNoneRow : OpenClaim := { program := "ythdkjcocblnimaa", sum := "38a544cb144b53d12f9d6e7b4dc5146ba4a1b9ab03f576c1cba10b588a09d508", func := "cellaret/cellaretlaw20.IvsNone", spec := "ivsNone", unfollowed := true, recurses := true, apart := false }
def IvsNoneSaid : Prop := ivsNoneRow.holds Try.pinned (OpenSpec.ofChange ivsNoneSpec)

/-- ITS FALSE NEIGHBOUR: 'it returns false'. Refute it at one input. -/
def ivsNoneWrong : ChangeSpec := { name := "ivsNone", fn := fun _ => fun
  | [d1, d2, d3] => { results := [.lit (.bool false)], args := [d1, d2, d3] }
  | _ => none }
def IvsNoneWrongFalsely : Prop := ivsNoneRow.holds Try.pinned (OpenSpec.ofChange ivsNoneWrong)

/- THE SECOND FORM. 'bulk': how many values and letters a reading holds, each counted each time it is reached (what is shared counts as often as it is met; a slice's spare places count too). A statement '..UptoSaid' is the law's where the arguments, and the package variables that the reading takes, are together of bulk at most 1048576: NARROWER than '..Said'. Prove '..Said' where nothing that the law and all that it calls make is longer than what came in: it says more and counts as full. Else prove '..UptoSaid'. A law counts once. -/
mutual
def uptoBulk {H : Type} : DataW H → Nat
  | .lit (.string bytes) => bytes.length + 1
  | .lit _ => 1
  | .nil => 1
  | .ptr d => uptoBulk d + 1
  | .slice elems spare => uptoBulkAll elems + uptoBulkAll spare + 1
  | .agg parts => uptoBulkAll parts + 1
  | .iface _ d => uptoBulk d + 1
  | .map entries => uptoBulkEntries entries + 1
  | .held _ => 1
def uptoBulkAll {H : Type} : List (DataW H) → Nat
  | [] => 0
  | d :: r => uptoBulk d + uptoBulkAll r
def uptoBulkEntries {H : Type} : List (Lit × DataW H) → Nat
  | [] => 0
  | x :: r => uptoBulkEntry x + uptoBulkEntries r
def uptoBulkEntry {H : Type} : Lit × DataW H → Nat
  | (.string bytes, d) => bytes.length + uptoBulk d + 1
  | (_, d) => uptoBulk d + 1
 end
def uptoSmall : (H : Type) → List (DataW H) → Bool := fun _ ds => decide (uptoBulkAll ds ≤ 1048576)
def OpenSpec.upto (s : _root_.Go.ChangeSpec) : _root_.Go.OpenSpec := { _root_.Go.OpenSpec.ofChange s with cond := some uptoSmall }

/-- 'cellaretlaw20.IvsDo', WHERE WHAT IT READS IS OF BULK AT MOST 1048576: true; the input reads as it did. -/
def ivsDoUptoRow : OpenClaim := { program := "ythdkjcocblnimaa", sum := "38a544cb144b53d12f9d6e7b4dc5146ba4a1b9ab03f576c1cba10b588a09d508", func := "cellaret/cellaretlaw20.IvsDo", spec := "ivsDo", unfollowed := true, recurses := true, apart := false, narrowed := true }
def IvsDoUptoSaid : Prop := ivsDoUptoRow.holds Try.pinned (OpenSpec.upto ivsDoSpec)

/-- 'cellaretlaw20.IvsOnce', WHERE WHAT IT READS IS OF BULK AT MOST 1048576: true; the input reads as it did. -/
def ivsOnceUptoRow : OpenClaim := { program := "ythdkjcocblnimaa", sum := "38a544cb144b53d12f9d6e7b4dc5146ba4a1b9ab03f576c1cba10b588a09d508", func := "cellaret/cellaretlaw20.IvsOnce", spec := "ivsOnce", unfollowed := true, recurses := true, apart := false, narrowed := true }
def IvsOnceUptoSaid : Prop := ivsOnceUptoRow.holds Try.pinned (OpenSpec.upto ivsOnceSpec)

/-- 'cellaretlaw20.IvsAll', WHERE WHAT IT READS IS OF BULK AT MOST 1048576: true; the input reads as it did. -/
def ivsAllUptoRow : OpenClaim := { program := "ythdkjcocblnimaa", sum := "38a544cb144b53d12f9d6e7b4dc5146ba4a1b9ab03f576c1cba10b588a09d508", func := "cellaret/cellaretlaw20.IvsAll", spec := "ivsAll", unfollowed := true, recurses := true, apart := false, narrowed := true }
def IvsAllUptoSaid : Prop := ivsAllUptoRow.holds Try.pinned (OpenSpec.upto ivsAllSpec)

/-- 'cellaretlaw20.IvsNone', WHERE WHAT IT READS IS OF BULK AT MOST 1048576: true; the input reads as it did. -/
def ivsNoneUptoRow : OpenClaim := { program := "ythdkjcocblnimaa", sum := "38a544cb144b53d12f9d6e7b4dc5146ba4a1b9ab03f576c1cba10b588a09d508", func := "cellaret/cellaretlaw20.IvsNone", spec := "ivsNone", unfollowed := true, recurses := true, apart := false, narrowed := true }
def IvsNoneUptoSaid : Prop := ivsNoneUptoRow.holds Try.pinned (OpenSpec.upto ivsNoneSpec)

end Rows
end Go.Proofs.Ythdkjcocblnimaa
