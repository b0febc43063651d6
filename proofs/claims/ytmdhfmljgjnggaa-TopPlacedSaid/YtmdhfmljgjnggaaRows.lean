/-
  No cell of these rows narrows 'for every input' (looked for: loops, veiled, ifaces, maps, wideKeys, modest, calm, conditions, laid).
  DERIVED. THE GIVEN ROWS OF THIS SEAT. 7 by the template 'for every input the law returns true; each argument reads behind the call as it read before'; 0 by the template 'total and deterministic' (their statements: YtmdhfmljgjnggaaTotals.lean).
  GIVEN WITH THE SEED: the statements are not yours to turn. If you find one false, say at which input.
  Laid BY PROGRAM, IN A SANDBOX (cutbox-rows.mjs): the forced cells as the released guide's own fill.sh prints them over the translation 3875d847ff826044… (all of the seat's roots in one cut). By AI agents, Wed Nov 11 2026. No macro, syntax, notation, axiom, sorry.
-/
import Derived.Test.YtmdhfmljgjnggaaChecked
import GoSem.Claim
import GoSem.ClaimJoined
import GoSem.ClaimMapViews
import Derived.JoinedTies
import Derived.KernelRfl
namespace Go.Proofs.Ytmdhfmljgjnggaa
/- THE CELL 'sum', in the pinned program and in every row, IS THE sha256 OF THE DUMP (.gsa) THAT YtmdhfmljgjnggaaProg.lean LOADS. Nothing in Lean hashes anything: it is a label: what it is worth is what the hold of that sum in a sandbox is worth. -/
noncomputable def Try.pinned : Pinned := { name := "ytmdhfmljgjnggaa", sum := "3875d847ff8260442555a7d87e9e481b256d8753f41839c6b82bed2004e9c21c", checked := Try.checked }
namespace Rows
def none {H : Type} : Left H := { results := [], args := [] }

/-- 'embrasuretop.TopForked': WHATEVER THE INPUT: true; the input reads as it did. -/
def topForkedSpec : ChangeSpec := { name := "topForked", fn := fun _ => fun
  | [d1, d2] => { results := [.lit (.bool true)], args := [d1, d2] }
  | _ => none }
def topForkedRow : OpenClaim := { program := "ytmdhfmljgjnggaa", sum := "3875d847ff8260442555a7d87e9e481b256d8753f41839c6b82bed2004e9c21c", func := "embrasure/embrasuretop.TopForked", spec := "topForked", inPlace := ["maps.clone"], apart := false }
def TopForkedSaid : Prop := topForkedRow.holds Try.pinned (OpenSpec.ofChange topForkedSpec)

/-- ITS FALSE NEIGHBOUR: 'it returns false'. Refute it at one input. -/
def topForkedWrong : ChangeSpec := { name := "topForked", fn := fun _ => fun
  | [d1, d2] => { results := [.lit (.bool false)], args := [d1, d2] }
  | _ => none }
def TopForkedWrongFalsely : Prop := topForkedRow.holds Try.pinned (OpenSpec.ofChange topForkedWrong)

/-- 'embrasuretop.TopHeld': WHATEVER THE INPUT: true; the input reads as it did. -/
def topHeldSpec : ChangeSpec := { name := "topHeld", fn := fun _ => fun
  | [d] => { results := [.lit (.bool true)], args := [d] }
  | _ => none }
def topHeldRow : OpenClaim := { program := "ytmdhfmljgjnggaa", sum := "3875d847ff8260442555a7d87e9e481b256d8753f41839c6b82bed2004e9c21c", func := "embrasure/embrasuretop.TopHeld", spec := "topHeld", recurses := true, apart := false }
def TopHeldSaid : Prop := topHeldRow.holds Try.pinned (OpenSpec.ofChange topHeldSpec)

/-- ITS FALSE NEIGHBOUR: 'it returns false'. Refute it at one input. -/
def topHeldWrong : ChangeSpec := { name := "topHeld", fn := fun _ => fun
  | [d] => { results := [.lit (.bool false)], args := [d] }
  | _ => none }
def TopHeldWrongFalsely : Prop := topHeldRow.holds Try.pinned (OpenSpec.ofChange topHeldWrong)

/-- 'embrasuretop.TopPlaced': WHATEVER THE INPUT: true; the input reads as it did. -/
def topPlacedSpec : ChangeSpec := { name := "topPlaced", fn := fun _ => fun
  | [d] => { results := [.lit (.bool true)], args := [d] }
  | _ => none }
def topPlacedRow : OpenClaim := { program := "ytmdhfmljgjnggaa", sum := "3875d847ff8260442555a7d87e9e481b256d8753f41839c6b82bed2004e9c21c", func := "embrasure/embrasuretop.TopPlaced", spec := "topPlaced", inPlace := ["internal/bytealg.IndexByteString", "internal/bytealg.IndexString"], unfollowed := true, recurses := true, named := ["internal/bytealg.MaxLen"], apart := false }
def TopPlacedSaid : Prop := topPlacedRow.holds Try.pinned (OpenSpec.ofChange topPlacedSpec)

/-- ITS FALSE NEIGHBOUR: 'it returns false'. Refute it at one input. -/
def topPlacedWrong : ChangeSpec := { name := "topPlaced", fn := fun _ => fun
  | [d] => { results := [.lit (.bool false)], args := [d] }
  | _ => none }
def TopPlacedWrongFalsely : Prop := topPlacedRow.holds Try.pinned (OpenSpec.ofChange topPlacedWrong)

/-- 'embrasurelaw19.VmPlays': WHATEVER THE INPUT: true; the input reads as it did. -/
def vmPlaysSpec : ChangeSpec := { name := "vmPlays", fn := fun _ => fun
  | [d1, d2] => { results := [.lit (.bool true)], args := [d1, d2] }
  | _ => none }
def vmPlaysRow : OpenClaim := { program := "ytmdhfmljgjnggaa", sum := "3875d847ff8260442555a7d87e9e481b256d8753f41839c6b82bed2004e9c21c", func := "embrasure/embrasurelaw19.VmPlays", spec := "vmPlays", inPlace := ["maps.clone"], unfollowed := true, recurses := true, apart := false }
def VmPlaysSaid : Prop := vmPlaysRow.holds Try.pinned (OpenSpec.ofChange vmPlaysSpec)

/-- ITS FALSE NEIGHBOUR: 'it returns false'. Refute it at one input. -/
def vmPlaysWrong : ChangeSpec := { name := "vmPlays", fn := fun _ => fun
  | [d1, d2] => { results := [.lit (.bool false)], args := [d1, d2] }
  | _ => none }
def VmPlaysWrongFalsely : Prop := vmPlaysRow.holds Try.pinned (OpenSpec.ofChange vmPlaysWrong)

/-- 'embrasurelaw19.VmForks': WHATEVER THE INPUT: true; the input reads as it did. -/
def vmForksSpec : ChangeSpec := { name := "vmForks", fn := fun _ => fun
  | [d1, d2, d3] => { results := [.lit (.bool true)], args := [d1, d2, d3] }
  | _ => none }
def vmForksRow : OpenClaim := { program := "ytmdhfmljgjnggaa", sum := "3875d847ff8260442555a7d87e9e481b256d8753f41839c6b82bed2004e9c21c", func := "embrasure/embrasurelaw19.VmForks", spec := "vmForks", inPlace := ["maps.clone"], unfollowed := true, recurses := true, apart := false }
def VmForksSaid : Prop := vmForksRow.holds Try.pinned (OpenSpec.ofChange vmForksSpec)

/-- ITS FALSE NEIGHBOUR: 'it returns false'. Refute it at one input. -/
def vmForksWrong : ChangeSpec := { name := "vmForks", fn := fun _ => fun
  | [d1, d2, d3] => { results := [.lit (.bool false)], args := [d1, d2, d3] }
  | _ => none }
def VmForksWrongFalsely : Prop := vmForksRow.holds Try.pinned (OpenSpec.ofChange vmForksWrong)

/-- 'embrasurelaw19.VmNone': WHATEVER THE INPUT: true; the input reads as it did. -/
def vmNoneSpec : ChangeSpec := { name := "vmNone", fn := fun _ => fun
  | [d1, d2] => { results := [.lit (.bool true)], args := [d1, d2] }
  | _ => none }
def vmNoneRow : OpenClaim := { program := "ytmdhfmljgjnggaa", sum := "3875d847ff8260442555a7d87e9e481b256d8753f41839c6b82bed2004e9c21c", func := "embrasure/embrasurelaw19.VmNone", spec := "vmNone", inPlace := ["maps.clone"], unfollowed := true, recurses := true, apart := false }
def VmNoneSaid : Prop := vmNoneRow.holds Try.pinned (OpenSpec.ofChange vmNoneSpec)

/-- ITS FALSE NEIGHBOUR: 'it returns false'. Refute it at one input. -/
def vmNoneWrong : ChangeSpec := { name := "vmNone", fn := fun _ => fun
  | [d1, d2] => { results := [.lit (.bool false)], args := [d1, d2] }
  | _ => none }
def VmNoneWrongFalsely : Prop := vmNoneRow.holds Try.pinned (OpenSpec.ofChange vmNoneWrong)

/-- 'embrasurelaw22.FileNone': WHATEVER THE INPUT: true; the input reads as it did. -/
def fileNoneSpec : ChangeSpec := { name := "fileNone", fn := fun _ => fun
  | [d1, d2] => { results := [.lit (.bool true)], args := [d1, d2] }
  | _ => none }
def fileNoneRow : OpenClaim := { program := "ytmdhfmljgjnggaa", sum := "3875d847ff8260442555a7d87e9e481b256d8753f41839c6b82bed2004e9c21c", func := "embrasure/embrasurelaw22.FileNone", spec := "fileNone", inPlace := ["internal/bytealg.IndexByteString", "internal/bytealg.IndexString"], unfollowed := true, recurses := true, named := ["internal/bytealg.MaxLen"], apart := false }
def FileNoneSaid : Prop := fileNoneRow.holds Try.pinned (OpenSpec.ofChange fileNoneSpec)

/-- ITS FALSE NEIGHBOUR: 'it returns false'. Refute it at one input. -/
def fileNoneWrong : ChangeSpec := { name := "fileNone", fn := fun _ => fun
  | [d1, d2] => { results := [.lit (.bool false)], args := [d1, d2] }
  | _ => none }
def FileNoneWrongFalsely : Prop := fileNoneRow.holds Try.pinned (OpenSpec.ofChange fileNoneWrong)

/- THE SECOND FORM. 'bulk': how many values and letters a reading holds, each counted each time it is reached (what is shared counts as often as it is met; a slice's spare places count too). A statement '..UptoSaid' is the law's where the arguments, and the package variables that the reading takes, are together of bulk at most 1048576: NARROWER than '..Said'. Prove '..Said' where nothing that the law and all that it calls make is longer than what came in: it says more and counts as full. Else prove '..UptoSaid'. A law counts once. -/
mutual
def uptoBulk {H : Type} : DataW H → Nat
  | .lit (.string bytes) => bytes.length + 1
  | .lit _ => 1
  | .nil => 1
  | .ptr d => uptoBulk d + 1
  | .slice elems spare => uptoBulkAll elems + uptoBulkAll spare + 1
  | .agg parts => uptoBulkAll parts + 1
  | .iface _ d => uptoBulk d + 1
  | .map entries => uptoBulkEntries entries + 1
  | .held _ => 1
def uptoBulkAll {H : Type} : List (DataW H) → Nat
  | [] => 0
  | d :: r => uptoBulk d + uptoBulkAll r
def uptoBulkEntries {H : Type} : List (Lit × DataW H) → Nat
  | [] => 0
  | x :: r => uptoBulkEntry x + uptoBulkEntries r
def uptoBulkEntry {H : Type} : Lit × DataW H → Nat
  | (.string bytes, d) => bytes.length + uptoBulk d + 1
  | (_, d) => uptoBulk d + 1
 end
def uptoSmall : (H : Type) → List (DataW H) → Bool := fun _ ds => decide (uptoBulkAll ds ≤ 1048576)
def OpenSpec.upto (s : _root_.Go.ChangeSpec) : _root_.Go.OpenSpec := { _root_.Go.OpenSpec.ofChange s with cond := some uptoSmall }

/-- 'embrasuretop.TopForked', WHERE WHAT IT READS IS OF BULK AT MOST 1048576: true; the input reads as it did. -/
def topForkedUptoRow : OpenClaim := { program := "ytmdhfmljgjnggaa", sum := "3875d847ff8260442555a7d87e9e481b256d8753f41839c6b82bed2004e9c21c", func := "embrasure/embrasuretop.TopForked", spec := "topForked", inPlace := ["maps.clone"], apart := false, narrowed := true }
def TopForkedUptoSaid : Prop := topForkedUptoRow.holds Try.pinned (OpenSpec.upto topForkedSpec)

/-- 'embrasuretop.TopHeld', WHERE WHAT IT READS IS OF BULK AT MOST 1048576: true; the input reads as it did. -/
def topHeldUptoRow : OpenClaim := { program := "ytmdhfmljgjnggaa", sum := "3875d847ff8260442555a7d87e9e481b256d8753f41839c6b82bed2004e9c21c", func := "embrasure/embrasuretop.TopHeld", spec := "topHeld", recurses := true, apart := false, narrowed := true }
def TopHeldUptoSaid : Prop := topHeldUptoRow.holds Try.pinned (OpenSpec.upto topHeldSpec)

/-- 'embrasuretop.TopPlaced', WHERE WHAT IT READS IS OF BULK AT MOST 1048576: true; the input reads as it did. -/
def topPlacedUptoRow : OpenClaim := { program := "ytmdhfmljgjnggaa", sum := "3875d847ff8260442555a7d87e9e481b256d8753f41839c6b82bed2004e9c21c", func := "embrasure/embrasuretop.TopPlaced", spec := "topPlaced", inPlace := ["internal/bytealg.IndexByteString", "internal/bytealg.IndexString"], unfollowed := true, recurses := true, named := ["internal/bytealg.MaxLen"], apart := false, narrowed := true }
def TopPlacedUptoSaid : Prop := topPlacedUptoRow.holds Try.pinned (OpenSpec.upto topPlacedSpec)

/-- 'embrasurelaw19.VmPlays', WHERE WHAT IT READS IS OF BULK AT MOST 1048576: true; the input reads as it did. -/
def vmPlaysUptoRow : OpenClaim := { program := "ytmdhfmljgjnggaa", sum := "3875d847ff8260442555a7d87e9e481b256d8753f41839c6b82bed2004e9c21c", func := "embrasure/embrasurelaw19.VmPlays", spec := "vmPlays", inPlace := ["maps.clone"], unfollowed := true, recurses := true, apart := false, narrowed := true }
def VmPlaysUptoSaid : Prop := vmPlaysUptoRow.holds Try.pinned (OpenSpec.upto vmPlaysSpec)

/-- 'embrasurelaw19.VmForks', WHERE WHAT IT READS IS OF BULK AT MOST 1048576: true; the input reads as it did. -/
def vmForksUptoRow : OpenClaim := { program := "ytmdhfmljgjnggaa", sum := "3875d847ff8260442555a7d87e9e481b256d8753f41839c6b82bed2004e9c21c", func := "embrasure/embrasurelaw19.VmForks", spec := "vmForks", inPlace := ["maps.clone"], unfollowed := true, recurses := true, apart := false, narrowed := true }
def VmForksUptoSaid : Prop := vmForksUptoRow.holds Try.pinned (OpenSpec.upto vmForksSpec)

/-- 'embrasurelaw19.VmNone', WHERE WHAT IT READS IS OF BULK AT MOST 1048576: true; the input reads as it did. -/
def vmNoneUptoRow : OpenClaim := { program := "ytmdhfmljgjnggaa", sum := "3875d847ff8260442555a7d87e9e481b256d8753f41839c6b82bed2004e9c21c", func := "embrasure/embrasurelaw19.VmNone", spec := "vmNone", inPlace := ["maps.clone"], unfollowed := true, recurses := true, apart := false, narrowed := true }
def VmNoneUptoSaid : Prop := vmNoneUptoRow.holds Try.pinned (OpenSpec.upto vmNoneSpec)

/-- 'embrasurelaw22.FileNone', WHERE WHAT IT READS IS OF BULK AT MOST 1048576: true; the input reads as it did. -/
def fileNoneUptoRow : OpenClaim := { program := "ytmdhfmljgjnggaa", sum := "3875d847ff8260442555a7d87e9e481b256d8753f41839c6b82bed2004e9c21c", func := "embrasure/embrasurelaw22.FileNone", spec := "fileNone", inPlace := ["internal/bytealg.IndexByteString", "internal/bytealg.IndexString"], unfollowed := true, recurses := true, named := ["internal/bytealg.MaxLen"], apart := false, narrowed := true }
def FileNoneUptoSaid : Prop := fileNoneUptoRow.holds Try.pinned (OpenSpec.upto fileNoneSpec)

end Rows
end Go.Proofs.Ytmdhfmljgjnggaa
