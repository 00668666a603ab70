/-
  No cell of these rows narrows 'for every input' (looked for: loops, veiled, ifaces, maps, wideKeys, modest, calm, conditions, laid).
  DERIVED. THE GIVEN ROWS OF THIS SEAT. 3 by the template 'for every input the law returns true; each argument reads behind the call as it read before'; 0 by the template 'total and deterministic' (their statements: YtjfjmlglgdhkoaaTotals.lean).
  GIVEN WITH THE SEED: the statements are not yours to turn. If you find one false, say at which input.
  Laid BY PROGRAM, IN A SANDBOX (cutbox-rows.mjs): the forced cells as the released guide's own fill.sh prints them over the translation 3b849065bc291de0… (all of the seat's roots in one cut). By AI agents, Wed Nov 11 2026. No macro, syntax, notation, axiom, sorry.
-/
import Derived.Test.YtjfjmlglgdhkoaaChecked
import GoSem.Claim
import GoSem.ClaimJoined
import GoSem.ClaimMapViews
import Derived.JoinedTies
import Derived.KernelRfl
namespace Go.Proofs.Ytjfjmlglgdhkoaa
/- THE CELL 'sum', in the pinned program and in every row, IS THE sha256 OF THE DUMP (.gsa) THAT YtjfjmlglgdhkoaaProg.lean LOADS. Nothing in Lean hashes anything: it is a label: what it is worth is what the hold of that sum in a sandbox is worth. -/
noncomputable def Try.pinned : Pinned := { name := "ytjfjmlglgdhkoaa", sum := "3b849065bc291de09dfad25be68c529a07f49e2c570c80d812398fd3d17aef5e", checked := Try.checked }
namespace Rows
def none {H : Type} : Left H := { results := [], args := [] }

/-- 'cardexlaw18.FolderDoes': WHATEVER THE INPUT: true; the input reads as it did. -/
def folderDoesSpec : ChangeSpec := { name := "folderDoes", fn := fun _ => fun
  | [d1, d2] => { results := [.lit (.bool true)], args := [d1, d2] }
  | _ => none }
def folderDoesRow : OpenClaim := { program := "ytjfjmlglgdhkoaa", sum := "3b849065bc291de09dfad25be68c529a07f49e2c570c80d812398fd3d17aef5e", func := "cardex/cardexlaw18.FolderDoes", spec := "folderDoes", unfollowed := true, recurses := true, apart := false }
def FolderDoesSaid : Prop := folderDoesRow.holds Try.pinned (OpenSpec.ofChange folderDoesSpec)

/-- ITS FALSE NEIGHBOUR: 'it returns false'. Refute it at one input. -/
def folderDoesWrong : ChangeSpec := { name := "folderDoes", fn := fun _ => fun
  | [d1, d2] => { results := [.lit (.bool false)], args := [d1, d2] }
  | _ => none }
def FolderDoesWrongFalsely : Prop := folderDoesRow.holds Try.pinned (OpenSpec.ofChange folderDoesWrong)

/-- 'cardexlaw18.FolderStays': WHATEVER THE INPUT: true; the input reads as it did. -/
def folderStaysSpec : ChangeSpec := { name := "folderStays", fn := fun _ => fun
  | [d] => { results := [.lit (.bool true)], args := [d] }
  | _ => none }
def folderStaysRow : OpenClaim := { program := "ytjfjmlglgdhkoaa", sum := "3b849065bc291de09dfad25be68c529a07f49e2c570c80d812398fd3d17aef5e", func := "cardex/cardexlaw18.FolderStays", spec := "folderStays", unfollowed := true, recurses := true, apart := false }
def FolderStaysSaid : Prop := folderStaysRow.holds Try.pinned (OpenSpec.ofChange folderStaysSpec)

/-- ITS FALSE NEIGHBOUR: 'it returns false'. Refute it at one input. -/
def folderStaysWrong : ChangeSpec := { name := "folderStays", fn := fun _ => fun
  | [d] => { results := [.lit (.bool false)], args := [d] }
  | _ => none }
def FolderStaysWrongFalsely : Prop := folderStaysRow.holds Try.pinned (OpenSpec.ofChange folderStaysWrong)

/-- 'cardexlaw18.FolderBack': WHATEVER THE INPUT: true; the input reads as it did. -/
def folderBackSpec : ChangeSpec := { name := "folderBack", fn := fun _ => fun
  | [d1, d2, d3] => { results := [.lit (.bool true)], args := [d1, d2, d3] }
  | _ => none }
def folderBackRow : OpenClaim := { program := "ytjfjmlglgdhkoaa", sum := "3b849065bc291de09dfad25be68c529a07f49e2c570c80d812398fd3d17aef5e", func := "cardex/cardexlaw18.FolderBack", spec := "folderBack", unfollowed := true, recurses := true, apart := false }
def FolderBackSaid : Prop := folderBackRow.holds Try.pinned (OpenSpec.ofChange folderBackSpec)

/-- ITS FALSE NEIGHBOUR: 'it returns false'. Refute it at one input. -/
def folderBackWrong : ChangeSpec := { name := "folderBack", fn := fun _ => fun
  | [d1, d2, d3] => { results := [.lit (.bool false)], args := [d1, d2, d3] }
  | _ => none }
def FolderBackWrongFalsely : Prop := folderBackRow.holds Try.pinned (OpenSpec.ofChange folderBackWrong)

/- THE SECOND FORM. 'bulk': how many values and letters a reading holds, each counted each time it is reached (what is shared counts as often as it is met; a slice's spare places count too). A statement '..UptoSaid' is the law's where the arguments, and the package variables that the reading takes, are together of bulk at most 1048576: NARROWER than '..Said'. Prove '..Said' where nothing that the law and all that it calls make is longer than what came in: it says more and counts as full. Else prove '..UptoSaid'. A law counts once. -/
mutual
def uptoBulk {H : Type} : DataW H → Nat
  | .lit (.string bytes) => bytes.length + 1
  | .lit _ => 1
  | .nil => 1
  | .ptr d => uptoBulk d + 1
  | .slice elems spare => uptoBulkAll elems + uptoBulkAll spare + 1
  | .agg parts => uptoBulkAll parts + 1
  | .iface _ d => uptoBulk d + 1
  | .map entries => uptoBulkEntries entries + 1
  | .held _ => 1
def uptoBulkAll {H : Type} : List (DataW H) → Nat
  | [] => 0
  | d :: r => uptoBulk d + uptoBulkAll r
def uptoBulkEntries {H : Type} : List (Lit × DataW H) → Nat
  | [] => 0
  | x :: r => uptoBulkEntry x + uptoBulkEntries r
def uptoBulkEntry {H : Type} : Lit × DataW H → Nat
  | (.string bytes, d) => bytes.length + uptoBulk d + 1
  | (_, d) => uptoBulk d + 1
 end
def uptoSmall : (H : Type) → List (DataW H) → Bool := fun _ ds => decide (uptoBulkAll ds ≤ 1048576)
def OpenSpec.upto (s : _root_.Go.ChangeSpec) : _root_.Go.OpenSpec := { _root_.Go.OpenSpec.ofChange s with cond := some uptoSmall }

/-- 'cardexlaw18.FolderDoes', WHERE WHAT IT READS IS OF BULK AT MOST 1048576: true; the input reads as it did. -/
def folderDoesUptoRow : OpenClaim := { program := "ytjfjmlglgdhkoaa", sum := "3b849065bc291de09dfad25be68c529a07f49e2c570c80d812398fd3d17aef5e", func := "cardex/cardexlaw18.FolderDoes", spec := "folderDoes", unfollowed := true, recurses := true, apart := false, narrowed := true }
def FolderDoesUptoSaid : Prop := folderDoesUptoRow.holds Try.pinned (OpenSpec.upto folderDoesSpec)

/-- 'cardexlaw18.FolderStays', WHERE WHAT IT READS IS OF BULK AT MOST 1048576: true; the input reads as it did. -/
def folderStaysUptoRow : OpenClaim := { program := "ytjfjmlglgdhkoaa", sum := "3b849065bc291de09dfad25be68c529a07f49e2c570c80d812398fd3d17aef5e", func := "cardex/cardexlaw18.FolderStays", spec := "folderStays", unfollowed := true, recurses := true, apart := false, narrowed := true }
def FolderStaysUptoSaid : Prop := folderStaysUptoRow.holds Try.pinned (OpenSpec.upto folderStaysSpec)

/-- 'cardexlaw18.FolderBack', WHERE WHAT IT READS IS OF BULK AT MOST 1048576: true; the input reads as it did. -/
def folderBackUptoRow : OpenClaim := { program := "ytjfjmlglgdhkoaa", sum := "3b849065bc291de09dfad25be68c529a07f49e2c570c80d812398fd3d17aef5e", func := "cardex/cardexlaw18.FolderBack", spec := "folderBack", unfollowed := true, recurses := true, apart := false, narrowed := true }
def FolderBackUptoSaid : Prop := folderBackUptoRow.holds Try.pinned (OpenSpec.upto folderBackSpec)

end Rows
end Go.Proofs.Ytjfjmlglgdhkoaa
