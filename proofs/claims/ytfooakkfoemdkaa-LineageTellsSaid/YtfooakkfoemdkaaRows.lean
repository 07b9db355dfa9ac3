/-
  No cell of these rows narrows 'for every input' (looked for: loops, veiled, ifaces, maps, wideKeys, modest, calm, conditions, laid).
  DERIVED. THE GIVEN ROWS OF THIS SEAT. 2 by the template 'for every input the law returns true; each argument reads behind the call as it read before'; 0 by the template 'total and deterministic' (their statements: YtfooakkfoemdkaaTotals.lean).
  GIVEN WITH THE SEED: the statements are not yours to turn. If you find one false, say at which input.
  Laid BY PROGRAM, IN A SANDBOX (cutbox-rows.mjs): the forced cells as the released guide's own fill.sh prints them over the translation 67703a71a54aab6f… (all of the seat's roots in one cut). By AI agents, Wed Nov 11 2026. No macro, syntax, notation, axiom, sorry.
-/
import Derived.Test.YtfooakkfoemdkaaChecked
import GoSem.Claim
import GoSem.ClaimJoined
import GoSem.ClaimMapViews
import Derived.JoinedTies
import Derived.KernelRfl
namespace Go.Proofs.Ytfooakkfoemdkaa
/- THE CELL 'sum', in the pinned program and in every row, IS THE sha256 OF THE DUMP (.gsa) THAT YtfooakkfoemdkaaProg.lean LOADS. Nothing in Lean hashes anything: it is a label: what it is worth is what the hold of that sum in a sandbox is worth. -/
noncomputable def Try.pinned : Pinned := { name := "ytfooakkfoemdkaa", sum := "67703a71a54aab6f95f4c9e7108d4a01552d90e9626e155ffb203b2fc6df6c4e", checked := Try.checked }
namespace Rows
def none {H : Type} : Left H := { results := [], args := [] }

/-- 'missivelaw28.LineageNames': WHATEVER THE INPUT: true; the input reads as it did. -/
def lineageNamesSpec : ChangeSpec := { name := "lineageNames", fn := fun _ => fun
  | [d1, d2] => { results := [.lit (.bool true)], args := [d1, d2] }
  | _ => none }
def lineageNamesRow : OpenClaim := { program := "ytfooakkfoemdkaa", sum := "67703a71a54aab6f95f4c9e7108d4a01552d90e9626e155ffb203b2fc6df6c4e", func := "missive/missivelaw28.LineageNames", spec := "lineageNames", recurses := true, apart := false }
def LineageNamesSaid : Prop := lineageNamesRow.holds Try.pinned (OpenSpec.ofChange lineageNamesSpec)

/-- ITS FALSE NEIGHBOUR: 'it returns false'. Refute it at one input. -/
def lineageNamesWrong : ChangeSpec := { name := "lineageNames", fn := fun _ => fun
  | [d1, d2] => { results := [.lit (.bool false)], args := [d1, d2] }
  | _ => none }
def LineageNamesWrongFalsely : Prop := lineageNamesRow.holds Try.pinned (OpenSpec.ofChange lineageNamesWrong)

/-- 'missivelaw28.LineageTells': WHATEVER THE INPUT: true; the input reads as it did. -/
def lineageTellsSpec : ChangeSpec := { name := "lineageTells", fn := fun _ => fun
  | [d1, d2, d3, d4, d5] => { results := [.lit (.bool true)], args := [d1, d2, d3, d4, d5] }
  | _ => none }
def lineageTellsRow : OpenClaim := { program := "ytfooakkfoemdkaa", sum := "67703a71a54aab6f95f4c9e7108d4a01552d90e9626e155ffb203b2fc6df6c4e", func := "missive/missivelaw28.LineageTells", spec := "lineageTells", recurses := true, apart := false }
def LineageTellsSaid : Prop := lineageTellsRow.holds Try.pinned (OpenSpec.ofChange lineageTellsSpec)

/-- ITS FALSE NEIGHBOUR: 'it returns false'. Refute it at one input. -/
def lineageTellsWrong : ChangeSpec := { name := "lineageTells", fn := fun _ => fun
  | [d1, d2, d3, d4, d5] => { results := [.lit (.bool false)], args := [d1, d2, d3, d4, d5] }
  | _ => none }
def LineageTellsWrongFalsely : Prop := lineageTellsRow.holds Try.pinned (OpenSpec.ofChange lineageTellsWrong)

/- THE SECOND FORM. 'bulk': how many values and letters a reading holds, each counted each time it is reached (what is shared counts as often as it is met; a slice's spare places count too). A statement '..UptoSaid' is the law's where the arguments, and the package variables that the reading takes, are together of bulk at most 1048576: NARROWER than '..Said'. Prove '..Said' where nothing that the law and all that it calls make is longer than what came in: it says more and counts as full. Else prove '..UptoSaid'. A law counts once. -/
mutual
def uptoBulk {H : Type} : DataW H → Nat
  | .lit (.string bytes) => bytes.length + 1
  | .lit _ => 1
  | .nil => 1
  | .ptr d => uptoBulk d + 1
  | .slice elems spare => uptoBulkAll elems + uptoBulkAll spare + 1
  | .agg parts => uptoBulkAll parts + 1
  | .iface _ d => uptoBulk d + 1
  | .map entries => uptoBulkEntries entries + 1
  | .held _ => 1
def uptoBulkAll {H : Type} : List (DataW H) → Nat
  | [] => 0
  | d :: r => uptoBulk d + uptoBulkAll r
def uptoBulkEntries {H : Type} : List (Lit × DataW H) → Nat
  | [] => 0
  | x :: r => uptoBulkEntry x + uptoBulkEntries r
def uptoBulkEntry {H : Type} : Lit × DataW H → Nat
  | (.string bytes, d) => bytes.length + uptoBulk d + 1
  | (_, d) => uptoBulk d + 1
 end
def uptoSmall : (H : Type) → List (DataW H) → Bool := fun _ ds => decide (uptoBulkAll ds ≤ 1048576)
def OpenSpec.upto (s : _root_.Go.ChangeSpec) : _root_.Go.OpenSpec := { _root_.Go.OpenSpec.ofChange s with cond := some uptoSmall }

/-- 'missivelaw28.LineageNames', WHERE WHAT IT READS IS OF BULK AT MOST 1048576: true; the input reads as it did. -/
def lineageNamesUptoRow : OpenClaim := { program := "ytfooakkfoemdkaa", sum := "67703a71a54aab6f95f4c9e7108d4a01552d90e9626e155ffb203b2fc6df6c4e", func := "missive/missivelaw28.LineageNames", spec := "lineageNames", recurses := true, apart := false, narrowed := true }
def LineageNamesUptoSaid : Prop := lineageNamesUptoRow.holds Try.pinned (OpenSpec.upto lineageNamesSpec)

/-- 'missivelaw28.LineageTells', WHERE WHAT IT READS IS OF BULK AT MOST 1048576: true; the input reads as it did. -/
def lineageTellsUptoRow : OpenClaim := { program := "ytfooakkfoemdkaa", sum := "67703a71a54aab6f95f4c9e7108d4a01552d90e9626e155ffb203b2fc6df6c4e", func := "missive/missivelaw28.LineageTells", spec := "lineageTells", recurses := true, apart := false, narrowed := true }
def LineageTellsUptoSaid : Prop := lineageTellsUptoRow.holds Try.pinned (OpenSpec.upto lineageTellsSpec)

end Rows
end Go.Proofs.Ytfooakkfoemdkaa
