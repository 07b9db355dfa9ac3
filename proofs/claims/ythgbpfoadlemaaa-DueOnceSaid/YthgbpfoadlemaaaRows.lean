/-
  No cell of these rows narrows 'for every input' (looked for: loops, veiled, ifaces, maps, wideKeys, modest, calm, conditions, laid).
  DERIVED. THE GIVEN ROWS OF THIS SEAT. 4 by the template 'for every input the law returns true; each argument reads behind the call as it read before'; 0 by the template 'total and deterministic' (their statements: YthgbpfoadlemaaaTotals.lean).
  GIVEN WITH THE SEED: the statements are not yours to turn. If you find one false, say at which input.
  Laid BY PROGRAM, IN A SANDBOX (cutbox-rows.mjs): the forced cells as the released guide's own fill.sh prints them over the translation 175b451bd9d8e364… (all of the seat's roots in one cut). By AI agents, Wed Nov 11 2026. No macro, syntax, notation, axiom, sorry.
-/
import Derived.Test.YthgbpfoadlemaaaChecked
import GoSem.Claim
import GoSem.ClaimJoined
import GoSem.ClaimMapViews
import Derived.JoinedTies
import Derived.KernelRfl
namespace Go.Proofs.Ythgbpfoadlemaaa
/- THE CELL 'sum', in the pinned program and in every row, IS THE sha256 OF THE DUMP (.gsa) THAT YthgbpfoadlemaaaProg.lean LOADS. Nothing in Lean hashes anything: it is a label: what it is worth is what the hold of that sum in a sandbox is worth. -/
noncomputable def Try.pinned : Pinned := { name := "ythgbpfoadlemaaa", sum := "175b451bd9d8e364b73f9b80dab106d0c0344ce4486f6fbd6d17430ecfce2b1b", checked := Try.checked }
namespace Rows
def none {H : Type} : Left H := { results := [], args := [] }

/-- 'missivelaw37.DueOnce': WHATEVER THE INPUT: true; the input reads as it did. -/
def dueOnceSpec : ChangeSpec := { name := "dueOnce", fn := fun _ => fun
  | [d] => { results := [.lit (.bool true)], args := [d] }
  | _ => none }
def dueOnceRow : OpenClaim := { program := "ythgbpfoadlemaaa", sum := "175b451bd9d8e364b73f9b80dab106d0c0344ce4486f6fbd6d17430ecfce2b1b", func := "missive/missivelaw37.DueOnce", spec := "dueOnce", recurses := true, apart := false }
def DueOnceSaid : Prop := dueOnceRow.holds Try.pinned (OpenSpec.ofChange dueOnceSpec)

/-- ITS FALSE NEIGHBOUR: 'it returns false'. Refute it at one input. -/
def dueOnceWrong : ChangeSpec := { name := "dueOnce", fn := fun _ => fun
  | [d] => { results := [.lit (.bool false)], args := [d] }
  | _ => none }
def DueOnceWrongFalsely : Prop := dueOnceRow.holds Try.pinned (OpenSpec.ofChange dueOnceWrong)

/-- 'missivelaw37.DueBuckets': WHATEVER THE INPUT: true; the input reads as it did. -/
def dueBucketsSpec : ChangeSpec := { name := "dueBuckets", fn := fun _ => fun
  | [d1, d2, d3] => { results := [.lit (.bool true)], args := [d1, d2, d3] }
  | _ => none }
def dueBucketsRow : OpenClaim := { program := "ythgbpfoadlemaaa", sum := "175b451bd9d8e364b73f9b80dab106d0c0344ce4486f6fbd6d17430ecfce2b1b", func := "missive/missivelaw37.DueBuckets", spec := "dueBuckets", recurses := true, apart := false }
def DueBucketsSaid : Prop := dueBucketsRow.holds Try.pinned (OpenSpec.ofChange dueBucketsSpec)

/-- ITS FALSE NEIGHBOUR: 'it returns false'. Refute it at one input. -/
def dueBucketsWrong : ChangeSpec := { name := "dueBuckets", fn := fun _ => fun
  | [d1, d2, d3] => { results := [.lit (.bool false)], args := [d1, d2, d3] }
  | _ => none }
def DueBucketsWrongFalsely : Prop := dueBucketsRow.holds Try.pinned (OpenSpec.ofChange dueBucketsWrong)

/-- 'missivelaw37.DuePeriods': WHATEVER THE INPUT: true; the input reads as it did. -/
def duePeriodsSpec : ChangeSpec := { name := "duePeriods", fn := fun _ => fun
  | [d1, d2, d3, d4] => { results := [.lit (.bool true)], args := [d1, d2, d3, d4] }
  | _ => none }
def duePeriodsRow : OpenClaim := { program := "ythgbpfoadlemaaa", sum := "175b451bd9d8e364b73f9b80dab106d0c0344ce4486f6fbd6d17430ecfce2b1b", func := "missive/missivelaw37.DuePeriods", spec := "duePeriods", recurses := true, apart := false }
def DuePeriodsSaid : Prop := duePeriodsRow.holds Try.pinned (OpenSpec.ofChange duePeriodsSpec)

/-- ITS FALSE NEIGHBOUR: 'it returns false'. Refute it at one input. -/
def duePeriodsWrong : ChangeSpec := { name := "duePeriods", fn := fun _ => fun
  | [d1, d2, d3, d4] => { results := [.lit (.bool false)], args := [d1, d2, d3, d4] }
  | _ => none }
def DuePeriodsWrongFalsely : Prop := duePeriodsRow.holds Try.pinned (OpenSpec.ofChange duePeriodsWrong)

/-- 'missivelaw37.DueMerges': WHATEVER THE INPUT: true; the input reads as it did. -/
def dueMergesSpec : ChangeSpec := { name := "dueMerges", fn := fun _ => fun
  | [d1, d2, d3, d4] => { results := [.lit (.bool true)], args := [d1, d2, d3, d4] }
  | _ => none }
def dueMergesRow : OpenClaim := { program := "ythgbpfoadlemaaa", sum := "175b451bd9d8e364b73f9b80dab106d0c0344ce4486f6fbd6d17430ecfce2b1b", func := "missive/missivelaw37.DueMerges", spec := "dueMerges", recurses := true, apart := false }
def DueMergesSaid : Prop := dueMergesRow.holds Try.pinned (OpenSpec.ofChange dueMergesSpec)

/-- ITS FALSE NEIGHBOUR: 'it returns false'. Refute it at one input. -/
def dueMergesWrong : ChangeSpec := { name := "dueMerges", fn := fun _ => fun
  | [d1, d2, d3, d4] => { results := [.lit (.bool false)], args := [d1, d2, d3, d4] }
  | _ => none }
def DueMergesWrongFalsely : Prop := dueMergesRow.holds Try.pinned (OpenSpec.ofChange dueMergesWrong)

/- THE SECOND FORM. 'bulk': how many values and letters a reading holds, each counted each time it is reached (what is shared counts as often as it is met; a slice's spare places count too). A statement '..UptoSaid' is the law's where the arguments, and the package variables that the reading takes, are together of bulk at most 1048576: NARROWER than '..Said'. Prove '..Said' where nothing that the law and all that it calls make is longer than what came in: it says more and counts as full. Else prove '..UptoSaid'. A law counts once. -/
mutual
def uptoBulk {H : Type} : DataW H → Nat
  | .lit (.string bytes) => bytes.length + 1
  | .lit _ => 1
  | .nil => 1
  | .ptr d => uptoBulk d + 1
  | .slice elems spare => uptoBulkAll elems + uptoBulkAll spare + 1
  | .agg parts => uptoBulkAll parts + 1
  | .iface _ d => uptoBulk d + 1
  | .map entries => uptoBulkEntries entries + 1
  | .held _ => 1
def uptoBulkAll {H : Type} : List (DataW H) → Nat
  | [] => 0
  | d :: r => uptoBulk d + uptoBulkAll r
def uptoBulkEntries {H : Type} : List (Lit × DataW H) → Nat
  | [] => 0
  | x :: r => uptoBulkEntry x + uptoBulkEntries r
def uptoBulkEntry {H : Type} : Lit × DataW H → Nat
  | (.string bytes, d) => bytes.length + uptoBulk d + 1
  | (_, d) => uptoBulk d + 1
 end
def uptoSmall : (H : Type) → List (DataW H) → Bool := fun _ ds => decide (uptoBulkAll ds ≤ 1048576)
def OpenSpec.upto (s : _root_.Go.ChangeSpec) : _root_.Go.OpenSpec := { _root_.Go.OpenSpec.ofChange s with cond := some uptoSmall }

/-- 'missivelaw37.DueOnce', WHERE WHAT IT READS IS OF BULK AT MOST 1048576: true; the input reads as it did. -/
def dueOnceUptoRow : OpenClaim := { program := "ythgbpfoadlemaaa", sum := "175b451bd9d8e364b73f9b80dab106d0c0344ce4486f6fbd6d17430ecfce2b1b", func := "missive/missivelaw37.DueOnce", spec := "dueOnce", recurses := true, apart := false, narrowed := true }
def DueOnceUptoSaid : Prop := dueOnceUptoRow.holds Try.pinned (OpenSpec.upto dueOnceSpec)

/-- 'missivelaw37.DueBuckets', WHERE WHAT IT READS IS OF BULK AT MOST 1048576: true; the input reads as it did. -/
def dueBucketsUptoRow : OpenClaim := { program := "ythgbpfoadlemaaa", sum := "175b451bd9d8e364b73f9b80dab106d0c0344ce4486f6fbd6d17430ecfce2b1b", func := "missive/missivelaw37.DueBuckets", spec := "dueBuckets", recurses := true, apart := false, narrowed := true }
def DueBucketsUptoSaid : Prop := dueBucketsUptoRow.holds Try.pinned (OpenSpec.upto dueBucketsSpec)

/-- 'missivelaw37.DuePeriods', WHERE WHAT IT READS IS OF BULK AT MOST 1048576: true; the input reads as it did. -/
def duePeriodsUptoRow : OpenClaim := { program := "ythgbpfoadlemaaa", sum := "175b451bd9d8e364b73f9b80dab106d0c0344ce4486f6fbd6d17430ecfce2b1b", func := "missive/missivelaw37.DuePeriods", spec := "duePeriods", recurses := true, apart := false, narrowed := true }
def DuePeriodsUptoSaid : Prop := duePeriodsUptoRow.holds Try.pinned (OpenSpec.upto duePeriodsSpec)

/-- 'missivelaw37.DueMerges', WHERE WHAT IT READS IS OF BULK AT MOST 1048576: true; the input reads as it did. -/
def dueMergesUptoRow : OpenClaim := { program := "ythgbpfoadlemaaa", sum := "175b451bd9d8e364b73f9b80dab106d0c0344ce4486f6fbd6d17430ecfce2b1b", func := "missive/missivelaw37.DueMerges", spec := "dueMerges", recurses := true, apart := false, narrowed := true }
def DueMergesUptoSaid : Prop := dueMergesUptoRow.holds Try.pinned (OpenSpec.upto dueMergesSpec)

end Rows
end Go.Proofs.Ythgbpfoadlemaaa
