/-
  No cell of these rows narrows 'for every input' (looked for: loops, veiled, ifaces, maps, wideKeys, modest, calm, conditions, laid).
  DERIVED. THE GIVEN ROWS OF THIS SEAT. 7 by the template 'for every input the law returns true; each argument reads behind the call as it read before'; 0 by the template 'total and deterministic' (their statements: YtdoniohnkmnhbaaTotals.lean).
  GIVEN WITH THE SEED: the statements are not yours to turn. If you find one false, say at which input.
  Laid BY PROGRAM, IN A SANDBOX (cutbox-rows.mjs): the forced cells as the released guide's own fill.sh prints them over the translation 2a7501be622ecc9e… (all of the seat's roots in one cut). By AI agents, Wed Nov 11 2026. No macro, syntax, notation, axiom, sorry.
-/
import Derived.Test.YtdoniohnkmnhbaaChecked
import GoSem.Claim
import GoSem.ClaimJoined
import GoSem.ClaimMapViews
import Derived.JoinedTies
import Derived.KernelRfl
namespace Go.Proofs.Ytdoniohnkmnhbaa
/- THE CELL 'sum', in the pinned program and in every row, IS THE sha256 OF THE DUMP (.gsa) THAT YtdoniohnkmnhbaaProg.lean LOADS. Nothing in Lean hashes anything: it is a label: what it is worth is what the hold of that sum in a sandbox is worth. -/
noncomputable def Try.pinned : Pinned := { name := "ytdoniohnkmnhbaa", sum := "2a7501be622ecc9e1805df26ba849979618e717a07458d4083722f0448699107", checked := Try.checked }
namespace Rows
def none {H : Type} : Left H := { results := [], args := [] }

/-- 'parquetlaw05.MatKnown': WHATEVER THE INPUT: true; the input reads as it did. -/
def matKnownSpec : ChangeSpec := { name := "matKnown", fn := fun _ => fun
  | [] => { results := [.lit (.bool true)], args := [] }
  | _ => none }
def matKnownRow : OpenClaim := { program := "ytdoniohnkmnhbaa", sum := "2a7501be622ecc9e1805df26ba849979618e717a07458d4083722f0448699107", func := "parquet/parquetlaw05.MatKnown", spec := "matKnown", unfollowed := true, recurses := true, apart := false }
def MatKnownSaid : Prop := matKnownRow.holds Try.pinned (OpenSpec.ofChange matKnownSpec)

/-- ITS FALSE NEIGHBOUR: 'it returns false'. Refute it at one input. -/
def matKnownWrong : ChangeSpec := { name := "matKnown", fn := fun _ => fun
  | [] => { results := [.lit (.bool false)], args := [] }
  | _ => none }
def MatKnownWrongFalsely : Prop := matKnownRow.holds Try.pinned (OpenSpec.ofChange matKnownWrong)

/-- 'parquetlaw05.MatMakes': WHATEVER THE INPUT: true; the input reads as it did. -/
def matMakesSpec : ChangeSpec := { name := "matMakes", fn := fun _ => fun
  | [d1, d2] => { results := [.lit (.bool true)], args := [d1, d2] }
  | _ => none }
def matMakesRow : OpenClaim := { program := "ytdoniohnkmnhbaa", sum := "2a7501be622ecc9e1805df26ba849979618e717a07458d4083722f0448699107", func := "parquet/parquetlaw05.MatMakes", spec := "matMakes", unfollowed := true, recurses := true, apart := false }
def MatMakesSaid : Prop := matMakesRow.holds Try.pinned (OpenSpec.ofChange matMakesSpec)

/-- ITS FALSE NEIGHBOUR: 'it returns false'. Refute it at one input. -/
def matMakesWrong : ChangeSpec := { name := "matMakes", fn := fun _ => fun
  | [d1, d2] => { results := [.lit (.bool false)], args := [d1, d2] }
  | _ => none }
def MatMakesWrongFalsely : Prop := matMakesRow.holds Try.pinned (OpenSpec.ofChange matMakesWrong)

/-- 'parquetlaw05.MatRing': WHATEVER THE INPUT: true; the input reads as it did. -/
def matRingSpec : ChangeSpec := { name := "matRing", fn := fun _ => fun
  | [d1, d2, d3] => { results := [.lit (.bool true)], args := [d1, d2, d3] }
  | _ => none }
def matRingRow : OpenClaim := { program := "ytdoniohnkmnhbaa", sum := "2a7501be622ecc9e1805df26ba849979618e717a07458d4083722f0448699107", func := "parquet/parquetlaw05.MatRing", spec := "matRing", unfollowed := true, recurses := true, apart := false }
def MatRingSaid : Prop := matRingRow.holds Try.pinned (OpenSpec.ofChange matRingSpec)

/-- ITS FALSE NEIGHBOUR: 'it returns false'. Refute it at one input. -/
def matRingWrong : ChangeSpec := { name := "matRing", fn := fun _ => fun
  | [d1, d2, d3] => { results := [.lit (.bool false)], args := [d1, d2, d3] }
  | _ => none }
def MatRingWrongFalsely : Prop := matRingRow.holds Try.pinned (OpenSpec.ofChange matRingWrong)

/-- 'parquetlaw05.MatProduct': WHATEVER THE INPUT: true; the input reads as it did. -/
def matProductSpec : ChangeSpec := { name := "matProduct", fn := fun _ => fun
  | [d1, d2] => { results := [.lit (.bool true)], args := [d1, d2] }
  | _ => none }
def matProductRow : OpenClaim := { program := "ytdoniohnkmnhbaa", sum := "2a7501be622ecc9e1805df26ba849979618e717a07458d4083722f0448699107", func := "parquet/parquetlaw05.MatProduct", spec := "matProduct", unfollowed := true, recurses := true, apart := false }
def MatProductSaid : Prop := matProductRow.holds Try.pinned (OpenSpec.ofChange matProductSpec)

/-- ITS FALSE NEIGHBOUR: 'it returns false'. Refute it at one input. -/
def matProductWrong : ChangeSpec := { name := "matProduct", fn := fun _ => fun
  | [d1, d2] => { results := [.lit (.bool false)], args := [d1, d2] }
  | _ => none }
def MatProductWrongFalsely : Prop := matProductRow.holds Try.pinned (OpenSpec.ofChange matProductWrong)

/-- 'parquetlaw05.MatSwaps': WHATEVER THE INPUT: true; the input reads as it did. -/
def matSwapsSpec : ChangeSpec := { name := "matSwaps", fn := fun _ => fun
  | [d1, d2, d3] => { results := [.lit (.bool true)], args := [d1, d2, d3] }
  | _ => none }
def matSwapsRow : OpenClaim := { program := "ytdoniohnkmnhbaa", sum := "2a7501be622ecc9e1805df26ba849979618e717a07458d4083722f0448699107", func := "parquet/parquetlaw05.MatSwaps", spec := "matSwaps", unfollowed := true, recurses := true, apart := false }
def MatSwapsSaid : Prop := matSwapsRow.holds Try.pinned (OpenSpec.ofChange matSwapsSpec)

/-- ITS FALSE NEIGHBOUR: 'it returns false'. Refute it at one input. -/
def matSwapsWrong : ChangeSpec := { name := "matSwaps", fn := fun _ => fun
  | [d1, d2, d3] => { results := [.lit (.bool false)], args := [d1, d2, d3] }
  | _ => none }
def MatSwapsWrongFalsely : Prop := matSwapsRow.holds Try.pinned (OpenSpec.ofChange matSwapsWrong)

/-- 'parquetlaw05.MatReckons': WHATEVER THE INPUT: true; the input reads as it did. -/
def matReckonsSpec : ChangeSpec := { name := "matReckons", fn := fun _ => fun
  | [d1, d2] => { results := [.lit (.bool true)], args := [d1, d2] }
  | _ => none }
def matReckonsRow : OpenClaim := { program := "ytdoniohnkmnhbaa", sum := "2a7501be622ecc9e1805df26ba849979618e717a07458d4083722f0448699107", func := "parquet/parquetlaw05.MatReckons", spec := "matReckons", unfollowed := true, recurses := true, apart := false }
def MatReckonsSaid : Prop := matReckonsRow.holds Try.pinned (OpenSpec.ofChange matReckonsSpec)

/-- ITS FALSE NEIGHBOUR: 'it returns false'. Refute it at one input. -/
def matReckonsWrong : ChangeSpec := { name := "matReckons", fn := fun _ => fun
  | [d1, d2] => { results := [.lit (.bool false)], args := [d1, d2] }
  | _ => none }
def MatReckonsWrongFalsely : Prop := matReckonsRow.holds Try.pinned (OpenSpec.ofChange matReckonsWrong)

/-- 'parquetlaw05.MatReads': WHATEVER THE INPUT: true; the input reads as it did. -/
def matReadsSpec : ChangeSpec := { name := "matReads", fn := fun _ => fun
  | [d1, d2, d3] => { results := [.lit (.bool true)], args := [d1, d2, d3] }
  | _ => none }
def matReadsRow : OpenClaim := { program := "ytdoniohnkmnhbaa", sum := "2a7501be622ecc9e1805df26ba849979618e717a07458d4083722f0448699107", func := "parquet/parquetlaw05.MatReads", spec := "matReads", unfollowed := true, recurses := true, apart := false }
def MatReadsSaid : Prop := matReadsRow.holds Try.pinned (OpenSpec.ofChange matReadsSpec)

/-- ITS FALSE NEIGHBOUR: 'it returns false'. Refute it at one input. -/
def matReadsWrong : ChangeSpec := { name := "matReads", fn := fun _ => fun
  | [d1, d2, d3] => { results := [.lit (.bool false)], args := [d1, d2, d3] }
  | _ => none }
def MatReadsWrongFalsely : Prop := matReadsRow.holds Try.pinned (OpenSpec.ofChange matReadsWrong)

/- THE SECOND FORM. 'bulk': how many values and letters a reading holds, each counted each time it is reached (what is shared counts as often as it is met; a slice's spare places count too). A statement '..UptoSaid' is the law's where the arguments, and the package variables that the reading takes, are together of bulk at most 1048576: NARROWER than '..Said'. Prove '..Said' where nothing that the law and all that it calls make is longer than what came in: it says more and counts as full. Else prove '..UptoSaid'. A law counts once. -/
mutual
def uptoBulk {H : Type} : DataW H → Nat
  | .lit (.string bytes) => bytes.length + 1
  | .lit _ => 1
  | .nil => 1
  | .ptr d => uptoBulk d + 1
  | .slice elems spare => uptoBulkAll elems + uptoBulkAll spare + 1
  | .agg parts => uptoBulkAll parts + 1
  | .iface _ d => uptoBulk d + 1
  | .map entries => uptoBulkEntries entries + 1
  | .held _ => 1
def uptoBulkAll {H : Type} : List (DataW H) → Nat
  | [] => 0
  | d :: r => uptoBulk d + uptoBulkAll r
def uptoBulkEntries {H : Type} : List (Lit × DataW H) → Nat
  | [] => 0
  | x :: r => uptoBulkEntry x + uptoBulkEntries r
def uptoBulkEntry {H : Type} : Lit × DataW H → Nat
  | (.string bytes, d) => bytes.length + uptoBulk d + 1
  | (_, d) => uptoBulk d + 1
 end
def uptoSmall : (H : Type) → List (DataW H) → Bool := fun _ ds => decide (uptoBulkAll ds ≤ 1048576)
def OpenSpec.upto (s : _root_.Go.ChangeSpec) : _root_.Go.OpenSpec := { _root_.Go.OpenSpec.ofChange s with cond := some uptoSmall }

/-- 'parquetlaw05.MatKnown', WHERE WHAT IT READS IS OF BULK AT MOST 1048576: true; the input reads as it did. -/
def matKnownUptoRow : OpenClaim := { program := "ytdoniohnkmnhbaa", sum := "2a7501be622ecc9e1805df26ba849979618e717a07458d4083722f0448699107", func := "parquet/parquetlaw05.MatKnown", spec := "matKnown", unfollowed := true, recurses := true, apart := false, narrowed := true }
def MatKnownUptoSaid : Prop := matKnownUptoRow.holds Try.pinned (OpenSpec.upto matKnownSpec)

/-- 'parquetlaw05.MatMakes', WHERE WHAT IT READS IS OF BULK AT MOST 1048576: true; the input reads as it did. -/
def matMakesUptoRow : OpenClaim := { program := "ytdoniohnkmnhbaa", sum := "2a7501be622ecc9e1805df26ba849979618e717a07458d4083722f0448699107", func := "parquet/parquetlaw05.MatMakes", spec := "matMakes", unfollowed := true, recurses := true, apart := false, narrowed := true }
def MatMakesUptoSaid : Prop := matMakesUptoRow.holds Try.pinned (OpenSpec.upto matMakesSpec)

/-- 'parquetlaw05.MatRing', WHERE WHAT IT READS IS OF BULK AT MOST 1048576: true; the input reads as it did. -/
def matRingUptoRow : OpenClaim := { program := "ytdoniohnkmnhbaa", sum := "2a7501be622ecc9e1805df26ba849979618e717a07458d4083722f0448699107", func := "parquet/parquetlaw05.MatRing", spec := "matRing", unfollowed := true, recurses := true, apart := false, narrowed := true }
def MatRingUptoSaid : Prop := matRingUptoRow.holds Try.pinned (OpenSpec.upto matRingSpec)

/-- 'parquetlaw05.MatProduct', WHERE WHAT IT READS IS OF BULK AT MOST 1048576: true; the input reads as it did. -/
def matProductUptoRow : OpenClaim := { program := "ytdoniohnkmnhbaa", sum := "2a7501be622ecc9e1805df26ba849979618e717a07458d4083722f0448699107", func := "parquet/parquetlaw05.MatProduct", spec := "matProduct", unfollowed := true, recurses := true, apart := false, narrowed := true }
def MatProductUptoSaid : Prop := matProductUptoRow.holds Try.pinned (OpenSpec.upto matProductSpec)

/-- 'parquetlaw05.MatSwaps', WHERE WHAT IT READS IS OF BULK AT MOST 1048576: true; the input reads as it did. -/
def matSwapsUptoRow : OpenClaim := { program := "ytdoniohnkmnhbaa", sum := "2a7501be622ecc9e1805df26ba849979618e717a07458d4083722f0448699107", func := "parquet/parquetlaw05.MatSwaps", spec := "matSwaps", unfollowed := true, recurses := true, apart := false, narrowed := true }
def MatSwapsUptoSaid : Prop := matSwapsUptoRow.holds Try.pinned (OpenSpec.upto matSwapsSpec)

/-- 'parquetlaw05.MatReckons', WHERE WHAT IT READS IS OF BULK AT MOST 1048576: true; the input reads as it did. -/
def matReckonsUptoRow : OpenClaim := { program := "ytdoniohnkmnhbaa", sum := "2a7501be622ecc9e1805df26ba849979618e717a07458d4083722f0448699107", func := "parquet/parquetlaw05.MatReckons", spec := "matReckons", unfollowed := true, recurses := true, apart := false, narrowed := true }
def MatReckonsUptoSaid : Prop := matReckonsUptoRow.holds Try.pinned (OpenSpec.upto matReckonsSpec)

/-- 'parquetlaw05.MatReads', WHERE WHAT IT READS IS OF BULK AT MOST 1048576: true; the input reads as it did. -/
def matReadsUptoRow : OpenClaim := { program := "ytdoniohnkmnhbaa", sum := "2a7501be622ecc9e1805df26ba849979618e717a07458d4083722f0448699107", func := "parquet/parquetlaw05.MatReads", spec := "matReads", unfollowed := true, recurses := true, apart := false, narrowed := true }
def MatReadsUptoSaid : Prop := matReadsUptoRow.holds Try.pinned (OpenSpec.upto matReadsSpec)

end Rows
end Go.Proofs.Ytdoniohnkmnhbaa
