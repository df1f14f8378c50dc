/-
  No cell of these rows narrows 'for every input' (looked for: loops, veiled, ifaces, maps, wideKeys, modest, calm, conditions, laid).
  DERIVED. THE GIVEN ROWS OF THIS SEAT. 6 by the template 'for every input the law returns true; each argument reads behind the call as it read before'; 0 by the template 'total and deterministic' (their statements: YtkgbokkeemjkkaaTotals.lean).
  GIVEN WITH THE SEED: the statements are not yours to turn. If you find one false, say at which input.
  Laid BY PROGRAM, IN A SANDBOX (cutbox-rows.mjs): the forced cells as the released guide's own fill.sh prints them over the translation 119b44d26041e100… (all of the seat's roots in one cut). By AI agents, Wed Nov 11 2026. No macro, syntax, notation, axiom, sorry.
-/
import Derived.Test.YtkgbokkeemjkkaaChecked
import GoSem.Claim
import GoSem.ClaimJoined
import GoSem.ClaimMapViews
import Derived.JoinedTies
import Derived.KernelRfl
namespace Go.Proofs.Ytkgbokkeemjkkaa
/- THE CELL 'sum', in the pinned program and in every row, IS THE sha256 OF THE DUMP (.gsa) THAT YtkgbokkeemjkkaaProg.lean LOADS. Nothing in Lean hashes anything: it is a label: what it is worth is what the hold of that sum in a sandbox is worth. -/
noncomputable def Try.pinned : Pinned := { name := "ytkgbokkeemjkkaa", sum := "119b44d26041e100b46c73ce148a51a1a73cbd8fcefbba3ecb2e3331e6817036", checked := Try.checked }
namespace Rows
def none {H : Type} : Left H := { results := [], args := [] }

/-- 'parquetlaw07.GramCorners': WHATEVER THE INPUT: true; the input reads as it did. -/
def gramCornersSpec : ChangeSpec := { name := "gramCorners", fn := fun _ => fun
  | [d] => { results := [.lit (.bool true)], args := [d] }
  | _ => none }
def gramCornersRow : OpenClaim := { program := "ytkgbokkeemjkkaa", sum := "119b44d26041e100b46c73ce148a51a1a73cbd8fcefbba3ecb2e3331e6817036", func := "parquet/parquetlaw07.GramCorners", spec := "gramCorners", unfollowed := true, recurses := true, apart := false }
def GramCornersSaid : Prop := gramCornersRow.holds Try.pinned (OpenSpec.ofChange gramCornersSpec)

/-- ITS FALSE NEIGHBOUR: 'it returns false'. Refute it at one input. -/
def gramCornersWrong : ChangeSpec := { name := "gramCorners", fn := fun _ => fun
  | [d] => { results := [.lit (.bool false)], args := [d] }
  | _ => none }
def GramCornersWrongFalsely : Prop := gramCornersRow.holds Try.pinned (OpenSpec.ofChange gramCornersWrong)

/-- 'parquetlaw07.GramNorms': WHATEVER THE INPUT: true; the input reads as it did. -/
def gramNormsSpec : ChangeSpec := { name := "gramNorms", fn := fun _ => fun
  | [d1, d2, d3] => { results := [.lit (.bool true)], args := [d1, d2, d3] }
  | _ => none }
def gramNormsRow : OpenClaim := { program := "ytkgbokkeemjkkaa", sum := "119b44d26041e100b46c73ce148a51a1a73cbd8fcefbba3ecb2e3331e6817036", func := "parquet/parquetlaw07.GramNorms", spec := "gramNorms", unfollowed := true, recurses := true, apart := false }
def GramNormsSaid : Prop := gramNormsRow.holds Try.pinned (OpenSpec.ofChange gramNormsSpec)

/-- ITS FALSE NEIGHBOUR: 'it returns false'. Refute it at one input. -/
def gramNormsWrong : ChangeSpec := { name := "gramNorms", fn := fun _ => fun
  | [d1, d2, d3] => { results := [.lit (.bool false)], args := [d1, d2, d3] }
  | _ => none }
def GramNormsWrongFalsely : Prop := gramNormsRow.holds Try.pinned (OpenSpec.ofChange gramNormsWrong)

/-- 'parquetlaw07.GramTwice': WHATEVER THE INPUT: true; the input reads as it did. -/
def gramTwiceSpec : ChangeSpec := { name := "gramTwice", fn := fun _ => fun
  | [d1, d2, d3, d4] => { results := [.lit (.bool true)], args := [d1, d2, d3, d4] }
  | _ => none }
def gramTwiceRow : OpenClaim := { program := "ytkgbokkeemjkkaa", sum := "119b44d26041e100b46c73ce148a51a1a73cbd8fcefbba3ecb2e3331e6817036", func := "parquet/parquetlaw07.GramTwice", spec := "gramTwice", unfollowed := true, recurses := true, apart := false }
def GramTwiceSaid : Prop := gramTwiceRow.holds Try.pinned (OpenSpec.ofChange gramTwiceSpec)

/-- ITS FALSE NEIGHBOUR: 'it returns false'. Refute it at one input. -/
def gramTwiceWrong : ChangeSpec := { name := "gramTwice", fn := fun _ => fun
  | [d1, d2, d3, d4] => { results := [.lit (.bool false)], args := [d1, d2, d3, d4] }
  | _ => none }
def GramTwiceWrongFalsely : Prop := gramTwiceRow.holds Try.pinned (OpenSpec.ofChange gramTwiceWrong)

/-- 'parquetlaw07.GramProducts': WHATEVER THE INPUT: true; the input reads as it did. -/
def gramProductsSpec : ChangeSpec := { name := "gramProducts", fn := fun _ => fun
  | [d1, d2, d3] => { results := [.lit (.bool true)], args := [d1, d2, d3] }
  | _ => none }
def gramProductsRow : OpenClaim := { program := "ytkgbokkeemjkkaa", sum := "119b44d26041e100b46c73ce148a51a1a73cbd8fcefbba3ecb2e3331e6817036", func := "parquet/parquetlaw07.GramProducts", spec := "gramProducts", unfollowed := true, recurses := true, apart := false }
def GramProductsSaid : Prop := gramProductsRow.holds Try.pinned (OpenSpec.ofChange gramProductsSpec)

/-- ITS FALSE NEIGHBOUR: 'it returns false'. Refute it at one input. -/
def gramProductsWrong : ChangeSpec := { name := "gramProducts", fn := fun _ => fun
  | [d1, d2, d3] => { results := [.lit (.bool false)], args := [d1, d2, d3] }
  | _ => none }
def GramProductsWrongFalsely : Prop := gramProductsRow.holds Try.pinned (OpenSpec.ofChange gramProductsWrong)

/-- 'parquetlaw07.GramChecks': WHATEVER THE INPUT: true; the input reads as it did. -/
def gramChecksSpec : ChangeSpec := { name := "gramChecks", fn := fun _ => fun
  | [d] => { results := [.lit (.bool true)], args := [d] }
  | _ => none }
def gramChecksRow : OpenClaim := { program := "ytkgbokkeemjkkaa", sum := "119b44d26041e100b46c73ce148a51a1a73cbd8fcefbba3ecb2e3331e6817036", func := "parquet/parquetlaw07.GramChecks", spec := "gramChecks", unfollowed := true, recurses := true, apart := false }
def GramChecksSaid : Prop := gramChecksRow.holds Try.pinned (OpenSpec.ofChange gramChecksSpec)

/-- ITS FALSE NEIGHBOUR: 'it returns false'. Refute it at one input. -/
def gramChecksWrong : ChangeSpec := { name := "gramChecks", fn := fun _ => fun
  | [d] => { results := [.lit (.bool false)], args := [d] }
  | _ => none }
def GramChecksWrongFalsely : Prop := gramChecksRow.holds Try.pinned (OpenSpec.ofChange gramChecksWrong)

/-- 'parquetlaw07.GramSums': WHATEVER THE INPUT: true; the input reads as it did. -/
def gramSumsSpec : ChangeSpec := { name := "gramSums", fn := fun _ => fun
  | [d1, d2, d3] => { results := [.lit (.bool true)], args := [d1, d2, d3] }
  | _ => none }
def gramSumsRow : OpenClaim := { program := "ytkgbokkeemjkkaa", sum := "119b44d26041e100b46c73ce148a51a1a73cbd8fcefbba3ecb2e3331e6817036", func := "parquet/parquetlaw07.GramSums", spec := "gramSums", unfollowed := true, recurses := true, apart := false }
def GramSumsSaid : Prop := gramSumsRow.holds Try.pinned (OpenSpec.ofChange gramSumsSpec)

/-- ITS FALSE NEIGHBOUR: 'it returns false'. Refute it at one input. -/
def gramSumsWrong : ChangeSpec := { name := "gramSums", fn := fun _ => fun
  | [d1, d2, d3] => { results := [.lit (.bool false)], args := [d1, d2, d3] }
  | _ => none }
def GramSumsWrongFalsely : Prop := gramSumsRow.holds Try.pinned (OpenSpec.ofChange gramSumsWrong)

/- THE SECOND FORM. 'bulk': how many values and letters a reading holds, each counted each time it is reached (what is shared counts as often as it is met; a slice's spare places count too). A statement '..UptoSaid' is the law's where the arguments, and the package variables that the reading takes, are together of bulk at most 1048576: NARROWER than '..Said'. Prove '..Said' where nothing that the law and all that it calls make is longer than what came in: it says more and counts as full. Else prove '..UptoSaid'. A law counts once. -/
mutual
def uptoBulk {H : Type} : DataW H → Nat
  | .lit (.string bytes) => bytes.length + 1
  | .lit _ => 1
  | .nil => 1
  | .ptr d => uptoBulk d + 1
  | .slice elems spare => uptoBulkAll elems + uptoBulkAll spare + 1
  | .agg parts => uptoBulkAll parts + 1
  | .iface _ d => uptoBulk d + 1
  | .map entries => uptoBulkEntries entries + 1
  | .held _ => 1
def uptoBulkAll {H : Type} : List (DataW H) → Nat
  | [] => 0
  | d :: r => uptoBulk d + uptoBulkAll r
def uptoBulkEntries {H : Type} : List (Lit × DataW H) → Nat
  | [] => 0
  | x :: r => uptoBulkEntry x + uptoBulkEntries r
def uptoBulkEntry {H : Type} : Lit × DataW H → Nat
  | (.string bytes, d) => bytes.length + uptoBulk d + 1
  | (_, d) => uptoBulk d + 1
 end
def uptoSmall : (H : Type) → List (DataW H) → Bool := fun _ ds => decide (uptoBulkAll ds ≤ 1048576)
def OpenSpec.upto (s : _root_.Go.ChangeSpec) : _root_.Go.OpenSpec := { _root_.Go.OpenSpec.ofChange s with cond := some uptoSmall }

/-- 'parquetlaw07.GramCorners', WHERE WHAT IT READS IS OF BULK AT MOST 1048576: true; the input reads as it did. -/
def gramCornersUptoRow : OpenClaim := { program := "ytkgbokkeemjkkaa", sum := "119b44d26041e100b46c73ce148a51a1a73cbd8fcefbba3ecb2e3331e6817036", func := "parquet/parquetlaw07.GramCorners", spec := "gramCorners", unfollowed := true, recurses := true, apart := false, narrowed := true }
def GramCornersUptoSaid : Prop := gramCornersUptoRow.holds Try.pinned (OpenSpec.upto gramCornersSpec)

/-- 'parquetlaw07.GramNorms', WHERE WHAT IT READS IS OF BULK AT MOST 1048576: true; the input reads as it did. -/
def gramNormsUptoRow : OpenClaim := { program := "ytkgbokkeemjkkaa", sum := "119b44d26041e100b46c73ce148a51a1a73cbd8fcefbba3ecb2e3331e6817036", func := "parquet/parquetlaw07.GramNorms", spec := "gramNorms", unfollowed := true, recurses := true, apart := false, narrowed := true }
def GramNormsUptoSaid : Prop := gramNormsUptoRow.holds Try.pinned (OpenSpec.upto gramNormsSpec)

/-- 'parquetlaw07.GramTwice', WHERE WHAT IT READS IS OF BULK AT MOST 1048576: true; the input reads as it did. -/
def gramTwiceUptoRow : OpenClaim := { program := "ytkgbokkeemjkkaa", sum := "119b44d26041e100b46c73ce148a51a1a73cbd8fcefbba3ecb2e3331e6817036", func := "parquet/parquetlaw07.GramTwice", spec := "gramTwice", unfollowed := true, recurses := true, apart := false, narrowed := true }
def GramTwiceUptoSaid : Prop := gramTwiceUptoRow.holds Try.pinned (OpenSpec.upto gramTwiceSpec)

/-- 'parquetlaw07.GramProducts', WHERE WHAT IT READS IS OF BULK AT MOST 1048576: true; the input reads as it did. -/
def gramProductsUptoRow : OpenClaim := { program := "ytkgbokkeemjkkaa", sum := "119b44d26041e100b46c73ce148a51a1a73cbd8fcefbba3ecb2e3331e6817036", func := "parquet/parquetlaw07.GramProducts", spec := "gramProducts", unfollowed := true, recurses := true, apart := false, narrowed := true }
def GramProductsUptoSaid : Prop := gramProductsUptoRow.holds Try.pinned (OpenSpec.upto gramProductsSpec)

/-- 'parquetlaw07.GramChecks', WHERE WHAT IT READS IS OF BULK AT MOST 1048576: true; the input reads as it did. -/
def gramChecksUptoRow : OpenClaim := { program := "ytkgbokkeemjkkaa", sum := "119b44d26041e100b46c73ce148a51a1a73cbd8fcefbba3ecb2e3331e6817036", func := "parquet/parquetlaw07.GramChecks", spec := "gramChecks", unfollowed := true, recurses := true, apart := false, narrowed := true }
def GramChecksUptoSaid : Prop := gramChecksUptoRow.holds Try.pinned (OpenSpec.upto gramChecksSpec)

/-- 'parquetlaw07.GramSums', WHERE WHAT IT READS IS OF BULK AT MOST 1048576: true; the input reads as it did. -/
def gramSumsUptoRow : OpenClaim := { program := "ytkgbokkeemjkkaa", sum := "119b44d26041e100b46c73ce148a51a1a73cbd8fcefbba3ecb2e3331e6817036", func := "parquet/parquetlaw07.GramSums", spec := "gramSums", unfollowed := true, recurses := true, apart := false, narrowed := true }
def GramSumsUptoSaid : Prop := gramSumsUptoRow.holds Try.pinned (OpenSpec.upto gramSumsSpec)

end Rows
end Go.Proofs.Ytkgbokkeemjkkaa
