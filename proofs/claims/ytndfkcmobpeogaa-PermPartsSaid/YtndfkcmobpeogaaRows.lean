/-
  No cell of these rows narrows 'for every input' (looked for: loops, veiled, ifaces, maps, wideKeys, modest, calm, conditions, laid).
  DERIVED. THE GIVEN ROWS OF THIS SEAT. 2 by the template 'for every input the law returns true; each argument reads behind the call as it read before'; 0 by the template 'total and deterministic' (their statements: YtndfkcmobpeogaaTotals.lean).
  GIVEN WITH THE SEED: the statements are not yours to turn. If you find one false, say at which input.
  Laid BY PROGRAM, IN A SANDBOX (cutbox-rows.mjs): the forced cells as the released guide's own fill.sh prints them over the translation 0710799c598824a6… (all of the seat's roots in one cut). By AI agents, Wed Nov 11 2026. No macro, syntax, notation, axiom, sorry.
-/
import Derived.Test.YtndfkcmobpeogaaChecked
import GoSem.Claim
import GoSem.ClaimJoined
import GoSem.ClaimMapViews
import Derived.JoinedTies
import Derived.KernelRfl
namespace Go.Proofs.Ytndfkcmobpeogaa
/- THE CELL 'sum', in the pinned program and in every row, IS THE sha256 OF THE DUMP (.gsa) THAT YtndfkcmobpeogaaProg.lean LOADS. Nothing in Lean hashes anything: it is a label: what it is worth is what the hold of that sum in a sandbox is worth. -/
noncomputable def Try.pinned : Pinned := { name := "ytndfkcmobpeogaa", sum := "0710799c598824a6d6f612118e764b241029d0154ebc7073dd6f0455e0a4f430", checked := Try.checked }
namespace Rows
def none {H : Type} : Left H := { results := [], args := [] }

/-- 'parquetlaw18.PermOrbits': WHATEVER THE INPUT: true; the input reads as it did. -/
def permOrbitsSpec : ChangeSpec := { name := "permOrbits", fn := fun _ => fun
  | [d1, d2] => { results := [.lit (.bool true)], args := [d1, d2] }
  | _ => none }
def permOrbitsRow : OpenClaim := { program := "ytndfkcmobpeogaa", sum := "0710799c598824a6d6f612118e764b241029d0154ebc7073dd6f0455e0a4f430", func := "parquet/parquetlaw18.PermOrbits", spec := "permOrbits", unfollowed := true, recurses := true, apart := false }
def PermOrbitsSaid : Prop := permOrbitsRow.holds Try.pinned (OpenSpec.ofChange permOrbitsSpec)

/-- ITS FALSE NEIGHBOUR: 'it returns false'. Refute it at one input. -/
def permOrbitsWrong : ChangeSpec := { name := "permOrbits", fn := fun _ => fun
  | [d1, d2] => { results := [.lit (.bool false)], args := [d1, d2] }
  | _ => none }
def PermOrbitsWrongFalsely : Prop := permOrbitsRow.holds Try.pinned (OpenSpec.ofChange permOrbitsWrong)

/-- 'parquetlaw18.PermParts': WHATEVER THE INPUT: true; the input reads as it did. -/
def permPartsSpec : ChangeSpec := { name := "permParts", fn := fun _ => fun
  | [d1, d2, d3] => { results := [.lit (.bool true)], args := [d1, d2, d3] }
  | _ => none }
def permPartsRow : OpenClaim := { program := "ytndfkcmobpeogaa", sum := "0710799c598824a6d6f612118e764b241029d0154ebc7073dd6f0455e0a4f430", func := "parquet/parquetlaw18.PermParts", spec := "permParts", unfollowed := true, recurses := true, apart := false }
def PermPartsSaid : Prop := permPartsRow.holds Try.pinned (OpenSpec.ofChange permPartsSpec)

/-- ITS FALSE NEIGHBOUR: 'it returns false'. Refute it at one input. -/
def permPartsWrong : ChangeSpec := { name := "permParts", fn := fun _ => fun
  | [d1, d2, d3] => { results := [.lit (.bool false)], args := [d1, d2, d3] }
  | _ => none }
def PermPartsWrongFalsely : Prop := permPartsRow.holds Try.pinned (OpenSpec.ofChange permPartsWrong)

/- THE SECOND FORM. 'bulk': how many values and letters a reading holds, each counted each time it is reached (what is shared counts as often as it is met; a slice's spare places count too). A statement '..UptoSaid' is the law's where the arguments, and the package variables that the reading takes, are together of bulk at most 1048576: NARROWER than '..Said'. Prove '..Said' where nothing that the law and all that it calls make is longer than what came in: it says more and counts as full. Else prove '..UptoSaid'. A law counts once. -/
mutual
def uptoBulk {H : Type} : DataW H → Nat
  | .lit (.string bytes) => bytes.length + 1
  | .lit _ => 1
  | .nil => 1
  | .ptr d => uptoBulk d + 1
  | .slice elems spare => uptoBulkAll elems + uptoBulkAll spare + 1
  | .agg parts => uptoBulkAll parts + 1
  | .iface _ d => uptoBulk d + 1
  | .map entries => uptoBulkEntries entries + 1
  | .held _ => 1
def uptoBulkAll {H : Type} : List (DataW H) → Nat
  | [] => 0
  | d :: r => uptoBulk d + uptoBulkAll r
def uptoBulkEntries {H : Type} : List (Lit × DataW H) → Nat
  | [] => 0
  | x :: r => uptoBulkEntry x + uptoBulkEntries r
def uptoBulkEntry {H : Type} : Lit × DataW H → Nat
  | (.string bytes, d) => bytes.length + uptoBulk d + 1
  | (_, d) => uptoBulk d + 1
 end
def uptoSmall : (H : Type) → List (DataW H) → Bool := fun _ ds => decide (uptoBulkAll ds ≤ 1048576)
def OpenSpec.upto (s : _root_.Go.ChangeSpec) : _root_.Go.OpenSpec := { _root_.Go.OpenSpec.ofChange s with cond := some uptoSmall }

/-- 'parquetlaw18.PermOrbits', WHERE WHAT IT READS IS OF BULK AT MOST 1048576: true; the input reads as it did. -/
def permOrbitsUptoRow : OpenClaim := { program := "ytndfkcmobpeogaa", sum := "0710799c598824a6d6f612118e764b241029d0154ebc7073dd6f0455e0a4f430", func := "parquet/parquetlaw18.PermOrbits", spec := "permOrbits", unfollowed := true, recurses := true, apart := false, narrowed := true }
def PermOrbitsUptoSaid : Prop := permOrbitsUptoRow.holds Try.pinned (OpenSpec.upto permOrbitsSpec)

/-- 'parquetlaw18.PermParts', WHERE WHAT IT READS IS OF BULK AT MOST 1048576: true; the input reads as it did. -/
def permPartsUptoRow : OpenClaim := { program := "ytndfkcmobpeogaa", sum := "0710799c598824a6d6f612118e764b241029d0154ebc7073dd6f0455e0a4f430", func := "parquet/parquetlaw18.PermParts", spec := "permParts", unfollowed := true, recurses := true, apart := false, narrowed := true }
def PermPartsUptoSaid : Prop := permPartsUptoRow.holds Try.pinned (OpenSpec.upto permPartsSpec)

end Rows
end Go.Proofs.Ytndfkcmobpeogaa
