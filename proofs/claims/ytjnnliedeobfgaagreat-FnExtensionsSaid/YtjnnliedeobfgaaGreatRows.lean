/-
  No cell of these rows narrows 'for every input' (looked for: loops, veiled, ifaces, maps, wideKeys, modest, calm, conditions, laid).
  DERIVED. THE GIVEN ROWS OF THIS SEAT. 8 by the template 'for every input the law returns true; each argument reads behind the call as it read before'; 0 by the template 'total and deterministic' (their statements: YtjnnliedeobfgaaGreatTotals.lean).
  GIVEN WITH THE SEED: the statements are not yours to turn. If you find one false, say at which input.
  Laid BY PROGRAM, IN A SANDBOX (cutbox-rows.mjs): the forced cells as the released guide's own fill.sh prints them over the translation 89fad696502bb4d4… (all of the seat's roots in one cut). By AI agents, Wed Nov 11 2026. No macro, syntax, notation, axiom, sorry.
-/
import Derived.Test.YtjnnliedeobfgaaGreatChecked
import GoSem.Claim
import GoSem.ClaimJoined
import GoSem.ClaimMapViews
import Derived.JoinedTies
import Derived.KernelRfl
namespace Go.Proofs.YtjnnliedeobfgaaGreat
/- THE CELL 'sum', in the pinned program and in every row, IS THE sha256 OF THE DUMP (.gsa) THAT YtjnnliedeobfgaaGreatProg.lean LOADS. Nothing in Lean hashes anything: it is a label: what it is worth is what the hold of that sum in a sandbox is worth. -/
noncomputable def Tryz.pinned : Pinned := { name := "ytjnnliedeobfgaagreat", sum := "89fad696502bb4d459baf0d4fcda88169345c1cc95c496047f9d39afd6048c2b", checked := Tryz.checked }
namespace Rows
def none {H : Type} : Left H := { results := [], args := [] }

/-- 'laws.FnClasses': WHATEVER THE INPUT: true; the input reads as it did. -/
def fnClassesSpec : ChangeSpec := { name := "fnClasses", fn := fun _ => fun
  | [d1, d2] => { results := [.lit (.bool true)], args := [d1, d2] }
  | _ => none }
def fnClassesRow : OpenClaim := { program := "ytjnnliedeobfgaagreat", sum := "89fad696502bb4d459baf0d4fcda88169345c1cc95c496047f9d39afd6048c2b", func := "loop.example/g01005/laws.FnClasses", spec := "fnClasses", unfollowed := true, recurses := true, apart := false }
def FnClassesSaid : Prop := fnClassesRow.holds Tryz.pinned (OpenSpec.ofChange fnClassesSpec)

/-- ITS FALSE NEIGHBOUR: 'it returns false'. Refute it at one input. -/
def fnClassesWrong : ChangeSpec := { name := "fnClasses", fn := fun _ => fun
  | [d1, d2] => { results := [.lit (.bool false)], args := [d1, d2] }
  | _ => none }
def FnClassesWrongFalsely : Prop := fnClassesRow.holds Tryz.pinned (OpenSpec.ofChange fnClassesWrong)

/-- 'laws.FnRanks': WHATEVER THE INPUT: true; the input reads as it did. -/
def fnRanksSpec : ChangeSpec := { name := "fnRanks", fn := fun _ => fun
  | [d] => { results := [.lit (.bool true)], args := [d] }
  | _ => none }
def fnRanksRow : OpenClaim := { program := "ytjnnliedeobfgaagreat", sum := "89fad696502bb4d459baf0d4fcda88169345c1cc95c496047f9d39afd6048c2b", func := "loop.example/g01005/laws.FnRanks", spec := "fnRanks", unfollowed := true, recurses := true, apart := false }
def FnRanksSaid : Prop := fnRanksRow.holds Tryz.pinned (OpenSpec.ofChange fnRanksSpec)

/-- ITS FALSE NEIGHBOUR: 'it returns false'. Refute it at one input. -/
def fnRanksWrong : ChangeSpec := { name := "fnRanks", fn := fun _ => fun
  | [d] => { results := [.lit (.bool false)], args := [d] }
  | _ => none }
def FnRanksWrongFalsely : Prop := fnRanksRow.holds Tryz.pinned (OpenSpec.ofChange fnRanksWrong)

/-- 'laws.FnCohomology': WHATEVER THE INPUT: true; the input reads as it did. -/
def fnCohomologySpec : ChangeSpec := { name := "fnCohomology", fn := fun _ => fun
  | [d1, d2] => { results := [.lit (.bool true)], args := [d1, d2] }
  | _ => none }
def fnCohomologyRow : OpenClaim := { program := "ytjnnliedeobfgaagreat", sum := "89fad696502bb4d459baf0d4fcda88169345c1cc95c496047f9d39afd6048c2b", func := "loop.example/g01005/laws.FnCohomology", spec := "fnCohomology", unfollowed := true, recurses := true, apart := false }
def FnCohomologySaid : Prop := fnCohomologyRow.holds Tryz.pinned (OpenSpec.ofChange fnCohomologySpec)

/-- ITS FALSE NEIGHBOUR: 'it returns false'. Refute it at one input. -/
def fnCohomologyWrong : ChangeSpec := { name := "fnCohomology", fn := fun _ => fun
  | [d1, d2] => { results := [.lit (.bool false)], args := [d1, d2] }
  | _ => none }
def FnCohomologyWrongFalsely : Prop := fnCohomologyRow.holds Tryz.pinned (OpenSpec.ofChange fnCohomologyWrong)

/-- 'laws.FnSquares': WHATEVER THE INPUT: true; the input reads as it did. -/
def fnSquaresSpec : ChangeSpec := { name := "fnSquares", fn := fun _ => fun
  | [d1, d2] => { results := [.lit (.bool true)], args := [d1, d2] }
  | _ => none }
def fnSquaresRow : OpenClaim := { program := "ytjnnliedeobfgaagreat", sum := "89fad696502bb4d459baf0d4fcda88169345c1cc95c496047f9d39afd6048c2b", func := "loop.example/g01005/laws.FnSquares", spec := "fnSquares", unfollowed := true, recurses := true, apart := false }
def FnSquaresSaid : Prop := fnSquaresRow.holds Tryz.pinned (OpenSpec.ofChange fnSquaresSpec)

/-- ITS FALSE NEIGHBOUR: 'it returns false'. Refute it at one input. -/
def fnSquaresWrong : ChangeSpec := { name := "fnSquares", fn := fun _ => fun
  | [d1, d2] => { results := [.lit (.bool false)], args := [d1, d2] }
  | _ => none }
def FnSquaresWrongFalsely : Prop := fnSquaresRow.holds Tryz.pinned (OpenSpec.ofChange fnSquaresWrong)

/-- 'laws.FnLocal': WHATEVER THE INPUT: true; the input reads as it did. -/
def fnLocalSpec : ChangeSpec := { name := "fnLocal", fn := fun _ => fun
  | [d] => { results := [.lit (.bool true)], args := [d] }
  | _ => none }
def fnLocalRow : OpenClaim := { program := "ytjnnliedeobfgaagreat", sum := "89fad696502bb4d459baf0d4fcda88169345c1cc95c496047f9d39afd6048c2b", func := "loop.example/g01005/laws.FnLocal", spec := "fnLocal", unfollowed := true, recurses := true, apart := false }
def FnLocalSaid : Prop := fnLocalRow.holds Tryz.pinned (OpenSpec.ofChange fnLocalSpec)

/-- ITS FALSE NEIGHBOUR: 'it returns false'. Refute it at one input. -/
def fnLocalWrong : ChangeSpec := { name := "fnLocal", fn := fun _ => fun
  | [d] => { results := [.lit (.bool false)], args := [d] }
  | _ => none }
def FnLocalWrongFalsely : Prop := fnLocalRow.holds Tryz.pinned (OpenSpec.ofChange fnLocalWrong)

/-- 'laws.FnMaps': WHATEVER THE INPUT: true; the input reads as it did. -/
def fnMapsSpec : ChangeSpec := { name := "fnMaps", fn := fun _ => fun
  | [d] => { results := [.lit (.bool true)], args := [d] }
  | _ => none }
def fnMapsRow : OpenClaim := { program := "ytjnnliedeobfgaagreat", sum := "89fad696502bb4d459baf0d4fcda88169345c1cc95c496047f9d39afd6048c2b", func := "loop.example/g01005/laws.FnMaps", spec := "fnMaps", unfollowed := true, recurses := true, apart := false }
def FnMapsSaid : Prop := fnMapsRow.holds Tryz.pinned (OpenSpec.ofChange fnMapsSpec)

/-- ITS FALSE NEIGHBOUR: 'it returns false'. Refute it at one input. -/
def fnMapsWrong : ChangeSpec := { name := "fnMaps", fn := fun _ => fun
  | [d] => { results := [.lit (.bool false)], args := [d] }
  | _ => none }
def FnMapsWrongFalsely : Prop := fnMapsRow.holds Tryz.pinned (OpenSpec.ofChange fnMapsWrong)

/-- 'laws.FnSections': WHATEVER THE INPUT: true; the input reads as it did. -/
def fnSectionsSpec : ChangeSpec := { name := "fnSections", fn := fun _ => fun
  | [d1, d2] => { results := [.lit (.bool true)], args := [d1, d2] }
  | _ => none }
def fnSectionsRow : OpenClaim := { program := "ytjnnliedeobfgaagreat", sum := "89fad696502bb4d459baf0d4fcda88169345c1cc95c496047f9d39afd6048c2b", func := "loop.example/g01005/laws.FnSections", spec := "fnSections", unfollowed := true, recurses := true, apart := false }
def FnSectionsSaid : Prop := fnSectionsRow.holds Tryz.pinned (OpenSpec.ofChange fnSectionsSpec)

/-- ITS FALSE NEIGHBOUR: 'it returns false'. Refute it at one input. -/
def fnSectionsWrong : ChangeSpec := { name := "fnSections", fn := fun _ => fun
  | [d1, d2] => { results := [.lit (.bool false)], args := [d1, d2] }
  | _ => none }
def FnSectionsWrongFalsely : Prop := fnSectionsRow.holds Tryz.pinned (OpenSpec.ofChange fnSectionsWrong)

/-- 'laws.FnExtensions': WHATEVER THE INPUT: true; the input reads as it did. -/
def fnExtensionsSpec : ChangeSpec := { name := "fnExtensions", fn := fun _ => fun
  | [d1, d2] => { results := [.lit (.bool true)], args := [d1, d2] }
  | _ => none }
def fnExtensionsRow : OpenClaim := { program := "ytjnnliedeobfgaagreat", sum := "89fad696502bb4d459baf0d4fcda88169345c1cc95c496047f9d39afd6048c2b", func := "loop.example/g01005/laws.FnExtensions", spec := "fnExtensions", unfollowed := true, recurses := true, apart := false }
def FnExtensionsSaid : Prop := fnExtensionsRow.holds Tryz.pinned (OpenSpec.ofChange fnExtensionsSpec)

/-- ITS FALSE NEIGHBOUR: 'it returns false'. Refute it at one input. -/
def fnExtensionsWrong : ChangeSpec := { name := "fnExtensions", fn := fun _ => fun
  | [d1, d2] => { results := [.lit (.bool false)], args := [d1, d2] }
  | _ => none }
def FnExtensionsWrongFalsely : Prop := fnExtensionsRow.holds Tryz.pinned (OpenSpec.ofChange fnExtensionsWrong)

/- THE SECOND FORM. 'bulk': how many values and letters a reading holds, each counted each time it is reached (what is shared counts as often as it is met; a slice's spare places count too). A statement '..UptoSaid' is the law's where the arguments, and the package variables that the reading takes, are together of bulk at most 1048576: NARROWER than '..Said'. Prove '..Said' where nothing that the law and all that it calls make is longer than what came in: it says more and counts as full. Else prove '..UptoSaid'. A law counts once. -/
mutual
def uptoBulk {H : Type} : DataW H → Nat
  | .lit (.string bytes) => bytes.length + 1
  | .lit _ => 1
  | .nil => 1
  | .ptr d => uptoBulk d + 1
  | .slice elems spare => uptoBulkAll elems + uptoBulkAll spare + 1
  | .agg parts => uptoBulkAll parts + 1
  | .iface _ d => uptoBulk d + 1
  | .map entries => uptoBulkEntries entries + 1
  | .held _ => 1
def uptoBulkAll {H : Type} : List (DataW H) → Nat
  | [] => 0
  | d :: r => uptoBulk d + uptoBulkAll r
def uptoBulkEntries {H : Type} : List (Lit × DataW H) → Nat
  | [] => 0
  | x :: r => uptoBulkEntry x + uptoBulkEntries r
def uptoBulkEntry {H : Type} : Lit × DataW H → Nat
  | (.string bytes, d) => bytes.length + uptoBulk d + 1
  | (_, d) => uptoBulk d + 1
 end
def uptoSmall : (H : Type) → List (DataW H) → Bool := fun _ ds => decide (uptoBulkAll ds ≤ 1048576)
def OpenSpec.upto (s : _root_.Go.ChangeSpec) : _root_.Go.OpenSpec := { _root_.Go.OpenSpec.ofChange s with cond := some uptoSmall }

/-- 'laws.FnClasses', WHERE WHAT IT READS IS OF BULK AT MOST 1048576: true; the input reads as it did. -/
def fnClassesUptoRow : OpenClaim := { program := "ytjnnliedeobfgaagreat", sum := "89fad696502bb4d459baf0d4fcda88169345c1cc95c496047f9d39afd6048c2b", func := "loop.example/g01005/laws.FnClasses", spec := "fnClasses", unfollowed := true, recurses := true, apart := false, narrowed := true }
def FnClassesUptoSaid : Prop := fnClassesUptoRow.holds Tryz.pinned (OpenSpec.upto fnClassesSpec)

/-- 'laws.FnRanks', WHERE WHAT IT READS IS OF BULK AT MOST 1048576: true; the input reads as it did. -/
def fnRanksUptoRow : OpenClaim := { program := "ytjnnliedeobfgaagreat", sum := "89fad696502bb4d459baf0d4fcda88169345c1cc95c496047f9d39afd6048c2b", func := "loop.example/g01005/laws.FnRanks", spec := "fnRanks", unfollowed := true, recurses := true, apart := false, narrowed := true }
def FnRanksUptoSaid : Prop := fnRanksUptoRow.holds Tryz.pinned (OpenSpec.upto fnRanksSpec)

/-- 'laws.FnCohomology', WHERE WHAT IT READS IS OF BULK AT MOST 1048576: true; the input reads as it did. -/
def fnCohomologyUptoRow : OpenClaim := { program := "ytjnnliedeobfgaagreat", sum := "89fad696502bb4d459baf0d4fcda88169345c1cc95c496047f9d39afd6048c2b", func := "loop.example/g01005/laws.FnCohomology", spec := "fnCohomology", unfollowed := true, recurses := true, apart := false, narrowed := true }
def FnCohomologyUptoSaid : Prop := fnCohomologyUptoRow.holds Tryz.pinned (OpenSpec.upto fnCohomologySpec)

/-- 'laws.FnSquares', WHERE WHAT IT READS IS OF BULK AT MOST 1048576: true; the input reads as it did. -/
def fnSquaresUptoRow : OpenClaim := { program := "ytjnnliedeobfgaagreat", sum := "89fad696502bb4d459baf0d4fcda88169345c1cc95c496047f9d39afd6048c2b", func := "loop.example/g01005/laws.FnSquares", spec := "fnSquares", unfollowed := true, recurses := true, apart := false, narrowed := true }
def FnSquaresUptoSaid : Prop := fnSquaresUptoRow.holds Tryz.pinned (OpenSpec.upto fnSquaresSpec)

/-- 'laws.FnLocal', WHERE WHAT IT READS IS OF BULK AT MOST 1048576: true; the input reads as it did. -/
def fnLocalUptoRow : OpenClaim := { program := "ytjnnliedeobfgaagreat", sum := "89fad696502bb4d459baf0d4fcda88169345c1cc95c496047f9d39afd6048c2b", func := "loop.example/g01005/laws.FnLocal", spec := "fnLocal", unfollowed := true, recurses := true, apart := false, narrowed := true }
def FnLocalUptoSaid : Prop := fnLocalUptoRow.holds Tryz.pinned (OpenSpec.upto fnLocalSpec)

/-- 'laws.FnMaps', WHERE WHAT IT READS IS OF BULK AT MOST 1048576: true; the input reads as it did. -/
def fnMapsUptoRow : OpenClaim := { program := "ytjnnliedeobfgaagreat", sum := "89fad696502bb4d459baf0d4fcda88169345c1cc95c496047f9d39afd6048c2b", func := "loop.example/g01005/laws.FnMaps", spec := "fnMaps", unfollowed := true, recurses := true, apart := false, narrowed := true }
def FnMapsUptoSaid : Prop := fnMapsUptoRow.holds Tryz.pinned (OpenSpec.upto fnMapsSpec)

/-- 'laws.FnSections', WHERE WHAT IT READS IS OF BULK AT MOST 1048576: true; the input reads as it did. -/
def fnSectionsUptoRow : OpenClaim := { program := "ytjnnliedeobfgaagreat", sum := "89fad696502bb4d459baf0d4fcda88169345c1cc95c496047f9d39afd6048c2b", func := "loop.example/g01005/laws.FnSections", spec := "fnSections", unfollowed := true, recurses := true, apart := false, narrowed := true }
def FnSectionsUptoSaid : Prop := fnSectionsUptoRow.holds Tryz.pinned (OpenSpec.upto fnSectionsSpec)

/-- 'laws.FnExtensions', WHERE WHAT IT READS IS OF BULK AT MOST 1048576: true; the input reads as it did. -/
def fnExtensionsUptoRow : OpenClaim := { program := "ytjnnliedeobfgaagreat", sum := "89fad696502bb4d459baf0d4fcda88169345c1cc95c496047f9d39afd6048c2b", func := "loop.example/g01005/laws.FnExtensions", spec := "fnExtensions", unfollowed := true, recurses := true, apart := false, narrowed := true }
def FnExtensionsUptoSaid : Prop := fnExtensionsUptoRow.holds Tryz.pinned (OpenSpec.upto fnExtensionsSpec)

end Rows
end Go.Proofs.YtjnnliedeobfgaaGreat
