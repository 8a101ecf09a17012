/-
  No cell of these rows narrows 'for every input' (looked for: loops, veiled, ifaces, maps, wideKeys, modest, calm, conditions, laid).
  DERIVED. THE GIVEN ROWS OF THIS SEAT. 8 by the template 'for every input the law returns true; each argument reads behind the call as it read before'; 0 by the template 'total and deterministic' (their statements: YtonfceapakgcjaaGreatTotals.lean).
  GIVEN WITH THE SEED: the statements are not yours to turn. If you find one false, say at which input.
  Laid BY PROGRAM, IN A SANDBOX (cutbox-rows.mjs): the forced cells as the released guide's own fill.sh prints them over the translation 3d815c4946725de4… (all of the seat's roots in one cut). By AI agents, Wed Nov 11 2026. No macro, syntax, notation, axiom, sorry.
-/
import Derived.Test.YtonfceapakgcjaaGreatChecked
import GoSem.Claim
import GoSem.ClaimJoined
import GoSem.ClaimMapViews
import Derived.JoinedTies
import Derived.KernelRfl
namespace Go.Proofs.YtonfceapakgcjaaGreat
/- THE CELL 'sum', in the pinned program and in every row, IS THE sha256 OF THE DUMP (.gsa) THAT YtonfceapakgcjaaGreatProg.lean LOADS. Nothing in Lean hashes anything: it is a label: what it is worth is what the hold of that sum in a sandbox is worth. -/
noncomputable def Tryz.pinned : Pinned := { name := "ytonfceapakgcjaagreat", sum := "3d815c4946725de440cf00eacdbcd5a37af677725286529086f5d1947d0bb41e", checked := Tryz.checked }
namespace Rows
def none {H : Type} : Left H := { results := [], args := [] }

/-- 'laws.FnExactHomologyBasis': WHATEVER THE INPUT: true; the input reads as it did. -/
def fnExactHomologyBasisSpec : ChangeSpec := { name := "fnExactHomologyBasis", fn := fun _ => fun
  | [d1, d2, d3] => { results := [.lit (.bool true)], args := [d1, d2, d3] }
  | _ => none }
def fnExactHomologyBasisRow : OpenClaim := { program := "ytonfceapakgcjaagreat", sum := "3d815c4946725de440cf00eacdbcd5a37af677725286529086f5d1947d0bb41e", func := "loop.example/g01005/laws.FnExactHomologyBasis", spec := "fnExactHomologyBasis", unfollowed := true, recurses := true, apart := false }
def FnExactHomologyBasisSaid : Prop := fnExactHomologyBasisRow.holds Tryz.pinned (OpenSpec.ofChange fnExactHomologyBasisSpec)

/-- ITS FALSE NEIGHBOUR: 'it returns false'. Refute it at one input. -/
def fnExactHomologyBasisWrong : ChangeSpec := { name := "fnExactHomologyBasis", fn := fun _ => fun
  | [d1, d2, d3] => { results := [.lit (.bool false)], args := [d1, d2, d3] }
  | _ => none }
def FnExactHomologyBasisWrongFalsely : Prop := fnExactHomologyBasisRow.holds Tryz.pinned (OpenSpec.ofChange fnExactHomologyBasisWrong)

/-- 'laws.FnExactClassOf': WHATEVER THE INPUT: true; the input reads as it did. -/
def fnExactClassOfSpec : ChangeSpec := { name := "fnExactClassOf", fn := fun _ => fun
  | [d1, d2, d3, d4] => { results := [.lit (.bool true)], args := [d1, d2, d3, d4] }
  | _ => none }
def fnExactClassOfRow : OpenClaim := { program := "ytonfceapakgcjaagreat", sum := "3d815c4946725de440cf00eacdbcd5a37af677725286529086f5d1947d0bb41e", func := "loop.example/g01005/laws.FnExactClassOf", spec := "fnExactClassOf", unfollowed := true, recurses := true, apart := false }
def FnExactClassOfSaid : Prop := fnExactClassOfRow.holds Tryz.pinned (OpenSpec.ofChange fnExactClassOfSpec)

/-- ITS FALSE NEIGHBOUR: 'it returns false'. Refute it at one input. -/
def fnExactClassOfWrong : ChangeSpec := { name := "fnExactClassOf", fn := fun _ => fun
  | [d1, d2, d3, d4] => { results := [.lit (.bool false)], args := [d1, d2, d3, d4] }
  | _ => none }
def FnExactClassOfWrongFalsely : Prop := fnExactClassOfRow.holds Tryz.pinned (OpenSpec.ofChange fnExactClassOfWrong)

/-- 'laws.FnExactChainMap': WHATEVER THE INPUT: true; the input reads as it did. -/
def fnExactChainMapSpec : ChangeSpec := { name := "fnExactChainMap", fn := fun _ => fun
  | [d1, d2, d3, d4, d5] => { results := [.lit (.bool true)], args := [d1, d2, d3, d4, d5] }
  | _ => none }
def fnExactChainMapRow : OpenClaim := { program := "ytonfceapakgcjaagreat", sum := "3d815c4946725de440cf00eacdbcd5a37af677725286529086f5d1947d0bb41e", func := "loop.example/g01005/laws.FnExactChainMap", spec := "fnExactChainMap", unfollowed := true, recurses := true, apart := false }
def FnExactChainMapSaid : Prop := fnExactChainMapRow.holds Tryz.pinned (OpenSpec.ofChange fnExactChainMapSpec)

/-- ITS FALSE NEIGHBOUR: 'it returns false'. Refute it at one input. -/
def fnExactChainMapWrong : ChangeSpec := { name := "fnExactChainMap", fn := fun _ => fun
  | [d1, d2, d3, d4, d5] => { results := [.lit (.bool false)], args := [d1, d2, d3, d4, d5] }
  | _ => none }
def FnExactChainMapWrongFalsely : Prop := fnExactChainMapRow.holds Tryz.pinned (OpenSpec.ofChange fnExactChainMapWrong)

/-- 'laws.FnExactCohomologyDims': WHATEVER THE INPUT: true; the input reads as it did. -/
def fnExactCohomologyDimsSpec : ChangeSpec := { name := "fnExactCohomologyDims", fn := fun _ => fun
  | [d] => { results := [.lit (.bool true)], args := [d] }
  | _ => none }
def fnExactCohomologyDimsRow : OpenClaim := { program := "ytonfceapakgcjaagreat", sum := "3d815c4946725de440cf00eacdbcd5a37af677725286529086f5d1947d0bb41e", func := "loop.example/g01005/laws.FnExactCohomologyDims", spec := "fnExactCohomologyDims", unfollowed := true, recurses := true, apart := false }
def FnExactCohomologyDimsSaid : Prop := fnExactCohomologyDimsRow.holds Tryz.pinned (OpenSpec.ofChange fnExactCohomologyDimsSpec)

/-- ITS FALSE NEIGHBOUR: 'it returns false'. Refute it at one input. -/
def fnExactCohomologyDimsWrong : ChangeSpec := { name := "fnExactCohomologyDims", fn := fun _ => fun
  | [d] => { results := [.lit (.bool false)], args := [d] }
  | _ => none }
def FnExactCohomologyDimsWrongFalsely : Prop := fnExactCohomologyDimsRow.holds Tryz.pinned (OpenSpec.ofChange fnExactCohomologyDimsWrong)

/-- 'laws.FnExactCohomologyBasis': WHATEVER THE INPUT: true; the input reads as it did. -/
def fnExactCohomologyBasisSpec : ChangeSpec := { name := "fnExactCohomologyBasis", fn := fun _ => fun
  | [d1, d2] => { results := [.lit (.bool true)], args := [d1, d2] }
  | _ => none }
def fnExactCohomologyBasisRow : OpenClaim := { program := "ytonfceapakgcjaagreat", sum := "3d815c4946725de440cf00eacdbcd5a37af677725286529086f5d1947d0bb41e", func := "loop.example/g01005/laws.FnExactCohomologyBasis", spec := "fnExactCohomologyBasis", unfollowed := true, recurses := true, apart := false }
def FnExactCohomologyBasisSaid : Prop := fnExactCohomologyBasisRow.holds Tryz.pinned (OpenSpec.ofChange fnExactCohomologyBasisSpec)

/-- ITS FALSE NEIGHBOUR: 'it returns false'. Refute it at one input. -/
def fnExactCohomologyBasisWrong : ChangeSpec := { name := "fnExactCohomologyBasis", fn := fun _ => fun
  | [d1, d2] => { results := [.lit (.bool false)], args := [d1, d2] }
  | _ => none }
def FnExactCohomologyBasisWrongFalsely : Prop := fnExactCohomologyBasisRow.holds Tryz.pinned (OpenSpec.ofChange fnExactCohomologyBasisWrong)

/-- 'laws.FnExactMapImage': WHATEVER THE INPUT: true; the input reads as it did. -/
def fnExactMapImageSpec : ChangeSpec := { name := "fnExactMapImage", fn := fun _ => fun
  | [d1, d2, d3] => { results := [.lit (.bool true)], args := [d1, d2, d3] }
  | _ => none }
def fnExactMapImageRow : OpenClaim := { program := "ytonfceapakgcjaagreat", sum := "3d815c4946725de440cf00eacdbcd5a37af677725286529086f5d1947d0bb41e", func := "loop.example/g01005/laws.FnExactMapImage", spec := "fnExactMapImage", unfollowed := true, recurses := true, apart := false }
def FnExactMapImageSaid : Prop := fnExactMapImageRow.holds Tryz.pinned (OpenSpec.ofChange fnExactMapImageSpec)

/-- ITS FALSE NEIGHBOUR: 'it returns false'. Refute it at one input. -/
def fnExactMapImageWrong : ChangeSpec := { name := "fnExactMapImage", fn := fun _ => fun
  | [d1, d2, d3] => { results := [.lit (.bool false)], args := [d1, d2, d3] }
  | _ => none }
def FnExactMapImageWrongFalsely : Prop := fnExactMapImageRow.holds Tryz.pinned (OpenSpec.ofChange fnExactMapImageWrong)

/-- 'laws.FnExactCocycleClass': WHATEVER THE INPUT: true; the input reads as it did. -/
def fnExactCocycleClassSpec : ChangeSpec := { name := "fnExactCocycleClass", fn := fun _ => fun
  | [d1, d2, d3] => { results := [.lit (.bool true)], args := [d1, d2, d3] }
  | _ => none }
def fnExactCocycleClassRow : OpenClaim := { program := "ytonfceapakgcjaagreat", sum := "3d815c4946725de440cf00eacdbcd5a37af677725286529086f5d1947d0bb41e", func := "loop.example/g01005/laws.FnExactCocycleClass", spec := "fnExactCocycleClass", unfollowed := true, recurses := true, apart := false }
def FnExactCocycleClassSaid : Prop := fnExactCocycleClassRow.holds Tryz.pinned (OpenSpec.ofChange fnExactCocycleClassSpec)

/-- ITS FALSE NEIGHBOUR: 'it returns false'. Refute it at one input. -/
def fnExactCocycleClassWrong : ChangeSpec := { name := "fnExactCocycleClass", fn := fun _ => fun
  | [d1, d2, d3] => { results := [.lit (.bool false)], args := [d1, d2, d3] }
  | _ => none }
def FnExactCocycleClassWrongFalsely : Prop := fnExactCocycleClassRow.holds Tryz.pinned (OpenSpec.ofChange fnExactCocycleClassWrong)

/-- 'laws.FnExactInducedRank': WHATEVER THE INPUT: true; the input reads as it did. -/
def fnExactInducedRankSpec : ChangeSpec := { name := "fnExactInducedRank", fn := fun _ => fun
  | [d1, d2, d3, d4, d5] => { results := [.lit (.bool true)], args := [d1, d2, d3, d4, d5] }
  | _ => none }
def fnExactInducedRankRow : OpenClaim := { program := "ytonfceapakgcjaagreat", sum := "3d815c4946725de440cf00eacdbcd5a37af677725286529086f5d1947d0bb41e", func := "loop.example/g01005/laws.FnExactInducedRank", spec := "fnExactInducedRank", unfollowed := true, recurses := true, apart := false }
def FnExactInducedRankSaid : Prop := fnExactInducedRankRow.holds Tryz.pinned (OpenSpec.ofChange fnExactInducedRankSpec)

/-- ITS FALSE NEIGHBOUR: 'it returns false'. Refute it at one input. -/
def fnExactInducedRankWrong : ChangeSpec := { name := "fnExactInducedRank", fn := fun _ => fun
  | [d1, d2, d3, d4, d5] => { results := [.lit (.bool false)], args := [d1, d2, d3, d4, d5] }
  | _ => none }
def FnExactInducedRankWrongFalsely : Prop := fnExactInducedRankRow.holds Tryz.pinned (OpenSpec.ofChange fnExactInducedRankWrong)

/- THE SECOND FORM. 'bulk': how many values and letters a reading holds, each counted each time it is reached (what is shared counts as often as it is met; a slice's spare places count too). A statement '..UptoSaid' is the law's where the arguments, and the package variables that the reading takes, are together of bulk at most 1048576: NARROWER than '..Said'. Prove '..Said' where nothing that the law and all that it calls make is longer than what came in: it says more and counts as full. Else prove '..UptoSaid'. A law counts once. -/
mutual
def uptoBulk {H : Type} : DataW H → Nat
  | .lit (.string bytes) => bytes.length + 1
  | .lit _ => 1
  | .nil => 1
  | .ptr d => uptoBulk d + 1
  | .slice elems spare => uptoBulkAll elems + uptoBulkAll spare + 1
  | .agg parts => uptoBulkAll parts + 1
  | .iface _ d => uptoBulk d + 1
  | .map entries => uptoBulkEntries entries + 1
  | .held _ => 1
def uptoBulkAll {H : Type} : List (DataW H) → Nat
  | [] => 0
  | d :: r => uptoBulk d + uptoBulkAll r
def uptoBulkEntries {H : Type} : List (Lit × DataW H) → Nat
  | [] => 0
  | x :: r => uptoBulkEntry x + uptoBulkEntries r
def uptoBulkEntry {H : Type} : Lit × DataW H → Nat
  | (.string bytes, d) => bytes.length + uptoBulk d + 1
  | (_, d) => uptoBulk d + 1
 end
def uptoSmall : (H : Type) → List (DataW H) → Bool := fun _ ds => decide (uptoBulkAll ds ≤ 1048576)
def OpenSpec.upto (s : _root_.Go.ChangeSpec) : _root_.Go.OpenSpec := { _root_.Go.OpenSpec.ofChange s with cond := some uptoSmall }

/-- 'laws.FnExactHomologyBasis', WHERE WHAT IT READS IS OF BULK AT MOST 1048576: true; the input reads as it did. -/
def fnExactHomologyBasisUptoRow : OpenClaim := { program := "ytonfceapakgcjaagreat", sum := "3d815c4946725de440cf00eacdbcd5a37af677725286529086f5d1947d0bb41e", func := "loop.example/g01005/laws.FnExactHomologyBasis", spec := "fnExactHomologyBasis", unfollowed := true, recurses := true, apart := false, narrowed := true }
def FnExactHomologyBasisUptoSaid : Prop := fnExactHomologyBasisUptoRow.holds Tryz.pinned (OpenSpec.upto fnExactHomologyBasisSpec)

/-- 'laws.FnExactClassOf', WHERE WHAT IT READS IS OF BULK AT MOST 1048576: true; the input reads as it did. -/
def fnExactClassOfUptoRow : OpenClaim := { program := "ytonfceapakgcjaagreat", sum := "3d815c4946725de440cf00eacdbcd5a37af677725286529086f5d1947d0bb41e", func := "loop.example/g01005/laws.FnExactClassOf", spec := "fnExactClassOf", unfollowed := true, recurses := true, apart := false, narrowed := true }
def FnExactClassOfUptoSaid : Prop := fnExactClassOfUptoRow.holds Tryz.pinned (OpenSpec.upto fnExactClassOfSpec)

/-- 'laws.FnExactChainMap', WHERE WHAT IT READS IS OF BULK AT MOST 1048576: true; the input reads as it did. -/
def fnExactChainMapUptoRow : OpenClaim := { program := "ytonfceapakgcjaagreat", sum := "3d815c4946725de440cf00eacdbcd5a37af677725286529086f5d1947d0bb41e", func := "loop.example/g01005/laws.FnExactChainMap", spec := "fnExactChainMap", unfollowed := true, recurses := true, apart := false, narrowed := true }
def FnExactChainMapUptoSaid : Prop := fnExactChainMapUptoRow.holds Tryz.pinned (OpenSpec.upto fnExactChainMapSpec)

/-- 'laws.FnExactCohomologyDims', WHERE WHAT IT READS IS OF BULK AT MOST 1048576: true; the input reads as it did. -/
def fnExactCohomologyDimsUptoRow : OpenClaim := { program := "ytonfceapakgcjaagreat", sum := "3d815c4946725de440cf00eacdbcd5a37af677725286529086f5d1947d0bb41e", func := "loop.example/g01005/laws.FnExactCohomologyDims", spec := "fnExactCohomologyDims", unfollowed := true, recurses := true, apart := false, narrowed := true }
def FnExactCohomologyDimsUptoSaid : Prop := fnExactCohomologyDimsUptoRow.holds Tryz.pinned (OpenSpec.upto fnExactCohomologyDimsSpec)

/-- 'laws.FnExactCohomologyBasis', WHERE WHAT IT READS IS OF BULK AT MOST 1048576: true; the input reads as it did. -/
def fnExactCohomologyBasisUptoRow : OpenClaim := { program := "ytonfceapakgcjaagreat", sum := "3d815c4946725de440cf00eacdbcd5a37af677725286529086f5d1947d0bb41e", func := "loop.example/g01005/laws.FnExactCohomologyBasis", spec := "fnExactCohomologyBasis", unfollowed := true, recurses := true, apart := false, narrowed := true }
def FnExactCohomologyBasisUptoSaid : Prop := fnExactCohomologyBasisUptoRow.holds Tryz.pinned (OpenSpec.upto fnExactCohomologyBasisSpec)

/-- 'laws.FnExactMapImage', WHERE WHAT IT READS IS OF BULK AT MOST 1048576: true; the input reads as it did. -/
def fnExactMapImageUptoRow : OpenClaim := { program := "ytonfceapakgcjaagreat", sum := "3d815c4946725de440cf00eacdbcd5a37af677725286529086f5d1947d0bb41e", func := "loop.example/g01005/laws.FnExactMapImage", spec := "fnExactMapImage", unfollowed := true, recurses := true, apart := false, narrowed := true }
def FnExactMapImageUptoSaid : Prop := fnExactMapImageUptoRow.holds Tryz.pinned (OpenSpec.upto fnExactMapImageSpec)

/-- 'laws.FnExactCocycleClass', WHERE WHAT IT READS IS OF BULK AT MOST 1048576: true; the input reads as it did. -/
def fnExactCocycleClassUptoRow : OpenClaim := { program := "ytonfceapakgcjaagreat", sum := "3d815c4946725de440cf00eacdbcd5a37af677725286529086f5d1947d0bb41e", func := "loop.example/g01005/laws.FnExactCocycleClass", spec := "fnExactCocycleClass", unfollowed := true, recurses := true, apart := false, narrowed := true }
def FnExactCocycleClassUptoSaid : Prop := fnExactCocycleClassUptoRow.holds Tryz.pinned (OpenSpec.upto fnExactCocycleClassSpec)

/-- 'laws.FnExactInducedRank', WHERE WHAT IT READS IS OF BULK AT MOST 1048576: true; the input reads as it did. -/
def fnExactInducedRankUptoRow : OpenClaim := { program := "ytonfceapakgcjaagreat", sum := "3d815c4946725de440cf00eacdbcd5a37af677725286529086f5d1947d0bb41e", func := "loop.example/g01005/laws.FnExactInducedRank", spec := "fnExactInducedRank", unfollowed := true, recurses := true, apart := false, narrowed := true }
def FnExactInducedRankUptoSaid : Prop := fnExactInducedRankUptoRow.holds Tryz.pinned (OpenSpec.upto fnExactInducedRankSpec)

end Rows
end Go.Proofs.YtonfceapakgcjaaGreat
