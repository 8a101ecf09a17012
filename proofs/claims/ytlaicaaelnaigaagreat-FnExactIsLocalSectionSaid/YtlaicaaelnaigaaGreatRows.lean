/-
  No cell of these rows narrows 'for every input' (looked for: loops, veiled, ifaces, maps, wideKeys, modest, calm, conditions, laid).
  DERIVED. THE GIVEN ROWS OF THIS SEAT. 12 by the template 'for every input the law returns true; each argument reads behind the call as it read before'; 0 by the template 'total and deterministic' (their statements: YtlaicaaelnaigaaGreatTotals.lean).
  GIVEN WITH THE SEED: the statements are not yours to turn. If you find one false, say at which input.
  Laid BY PROGRAM, IN A SANDBOX (cutbox-rows.mjs): the forced cells as the released guide's own fill.sh prints them over the translation 716079bb64a94531… (all of the seat's roots in one cut). By AI agents, Wed Nov 11 2026. No macro, syntax, notation, axiom, sorry.
-/
import Derived.Test.YtlaicaaelnaigaaGreatChecked
import GoSem.Claim
import GoSem.ClaimJoined
import GoSem.ClaimMapViews
import Derived.JoinedTies
import Derived.KernelRfl
namespace Go.Proofs.YtlaicaaelnaigaaGreat
/- THE CELL 'sum', in the pinned program and in every row, IS THE sha256 OF THE DUMP (.gsa) THAT YtlaicaaelnaigaaGreatProg.lean LOADS. Nothing in Lean hashes anything: it is a label: what it is worth is what the hold of that sum in a sandbox is worth. -/
noncomputable def Tryz.pinned : Pinned := { name := "ytlaicaaelnaigaagreat", sum := "716079bb64a94531c708b63ba08b92579a4160f7b4b146489e00e8a5f55e151e", checked := Tryz.checked }
namespace Rows
def none {H : Type} : Left H := { results := [], args := [] }

/-- 'laws.FnExactIsSection': WHATEVER THE INPUT: true; the input reads as it did. -/
def fnExactIsSectionSpec : ChangeSpec := { name := "fnExactIsSection", fn := fun _ => fun
  | [d1, d2] => { results := [.lit (.bool true)], args := [d1, d2] }
  | _ => none }
def fnExactIsSectionRow : OpenClaim := { program := "ytlaicaaelnaigaagreat", sum := "716079bb64a94531c708b63ba08b92579a4160f7b4b146489e00e8a5f55e151e", func := "loop.example/g01005/laws.FnExactIsSection", spec := "fnExactIsSection", unfollowed := true, recurses := true, apart := false }
def FnExactIsSectionSaid : Prop := fnExactIsSectionRow.holds Tryz.pinned (OpenSpec.ofChange fnExactIsSectionSpec)

/-- ITS FALSE NEIGHBOUR: 'it returns false'. Refute it at one input. -/
def fnExactIsSectionWrong : ChangeSpec := { name := "fnExactIsSection", fn := fun _ => fun
  | [d1, d2] => { results := [.lit (.bool false)], args := [d1, d2] }
  | _ => none }
def FnExactIsSectionWrongFalsely : Prop := fnExactIsSectionRow.holds Tryz.pinned (OpenSpec.ofChange fnExactIsSectionWrong)

/-- 'laws.FnExactIsCocycle': WHATEVER THE INPUT: true; the input reads as it did. -/
def fnExactIsCocycleSpec : ChangeSpec := { name := "fnExactIsCocycle", fn := fun _ => fun
  | [d1, d2, d3] => { results := [.lit (.bool true)], args := [d1, d2, d3] }
  | _ => none }
def fnExactIsCocycleRow : OpenClaim := { program := "ytlaicaaelnaigaagreat", sum := "716079bb64a94531c708b63ba08b92579a4160f7b4b146489e00e8a5f55e151e", func := "loop.example/g01005/laws.FnExactIsCocycle", spec := "fnExactIsCocycle", unfollowed := true, recurses := true, apart := false }
def FnExactIsCocycleSaid : Prop := fnExactIsCocycleRow.holds Tryz.pinned (OpenSpec.ofChange fnExactIsCocycleSpec)

/-- ITS FALSE NEIGHBOUR: 'it returns false'. Refute it at one input. -/
def fnExactIsCocycleWrong : ChangeSpec := { name := "fnExactIsCocycle", fn := fun _ => fun
  | [d1, d2, d3] => { results := [.lit (.bool false)], args := [d1, d2, d3] }
  | _ => none }
def FnExactIsCocycleWrongFalsely : Prop := fnExactIsCocycleRow.holds Tryz.pinned (OpenSpec.ofChange fnExactIsCocycleWrong)

/-- 'laws.FnExactStalkOf': WHATEVER THE INPUT: true; the input reads as it did. -/
def fnExactStalkOfSpec : ChangeSpec := { name := "fnExactStalkOf", fn := fun _ => fun
  | [d1, d2, d3, d4] => { results := [.lit (.bool true)], args := [d1, d2, d3, d4] }
  | _ => none }
def fnExactStalkOfRow : OpenClaim := { program := "ytlaicaaelnaigaagreat", sum := "716079bb64a94531c708b63ba08b92579a4160f7b4b146489e00e8a5f55e151e", func := "loop.example/g01005/laws.FnExactStalkOf", spec := "fnExactStalkOf", unfollowed := true, recurses := true, apart := false }
def FnExactStalkOfSaid : Prop := fnExactStalkOfRow.holds Tryz.pinned (OpenSpec.ofChange fnExactStalkOfSpec)

/-- ITS FALSE NEIGHBOUR: 'it returns false'. Refute it at one input. -/
def fnExactStalkOfWrong : ChangeSpec := { name := "fnExactStalkOf", fn := fun _ => fun
  | [d1, d2, d3, d4] => { results := [.lit (.bool false)], args := [d1, d2, d3, d4] }
  | _ => none }
def FnExactStalkOfWrongFalsely : Prop := fnExactStalkOfRow.holds Tryz.pinned (OpenSpec.ofChange fnExactStalkOfWrong)

/-- 'laws.FnExactCoboundaryMatrix': WHATEVER THE INPUT: true; the input reads as it did. -/
def fnExactCoboundaryMatrixSpec : ChangeSpec := { name := "fnExactCoboundaryMatrix", fn := fun _ => fun
  | [d1, d2] => { results := [.lit (.bool true)], args := [d1, d2] }
  | _ => none }
def fnExactCoboundaryMatrixRow : OpenClaim := { program := "ytlaicaaelnaigaagreat", sum := "716079bb64a94531c708b63ba08b92579a4160f7b4b146489e00e8a5f55e151e", func := "loop.example/g01005/laws.FnExactCoboundaryMatrix", spec := "fnExactCoboundaryMatrix", unfollowed := true, recurses := true, apart := false }
def FnExactCoboundaryMatrixSaid : Prop := fnExactCoboundaryMatrixRow.holds Tryz.pinned (OpenSpec.ofChange fnExactCoboundaryMatrixSpec)

/-- ITS FALSE NEIGHBOUR: 'it returns false'. Refute it at one input. -/
def fnExactCoboundaryMatrixWrong : ChangeSpec := { name := "fnExactCoboundaryMatrix", fn := fun _ => fun
  | [d1, d2] => { results := [.lit (.bool false)], args := [d1, d2] }
  | _ => none }
def FnExactCoboundaryMatrixWrongFalsely : Prop := fnExactCoboundaryMatrixRow.holds Tryz.pinned (OpenSpec.ofChange fnExactCoboundaryMatrixWrong)

/-- 'laws.FnExactCoboundaryOf': WHATEVER THE INPUT: true; the input reads as it did. -/
def fnExactCoboundaryOfSpec : ChangeSpec := { name := "fnExactCoboundaryOf", fn := fun _ => fun
  | [d1, d2, d3] => { results := [.lit (.bool true)], args := [d1, d2, d3] }
  | _ => none }
def fnExactCoboundaryOfRow : OpenClaim := { program := "ytlaicaaelnaigaagreat", sum := "716079bb64a94531c708b63ba08b92579a4160f7b4b146489e00e8a5f55e151e", func := "loop.example/g01005/laws.FnExactCoboundaryOf", spec := "fnExactCoboundaryOf", unfollowed := true, recurses := true, apart := false }
def FnExactCoboundaryOfSaid : Prop := fnExactCoboundaryOfRow.holds Tryz.pinned (OpenSpec.ofChange fnExactCoboundaryOfSpec)

/-- ITS FALSE NEIGHBOUR: 'it returns false'. Refute it at one input. -/
def fnExactCoboundaryOfWrong : ChangeSpec := { name := "fnExactCoboundaryOf", fn := fun _ => fun
  | [d1, d2, d3] => { results := [.lit (.bool false)], args := [d1, d2, d3] }
  | _ => none }
def FnExactCoboundaryOfWrongFalsely : Prop := fnExactCoboundaryOfRow.holds Tryz.pinned (OpenSpec.ofChange fnExactCoboundaryOfWrong)

/-- 'laws.FnExactIsMorphism': WHATEVER THE INPUT: true; the input reads as it did. -/
def fnExactIsMorphismSpec : ChangeSpec := { name := "fnExactIsMorphism", fn := fun _ => fun
  | [d1, d2, d3] => { results := [.lit (.bool true)], args := [d1, d2, d3] }
  | _ => none }
def fnExactIsMorphismRow : OpenClaim := { program := "ytlaicaaelnaigaagreat", sum := "716079bb64a94531c708b63ba08b92579a4160f7b4b146489e00e8a5f55e151e", func := "loop.example/g01005/laws.FnExactIsMorphism", spec := "fnExactIsMorphism", unfollowed := true, recurses := true, apart := false }
def FnExactIsMorphismSaid : Prop := fnExactIsMorphismRow.holds Tryz.pinned (OpenSpec.ofChange fnExactIsMorphismSpec)

/-- ITS FALSE NEIGHBOUR: 'it returns false'. Refute it at one input. -/
def fnExactIsMorphismWrong : ChangeSpec := { name := "fnExactIsMorphism", fn := fun _ => fun
  | [d1, d2, d3] => { results := [.lit (.bool false)], args := [d1, d2, d3] }
  | _ => none }
def FnExactIsMorphismWrongFalsely : Prop := fnExactIsMorphismRow.holds Tryz.pinned (OpenSpec.ofChange fnExactIsMorphismWrong)

/-- 'laws.FnExactIdentityMorphism': WHATEVER THE INPUT: true; the input reads as it did. -/
def fnExactIdentityMorphismSpec : ChangeSpec := { name := "fnExactIdentityMorphism", fn := fun _ => fun
  | [d] => { results := [.lit (.bool true)], args := [d] }
  | _ => none }
def fnExactIdentityMorphismRow : OpenClaim := { program := "ytlaicaaelnaigaagreat", sum := "716079bb64a94531c708b63ba08b92579a4160f7b4b146489e00e8a5f55e151e", func := "loop.example/g01005/laws.FnExactIdentityMorphism", spec := "fnExactIdentityMorphism", unfollowed := true, recurses := true, apart := false }
def FnExactIdentityMorphismSaid : Prop := fnExactIdentityMorphismRow.holds Tryz.pinned (OpenSpec.ofChange fnExactIdentityMorphismSpec)

/-- ITS FALSE NEIGHBOUR: 'it returns false'. Refute it at one input. -/
def fnExactIdentityMorphismWrong : ChangeSpec := { name := "fnExactIdentityMorphism", fn := fun _ => fun
  | [d] => { results := [.lit (.bool false)], args := [d] }
  | _ => none }
def FnExactIdentityMorphismWrongFalsely : Prop := fnExactIdentityMorphismRow.holds Tryz.pinned (OpenSpec.ofChange fnExactIdentityMorphismWrong)

/-- 'laws.FnExactIsLocalSection': WHATEVER THE INPUT: true; the input reads as it did. -/
def fnExactIsLocalSectionSpec : ChangeSpec := { name := "fnExactIsLocalSection", fn := fun _ => fun
  | [d1, d2, d3] => { results := [.lit (.bool true)], args := [d1, d2, d3] }
  | _ => none }
def fnExactIsLocalSectionRow : OpenClaim := { program := "ytlaicaaelnaigaagreat", sum := "716079bb64a94531c708b63ba08b92579a4160f7b4b146489e00e8a5f55e151e", func := "loop.example/g01005/laws.FnExactIsLocalSection", spec := "fnExactIsLocalSection", unfollowed := true, recurses := true, apart := false }
def FnExactIsLocalSectionSaid : Prop := fnExactIsLocalSectionRow.holds Tryz.pinned (OpenSpec.ofChange fnExactIsLocalSectionSpec)

/-- ITS FALSE NEIGHBOUR: 'it returns false'. Refute it at one input. -/
def fnExactIsLocalSectionWrong : ChangeSpec := { name := "fnExactIsLocalSection", fn := fun _ => fun
  | [d1, d2, d3] => { results := [.lit (.bool false)], args := [d1, d2, d3] }
  | _ => none }
def FnExactIsLocalSectionWrongFalsely : Prop := fnExactIsLocalSectionRow.holds Tryz.pinned (OpenSpec.ofChange fnExactIsLocalSectionWrong)

/-- 'laws.FnExactFirstConflict': WHATEVER THE INPUT: true; the input reads as it did. -/
def fnExactFirstConflictSpec : ChangeSpec := { name := "fnExactFirstConflict", fn := fun _ => fun
  | [d1, d2, d3] => { results := [.lit (.bool true)], args := [d1, d2, d3] }
  | _ => none }
def fnExactFirstConflictRow : OpenClaim := { program := "ytlaicaaelnaigaagreat", sum := "716079bb64a94531c708b63ba08b92579a4160f7b4b146489e00e8a5f55e151e", func := "loop.example/g01005/laws.FnExactFirstConflict", spec := "fnExactFirstConflict", unfollowed := true, recurses := true, apart := false }
def FnExactFirstConflictSaid : Prop := fnExactFirstConflictRow.holds Tryz.pinned (OpenSpec.ofChange fnExactFirstConflictSpec)

/-- ITS FALSE NEIGHBOUR: 'it returns false'. Refute it at one input. -/
def fnExactFirstConflictWrong : ChangeSpec := { name := "fnExactFirstConflict", fn := fun _ => fun
  | [d1, d2, d3] => { results := [.lit (.bool false)], args := [d1, d2, d3] }
  | _ => none }
def FnExactFirstConflictWrongFalsely : Prop := fnExactFirstConflictRow.holds Tryz.pinned (OpenSpec.ofChange fnExactFirstConflictWrong)

/-- 'laws.FnExactIsCoboundary': WHATEVER THE INPUT: true; the input reads as it did. -/
def fnExactIsCoboundarySpec : ChangeSpec := { name := "fnExactIsCoboundary", fn := fun _ => fun
  | [d1, d2, d3] => { results := [.lit (.bool true)], args := [d1, d2, d3] }
  | _ => none }
def fnExactIsCoboundaryRow : OpenClaim := { program := "ytlaicaaelnaigaagreat", sum := "716079bb64a94531c708b63ba08b92579a4160f7b4b146489e00e8a5f55e151e", func := "loop.example/g01005/laws.FnExactIsCoboundary", spec := "fnExactIsCoboundary", unfollowed := true, recurses := true, apart := false }
def FnExactIsCoboundarySaid : Prop := fnExactIsCoboundaryRow.holds Tryz.pinned (OpenSpec.ofChange fnExactIsCoboundarySpec)

/-- ITS FALSE NEIGHBOUR: 'it returns false'. Refute it at one input. -/
def fnExactIsCoboundaryWrong : ChangeSpec := { name := "fnExactIsCoboundary", fn := fun _ => fun
  | [d1, d2, d3] => { results := [.lit (.bool false)], args := [d1, d2, d3] }
  | _ => none }
def FnExactIsCoboundaryWrongFalsely : Prop := fnExactIsCoboundaryRow.holds Tryz.pinned (OpenSpec.ofChange fnExactIsCoboundaryWrong)

/-- 'laws.FnExactSectionAt': WHATEVER THE INPUT: true; the input reads as it did. -/
def fnExactSectionAtSpec : ChangeSpec := { name := "fnExactSectionAt", fn := fun _ => fun
  | [d1, d2, d3] => { results := [.lit (.bool true)], args := [d1, d2, d3] }
  | _ => none }
def fnExactSectionAtRow : OpenClaim := { program := "ytlaicaaelnaigaagreat", sum := "716079bb64a94531c708b63ba08b92579a4160f7b4b146489e00e8a5f55e151e", func := "loop.example/g01005/laws.FnExactSectionAt", spec := "fnExactSectionAt", unfollowed := true, recurses := true, apart := false }
def FnExactSectionAtSaid : Prop := fnExactSectionAtRow.holds Tryz.pinned (OpenSpec.ofChange fnExactSectionAtSpec)

/-- ITS FALSE NEIGHBOUR: 'it returns false'. Refute it at one input. -/
def fnExactSectionAtWrong : ChangeSpec := { name := "fnExactSectionAt", fn := fun _ => fun
  | [d1, d2, d3] => { results := [.lit (.bool false)], args := [d1, d2, d3] }
  | _ => none }
def FnExactSectionAtWrongFalsely : Prop := fnExactSectionAtRow.holds Tryz.pinned (OpenSpec.ofChange fnExactSectionAtWrong)

/-- 'laws.FnExactSupportOf': WHATEVER THE INPUT: true; the input reads as it did. -/
def fnExactSupportOfSpec : ChangeSpec := { name := "fnExactSupportOf", fn := fun _ => fun
  | [d1, d2] => { results := [.lit (.bool true)], args := [d1, d2] }
  | _ => none }
def fnExactSupportOfRow : OpenClaim := { program := "ytlaicaaelnaigaagreat", sum := "716079bb64a94531c708b63ba08b92579a4160f7b4b146489e00e8a5f55e151e", func := "loop.example/g01005/laws.FnExactSupportOf", spec := "fnExactSupportOf", unfollowed := true, recurses := true, apart := false }
def FnExactSupportOfSaid : Prop := fnExactSupportOfRow.holds Tryz.pinned (OpenSpec.ofChange fnExactSupportOfSpec)

/-- ITS FALSE NEIGHBOUR: 'it returns false'. Refute it at one input. -/
def fnExactSupportOfWrong : ChangeSpec := { name := "fnExactSupportOf", fn := fun _ => fun
  | [d1, d2] => { results := [.lit (.bool false)], args := [d1, d2] }
  | _ => none }
def FnExactSupportOfWrongFalsely : Prop := fnExactSupportOfRow.holds Tryz.pinned (OpenSpec.ofChange fnExactSupportOfWrong)

/- THE SECOND FORM. 'bulk': how many values and letters a reading holds, each counted each time it is reached (what is shared counts as often as it is met; a slice's spare places count too). A statement '..UptoSaid' is the law's where the arguments, and the package variables that the reading takes, are together of bulk at most 1048576: NARROWER than '..Said'. Prove '..Said' where nothing that the law and all that it calls make is longer than what came in: it says more and counts as full. Else prove '..UptoSaid'. A law counts once. -/
mutual
def uptoBulk {H : Type} : DataW H → Nat
  | .lit (.string bytes) => bytes.length + 1
  | .lit _ => 1
  | .nil => 1
  | .ptr d => uptoBulk d + 1
  | .slice elems spare => uptoBulkAll elems + uptoBulkAll spare + 1
  | .agg parts => uptoBulkAll parts + 1
  | .iface _ d => uptoBulk d + 1
  | .map entries => uptoBulkEntries entries + 1
  | .held _ => 1
def uptoBulkAll {H : Type} : List (DataW H) → Nat
  | [] => 0
  | d :: r => uptoBulk d + uptoBulkAll r
def uptoBulkEntries {H : Type} : List (Lit × DataW H) → Nat
  | [] => 0
  | x :: r => uptoBulkEntry x + uptoBulkEntries r
def uptoBulkEntry {H : Type} : Lit × DataW H → Nat
  | (.string bytes, d) => bytes.length + uptoBulk d + 1
  | (_, d) => uptoBulk d + 1
 end
def uptoSmall : (H : Type) → List (DataW H) → Bool := fun _ ds => decide (uptoBulkAll ds ≤ 1048576)
def OpenSpec.upto (s : _root_.Go.ChangeSpec) : _root_.Go.OpenSpec := { _root_.Go.OpenSpec.ofChange s with cond := some uptoSmall }

/-- 'laws.FnExactIsSection', WHERE WHAT IT READS IS OF BULK AT MOST 1048576: true; the input reads as it did. -/
def fnExactIsSectionUptoRow : OpenClaim := { program := "ytlaicaaelnaigaagreat", sum := "716079bb64a94531c708b63ba08b92579a4160f7b4b146489e00e8a5f55e151e", func := "loop.example/g01005/laws.FnExactIsSection", spec := "fnExactIsSection", unfollowed := true, recurses := true, apart := false, narrowed := true }
def FnExactIsSectionUptoSaid : Prop := fnExactIsSectionUptoRow.holds Tryz.pinned (OpenSpec.upto fnExactIsSectionSpec)

/-- 'laws.FnExactIsCocycle', WHERE WHAT IT READS IS OF BULK AT MOST 1048576: true; the input reads as it did. -/
def fnExactIsCocycleUptoRow : OpenClaim := { program := "ytlaicaaelnaigaagreat", sum := "716079bb64a94531c708b63ba08b92579a4160f7b4b146489e00e8a5f55e151e", func := "loop.example/g01005/laws.FnExactIsCocycle", spec := "fnExactIsCocycle", unfollowed := true, recurses := true, apart := false, narrowed := true }
def FnExactIsCocycleUptoSaid : Prop := fnExactIsCocycleUptoRow.holds Tryz.pinned (OpenSpec.upto fnExactIsCocycleSpec)

/-- 'laws.FnExactStalkOf', WHERE WHAT IT READS IS OF BULK AT MOST 1048576: true; the input reads as it did. -/
def fnExactStalkOfUptoRow : OpenClaim := { program := "ytlaicaaelnaigaagreat", sum := "716079bb64a94531c708b63ba08b92579a4160f7b4b146489e00e8a5f55e151e", func := "loop.example/g01005/laws.FnExactStalkOf", spec := "fnExactStalkOf", unfollowed := true, recurses := true, apart := false, narrowed := true }
def FnExactStalkOfUptoSaid : Prop := fnExactStalkOfUptoRow.holds Tryz.pinned (OpenSpec.upto fnExactStalkOfSpec)

/-- 'laws.FnExactCoboundaryMatrix', WHERE WHAT IT READS IS OF BULK AT MOST 1048576: true; the input reads as it did. -/
def fnExactCoboundaryMatrixUptoRow : OpenClaim := { program := "ytlaicaaelnaigaagreat", sum := "716079bb64a94531c708b63ba08b92579a4160f7b4b146489e00e8a5f55e151e", func := "loop.example/g01005/laws.FnExactCoboundaryMatrix", spec := "fnExactCoboundaryMatrix", unfollowed := true, recurses := true, apart := false, narrowed := true }
def FnExactCoboundaryMatrixUptoSaid : Prop := fnExactCoboundaryMatrixUptoRow.holds Tryz.pinned (OpenSpec.upto fnExactCoboundaryMatrixSpec)

/-- 'laws.FnExactCoboundaryOf', WHERE WHAT IT READS IS OF BULK AT MOST 1048576: true; the input reads as it did. -/
def fnExactCoboundaryOfUptoRow : OpenClaim := { program := "ytlaicaaelnaigaagreat", sum := "716079bb64a94531c708b63ba08b92579a4160f7b4b146489e00e8a5f55e151e", func := "loop.example/g01005/laws.FnExactCoboundaryOf", spec := "fnExactCoboundaryOf", unfollowed := true, recurses := true, apart := false, narrowed := true }
def FnExactCoboundaryOfUptoSaid : Prop := fnExactCoboundaryOfUptoRow.holds Tryz.pinned (OpenSpec.upto fnExactCoboundaryOfSpec)

/-- 'laws.FnExactIsMorphism', WHERE WHAT IT READS IS OF BULK AT MOST 1048576: true; the input reads as it did. -/
def fnExactIsMorphismUptoRow : OpenClaim := { program := "ytlaicaaelnaigaagreat", sum := "716079bb64a94531c708b63ba08b92579a4160f7b4b146489e00e8a5f55e151e", func := "loop.example/g01005/laws.FnExactIsMorphism", spec := "fnExactIsMorphism", unfollowed := true, recurses := true, apart := false, narrowed := true }
def FnExactIsMorphismUptoSaid : Prop := fnExactIsMorphismUptoRow.holds Tryz.pinned (OpenSpec.upto fnExactIsMorphismSpec)

/-- 'laws.FnExactIdentityMorphism', WHERE WHAT IT READS IS OF BULK AT MOST 1048576: true; the input reads as it did. -/
def fnExactIdentityMorphismUptoRow : OpenClaim := { program := "ytlaicaaelnaigaagreat", sum := "716079bb64a94531c708b63ba08b92579a4160f7b4b146489e00e8a5f55e151e", func := "loop.example/g01005/laws.FnExactIdentityMorphism", spec := "fnExactIdentityMorphism", unfollowed := true, recurses := true, apart := false, narrowed := true }
def FnExactIdentityMorphismUptoSaid : Prop := fnExactIdentityMorphismUptoRow.holds Tryz.pinned (OpenSpec.upto fnExactIdentityMorphismSpec)

/-- 'laws.FnExactIsLocalSection', WHERE WHAT IT READS IS OF BULK AT MOST 1048576: true; the input reads as it did. -/
def fnExactIsLocalSectionUptoRow : OpenClaim := { program := "ytlaicaaelnaigaagreat", sum := "716079bb64a94531c708b63ba08b92579a4160f7b4b146489e00e8a5f55e151e", func := "loop.example/g01005/laws.FnExactIsLocalSection", spec := "fnExactIsLocalSection", unfollowed := true, recurses := true, apart := false, narrowed := true }
def FnExactIsLocalSectionUptoSaid : Prop := fnExactIsLocalSectionUptoRow.holds Tryz.pinned (OpenSpec.upto fnExactIsLocalSectionSpec)

/-- 'laws.FnExactFirstConflict', WHERE WHAT IT READS IS OF BULK AT MOST 1048576: true; the input reads as it did. -/
def fnExactFirstConflictUptoRow : OpenClaim := { program := "ytlaicaaelnaigaagreat", sum := "716079bb64a94531c708b63ba08b92579a4160f7b4b146489e00e8a5f55e151e", func := "loop.example/g01005/laws.FnExactFirstConflict", spec := "fnExactFirstConflict", unfollowed := true, recurses := true, apart := false, narrowed := true }
def FnExactFirstConflictUptoSaid : Prop := fnExactFirstConflictUptoRow.holds Tryz.pinned (OpenSpec.upto fnExactFirstConflictSpec)

/-- 'laws.FnExactIsCoboundary', WHERE WHAT IT READS IS OF BULK AT MOST 1048576: true; the input reads as it did. -/
def fnExactIsCoboundaryUptoRow : OpenClaim := { program := "ytlaicaaelnaigaagreat", sum := "716079bb64a94531c708b63ba08b92579a4160f7b4b146489e00e8a5f55e151e", func := "loop.example/g01005/laws.FnExactIsCoboundary", spec := "fnExactIsCoboundary", unfollowed := true, recurses := true, apart := false, narrowed := true }
def FnExactIsCoboundaryUptoSaid : Prop := fnExactIsCoboundaryUptoRow.holds Tryz.pinned (OpenSpec.upto fnExactIsCoboundarySpec)

/-- 'laws.FnExactSectionAt', WHERE WHAT IT READS IS OF BULK AT MOST 1048576: true; the input reads as it did. -/
def fnExactSectionAtUptoRow : OpenClaim := { program := "ytlaicaaelnaigaagreat", sum := "716079bb64a94531c708b63ba08b92579a4160f7b4b146489e00e8a5f55e151e", func := "loop.example/g01005/laws.FnExactSectionAt", spec := "fnExactSectionAt", unfollowed := true, recurses := true, apart := false, narrowed := true }
def FnExactSectionAtUptoSaid : Prop := fnExactSectionAtUptoRow.holds Tryz.pinned (OpenSpec.upto fnExactSectionAtSpec)

/-- 'laws.FnExactSupportOf', WHERE WHAT IT READS IS OF BULK AT MOST 1048576: true; the input reads as it did. -/
def fnExactSupportOfUptoRow : OpenClaim := { program := "ytlaicaaelnaigaagreat", sum := "716079bb64a94531c708b63ba08b92579a4160f7b4b146489e00e8a5f55e151e", func := "loop.example/g01005/laws.FnExactSupportOf", spec := "fnExactSupportOf", unfollowed := true, recurses := true, apart := false, narrowed := true }
def FnExactSupportOfUptoSaid : Prop := fnExactSupportOfUptoRow.holds Tryz.pinned (OpenSpec.upto fnExactSupportOfSpec)

end Rows
end Go.Proofs.YtlaicaaelnaigaaGreat
