/-
  No cell of these rows narrows 'for every input' (looked for: loops, veiled, ifaces, maps, wideKeys, modest, calm, conditions, laid).
  DERIVED. THE GIVEN ROWS OF THIS SEAT. 12 by the template 'for every input the law returns true; each argument reads behind the call as it read before'; 0 by the template 'total and deterministic' (their statements: YtmedfcilbiogmaaGreatTotals.lean).
  GIVEN WITH THE SEED: the statements are not yours to turn. If you find one false, say at which input.
  Laid BY PROGRAM, IN A SANDBOX (cutbox-rows.mjs): the forced cells as the released guide's own fill.sh prints them over the translation 09e01b8a1f62d208… (all of the seat's roots in one cut). By AI agents, Wed Nov 11 2026. No macro, syntax, notation, axiom, sorry.
-/
import Derived.Test.YtmedfcilbiogmaaGreatChecked
import GoSem.Claim
import GoSem.ClaimJoined
import GoSem.ClaimMapViews
import Derived.JoinedTies
import Derived.KernelRfl
namespace Go.Proofs.YtmedfcilbiogmaaGreat
/- THE CELL 'sum', in the pinned program and in every row, IS THE sha256 OF THE DUMP (.gsa) THAT YtmedfcilbiogmaaGreatProg.lean LOADS. Nothing in Lean hashes anything: it is a label: what it is worth is what the hold of that sum in a sandbox is worth. -/
noncomputable def Tryz.pinned : Pinned := { name := "ytmedfcilbiogmaagreat", sum := "09e01b8a1f62d2086b04e5ded5300872d83a85d3e82fe62568af85d9109b8e23", checked := Tryz.checked }
namespace Rows
def none {H : Type} : Left H := { results := [], args := [] }

/-- 'laws.FnExactValuesOn': WHATEVER THE INPUT: true; the input reads as it did. -/
def fnExactValuesOnSpec : ChangeSpec := { name := "fnExactValuesOn", fn := fun _ => fun
  | [d1, d2, d3] => { results := [.lit (.bool true)], args := [d1, d2, d3] }
  | _ => none }
def fnExactValuesOnRow : OpenClaim := { program := "ytmedfcilbiogmaagreat", sum := "09e01b8a1f62d2086b04e5ded5300872d83a85d3e82fe62568af85d9109b8e23", func := "loop.example/g01005/laws.FnExactValuesOn", spec := "fnExactValuesOn", unfollowed := true, recurses := true, apart := false }
def FnExactValuesOnSaid : Prop := fnExactValuesOnRow.holds Tryz.pinned (OpenSpec.ofChange fnExactValuesOnSpec)

/-- ITS FALSE NEIGHBOUR: 'it returns false'. Refute it at one input. -/
def fnExactValuesOnWrong : ChangeSpec := { name := "fnExactValuesOn", fn := fun _ => fun
  | [d1, d2, d3] => { results := [.lit (.bool false)], args := [d1, d2, d3] }
  | _ => none }
def FnExactValuesOnWrongFalsely : Prop := fnExactValuesOnRow.holds Tryz.pinned (OpenSpec.ofChange fnExactValuesOnWrong)

/-- 'laws.FnExactCocycleBasis': WHATEVER THE INPUT: true; the input reads as it did. -/
def fnExactCocycleBasisSpec : ChangeSpec := { name := "fnExactCocycleBasis", fn := fun _ => fun
  | [d1, d2] => { results := [.lit (.bool true)], args := [d1, d2] }
  | _ => none }
def fnExactCocycleBasisRow : OpenClaim := { program := "ytmedfcilbiogmaagreat", sum := "09e01b8a1f62d2086b04e5ded5300872d83a85d3e82fe62568af85d9109b8e23", func := "loop.example/g01005/laws.FnExactCocycleBasis", spec := "fnExactCocycleBasis", unfollowed := true, recurses := true, apart := false }
def FnExactCocycleBasisSaid : Prop := fnExactCocycleBasisRow.holds Tryz.pinned (OpenSpec.ofChange fnExactCocycleBasisSpec)

/-- ITS FALSE NEIGHBOUR: 'it returns false'. Refute it at one input. -/
def fnExactCocycleBasisWrong : ChangeSpec := { name := "fnExactCocycleBasis", fn := fun _ => fun
  | [d1, d2] => { results := [.lit (.bool false)], args := [d1, d2] }
  | _ => none }
def FnExactCocycleBasisWrongFalsely : Prop := fnExactCocycleBasisRow.holds Tryz.pinned (OpenSpec.ofChange fnExactCocycleBasisWrong)

/-- 'laws.FnExactGlobalSections': WHATEVER THE INPUT: true; the input reads as it did. -/
def fnExactGlobalSectionsSpec : ChangeSpec := { name := "fnExactGlobalSections", fn := fun _ => fun
  | [d] => { results := [.lit (.bool true)], args := [d] }
  | _ => none }
def fnExactGlobalSectionsRow : OpenClaim := { program := "ytmedfcilbiogmaagreat", sum := "09e01b8a1f62d2086b04e5ded5300872d83a85d3e82fe62568af85d9109b8e23", func := "loop.example/g01005/laws.FnExactGlobalSections", spec := "fnExactGlobalSections", unfollowed := true, recurses := true, apart := false }
def FnExactGlobalSectionsSaid : Prop := fnExactGlobalSectionsRow.holds Tryz.pinned (OpenSpec.ofChange fnExactGlobalSectionsSpec)

/-- ITS FALSE NEIGHBOUR: 'it returns false'. Refute it at one input. -/
def fnExactGlobalSectionsWrong : ChangeSpec := { name := "fnExactGlobalSections", fn := fun _ => fun
  | [d] => { results := [.lit (.bool false)], args := [d] }
  | _ => none }
def FnExactGlobalSectionsWrongFalsely : Prop := fnExactGlobalSectionsRow.holds Tryz.pinned (OpenSpec.ofChange fnExactGlobalSectionsWrong)

/-- 'laws.FnExactPrimitiveOf': WHATEVER THE INPUT: true; the input reads as it did. -/
def fnExactPrimitiveOfSpec : ChangeSpec := { name := "fnExactPrimitiveOf", fn := fun _ => fun
  | [d1, d2, d3] => { results := [.lit (.bool true)], args := [d1, d2, d3] }
  | _ => none }
def fnExactPrimitiveOfRow : OpenClaim := { program := "ytmedfcilbiogmaagreat", sum := "09e01b8a1f62d2086b04e5ded5300872d83a85d3e82fe62568af85d9109b8e23", func := "loop.example/g01005/laws.FnExactPrimitiveOf", spec := "fnExactPrimitiveOf", unfollowed := true, recurses := true, apart := false }
def FnExactPrimitiveOfSaid : Prop := fnExactPrimitiveOfRow.holds Tryz.pinned (OpenSpec.ofChange fnExactPrimitiveOfSpec)

/-- ITS FALSE NEIGHBOUR: 'it returns false'. Refute it at one input. -/
def fnExactPrimitiveOfWrong : ChangeSpec := { name := "fnExactPrimitiveOf", fn := fun _ => fun
  | [d1, d2, d3] => { results := [.lit (.bool false)], args := [d1, d2, d3] }
  | _ => none }
def FnExactPrimitiveOfWrongFalsely : Prop := fnExactPrimitiveOfRow.holds Tryz.pinned (OpenSpec.ofChange fnExactPrimitiveOfWrong)

/-- 'laws.FnExactIsCoboundary': WHATEVER THE INPUT: true; the input reads as it did. -/
def fnExactIsCoboundarySpec : ChangeSpec := { name := "fnExactIsCoboundary", fn := fun _ => fun
  | [d1, d2, d3] => { results := [.lit (.bool true)], args := [d1, d2, d3] }
  | _ => none }
def fnExactIsCoboundaryRow : OpenClaim := { program := "ytmedfcilbiogmaagreat", sum := "09e01b8a1f62d2086b04e5ded5300872d83a85d3e82fe62568af85d9109b8e23", func := "loop.example/g01005/laws.FnExactIsCoboundary", spec := "fnExactIsCoboundary", unfollowed := true, recurses := true, apart := false }
def FnExactIsCoboundarySaid : Prop := fnExactIsCoboundaryRow.holds Tryz.pinned (OpenSpec.ofChange fnExactIsCoboundarySpec)

/-- ITS FALSE NEIGHBOUR: 'it returns false'. Refute it at one input. -/
def fnExactIsCoboundaryWrong : ChangeSpec := { name := "fnExactIsCoboundary", fn := fun _ => fun
  | [d1, d2, d3] => { results := [.lit (.bool false)], args := [d1, d2, d3] }
  | _ => none }
def FnExactIsCoboundaryWrongFalsely : Prop := fnExactIsCoboundaryRow.holds Tryz.pinned (OpenSpec.ofChange fnExactIsCoboundaryWrong)

/-- 'laws.FnExactSameClass': WHATEVER THE INPUT: true; the input reads as it did. -/
def fnExactSameClassSpec : ChangeSpec := { name := "fnExactSameClass", fn := fun _ => fun
  | [d1, d2, d3, d4] => { results := [.lit (.bool true)], args := [d1, d2, d3, d4] }
  | _ => none }
def fnExactSameClassRow : OpenClaim := { program := "ytmedfcilbiogmaagreat", sum := "09e01b8a1f62d2086b04e5ded5300872d83a85d3e82fe62568af85d9109b8e23", func := "loop.example/g01005/laws.FnExactSameClass", spec := "fnExactSameClass", unfollowed := true, recurses := true, apart := false }
def FnExactSameClassSaid : Prop := fnExactSameClassRow.holds Tryz.pinned (OpenSpec.ofChange fnExactSameClassSpec)

/-- ITS FALSE NEIGHBOUR: 'it returns false'. Refute it at one input. -/
def fnExactSameClassWrong : ChangeSpec := { name := "fnExactSameClass", fn := fun _ => fun
  | [d1, d2, d3, d4] => { results := [.lit (.bool false)], args := [d1, d2, d3, d4] }
  | _ => none }
def FnExactSameClassWrongFalsely : Prop := fnExactSameClassRow.holds Tryz.pinned (OpenSpec.ofChange fnExactSameClassWrong)

/-- 'laws.FnExactExtensionFreedom': WHATEVER THE INPUT: true; the input reads as it did. -/
def fnExactExtensionFreedomSpec : ChangeSpec := { name := "fnExactExtensionFreedom", fn := fun _ => fun
  | [d1, d2] => { results := [.lit (.bool true)], args := [d1, d2] }
  | _ => none }
def fnExactExtensionFreedomRow : OpenClaim := { program := "ytmedfcilbiogmaagreat", sum := "09e01b8a1f62d2086b04e5ded5300872d83a85d3e82fe62568af85d9109b8e23", func := "loop.example/g01005/laws.FnExactExtensionFreedom", spec := "fnExactExtensionFreedom", unfollowed := true, recurses := true, apart := false }
def FnExactExtensionFreedomSaid : Prop := fnExactExtensionFreedomRow.holds Tryz.pinned (OpenSpec.ofChange fnExactExtensionFreedomSpec)

/-- ITS FALSE NEIGHBOUR: 'it returns false'. Refute it at one input. -/
def fnExactExtensionFreedomWrong : ChangeSpec := { name := "fnExactExtensionFreedom", fn := fun _ => fun
  | [d1, d2] => { results := [.lit (.bool false)], args := [d1, d2] }
  | _ => none }
def FnExactExtensionFreedomWrongFalsely : Prop := fnExactExtensionFreedomRow.holds Tryz.pinned (OpenSpec.ofChange fnExactExtensionFreedomWrong)

/-- 'laws.FnExactLocalSections': WHATEVER THE INPUT: true; the input reads as it did. -/
def fnExactLocalSectionsSpec : ChangeSpec := { name := "fnExactLocalSections", fn := fun _ => fun
  | [d1, d2] => { results := [.lit (.bool true)], args := [d1, d2] }
  | _ => none }
def fnExactLocalSectionsRow : OpenClaim := { program := "ytmedfcilbiogmaagreat", sum := "09e01b8a1f62d2086b04e5ded5300872d83a85d3e82fe62568af85d9109b8e23", func := "loop.example/g01005/laws.FnExactLocalSections", spec := "fnExactLocalSections", unfollowed := true, recurses := true, apart := false }
def FnExactLocalSectionsSaid : Prop := fnExactLocalSectionsRow.holds Tryz.pinned (OpenSpec.ofChange fnExactLocalSectionsSpec)

/-- ITS FALSE NEIGHBOUR: 'it returns false'. Refute it at one input. -/
def fnExactLocalSectionsWrong : ChangeSpec := { name := "fnExactLocalSections", fn := fun _ => fun
  | [d1, d2] => { results := [.lit (.bool false)], args := [d1, d2] }
  | _ => none }
def FnExactLocalSectionsWrongFalsely : Prop := fnExactLocalSectionsRow.holds Tryz.pinned (OpenSpec.ofChange fnExactLocalSectionsWrong)

/-- 'laws.FnExactExtendSection': WHATEVER THE INPUT: true; the input reads as it did. -/
def fnExactExtendSectionSpec : ChangeSpec := { name := "fnExactExtendSection", fn := fun _ => fun
  | [d1, d2, d3] => { results := [.lit (.bool true)], args := [d1, d2, d3] }
  | _ => none }
def fnExactExtendSectionRow : OpenClaim := { program := "ytmedfcilbiogmaagreat", sum := "09e01b8a1f62d2086b04e5ded5300872d83a85d3e82fe62568af85d9109b8e23", func := "loop.example/g01005/laws.FnExactExtendSection", spec := "fnExactExtendSection", unfollowed := true, recurses := true, apart := false }
def FnExactExtendSectionSaid : Prop := fnExactExtendSectionRow.holds Tryz.pinned (OpenSpec.ofChange fnExactExtendSectionSpec)

/-- ITS FALSE NEIGHBOUR: 'it returns false'. Refute it at one input. -/
def fnExactExtendSectionWrong : ChangeSpec := { name := "fnExactExtendSection", fn := fun _ => fun
  | [d1, d2, d3] => { results := [.lit (.bool false)], args := [d1, d2, d3] }
  | _ => none }
def FnExactExtendSectionWrongFalsely : Prop := fnExactExtendSectionRow.holds Tryz.pinned (OpenSpec.ofChange fnExactExtendSectionWrong)

/-- 'laws.FnExactFewestVertices': WHATEVER THE INPUT: true; the input reads as it did. -/
def fnExactFewestVerticesSpec : ChangeSpec := { name := "fnExactFewestVertices", fn := fun _ => fun
  | [d1, d2] => { results := [.lit (.bool true)], args := [d1, d2] }
  | _ => none }
def fnExactFewestVerticesRow : OpenClaim := { program := "ytmedfcilbiogmaagreat", sum := "09e01b8a1f62d2086b04e5ded5300872d83a85d3e82fe62568af85d9109b8e23", func := "loop.example/g01005/laws.FnExactFewestVertices", spec := "fnExactFewestVertices", unfollowed := true, recurses := true, apart := false }
def FnExactFewestVerticesSaid : Prop := fnExactFewestVerticesRow.holds Tryz.pinned (OpenSpec.ofChange fnExactFewestVerticesSpec)

/-- ITS FALSE NEIGHBOUR: 'it returns false'. Refute it at one input. -/
def fnExactFewestVerticesWrong : ChangeSpec := { name := "fnExactFewestVertices", fn := fun _ => fun
  | [d1, d2] => { results := [.lit (.bool false)], args := [d1, d2] }
  | _ => none }
def FnExactFewestVerticesWrongFalsely : Prop := fnExactFewestVerticesRow.holds Tryz.pinned (OpenSpec.ofChange fnExactFewestVerticesWrong)

/-- 'laws.FnExactCohomologyBasis': WHATEVER THE INPUT: true; the input reads as it did. -/
def fnExactCohomologyBasisSpec : ChangeSpec := { name := "fnExactCohomologyBasis", fn := fun _ => fun
  | [d1, d2] => { results := [.lit (.bool true)], args := [d1, d2] }
  | _ => none }
def fnExactCohomologyBasisRow : OpenClaim := { program := "ytmedfcilbiogmaagreat", sum := "09e01b8a1f62d2086b04e5ded5300872d83a85d3e82fe62568af85d9109b8e23", func := "loop.example/g01005/laws.FnExactCohomologyBasis", spec := "fnExactCohomologyBasis", unfollowed := true, recurses := true, apart := false }
def FnExactCohomologyBasisSaid : Prop := fnExactCohomologyBasisRow.holds Tryz.pinned (OpenSpec.ofChange fnExactCohomologyBasisSpec)

/-- ITS FALSE NEIGHBOUR: 'it returns false'. Refute it at one input. -/
def fnExactCohomologyBasisWrong : ChangeSpec := { name := "fnExactCohomologyBasis", fn := fun _ => fun
  | [d1, d2] => { results := [.lit (.bool false)], args := [d1, d2] }
  | _ => none }
def FnExactCohomologyBasisWrongFalsely : Prop := fnExactCohomologyBasisRow.holds Tryz.pinned (OpenSpec.ofChange fnExactCohomologyBasisWrong)

/-- 'laws.FnExactHomologyBasis': WHATEVER THE INPUT: true; the input reads as it did. -/
def fnExactHomologyBasisSpec : ChangeSpec := { name := "fnExactHomologyBasis", fn := fun _ => fun
  | [d1, d2, d3] => { results := [.lit (.bool true)], args := [d1, d2, d3] }
  | _ => none }
def fnExactHomologyBasisRow : OpenClaim := { program := "ytmedfcilbiogmaagreat", sum := "09e01b8a1f62d2086b04e5ded5300872d83a85d3e82fe62568af85d9109b8e23", func := "loop.example/g01005/laws.FnExactHomologyBasis", spec := "fnExactHomologyBasis", unfollowed := true, recurses := true, apart := false }
def FnExactHomologyBasisSaid : Prop := fnExactHomologyBasisRow.holds Tryz.pinned (OpenSpec.ofChange fnExactHomologyBasisSpec)

/-- ITS FALSE NEIGHBOUR: 'it returns false'. Refute it at one input. -/
def fnExactHomologyBasisWrong : ChangeSpec := { name := "fnExactHomologyBasis", fn := fun _ => fun
  | [d1, d2, d3] => { results := [.lit (.bool false)], args := [d1, d2, d3] }
  | _ => none }
def FnExactHomologyBasisWrongFalsely : Prop := fnExactHomologyBasisRow.holds Tryz.pinned (OpenSpec.ofChange fnExactHomologyBasisWrong)

/- THE SECOND FORM. 'bulk': how many values and letters a reading holds, each counted each time it is reached (what is shared counts as often as it is met; a slice's spare places count too). A statement '..UptoSaid' is the law's where the arguments, and the package variables that the reading takes, are together of bulk at most 1048576: NARROWER than '..Said'. Prove '..Said' where nothing that the law and all that it calls make is longer than what came in: it says more and counts as full. Else prove '..UptoSaid'. A law counts once. -/
mutual
def uptoBulk {H : Type} : DataW H → Nat
  | .lit (.string bytes) => bytes.length + 1
  | .lit _ => 1
  | .nil => 1
  | .ptr d => uptoBulk d + 1
  | .slice elems spare => uptoBulkAll elems + uptoBulkAll spare + 1
  | .agg parts => uptoBulkAll parts + 1
  | .iface _ d => uptoBulk d + 1
  | .map entries => uptoBulkEntries entries + 1
  | .held _ => 1
def uptoBulkAll {H : Type} : List (DataW H) → Nat
  | [] => 0
  | d :: r => uptoBulk d + uptoBulkAll r
def uptoBulkEntries {H : Type} : List (Lit × DataW H) → Nat
  | [] => 0
  | x :: r => uptoBulkEntry x + uptoBulkEntries r
def uptoBulkEntry {H : Type} : Lit × DataW H → Nat
  | (.string bytes, d) => bytes.length + uptoBulk d + 1
  | (_, d) => uptoBulk d + 1
 end
def uptoSmall : (H : Type) → List (DataW H) → Bool := fun _ ds => decide (uptoBulkAll ds ≤ 1048576)
def OpenSpec.upto (s : _root_.Go.ChangeSpec) : _root_.Go.OpenSpec := { _root_.Go.OpenSpec.ofChange s with cond := some uptoSmall }

/-- 'laws.FnExactValuesOn', WHERE WHAT IT READS IS OF BULK AT MOST 1048576: true; the input reads as it did. -/
def fnExactValuesOnUptoRow : OpenClaim := { program := "ytmedfcilbiogmaagreat", sum := "09e01b8a1f62d2086b04e5ded5300872d83a85d3e82fe62568af85d9109b8e23", func := "loop.example/g01005/laws.FnExactValuesOn", spec := "fnExactValuesOn", unfollowed := true, recurses := true, apart := false, narrowed := true }
def FnExactValuesOnUptoSaid : Prop := fnExactValuesOnUptoRow.holds Tryz.pinned (OpenSpec.upto fnExactValuesOnSpec)

/-- 'laws.FnExactCocycleBasis', WHERE WHAT IT READS IS OF BULK AT MOST 1048576: true; the input reads as it did. -/
def fnExactCocycleBasisUptoRow : OpenClaim := { program := "ytmedfcilbiogmaagreat", sum := "09e01b8a1f62d2086b04e5ded5300872d83a85d3e82fe62568af85d9109b8e23", func := "loop.example/g01005/laws.FnExactCocycleBasis", spec := "fnExactCocycleBasis", unfollowed := true, recurses := true, apart := false, narrowed := true }
def FnExactCocycleBasisUptoSaid : Prop := fnExactCocycleBasisUptoRow.holds Tryz.pinned (OpenSpec.upto fnExactCocycleBasisSpec)

/-- 'laws.FnExactGlobalSections', WHERE WHAT IT READS IS OF BULK AT MOST 1048576: true; the input reads as it did. -/
def fnExactGlobalSectionsUptoRow : OpenClaim := { program := "ytmedfcilbiogmaagreat", sum := "09e01b8a1f62d2086b04e5ded5300872d83a85d3e82fe62568af85d9109b8e23", func := "loop.example/g01005/laws.FnExactGlobalSections", spec := "fnExactGlobalSections", unfollowed := true, recurses := true, apart := false, narrowed := true }
def FnExactGlobalSectionsUptoSaid : Prop := fnExactGlobalSectionsUptoRow.holds Tryz.pinned (OpenSpec.upto fnExactGlobalSectionsSpec)

/-- 'laws.FnExactPrimitiveOf', WHERE WHAT IT READS IS OF BULK AT MOST 1048576: true; the input reads as it did. -/
def fnExactPrimitiveOfUptoRow : OpenClaim := { program := "ytmedfcilbiogmaagreat", sum := "09e01b8a1f62d2086b04e5ded5300872d83a85d3e82fe62568af85d9109b8e23", func := "loop.example/g01005/laws.FnExactPrimitiveOf", spec := "fnExactPrimitiveOf", unfollowed := true, recurses := true, apart := false, narrowed := true }
def FnExactPrimitiveOfUptoSaid : Prop := fnExactPrimitiveOfUptoRow.holds Tryz.pinned (OpenSpec.upto fnExactPrimitiveOfSpec)

/-- 'laws.FnExactIsCoboundary', WHERE WHAT IT READS IS OF BULK AT MOST 1048576: true; the input reads as it did. -/
def fnExactIsCoboundaryUptoRow : OpenClaim := { program := "ytmedfcilbiogmaagreat", sum := "09e01b8a1f62d2086b04e5ded5300872d83a85d3e82fe62568af85d9109b8e23", func := "loop.example/g01005/laws.FnExactIsCoboundary", spec := "fnExactIsCoboundary", unfollowed := true, recurses := true, apart := false, narrowed := true }
def FnExactIsCoboundaryUptoSaid : Prop := fnExactIsCoboundaryUptoRow.holds Tryz.pinned (OpenSpec.upto fnExactIsCoboundarySpec)

/-- 'laws.FnExactSameClass', WHERE WHAT IT READS IS OF BULK AT MOST 1048576: true; the input reads as it did. -/
def fnExactSameClassUptoRow : OpenClaim := { program := "ytmedfcilbiogmaagreat", sum := "09e01b8a1f62d2086b04e5ded5300872d83a85d3e82fe62568af85d9109b8e23", func := "loop.example/g01005/laws.FnExactSameClass", spec := "fnExactSameClass", unfollowed := true, recurses := true, apart := false, narrowed := true }
def FnExactSameClassUptoSaid : Prop := fnExactSameClassUptoRow.holds Tryz.pinned (OpenSpec.upto fnExactSameClassSpec)

/-- 'laws.FnExactExtensionFreedom', WHERE WHAT IT READS IS OF BULK AT MOST 1048576: true; the input reads as it did. -/
def fnExactExtensionFreedomUptoRow : OpenClaim := { program := "ytmedfcilbiogmaagreat", sum := "09e01b8a1f62d2086b04e5ded5300872d83a85d3e82fe62568af85d9109b8e23", func := "loop.example/g01005/laws.FnExactExtensionFreedom", spec := "fnExactExtensionFreedom", unfollowed := true, recurses := true, apart := false, narrowed := true }
def FnExactExtensionFreedomUptoSaid : Prop := fnExactExtensionFreedomUptoRow.holds Tryz.pinned (OpenSpec.upto fnExactExtensionFreedomSpec)

/-- 'laws.FnExactLocalSections', WHERE WHAT IT READS IS OF BULK AT MOST 1048576: true; the input reads as it did. -/
def fnExactLocalSectionsUptoRow : OpenClaim := { program := "ytmedfcilbiogmaagreat", sum := "09e01b8a1f62d2086b04e5ded5300872d83a85d3e82fe62568af85d9109b8e23", func := "loop.example/g01005/laws.FnExactLocalSections", spec := "fnExactLocalSections", unfollowed := true, recurses := true, apart := false, narrowed := true }
def FnExactLocalSectionsUptoSaid : Prop := fnExactLocalSectionsUptoRow.holds Tryz.pinned (OpenSpec.upto fnExactLocalSectionsSpec)

/-- 'laws.FnExactExtendSection', WHERE WHAT IT READS IS OF BULK AT MOST 1048576: true; the input reads as it did. -/
def fnExactExtendSectionUptoRow : OpenClaim := { program := "ytmedfcilbiogmaagreat", sum := "09e01b8a1f62d2086b04e5ded5300872d83a85d3e82fe62568af85d9109b8e23", func := "loop.example/g01005/laws.FnExactExtendSection", spec := "fnExactExtendSection", unfollowed := true, recurses := true, apart := false, narrowed := true }
def FnExactExtendSectionUptoSaid : Prop := fnExactExtendSectionUptoRow.holds Tryz.pinned (OpenSpec.upto fnExactExtendSectionSpec)

/-- 'laws.FnExactFewestVertices', WHERE WHAT IT READS IS OF BULK AT MOST 1048576: true; the input reads as it did. -/
def fnExactFewestVerticesUptoRow : OpenClaim := { program := "ytmedfcilbiogmaagreat", sum := "09e01b8a1f62d2086b04e5ded5300872d83a85d3e82fe62568af85d9109b8e23", func := "loop.example/g01005/laws.FnExactFewestVertices", spec := "fnExactFewestVertices", unfollowed := true, recurses := true, apart := false, narrowed := true }
def FnExactFewestVerticesUptoSaid : Prop := fnExactFewestVerticesUptoRow.holds Tryz.pinned (OpenSpec.upto fnExactFewestVerticesSpec)

/-- 'laws.FnExactCohomologyBasis', WHERE WHAT IT READS IS OF BULK AT MOST 1048576: true; the input reads as it did. -/
def fnExactCohomologyBasisUptoRow : OpenClaim := { program := "ytmedfcilbiogmaagreat", sum := "09e01b8a1f62d2086b04e5ded5300872d83a85d3e82fe62568af85d9109b8e23", func := "loop.example/g01005/laws.FnExactCohomologyBasis", spec := "fnExactCohomologyBasis", unfollowed := true, recurses := true, apart := false, narrowed := true }
def FnExactCohomologyBasisUptoSaid : Prop := fnExactCohomologyBasisUptoRow.holds Tryz.pinned (OpenSpec.upto fnExactCohomologyBasisSpec)

/-- 'laws.FnExactHomologyBasis', WHERE WHAT IT READS IS OF BULK AT MOST 1048576: true; the input reads as it did. -/
def fnExactHomologyBasisUptoRow : OpenClaim := { program := "ytmedfcilbiogmaagreat", sum := "09e01b8a1f62d2086b04e5ded5300872d83a85d3e82fe62568af85d9109b8e23", func := "loop.example/g01005/laws.FnExactHomologyBasis", spec := "fnExactHomologyBasis", unfollowed := true, recurses := true, apart := false, narrowed := true }
def FnExactHomologyBasisUptoSaid : Prop := fnExactHomologyBasisUptoRow.holds Tryz.pinned (OpenSpec.upto fnExactHomologyBasisSpec)

end Rows
end Go.Proofs.YtmedfcilbiogmaaGreat
