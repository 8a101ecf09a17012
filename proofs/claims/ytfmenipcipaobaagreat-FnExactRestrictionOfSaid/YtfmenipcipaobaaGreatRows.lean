/-
  No cell of these rows narrows 'for every input' (looked for: loops, veiled, ifaces, maps, wideKeys, modest, calm, conditions, laid).
  DERIVED. THE GIVEN ROWS OF THIS SEAT. 6 by the template 'for every input the law returns true; each argument reads behind the call as it read before'; 0 by the template 'total and deterministic' (their statements: YtfmenipcipaobaaGreatTotals.lean).
  GIVEN WITH THE SEED: the statements are not yours to turn. If you find one false, say at which input.
  Laid BY PROGRAM, IN A SANDBOX (cutbox-rows.mjs): the forced cells as the released guide's own fill.sh prints them over the translation bb5e1436ad6b7b12… (all of the seat's roots in one cut). By AI agents, Wed Nov 11 2026. No macro, syntax, notation, axiom, sorry.
-/
import Derived.Test.YtfmenipcipaobaaGreatChecked
import GoSem.Claim
import GoSem.ClaimJoined
import GoSem.ClaimMapViews
import Derived.JoinedTies
import Derived.KernelRfl
namespace Go.Proofs.YtfmenipcipaobaaGreat
/- THE CELL 'sum', in the pinned program and in every row, IS THE sha256 OF THE DUMP (.gsa) THAT YtfmenipcipaobaaGreatProg.lean LOADS. Nothing in Lean hashes anything: it is a label: what it is worth is what the hold of that sum in a sandbox is worth. -/
noncomputable def Tryz.pinned : Pinned := { name := "ytfmenipcipaobaagreat", sum := "bb5e1436ad6b7b1271b704d8e56558d5587b1797790c1eb4a736ab8670161b36", checked := Tryz.checked }
namespace Rows
def none {H : Type} : Left H := { results := [], args := [] }

/-- 'laws.FnExactIsSheaf': WHATEVER THE INPUT: true; the input reads as it did. -/
def fnExactIsSheafSpec : ChangeSpec := { name := "fnExactIsSheaf", fn := fun _ => fun
  | [d] => { results := [.lit (.bool true)], args := [d] }
  | _ => none }
def fnExactIsSheafRow : OpenClaim := { program := "ytfmenipcipaobaagreat", sum := "bb5e1436ad6b7b1271b704d8e56558d5587b1797790c1eb4a736ab8670161b36", func := "loop.example/g01005/laws.FnExactIsSheaf", spec := "fnExactIsSheaf", unfollowed := true, recurses := true, apart := false }
def FnExactIsSheafSaid : Prop := fnExactIsSheafRow.holds Tryz.pinned (OpenSpec.ofChange fnExactIsSheafSpec)

/-- ITS FALSE NEIGHBOUR: 'it returns false'. Refute it at one input. -/
def fnExactIsSheafWrong : ChangeSpec := { name := "fnExactIsSheaf", fn := fun _ => fun
  | [d] => { results := [.lit (.bool false)], args := [d] }
  | _ => none }
def FnExactIsSheafWrongFalsely : Prop := fnExactIsSheafRow.holds Tryz.pinned (OpenSpec.ofChange fnExactIsSheafWrong)

/-- 'laws.FnExactWrongSquare': WHATEVER THE INPUT: true; the input reads as it did. -/
def fnExactWrongSquareSpec : ChangeSpec := { name := "fnExactWrongSquare", fn := fun _ => fun
  | [d] => { results := [.lit (.bool true)], args := [d] }
  | _ => none }
def fnExactWrongSquareRow : OpenClaim := { program := "ytfmenipcipaobaagreat", sum := "bb5e1436ad6b7b1271b704d8e56558d5587b1797790c1eb4a736ab8670161b36", func := "loop.example/g01005/laws.FnExactWrongSquare", spec := "fnExactWrongSquare", unfollowed := true, recurses := true, apart := false }
def FnExactWrongSquareSaid : Prop := fnExactWrongSquareRow.holds Tryz.pinned (OpenSpec.ofChange fnExactWrongSquareSpec)

/-- ITS FALSE NEIGHBOUR: 'it returns false'. Refute it at one input. -/
def fnExactWrongSquareWrong : ChangeSpec := { name := "fnExactWrongSquare", fn := fun _ => fun
  | [d] => { results := [.lit (.bool false)], args := [d] }
  | _ => none }
def FnExactWrongSquareWrongFalsely : Prop := fnExactWrongSquareRow.holds Tryz.pinned (OpenSpec.ofChange fnExactWrongSquareWrong)

/-- 'laws.FnClasses': WHATEVER THE INPUT: true; the input reads as it did. -/
def fnClassesSpec : ChangeSpec := { name := "fnClasses", fn := fun _ => fun
  | [d1, d2] => { results := [.lit (.bool true)], args := [d1, d2] }
  | _ => none }
def fnClassesRow : OpenClaim := { program := "ytfmenipcipaobaagreat", sum := "bb5e1436ad6b7b1271b704d8e56558d5587b1797790c1eb4a736ab8670161b36", func := "loop.example/g01005/laws.FnClasses", spec := "fnClasses", unfollowed := true, recurses := true, apart := false }
def FnClassesSaid : Prop := fnClassesRow.holds Tryz.pinned (OpenSpec.ofChange fnClassesSpec)

/-- ITS FALSE NEIGHBOUR: 'it returns false'. Refute it at one input. -/
def fnClassesWrong : ChangeSpec := { name := "fnClasses", fn := fun _ => fun
  | [d1, d2] => { results := [.lit (.bool false)], args := [d1, d2] }
  | _ => none }
def FnClassesWrongFalsely : Prop := fnClassesRow.holds Tryz.pinned (OpenSpec.ofChange fnClassesWrong)

/-- 'laws.FnExactSheafEuler': WHATEVER THE INPUT: true; the input reads as it did. -/
def fnExactSheafEulerSpec : ChangeSpec := { name := "fnExactSheafEuler", fn := fun _ => fun
  | [d] => { results := [.lit (.bool true)], args := [d] }
  | _ => none }
def fnExactSheafEulerRow : OpenClaim := { program := "ytfmenipcipaobaagreat", sum := "bb5e1436ad6b7b1271b704d8e56558d5587b1797790c1eb4a736ab8670161b36", func := "loop.example/g01005/laws.FnExactSheafEuler", spec := "fnExactSheafEuler", unfollowed := true, recurses := true, apart := false }
def FnExactSheafEulerSaid : Prop := fnExactSheafEulerRow.holds Tryz.pinned (OpenSpec.ofChange fnExactSheafEulerSpec)

/-- ITS FALSE NEIGHBOUR: 'it returns false'. Refute it at one input. -/
def fnExactSheafEulerWrong : ChangeSpec := { name := "fnExactSheafEuler", fn := fun _ => fun
  | [d] => { results := [.lit (.bool false)], args := [d] }
  | _ => none }
def FnExactSheafEulerWrongFalsely : Prop := fnExactSheafEulerRow.holds Tryz.pinned (OpenSpec.ofChange fnExactSheafEulerWrong)

/-- 'laws.FnExactHomologyBasis': WHATEVER THE INPUT: true; the input reads as it did. -/
def fnExactHomologyBasisSpec : ChangeSpec := { name := "fnExactHomologyBasis", fn := fun _ => fun
  | [d1, d2, d3] => { results := [.lit (.bool true)], args := [d1, d2, d3] }
  | _ => none }
def fnExactHomologyBasisRow : OpenClaim := { program := "ytfmenipcipaobaagreat", sum := "bb5e1436ad6b7b1271b704d8e56558d5587b1797790c1eb4a736ab8670161b36", func := "loop.example/g01005/laws.FnExactHomologyBasis", spec := "fnExactHomologyBasis", unfollowed := true, recurses := true, apart := false }
def FnExactHomologyBasisSaid : Prop := fnExactHomologyBasisRow.holds Tryz.pinned (OpenSpec.ofChange fnExactHomologyBasisSpec)

/-- ITS FALSE NEIGHBOUR: 'it returns false'. Refute it at one input. -/
def fnExactHomologyBasisWrong : ChangeSpec := { name := "fnExactHomologyBasis", fn := fun _ => fun
  | [d1, d2, d3] => { results := [.lit (.bool false)], args := [d1, d2, d3] }
  | _ => none }
def FnExactHomologyBasisWrongFalsely : Prop := fnExactHomologyBasisRow.holds Tryz.pinned (OpenSpec.ofChange fnExactHomologyBasisWrong)

/-- 'laws.FnExactRestrictionOf': WHATEVER THE INPUT: true; the input reads as it did. -/
def fnExactRestrictionOfSpec : ChangeSpec := { name := "fnExactRestrictionOf", fn := fun _ => fun
  | [d1, d2, d3] => { results := [.lit (.bool true)], args := [d1, d2, d3] }
  | _ => none }
def fnExactRestrictionOfRow : OpenClaim := { program := "ytfmenipcipaobaagreat", sum := "bb5e1436ad6b7b1271b704d8e56558d5587b1797790c1eb4a736ab8670161b36", func := "loop.example/g01005/laws.FnExactRestrictionOf", spec := "fnExactRestrictionOf", unfollowed := true, recurses := true, apart := false }
def FnExactRestrictionOfSaid : Prop := fnExactRestrictionOfRow.holds Tryz.pinned (OpenSpec.ofChange fnExactRestrictionOfSpec)

/-- ITS FALSE NEIGHBOUR: 'it returns false'. Refute it at one input. -/
def fnExactRestrictionOfWrong : ChangeSpec := { name := "fnExactRestrictionOf", fn := fun _ => fun
  | [d1, d2, d3] => { results := [.lit (.bool false)], args := [d1, d2, d3] }
  | _ => none }
def FnExactRestrictionOfWrongFalsely : Prop := fnExactRestrictionOfRow.holds Tryz.pinned (OpenSpec.ofChange fnExactRestrictionOfWrong)

/- THE SECOND FORM. 'bulk': how many values and letters a reading holds, each counted each time it is reached (what is shared counts as often as it is met; a slice's spare places count too). A statement '..UptoSaid' is the law's where the arguments, and the package variables that the reading takes, are together of bulk at most 1048576: NARROWER than '..Said'. Prove '..Said' where nothing that the law and all that it calls make is longer than what came in: it says more and counts as full. Else prove '..UptoSaid'. A law counts once. -/
mutual
def uptoBulk {H : Type} : DataW H → Nat
  | .lit (.string bytes) => bytes.length + 1
  | .lit _ => 1
  | .nil => 1
  | .ptr d => uptoBulk d + 1
  | .slice elems spare => uptoBulkAll elems + uptoBulkAll spare + 1
  | .agg parts => uptoBulkAll parts + 1
  | .iface _ d => uptoBulk d + 1
  | .map entries => uptoBulkEntries entries + 1
  | .held _ => 1
def uptoBulkAll {H : Type} : List (DataW H) → Nat
  | [] => 0
  | d :: r => uptoBulk d + uptoBulkAll r
def uptoBulkEntries {H : Type} : List (Lit × DataW H) → Nat
  | [] => 0
  | x :: r => uptoBulkEntry x + uptoBulkEntries r
def uptoBulkEntry {H : Type} : Lit × DataW H → Nat
  | (.string bytes, d) => bytes.length + uptoBulk d + 1
  | (_, d) => uptoBulk d + 1
 end
def uptoSmall : (H : Type) → List (DataW H) → Bool := fun _ ds => decide (uptoBulkAll ds ≤ 1048576)
def OpenSpec.upto (s : _root_.Go.ChangeSpec) : _root_.Go.OpenSpec := { _root_.Go.OpenSpec.ofChange s with cond := some uptoSmall }

/-- 'laws.FnExactIsSheaf', WHERE WHAT IT READS IS OF BULK AT MOST 1048576: true; the input reads as it did. -/
def fnExactIsSheafUptoRow : OpenClaim := { program := "ytfmenipcipaobaagreat", sum := "bb5e1436ad6b7b1271b704d8e56558d5587b1797790c1eb4a736ab8670161b36", func := "loop.example/g01005/laws.FnExactIsSheaf", spec := "fnExactIsSheaf", unfollowed := true, recurses := true, apart := false, narrowed := true }
def FnExactIsSheafUptoSaid : Prop := fnExactIsSheafUptoRow.holds Tryz.pinned (OpenSpec.upto fnExactIsSheafSpec)

/-- 'laws.FnExactWrongSquare', WHERE WHAT IT READS IS OF BULK AT MOST 1048576: true; the input reads as it did. -/
def fnExactWrongSquareUptoRow : OpenClaim := { program := "ytfmenipcipaobaagreat", sum := "bb5e1436ad6b7b1271b704d8e56558d5587b1797790c1eb4a736ab8670161b36", func := "loop.example/g01005/laws.FnExactWrongSquare", spec := "fnExactWrongSquare", unfollowed := true, recurses := true, apart := false, narrowed := true }
def FnExactWrongSquareUptoSaid : Prop := fnExactWrongSquareUptoRow.holds Tryz.pinned (OpenSpec.upto fnExactWrongSquareSpec)

/-- 'laws.FnClasses', WHERE WHAT IT READS IS OF BULK AT MOST 1048576: true; the input reads as it did. -/
def fnClassesUptoRow : OpenClaim := { program := "ytfmenipcipaobaagreat", sum := "bb5e1436ad6b7b1271b704d8e56558d5587b1797790c1eb4a736ab8670161b36", func := "loop.example/g01005/laws.FnClasses", spec := "fnClasses", unfollowed := true, recurses := true, apart := false, narrowed := true }
def FnClassesUptoSaid : Prop := fnClassesUptoRow.holds Tryz.pinned (OpenSpec.upto fnClassesSpec)

/-- 'laws.FnExactSheafEuler', WHERE WHAT IT READS IS OF BULK AT MOST 1048576: true; the input reads as it did. -/
def fnExactSheafEulerUptoRow : OpenClaim := { program := "ytfmenipcipaobaagreat", sum := "bb5e1436ad6b7b1271b704d8e56558d5587b1797790c1eb4a736ab8670161b36", func := "loop.example/g01005/laws.FnExactSheafEuler", spec := "fnExactSheafEuler", unfollowed := true, recurses := true, apart := false, narrowed := true }
def FnExactSheafEulerUptoSaid : Prop := fnExactSheafEulerUptoRow.holds Tryz.pinned (OpenSpec.upto fnExactSheafEulerSpec)

/-- 'laws.FnExactHomologyBasis', WHERE WHAT IT READS IS OF BULK AT MOST 1048576: true; the input reads as it did. -/
def fnExactHomologyBasisUptoRow : OpenClaim := { program := "ytfmenipcipaobaagreat", sum := "bb5e1436ad6b7b1271b704d8e56558d5587b1797790c1eb4a736ab8670161b36", func := "loop.example/g01005/laws.FnExactHomologyBasis", spec := "fnExactHomologyBasis", unfollowed := true, recurses := true, apart := false, narrowed := true }
def FnExactHomologyBasisUptoSaid : Prop := fnExactHomologyBasisUptoRow.holds Tryz.pinned (OpenSpec.upto fnExactHomologyBasisSpec)

/-- 'laws.FnExactRestrictionOf', WHERE WHAT IT READS IS OF BULK AT MOST 1048576: true; the input reads as it did. -/
def fnExactRestrictionOfUptoRow : OpenClaim := { program := "ytfmenipcipaobaagreat", sum := "bb5e1436ad6b7b1271b704d8e56558d5587b1797790c1eb4a736ab8670161b36", func := "loop.example/g01005/laws.FnExactRestrictionOf", spec := "fnExactRestrictionOf", unfollowed := true, recurses := true, apart := false, narrowed := true }
def FnExactRestrictionOfUptoSaid : Prop := fnExactRestrictionOfUptoRow.holds Tryz.pinned (OpenSpec.upto fnExactRestrictionOfSpec)

end Rows
end Go.Proofs.YtfmenipcipaobaaGreat
