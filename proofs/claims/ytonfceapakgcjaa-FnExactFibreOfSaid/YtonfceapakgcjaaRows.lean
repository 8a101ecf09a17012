/-
  No cell of these rows narrows 'for every input' (looked for: loops, veiled, ifaces, maps, wideKeys, modest, calm, conditions, laid).
  DERIVED. THE GIVEN ROWS OF THIS SEAT. 4 by the template 'for every input the law returns true; each argument reads behind the call as it read before'; 0 by the template 'total and deterministic' (their statements: YtonfceapakgcjaaTotals.lean).
  GIVEN WITH THE SEED: the statements are not yours to turn. If you find one false, say at which input.
  Laid BY PROGRAM, IN A SANDBOX (cutbox-rows.mjs): the forced cells as the released guide's own fill.sh prints them over the translation 71577871acbc2b4f… (all of the seat's roots in one cut). By AI agents, Wed Nov 11 2026. No macro, syntax, notation, axiom, sorry.
-/
import Derived.Test.YtonfceapakgcjaaChecked
import GoSem.Claim
import GoSem.ClaimJoined
import GoSem.ClaimMapViews
import Derived.JoinedTies
import Derived.KernelRfl
namespace Go.Proofs.Ytonfceapakgcjaa
/- THE CELL 'sum', in the pinned program and in every row, IS THE sha256 OF THE DUMP (.gsa) THAT YtonfceapakgcjaaProg.lean LOADS. Nothing in Lean hashes anything: it is a label: what it is worth is what the hold of that sum in a sandbox is worth. -/
noncomputable def Try.pinned : Pinned := { name := "ytonfceapakgcjaa", sum := "71577871acbc2b4f1dbef4209128d270a415071a1e09a7e159b45b49d4baab34", checked := Try.checked }
namespace Rows
def none {H : Type} : Left H := { results := [], args := [] }

/-- 'laws.FnExactIsMap': WHATEVER THE INPUT: true; the input reads as it did. -/
def fnExactIsMapSpec : ChangeSpec := { name := "fnExactIsMap", fn := fun _ => fun
  | [d1, d2, d3] => { results := [.lit (.bool true)], args := [d1, d2, d3] }
  | _ => none }
def fnExactIsMapRow : OpenClaim := { program := "ytonfceapakgcjaa", sum := "71577871acbc2b4f1dbef4209128d270a415071a1e09a7e159b45b49d4baab34", func := "loop.example/g01005/laws.FnExactIsMap", spec := "fnExactIsMap", unfollowed := true, recurses := true, apart := false }
def FnExactIsMapSaid : Prop := fnExactIsMapRow.holds Try.pinned (OpenSpec.ofChange fnExactIsMapSpec)

/-- ITS FALSE NEIGHBOUR: 'it returns false'. Refute it at one input. -/
def fnExactIsMapWrong : ChangeSpec := { name := "fnExactIsMap", fn := fun _ => fun
  | [d1, d2, d3] => { results := [.lit (.bool false)], args := [d1, d2, d3] }
  | _ => none }
def FnExactIsMapWrongFalsely : Prop := fnExactIsMapRow.holds Try.pinned (OpenSpec.ofChange fnExactIsMapWrong)

/-- 'laws.FnExactSimplexImage': WHATEVER THE INPUT: true; the input reads as it did. -/
def fnExactSimplexImageSpec : ChangeSpec := { name := "fnExactSimplexImage", fn := fun _ => fun
  | [d1, d2, d3, d4] => { results := [.lit (.bool true)], args := [d1, d2, d3, d4] }
  | _ => none }
def fnExactSimplexImageRow : OpenClaim := { program := "ytonfceapakgcjaa", sum := "71577871acbc2b4f1dbef4209128d270a415071a1e09a7e159b45b49d4baab34", func := "loop.example/g01005/laws.FnExactSimplexImage", spec := "fnExactSimplexImage", unfollowed := true, recurses := true, apart := false }
def FnExactSimplexImageSaid : Prop := fnExactSimplexImageRow.holds Try.pinned (OpenSpec.ofChange fnExactSimplexImageSpec)

/-- ITS FALSE NEIGHBOUR: 'it returns false'. Refute it at one input. -/
def fnExactSimplexImageWrong : ChangeSpec := { name := "fnExactSimplexImage", fn := fun _ => fun
  | [d1, d2, d3, d4] => { results := [.lit (.bool false)], args := [d1, d2, d3, d4] }
  | _ => none }
def FnExactSimplexImageWrongFalsely : Prop := fnExactSimplexImageRow.holds Try.pinned (OpenSpec.ofChange fnExactSimplexImageWrong)

/-- 'laws.FnExactComposeMaps': WHATEVER THE INPUT: true; the input reads as it did. -/
def fnExactComposeMapsSpec : ChangeSpec := { name := "fnExactComposeMaps", fn := fun _ => fun
  | [d1, d2, d3, d4, d5] => { results := [.lit (.bool true)], args := [d1, d2, d3, d4, d5] }
  | _ => none }
def fnExactComposeMapsRow : OpenClaim := { program := "ytonfceapakgcjaa", sum := "71577871acbc2b4f1dbef4209128d270a415071a1e09a7e159b45b49d4baab34", func := "loop.example/g01005/laws.FnExactComposeMaps", spec := "fnExactComposeMaps", unfollowed := true, recurses := true, apart := false }
def FnExactComposeMapsSaid : Prop := fnExactComposeMapsRow.holds Try.pinned (OpenSpec.ofChange fnExactComposeMapsSpec)

/-- ITS FALSE NEIGHBOUR: 'it returns false'. Refute it at one input. -/
def fnExactComposeMapsWrong : ChangeSpec := { name := "fnExactComposeMaps", fn := fun _ => fun
  | [d1, d2, d3, d4, d5] => { results := [.lit (.bool false)], args := [d1, d2, d3, d4, d5] }
  | _ => none }
def FnExactComposeMapsWrongFalsely : Prop := fnExactComposeMapsRow.holds Try.pinned (OpenSpec.ofChange fnExactComposeMapsWrong)

/-- 'laws.FnExactFibreOf': WHATEVER THE INPUT: true; the input reads as it did. -/
def fnExactFibreOfSpec : ChangeSpec := { name := "fnExactFibreOf", fn := fun _ => fun
  | [d1, d2, d3, d4] => { results := [.lit (.bool true)], args := [d1, d2, d3, d4] }
  | _ => none }
def fnExactFibreOfRow : OpenClaim := { program := "ytonfceapakgcjaa", sum := "71577871acbc2b4f1dbef4209128d270a415071a1e09a7e159b45b49d4baab34", func := "loop.example/g01005/laws.FnExactFibreOf", spec := "fnExactFibreOf", unfollowed := true, recurses := true, apart := false }
def FnExactFibreOfSaid : Prop := fnExactFibreOfRow.holds Try.pinned (OpenSpec.ofChange fnExactFibreOfSpec)

/-- ITS FALSE NEIGHBOUR: 'it returns false'. Refute it at one input. -/
def fnExactFibreOfWrong : ChangeSpec := { name := "fnExactFibreOf", fn := fun _ => fun
  | [d1, d2, d3, d4] => { results := [.lit (.bool false)], args := [d1, d2, d3, d4] }
  | _ => none }
def FnExactFibreOfWrongFalsely : Prop := fnExactFibreOfRow.holds Try.pinned (OpenSpec.ofChange fnExactFibreOfWrong)

/- THE SECOND FORM. 'bulk': how many values and letters a reading holds, each counted each time it is reached (what is shared counts as often as it is met; a slice's spare places count too). A statement '..UptoSaid' is the law's where the arguments, and the package variables that the reading takes, are together of bulk at most 1048576: NARROWER than '..Said'. Prove '..Said' where nothing that the law and all that it calls make is longer than what came in: it says more and counts as full. Else prove '..UptoSaid'. A law counts once. -/
mutual
def uptoBulk {H : Type} : DataW H → Nat
  | .lit (.string bytes) => bytes.length + 1
  | .lit _ => 1
  | .nil => 1
  | .ptr d => uptoBulk d + 1
  | .slice elems spare => uptoBulkAll elems + uptoBulkAll spare + 1
  | .agg parts => uptoBulkAll parts + 1
  | .iface _ d => uptoBulk d + 1
  | .map entries => uptoBulkEntries entries + 1
  | .held _ => 1
def uptoBulkAll {H : Type} : List (DataW H) → Nat
  | [] => 0
  | d :: r => uptoBulk d + uptoBulkAll r
def uptoBulkEntries {H : Type} : List (Lit × DataW H) → Nat
  | [] => 0
  | x :: r => uptoBulkEntry x + uptoBulkEntries r
def uptoBulkEntry {H : Type} : Lit × DataW H → Nat
  | (.string bytes, d) => bytes.length + uptoBulk d + 1
  | (_, d) => uptoBulk d + 1
 end
def uptoSmall : (H : Type) → List (DataW H) → Bool := fun _ ds => decide (uptoBulkAll ds ≤ 1048576)
def OpenSpec.upto (s : _root_.Go.ChangeSpec) : _root_.Go.OpenSpec := { _root_.Go.OpenSpec.ofChange s with cond := some uptoSmall }

/-- 'laws.FnExactIsMap', WHERE WHAT IT READS IS OF BULK AT MOST 1048576: true; the input reads as it did. -/
def fnExactIsMapUptoRow : OpenClaim := { program := "ytonfceapakgcjaa", sum := "71577871acbc2b4f1dbef4209128d270a415071a1e09a7e159b45b49d4baab34", func := "loop.example/g01005/laws.FnExactIsMap", spec := "fnExactIsMap", unfollowed := true, recurses := true, apart := false, narrowed := true }
def FnExactIsMapUptoSaid : Prop := fnExactIsMapUptoRow.holds Try.pinned (OpenSpec.upto fnExactIsMapSpec)

/-- 'laws.FnExactSimplexImage', WHERE WHAT IT READS IS OF BULK AT MOST 1048576: true; the input reads as it did. -/
def fnExactSimplexImageUptoRow : OpenClaim := { program := "ytonfceapakgcjaa", sum := "71577871acbc2b4f1dbef4209128d270a415071a1e09a7e159b45b49d4baab34", func := "loop.example/g01005/laws.FnExactSimplexImage", spec := "fnExactSimplexImage", unfollowed := true, recurses := true, apart := false, narrowed := true }
def FnExactSimplexImageUptoSaid : Prop := fnExactSimplexImageUptoRow.holds Try.pinned (OpenSpec.upto fnExactSimplexImageSpec)

/-- 'laws.FnExactComposeMaps', WHERE WHAT IT READS IS OF BULK AT MOST 1048576: true; the input reads as it did. -/
def fnExactComposeMapsUptoRow : OpenClaim := { program := "ytonfceapakgcjaa", sum := "71577871acbc2b4f1dbef4209128d270a415071a1e09a7e159b45b49d4baab34", func := "loop.example/g01005/laws.FnExactComposeMaps", spec := "fnExactComposeMaps", unfollowed := true, recurses := true, apart := false, narrowed := true }
def FnExactComposeMapsUptoSaid : Prop := fnExactComposeMapsUptoRow.holds Try.pinned (OpenSpec.upto fnExactComposeMapsSpec)

/-- 'laws.FnExactFibreOf', WHERE WHAT IT READS IS OF BULK AT MOST 1048576: true; the input reads as it did. -/
def fnExactFibreOfUptoRow : OpenClaim := { program := "ytonfceapakgcjaa", sum := "71577871acbc2b4f1dbef4209128d270a415071a1e09a7e159b45b49d4baab34", func := "loop.example/g01005/laws.FnExactFibreOf", spec := "fnExactFibreOf", unfollowed := true, recurses := true, apart := false, narrowed := true }
def FnExactFibreOfUptoSaid : Prop := fnExactFibreOfUptoRow.holds Try.pinned (OpenSpec.upto fnExactFibreOfSpec)

end Rows
end Go.Proofs.Ytonfceapakgcjaa
