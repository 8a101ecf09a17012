/-
  No cell of these rows narrows 'for every input' (looked for: loops, veiled, ifaces, maps, wideKeys, modest, calm, conditions, laid).
  DERIVED. THE GIVEN ROWS OF THIS SEAT. 6 by the template 'for every input the law returns true; each argument reads behind the call as it read before'; 0 by the template 'total and deterministic' (their statements: YtfmenipcipaobaaTotals.lean).
  GIVEN WITH THE SEED: the statements are not yours to turn. If you find one false, say at which input.
  Laid BY PROGRAM, IN A SANDBOX (cutbox-rows.mjs): the forced cells as the released guide's own fill.sh prints them over the translation 57cd8d5cfb8be6c3… (all of the seat's roots in one cut). By AI agents, Wed Nov 11 2026. No macro, syntax, notation, axiom, sorry.
-/
import Derived.Test.YtfmenipcipaobaaChecked
import GoSem.Claim
import GoSem.ClaimJoined
import GoSem.ClaimMapViews
import Derived.JoinedTies
import Derived.KernelRfl
namespace Go.Proofs.Ytfmenipcipaobaa
/- THE CELL 'sum', in the pinned program and in every row, IS THE sha256 OF THE DUMP (.gsa) THAT YtfmenipcipaobaaProg.lean LOADS. Nothing in Lean hashes anything: it is a label: what it is worth is what the hold of that sum in a sandbox is worth. -/
noncomputable def Try.pinned : Pinned := { name := "ytfmenipcipaobaa", sum := "57cd8d5cfb8be6c380253a5173ec0a2234803757256593a3b362b496ba5bf4a8", checked := Try.checked }
namespace Rows
def none {H : Type} : Left H := { results := [], args := [] }

/-- 'laws.FnExactSameSheaf': WHATEVER THE INPUT: true; the input reads as it did. -/
def fnExactSameSheafSpec : ChangeSpec := { name := "fnExactSameSheaf", fn := fun _ => fun
  | [d1, d2] => { results := [.lit (.bool true)], args := [d1, d2] }
  | _ => none }
def fnExactSameSheafRow : OpenClaim := { program := "ytfmenipcipaobaa", sum := "57cd8d5cfb8be6c380253a5173ec0a2234803757256593a3b362b496ba5bf4a8", func := "loop.example/g01005/laws.FnExactSameSheaf", spec := "fnExactSameSheaf", unfollowed := true, recurses := true, apart := false }
def FnExactSameSheafSaid : Prop := fnExactSameSheafRow.holds Try.pinned (OpenSpec.ofChange fnExactSameSheafSpec)

/-- ITS FALSE NEIGHBOUR: 'it returns false'. Refute it at one input. -/
def fnExactSameSheafWrong : ChangeSpec := { name := "fnExactSameSheaf", fn := fun _ => fun
  | [d1, d2] => { results := [.lit (.bool false)], args := [d1, d2] }
  | _ => none }
def FnExactSameSheafWrongFalsely : Prop := fnExactSameSheafRow.holds Try.pinned (OpenSpec.ofChange fnExactSameSheafWrong)

/-- 'laws.FnExactFreePairs': WHATEVER THE INPUT: true; the input reads as it did. -/
def fnExactFreePairsSpec : ChangeSpec := { name := "fnExactFreePairs", fn := fun _ => fun
  | [d] => { results := [.lit (.bool true)], args := [d] }
  | _ => none }
def fnExactFreePairsRow : OpenClaim := { program := "ytfmenipcipaobaa", sum := "57cd8d5cfb8be6c380253a5173ec0a2234803757256593a3b362b496ba5bf4a8", func := "loop.example/g01005/laws.FnExactFreePairs", spec := "fnExactFreePairs", unfollowed := true, recurses := true, apart := false }
def FnExactFreePairsSaid : Prop := fnExactFreePairsRow.holds Try.pinned (OpenSpec.ofChange fnExactFreePairsSpec)

/-- ITS FALSE NEIGHBOUR: 'it returns false'. Refute it at one input. -/
def fnExactFreePairsWrong : ChangeSpec := { name := "fnExactFreePairs", fn := fun _ => fun
  | [d] => { results := [.lit (.bool false)], args := [d] }
  | _ => none }
def FnExactFreePairsWrongFalsely : Prop := fnExactFreePairsRow.holds Try.pinned (OpenSpec.ofChange fnExactFreePairsWrong)

/-- 'laws.FnExactValidSheaf': WHATEVER THE INPUT: true; the input reads as it did. -/
def fnExactValidSheafSpec : ChangeSpec := { name := "fnExactValidSheaf", fn := fun _ => fun
  | [d] => { results := [.lit (.bool true)], args := [d] }
  | _ => none }
def fnExactValidSheafRow : OpenClaim := { program := "ytfmenipcipaobaa", sum := "57cd8d5cfb8be6c380253a5173ec0a2234803757256593a3b362b496ba5bf4a8", func := "loop.example/g01005/laws.FnExactValidSheaf", spec := "fnExactValidSheaf", unfollowed := true, recurses := true, apart := false }
def FnExactValidSheafSaid : Prop := fnExactValidSheafRow.holds Try.pinned (OpenSpec.ofChange fnExactValidSheafSpec)

/-- ITS FALSE NEIGHBOUR: 'it returns false'. Refute it at one input. -/
def fnExactValidSheafWrong : ChangeSpec := { name := "fnExactValidSheaf", fn := fun _ => fun
  | [d] => { results := [.lit (.bool false)], args := [d] }
  | _ => none }
def FnExactValidSheafWrongFalsely : Prop := fnExactValidSheafRow.holds Try.pinned (OpenSpec.ofChange fnExactValidSheafWrong)

/-- 'laws.FnExactStalkSum': WHATEVER THE INPUT: true; the input reads as it did. -/
def fnExactStalkSumSpec : ChangeSpec := { name := "fnExactStalkSum", fn := fun _ => fun
  | [d1, d2] => { results := [.lit (.bool true)], args := [d1, d2] }
  | _ => none }
def fnExactStalkSumRow : OpenClaim := { program := "ytfmenipcipaobaa", sum := "57cd8d5cfb8be6c380253a5173ec0a2234803757256593a3b362b496ba5bf4a8", func := "loop.example/g01005/laws.FnExactStalkSum", spec := "fnExactStalkSum", unfollowed := true, recurses := true, apart := false }
def FnExactStalkSumSaid : Prop := fnExactStalkSumRow.holds Try.pinned (OpenSpec.ofChange fnExactStalkSumSpec)

/-- ITS FALSE NEIGHBOUR: 'it returns false'. Refute it at one input. -/
def fnExactStalkSumWrong : ChangeSpec := { name := "fnExactStalkSum", fn := fun _ => fun
  | [d1, d2] => { results := [.lit (.bool false)], args := [d1, d2] }
  | _ => none }
def FnExactStalkSumWrongFalsely : Prop := fnExactStalkSumRow.holds Try.pinned (OpenSpec.ofChange fnExactStalkSumWrong)

/-- 'laws.FnExactIsMap': WHATEVER THE INPUT: true; the input reads as it did. -/
def fnExactIsMapSpec : ChangeSpec := { name := "fnExactIsMap", fn := fun _ => fun
  | [d1, d2, d3] => { results := [.lit (.bool true)], args := [d1, d2, d3] }
  | _ => none }
def fnExactIsMapRow : OpenClaim := { program := "ytfmenipcipaobaa", sum := "57cd8d5cfb8be6c380253a5173ec0a2234803757256593a3b362b496ba5bf4a8", func := "loop.example/g01005/laws.FnExactIsMap", spec := "fnExactIsMap", unfollowed := true, recurses := true, apart := false }
def FnExactIsMapSaid : Prop := fnExactIsMapRow.holds Try.pinned (OpenSpec.ofChange fnExactIsMapSpec)

/-- ITS FALSE NEIGHBOUR: 'it returns false'. Refute it at one input. -/
def fnExactIsMapWrong : ChangeSpec := { name := "fnExactIsMap", fn := fun _ => fun
  | [d1, d2, d3] => { results := [.lit (.bool false)], args := [d1, d2, d3] }
  | _ => none }
def FnExactIsMapWrongFalsely : Prop := fnExactIsMapRow.holds Try.pinned (OpenSpec.ofChange fnExactIsMapWrong)

/-- 'laws.FnExactSimplexImage': WHATEVER THE INPUT: true; the input reads as it did. -/
def fnExactSimplexImageSpec : ChangeSpec := { name := "fnExactSimplexImage", fn := fun _ => fun
  | [d1, d2, d3, d4] => { results := [.lit (.bool true)], args := [d1, d2, d3, d4] }
  | _ => none }
def fnExactSimplexImageRow : OpenClaim := { program := "ytfmenipcipaobaa", sum := "57cd8d5cfb8be6c380253a5173ec0a2234803757256593a3b362b496ba5bf4a8", func := "loop.example/g01005/laws.FnExactSimplexImage", spec := "fnExactSimplexImage", unfollowed := true, recurses := true, apart := false }
def FnExactSimplexImageSaid : Prop := fnExactSimplexImageRow.holds Try.pinned (OpenSpec.ofChange fnExactSimplexImageSpec)

/-- ITS FALSE NEIGHBOUR: 'it returns false'. Refute it at one input. -/
def fnExactSimplexImageWrong : ChangeSpec := { name := "fnExactSimplexImage", fn := fun _ => fun
  | [d1, d2, d3, d4] => { results := [.lit (.bool false)], args := [d1, d2, d3, d4] }
  | _ => none }
def FnExactSimplexImageWrongFalsely : Prop := fnExactSimplexImageRow.holds Try.pinned (OpenSpec.ofChange fnExactSimplexImageWrong)

/- THE SECOND FORM. 'bulk': how many values and letters a reading holds, each counted each time it is reached (what is shared counts as often as it is met; a slice's spare places count too). A statement '..UptoSaid' is the law's where the arguments, and the package variables that the reading takes, are together of bulk at most 1048576: NARROWER than '..Said'. Prove '..Said' where nothing that the law and all that it calls make is longer than what came in: it says more and counts as full. Else prove '..UptoSaid'. A law counts once. -/
mutual
def uptoBulk {H : Type} : DataW H → Nat
  | .lit (.string bytes) => bytes.length + 1
  | .lit _ => 1
  | .nil => 1
  | .ptr d => uptoBulk d + 1
  | .slice elems spare => uptoBulkAll elems + uptoBulkAll spare + 1
  | .agg parts => uptoBulkAll parts + 1
  | .iface _ d => uptoBulk d + 1
  | .map entries => uptoBulkEntries entries + 1
  | .held _ => 1
def uptoBulkAll {H : Type} : List (DataW H) → Nat
  | [] => 0
  | d :: r => uptoBulk d + uptoBulkAll r
def uptoBulkEntries {H : Type} : List (Lit × DataW H) → Nat
  | [] => 0
  | x :: r => uptoBulkEntry x + uptoBulkEntries r
def uptoBulkEntry {H : Type} : Lit × DataW H → Nat
  | (.string bytes, d) => bytes.length + uptoBulk d + 1
  | (_, d) => uptoBulk d + 1
 end
def uptoSmall : (H : Type) → List (DataW H) → Bool := fun _ ds => decide (uptoBulkAll ds ≤ 1048576)
def OpenSpec.upto (s : _root_.Go.ChangeSpec) : _root_.Go.OpenSpec := { _root_.Go.OpenSpec.ofChange s with cond := some uptoSmall }

/-- 'laws.FnExactSameSheaf', WHERE WHAT IT READS IS OF BULK AT MOST 1048576: true; the input reads as it did. -/
def fnExactSameSheafUptoRow : OpenClaim := { program := "ytfmenipcipaobaa", sum := "57cd8d5cfb8be6c380253a5173ec0a2234803757256593a3b362b496ba5bf4a8", func := "loop.example/g01005/laws.FnExactSameSheaf", spec := "fnExactSameSheaf", unfollowed := true, recurses := true, apart := false, narrowed := true }
def FnExactSameSheafUptoSaid : Prop := fnExactSameSheafUptoRow.holds Try.pinned (OpenSpec.upto fnExactSameSheafSpec)

/-- 'laws.FnExactFreePairs', WHERE WHAT IT READS IS OF BULK AT MOST 1048576: true; the input reads as it did. -/
def fnExactFreePairsUptoRow : OpenClaim := { program := "ytfmenipcipaobaa", sum := "57cd8d5cfb8be6c380253a5173ec0a2234803757256593a3b362b496ba5bf4a8", func := "loop.example/g01005/laws.FnExactFreePairs", spec := "fnExactFreePairs", unfollowed := true, recurses := true, apart := false, narrowed := true }
def FnExactFreePairsUptoSaid : Prop := fnExactFreePairsUptoRow.holds Try.pinned (OpenSpec.upto fnExactFreePairsSpec)

/-- 'laws.FnExactValidSheaf', WHERE WHAT IT READS IS OF BULK AT MOST 1048576: true; the input reads as it did. -/
def fnExactValidSheafUptoRow : OpenClaim := { program := "ytfmenipcipaobaa", sum := "57cd8d5cfb8be6c380253a5173ec0a2234803757256593a3b362b496ba5bf4a8", func := "loop.example/g01005/laws.FnExactValidSheaf", spec := "fnExactValidSheaf", unfollowed := true, recurses := true, apart := false, narrowed := true }
def FnExactValidSheafUptoSaid : Prop := fnExactValidSheafUptoRow.holds Try.pinned (OpenSpec.upto fnExactValidSheafSpec)

/-- 'laws.FnExactStalkSum', WHERE WHAT IT READS IS OF BULK AT MOST 1048576: true; the input reads as it did. -/
def fnExactStalkSumUptoRow : OpenClaim := { program := "ytfmenipcipaobaa", sum := "57cd8d5cfb8be6c380253a5173ec0a2234803757256593a3b362b496ba5bf4a8", func := "loop.example/g01005/laws.FnExactStalkSum", spec := "fnExactStalkSum", unfollowed := true, recurses := true, apart := false, narrowed := true }
def FnExactStalkSumUptoSaid : Prop := fnExactStalkSumUptoRow.holds Try.pinned (OpenSpec.upto fnExactStalkSumSpec)

/-- 'laws.FnExactIsMap', WHERE WHAT IT READS IS OF BULK AT MOST 1048576: true; the input reads as it did. -/
def fnExactIsMapUptoRow : OpenClaim := { program := "ytfmenipcipaobaa", sum := "57cd8d5cfb8be6c380253a5173ec0a2234803757256593a3b362b496ba5bf4a8", func := "loop.example/g01005/laws.FnExactIsMap", spec := "fnExactIsMap", unfollowed := true, recurses := true, apart := false, narrowed := true }
def FnExactIsMapUptoSaid : Prop := fnExactIsMapUptoRow.holds Try.pinned (OpenSpec.upto fnExactIsMapSpec)

/-- 'laws.FnExactSimplexImage', WHERE WHAT IT READS IS OF BULK AT MOST 1048576: true; the input reads as it did. -/
def fnExactSimplexImageUptoRow : OpenClaim := { program := "ytfmenipcipaobaa", sum := "57cd8d5cfb8be6c380253a5173ec0a2234803757256593a3b362b496ba5bf4a8", func := "loop.example/g01005/laws.FnExactSimplexImage", spec := "fnExactSimplexImage", unfollowed := true, recurses := true, apart := false, narrowed := true }
def FnExactSimplexImageUptoSaid : Prop := fnExactSimplexImageUptoRow.holds Try.pinned (OpenSpec.upto fnExactSimplexImageSpec)

end Rows
end Go.Proofs.Ytfmenipcipaobaa
