/-
  No cell of these rows narrows 'for every input' (looked for: loops, veiled, ifaces, maps, wideKeys, modest, calm, conditions, laid).
  DERIVED. THE GIVEN ROWS OF THIS SEAT. 3 by the template 'for every input the law returns true; each argument reads behind the call as it read before'; 0 by the template 'total and deterministic' (their statements: YtcedcmppgagkaaaTotals.lean).
  GIVEN WITH THE SEED: the statements are not yours to turn. If you find one false, say at which input.
  Laid BY PROGRAM, IN A SANDBOX (cutbox-rows.mjs): the forced cells as the released guide's own fill.sh prints them over the translation 1d5b6efac6de053c… (all of the seat's roots in one cut). By AI agents, Wed Nov 11 2026. No macro, syntax, notation, axiom, sorry.
-/
import Derived.Test.YtcedcmppgagkaaaChecked
import GoSem.Claim
import GoSem.ClaimJoined
import GoSem.ClaimMapViews
import Derived.JoinedTies
import Derived.KernelRfl
namespace Go.Proofs.Ytcedcmppgagkaaa
/- THE CELL 'sum', in the pinned program and in every row, IS THE sha256 OF THE DUMP (.gsa) THAT YtcedcmppgagkaaaProg.lean LOADS. Nothing in Lean hashes anything: it is a label: what it is worth is what the hold of that sum in a sandbox is worth. -/
noncomputable def Try.pinned : Pinned := { name := "ytcedcmppgagkaaa", sum := "1d5b6efac6de053c05af92894548c7b8db4856488270b6135cd11a96b01d2f6a", checked := Try.checked }
namespace Rows
def none {H : Type} : Left H := { results := [], args := [] }

/-- 'laws.FnExactGreedyCollapse': WHATEVER THE INPUT: true; the input reads as it did. -/
def fnExactGreedyCollapseSpec : ChangeSpec := { name := "fnExactGreedyCollapse", fn := fun _ => fun
  | [d] => { results := [.lit (.bool true)], args := [d] }
  | _ => none }
def fnExactGreedyCollapseRow : OpenClaim := { program := "ytcedcmppgagkaaa", sum := "1d5b6efac6de053c05af92894548c7b8db4856488270b6135cd11a96b01d2f6a", func := "loop.example/g01005/laws.FnExactGreedyCollapse", spec := "fnExactGreedyCollapse", unfollowed := true, recurses := true, apart := false }
def FnExactGreedyCollapseSaid : Prop := fnExactGreedyCollapseRow.holds Try.pinned (OpenSpec.ofChange fnExactGreedyCollapseSpec)

/-- ITS FALSE NEIGHBOUR: 'it returns false'. Refute it at one input. -/
def fnExactGreedyCollapseWrong : ChangeSpec := { name := "fnExactGreedyCollapse", fn := fun _ => fun
  | [d] => { results := [.lit (.bool false)], args := [d] }
  | _ => none }
def FnExactGreedyCollapseWrongFalsely : Prop := fnExactGreedyCollapseRow.holds Try.pinned (OpenSpec.ofChange fnExactGreedyCollapseWrong)

/-- 'laws.FnExactCollapsePair': WHATEVER THE INPUT: true; the input reads as it did. -/
def fnExactCollapsePairSpec : ChangeSpec := { name := "fnExactCollapsePair", fn := fun _ => fun
  | [d1, d2] => { results := [.lit (.bool true)], args := [d1, d2] }
  | _ => none }
def fnExactCollapsePairRow : OpenClaim := { program := "ytcedcmppgagkaaa", sum := "1d5b6efac6de053c05af92894548c7b8db4856488270b6135cd11a96b01d2f6a", func := "loop.example/g01005/laws.FnExactCollapsePair", spec := "fnExactCollapsePair", unfollowed := true, recurses := true, apart := false }
def FnExactCollapsePairSaid : Prop := fnExactCollapsePairRow.holds Try.pinned (OpenSpec.ofChange fnExactCollapsePairSpec)

/-- ITS FALSE NEIGHBOUR: 'it returns false'. Refute it at one input. -/
def fnExactCollapsePairWrong : ChangeSpec := { name := "fnExactCollapsePair", fn := fun _ => fun
  | [d1, d2] => { results := [.lit (.bool false)], args := [d1, d2] }
  | _ => none }
def FnExactCollapsePairWrongFalsely : Prop := fnExactCollapsePairRow.holds Try.pinned (OpenSpec.ofChange fnExactCollapsePairWrong)

/-- 'laws.FnExactPointSheaf': WHATEVER THE INPUT: true; the input reads as it did. -/
def fnExactPointSheafSpec : ChangeSpec := { name := "fnExactPointSheaf", fn := fun _ => fun
  | [d1, d2, d3, d4] => { results := [.lit (.bool true)], args := [d1, d2, d3, d4] }
  | _ => none }
def fnExactPointSheafRow : OpenClaim := { program := "ytcedcmppgagkaaa", sum := "1d5b6efac6de053c05af92894548c7b8db4856488270b6135cd11a96b01d2f6a", func := "loop.example/g01005/laws.FnExactPointSheaf", spec := "fnExactPointSheaf", unfollowed := true, recurses := true, apart := false }
def FnExactPointSheafSaid : Prop := fnExactPointSheafRow.holds Try.pinned (OpenSpec.ofChange fnExactPointSheafSpec)

/-- ITS FALSE NEIGHBOUR: 'it returns false'. Refute it at one input. -/
def fnExactPointSheafWrong : ChangeSpec := { name := "fnExactPointSheaf", fn := fun _ => fun
  | [d1, d2, d3, d4] => { results := [.lit (.bool false)], args := [d1, d2, d3, d4] }
  | _ => none }
def FnExactPointSheafWrongFalsely : Prop := fnExactPointSheafRow.holds Try.pinned (OpenSpec.ofChange fnExactPointSheafWrong)

/- THE SECOND FORM. 'bulk': how many values and letters a reading holds, each counted each time it is reached (what is shared counts as often as it is met; a slice's spare places count too). A statement '..UptoSaid' is the law's where the arguments, and the package variables that the reading takes, are together of bulk at most 1048576: NARROWER than '..Said'. Prove '..Said' where nothing that the law and all that it calls make is longer than what came in: it says more and counts as full. Else prove '..UptoSaid'. A law counts once. -/
mutual
def uptoBulk {H : Type} : DataW H → Nat
  | .lit (.string bytes) => bytes.length + 1
  | .lit _ => 1
  | .nil => 1
  | .ptr d => uptoBulk d + 1
  | .slice elems spare => uptoBulkAll elems + uptoBulkAll spare + 1
  | .agg parts => uptoBulkAll parts + 1
  | .iface _ d => uptoBulk d + 1
  | .map entries => uptoBulkEntries entries + 1
  | .held _ => 1
def uptoBulkAll {H : Type} : List (DataW H) → Nat
  | [] => 0
  | d :: r => uptoBulk d + uptoBulkAll r
def uptoBulkEntries {H : Type} : List (Lit × DataW H) → Nat
  | [] => 0
  | x :: r => uptoBulkEntry x + uptoBulkEntries r
def uptoBulkEntry {H : Type} : Lit × DataW H → Nat
  | (.string bytes, d) => bytes.length + uptoBulk d + 1
  | (_, d) => uptoBulk d + 1
 end
def uptoSmall : (H : Type) → List (DataW H) → Bool := fun _ ds => decide (uptoBulkAll ds ≤ 1048576)
def OpenSpec.upto (s : _root_.Go.ChangeSpec) : _root_.Go.OpenSpec := { _root_.Go.OpenSpec.ofChange s with cond := some uptoSmall }

/-- 'laws.FnExactGreedyCollapse', WHERE WHAT IT READS IS OF BULK AT MOST 1048576: true; the input reads as it did. -/
def fnExactGreedyCollapseUptoRow : OpenClaim := { program := "ytcedcmppgagkaaa", sum := "1d5b6efac6de053c05af92894548c7b8db4856488270b6135cd11a96b01d2f6a", func := "loop.example/g01005/laws.FnExactGreedyCollapse", spec := "fnExactGreedyCollapse", unfollowed := true, recurses := true, apart := false, narrowed := true }
def FnExactGreedyCollapseUptoSaid : Prop := fnExactGreedyCollapseUptoRow.holds Try.pinned (OpenSpec.upto fnExactGreedyCollapseSpec)

/-- 'laws.FnExactCollapsePair', WHERE WHAT IT READS IS OF BULK AT MOST 1048576: true; the input reads as it did. -/
def fnExactCollapsePairUptoRow : OpenClaim := { program := "ytcedcmppgagkaaa", sum := "1d5b6efac6de053c05af92894548c7b8db4856488270b6135cd11a96b01d2f6a", func := "loop.example/g01005/laws.FnExactCollapsePair", spec := "fnExactCollapsePair", unfollowed := true, recurses := true, apart := false, narrowed := true }
def FnExactCollapsePairUptoSaid : Prop := fnExactCollapsePairUptoRow.holds Try.pinned (OpenSpec.upto fnExactCollapsePairSpec)

/-- 'laws.FnExactPointSheaf', WHERE WHAT IT READS IS OF BULK AT MOST 1048576: true; the input reads as it did. -/
def fnExactPointSheafUptoRow : OpenClaim := { program := "ytcedcmppgagkaaa", sum := "1d5b6efac6de053c05af92894548c7b8db4856488270b6135cd11a96b01d2f6a", func := "loop.example/g01005/laws.FnExactPointSheaf", spec := "fnExactPointSheaf", unfollowed := true, recurses := true, apart := false, narrowed := true }
def FnExactPointSheafUptoSaid : Prop := fnExactPointSheafUptoRow.holds Try.pinned (OpenSpec.upto fnExactPointSheafSpec)

end Rows
end Go.Proofs.Ytcedcmppgagkaaa
