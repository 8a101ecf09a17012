/-
  DERIVED. GIVEN WITH THE SEED: THE CARDS: each row of YtagdejckmpipbaaGreatDoorRows.lean that lists a variable, with what it lists TIED to the program's text (the seventh form; the later family's looks); each row that meets fmt, with fmt's text TOLD by the authors' own Lean function (tested against real Go, not proved from fmt's source: count such statements apart). THE CARD IS WHAT COUNTS. Prove the row's statement (the work); the ties are given (YtagdejckmpipbaaGreatDoorTie.lean); close each card by the builder's one call (the guide's Derived/Test/ToyasCard.lean, 'card_holds'). Laid BY PROGRAM, IN A SANDBOX (cutbox-door.mjs). By AI agents, Wed Nov 11 2026. No macro, syntax, notation, axiom, sorry.
-/
import Derived.Test.YtagdejckmpipbaaGreatDoorRows
import GoSem.ClaimSeven
namespace Go.Proofs.YtagdejckmpipbaaGreatDoor
namespace Rows

/-- THE TIED CARD OF 'laws.FnExactSheafText'. -/
def fnExactSheafTextCard : Claim7 := { stood := { row := fnExactSheafTextRow, standIns := [], harness := (true, "365fdb5c2936881ff5e47076adf4c670220d16755a2ecb4b7edae9db1355b235"), looks := true }, kinds := [], alts := [], laidByText := true, laidKinds := [.data, .data, .data], laidTests := true, laidLooks := .later }
def FnExactSheafTextCardSaid : Prop := Claim7.holds Tryz.pinned (.plain (OpenSpec.ofChange fnExactSheafTextSpec)) fnExactSheafTextCard

/-- THE TIED CARD OF 'laws.FnExactReadSheaf'. -/
def fnExactReadSheafCard : Claim7 := { stood := { row := fnExactReadSheafRow, standIns := [], harness := (true, "365fdb5c2936881ff5e47076adf4c670220d16755a2ecb4b7edae9db1355b235"), looks := true }, kinds := [], alts := [], laidByText := true, laidKinds := [.data, .data, .data, .data, .sentinel, .sentinel, .pinned], laidTests := true, laidLooks := .later }
def FnExactReadSheafCardSaid : Prop := Claim7.holds Tryz.pinned (.plain (OpenSpec.ofChange fnExactReadSheafSpec)) fnExactReadSheafCard

/-- THE TIED CARD OF 'laws.FnSheaves'. -/
def fnSheavesCard : Claim7 := { stood := { row := fnSheavesRow, standIns := [], harness := (true, "365fdb5c2936881ff5e47076adf4c670220d16755a2ecb4b7edae9db1355b235"), looks := true }, kinds := [], alts := [], laidByText := true, laidKinds := [.data, .data, .data, .data, .sentinel, .sentinel, .pinned], laidTests := true, laidLooks := .later }
def FnSheavesCardSaid : Prop := Claim7.holds Tryz.pinned (.plain (OpenSpec.ofChange fnSheavesSpec)) fnSheavesCard

/-- THE SECOND FORM's CARD OF 'laws.FnExactSheafText'. -/
def fnExactSheafTextUptoCard : Claim7 := { stood := { row := fnExactSheafTextUptoRow, standIns := [], harness := (true, "365fdb5c2936881ff5e47076adf4c670220d16755a2ecb4b7edae9db1355b235"), looks := true }, kinds := [], alts := [], laidByText := true, laidKinds := [.data, .data, .data], laidTests := true, laidLooks := .later }
def FnExactSheafTextUptoCardSaid : Prop := Claim7.holds Tryz.pinned (.plain (OpenSpec.upto fnExactSheafTextSpec)) fnExactSheafTextUptoCard

/-- THE SECOND FORM's CARD OF 'laws.FnExactReadSheaf'. -/
def fnExactReadSheafUptoCard : Claim7 := { stood := { row := fnExactReadSheafUptoRow, standIns := [], harness := (true, "365fdb5c2936881ff5e47076adf4c670220d16755a2ecb4b7edae9db1355b235"), looks := true }, kinds := [], alts := [], laidByText := true, laidKinds := [.data, .data, .data, .data, .sentinel, .sentinel, .pinned], laidTests := true, laidLooks := .later }
def FnExactReadSheafUptoCardSaid : Prop := Claim7.holds Tryz.pinned (.plain (OpenSpec.upto fnExactReadSheafSpec)) fnExactReadSheafUptoCard

/-- THE SECOND FORM's CARD OF 'laws.FnSheaves'. -/
def fnSheavesUptoCard : Claim7 := { stood := { row := fnSheavesUptoRow, standIns := [], harness := (true, "365fdb5c2936881ff5e47076adf4c670220d16755a2ecb4b7edae9db1355b235"), looks := true }, kinds := [], alts := [], laidByText := true, laidKinds := [.data, .data, .data, .data, .sentinel, .sentinel, .pinned], laidTests := true, laidLooks := .later }
def FnSheavesUptoCardSaid : Prop := Claim7.holds Tryz.pinned (.plain (OpenSpec.upto fnSheavesSpec)) fnSheavesUptoCard
end Rows
end Go.Proofs.YtagdejckmpipbaaGreatDoor
