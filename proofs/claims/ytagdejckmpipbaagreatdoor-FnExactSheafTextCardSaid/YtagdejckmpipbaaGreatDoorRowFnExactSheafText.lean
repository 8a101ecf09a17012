/-
  FnExactSheafText: for every input the call returns true, and each argument reads behind it as it read before. Conditions: none but those of the given row.
-/
import Derived.Test.YtagdejckmpipbaaGreatDoorRows
import Derived.Test.YtagdejckmpipbaaGreatDoorSeat
import Derived.Test.YtagdejckmpipbaaGreatDoorCards
import Derived.Test.YtagdejckmpipbaaGreatDoorTie
import Derived.LaidMore
import Derived.LaidHandle
import Derived.MakeChecks
import Derived.Lib.LaidTab
import Derived.SevenTiedAt
import Derived.Stop.Joined
import Derived.Test.YtagdejckmpipbaaGreatDoorT4
import Derived.WalkKit
import Derived.ProofKit
import Derived.OpenShut
import Derived.ShutString
import Derived.ChangeOld
import Derived.Below
set_option linter.unusedVariables false
set_option linter.unusedSimpArgs false
namespace Go.Proofs.YtagdejckmpipbaaGreatDoor.fnExactSheafText
open Go.ChangeShapes Go.WideShapes Go.ChangeAt Go.RowKit
open Go.ChangeMaps (open_string shut_string)
set_option linter.unusedVariables false
set_option maxRecDepth 100000
theorem own : ownKnob Tryz.prog.godebug = none := seatOwn
theorem laidOut : laidOutB Tryz.prog = true := seatLaidOut
theorem envFns : VeT.fnL.map (·.map Prod.fst) = (List.range VeT.fnL.length).map fun i => bif ([false, false, false, true, false, false, true, true, true, true, true, false, false, false, false, false, false, false, false, false, false, false, false, false, false, false, false, false, true, true, true, true, true, true, true, true, true, true, true, true, false, true, true, true, false, false, false, false, false, true, false, false, false, false, false, false, false, false, false, false, false, true, false, true, false, true, false, false, false, false, true, true, true, true, true, false, false, false, false, true, true, true, true, true, true, true, true, true, true, true, true, true, true, true, true, true, true, false, true, true, true, false, false, false, true, true, false, false, false, false, false, true, false, false, false, false, true, false, false, false, false, false, false, false, false, false, false, false, false, true, true, true, true, true, true, false, true, false, true, false, true, true, true, true, true, true, false, false, false, false, true, true, true, true, true, true, true, true, true, true, true, false, false, false, false, false, true, false, false, false, false, false, false, false, false, false, false, false, false, false, false, false, false, false, false, false, false, false, true, true, false, true, true, true, true, false, false, false, true, true, true, true, true, true, true, true, true, false, false, false, false, false, false, false, false, false, false, false, false, false, false, false, false, false, false, false, false, false, false, false, false, false, false, true, true, false, false, false, false, false, false, false, false, false, false, false, false, false, false, false, false, false, false, false, false, false, false, false, false, false, false, false, false, true, false, false, false, false, false, false, false, false, false, false, false, false, false, false, false, false, false, false, false, false, false, false, false, false, false, false, false, false, false, false, false, false, false, false, false, false, false, false, false, false, false] : List Bool).getD i false then VeT.E.P.funcs[i]? else none := by kernel_rfl
theorem envCalls : ((List.range VeT.sigL.length).all fun i => match VeT.sigL.getD i none with
    | none => true
    | some _ => match VeT.E.P.funcs[i]? with
      | some fn => fn.body.isSome && !(fn.name == "runtime.NumGoroutine")
      | none => false) = true := by kernel_rfl
theorem envOk : Ve.EnvOk VeT.E := ⟨Ve.qlG rfl envCalls, Checked.mixed Tryz.checked, Ve.qlT rfl envFns⟩
theorem prims : ∀ f p, VeT.E.prim f = some p → ∀ r, Ve.qfh VeT.E (Ve.mkR r) → ∀ args dv sg, VeT.E.sig f = some sg → p (Ve.mkR r) args = some dv → Ve.qbb VeT.E.gs VeT.E.P sg f args dv := VeT.qlv
theorem laidPlain : (Rows.fnExactSheafTextRow.laid.all fun x => x.2.handleName?.isNone) = true := by kernel_rfl
set_option maxRecDepth 100000 in
theorem door_met (os : Os) (args : Array Value) : laidMetH Tryz.prog Rows.fnExactSheafTextRow.laid ((World.doorLaid Tryz.prog 2000 os).forCall (fun _ _ => 0) ⟨#[], args, []⟩).memory :=
  laidMetH_of_parts3 (fuel := 8) (laidMet_of_run' 8 (by kernel_rfl) (by kernel_rfl)) (by kernel_rfl) (by kernel_rfl)
theorem of_laid {W : World} (h : laidMetH Tryz.prog Rows.fnExactSheafTextRow.laid W) : Ve.Gl VeT.E.gs W fun b => b < W.heap.size := by
  rw [MakeChecks.laidMetH_plain _ _ _ laidPlain] at h
  obtain ⟨ps, ⟨g0, t0, cs0, f0, p0, q0, hg0, ht0, hv0, hd0, ⟨g1, t1, cs1, f1, p1, q1, hg1, ht1, hv1, hd1, ⟨g2, t2, cs2, f2, p2, q2, hg2, ht2, hv2, hd2, _, _⟩, _⟩, _⟩, _⟩ := h
  intro p hp
  obtain rfl := List.mem_singleton.1 hp
  have hg : Tryz.prog.globalNamed "internal/strconv.uint64pow10" = some (VeT.gv "internal/strconv.uint64pow10") := by kernel_rfl
  obtain rfl : VeT.gv "internal/strconv.uint64pow10" = g2 := Option.some.inj (hg.symm.trans hg2)
  have hty : (Tryz.prog.globals[VeT.gv "internal/strconv.uint64pow10"]?).map (·.type) = some 235 := by kernel_rfl
  obtain rfl : 235 = t2 := Option.some.inj (hty.symm.trans ht2)
  have hdat : (Rows.laid_internal_strconv_uint64pow10 : DataW Unit) = Lib.tabData .u64 Lib.pow10Tab := by kernel_rfl
  have hd2 := hd2
  rw [hdat] at hd2
  have hc := Lib.cells_of_tab (show Tryz.prog.underlying 235 = some (.array 20 151) by kernel_rfl) (show Tryz.prog.underlying 151 = some (.int .u64) by kernel_rfl) (by kernel_rfl) (by kernel_rfl) hd2
  unfold World.var? at hv2
  rw [hg] at hv2
  simp only [Option.bind_some] at hv2
  split at hv2
  · rename_i cs e fz hh
    obtain rfl := Option.some.inj hv2
    exact ⟨(Array.getElem?_eq_some_iff.1 hh).1, cs, e, fz, hh, by show cs = _; rw [← hc]⟩
  · cases hv2
set_option maxRecDepth 100000 in
theorem lifted (os : Os) (started : os.Started) (H : Type) (enc : TypeId × Value → H) :
    ReturnsInHanded {} Tryz.checked os 3 .any (fun w args => (Rows.fnExactSheafTextSpec.pre enc Tryz.prog Tryz.f3 Rows.fnExactSheafTextRow.domain false w args ∧ laidMetH Tryz.prog Rows.fnExactSheafTextRow.laid w) ∧ sizedMet enc Tryz.prog Tryz.f3 (OpenSpec.ofChange Rows.fnExactSheafTextSpec) false w args) (Rows.fnExactSheafTextSpec.post enc Tryz.prog Tryz.f3 false true false false) := by
  refine returnsInHanded_of_change_and (C := Tryz.checked) (X := fun w _ => laidMetH Tryz.prog Rows.fnExactSheafTextRow.laid w) (fun _ _ _ hh h => h.of_heap hh) own started (by kernel_rfl) Tryz.func3
    (ChangeSpec.witness_shaped (enc := enc) (C := Tryz.checked) (os := os) (X := fun w _ => laidMetH Tryz.prog Rows.fnExactSheafTextRow.laid w) false (World.doorLaid Tryz.prog 2000 os) #[.agg #[.slice none 0 0, .int .i64 0, .slice none 0 0, .slice none 0 0]] 8 rfl (World.shaped_of_RefB (by kernel_rfl) (by kernel_rfl)) (by kernel_rfl) (by kernel_rfl) (by kernel_rfl) (door_met os _)) ?_
  intro W base args ds gs before hval0 hW hcnd _ hL _
  have hval : ∀ (j : Nat) t v, Tryz.f3.params[j]? = some t → args[j]? = some v → Value.okWide Tryz.prog W .any base t v := hval0
  have hW' := hW
  obtain ⟨p, q, hA0, hV, rfl, hfz, hnd⟩ := hW
  have hA : DataW.TrodAll enc Tryz.prog W 0 (fun _ => true) true Tryz.f3.params.toList args.toList ds p := hA0
  rw [Tryz.params3] at hA hval
  obtain ⟨v0, vs0, d0, ds0, p0, q0, hargs, rfl, rfl, h0, r0⟩ := trodAll_cons hA
  obtain ⟨rfl, rfl, rfl⟩ := trodAll_nil r0
  obtain rfl : args = #[v0] := by cases args; simp_all
  obtain ⟨rfl, rfl⟩ := trodVars_none hV
  have lt0 : ∀ x ∈ p0, x.block < W.heap.size := by obtain ⟨m, hm⟩ := h0; exact DataW.trod_lt m _ _ _ hm
  obtain ⟨z0, hz0⟩ := Ve.qlx 8 (c := (.cons (.sl (.sl (.int .i64))) (.cons (.int .i64) (.cons (.sl (.int .i64)) (.cons (.sl (.st (.cons (.int .i64) (.cons (.int .i64) (.cons (.int .i64) (.cons (.sl (.int .i64)) .nil)))))) .nil))))) (rest := .nil) (by kernel_rfl) h0 (⟨rfl, trivial⟩ : Ve.Rp (fun b => b < W.heap.size) W .nil () [] ∧ Ve.Wf .nil ())
  obtain ⟨c0, rfl, hc0⟩ := okWide_struct Tryz.underlying28 (hval 0 28 v0 rfl rfl)
  obtain ⟨K, hK⟩ := (VeT.qkN z0 hz0.2).some
  have hcalls := Ve.qlp envOk prims (f := 3) (sg := VeT.sg_Z41) VeT.sig_laws_FnExactSheafText_eq rfl rfl rfl rfl rfl (x := z0) hK (of_laid hL) hz0.1
  have hargsOf : Ve.qax VeT.sg_Z41.ps ((Value.agg c0).cells.toList ++ []) = [.agg c0] := by
    refine (Ve.qlk hc0).trans (congrArg _ ?_)
    rfl
  rw [hargsOf] at hcalls
  refine hcalls.mono fun e W' ⟨he, bel⟩ => ?_
  subst he
  exact ⟨_, rfl, _, _, _, [], _, [], hW', trodAll_mk1 (shut_bool Tryz.underlying4 _), (trodAll_cons_mk (Below.trod laidOut (by kernel_rfl) (of_decide_eq_true (by kernel_rfl)) h0 bel lt0) trodAll_mk0), rfl, bel.frame _, fun h => by cases h⟩
theorem mayEnter : Tryz.pinned.checked.prog.mayEnter = true := seatMayEnter
theorem laidOutP : laidOutB Tryz.pinned.checked.prog = true := seatLaidOut
theorem inPl : (Rows.fnExactSheafTextRow.inPlace == Tryz.pinned.checked.prog.inPlace 3) = true := by kernel_rfl
theorem unf : (Rows.fnExactSheafTextRow.unfollowed == Tryz.pinned.checked.prog.unfollowed 3) = true := by kernel_rfl
theorem recu : (Rows.fnExactSheafTextRow.recurses == Tryz.pinned.checked.prog.recurses 3) = true := by kernel_rfl
theorem nmd : (Rows.fnExactSheafTextRow.named == Tryz.pinned.checked.prog.varsNamed 3) = true := by kernel_rfl
theorem closed : joinedFacts Tryz.pinned.checked.prog 3 Tryz.f3 Rows.fnExactSheafTextSpec Rows.fnExactSheafTextRow = true := by
  unfold joinedFacts
  simp only [Bool.and_eq_true]
  and_intros
  all_goals first | with_reducible exact mayEnter | with_reducible exact laidOutP | with_reducible exact inPl | with_reducible exact unf | with_reducible exact recu | with_reducible exact nmd | kernel_rfl
theorem over : Rows.fnExactSheafTextRow.holds Tryz.pinned (OpenSpec.ofChange Rows.fnExactSheafTextSpec) :=
  OpenClaim.holds_of_wide 3 Tryz.f3 rfl rfl rfl rfl rfl rfl rfl ⟨rfl, rfl, rfl, rfl, rfl⟩ rfl rfl rfl rfl rfl (by kernel_rfl) Tryz.func3 closed
    (of_decide_eq_true (by kernel_rfl)) (by unfold Func.isWrapper; first | (rw [if_pos (by decide +kernel)]; kernel_rfl) | (rw [if_neg (by decide +kernel)]; exact ⟨rfl, rfl⟩))
    (fun os started H enc _ => lifted os started H enc)
theorem proved : Rows.FnExactSheafTextSaid := over
theorem card_holds : Rows.FnExactSheafTextCardSaid :=
  Claim7.holds_tied_plain_at .later [] [.data, .data, .data] true (true, "365fdb5c2936881ff5e47076adf4c670220d16755a2ecb4b7edae9db1355b235") true
    proved (fun _ h => by cases h) (by kernel_rfl) (fun _ h => by cases h) fnExactSheafText_row_tie rfl ⟨rfl, rfl⟩ (by kernel_rfl) rfl
    (fun f fn hf hfn => by
      obtain rfl : f = 3 := Option.some.inj ((show Tryz.prog.funcNamed "loop.example/g01005/laws.FnExactSheafText" = some 3 by kernel_rfl).symm.trans hf) |>.symm
      obtain rfl : fn = Tryz.f3 := (Option.some.inj (Tryz.func3.symm.trans hfn)).symm
      exact ⟨by kernel_rfl, fun j t ht => by
        rw [Tryz.params3] at ht
        have hm : t ∈ ([28] : List Nat) := by simpa using Array.mem_of_getElem? ht
        have hall : (([28] : List Nat).all fun u => !Tryz.prog.wantsStandIn u) = true := by kernel_rfl
        exact (show Tryz.prog.wantsStandIn t = false by simpa using List.all_eq_true.1 hall t hm)⟩)
    (by kernel_rfl)
#print axioms card_holds
#print axioms proved
end Go.Proofs.YtagdejckmpipbaaGreatDoor.fnExactSheafText
namespace Go.Proofs.YtagdejckmpipbaaGreatDoor
/-- The row, under a short name, for the claim. -/
theorem fnExactSheafText_holds : Rows.FnExactSheafTextCardSaid := fnExactSheafText.card_holds
end Go.Proofs.YtagdejckmpipbaaGreatDoor
