/-
  FnMaps: for every input the call returns true, and each argument reads behind it as it read before. Conditions: none but those of the given row.
-/
import Derived.Test.YtjnnliedeobfgaaGreatRows
import Derived.Test.YtjnnliedeobfgaaGreatSeat
import Derived.Test.YtjnnliedeobfgaaGreatT5
import Derived.Test.YtjnnliedeobfgaaGreatT4
import Derived.WalkKit
import Derived.ProofKit
import Derived.OpenShut
import Derived.ShutString
import Derived.ChangeOld
import Derived.Below
set_option linter.unusedVariables false
set_option linter.unusedSimpArgs false
namespace Go.Proofs.YtjnnliedeobfgaaGreat.fnMaps
open Go.ChangeShapes Go.WideShapes Go.ChangeAt Go.RowKit
open Go.ChangeMaps (open_string shut_string)
set_option linter.unusedVariables false
set_option maxRecDepth 100000
theorem own : ownKnob Tryz.prog.godebug = none := seatOwn
theorem laidOut : laidOutB Tryz.prog = true := seatLaidOut
theorem envFns : VeT.fnL.map (·.map Prod.fst) = (List.range VeT.fnL.length).map fun i => bif ([false, false, false, false, false, false, false, false, true, false, false, false, false, false, false, false, false, false, false, false, false, false, false, false, true, false, false, false, false, false, false, false, false, false, false, false, false, false, false, false, false, false, false, false, false, false, false, false, true, true, true, true, true, true, true, true, true, true, true, false, false, false, false, false, false, false, false, false, false, false, false, false, false, false, false, false, false, false, true, false, false, false, false, true, false, true, false, false, false, false, false, false, false, false, false, false, false, true, true, true, true, true, false, true, false, false, true, false, true, true, true, false, false, true, true, false, false, false, false, false, true, true, false, true, false, true, false, false, true, true, false, false, true, true, false, false, false, true, false, false, false, false, false, false, false, false, false, false, false, false, false, false, true, true, true, true, true, true, true, true, true, true, false, false, false, false, false, false, false, false, false, false, false, false, false, true, false, false, false, true, false, true, true, false, false, false, false, false, false, false, false, false, true, false, false, false, false, true, true, false, false, false, false, false, false, true, true, true, false, false, true, false, false, false, false, false, false, true, true, true, true, true, true, true, false, false, true, false, false, true, true, true, true, true, true, false, false, false, false, false, false, true, false, false, true, false, true, true, true, false, true, true, false, true, true, false, false, false, true, false, false, false, false, false, false, false, true, false, false, false, false, false, false, false, true, true, false, false, false, false, false, false, false, false, false, false, false, false, false, false, false, false, false, false, true, false, false, false, false, false, false, true, true, true, true, true, true, true, false, false, false, false, true, true, false, false, false, false, false, false, false, false, false, true, false, false, false, true, true, false, false, false, false, false, false, false, false, false, false, false, false, false, false, false, false, false, false, false, false, false, false, true, false, false, false, false, false, false, false, false, false, false, false, false, false, false, false, false, false, false, false, false, false, false, false, false, false, false] : List Bool).getD i false then VeT.E.P.funcs[i]? else none := by kernel_rfl
theorem envCalls : ((List.range VeT.sigL.length).all fun i => match VeT.sigL.getD i none with
    | none => true
    | some _ => match VeT.E.P.funcs[i]? with
      | some fn => fn.body.isSome && !(fn.name == "runtime.NumGoroutine")
      | none => false) = true := by kernel_rfl
theorem envOk : Ve.EnvOk VeT.E := ⟨Ve.qo4 rfl envCalls, Checked.mixed Tryz.checked, Ve.qpk rfl envFns⟩
theorem prims : ∀ f p, VeT.E.prim f = some p → ∀ r, Ve.qfy VeT.E (Ve.mkR r) → ∀ args dv sg, VeT.E.sig f = some sg → p (Ve.mkR r) args = some dv → Ve.qaL VeT.E.P sg f args dv := (VeT.qoT envOk)
set_option maxRecDepth 100000 in
theorem lifted (os : Os) (started : os.Started) (H : Type) (enc : TypeId × Value → H) :
    ReturnsInHanded {} Tryz.checked os 8 .any (Rows.fnMapsSpec.pre6 enc Tryz.prog Tryz.f8 Rows.fnMapsRow.domain false) (Rows.fnMapsSpec.post enc Tryz.prog Tryz.f8 false true false false) := by
  refine returnsInHanded_of_change (C := Tryz.checked) own started (by kernel_rfl) Tryz.func8
    (ChangeSpec.witness6 (enc := enc) (C := Tryz.checked) false ⟨#[], #[.slice none 0 0], []⟩ 8 (by kernel_rfl) (by kernel_rfl) (by kernel_rfl) (by kernel_rfl)) ?_
  intro W base args ds gs before hval0 hW hcnd _
  have hval : ∀ (j : Nat) t v, Tryz.f8.params[j]? = some t → args[j]? = some v → Value.okWide Tryz.prog W .any base t v := hval0
  have hW' := hW
  obtain ⟨p, q, hA0, hV, rfl, hfz, hnd⟩ := hW
  have hA : DataW.TrodAll enc Tryz.prog W 0 (fun _ => true) true Tryz.f8.params.toList args.toList ds p := hA0
  rw [Tryz.params8] at hA hval
  obtain ⟨v0, vs0, d0, ds0, p0, q0, hargs, rfl, rfl, h0, r0⟩ := trodAll_cons hA
  obtain ⟨rfl, rfl, rfl⟩ := trodAll_nil r0
  obtain rfl : args = #[v0] := by cases args; simp_all
  obtain ⟨rfl, rfl⟩ := trodVars_none hV
  have lt0 : ∀ x ∈ p0, x.block < W.heap.size := by obtain ⟨m, hm⟩ := h0; exact DataW.trod_lt m _ _ _ hm
  obtain ⟨z0, hz0⟩ := Ve.qoR 8 (c := (.cons (.sl (.int .u8)) .nil)) (rest := .nil) (by kernel_rfl) h0 (⟨rfl, trivial⟩ : Ve.Rp (fun b => b < W.heap.size) W .nil () [] ∧ Ve.Wf .nil ())
  obtain ⟨a0, len0, cap0, rfl⟩ := okWide_slice Tryz.underlying22 (hval 0 22 v0 rfl rfl)
  obtain ⟨K, hK⟩ := (VeT.qoz z0 hz0.2).some
  have hcalls := Ve.qoE envOk prims (f := 8) (sg := VeT.sg_Z39) VeT.sig_laws_FnMaps_eq rfl rfl rfl rfl rfl (x := z0) hK hz0.1
  have hargsOf : Ve.qaH VeT.sg_Z39.ps ((Value.slice a0 len0 cap0).cells.toList ++ []) = [.slice a0 len0 cap0] := by
    refine Ve.qok.trans (congrArg _ ?_)
    rfl
  rw [hargsOf] at hcalls
  refine hcalls.mono fun e W' ⟨he, bel⟩ => ?_
  subst he
  exact ⟨_, rfl, _, _, _, [], _, [], hW', trodAll_mk1 (shut_bool Tryz.underlying4 _), (trodAll_cons_mk (Below.trod laidOut (by kernel_rfl) (of_decide_eq_true (by kernel_rfl)) h0 bel lt0) trodAll_mk0), rfl, bel.frame _, fun h => by cases h⟩
theorem mayEnter : Tryz.pinned.checked.prog.mayEnter = true := seatMayEnter
theorem laidOutP : laidOutB Tryz.pinned.checked.prog = true := seatLaidOut
theorem inPl : (Rows.fnMapsRow.inPlace == Tryz.pinned.checked.prog.inPlace 8) = true := by kernel_rfl
theorem unf : (Rows.fnMapsRow.unfollowed == Tryz.pinned.checked.prog.unfollowed 8) = true := by kernel_rfl
theorem recu : (Rows.fnMapsRow.recurses == Tryz.pinned.checked.prog.recurses 8) = true := by kernel_rfl
theorem nmd : (Rows.fnMapsRow.named == Tryz.pinned.checked.prog.varsNamed 8) = true := by kernel_rfl
theorem closed : joinedFacts Tryz.pinned.checked.prog 8 Tryz.f8 Rows.fnMapsSpec Rows.fnMapsRow = true := by
  unfold joinedFacts
  simp only [Bool.and_eq_true]
  and_intros
  all_goals first | with_reducible exact mayEnter | with_reducible exact laidOutP | with_reducible exact inPl | with_reducible exact unf | with_reducible exact recu | with_reducible exact nmd | kernel_rfl
theorem over : Rows.fnMapsRow.holds Tryz.pinned (OpenSpec.ofChange Rows.fnMapsSpec) :=
  OpenClaim.holds_of_wide 8 Tryz.f8 rfl rfl rfl rfl rfl rfl rfl ⟨rfl, rfl, rfl, rfl, rfl⟩ rfl rfl rfl rfl rfl (by kernel_rfl) Tryz.func8 closed
    (of_decide_eq_true (by kernel_rfl)) (by unfold Func.isWrapper; first | (rw [if_pos (by decide +kernel)]; kernel_rfl) | (rw [if_neg (by decide +kernel)]; exact ⟨rfl, rfl⟩))
    (fun os started H enc _ => lifted os started H enc)
theorem proved : Rows.FnMapsSaid := over
#print axioms proved
end Go.Proofs.YtjnnliedeobfgaaGreat.fnMaps
namespace Go.Proofs.YtjnnliedeobfgaaGreat
/-- The row, under a short name, for the claim. -/
theorem fnMaps_holds : Rows.FnMapsSaid := fnMaps.proved
end Go.Proofs.YtjnnliedeobfgaaGreat
