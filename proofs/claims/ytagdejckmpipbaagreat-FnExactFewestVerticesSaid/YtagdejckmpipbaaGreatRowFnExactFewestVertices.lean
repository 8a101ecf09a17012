/-
  FnExactFewestVertices: for every input the call returns true, and each argument reads behind it as it read before. Conditions: none but those of the given row.
-/
import Derived.Test.YtagdejckmpipbaaGreatRows
import Derived.Test.YtagdejckmpipbaaGreatSeat
import Derived.Test.YtagdejckmpipbaaGreatT7
import Derived.Test.YtagdejckmpipbaaGreatT5
import Derived.WalkKit
import Derived.ProofKit
import Derived.OpenShut
import Derived.ShutString
import Derived.ChangeOld
import Derived.Below
set_option linter.unusedVariables false
set_option linter.unusedSimpArgs false
namespace Go.Proofs.YtagdejckmpipbaaGreat.fnExactFewestVertices
open Go.ChangeShapes Go.WideShapes Go.ChangeAt Go.RowKit
open Go.ChangeMaps (open_string shut_string)
set_option linter.unusedVariables false
set_option maxRecDepth 100000
theorem own : ownKnob Tryz.prog.godebug = none := seatOwn
theorem laidOut : laidOutB Tryz.prog = true := seatLaidOut
theorem envFns : VeT.fnL.map (·.map Prod.fst) = (List.range VeT.fnL.length).map fun i => bif ([false, false, false, true, true, true, true, true, true, true, true, true, true, true, true, true, true, true, true, true, true, true, true, true, true, true, true, true, true, true, true, true, true, true, true, false, true, true, true, true, true, true, true, true, true, true, true, true, true, true, true, true, false, true, true, true, true, true, true, true, true, true, true, true, true, true, true, true, true, true, true, true, true, true, true, true, true, true, true, true, true, true, true, true, true, true, true, true, true, true, true, true, true, true, true, true, true, true, true, true, true, true, true, true, true, true, true, true, true, true, true, true, true, true, true, true, true, true, true, true, true, true, true, true, true, true, true, true, true, true, true, true, true, true, true, true, true, true, true, true, true, true, true, true, true, true, true, true, true, true, true, false, true, true, true, true, true, true, true, true, false, false, false, false, false, false, false, false, false, false, false, false, false, false, false, false] : List Bool).getD i false then VeT.E.P.funcs[i]? else none := by kernel_rfl
theorem envCalls : ((List.range VeT.sigL.length).all fun i => match VeT.sigL.getD i none with
    | none => true
    | some _ => match VeT.E.P.funcs[i]? with
      | some fn => fn.body.isSome && !(fn.name == "runtime.NumGoroutine")
      | none => false) = true := by kernel_rfl
theorem envOk : Ve.EnvOk VeT.E := ⟨Ve.qqz rfl envCalls, Checked.mixed Tryz.checked, Ve.qqP rfl envFns⟩
theorem prims : ∀ f p, VeT.E.prim f = some p → ∀ r, Ve.qhH VeT.E (Ve.mkR r) → ∀ args dv sg, VeT.E.sig f = some sg → p (Ve.mkR r) args = some dv → Ve.qa4 VeT.E.gs VeT.E.P sg f args dv := VeT.qqn
set_option maxRecDepth 100000 in
theorem lifted (os : Os) (started : os.Started) (H : Type) (enc : TypeId × Value → H) :
    ReturnsInHanded {} Tryz.checked os 3 .any (Rows.fnExactFewestVerticesSpec.pre6 enc Tryz.prog Tryz.f3 Rows.fnExactFewestVerticesRow.domain false) (Rows.fnExactFewestVerticesSpec.post enc Tryz.prog Tryz.f3 false true false false) := by
  refine returnsInHanded_of_change (C := Tryz.checked) own started (by kernel_rfl) Tryz.func3
    (ChangeSpec.witness6 (enc := enc) (C := Tryz.checked) false ⟨#[], #[.agg #[.slice none 0 0, .int .i64 0, .slice none 0 0, .slice none 0 0], .int .i64 0], []⟩ 8 (by kernel_rfl) (by kernel_rfl) (by kernel_rfl) (by kernel_rfl)) ?_
  intro W base args ds gs before hval0 hW hcnd _
  have hval : ∀ (j : Nat) t v, Tryz.f3.params[j]? = some t → args[j]? = some v → Value.okWide Tryz.prog W .any base t v := hval0
  have hW' := hW
  obtain ⟨p, q, hA0, hV, rfl, hfz, hnd⟩ := hW
  have hA : DataW.TrodAll enc Tryz.prog W 0 (fun _ => true) true Tryz.f3.params.toList args.toList ds p := hA0
  rw [Tryz.params3] at hA hval
  obtain ⟨v0, vs0, d0, ds0, p0, q0, hargs, rfl, rfl, h0, r0⟩ := trodAll_cons hA
  obtain ⟨v1, vs1, d1, ds1, p1, q1, rfl, rfl, rfl, h1, r1⟩ := trodAll_cons r0
  obtain ⟨rfl, rfl, rfl⟩ := trodAll_nil r1
  obtain rfl : args = #[v0, v1] := by cases args; simp_all
  obtain ⟨rfl, rfl⟩ := trodVars_none hV
  have lt0 : ∀ x ∈ p0, x.block < W.heap.size := by obtain ⟨m, hm⟩ := h0; exact DataW.trod_lt m _ _ _ hm
  have lt1 : ∀ x ∈ p1, x.block < W.heap.size := by obtain ⟨m, hm⟩ := h1; exact DataW.trod_lt m _ _ _ hm
  obtain ⟨z1, hz1⟩ := Ve.qqr 8 (c := (.cons (.int .i64) .nil)) (rest := .nil) (by kernel_rfl) h1 (⟨rfl, trivial⟩ : Ve.Rp (fun b => b < W.heap.size) W .nil () [] ∧ Ve.Wf .nil ())
  obtain ⟨z0, hz0⟩ := Ve.qqr 8 (c := (.cons (.sl (.sl (.int .i64))) (.cons (.int .i64) (.cons (.sl (.int .i64)) (.cons (.sl (.st (.cons (.int .i64) (.cons (.int .i64) (.cons (.int .i64) (.cons (.sl (.int .i64)) .nil)))))) (.cons (.int .i64) .nil)))))) (rest := (.cons (.int .i64) .nil)) (by kernel_rfl) h0 hz1
  obtain ⟨c0, rfl, hc0⟩ := okWide_struct Tryz.underlying28 (hval 0 28 v0 rfl rfl)
  obtain ⟨n1, rfl⟩ := okWide_int Tryz.underlying2 (hval 1 2 v1 rfl rfl)
  obtain ⟨K, hK⟩ := (VeT.qmo z0 hz0.2).some
  have hcalls := Ve.qqd envOk prims (f := 3) (sg := VeT.sg_Z76) VeT.sig_laws_FnExactFewestVertices_eq rfl rfl rfl rfl rfl (x := z0) hK (fun p hp => by cases hp) hz0.1
  have hargsOf : Ve.qaH VeT.sg_Z76.ps ((Value.agg c0).cells.toList ++ ((Value.int .i64 n1).cells.toList ++ [])) = [.agg c0, .int .i64 n1] := by
    refine (Ve.qp1 hc0).trans (congrArg _ ?_)
    refine Ve.qpY.trans (congrArg _ ?_)
    rfl
  rw [hargsOf] at hcalls
  refine hcalls.mono fun e W' ⟨he, bel⟩ => ?_
  subst he
  exact ⟨_, rfl, _, _, _, [], _, [], hW', trodAll_mk1 (shut_bool Tryz.underlying4 _), (trodAll_cons_mk (Below.trod laidOut (by kernel_rfl) (of_decide_eq_true (by kernel_rfl)) h0 bel lt0) (trodAll_cons_mk (Below.trod laidOut (by kernel_rfl) (of_decide_eq_true (by kernel_rfl)) h1 bel lt1) trodAll_mk0)), rfl, bel.frame _, fun h => by cases h⟩
theorem mayEnter : Tryz.pinned.checked.prog.mayEnter = true := seatMayEnter
theorem laidOutP : laidOutB Tryz.pinned.checked.prog = true := seatLaidOut
theorem inPl : (Rows.fnExactFewestVerticesRow.inPlace == Tryz.pinned.checked.prog.inPlace 3) = true := by kernel_rfl
theorem unf : (Rows.fnExactFewestVerticesRow.unfollowed == Tryz.pinned.checked.prog.unfollowed 3) = true := by kernel_rfl
theorem recu : (Rows.fnExactFewestVerticesRow.recurses == Tryz.pinned.checked.prog.recurses 3) = true := by kernel_rfl
theorem nmd : (Rows.fnExactFewestVerticesRow.named == Tryz.pinned.checked.prog.varsNamed 3) = true := by kernel_rfl
theorem closed : joinedFacts Tryz.pinned.checked.prog 3 Tryz.f3 Rows.fnExactFewestVerticesSpec Rows.fnExactFewestVerticesRow = true := by
  unfold joinedFacts
  simp only [Bool.and_eq_true]
  and_intros
  all_goals first | with_reducible exact mayEnter | with_reducible exact laidOutP | with_reducible exact inPl | with_reducible exact unf | with_reducible exact recu | with_reducible exact nmd | kernel_rfl
theorem over : Rows.fnExactFewestVerticesRow.holds Tryz.pinned (OpenSpec.ofChange Rows.fnExactFewestVerticesSpec) :=
  OpenClaim.holds_of_wide 3 Tryz.f3 rfl rfl rfl rfl rfl rfl rfl ⟨rfl, rfl, rfl, rfl, rfl⟩ rfl rfl rfl rfl rfl (by kernel_rfl) Tryz.func3 closed
    (of_decide_eq_true (by kernel_rfl)) (by unfold Func.isWrapper; first | (rw [if_pos (by decide +kernel)]; kernel_rfl) | (rw [if_neg (by decide +kernel)]; exact ⟨rfl, rfl⟩))
    (fun os started H enc _ => lifted os started H enc)
theorem proved : Rows.FnExactFewestVerticesSaid := over
#print axioms proved
end Go.Proofs.YtagdejckmpipbaaGreat.fnExactFewestVertices
namespace Go.Proofs.YtagdejckmpipbaaGreat
/-- The row, under a short name, for the claim. -/
theorem fnExactFewestVertices_holds : Rows.FnExactFewestVerticesSaid := fnExactFewestVertices.proved
end Go.Proofs.YtagdejckmpipbaaGreat
