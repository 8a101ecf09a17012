/-
  FnExtensions: for every input the call returns true, and each argument reads behind it as it read before. Conditions: none but those of the given row.
-/
import Derived.Test.YtjnnliedeobfgaaGreatRows
import Derived.Test.YtjnnliedeobfgaaGreatSeat
import Derived.Test.YtjnnliedeobfgaaGreatT9
import Derived.Test.YtjnnliedeobfgaaGreatT6
import Derived.WalkKit
import Derived.ProofKit
import Derived.OpenShut
import Derived.ShutString
import Derived.ChangeOld
import Derived.Below
set_option linter.unusedVariables false
set_option linter.unusedSimpArgs false
namespace Go.Proofs.YtjnnliedeobfgaaGreat.fnExtensions
open Go.ChangeShapes Go.WideShapes Go.ChangeAt Go.RowKit
open Go.ChangeMaps (open_string shut_string)
set_option linter.unusedVariables false
set_option maxRecDepth 100000
theorem own : ownKnob Tryz.prog.godebug = none := seatOwn
theorem laidOut : laidOutB Tryz.prog = true := seatLaidOut
theorem envFns : VeT.fnL.map (·.map Prod.fst) = (List.range VeT.fnL.length).map fun i => bif ([false, false, false, false, false, false, false, false, false, false, true, false, false, false, false, false, false, false, false, false, false, false, false, false, true, false, false, false, false, true, false, false, false, false, false, false, false, false, false, false, false, true, false, false, false, false, false, true, false, false, false, false, false, false, false, false, false, false, false, false, false, false, false, false, false, false, false, true, false, false, false, true, true, true, true, true, true, true, true, true, false, false, true, false, true, true, false, false, false, false, false, false, true, false, true, true, true, false, false, false, false, false, false, true, false, false, false, false, true, false, false, true, true, true, true, true, false, false, false, true, true, true, false, false, false, true, false, false, true, true, false, false, true, true, true, true, false, true, true, true, true, true, true, true, true, true, false, false, true, true, true, true, false, false, false, true, true, true, false, false, true, true, false, true, false, true, false, false, false, false, true, true, true, true, true, true, true, true, true, true, true, true, true, true, true, true, true, true, true, true, true, true, false, true, true, true, true, true, true, true, false, true, false, true, false, true, true, true, false, true, false, true, true, true, true, true, true, true, true, false, false, false, true, false, false, false, false, false, true, true, true, true, true, true, false, false, false, true, true, true, true, true, true, false, true, true, true, true, true, true, true, true, false, true, true, true, true, true, true, true, true, true, false, false, true, true, true, true, true, true, true, true, false, false, true, true, true, true, false, true, true, false, true, false, true, false, true, true, true, true, true, false, true, true, false, false, false, false, true, true, true, true, true, true, true, true, true, true, false, false, true, true, true, true, true, true, true, false, true, true, true, true, true, false, false, false, true, true, true, false, false, false, false, false, false, false, false, false, false, false, true, true, false, false, false, false, false, false, false, false, false, true, false, false, false, false, false, false, false, false, false, false, false, false, false, false, false, false, false, false, false, false, false, false, false, false, false, false] : List Bool).getD i false then VeT.E.P.funcs[i]? else none := by kernel_rfl
theorem envCalls : ((List.range VeT.sigL.length).all fun i => match VeT.sigL.getD i none with
    | none => true
    | some _ => match VeT.E.P.funcs[i]? with
      | some fn => fn.body.isSome && !(fn.name == "runtime.NumGoroutine")
      | none => false) = true := by kernel_rfl
theorem envOk : Ve.EnvOk VeT.E := ⟨Ve.qsH rfl envCalls, Checked.mixed Tryz.checked, Ve.qs2 rfl envFns⟩
theorem prims : ∀ f p, VeT.E.prim f = some p → ∀ r, Ve.qi2 VeT.E (Ve.mkR r) → ∀ args dv sg, VeT.E.sig f = some sg → p (Ve.mkR r) args = some dv → Ve.qds VeT.E.P sg f args dv := VeT.qsz
set_option maxRecDepth 100000 in
theorem lifted (os : Os) (started : os.Started) (H : Type) (enc : TypeId × Value → H) :
    ReturnsInHanded {} Tryz.checked os 10 .any (Rows.fnExtensionsSpec.pre6 enc Tryz.prog Tryz.f10 Rows.fnExtensionsRow.domain false) (Rows.fnExtensionsSpec.post enc Tryz.prog Tryz.f10 false true false false) := by
  refine returnsInHanded_of_change (C := Tryz.checked) own started (by kernel_rfl) Tryz.func10
    (ChangeSpec.witness6 (enc := enc) (C := Tryz.checked) false ⟨#[], #[.slice none 0 0, .slice none 0 0], []⟩ 8 (by kernel_rfl) (by kernel_rfl) (by kernel_rfl) (by kernel_rfl)) ?_
  intro W base args ds gs before hval0 hW hcnd _
  have hval : ∀ (j : Nat) t v, Tryz.f10.params[j]? = some t → args[j]? = some v → Value.okWide Tryz.prog W .any base t v := hval0
  have hW' := hW
  obtain ⟨p, q, hA0, hV, rfl, hfz, hnd⟩ := hW
  have hA : DataW.TrodAll enc Tryz.prog W 0 (fun _ => true) true Tryz.f10.params.toList args.toList ds p := hA0
  rw [Tryz.params10] at hA hval
  obtain ⟨v0, vs0, d0, ds0, p0, q0, hargs, rfl, rfl, h0, r0⟩ := trodAll_cons hA
  obtain ⟨v1, vs1, d1, ds1, p1, q1, rfl, rfl, rfl, h1, r1⟩ := trodAll_cons r0
  obtain ⟨rfl, rfl, rfl⟩ := trodAll_nil r1
  obtain rfl : args = #[v0, v1] := by cases args; simp_all
  obtain ⟨rfl, rfl⟩ := trodVars_none hV
  have lt0 : ∀ x ∈ p0, x.block < W.heap.size := by obtain ⟨m, hm⟩ := h0; exact DataW.trod_lt m _ _ _ hm
  have lt1 : ∀ x ∈ p1, x.block < W.heap.size := by obtain ⟨m, hm⟩ := h1; exact DataW.trod_lt m _ _ _ hm
  obtain ⟨z1, hz1⟩ := Ve.qsD 8 (c := (.cons (.sl (.int .u8)) .nil)) (rest := .nil) (by kernel_rfl) h1 (⟨rfl, trivial⟩ : Ve.Rp (fun b => b < W.heap.size) W .nil () [] ∧ Ve.Wf .nil ())
  obtain ⟨z0, hz0⟩ := Ve.qsD 8 (c := (.cons (.sl (.int .u8)) (.cons (.sl (.int .u8)) .nil))) (rest := (.cons (.sl (.int .u8)) .nil)) (by kernel_rfl) h0 hz1
  obtain ⟨a0, len0, cap0, rfl⟩ := okWide_slice Tryz.underlying22 (hval 0 22 v0 rfl rfl)
  obtain ⟨a1, len1, cap1, rfl⟩ := okWide_slice Tryz.underlying22 (hval 1 22 v1 rfl rfl)
  obtain ⟨K, hK⟩ := (VeT.qpw z0 hz0.2).some
  have hcalls := Ve.qr7 envOk prims (f := 10) (sg := VeT.sg_Z91) VeT.sig_laws_FnExtensions_eq rfl rfl rfl rfl rfl (x := z0) hK hz0.1
  have hargsOf : Ve.qaY VeT.sg_Z91.ps ((Value.slice a0 len0 cap0).cells.toList ++ ((Value.slice a1 len1 cap1).cells.toList ++ [])) = [.slice a0 len0 cap0, .slice a1 len1 cap1] := by
    refine Ve.qr0.trans (congrArg _ ?_)
    refine Ve.qr0.trans (congrArg _ ?_)
    rfl
  rw [hargsOf] at hcalls
  refine hcalls.mono fun e W' ⟨he, bel⟩ => ?_
  subst he
  exact ⟨_, rfl, _, _, _, [], _, [], hW', trodAll_mk1 (shut_bool Tryz.underlying4 _), (trodAll_cons_mk (Below.trod laidOut (by kernel_rfl) (of_decide_eq_true (by kernel_rfl)) h0 bel lt0) (trodAll_cons_mk (Below.trod laidOut (by kernel_rfl) (of_decide_eq_true (by kernel_rfl)) h1 bel lt1) trodAll_mk0)), rfl, bel.frame _, fun h => by cases h⟩
theorem mayEnter : Tryz.pinned.checked.prog.mayEnter = true := seatMayEnter
theorem laidOutP : laidOutB Tryz.pinned.checked.prog = true := seatLaidOut
theorem inPl : (Rows.fnExtensionsRow.inPlace == Tryz.pinned.checked.prog.inPlace 10) = true := by kernel_rfl
theorem unf : (Rows.fnExtensionsRow.unfollowed == Tryz.pinned.checked.prog.unfollowed 10) = true := by kernel_rfl
theorem recu : (Rows.fnExtensionsRow.recurses == Tryz.pinned.checked.prog.recurses 10) = true := by kernel_rfl
theorem nmd : (Rows.fnExtensionsRow.named == Tryz.pinned.checked.prog.varsNamed 10) = true := by kernel_rfl
theorem closed : joinedFacts Tryz.pinned.checked.prog 10 Tryz.f10 Rows.fnExtensionsSpec Rows.fnExtensionsRow = true := by
  unfold joinedFacts
  simp only [Bool.and_eq_true]
  and_intros
  all_goals first | with_reducible exact mayEnter | with_reducible exact laidOutP | with_reducible exact inPl | with_reducible exact unf | with_reducible exact recu | with_reducible exact nmd | kernel_rfl
theorem over : Rows.fnExtensionsRow.holds Tryz.pinned (OpenSpec.ofChange Rows.fnExtensionsSpec) :=
  OpenClaim.holds_of_wide 10 Tryz.f10 rfl rfl rfl rfl rfl rfl rfl ⟨rfl, rfl, rfl, rfl, rfl⟩ rfl rfl rfl rfl rfl (by kernel_rfl) Tryz.func10 closed
    (of_decide_eq_true (by kernel_rfl)) (by unfold Func.isWrapper; first | (rw [if_pos (by decide +kernel)]; kernel_rfl) | (rw [if_neg (by decide +kernel)]; exact ⟨rfl, rfl⟩))
    (fun os started H enc _ => lifted os started H enc)
theorem proved : Rows.FnExtensionsSaid := over
#print axioms proved
end Go.Proofs.YtjnnliedeobfgaaGreat.fnExtensions
namespace Go.Proofs.YtjnnliedeobfgaaGreat
/-- The row, under a short name, for the claim. -/
theorem fnExtensions_holds : Rows.FnExtensionsSaid := fnExtensions.proved
end Go.Proofs.YtjnnliedeobfgaaGreat
