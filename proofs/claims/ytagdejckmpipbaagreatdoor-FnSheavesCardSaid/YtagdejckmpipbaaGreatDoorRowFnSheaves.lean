/-
  FnSheaves: for every input the call returns true, and each argument reads behind it as it read before. Conditions: none but those of the given row.
-/
import Derived.Test.YtagdejckmpipbaaGreatDoorRows
import Derived.Test.YtagdejckmpipbaaGreatDoorSeat
import Derived.Test.YtagdejckmpipbaaGreatDoorCards
import Derived.Test.YtagdejckmpipbaaGreatDoorTie
import Derived.LaidMore
import Derived.LaidHandle
import Derived.MakeChecks
import Derived.Lib.LaidTab
import Derived.SevenTiedAt
import Derived.Stop.Joined
import Derived.Stop.LaidErr
import Derived.Lay
import Derived.HandedShaped
import Derived.Shelf.Vars
import Derived.Test.YtagdejckmpipbaaGreatDoorT7
import Derived.Test.YtagdejckmpipbaaGreatDoorT5
import Derived.WalkKit
import Derived.ProofKit
import Derived.OpenShut
import Derived.ShutString
import Derived.ChangeOld
import Derived.Below
set_option linter.unusedVariables false
set_option linter.unusedSimpArgs false
namespace Go.Proofs.YtagdejckmpipbaaGreatDoor.fnSheaves
open Go.ChangeShapes Go.WideShapes Go.ChangeAt Go.RowKit
open Go.ChangeMaps (open_string shut_string)
set_option linter.unusedVariables false
set_option maxRecDepth 100000
theorem own : ownKnob Tryz.prog.godebug = none := seatOwn
theorem laidOut : laidOutB Tryz.prog = true := seatLaidOut
theorem envFns : VeT.fnL.map (·.map Prod.fst) = (List.range VeT.fnL.length).map fun i => bif ([false, false, false, false, false, true, false, false, false, true, false, false, true, false, false, true, true, true, true, true, true, true, true, true, true, true, true, true, false, false, false, false, false, false, false, false, true, true, true, true, false, false, false, false, false, false, true, false, true, true, false, false, false, false, false, false, true, true, true, true, true, true, true, true, true, true, true, true, true, true, true, true, true, true, true, true, true, true, true, false, false, true, true, false, false, false, true, false, false, false, false, false, true, true, true, true, true, false, true, true, true, false, false, false, false, false, false, false, false, false, true, true, false, true, false, false, true, false, false, true, true, true, true, true, true, true, true, true, true, true, true, true, true, true, true, true, true, true, true, true, true, true, true, true, true, true, true, true, true, true, true, true, true, false, false, true, true, true, true, true, true, false, false, false, false, false, true, false, false, false, true, true, false, false, false, true, true, true, true, true, true, true, true, true, true, true, true, true, true, true, true, true, true, true, true, true, false, false, true, false, true, true, true, true, true, true, true, false, false, false, false, false, false, false, false, false, false, false, false, false, false, false, false, true, true, true, true, true, true, true, false, false, false, true, true, false, false, false, false, false, false, false, false, false, false, false, false, false, false, false, true, true, true, true, false, false, false, false, false, false, false, false, false, true, false, false, false, false, false, false, false, false, false, false, false, false, false, false, false, false, false, false, false, false, false, false, false, false, false, false, false, false, false, false, false, false, false, false, false, false, false, false, false, false, false] : List Bool).getD i false then VeT.E.P.funcs[i]? else none := by kernel_rfl
theorem envCalls : ((List.range VeT.sigL.length).all fun i => match VeT.sigL.getD i none with
    | none => true
    | some _ => match VeT.E.P.funcs[i]? with
      | some fn => fn.body.isSome && !(fn.name == "runtime.NumGoroutine")
      | none => false) = true := by kernel_rfl
theorem envOk : Ve.EnvOk VeT.E := ⟨Ve.qsT rfl envCalls, Checked.mixed Tryz.checked, Ve.qtf rfl envFns⟩
theorem prims : ∀ f p, VeT.E.prim f = some p → ∀ r, Ve.qgL VeT.E (Ve.mkR r) → ∀ args dv sg, VeT.E.sig f = some sg → p (Ve.mkR r) args = some dv → Ve.qaO VeT.E.gs VeT.E.P sg f args dv := (VeT.qsH envOk)
theorem laidPlain : (Rows.fnSheavesRow.laid.all fun x => x.2.handleName?.isNone) = true := by kernel_rfl
set_option maxRecDepth 100000 in
theorem door_met (os : Os) (args : Array Value) : laidMetH Tryz.prog Rows.fnSheavesRow.laid ((World.laidAll Tryz.prog os Rows.fnSheavesRow.laid).forCall (fun _ _ => 0) ⟨#[], args, []⟩).memory := by
  rw [MakeChecks.laidMetH_plain _ _ _ laidPlain]
  exact laidMet_laidAll _ (by kernel_rfl) (by kernel_rfl)
theorem var_some {P : Program} {w : World} {n : String} {g : Nat} {cs : Array Value} (hg : P.globalNamed n = some g) (h : w.var? P n = some cs) : ∃ e fz, g < w.heap.size ∧ w.heap[g]? = some (.cells cs e fz) := by
  unfold World.var? at h
  rw [hg] at h
  simp only [Option.bind_some] at h
  split at h
  · rename_i c e fz hh
    obtain rfl := Option.some.inj h
    exact ⟨e, fz, (Array.getElem?_eq_some_iff.1 hh).1, hh⟩
  · cases h
theorem cell_some {w : World} {g : Nat} {v : Value} (h : w.cell? ⟨g, 0, none⟩ = some v) : ∃ cs e fz, g < w.heap.size ∧ w.heap[g]? = some (.cells cs e fz) ∧ cs[0]? = some v := by
  unfold World.cell? at h
  split at h
  · rename_i c e fz hh
    exact ⟨c, e, fz, (Array.getElem?_eq_some_iff.1 hh).1, hh, h⟩
  · cases h
theorem rowE (u : TypeId) (h : Tryz.prog.typeName? 3 u = some "*errors.errorString") : u = 257 :=
  have star : "*" ++ "errors.errorString" = "*errors.errorString" := by decide
  typeName_ptr_named (nm := "errors.errorString") (by rw [star]; kernel_rfl) (by kernel_rfl) (by decide) u (by rw [star]; exact h)
theorem of_laid {W : World} (h : laidMetH Tryz.prog Rows.fnSheavesRow.laid W) (hsh : W.ShapedOpen Tryz.prog) : Ve.Gl VeT.E.gs W fun b => b < W.heap.size := by
  rw [MakeChecks.laidMetH_plain _ _ _ laidPlain] at h
  have hM := h
  obtain ⟨ps, ⟨g0, t0, cs0, f0, p0, q0, hg0, ht0, hv0, hd0, ⟨g1, t1, cs1, f1, p1, q1, hg1, ht1, hv1, hd1, ⟨g2, t2, cs2, f2, p2, q2, hg2, ht2, hv2, hd2, ⟨g3, t3, cs3, f3, p3, q3, hg3, ht3, hv3, hd3, ⟨g4, t4, cs4, f4, p4, q4, hg4, ht4, hv4, hd4, ⟨g5, t5, cs5, f5, p5, q5, hg5, ht5, hv5, hd5, ⟨g6, t6, cs6, f6, p6, q6, hg6, ht6, hv6, hd6, _, _⟩, _⟩, _⟩, _⟩, _⟩, _⟩, _⟩, _⟩ := h
  intro p hp
  rcases List.mem_cons.1 hp with rfl | hp
  · have hg : Tryz.prog.globalNamed "internal/strconv.uint64pow10" = some (VeT.gv "internal/strconv.uint64pow10") := by kernel_rfl
    obtain rfl : VeT.gv "internal/strconv.uint64pow10" = g2 := Option.some.inj (hg.symm.trans hg2)
    have hty : (Tryz.prog.globals[VeT.gv "internal/strconv.uint64pow10"]?).map (·.type) = some 235 := by kernel_rfl
    obtain rfl : 235 = t2 := Option.some.inj (hty.symm.trans ht2)
    have hdat : (Rows.laid_internal_strconv_uint64pow10 : DataW Unit) = Lib.tabData .u64 Lib.pow10Tab := by kernel_rfl
    have hd2 := hd2
    rw [hdat] at hd2
    have hc := Lib.cells_of_tab (show Tryz.prog.underlying 235 = some (.array 20 151) by kernel_rfl) (show Tryz.prog.underlying 151 = some (.int .u64) by kernel_rfl) (by kernel_rfl) (by kernel_rfl) hd2
    unfold World.var? at hv2
    rw [hg] at hv2
    simp only [Option.bind_some] at hv2
    split at hv2
    · rename_i cs e fz hh
      obtain rfl := Option.some.inj hv2
      exact ⟨(Array.getElem?_eq_some_iff.1 hh).1, cs, e, fz, hh, by show cs = _; rw [← hc]⟩
    · cases hv2
  rcases List.mem_cons.1 hp with rfl | hp
  · have hg : Tryz.prog.globalNamed "strconv.ErrSyntax" = some (VeT.gv "strconv.ErrSyntax") := by kernel_rfl
    obtain ⟨a0, s0, hv, _⟩ := laid_sentinel hM.tail.tail.tail.tail.tail hg (show (Tryz.prog.globals[VeT.gv "strconv.ErrSyntax"]?).map (·.type) = some 136 by kernel_rfl) Tryz.underlying136 rowE Tryz.underlying257 Tryz.underlying259 rfl rfl Tryz.underlying9 (by kernel_rfl) (by kernel_rfl)
    obtain ⟨e, fz, hlt, hh⟩ := var_some hg hv
    exact ⟨hlt, _, e, fz, hh, _, _, rfl⟩
  rcases List.mem_cons.1 hp with rfl | hp
  · have hg : Tryz.prog.globalNamed "strconv.ErrRange" = some (VeT.gv "strconv.ErrRange") := by kernel_rfl
    obtain ⟨a0, s0, hv, _⟩ := laid_sentinel hM.tail.tail.tail.tail hg (show (Tryz.prog.globals[VeT.gv "strconv.ErrRange"]?).map (·.type) = some 136 by kernel_rfl) Tryz.underlying136 rowE Tryz.underlying257 Tryz.underlying259 rfl rfl Tryz.underlying9 (by kernel_rfl) (by kernel_rfl)
    obtain ⟨e, fz, hlt, hh⟩ := var_some hg hv
    exact ⟨hlt, _, e, fz, hh, _, _, rfl⟩
  rcases List.mem_cons.1 hp with rfl | hp
  · obtain ⟨m, hm⟩ := Tryz.splitl45.s1_3 W hsh
    have hg : Tryz.splitl45_ren.g 1 = VeT.gv "internal/bytealg.MaxLen" := by kernel_rfl
    rw [hg] at hm
    obtain ⟨cs, e, fz, hlt, hh, hc⟩ := cell_some hm
    exact ⟨hlt, cs, e, fz, hh, m, hc⟩
  cases hp
theorem wrap {H : Type} {enc : TypeId × Value → H} {a : Assume} {C : Checked} {os : Os} {f : FuncId} {fn : Func} {s : ChangeSpec} {conds : List PathCond} {apart fresh handsOn again : Bool} {X : World → Array Value → Prop}
    (hX : ∀ (w w' : World) (args : Array Value), w.heap = w'.heap → X w args → X w' args)
    (own : ownKnob C.prog.godebug = Option.none) (started : os.Started) (noInit : C.prog.inits.idxOf? f = Option.none) (hfn : C.prog.funcs[f]? = some fn)
    (witness : ∃ (w : World) (tape : Tape) (i : Input), w.os = os ∧ (w.forCall tape i).Shaped C.prog ∧ i.vars = [] ∧ Input.okWide C.prog (w.forCall tape i) .any w.heap.size f i ∧
      ((s.pre enc C.prog fn conds apart (w.forCall tape i).memory i.args ∧ X (w.forCall tape i).memory i.args) ∧ sizedMet enc C.prog fn (OpenSpec.ofChange s) apart (w.forCall tape i).memory i.args) ∧ a.holds C.prog (lone (Frame.enter C.prog f i.args .normal) [] (w.forCall tape i)))
    (contract : ∀ (W : World) (base : Nat) (args : Array Value) (ds gs : List (DataW H)) (before : List MemPlace),
      (∀ (j : Nat) t v, fn.params[j]? = some t → args[j]? = some v → Value.okWide C.prog W .any base t v) →
      DataW.Whole enc C.prog fn.params.toList s.vars apart W args.toList ds gs before →
      conds.all (PathCond.test C.prog ⟨fn.params.toList, ds, s.plain.varTypes C.prog, gs⟩) = true →
      (DataW.weightsEach C.prog (fn.params.toList ++ s.plain.varTypes C.prog) (ds ++ gs)).all (· ≤ reachBytes) = true → X W args → W.ShapedOpen C.prog →
      a.holds C.prog (lone (Frame.enter C.prog f args .normal) [] W) →
      Calls C.prog f args W fun e W' => ∃ v, e = .returned v ∧ s.post enc C.prog fn apart fresh handsOn again W args v W') :
    ReturnsInHanded a C os f .any (fun w args => (s.pre enc C.prog fn conds apart w args ∧ X w args) ∧ sizedMet enc C.prog fn (OpenSpec.ofChange s) apart w args) (s.post enc C.prog fn apart fresh handsOn again) := by
  refine returnsInHanded_of_calls own started noInit witness ?_
  intro w tape i _ hsh _ hok hpre hholds
  obtain ⟨_, _, _, fn', hfn', _, _, _, _, hval⟩ := hok
  have e : fn' = fn := Option.some.inj (hfn'.symm.trans hfn)
  subst e
  obtain ⟨⟨⟨ds, gs, before, hw, hc⟩, hx⟩, hz⟩ := hpre
  have hw' := DataW.Whole.of_heap (w' := w.forCall tape i) (by rfl) hw
  refine (contract (w.forCall tape i) w.heap.size i.args ds gs before hval hw' hc (hz.weights hw) (hX _ _ _ (by rfl) hx) hsh hholds).mono fun e W' ⟨v, he, hp⟩ => ?_
  subst he
  exact ChangeSpec.post_blind hp
set_option maxRecDepth 100000 in
theorem lifted (os : Os) (started : os.Started) (H : Type) (enc : TypeId × Value → H) :
    ReturnsInHanded {} Tryz.checked os 5 .any (fun w args => (Rows.fnSheavesSpec.pre enc Tryz.prog Tryz.f5 Rows.fnSheavesRow.domain false w args ∧ laidMetH Tryz.prog Rows.fnSheavesRow.laid w) ∧ sizedMet enc Tryz.prog Tryz.f5 (OpenSpec.ofChange Rows.fnSheavesSpec) false w args) (Rows.fnSheavesSpec.post enc Tryz.prog Tryz.f5 false true false false) := by
  refine wrap (C := Tryz.checked) (X := fun w _ => laidMetH Tryz.prog Rows.fnSheavesRow.laid w) (fun _ _ _ hh h => h.of_heap hh) own started (by kernel_rfl) Tryz.func5
    (ChangeSpec.witness_shaped (enc := enc) (C := Tryz.checked) (os := os) (X := fun w _ => laidMetH Tryz.prog Rows.fnSheavesRow.laid w) false (World.laidAll Tryz.prog os Rows.fnSheavesRow.laid) #[.slice none 0 0, .slice none 0 0] 8 (World.laidAll_os _ _ _) (World.shaped_of_ZipB (by kernel_rfl) (by kernel_rfl)) (by kernel_rfl) (by kernel_rfl) (by kernel_rfl) (door_met os _)) ?_
  intro W base args ds gs before hval0 hW hcnd _ hL hsh _
  have hval : ∀ (j : Nat) t v, Tryz.f5.params[j]? = some t → args[j]? = some v → Value.okWide Tryz.prog W .any base t v := hval0
  have hW' := hW
  obtain ⟨p, q, hA0, hV, rfl, hfz, hnd⟩ := hW
  have hA : DataW.TrodAll enc Tryz.prog W 0 (fun _ => true) true Tryz.f5.params.toList args.toList ds p := hA0
  rw [Tryz.params5] at hA hval
  obtain ⟨v0, vs0, d0, ds0, p0, q0, hargs, rfl, rfl, h0, r0⟩ := trodAll_cons hA
  obtain ⟨v1, vs1, d1, ds1, p1, q1, rfl, rfl, rfl, h1, r1⟩ := trodAll_cons r0
  obtain ⟨rfl, rfl, rfl⟩ := trodAll_nil r1
  obtain rfl : args = #[v0, v1] := by cases args; simp_all
  obtain ⟨rfl, rfl⟩ := trodVars_none hV
  have lt0 : ∀ x ∈ p0, x.block < W.heap.size := by obtain ⟨m, hm⟩ := h0; exact DataW.trod_lt m _ _ _ hm
  have lt1 : ∀ x ∈ p1, x.block < W.heap.size := by obtain ⟨m, hm⟩ := h1; exact DataW.trod_lt m _ _ _ hm
  obtain ⟨z1, hz1⟩ := Ve.qsF 8 (c := (.cons (.sl (.int .u8)) .nil)) (rest := .nil) (by kernel_rfl) h1 (⟨rfl, trivial⟩ : Ve.Rp (fun b => b < W.heap.size) W .nil () [] ∧ Ve.Wf .nil ())
  obtain ⟨z0, hz0⟩ := Ve.qsF 8 (c := (.cons (.sl (.int .u8)) (.cons (.sl (.int .u8)) .nil))) (rest := (.cons (.sl (.int .u8)) .nil)) (by kernel_rfl) h0 hz1
  obtain ⟨a0, len0, cap0, rfl⟩ := okWide_slice Tryz.underlying42 (hval 0 42 v0 rfl rfl)
  obtain ⟨a1, len1, cap1, rfl⟩ := okWide_slice Tryz.underlying42 (hval 1 42 v1 rfl rfl)
  obtain ⟨K, hK⟩ := (VeT.qq2 z0 hz0.2).some
  have hcalls := Ve.qsa envOk prims (f := 5) (sg := VeT.sg_Z83) VeT.sig_laws_FnSheaves_eq rfl rfl rfl rfl rfl (x := z0) hK (of_laid hL hsh) hz0.1
  have hargsOf : Ve.qaR VeT.sg_Z83.ps ((Value.slice a0 len0 cap0).cells.toList ++ ((Value.slice a1 len1 cap1).cells.toList ++ [])) = [.slice a0 len0 cap0, .slice a1 len1 cap1] := by
    refine Ve.qr4.trans (congrArg _ ?_)
    refine Ve.qr4.trans (congrArg _ ?_)
    rfl
  rw [hargsOf] at hcalls
  refine hcalls.mono fun e W' ⟨he, bel⟩ => ?_
  subst he
  exact ⟨_, rfl, _, _, _, [], _, [], hW', trodAll_mk1 (shut_bool Tryz.underlying4 _), (trodAll_cons_mk (Below.trod laidOut (by kernel_rfl) (of_decide_eq_true (by kernel_rfl)) h0 bel lt0) (trodAll_cons_mk (Below.trod laidOut (by kernel_rfl) (of_decide_eq_true (by kernel_rfl)) h1 bel lt1) trodAll_mk0)), rfl, bel.frame _, fun h => by cases h⟩
theorem mayEnter : Tryz.pinned.checked.prog.mayEnter = true := seatMayEnter
theorem laidOutP : laidOutB Tryz.pinned.checked.prog = true := seatLaidOut
theorem inPl : (Rows.fnSheavesRow.inPlace == Tryz.pinned.checked.prog.inPlace 5) = true := by kernel_rfl
theorem unf : (Rows.fnSheavesRow.unfollowed == Tryz.pinned.checked.prog.unfollowed 5) = true := by kernel_rfl
theorem recu : (Rows.fnSheavesRow.recurses == Tryz.pinned.checked.prog.recurses 5) = true := by kernel_rfl
theorem nmd : (Rows.fnSheavesRow.named == Tryz.pinned.checked.prog.varsNamed 5) = true := by kernel_rfl
theorem closed : joinedFacts Tryz.pinned.checked.prog 5 Tryz.f5 Rows.fnSheavesSpec Rows.fnSheavesRow = true := by
  unfold joinedFacts
  simp only [Bool.and_eq_true]
  and_intros
  all_goals first | with_reducible exact mayEnter | with_reducible exact laidOutP | with_reducible exact inPl | with_reducible exact unf | with_reducible exact recu | with_reducible exact nmd | kernel_rfl
theorem over : Rows.fnSheavesRow.holds Tryz.pinned (OpenSpec.ofChange Rows.fnSheavesSpec) :=
  OpenClaim.holds_of_wide 5 Tryz.f5 rfl rfl rfl rfl rfl rfl rfl ⟨rfl, rfl, rfl, rfl, rfl⟩ rfl rfl rfl rfl rfl (by kernel_rfl) Tryz.func5 closed
    (of_decide_eq_true (by kernel_rfl)) (by unfold Func.isWrapper; first | (rw [if_pos (by decide +kernel)]; kernel_rfl) | (rw [if_neg (by decide +kernel)]; exact ⟨rfl, rfl⟩))
    (fun os started H enc _ => lifted os started H enc)
theorem proved : Rows.FnSheavesSaid := over
theorem card_holds : Rows.FnSheavesCardSaid :=
  Claim7.holds_tied_plain_at .later [] [.data, .data, .data, .data, .sentinel, .sentinel, .pinned] true (true, "365fdb5c2936881ff5e47076adf4c670220d16755a2ecb4b7edae9db1355b235") true
    proved (fun _ h => by cases h) (by kernel_rfl) (fun _ h => by cases h) fnSheaves_row_tie rfl ⟨rfl, rfl⟩ (by kernel_rfl) rfl
    (fun f fn hf hfn => by
      obtain rfl : f = 5 := Option.some.inj ((show Tryz.prog.funcNamed "loop.example/g01005/laws.FnSheaves" = some 5 by kernel_rfl).symm.trans hf) |>.symm
      obtain rfl : fn = Tryz.f5 := (Option.some.inj (Tryz.func5.symm.trans hfn)).symm
      exact ⟨by kernel_rfl, fun j t ht => by
        rw [Tryz.params5] at ht
        have hm : t ∈ ([42, 42] : List Nat) := by simpa using Array.mem_of_getElem? ht
        have hall : (([42, 42] : List Nat).all fun u => !Tryz.prog.wantsStandIn u) = true := by kernel_rfl
        exact (show Tryz.prog.wantsStandIn t = false by simpa using List.all_eq_true.1 hall t hm)⟩)
    (by kernel_rfl)
#print axioms card_holds
#print axioms proved
end Go.Proofs.YtagdejckmpipbaaGreatDoor.fnSheaves
namespace Go.Proofs.YtagdejckmpipbaaGreatDoor
/-- The row, under a short name, for the claim. -/
theorem fnSheaves_holds : Rows.FnSheavesCardSaid := fnSheaves.card_holds
end Go.Proofs.YtagdejckmpipbaaGreatDoor
