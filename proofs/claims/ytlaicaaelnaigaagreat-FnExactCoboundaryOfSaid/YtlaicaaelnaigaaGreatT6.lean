import Derived.Test.YtlaicaaelnaigaaGreatT5
set_option linter.unusedVariables false
set_option linter.unusedSimpArgs false
open Go Go.Proofs Ve
set_option linter.unusedVariables false
set_option linter.unusedSimpArgs false
namespace VeT

theorem law_CoboundaryMatrix (x0 : Shf) (x1 : Int) (w0 : Wf (.st cS) x0) : Ret E n_laws_FnExactCoboundaryMatrix [dLL x0.1, dI x0.2.1, dL x0.2.2.1, dMs x0.2.2.2.1, dI x1] ⟨.cons .bool .nil, (true, ())⟩ := by
  refine ret_of ?_
  simp only [run_laws_FnExactCoboundaryMatrix, laws_FnExactCoboundaryMatrix.ev]
  obtain ⟨r0, hs0, s0⟩ := szSheaf_ret x0 1048576 w0 (by omega) (by omega)
  refine ev_call hs0 (ev_d (fun _ => ev_rfl) fun n0 => ?_)
  have n0 := Int.not_lt.1 n0
  obtain ⟨b0, m0⟩ := s0 n0
  have hi := implCoboundaryMatrix_ret x0 x1 m0
  have hsp := specCoboundaryMatrix_ret x0 x1 m0
  have hsm := CoboundaryMatrixV_sm x0 x1 m0
  generalize CoboundaryMatrixV x0 x1 = V at hi hsp hsm
  obtain ⟨v0_0, v0_1, v0_2, v0_3, v1, ⟨⟩⟩ := V
  have z0 : Sm (.st cM) (v0_0, v0_1, v0_2, v0_3, ()) := hsm
  obtain ⟨qr0, hqr0, eqr0⟩ := eqMatrix_ret (v0_0, v0_1, v0_2, v0_3, ()) (v0_0, v0_1, v0_2, v0_3, ()) z0
  obtain rfl : qr0 = true := eqr0.2 rfl
  have to0 := toSheaf_ret x0 m0
  obtain ⟨q0, hq0, eq0⟩ := eqSheaf_ret x0 x0 m0
  obtain rfl : q0 = true := eq0.2 rfl
  obtain ⟨ma0, mb0, mc0, hm0, hmb0⟩ := markSheaf_ret x0 m0
  have hk : ¬ (mkSN x0 1 < 0) := by omega
  have mr0 := markMatrix_ret (v0_0, v0_1, v0_2, v0_3, ()) (1) (by omega) z0.2.2.2.1.1
  have hl0 := heldMatrix_ret v0_0 v0_1 v0_2 (1) v0_3.length (by omega) z0.2.2.2.1.1
  have he0 : ¬ (1 + (v0_3.length : Int) < 0) := by omega
  repeat (first | with_reducible exact ev_rfl | with_reducible refine ev_call hqr0 ?_ | with_reducible refine ev_call to0 ?_ | with_reducible refine ev_call hq0 ?_ | with_reducible refine ev_call hi ?_ | with_reducible refine ev_call hsp ?_ | with_reducible refine ev_call hm0 ?_ | with_reducible refine ev_call mr0 ?_ | with_reducible refine ev_call hl0 ?_ | with_reducible refine ev_f (by first | rfl | exact bne_self_eq_false _ | exact decide_eq_false hk | exact decide_eq_false he0 | (simp; done)) ?_ | simp only [bne_self_eq_false, laws_FnExactCoboundaryMatrix.j0_eq _ mk_ok, laws_FnExactCoboundaryMatrix.j1_eq _ mk_ok, laws_FnExactCoboundaryMatrix.j2_eq _ mk_ok, cond_false])

theorem rowCoboundaryMatrix (z : ((.cons (.sl (.sl (.int .i64))) (.cons (.int .i64) (.cons (.sl (.int .i64)) (.cons (.sl (.st cM)) (.cons (.int .i64) .nil))))) : Ty).T)
    (h : Wf (.cons (.sl (.sl (.int .i64))) (.cons (.int .i64) (.cons (.sl (.int .i64)) (.cons (.sl (.st cM)) (.cons (.int .i64) .nil))))) z) :
    Evt fun n => run E n n_laws_FnExactCoboundaryMatrix (unpack _ z) = some ⟨.cons .bool .nil, (true, ())⟩ :=
  law_CoboundaryMatrix (z.1, z.2.1, z.2.2.1, z.2.2.2.1, ()) z.2.2.2.2.1 ⟨h.1, h.2.1, h.2.2.1, h.2.2.2.1, trivial⟩

theorem law_CoboundaryOf (x0 : Shf) (x1 : Int) (x2 : Sim) (w0 : Wf (.st cS) x0) (w2 : Wf (.sl (.int .i64)) x2) : Ret E n_laws_FnExactCoboundaryOf [dLL x0.1, dI x0.2.1, dL x0.2.2.1, dMs x0.2.2.2.1, dI x1, dL x2] ⟨.cons .bool .nil, (true, ())⟩ := by
  refine ret_of ?_
  simp only [run_laws_FnExactCoboundaryOf, laws_FnExactCoboundaryOf.ev]
  refine ev_d (fun _ => ev_rfl) fun l2 => ?_
  have m2 : Sm (.sl (.int .i64)) x2 := ⟨by omega, fun _ _ => trivial⟩
  obtain ⟨r0, hs0, s0⟩ := szSheaf_ret x0 1048576 w0 (by omega) (by omega)
  refine ev_call hs0 (ev_d (fun _ => ev_rfl) fun n0 => ?_)
  have n0 := Int.not_lt.1 n0
  obtain ⟨b0, m0⟩ := s0 n0
  have hi := implCoboundaryOf_ret x0 x1 x2 m0 m2
  have hsp := specCoboundaryOf_ret x0 x1 x2 m0 m2
  have hsm := CoboundaryOfV_sm x0 x1 x2 m0 m2
  generalize CoboundaryOfV x0 x1 x2 = V at hi hsp hsm
  obtain ⟨v0, v1, ⟨⟩⟩ := V
  have z0 : Sm (.sl (.int .i64)) v0 := hsm
  obtain ⟨qr0, hqr0, eqr0⟩ := eqInt64S_ret v0 v0 z0
  obtain rfl : qr0 = true := eqr0.2 rfl
  have to0 := toSheaf_ret x0 m0
  obtain ⟨q0, hq0, eq0⟩ := eqSheaf_ret x0 x0 m0
  obtain rfl : q0 = true := eq0.2 rfl
  have to2 := toInt64S_ret x2 m2
  obtain ⟨q2, hq2, eq2⟩ := eqInt64S_ret x2 x2 m2
  obtain rfl : q2 = true := eq2.2 rfl
  obtain ⟨ma0, mb0, mc0, hm0, hmb0⟩ := markSheaf_ret x0 m0
  have hm2 := markInt64S_ret x2 (mkSN x0 1) (by omega) m2.1
  have hk : ¬ (mkSN x0 1 + (x2.length : Int) < 0) := by omega
  have mr0 := markInt64S_ret v0 (1) (by omega) z0.1
  have hl0 := heldInt64S_ret (1) v0.length (by omega) z0.1
  have he0 : ¬ (1 + (v0.length : Int) < 0) := by omega
  repeat (first | with_reducible exact ev_rfl | with_reducible refine ev_call hqr0 ?_ | with_reducible refine ev_call to0 ?_ | with_reducible refine ev_call hq0 ?_ | with_reducible refine ev_call to2 ?_ | with_reducible refine ev_call hq2 ?_ | with_reducible refine ev_call hi ?_ | with_reducible refine ev_call hsp ?_ | with_reducible refine ev_call hm0 ?_ | with_reducible refine ev_call hm2 ?_ | with_reducible refine ev_call mr0 ?_ | with_reducible refine ev_call hl0 ?_ | with_reducible refine ev_f (by first | rfl | exact bne_self_eq_false _ | exact decide_eq_false hk | exact decide_eq_false he0 | (simp; done)) ?_ | simp only [bne_self_eq_false, laws_FnExactCoboundaryOf.j0_eq _ mk_ok, laws_FnExactCoboundaryOf.j1_eq _ mk_ok, laws_FnExactCoboundaryOf.j2_eq _ mk_ok, cond_false])

theorem rowCoboundaryOf (z : ((.cons (.sl (.sl (.int .i64))) (.cons (.int .i64) (.cons (.sl (.int .i64)) (.cons (.sl (.st cM)) (.cons (.int .i64) (.cons (.sl (.int .i64)) .nil)))))) : Ty).T)
    (h : Wf (.cons (.sl (.sl (.int .i64))) (.cons (.int .i64) (.cons (.sl (.int .i64)) (.cons (.sl (.st cM)) (.cons (.int .i64) (.cons (.sl (.int .i64)) .nil)))))) z) :
    Evt fun n => run E n n_laws_FnExactCoboundaryOf (unpack _ z) = some ⟨.cons .bool .nil, (true, ())⟩ :=
  law_CoboundaryOf (z.1, z.2.1, z.2.2.1, z.2.2.2.1, ()) z.2.2.2.2.1 z.2.2.2.2.2.1 ⟨h.1, h.2.1, h.2.2.1, h.2.2.2.1, trivial⟩ h.2.2.2.2.2.1

theorem law_StalkOf (x0 : Shf) (x1 : Int) (x2 : Sim) (x3 : Int) (w0 : Wf (.st cS) x0) (w2 : Wf (.sl (.int .i64)) x2) : Ret E n_laws_FnExactStalkOf [dLL x0.1, dI x0.2.1, dL x0.2.2.1, dMs x0.2.2.2.1, dI x1, dL x2, dI x3] ⟨.cons .bool .nil, (true, ())⟩ := by
  refine ret_of ?_
  simp only [run_laws_FnExactStalkOf, laws_FnExactStalkOf.ev]
  refine ev_d (fun _ => ev_rfl) fun l2 => ?_
  have m2 : Sm (.sl (.int .i64)) x2 := ⟨by omega, fun _ _ => trivial⟩
  obtain ⟨r0, hs0, s0⟩ := szSheaf_ret x0 1048576 w0 (by omega) (by omega)
  refine ev_call hs0 (ev_d (fun _ => ev_rfl) fun n0 => ?_)
  have n0 := Int.not_lt.1 n0
  obtain ⟨b0, m0⟩ := s0 n0
  have hi := implStalkOf_ret x0 x1 x2 x3 m0 m2
  have hsp := specStalkOf_ret x0 x1 x2 x3 m0 m2
  have hsm := StalkOfV_sm x0 x1 x2 x3 m0 m2
  generalize StalkOfV x0 x1 x2 x3 = V at hi hsp hsm
  obtain ⟨v0, v1, ⟨⟩⟩ := V
  have z0 : Sm (.sl (.int .i64)) v0 := hsm
  obtain ⟨qr0, hqr0, eqr0⟩ := eqInt64S_ret v0 v0 z0
  obtain rfl : qr0 = true := eqr0.2 rfl
  have to0 := toSheaf_ret x0 m0
  obtain ⟨q0, hq0, eq0⟩ := eqSheaf_ret x0 x0 m0
  obtain rfl : q0 = true := eq0.2 rfl
  have to2 := toInt64S_ret x2 m2
  obtain ⟨q2, hq2, eq2⟩ := eqInt64S_ret x2 x2 m2
  obtain rfl : q2 = true := eq2.2 rfl
  obtain ⟨ma0, mb0, mc0, hm0, hmb0⟩ := markSheaf_ret x0 m0
  have hm2 := markInt64S_ret x2 (mkSN x0 1) (by omega) m2.1
  have hk : ¬ (mkSN x0 1 + (x2.length : Int) < 0) := by omega
  have mr0 := markInt64S_ret v0 (1) (by omega) z0.1
  have hl0 := heldInt64S_ret (1) v0.length (by omega) z0.1
  have he0 : ¬ (1 + (v0.length : Int) < 0) := by omega
  repeat (first | with_reducible exact ev_rfl | with_reducible refine ev_call hqr0 ?_ | with_reducible refine ev_call to0 ?_ | with_reducible refine ev_call hq0 ?_ | with_reducible refine ev_call to2 ?_ | with_reducible refine ev_call hq2 ?_ | with_reducible refine ev_call hi ?_ | with_reducible refine ev_call hsp ?_ | with_reducible refine ev_call hm0 ?_ | with_reducible refine ev_call hm2 ?_ | with_reducible refine ev_call mr0 ?_ | with_reducible refine ev_call hl0 ?_ | with_reducible refine ev_f (by first | rfl | exact bne_self_eq_false _ | exact decide_eq_false hk | exact decide_eq_false he0 | (simp; done)) ?_ | simp only [bne_self_eq_false, laws_FnExactStalkOf.j0_eq _ mk_ok, laws_FnExactStalkOf.j1_eq _ mk_ok, laws_FnExactStalkOf.j2_eq _ mk_ok, cond_false])

theorem rowStalkOf (z : ((.cons (.sl (.sl (.int .i64))) (.cons (.int .i64) (.cons (.sl (.int .i64)) (.cons (.sl (.st cM)) (.cons (.int .i64) (.cons (.sl (.int .i64)) (.cons (.int .i64) .nil))))))) : Ty).T)
    (h : Wf (.cons (.sl (.sl (.int .i64))) (.cons (.int .i64) (.cons (.sl (.int .i64)) (.cons (.sl (.st cM)) (.cons (.int .i64) (.cons (.sl (.int .i64)) (.cons (.int .i64) .nil))))))) z) :
    Evt fun n => run E n n_laws_FnExactStalkOf (unpack _ z) = some ⟨.cons .bool .nil, (true, ())⟩ :=
  law_StalkOf (z.1, z.2.1, z.2.2.1, z.2.2.2.1, ()) z.2.2.2.2.1 z.2.2.2.2.2.1 z.2.2.2.2.2.2.1 ⟨h.1, h.2.1, h.2.2.1, h.2.2.2.1, trivial⟩ h.2.2.2.2.2.1

end VeT
