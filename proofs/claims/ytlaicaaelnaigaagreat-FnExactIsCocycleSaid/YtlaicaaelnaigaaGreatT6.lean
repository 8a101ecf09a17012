import Derived.Test.YtlaicaaelnaigaaGreatT5
import Derived.Test.YtlaicaaelnaigaaGreatT4
import Derived.Test.YtlaicaaelnaigaaGreatV2
set_option linter.unusedVariables false
set_option linter.unusedSimpArgs false
open Go Go.Proofs Ve
set_option linter.unusedVariables false
set_option linter.unusedSimpArgs false
namespace VeT

theorem l11Matrix_ret (x : Shf) (k : Int) (hk : -1 ≤ k ∧ k ≤ 3) (hc : Sm (.sl (.sl (.int .i64))) x.1) (h : VS x.1 x.2.1 x.2.2.1 x.2.2.2.1) :
    Ret E n_spec_l11Matrix [dS x, dI k] ⟨o_spec_l11Matrix, cobM x.1 x.2.1 x.2.2.1 x.2.2.2.1 k⟩ := by
  obtain ⟨c, p, st, ms, ⟨⟩⟩ := x
  have hc : Sm (.sl (.sl (.int .i64))) c := hc
  have h : VS c p st ms := h
  show Ret E n_spec_l11Matrix [dS (c, p, st, ms, ()), dI k] ⟨o_spec_l11Matrix, cobM c p st ms k⟩
  obtain ⟨H, eH, bH, tH⟩ := SD_nat h (k + 1)
  obtain ⟨W, eW, bW, tW⟩ := SD_nat h k
  have hst := h.2.2.1.2.1
  have hl := h.2.2.1.1
  have h48 := h.1.1
  have ek : w64 (k + 1) = k + 1 := w64_small (by omega) (by omega)
  have hHW := rc_le bH bW
  have s1 := l09Sum_ret c st (k + 1) hc hl hst (by omega)
  have s2 := l09Sum_ret c st k hc hl hst (by omega)
  rw [show sumD c st (k + 1) (ofDim c (k + 1) c.length).length = (H : Int) from eH] at s1
  rw [show sumD c st k (ofDim c k c.length).length = (W : Int) from eW] at s2
  have z := l03Zero_ret p H W bH bW
  have hM : cobM c p st ms k = (p, (H : Int), (W : Int), cobC c p st ms k, ()) := by rw [cobM, eH, eW]
  rw [hM]
  refine ret_of ?_
  simp only [run_spec_l11Matrix, spec_l11Matrix.ev, ek]
  suffices hmain : Ev fun φ => spec_l11Matrix.j0 (mkR (run E (φ 0))) (φ 0) (c, p, st, ms, ()) k 0 0 0 p (H : Int) (W : Int) (List.replicate (H * W) 0) = some ⟨o_spec_l11Matrix, (p, (H : Int), (W : Int), cobC c p st ms k, ())⟩ by
    exact ev_both (ev_call s1 (ev_both (ev_call s2 (ev_both (ev_call z hmain) (ev_call z hmain))) (ev_call s2 (ev_call z hmain)))) (ev_call s1 (ev_call s2 (ev_call z hmain)))
  simp only [spec_l11Matrix.j0_eq _ mk_ok, ek]
  refine ev_call (l05Of_ret c (k + 1) hc (by omega)) ?_
  have hol := ofDim_length c (k + 1) c.length
  by_cases hk0 : k < 0
  · have e0 : cobC c p st ms k = List.replicate (H * W) 0 := by rw [cobC, if_pos hk0, tH, tW]
    rw [e0]
    refine Ev.start (p := fun φ n => spec_l11Matrix.l1 (mkR (run E (φ 0))) (φ 0) n (c, p, st, ms, ()) k (ofDim c (k + 1) c.length) 0 0 0 0 p (H : Int) (W : Int) (List.replicate (H * W) 0) = _) 1 ?_ (fun _ _ _ h => h)
    refine Ev.round 1 (L := fun φ n => spec_l11Matrix.l1 (mkR (run E (φ 0))) (φ 0) n (c, p, st, ms, ()) k (ofDim c (k + 1) c.length) 0 0 0 0 p (H : Int) (W : Int) (List.replicate (H * W) 0)) ?_ (fun _ _ _ => rfl)
    simp only [spec_l11Matrix.l1_succ _ mk_ok, spec_l11Matrix.j2_eq _ mk_ok, show decide (k ≥ 0) = false from decide_eq_false (by omega), cond_false]
    exact ev_d (fun _ => ev_rfl) fun _ => ev_rfl
  have e0 : cobC c p st ms k = upds (stS c p st ms k (ofDim c (k + 1) c.length).length) (List.replicate (H * W) 0) := by rw [cobC, if_neg hk0, tH, tW]
  rw [e0]
  -- one row of a face' stores
  have r5 : ∀ (s a T L R C i : Nat) (F : CobF c p st ms k s a T L R C H W) (t : Nat) (ls : Sim) (fs : Sim) (cs : Sim) (hcs : cs.length = H * W) (hi : i < R) (r : Option Dv),
      (Ev fun φ => spec_l11Matrix.l4 (mkR (run E (φ 0))) (φ 0) (φ 1) (φ 2) (φ 3) (c, p, st, ms, ()) k ls (t : Int) fs (T : Int) (a : Int) (mp c ms s a) (L : Int) (sgn p a) ((i + 1 : Nat) : Int) 0 0 0 p (H : Int) (W : Int) (upds (stJ p (mp c ms s a) W T L (sgn p a) i C) cs) = r) →
      Ev fun φ => spec_l11Matrix.l5 (mkR (run E (φ 0))) (φ 0) (φ 1) (φ 2) (φ 3) (φ 0) (c, p, st, ms, ()) k ls (t : Int) fs (T : Int) (a : Int) (mp c ms s a) (L : Int) (sgn p a) (i : Int) 0 0 0 0 p (H : Int) (W : Int) cs = r := by
    intro s a T L R C i F t ls fs cs hcs hi r hr
    refine Ev.start (p := fun φ n => spec_l11Matrix.l5 (mkR (run E (φ 0))) (φ 0) (φ 1) (φ 2) (φ 3) n (c, p, st, ms, ()) k ls (t : Int) fs (T : Int) (a : Int) (mp c ms s a) (L : Int) (sgn p a) (i : Int) 0 0 0 0 p (H : Int) (W : Int) cs = _) 4 ?_ (fun _ _ _ h => h)
    refine fold_loop 4 (L := fun φ n j o => spec_l11Matrix.l5 (mkR (run E (φ 0))) (φ 0) (φ 1) (φ 2) (φ 3) n (c, p, st, ms, ()) k ls (t : Int) fs (T : Int) (a : Int) (mp c ms s a) (L : Int) (sgn p a) (i : Int) j 0 0 0 p (H : Int) (W : Int) o) (len := C) (fun j => upds (stJ p (mp c ms s a) W T L (sgn p a) i j) cs) (fun _ _ _ _ _ => rfl) (fun j q hj ih => ?_) ?_
    · simp only [spec_l11Matrix.l5_succ _ mk_ok]
      have hT := F.hT
      have hL := F.hL
      have hp := F.hp
      obtain ⟨ep, hpos⟩ := pos_eq (T := T) (L := L) (i := i) (j := j) (W := W) (H := H) (by omega) (by omega) bH bW
      have hij : i * C + j < (mp c ms s a).2.2.2.1.length := by rw [F.len]; exact lt_rc hi hj
      have hRC := rc_le F.hR F.hC
      have hx := F.el.get hp (i * C + j)
      have hy := sgn_in hp a
      rw [stJ_succ, F.eC, Int.toNat_natCast, getD_lt hij] at ih
      rw [getD_lt hij] at hx
      have hol' : (upds (stJ p (mp c ms s a) W T L (sgn p a) i j) cs).length = H * W := by rw [upds_length, hcs]
      have ev := val_eq hx (show 0 ≤ sgn p a ∧ sgn p a ≤ 250 by omega) hp
      have hlen := F.len
      have e1 : w64 (w64 ((i : Int) * (C : Int)) + (j : Int)) = ((i * C + j : Nat) : Int) := by
        rw [cast_mul, w64_small (n := ((i * C : Nat) : Int)) (by omega) (by omega), w64_small (by omega) (by omega)]; omega
      simp only [F.eC, e1, ep, hol', Int.toNat_natCast]
      refine ev_t (decide_eq_true (by omega)) (ev_bind (idx_lt hij) (ev_chk (by simp; omega) ?_))
      simp only [ev]
      refine ev_chk (by simp only [Bool.and_eq_true, decide_eq_true_eq]; omega) ?_
      rw [w64_succ (by omega)]
      exact ih
    · simp only [spec_l11Matrix.l5_succ _ mk_ok, F.eC]
      have := F.hR
      refine ev_f (decide_eq_false (by omega)) ?_
      rw [w64_succ (by omega)]
      exact hr
  -- a face' stores
  have r4 : ∀ (s a T L R C : Nat) (F : CobF c p st ms k s a T L R C H W) (t : Nat) (ls : Sim) (fs : Sim) (cs : Sim) (hcs : cs.length = H * W) (r : Option Dv),
      (Ev fun φ => spec_l11Matrix.l3 (mkR (run E (φ 0))) (φ 0) (φ 1) (φ 2) (c, p, st, ms, ()) k ls (t : Int) fs (T : Int) ((a + 1 : Nat) : Int) 0 0 0 p (H : Int) (W : Int) (upds (stI p (mp c ms s a) W T L (sgn p a) R) cs) = r) →
      Ev fun φ => spec_l11Matrix.l4 (mkR (run E (φ 0))) (φ 0) (φ 1) (φ 2) (φ 0) (c, p, st, ms, ()) k ls (t : Int) fs (T : Int) (a : Int) (mp c ms s a) (L : Int) (sgn p a) 0 0 0 0 p (H : Int) (W : Int) cs = r := by
    intro s a T L R C F t ls fs cs hcs r hr
    refine Ev.start (p := fun φ n => spec_l11Matrix.l4 (mkR (run E (φ 0))) (φ 0) (φ 1) (φ 2) n (c, p, st, ms, ()) k ls (t : Int) fs (T : Int) (a : Int) (mp c ms s a) (L : Int) (sgn p a) 0 0 0 0 p (H : Int) (W : Int) cs = _) 3 ?_ (fun _ _ _ h => h)
    refine fold_loop 3 (L := fun φ n i o => spec_l11Matrix.l4 (mkR (run E (φ 0))) (φ 0) (φ 1) (φ 2) n (c, p, st, ms, ()) k ls (t : Int) fs (T : Int) (a : Int) (mp c ms s a) (L : Int) (sgn p a) i 0 0 0 p (H : Int) (W : Int) o) (len := R) (fun i => upds (stI p (mp c ms s a) W T L (sgn p a) i) cs) (fun _ _ _ _ _ => rfl) (fun i q hi ih => ?_) ?_
    · simp only [spec_l11Matrix.l4_succ _ mk_ok, F.eR]
      rw [stI_succ, F.eC, Int.toNat_natCast] at ih
      exact ev_t (decide_eq_true (by omega)) (r5 s a T L R C i F t ls fs _ (by rw [upds_length, hcs]) hi q ih)
    · simp only [spec_l11Matrix.l4_succ _ mk_ok, F.eR]
      have := F.h4
      refine ev_f (decide_eq_false (by omega)) ?_
      rw [w64_succ (by omega)]
      exact hr
  refine Ev.start (p := fun φ n => spec_l11Matrix.l1 (mkR (run E (φ 0))) (φ 0) n (c, p, st, ms, ()) k (ofDim c (k + 1) c.length) 0 0 0 0 p (H : Int) (W : Int) (List.replicate (H * W) 0) = _) 1 ?_ (fun _ _ _ h => h)
  refine fold_loop 1 (L := fun φ n t o => spec_l11Matrix.l1 (mkR (run E (φ 0))) (φ 0) n (c, p, st, ms, ()) k (ofDim c (k + 1) c.length) t 0 0 0 p (H : Int) (W : Int) o) (len := (ofDim c (k + 1) c.length).length) (fun t => upds (stS c p st ms k t) (List.replicate (H * W) 0)) (fun _ _ _ _ _ => rfl) (fun t q ht ih => ?_) ?_
  · simp only [spec_l11Matrix.l1_succ _ mk_ok]
    obtain ⟨s, hse, hs, hd⟩ := ofDim_iff.1 (List.getElem_mem ht)
    rw [stS_succ ht hse] at ih
    have hg : (ofDim c (k + 1) c.length)[t]? = some (s : Int) := by rw [List.getElem?_eq_getElem ht, hse]
    have hf4 := h.1.fIdx4 hs
    generalize hO : upds (stS c p st ms k t) (List.replicate (H * W) 0) = O at ih ⊢
    have hOl : O.length = H * W := by rw [← hO, upds_length, List.length_replicate]
    have a1 := l11At_ret (c, p, st, ms, ()) s hs hc hl hst
    have hFC := (FC_bound hst hs).1
    obtain ⟨T, eT⟩ := Int.eq_ofNat_of_zero_le hFC
    rw [show FC (c, p, st, ms, ()).1 (c, p, st, ms, ()).2.2.1 s = (T : Int) from eT] at a1
    refine ev_t (decide_eq_true (by omega)) ?_
    simp only [spec_l11Matrix.j2_eq _ mk_ok, show decide (k ≥ 0) = true from decide_eq_true (by omega), cond_true]
    refine ev_bind (idx_nat.trans hg) (ev_call (l05Faces_ret c s hs hc) (ev_bind (idx_nat.trans hg) (ev_call a1 ?_)))
    refine Ev.start (p := fun φ n => spec_l11Matrix.l3 (mkR (run E (φ 0))) (φ 0) (φ 1) n (c, p, st, ms, ()) k (ofDim c (k + 1) c.length) (t : Int) (fIdx c s) (T : Int) 0 0 0 0 p (H : Int) (W : Int) O = _) 2 ?_ (fun _ _ _ h => h)
    refine fold_loop 2 (L := fun φ n a o => spec_l11Matrix.l3 (mkR (run E (φ 0))) (φ 0) (φ 1) n (c, p, st, ms, ()) k (ofDim c (k + 1) c.length) (t : Int) (fIdx c s) (T : Int) a 0 0 0 p (H : Int) (W : Int) o) (len := (fIdx c s).length) (fun a => upds (stF c p st ms k s a) O) (fun _ _ _ _ _ => rfl) (fun a q2 ha ih2 => ?_) ?_
    · simp only [spec_l11Matrix.l3_succ _ mk_ok]
      obtain ⟨T', L, R, C, F⟩ := cobF_of h hs (by omega) ha eH eW bH bW
      obtain rfl : T = T' := by have := F.eT; omega
      obtain ⟨ix, hfc, _⟩ := fc_get h.1 hs ha
      have f2 := l11At_ret (c, p, st, ms, ()) (fc c s a) hfc hc hl hst
      rw [show FC (c, p, st, ms, ()).1 (c, p, st, ms, ()).2.2.1 (fc c s a) = (L : Int) from F.eL] at f2
      rw [stF_succ, tW, F.eT, F.eL, F.eR, Int.toNat_natCast, Int.toNat_natCast, Int.toNat_natCast] at ih2
      refine ev_t (decide_eq_true (by omega)) (ev_bind (idx_nat.trans hg) (ev_call (l09Get_ret (c, p, st, ms, ()) s a hs ha h) (ev_bind ix (ev_call f2 (ev_call (l07Sign_ret p a F.hp) ?_)))))
      exact r4 s a T L R C F t _ _ _ (by rw [upds_length, hOl]) q2 ih2
    · simp only [spec_l11Matrix.l3_succ _ mk_ok]
      refine ev_f (decide_eq_false (by omega)) ?_
      rw [w64_succ (by omega)]
      exact ih
  · simp only [spec_l11Matrix.l1_succ _ mk_ok, spec_l11Matrix.j2_eq _ mk_ok, cond_false]
    exact ev_f (decide_eq_false (by omega)) ev_rfl

/-! a matrix times a column -/
theorem apply_ret (m : Mat) (v : Sim) (hm : VM m) (hv : m.2.2.1 ≤ v.length) (ev : ∀ x ∈ v, 0 ≤ x ∧ x ≤ 250) : Ret E n_impl_apply [dI m.1, dI m.2.1, dI m.2.2.1, dL m.2.2.2.1, dL v] ⟨o_impl_apply, (appV m v m.2.1.toNat, ())⟩ := by
  obtain ⟨R, C, em, hR, hC, hlen⟩ := hm.nat
  have hp : 2 ≤ m.1 ∧ m.1 ≤ 251 := ⟨hm.1.1, hm.1.2.1⟩
  have el := hm.2.2.2.2
  obtain ⟨p, r, k, cs, ⟨⟩⟩ := m
  simp only [Prod.mk.injEq, true_and, and_true] at em hlen hv hp el
  obtain ⟨rfl, rfl⟩ := em
  have hRC := rc_le hR hC
  show Ret E n_impl_apply [dI p, dI (R : Int), dI (C : Int), dL cs, dL v] ⟨o_impl_apply, (appV (p, (R : Int), (C : Int), cs, ()) v R, ())⟩
  refine ret_of ?_
  simp only [run_impl_apply, impl_apply.ev]
  refine Ev.start (p := fun φ n => impl_apply.l0 (mkR (run E (φ 0))) (φ 0) n v (R : Int) 0 p (R : Int) (C : Int) cs [] = _) 1 ?_ (fun _ _ _ h => h)
  refine fold_loop 1 (L := fun φ n i a => impl_apply.l0 (mkR (run E (φ 0))) (φ 0) n v (R : Int) i p (R : Int) (C : Int) cs a) (len := R) (fun i => appV (p, (R : Int), (C : Int), cs, ()) v i) (fun _ _ _ _ _ => rfl) (fun i q hi ih => ?_) ?_
  · simp only [impl_apply.l0_succ _ mk_ok]
    have hle : (i + 1) * C ≤ R * C := Nat.mul_le_mul_right _ hi
    have hrl : ((cs.take ((i + 1) * C)).drop (i * C)).length = C := by
      rw [List.length_drop, List.length_take, Nat.min_eq_left (by omega), Nat.add_mul]; omega
    have hd := dot_ret ((cs.take ((i + 1) * C)).drop (i * C)) v p hp (by omega) (by omega) (fun x hx => el.mem hp x (List.mem_of_mem_take (List.mem_of_mem_drop hx))) ev
    have e : dotN (fun l => ((cs.take ((i + 1) * C)).drop (i * C)).getD l 0) (fun l => v.getD l 0) ((cs.take ((i + 1) * C)).drop (i * C)).length = dotN (fun l => cs.getD (i * C + l) 0) (fun l => v.getD l 0) C := by
      rw [hrl]
      exact dotN_congr fun l hl => ⟨by
        rw [List.getD_eq_getElem?_getD, List.getD_eq_getElem?_getD, List.getElem?_drop, List.getElem?_take_of_lt (by rw [Nat.add_mul]; omega)], rfl⟩
    rw [e] at hd
    have ea : appV (p, (R : Int), (C : Int), cs, ()) v (i + 1) = appV (p, (R : Int), (C : Int), cs, ()) v i ++ [dotN (fun l => cs.getD (i * C + l) 0) (fun l => v.getD l 0) C % p] := by
      unfold appV
      rw [List.range_succ, List.map_append]; rfl
    rw [ea] at ih
    refine ev_t (decide_eq_true (by omega)) (ev_call (Mat_row_ret p _ C cs i (by omega) (by omega) (by omega)) (ev_call hd (ev_chk (by simp [appV_length]; omega) ?_)))
    rw [w64_succ (by omega)]; exact ih
  · simp only [impl_apply.l0_succ _ mk_ok]
    exact ev_f (decide_eq_false (by omega)) ev_rfl

theorem l03Apply_ret (m : Mat) (v : Sim) (hm : VM m) (hv : m.2.2.1 ≤ v.length) (ev : ∀ x ∈ v, 0 ≤ x ∧ x ≤ 250) : Ret E n_spec_l03Apply [dM m, dL v] ⟨o_spec_l03Apply, (appV m v m.2.1.toNat, ())⟩ := by
  obtain ⟨R, C, em, hR, hC, hlen⟩ := hm.nat
  have hp : 2 ≤ m.1 ∧ m.1 ≤ 251 := ⟨hm.1.1, hm.1.2.1⟩
  have el := hm.2.2.2.2
  obtain ⟨p, r, k, cs, ⟨⟩⟩ := m
  simp only [Prod.mk.injEq, true_and, and_true] at em hlen hv hp el
  obtain ⟨rfl, rfl⟩ := em
  have hRC := rc_le hR hC
  show Ret E n_spec_l03Apply [dM (p, (R : Int), (C : Int), cs, ()), dL v] ⟨o_spec_l03Apply, (appV (p, (R : Int), (C : Int), cs, ()) v R, ())⟩
  refine ret_of ?_
  simp only [run_spec_l03Apply, spec_l03Apply.ev]
  refine Ev.start (p := fun φ n => spec_l03Apply.l0 (mkR (run E (φ 0))) (φ 0) n (p, (R : Int), (C : Int), cs, ()) v 0 [] = _) 1 ?_ (fun _ _ _ h => h)
  refine fold_loop 1 (L := fun φ n i a => spec_l03Apply.l0 (mkR (run E (φ 0))) (φ 0) n (p, (R : Int), (C : Int), cs, ()) v i a) (len := R) (fun i => appV (p, (R : Int), (C : Int), cs, ()) v i) (fun _ _ _ _ _ => rfl) (fun i q hi ih => ?_) ?_
  · simp only [spec_l03Apply.l0_succ _ mk_ok]
    have ea : appV (p, (R : Int), (C : Int), cs, ()) v (i + 1) = appV (p, (R : Int), (C : Int), cs, ()) v i ++ [dotN (fun l => cs.getD (i * C + l) 0) (fun l => v.getD l 0) C % p] := by
      unfold appV
      rw [List.range_succ, List.map_append]; rfl
    rw [ea] at ih
    have hle : (i + 1) * C ≤ R * C := Nat.mul_le_mul_right _ hi
    rw [Nat.add_mul] at hle
    have gv : ∀ l, 0 ≤ v.getD l 0 ∧ v.getD l 0 ≤ 250 := fun l => by
      by_cases hl : l < v.length
      · rw [getD_lt hl]; exact ev _ (List.getElem_mem hl)
      · rw [List.getD_eq_getElem?_getD, List.getElem?_eq_none (by omega)]; simp
    refine ev_t (decide_eq_true (by omega)) ?_
    generalize hA : appV (p, (R : Int), (C : Int), cs, ()) v i = A at ih ⊢
    have hAl : A.length = i := by rw [← hA, appV_length]
    refine Ev.start (p := fun φ n => spec_l03Apply.l1 (mkR (run E (φ 0))) (φ 0) (φ 1) n (p, (R : Int), (C : Int), cs, ()) v (i : Int) 0 0 A = _) 2 ?_ (fun _ _ _ h => h)
    refine fold_loop 2 (L := fun φ n l a => spec_l03Apply.l1 (mkR (run E (φ 0))) (φ 0) (φ 1) n (p, (R : Int), (C : Int), cs, ()) v (i : Int) a l A) (len := C) (fun l => dotN (fun l => cs.getD (i * C + l) 0) (fun l => v.getD l 0) l) (fun _ _ _ _ _ => rfl) (fun l q2 hl2 ih2 => ?_) ?_
    · simp only [spec_l03Apply.l1_succ _ mk_ok]
      have hvl : l < v.length := by omega
      have hcl : i * C + l < cs.length := by omega
      have b1 := dotN_le (f := fun l => cs.getD (i * C + l) 0) (g := fun l => v.getD l 0) (n := l) fun l _ => ⟨el.get hp _, gv l⟩
      have b2 := mul_in (el.get hp (i * C + l)) (gv l)
      have e1 : w64 (w64 ((i : Int) * (C : Int)) + (l : Int)) = ((i * C + l : Nat) : Int) := by
        rw [cast_mul, w64_small (n := ((i * C : Nat) : Int)) (by omega) (by omega), w64_small (by omega) (by omega)]; omega
      simp only [dotN] at ih2
      rw [getD_lt hcl, getD_lt hvl] at ih2 b2
      simp only [e1]
      refine ev_t (decide_eq_true (by omega)) (ev_bind (idx_lt hcl) (ev_bind (idx_lt hvl) ?_))
      rw [w64_small (n := cs[i * C + l] * v[l]) (by omega) (by omega), w64_small (by omega) (by omega), w64_succ (by omega)]
      exact ih2
    · simp only [spec_l03Apply.l1_succ _ mk_ok]
      have b1 := dotN_le (f := fun l => cs.getD (i * C + l) 0) (g := fun l => v.getD l 0) (n := C) fun l _ => ⟨el.get hp _, gv l⟩
      refine ev_f (decide_eq_false (by omega)) (ev_chk (by simp; omega) ?_)
      rw [Int.tmod_eq_emod_of_nonneg (by omega), w64_succ (by omega)]
      exact ev_chk (by simp [hAl]; omega) ih
  · simp only [spec_l03Apply.l0_succ _ mk_ok]
    exact ev_f (decide_eq_false (by omega)) ev_rfl

/-! zero lists -/
def Zs (v : Sim) : Prop := ∀ x ∈ v, x = 0

theorem isZero_1_ret (x : Int) : Ret E n_impl_isZero_1 [dI x] ⟨o_impl_isZero_1, (!pb (x = 0), ())⟩ := by
  refine ret_of ?_
  simp only [run_impl_isZero_1, impl_isZero_1.ev]
  refine ev_some ?_
  have : (x != 0) = !pb (x = 0) := by
    by_cases h : x = 0
    · rw [pb_true h]; simp [h]
    · rw [pb_false h]; simp [h]
  rw [this]

theorem isZero_ret (v : Sim) (hv : v.length ≤ 1048576) : Ret E n_impl_isZero [dL v] ⟨o_impl_isZero, (pb (Zs v), ())⟩ := by
  refine ret_of ?_
  simp only [run_impl_isZero, impl_isZero.ev]
  refine ev_call (ContainsFunc_Sint64_int64_impl_isZero_1_ret v _ hv fun x _ => isZero_1_ret x) (ev_some ?_)
  simp only [none_bad]; rfl

theorem zs_pb {v : Sim} : pb (∀ j, 0 ≤ j → j < v.length → v.getD j 0 = 0) = pb (Zs v) := pb_congr ⟨fun h x hx => by
  obtain ⟨j, hj, rfl⟩ := List.mem_iff_getElem.1 hx
  have := h j (by omega) hj
  rwa [getD_lt hj] at this, fun h j _ hj => by rw [getD_lt hj]; exact h _ (List.getElem_mem hj)⟩

theorem l07Null_ret (v : Sim) (hv : v.length ≤ 1048576) : Ret E n_spec_l07Null [dL v] ⟨o_spec_l07Null, (pb (Zs v), ())⟩ := by
  refine ret_of ?_
  simp only [run_spec_l07Null, spec_l07Null.ev]
  refine Ev.start (p := fun φ n => spec_l07Null.l0 (mkR (run E (φ 0))) (φ 0) n v 0 = _) 1 ?_ (fun _ _ _ h => h)
  rw [← zs_pb]
  refine all_pb 1 (L := fun φ n k => spec_l07Null.l0 (mkR (run E (φ 0))) (φ 0) n v k) (len := v.length) 0 (by omega) (fun j => v.getD j 0 = 0) (fun b => some ⟨o_spec_l07Null, (b, ())⟩) (fun _ _ _ _ => rfl) (fun k h1 h2 hP _ => ?_) (fun k r h1 h2 hP _ ih => ?_) (fun _ => ?_)
  · simp only [spec_l07Null.l0_succ _ mk_ok]
    rw [getD_lt h2] at hP
    exact ev_t (decide_eq_true (by omega)) (ev_bind (idx_lt h2) (ev_t (by simpa using hP) ev_rfl))
  · simp only [spec_l07Null.l0_succ _ mk_ok]
    rw [getD_lt h2] at hP
    refine ev_t (decide_eq_true (by omega)) (ev_bind (idx_lt h2) (ev_f (by simpa using hP) ?_))
    rw [w64_succ (by omega)]; exact ih
  · simp only [spec_l07Null.l0_succ _ mk_ok]
    exact ev_f (decide_eq_false (by omega)) ev_rfl

end VeT

open Go Go.Proofs Ve
set_option linter.unusedVariables false
set_option linter.unusedSimpArgs false
namespace VeT

/-! marks: what the laws write over arguments and results -/
def mkL (k : Int) (n : Nat) : Sim := (List.range n).map fun (i : Nat) => k + (i : Int)

theorem mkL_length {k : Int} {n : Nat} : (mkL k n).length = n := by simp [mkL]

theorem mkL_get {k : Int} {n i : Nat} (h : i < (mkL k n).length) : (mkL k n)[i] = k + i := by simp [mkL]

def mkLL : List Sim → Int → List Sim
  | [], _ => []
  | x :: xs, k => mkL k x.length :: mkLL xs (k + x.length)
def mkN : List Sim → Int → Int
  | [], k => k
  | x :: xs, k => mkN xs (k + x.length)

theorem mkLL_length : ∀ {xs : List Sim} {k : Int}, (mkLL xs k).length = xs.length
  | [], _ => rfl
  | x :: xs, k => by simp [mkLL, mkLL_length]

theorem mkN_ge : ∀ {xs : List Sim} {k : Int}, (∀ x ∈ xs, x.length ≤ 1048576) → k ≤ mkN xs k ∧ mkN xs k ≤ k + 1048576 * xs.length
  | [], k, _ => by simp [mkN]
  | x :: xs, k, h => by
    have h1 := mkN_ge (xs := xs) (k := k + x.length) fun y hy => h y (List.mem_cons_of_mem _ hy)
    have h2 := h x List.mem_cons_self
    simp only [mkN, List.length_cons]; omega

end VeT

open Go Go.Proofs Ve
set_option linter.unusedVariables false
set_option linter.unusedSimpArgs false
namespace VeT

/-! marks of matrices and sheaves -/
def mkMM : List MatT → Int → List MatT
  | [], _ => []
  | x :: xs, k => (k, k + 1, k + 1 + 1, mkL (k + 1 + 1 + 1) x.2.2.2.1.length, ()) :: mkMM xs (k + 1 + 1 + 1 + x.2.2.2.1.length)
def mkMN : List MatT → Int → Int
  | [], k => k
  | x :: xs, k => mkMN xs (k + 1 + 1 + 1 + x.2.2.2.1.length)

theorem mkMN_ge : ∀ {xs : List MatT} {k : Int}, (∀ x ∈ xs, x.2.2.2.1.length ≤ 1048576) → k ≤ mkMN xs k ∧ mkMN xs k ≤ k + 1048579 * xs.length
  | [], k, _ => by simp [mkMN]
  | x :: xs, k, h => by
    have h1 := mkMN_ge (xs := xs) (k := k + 1 + 1 + 1 + x.2.2.2.1.length) fun y hy => h y (List.mem_cons_of_mem _ hy)
    have h2 := h x List.mem_cons_self
    simp only [mkMN, List.length_cons]; omega

/-- the number behind a sheaf's marks -/
def mkSN (x : Shf) (k : Int) : Int := mkMN x.2.2.2.1 (mkN x.1 k + x.2.2.1.length)

end VeT

open Go Go.Proofs Ve
set_option linter.unusedVariables false
set_option linter.unusedSimpArgs false
namespace VeT

/-- the unit matrix' entries -/
def unitE (i j : Nat) : Int := if i = j then 1 else 0
def unitM (p : Int) (n : Nat) : Mat := (p, (n : Int), (n : Int), flatF unitE n n, ())

end VeT

open Go Go.Proofs Ve
set_option linter.unusedVariables false
set_option linter.unusedSimpArgs false
namespace VeT

/-! codes of sheaves, degrees, cochains -/
open Classical in
noncomputable def GC (x : Shf) (k : Int) : Int := if ISh x then (if 0 ≤ k ∧ k ≤ 3 then 0 else 2) else 1

theorem GC_zero {x : Shf} {k : Int} : GC x k = 0 ↔ ISh x ∧ 0 ≤ k ∧ k ≤ 3 := by
  unfold GC; split
  · rename_i h
    split
    · rename_i h2; exact ⟨fun _ => ⟨h, h2⟩, fun _ => rfl⟩
    · rename_i h2; exact ⟨fun e => by omega, fun e => absurd e.2 h2⟩
  · rename_i h; exact ⟨fun e => by omega, fun e => absurd e.1 h⟩

theorem graded_ret (x : Shf) (k : Int) (hx : Sm (.st cS) x) : Ret E n_impl_graded [dLL x.1, dI x.2.1, dL x.2.2.1, dMs x.2.2.2.1, dI k] ⟨o_impl_graded, (GC x k, ())⟩ := by
  refine ret_of ?_
  simp only [run_impl_graded, impl_graded.ev]
  refine ev_call (implIsSheaf_ret x hx) (ev_b (fun h => ev_some ?_) fun h => ev_call (isDimension_ret k) (ev_b (fun h2 => ev_some ?_) fun h2 => ev_some ?_))
  · have h := pb_not.1 (show pb (ISh x) = false by simpa using h)
    rw [GC, if_neg h]
  · have h := pb_iff.1 (show pb (ISh x) = true by simpa using h)
    have h2 := pb_not.1 (show pb (0 ≤ k ∧ k ≤ 3) = false by simpa using h2)
    rw [GC, if_pos h, if_neg h2]
  · have h := pb_iff.1 (show pb (ISh x) = true by simpa using h)
    have h2 := pb_iff.1 (show pb (0 ≤ k ∧ k ≤ 3) = true by simpa using h2)
    rw [GC, if_pos h, if_pos h2]

theorem l11Ask_ret (x : Shf) (k : Int) (hx : Sm (.st cS) x) : Ret E n_spec_l11Ask [dS x, dI k] ⟨o_spec_l11Ask, (GC x k, ())⟩ := by
  refine ret_of ?_
  simp only [run_spec_l11Ask, spec_l11Ask.ev]
  refine ev_call (l09Is_ret x hx) (ev_b (fun h => ev_some ?_) fun h => ev_call (l05Dimension_ret k) (ev_b (fun h2 => ev_some ?_) fun h2 => ev_some ?_))
  · have h := pb_not.1 (show pb (ISh x) = false by simpa using h)
    rw [GC, if_neg h]
  · have h := pb_iff.1 (show pb (ISh x) = true by simpa using h)
    have h2 := pb_not.1 (show pb (0 ≤ k ∧ k ≤ 3) = false by simpa using h2)
    rw [GC, if_pos h, if_neg h2]
  · have h := pb_iff.1 (show pb (ISh x) = true by simpa using h)
    have h2 := pb_iff.1 (show pb (0 ≤ k ∧ k ≤ 3) = true by simpa using h2)
    rw [GC, if_pos h, if_pos h2]

theorem isVector_ret (v : Sim) (n p : Int) (hv : v.length ≤ 1048576) (hp : 0 ≤ p ∧ p ≤ 1048576) : Ret E n_impl_isVector [dL v, dI n, dI p] ⟨o_impl_isVector, (pb (Elems v p ∧ (v.length : Int) = n), ())⟩ := by
  refine ret_of ?_
  simp only [run_impl_isVector, impl_isVector.ev]
  refine ev_call (sizeI_ret v) (ev_b (fun h => ev_call (areElements_ret v p hv hp) (ev_some ?_)) fun h => ev_some ?_)
  · have h : (v.length : Int) = n := by simpa using h
    exact congrArg (fun b : Bool => some (⟨o_impl_isVector, (b, ())⟩ : Dv)) (pb_congr ⟨fun e => ⟨e, h⟩, fun e => e.1⟩)
  · have h : ¬ (v.length : Int) = n := by simpa using h
    rw [pb_false fun e => h e.2]

/-- a cochain of a degree -/
def Coch (x : Shf) (k : Int) (v : Sim) : Prop := Elems v x.2.1 ∧ (v.length : Int) = SD x.1 x.2.2.1 k

open Classical in
noncomputable def CC (x : Shf) (k : Int) (v : Sim) : Int := if GC x k = 0 then (if Coch x k v then 0 else 7) else GC x k

theorem CC_zero {x : Shf} {k : Int} {v : Sim} : CC x k v = 0 ↔ (ISh x ∧ 0 ≤ k ∧ k ≤ 3) ∧ Coch x k v := by
  rw [← GC_zero]
  unfold CC; split
  · rename_i h
    split
    · rename_i h2; exact ⟨fun _ => ⟨h, h2⟩, fun _ => rfl⟩
    · rename_i h2; exact ⟨fun e => by omega, fun e => absurd e.2 h2⟩
  · rename_i h; exact ⟨fun e => absurd e h, fun e => absurd e.1 h⟩

theorem withCochain_ret (x : Shf) (k : Int) (v : Sim) (hx : Sm (.st cS) x) (hv : Sm (.sl (.int .i64)) v) : Ret E n_impl_withCochain [dLL x.1, dI x.2.1, dL x.2.2.1, dMs x.2.2.2.1, dI k, dL v] ⟨o_impl_withCochain, (CC x k v, ())⟩ := by
  refine ret_of ?_
  simp only [run_impl_withCochain, impl_withCochain.ev]
  refine ev_call (graded_ret x k hx) (ev_b (fun h => ev_some ?_) fun h => ?_)
  · have h : ¬ GC x k = 0 := by simpa using h
    rw [CC, if_neg h]
  · have h : GC x k = 0 := by simpa using h
    obtain ⟨hs, hk⟩ := GC_zero.1 h
    have hp := hs.1.2.1
    refine ev_call (stalkSum_ret _ _ _ _ _ hx.1 hs.1.2.2.1.1 hs.1.2.2.1.2.1 (by omega)) (ev_call (isVector_ret v (SD x.1 x.2.2.1 k) x.2.1 hv.1 ⟨by have := hp.1; omega, by have := hp.2.1; omega⟩) (ev_b (fun h2 => ev_some ?_) fun h2 => ev_some ?_))
    · rw [CC, if_pos h, if_neg (pb_not.1 (show pb (Coch x k v) = false by simpa [Coch] using h2))]
    · rw [CC, if_pos h, if_pos (pb_iff.1 (show pb (Coch x k v) = true by simpa [Coch] using h2))]

theorem l11Cochain_ret (x : Shf) (k : Int) (v : Sim) (hx : Sm (.st cS) x) (hv : Sm (.sl (.int .i64)) v) : Ret E n_spec_l11Cochain [dS x, dI k, dL v] ⟨o_spec_l11Cochain, (CC x k v, ())⟩ := by
  refine ret_of ?_
  simp only [run_spec_l11Cochain, spec_l11Cochain.ev]
  refine ev_call (l11Ask_ret x k hx) (ev_b (fun h => ev_some ?_) fun h => ?_)
  · have h : ¬ GC x k = 0 := by simpa using h
    rw [CC, if_neg h]
  · have h : GC x k = 0 := by simpa using h
    obtain ⟨hs, hk⟩ := GC_zero.1 h
    have hp := hs.1.2.1
    refine ev_call (l09Sum_ret _ _ _ hx.1 hs.1.2.2.1.1 hs.1.2.2.1.2.1 (by omega)) (ev_call (l03Column_ret v (SD x.1 x.2.2.1 k) x.2.1 hv.1 ⟨by have := hp.1; omega, by have := hp.2.1; omega⟩) (ev_b (fun h2 => ev_some ?_) fun h2 => ev_some ?_))
    · rw [CC, if_pos h, if_neg (pb_not.1 (show pb (Coch x k v) = false by simpa [Coch] using h2))]
    · rw [CC, if_pos h, if_pos (pb_iff.1 (show pb (Coch x k v) = true by simpa [Coch] using h2))]

/-! the coboundary matrix -/
noncomputable def cobX (x : Shf) (k : Int) : Mat := cobM x.1 x.2.1 x.2.2.1 x.2.2.2.1 k

open Classical in
noncomputable def CoboundaryMatrixV (x : Shf) (k : Int) : Int × Int × Int × List Int × Int × Unit :=
  if GC x k = 0 then ((cobX x k).1, (cobX x k).2.1, (cobX x k).2.2.1, (cobX x k).2.2.2.1, 0, ()) else (0, 0, 0, [], GC x k, ())

theorem VM.len {m : Mat} (h : VM m) : m.2.2.2.1.length ≤ 1024 := by
  obtain ⟨R, C, _, hR, hC, hl⟩ := h.nat
  have := rc_le hR hC
  omega

theorem CoboundaryMatrixV_sm (x : Shf) (k : Int) (hx : Sm (.st cS) x) : Sm (.st cM) ((CoboundaryMatrixV x k).1, (CoboundaryMatrixV x k).2.1, (CoboundaryMatrixV x k).2.2.1, (CoboundaryMatrixV x k).2.2.2.1, ()) := by
  refine ⟨trivial, trivial, trivial, ⟨?_, fun _ _ => trivial⟩, trivial⟩
  unfold CoboundaryMatrixV
  split
  · rename_i h
    have := (cobM_VM (GC_zero.1 h).1.1 k).len
    show (cobX x k).2.2.2.1.length ≤ 1048576
    unfold cobX; omega
  · show ([] : List Int).length ≤ 1048576; simp

/-! the coboundary of a cochain -/
noncomputable def cobV (x : Shf) (k : Int) (v : Sim) : Sim := appV (cobX x k) v (SD x.1 x.2.2.1 (k + 1)).toNat

theorem cob_apply {x : Shf} {k : Int} {v : Sim} (h : (ISh x ∧ 0 ≤ k ∧ k ≤ 3) ∧ Coch x k v) :
    Ret E n_impl_apply [dI (cobX x k).1, dI (cobX x k).2.1, dI (cobX x k).2.2.1, dL (cobX x k).2.2.2.1, dL v] ⟨o_impl_apply, (cobV x k v, ())⟩ := by
  have hp := h.1.1.1.2.1
  exact apply_ret (cobX x k) v (cobM_VM h.1.1.1 k) (by show SD x.1 x.2.2.1 k ≤ _; have := h.2.2; omega) (h.2.1.mem ⟨hp.1, hp.2.1⟩)

theorem cob_l03Apply {x : Shf} {k : Int} {v : Sim} (h : (ISh x ∧ 0 ≤ k ∧ k ≤ 3) ∧ Coch x k v) :
    Ret E n_spec_l03Apply [dM (cobX x k), dL v] ⟨o_spec_l03Apply, (cobV x k v, ())⟩ := by
  have hp := h.1.1.1.2.1
  exact l03Apply_ret (cobX x k) v (cobM_VM h.1.1.1 k) (by show SD x.1 x.2.2.1 k ≤ _; have := h.2.2; omega) (h.2.1.mem ⟨hp.1, hp.2.1⟩)

theorem cobV_length {x : Shf} {k : Int} {v : Sim} (h : ISh x) : (cobV x k v).length ≤ 32 := by
  obtain ⟨n, e, hn, ht⟩ := SD_nat h.1 (k + 1)
  unfold cobV; rw [appV_length]; omega

open Classical in
noncomputable def CoboundaryOfV (x : Shf) (k : Int) (v : Sim) : Sim × Int × Unit := if CC x k v = 0 then (cobV x k v, 0, ()) else ([], CC x k v, ())

theorem CoboundaryOfV_sm (x : Shf) (k : Int) (v : Sim) (hx : Sm (.st cS) x) (hv : Sm (.sl (.int .i64)) v) : Sm (.sl (.int .i64)) (CoboundaryOfV x k v).1 := by
  refine ⟨?_, fun _ _ => trivial⟩
  unfold CoboundaryOfV
  split
  · rename_i h
    have := cobV_length (k := k) (v := v) (CC_zero.1 h).1.1
    show (cobV x k v).length ≤ 1048576; omega
  · show ([] : List Int).length ≤ 1048576; simp

/-! cocycles -/
noncomputable def IsCocycleV (x : Shf) (k : Int) (v : Sim) : Bool × Unit := (pb (CC x k v = 0 ∧ Zs (cobV x k v)), ())

theorem isCocycle_ret (x : Shf) (k : Int) (v : Sim) (hx : Sm (.st cS) x) (hh : (ISh x ∧ 0 ≤ k ∧ k ≤ 3) ∧ Coch x k v) : Ret E n_impl_isCocycle [dLL x.1, dI x.2.1, dL x.2.2.1, dMs x.2.2.2.1, dI k, dL v] ⟨o_impl_isCocycle, (pb (Zs (cobV x k v)), ())⟩ := by
  refine ret_of ?_
  simp only [run_impl_isCocycle, impl_isCocycle.ev]
  have := cobV_length (k := k) (v := v) hh.1.1
  exact ev_call (coboundaryMatrix_ret x.1 x.2.1 x.2.2.1 x.2.2.2.1 k (by omega) hx.1 hh.1.1.1) (ev_call (cob_apply hh) (ev_call (isZero_ret (cobV x k v) (by omega)) ev_rfl))

theorem l11Cocycle_ret (x : Shf) (k : Int) (v : Sim) (hx : Sm (.st cS) x) (hh : (ISh x ∧ 0 ≤ k ∧ k ≤ 3) ∧ Coch x k v) : Ret E n_spec_l11Cocycle [dS x, dI k, dL v] ⟨o_spec_l11Cocycle, (pb (Zs (cobV x k v)), ())⟩ := by
  refine ret_of ?_
  simp only [run_spec_l11Cocycle, spec_l11Cocycle.ev]
  have := cobV_length (k := k) (v := v) hh.1.1
  exact ev_call (l11Matrix_ret x k (by omega) hx.1 hh.1.1.1) (ev_call (cob_l03Apply hh) (ev_call (l07Null_ret (cobV x k v) (by omega)) ev_rfl))

theorem implIsCocycle_ret (x : Shf) (k : Int) (v : Sim) (hx : Sm (.st cS) x) (hv : Sm (.sl (.int .i64)) v) : Ret E n_impl_IsCocycle [dLL x.1, dI x.2.1, dL x.2.2.1, dMs x.2.2.2.1, dI k, dL v] ⟨o_impl_IsCocycle, IsCocycleV x k v⟩ := by
  refine ret_of ?_
  simp only [run_impl_IsCocycle, impl_IsCocycle.ev]
  refine ev_call (withCochain_ret x k v hx hv) (ev_b (fun h => ?_) fun h => ev_some ?_)
  · have h : CC x k v = 0 := by simpa using h
    refine ev_call (isCocycle_ret x k v hx (CC_zero.1 h)) (ev_some ?_)
    rw [IsCocycleV, pb_congr (show CC x k v = 0 ∧ Zs (cobV x k v) ↔ Zs (cobV x k v) from ⟨fun e => e.2, fun e => ⟨h, e⟩⟩)]
  · have h : ¬ CC x k v = 0 := by simpa using h
    rw [IsCocycleV, pb_false fun e => h e.1]

theorem specIsCocycle_ret (x : Shf) (k : Int) (v : Sim) (hx : Sm (.st cS) x) (hv : Sm (.sl (.int .i64)) v) : Ret E n_spec_IsCocycle [dLL x.1, dI x.2.1, dL x.2.2.1, dMs x.2.2.2.1, dI k, dL v] ⟨o_spec_IsCocycle, IsCocycleV x k v⟩ := by
  refine ret_of ?_
  simp only [run_spec_IsCocycle, spec_IsCocycle.ev]
  refine ev_call (l11Cochain_ret x k v hx hv) (ev_b (fun h => ?_) fun h => ev_some ?_)
  · have h : CC x k v = 0 := by simpa using h
    refine ev_call (l11Cocycle_ret x k v hx (CC_zero.1 h)) (ev_some ?_)
    rw [IsCocycleV, pb_congr (show CC x k v = 0 ∧ Zs (cobV x k v) ↔ Zs (cobV x k v) from ⟨fun e => e.2, fun e => ⟨h, e⟩⟩)]
  · have h : ¬ CC x k v = 0 := by simpa using h
    rw [IsCocycleV, pb_false fun e => h e.1]

/-! the part at a simplex -/
def AtDim (x : Shf) (k s : Int) : Prop := (0 ≤ s ∧ s ≤ (x.1.length : Int) - 1) ∧ ((x.1.getD s.toNat []).length : Int) = k + 1

open Classical in
noncomputable def StalkOfV (x : Shf) (k : Int) (v : Sim) (s : Int) : Sim × Int × Unit :=
  if CC x k v = 0 then (if AtDim x k s then (partV x.1 x.2.2.1 v s.toNat, 0, ()) else ([], 3, ())) else ([], CC x k v, ())

theorem atDim_mem {x : Shf} {k s : Int} : s ∈ ofDim x.1 k x.1.length ↔ AtDim x k s := by
  rw [ofDim_iff]
  constructor
  · rintro ⟨i, rfl, h1, h2⟩; exact ⟨by omega, by rw [Int.toNat_natCast]; exact h2⟩
  · rintro ⟨h1, h2⟩; exact ⟨s.toNat, by omega, by omega, h2⟩

theorem atDim_part {x : Shf} {k s : Int} {v : Sim} (hs : ISh x) (hv : Coch x k v) (ha : AtDim x k s) : ∃ n : Nat, s = (n : Int) ∧ n < x.1.length ∧ FC x.1 x.2.2.1 n + x.2.2.1.getD n 0 ≤ v.length := by
  obtain ⟨h1, h2⟩ := ha
  have hb := FC_bound (c := x.1) hs.1.2.2.1.2.1 (s := s.toNat) (by omega)
  rw [show ((x.1.getD s.toNat []).length : Int) - 1 = k by omega, ← hv.2] at hb
  exact ⟨s.toNat, by omega, by omega, hb.2⟩

theorem StalkOfV_sm (x : Shf) (k : Int) (v : Sim) (s : Int) (hx : Sm (.st cS) x) (hv : Sm (.sl (.int .i64)) v) : Sm (.sl (.int .i64)) (StalkOfV x k v s).1 := by
  have hv1 : v.length ≤ 1048576 := hv.1
  refine ⟨?_, fun _ _ => trivial⟩
  unfold StalkOfV
  split
  · split
    · show (partV x.1 x.2.2.1 v s.toNat).length ≤ 1048576
      unfold partV; rw [List.length_drop, List.length_take]; omega
    · show ([] : List Int).length ≤ 1048576; simp
  · show ([] : List Int).length ≤ 1048576; simp

end VeT

open Go Go.Proofs Ve
set_option linter.unusedVariables false
set_option linter.unusedSimpArgs false
namespace VeT

theorem law_IsCocycle (x0 : Shf) (x1 : Int) (x2 : Sim) (w0 : Wf (.st cS) x0) (w2 : Wf (.sl (.int .i64)) x2) : Ret E n_laws_FnExactIsCocycle [dLL x0.1, dI x0.2.1, dL x0.2.2.1, dMs x0.2.2.2.1, dI x1, dL x2] ⟨.cons .bool .nil, (true, ())⟩ := by
  refine ret_of ?_
  simp only [run_laws_FnExactIsCocycle, laws_FnExactIsCocycle.ev]
  refine ev_d (fun _ => ev_rfl) fun l2 => ?_
  have m2 : Sm (.sl (.int .i64)) x2 := ⟨by omega, fun _ _ => trivial⟩
  obtain ⟨r0, hs0, s0⟩ := szSheaf_ret x0 1048576 w0 (by omega) (by omega)
  refine ev_call hs0 (ev_d (fun _ => ev_rfl) fun n0 => ?_)
  have n0 := Int.not_lt.1 n0
  obtain ⟨b0, m0⟩ := s0 n0
  have hi := implIsCocycle_ret x0 x1 x2 m0 m2
  have hsp := specIsCocycle_ret x0 x1 x2 m0 m2
  generalize IsCocycleV x0 x1 x2 = V at hi hsp
  obtain ⟨v0, ⟨⟩⟩ := V
  have to0 := toSheaf_ret x0 m0
  obtain ⟨q0, hq0, eq0⟩ := eqSheaf_ret x0 x0 m0
  obtain rfl : q0 = true := eq0.2 rfl
  have to2 := toInt64S_ret x2 m2
  obtain ⟨q2, hq2, eq2⟩ := eqInt64S_ret x2 x2 m2
  obtain rfl : q2 = true := eq2.2 rfl
  repeat (first | with_reducible exact ev_rfl | with_reducible refine ev_call to0 ?_ | with_reducible refine ev_call hq0 ?_ | with_reducible refine ev_call to2 ?_ | with_reducible refine ev_call hq2 ?_ | with_reducible refine ev_call hi ?_ | with_reducible refine ev_call hsp ?_ | with_reducible refine ev_f (by first | rfl | exact bne_self_eq_false _ | (simp; done)) ?_ | simp only [bne_self_eq_false, cond_false, cond_false])

theorem rowIsCocycle (z : ((.cons (.sl (.sl (.int .i64))) (.cons (.int .i64) (.cons (.sl (.int .i64)) (.cons (.sl (.st cM)) (.cons (.int .i64) (.cons (.sl (.int .i64)) .nil)))))) : Ty).T)
    (h : Wf (.cons (.sl (.sl (.int .i64))) (.cons (.int .i64) (.cons (.sl (.int .i64)) (.cons (.sl (.st cM)) (.cons (.int .i64) (.cons (.sl (.int .i64)) .nil)))))) z) :
    Evt fun n => run E n n_laws_FnExactIsCocycle (unpack _ z) = some ⟨.cons .bool .nil, (true, ())⟩ :=
  law_IsCocycle (z.1, z.2.1, z.2.2.1, z.2.2.2.1, ()) z.2.2.2.2.1 z.2.2.2.2.2.1 ⟨h.1, h.2.1, h.2.2.1, h.2.2.2.1, trivial⟩ h.2.2.2.2.2.1

end VeT
