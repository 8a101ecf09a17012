import Derived.Test.YtmedfcilbiogmaaGreatT5
import Derived.Test.YtmedfcilbiogmaaGreatV2
set_option linter.unusedVariables false
set_option linter.unusedSimpArgs false
open Go Go.Proofs Ve
set_option linter.unusedVariables false
set_option linter.unusedSimpArgs false
namespace VeT

/-- a wrong square -/
def Bq (c : List Sim) (ms : List Mat) (k i j : Nat) : Prop := two c ms k i (j - 1) ≠ two c ms k j i
def Pi (c : List Sim) (ms : List Mat) (k i : Nat) : Prop := ∃ j,i + 1 ≤ j ∧ j < i + 1 + ((c.getD k []).length - (i + 1)) ∧ Bq c ms k i j
def Pk (c : List Sim) (ms : List Mat) (k : Nat) : Prop := 3 ≤ (c.getD k []).length ∧ ∃ i,0 ≤ i ∧ i < 0 + (c.getD k []).length ∧ Pi c ms k i

noncomputable def rI (c : List Sim) (ms : List Mat) (out : Nat → Nat → Nat → Option Dv) (k i : Nat) (rn : Option Dv) : Option Dv := orN (out k i) rn (firstN (Bq c ms k i) (i + 1) ((c.getD k []).length - (i + 1)))
noncomputable def rK (c : List Sim) (ms : List Mat) (out : Nat → Nat → Nat → Option Dv) (k : Nat) (rn : Option Dv) : Option Dv := orN (fun i => rI c ms out k i none) rn (firstN (Pi c ms k) 0 (c.getD k []).length)
noncomputable def wrongR (c : List Sim) (ms : List Mat) (out : Nat → Nat → Nat → Option Dv) (rn : Option Dv) : Option Dv := orN (fun k => rK c ms out k none) rn (firstN (Pk c ms) 0 c.length)

theorem rI_hit {c ms out k i} {rn rn' : Option Dv} (h : Pi c ms k i) : rI c ms out k i rn = rI c ms out k i rn' := by
  obtain ⟨j,hj⟩ := firstN_ex h
  unfold rI; rw [hj]; rfl
theorem rI_go {c ms out k i} {rn : Option Dv} (h : ¬ Pi c ms k i) : rI c ms out k i rn = rn := by
  unfold rI
  cases hf : firstN (Bq c ms k i) (i + 1) ((c.getD k []).length - (i + 1)) with
  | none => rfl
  | some j => exact absurd ⟨j,firstN_some hf⟩ h
theorem rK_hit {c ms out k} {rn rn' : Option Dv} (h : Pk c ms k) : rK c ms out k rn = rK c ms out k rn' := by
  obtain ⟨j,hj⟩ := firstN_ex h.2
  unfold rK; rw [hj]; rfl
theorem rK_go {c ms out k} {rn : Option Dv} (h : ¬ Pk c ms k) (h3 : 3 ≤ (c.getD k []).length) : rK c ms out k rn = rn := by
  unfold rK
  cases hf : firstN (Pi c ms k) 0 (c.getD k []).length with
  | none => rfl
  | some j => exact absurd ⟨h3,j,firstN_some hf⟩ h

/-- the first wrong square -/
noncomputable def wrongV (c : List Sim) (ms : List Mat) : Option (Nat × Nat × Nat) :=
  (firstN (Pk c ms) 0 c.length).bind fun k => (firstN (Pi c ms k) 0 (c.getD k []).length).bind fun i => (firstN (Bq c ms k i) (i + 1) ((c.getD k []).length - (i + 1))).map fun j => (k,i,j)

theorem wrongV_some {c ms k i j} (h : wrongV c ms = some (k,i,j)) : k < c.length ∧ 3 ≤ (c.getD k []).length ∧ i < j ∧ j < (c.getD k []).length ∧ ∀ out rn,wrongR c ms out rn = out k i j := by
  unfold wrongV at h
  obtain ⟨k',hk,h⟩ := Option.bind_eq_some_iff.1 h
  obtain ⟨i',hi,h⟩ := Option.bind_eq_some_iff.1 h
  obtain ⟨j',hj,h⟩ := Option.map_eq_some_iff.1 h
  simp only [Prod.mk.injEq] at h
  obtain ⟨rfl,rfl,rfl⟩ := h
  have a := firstN_some hk
  have b := firstN_some hi
  have d := firstN_some hj
  refine ⟨by omega,a.2.2.1,by omega,by omega,fun out rn => ?_⟩
  unfold wrongR rK rI
  rw [hk]; simp only [orN]; rw [hi]; simp only [orN]; rw [hj]

theorem wrongV_none {c ms} (h : wrongV c ms = none) : ∀ out rn,wrongR c ms out rn = rn := by
  intro out rn
  unfold wrongR
  cases hk : firstN (Pk c ms) 0 c.length with
  | none => rfl
  | some k =>
    have a := firstN_some hk
    obtain ⟨i,hi⟩ := firstN_ex a.2.2.2
    obtain ⟨j,hj⟩ := firstN_ex (firstN_some hi).2.2
    unfold wrongV at h
    rw [hk] at h
    simp only [Option.bind_some] at h
    rw [hi] at h
    simp only [Option.bind_some] at h
    rw [hj] at h
    cases h

theorem faceIx_ret (c : List Sim) (k : Nat) (hk : k < c.length) (hc : Sm (.sl (.sl (.int .i64))) c) (hv : VC c) : Ret E n_impl_faceIndices [dLL c,dI (k : Int)] ⟨o_impl_faceIndices,(fIdx c k,())⟩ := faceIndices_ret c k hk hc hv.srt

noncomputable def outI (c : List Sim) (k i j : Nat) : Option Dv := some ⟨o_impl_wrongSquare,((k : Int),(fIdx c (fc c k i)).getD (j - 1) 0,true,())⟩

theorem wrongSquare_ret' (c : List Sim) (p : Int) (st : Sim) (ms : List Mat) (hc : Sm (.sl (.sl (.int .i64))) c) (h : VS c p st ms) : Ev fun φ => run E (φ 0 + 1) n_impl_wrongSquare [dLL c,dI p,dL st,dMs ms] = wrongR c ms (outI c) (some ⟨o_impl_wrongSquare,(0,0,false,())⟩) := by
  have hv := h.1
  have h48 := hv.1
  simp only [run_impl_wrongSquare,impl_wrongSquare.ev]
  refine Ev.start (p := fun φ n => impl_wrongSquare.l0 (mkR (run E (φ 0))) (φ 0) n c (c.length : Int) 0 c p st ms = _) 1 ?_ (fun _ _ _ h => h)
  have inner3 : ∀ k i (hk : k < c.length) (hn : 3 ≤ (c.getD k []).length) (hi : i < (c.getD k []).length) (rn : Option Dv),
      (¬ Pi c ms k i → Ev fun φ => impl_wrongSquare.l1 (mkR (run E (φ 0))) (φ 0) (φ 1) (φ 2) (c.getD k []) (k : Int) (fIdx c k) c (c.length : Int) (k : Int) ((c.getD k []).length : Int) ((i + 1 : Nat) : Int) c p st ms = rn) →
      Ev fun φ => impl_wrongSquare.l2 (mkR (run E (φ 0))) (φ 0) (φ 1) (φ 2) (φ 0) (c.getD k []) (k : Int) (fIdx c k) (i : Int) ((i + 1 : Nat) : Int) c (c.length : Int) (k : Int) ((c.getD k []).length : Int) (i : Int) c p st ms = rI c ms (outI c) k i rn := by
    intro k i hk hn hi rn hrn
    have h4 := hv.len4 hk
    refine Ev.start (p := fun φ n => impl_wrongSquare.l2 (mkR (run E (φ 0))) (φ 0) (φ 1) (φ 2) n (c.getD k []) (k : Int) (fIdx c k) (i : Int) ((i + 1 : Nat) : Int) c (c.length : Int) (k : Int) ((c.getD k []).length : Int) (i : Int) c p st ms = _) 3 ?_ (fun _ _ _ h => h)
    -- one round
    have round : ∀ j (hij : i + 1 ≤ j) (hj : j < (c.getD k []).length) (r : Option Dv),
        (Ev fun φ => (bif (!pb (two c ms k i (j - 1) = two c ms k j i)) then outI c k i j else impl_wrongSquare.l2 (mkR (run E (φ 0))) (φ 0) (φ 1) (φ 2) (φ 3) (c.getD k []) (k : Int) (fIdx c k) (i : Int) (w64 ((j : Int) + 1)) c (c.length : Int) (k : Int) ((c.getD k []).length : Int) (i : Int) c p st ms) = r) →
        Ev fun φ => impl_wrongSquare.l2 (mkR (run E (φ 0))) (φ 0) (φ 1) (φ 2) (φ 3 + 1) (c.getD k []) (k : Int) (fIdx c k) (i : Int) (j : Int) c (c.length : Int) (k : Int) ((c.getD k []).length : Int) (i : Int) c p st ms = r := by
      intro j hij hj r hr
      have s1 : Sq c p st ms k i (j - 1) := ⟨hk,hn,hi,by omega,h⟩
      have s2 : Sq c p st ms k j i := ⟨hk,hn,hj,by omega,h⟩
      obtain ⟨ix1,F1,_⟩ := fc_get hv hk s1.hi
      obtain ⟨ix2,F2,_⟩ := fc_get hv hk s2.hi
      have g1 := direct_ret c p st ms k i hk s1.hi h
      have g2 := direct_ret c p st ms (fc c k i) (j - 1) F1 s1.hj h
      have g3 := direct_ret c p st ms k j hk s2.hi h
      have g4 := direct_ret c p st ms (fc c k j) i F2 s2.hj h
      have ej : w64 ((j : Int) - 1) = ((j - 1 : Nat) : Int) := by rw [w64_small (by omega) (by omega)]; omega
      have j4 : Ev fun φ => impl_wrongSquare.j4 (mkR (run E (φ 0))) (φ 0) (φ 1) (φ 2) (φ 3) (c.getD k []) (k : Int) (fIdx c k) (i : Int) (j : Int) c (c.length : Int) (k : Int) ((c.getD k []).length : Int) (i : Int) c p st ms
          (two c ms k i (j - 1)).1 (two c ms k i (j - 1)).2.1 (two c ms k i (j - 1)).2.2.1 (two c ms k i (j - 1)).2.2.2.1 (two c ms k j i).1 (two c ms k j i).2.1 (two c ms k j i).2.2.1 (two c ms k j i).2.2.2.1 = r := by
        simp only [impl_wrongSquare.j4_eq _ mk_ok,ej]
        refine ev_call (SameMatrixP_ret (two c ms k i (j - 1)) (two c ms k j i) (mulM_len s1.b1 s1.b2)) ?_
        by_cases he : two c ms k i (j - 1) = two c ms k j i
        · rw [pb_true he] at hr ⊢
          exact ev_f rfl (by simpa using hr)
        · rw [pb_false he] at hr ⊢
          refine ev_t rfl (ev_bind ix1 (ev_call (faceIx_ret c (fc c k i) F1 hc hv) (ev_bind (idx_lt s1.hj) ?_)))
          have : outI c k i j = r := by
            obtain ⟨n0,hr⟩ := hr
            exact hr (fun _ => n0) (fun _ => Nat.le_refl _)
          rw [← this,outI,getD_lt s1.hj]; exact ev_rfl
      have j3 : Ev fun φ => impl_wrongSquare.j3 (mkR (run E (φ 0))) (φ 0) (φ 1) (φ 2) (φ 3) (c.getD k []) (k : Int) (fIdx c k) (i : Int) (j : Int) c (c.length : Int) (k : Int) ((c.getD k []).length : Int) (i : Int) c p st ms
          (two c ms k i (j - 1)).1 (two c ms k i (j - 1)).2.1 (two c ms k i (j - 1)).2.2.1 (two c ms k i (j - 1)).2.2.2.1 = r := by
        simp only [impl_wrongSquare.j3_eq _ mk_ok]
        refine ev_bind ix2 (ev_both (ev_call g3 (ev_both (ev_call g4 (ev_both (ev_call s2.impl j4) (ev_call s2.impl j4))) (ev_call g4 (ev_call s2.impl j4)))) (ev_call g3 (ev_call g4 (ev_call s2.impl j4))))
      simp only [impl_wrongSquare.l2_succ _ mk_ok,ej]
      refine ev_t (decide_eq_true (by omega)) (ev_bind ix1 (ev_both (ev_call g1 (ev_both (ev_call g2 (ev_both (ev_call s1.impl j3) (ev_call s1.impl j3))) (ev_call g2 (ev_call s1.impl j3)))) (ev_call g1 (ev_call g2 (ev_call s1.impl j3)))))
    refine first_loop 3 (L := fun φ n j => impl_wrongSquare.l2 (mkR (run E (φ 0))) (φ 0) (φ 1) (φ 2) n (c.getD k []) (k : Int) (fIdx c k) (i : Int) j c (c.length : Int) (k : Int) ((c.getD k []).length : Int) (i : Int) c p st ms) (len := (c.getD k []).length) (Bq c ms k i) (outI c k i) rn (fun _ _ _ _ => rfl) (i + 1) (fun j h1 h2 hB => ?_) (fun j q h1 h2 hB ih => ?_) (fun hno => ?_) _ (by omega)
    · refine round j h1 h2 _ (ev_t ?_ ev_rfl)
      rw [pb_false hB]; rfl
    · refine round j h1 h2 _ (ev_f ?_ ?_)
      · rw [pb_true (Classical.not_not.1 hB)]; rfl
      · rw [w64_succ (by omega)]; exact ih
    · simp only [impl_wrongSquare.l2_succ _ mk_ok]
      refine ev_f (decide_eq_false (by omega)) ?_
      rw [w64_succ (by omega)]; exact hrn fun ⟨j,h1,h2,h3⟩ => hno j h1 (by omega) h3
  have inner2 : ∀ k (hk : k < c.length) (hn : 3 ≤ (c.getD k []).length) (rn : Option Dv),
      (¬ Pk c ms k → Ev fun φ => impl_wrongSquare.l0 (mkR (run E (φ 0))) (φ 0) (φ 1) c (c.length : Int) ((k + 1 : Nat) : Int) c p st ms = rn) →
      Ev fun φ => impl_wrongSquare.l1 (mkR (run E (φ 0))) (φ 0) (φ 1) (φ 0) (c.getD k []) (k : Int) (fIdx c k) c (c.length : Int) (k : Int) ((c.getD k []).length : Int) 0 c p st ms = rK c ms (outI c) k rn := by
    intro k hk hn rn hrn
    have h4 := hv.len4 hk
    refine Ev.start (p := fun φ n => impl_wrongSquare.l1 (mkR (run E (φ 0))) (φ 0) (φ 1) n (c.getD k []) (k : Int) (fIdx c k) c (c.length : Int) (k : Int) ((c.getD k []).length : Int) 0 c p st ms = _) 2 ?_ (fun _ _ _ h => h)
    refine first_loop 2 (L := fun φ n i => impl_wrongSquare.l1 (mkR (run E (φ 0))) (φ 0) (φ 1) n (c.getD k []) (k : Int) (fIdx c k) c (c.length : Int) (k : Int) ((c.getD k []).length : Int) i c p st ms) (len := (c.getD k []).length) (Pi c ms k) (fun i => rI c ms (outI c) k i none) rn (fun _ _ _ _ => rfl) 0 (fun i h1 h2 hP => ?_) (fun i q h1 h2 hP ih => ?_) (fun hno => ?_) _ (by omega)
    · simp only [impl_wrongSquare.l1_succ _ mk_ok]
      refine ev_t (decide_eq_true (by omega)) ?_
      rw [w64_succ (by omega)]
      exact inner3 k i hk hn h2 none fun hn => absurd hP hn
    · simp only [impl_wrongSquare.l1_succ _ mk_ok]
      refine ev_t (decide_eq_true (by omega)) ?_
      rw [w64_succ (by omega)]
      exact (inner3 k i hk hn h2 q fun _ => ih).to (rI_go hP)
    · simp only [impl_wrongSquare.l1_succ _ mk_ok]
      refine ev_f (decide_eq_false (by omega)) ?_
      rw [w64_succ (by omega)]; exact hrn fun ⟨_,i,h1,h2,h3⟩ => hno i h1 (by omega) h3
  refine first_loop 1 (L := fun φ n k => impl_wrongSquare.l0 (mkR (run E (φ 0))) (φ 0) n c (c.length : Int) k c p st ms) (len := c.length) (Pk c ms) (fun k => rK c ms (outI c) k none) _ (fun _ _ _ _ => rfl) 0 (fun k h1 h2 hP => ?_) (fun k q h1 h2 hP ih => ?_) (fun hno => ?_) _ (by omega)
  · simp only [impl_wrongSquare.l0_succ _ mk_ok]
    refine ev_t (decide_eq_true (by omega)) (ev_bind (idx_lt h2) ?_)
    have hn := hP.1
    rw [← getD_lt (d := []) h2]
    exact ev_f (decide_eq_false (by omega)) (ev_call (faceIx_ret c k h2 hc hv) (inner2 k h2 hn none fun hn => absurd hP hn))
  · simp only [impl_wrongSquare.l0_succ _ mk_ok]
    refine ev_t (decide_eq_true (by omega)) (ev_bind (idx_lt h2) ?_)
    rw [← getD_lt (d := []) h2]
    refine ev_d (fun hlt => ?_) fun hlt => ?_
    · rw [w64_succ (by omega)]; exact ih
    · exact ev_call (faceIx_ret c k h2 hc hv) ((inner2 k h2 (by omega) q fun _ => ih).to (rK_go hP (by omega)))
  · simp only [impl_wrongSquare.l0_succ _ mk_ok]
    exact ev_f (decide_eq_false (by omega)) ev_rfl

noncomputable def outS (k i j : Nat) : Option Dv := some ⟨o_spec_l09Wrong,((k : Int),(i : Int),(j : Int),())⟩

theorem l09Wrong_ret' (x : Shf) (hc : Sm (.sl (.sl (.int .i64))) x.1) (h : VS x.1 x.2.1 x.2.2.1 x.2.2.2.1) : Ev fun φ => run E (φ 0 + 1) n_spec_l09Wrong [dS x] = wrongR x.1 x.2.2.2.1 outS (some ⟨o_spec_l09Wrong,(-1,0,0,())⟩) := by
  have hv := h.1
  have h48 := hv.1
  simp only [run_spec_l09Wrong,spec_l09Wrong.ev]
  refine Ev.start (p := fun φ n => spec_l09Wrong.l0 (mkR (run E (φ 0))) (φ 0) n x 0 = _) 1 ?_ (fun _ _ _ h => h)
  have inner3 : ∀ k i (hk : k < x.1.length) (hn : 3 ≤ (x.1.getD k []).length) (hi : i < (x.1.getD k []).length) (rn : Option Dv),
      (¬ Pi x.1 x.2.2.2.1 k i → Ev fun φ => spec_l09Wrong.l1 (mkR (run E (φ 0))) (φ 0) (φ 1) (φ 2) x (k : Int) ((x.1.getD k []).length : Int) ((i + 1 : Nat) : Int) = rn) →
      Ev fun φ => spec_l09Wrong.l3 (mkR (run E (φ 0))) (φ 0) (φ 1) (φ 2) (φ 0) x (k : Int) ((x.1.getD k []).length : Int) (i : Int) ((i + 1 : Nat) : Int) = rI x.1 x.2.2.2.1 outS k i rn := by
    intro k i hk hn hi rn hrn
    have h4 := hv.len4 hk
    refine Ev.start (p := fun φ n => spec_l09Wrong.l3 (mkR (run E (φ 0))) (φ 0) (φ 1) (φ 2) n x (k : Int) ((x.1.getD k []).length : Int) (i : Int) ((i + 1 : Nat) : Int) = _) 3 ?_ (fun _ _ _ h => h)
    have round : ∀ j (hij : i + 1 ≤ j) (hj : j < (x.1.getD k []).length) (r : Option Dv),
        (Ev fun φ => (bif (!pb (two x.1 x.2.2.2.1 k i (j - 1) = two x.1 x.2.2.2.1 k j i)) then outS k i j else spec_l09Wrong.l3 (mkR (run E (φ 0))) (φ 0) (φ 1) (φ 2) (φ 3) x (k : Int) ((x.1.getD k []).length : Int) (i : Int) (w64 ((j : Int) + 1))) = r) →
        Ev fun φ => spec_l09Wrong.l3 (mkR (run E (φ 0))) (φ 0) (φ 1) (φ 2) (φ 3 + 1) x (k : Int) ((x.1.getD k []).length : Int) (i : Int) (j : Int) = r := by
      intro j hij hj r hr
      have s1 : Sq x.1 x.2.1 x.2.2.1 x.2.2.2.1 k i (j - 1) := ⟨hk,hn,hi,by omega,h⟩
      have s2 : Sq x.1 x.2.1 x.2.2.1 x.2.2.2.1 k j i := ⟨hk,hn,hj,by omega,h⟩
      have t1 := l09Two_ret x k i j (by omega) (by rw [if_pos (by omega)]; exact s1) hc (by omega)
      have t2 := l09Two_ret x k j i (by omega) (by rw [if_neg (by omega)]; exact s2) hc (by omega)
      rw [if_pos (by omega)] at t1
      rw [if_neg (by omega)] at t2
      simp only [spec_l09Wrong.l3_succ _ mk_ok]
      exact ev_t (decide_eq_true (by omega)) (ev_call t1 (ev_call t2 (ev_call (l03SameP_ret (two x.1 x.2.2.2.1 k i (j - 1)) (two x.1 x.2.2.2.1 k j i) (mulM_len s1.b1 s1.b2)) hr)))
    refine first_loop 3 (L := fun φ n j => spec_l09Wrong.l3 (mkR (run E (φ 0))) (φ 0) (φ 1) (φ 2) n x (k : Int) ((x.1.getD k []).length : Int) (i : Int) j) (len := (x.1.getD k []).length) (Bq x.1 x.2.2.2.1 k i) (outS k i) rn (fun _ _ _ _ => rfl) (i + 1) (fun j h1 h2 hB => ?_) (fun j q h1 h2 hB ih => ?_) (fun hno => ?_) _ (by omega)
    · refine round j h1 h2 _ (ev_t ?_ ev_rfl)
      rw [pb_false hB]; rfl
    · refine round j h1 h2 _ (ev_f ?_ ?_)
      · rw [pb_true (Classical.not_not.1 hB)]; rfl
      · rw [w64_succ (by omega)]; exact ih
    · simp only [spec_l09Wrong.l3_succ _ mk_ok]
      refine ev_f (decide_eq_false (by omega)) ?_
      rw [w64_succ (by omega)]; exact hrn fun ⟨j,h1,h2,h3⟩ => hno j h1 (by omega) h3
  have inner2 : ∀ k (hk : k < x.1.length) (hn : 3 ≤ (x.1.getD k []).length) (rn : Option Dv),
      (¬ Pk x.1 x.2.2.2.1 k → Ev fun φ => spec_l09Wrong.l0 (mkR (run E (φ 0))) (φ 0) (φ 1) x ((k + 1 : Nat) : Int) = rn) →
      Ev fun φ => spec_l09Wrong.l1 (mkR (run E (φ 0))) (φ 0) (φ 1) (φ 0) x (k : Int) ((x.1.getD k []).length : Int) 0 = rK x.1 x.2.2.2.1 outS k rn := by
    intro k hk hn rn hrn
    have h4 := hv.len4 hk
    refine Ev.start (p := fun φ n => spec_l09Wrong.l1 (mkR (run E (φ 0))) (φ 0) (φ 1) n x (k : Int) ((x.1.getD k []).length : Int) 0 = _) 2 ?_ (fun _ _ _ h => h)
    have h2' : decide (((x.1.getD k []).length : Int) > 2) = true := decide_eq_true (by omega)
    refine first_loop 2 (L := fun φ n i => spec_l09Wrong.l1 (mkR (run E (φ 0))) (φ 0) (φ 1) n x (k : Int) ((x.1.getD k []).length : Int) i) (len := (x.1.getD k []).length) (Pi x.1 x.2.2.2.1 k) (fun i => rI x.1 x.2.2.2.1 outS k i none) rn (fun _ _ _ _ => rfl) 0 (fun i h1 h2 hP => ?_) (fun i q h1 h2 hP ih => ?_) (fun hno => ?_) _ (by omega)
    · simp only [spec_l09Wrong.l1_succ _ mk_ok,h2',spec_l09Wrong.j2_eq _ mk_ok,cond_true]
      refine ev_t (decide_eq_true (by omega)) ?_
      rw [w64_succ (by omega)]
      exact inner3 k i hk hn h2 none fun hn => absurd hP hn
    · simp only [spec_l09Wrong.l1_succ _ mk_ok,h2',spec_l09Wrong.j2_eq _ mk_ok,cond_true]
      refine ev_t (decide_eq_true (by omega)) ?_
      rw [w64_succ (by omega)]
      exact (inner3 k i hk hn h2 q fun _ => ih).to (rI_go hP)
    · simp only [spec_l09Wrong.l1_succ _ mk_ok,spec_l09Wrong.j2_eq _ mk_ok,cond_false]
      refine ev_f (decide_eq_false (by omega)) ?_
      rw [w64_succ (by omega)]; exact hrn fun ⟨_,i,h1,h2,h3⟩ => hno i h1 (by omega) h3
  refine first_loop 1 (L := fun φ n k => spec_l09Wrong.l0 (mkR (run E (φ 0))) (φ 0) n x k) (len := x.1.length) (Pk x.1 x.2.2.2.1) (fun k => rK x.1 x.2.2.2.1 outS k none) _ (fun _ _ _ _ => rfl) 0 (fun k h1 h2 hP => ?_) (fun k q h1 h2 hP ih => ?_) (fun hno => ?_) _ (by omega)
  · simp only [spec_l09Wrong.l0_succ _ mk_ok]
    refine ev_t (decide_eq_true (by omega)) (ev_bind (idx_lt h2) ?_)
    have hn := hP.1
    rw [← getD_lt (d := []) h2]
    exact inner2 k h2 hn none fun hn => absurd hP hn
  · simp only [spec_l09Wrong.l0_succ _ mk_ok]
    refine ev_t (decide_eq_true (by omega)) (ev_bind (idx_lt h2) ?_)
    rw [← getD_lt (d := []) h2]
    by_cases hn : 3 ≤ (x.1.getD k []).length
    · exact (inner2 k h2 hn q fun _ => ih).to (rK_go hP hn)
    · have h2' : decide (((x.1.getD k []).length : Int) > 2) = false := decide_eq_false (by omega)
      refine Ev.start (p := fun φ n => spec_l09Wrong.l1 (mkR (run E (φ 0))) (φ 0) (φ 1) n x (k : Int) ((x.1.getD k []).length : Int) 0 = _) 2 ?_ (fun _ _ _ h => h)
      refine Ev.round 2 (L := fun φ n => spec_l09Wrong.l1 (mkR (run E (φ 0))) (φ 0) (φ 1) n x (k : Int) ((x.1.getD k []).length : Int) 0) ?_ (fun _ _ _ => rfl)
      simp only [spec_l09Wrong.l1_succ _ mk_ok,h2',spec_l09Wrong.j2_eq _ mk_ok,cond_false]
      rw [w64_succ (by omega)]
      exact ev_d (fun _ => ih) fun _ => ih
  · simp only [spec_l09Wrong.l0_succ _ mk_ok]
    exact ev_f (decide_eq_false (by omega)) ev_rfl

end VeT

open Go Go.Proofs Ve
set_option linter.unusedVariables false
set_option linter.unusedSimpArgs false
namespace VeT

noncomputable def wI (c : List Sim) (ms : List Mat) : Int × Int × Bool × Unit := match wrongV c ms with
  | some (k,i,j) => ((k : Int),(fIdx c (fc c k i)).getD (j - 1) 0,true,())
  | none => (0,0,false,())

noncomputable def wS (c : List Sim) (ms : List Mat) : Int × Int × Int × Unit := match wrongV c ms with
  | some (k,i,j) => ((k : Int),(i : Int),(j : Int),())
  | none => (-1,0,0,())

theorem wrongSquare_ret (c : List Sim) (p : Int) (st : Sim) (ms : List Mat) (hc : Sm (.sl (.sl (.int .i64))) c) (h : VS c p st ms) : Ret E n_impl_wrongSquare [dLL c,dI p,dL st,dMs ms] ⟨o_impl_wrongSquare,wI c ms⟩ := by
  refine ret_of ((wrongSquare_ret' c p st ms hc h).to ?_)
  cases hw : wrongV c ms with
  | none => rw [wrongV_none hw,wI,hw]
  | some t =>
    obtain ⟨k,i,j⟩ := t
    rw [(wrongV_some hw).2.2.2.2,wI,hw]; rfl

theorem l09Wrong_ret (x : Shf) (hc : Sm (.sl (.sl (.int .i64))) x.1) (h : VS x.1 x.2.1 x.2.2.1 x.2.2.2.1) : Ret E n_spec_l09Wrong [dS x] ⟨o_spec_l09Wrong,wS x.1 x.2.2.2.1⟩ := by
  refine ret_of ((l09Wrong_ret' x hc h).to ?_)
  cases hw : wrongV x.1 x.2.2.2.1 with
  | none => rw [wrongV_none hw,wS,hw]
  | some t =>
    obtain ⟨k,i,j⟩ := t
    rw [(wrongV_some hw).2.2.2.2,wS,hw]; rfl

/-- sheaves -/
def ISh (x : Shf) : Prop := VS x.1 x.2.1 x.2.2.1 x.2.2.2.1 ∧ wrongV x.1 x.2.2.2.1 = none

theorem implIsSheaf_ret (x : Shf) (hx : Sm (.st cS) x) : Ret E n_impl_IsSheaf [dLL x.1,dI x.2.1,dL x.2.2.1,dMs x.2.2.2.1] ⟨o_impl_IsSheaf,(pb (ISh x),())⟩ := by
  refine ret_of ?_
  simp only [run_impl_IsSheaf,impl_IsSheaf.ev]
  refine ev_call (implValid_ret x hx) (ev_b (fun h => ev_some ?_) fun h => ?_)
  · have h := pb_not.1 (show pb (VS x.1 x.2.1 x.2.2.1 x.2.2.2.1) = false by simpa using h)
    rw [pb_false fun hi => h hi.1]
  · have h := pb_iff.1 (show pb (VS x.1 x.2.1 x.2.2.1 x.2.2.2.1) = true by simpa using h)
    refine ev_call (wrongSquare_ret _ _ _ _ hx.1 h) (ev_some ?_)
    have : (!(wI x.1 x.2.2.2.1).2.2.1) = pb (ISh x) := eq_pb (by
      unfold ISh wI
      cases hw : wrongV x.1 x.2.2.2.1 with
      | none => simp [h]
      | some t => simp)
    rw [this]

theorem l09Is_ret (x : Shf) (hx : Sm (.st cS) x) : Ret E n_spec_l09Is [dS x] ⟨o_spec_l09Is,(pb (ISh x),())⟩ := by
  refine ret_of ?_
  simp only [run_spec_l09Is,spec_l09Is.ev]
  refine ev_call (l09Ok_ret x hx) (ev_b (fun h => ev_some ?_) fun h => ?_)
  · have h := pb_not.1 (show pb (VS x.1 x.2.1 x.2.2.1 x.2.2.2.1) = false by simpa using h)
    rw [pb_false fun hi => h hi.1]
  · have h := pb_iff.1 (show pb (VS x.1 x.2.1 x.2.2.1 x.2.2.2.1) = true by simpa using h)
    refine ev_call (l09Wrong_ret x hx.1 h) (ev_some ?_)
    have : decide ((wS x.1 x.2.2.2.1).1 < 0) = pb (ISh x) := eq_pb (by
      rw [decide_eq_true_iff]
      unfold ISh wS
      cases hw : wrongV x.1 x.2.2.2.1 with
      | none => simp [h]
      | some t => simp only [reduceCtorEq,and_false,iff_false]; omega)
    rw [this]

/-! the Euler number -/
def SDn (c : List Sim) (st : Sim) (d : Int) (n : Nat) : Int := ((ofDim c d n).map fun i => st.getD i.toNat 0).sum

theorem SD_eq {c : List Sim} {st : Sim} {d : Int} : SD c st d = SDn c st d c.length := by
  unfold SD sumD SDn
  rw [List.take_of_length_le (Nat.le_refl _)]

theorem SDn_succ {c : List Sim} {st : Sim} {d : Int} {n : Nat} : SDn c st d (n + 1) = SDn c st d n + if ((c.getD n []).length : Int) = d + 1 then st.getD n 0 else 0 := by
  unfold SDn
  rw [ofDim_succ,List.map_append,List.sum_append]
  split <;> simp

theorem SD_bound {c : List Sim} {p : Int} {st : Sim} {ms : List Mat} (h : VS c p st ms) (d : Nat) (hd : d < 4) : 0 ≤ SD c st (d : Int) ∧ SD c st (d : Int) ≤ 32 := ⟨sum_len_le h.2.2.1.2.1 _,h.2.2.1.2.2 d hd⟩

end VeT

open Go Go.Proofs Ve
set_option linter.unusedVariables false
set_option linter.unusedSimpArgs false
namespace VeT

/-! where columns begin -/
theorem st_nn {st : Sim} (hst : ∀ x ∈ st,0 ≤ x ∧ x ≤ 3) (k : Nat) : 0 ≤ st.getD k 0 ∧ st.getD k 0 ≤ 3 := by
  by_cases hl : k < st.length
  · rw [getD_lt hl]; exact hst _ (List.getElem_mem hl)
  · rw [List.getD_eq_getElem?_getD,List.getElem?_eq_none (by omega)]; simp

theorem SDn_nn {c : List Sim} {st : Sim} {d : Int} (hst : ∀ x ∈ st,0 ≤ x ∧ x ≤ 3) : ∀ {n : Nat},0 ≤ SDn c st d n ∧ SDn c st d n ≤ 3 * n
  | 0 => by simp [SDn,ofDim]
  | n + 1 => by
    have h1 := SDn_nn (c := c) (d := d) hst (n := n)
    have h2 := st_nn hst n
    rw [SDn_succ]; split <;> omega

theorem SDn_mono {c : List Sim} {st : Sim} {d : Int} (hst : ∀ x ∈ st,0 ≤ x ∧ x ≤ 3) {n m : Nat} (h : n ≤ m) : SDn c st d n ≤ SDn c st d m := by
  induction h with
  | refl => exact Int.le_refl _
  | @step m h ih => rw [SDn_succ]; have := st_nn hst m; split <;> omega

theorem SDn_hit {c : List Sim} {st : Sim} {d : Int} (hst : ∀ x ∈ st,0 ≤ x ∧ x ≤ 3) {s n : Nat} (hs : s < n) (hd : ((c.getD s []).length : Int) = d + 1) : SDn c st d s + st.getD s 0 ≤ SDn c st d n := by
  have := SDn_mono (c := c) (d := d) hst (show s + 1 ≤ n from hs)
  rw [SDn_succ,if_pos hd] at this; exact this

theorem ofDim_pre {c : List Sim} {d : Int} {s n : Nat} (hs : s < n) (hd : ((c.getD s []).length : Int) = d + 1) : ∃ tl,ofDim c d n = ofDim c d s ++ (s : Int) :: tl := by
  induction n with
  | zero => omega
  | succ n ih =>
    rw [ofDim_succ]
    by_cases h : s = n
    · subst h; exact ⟨[],by rw [if_pos hd]⟩
    · obtain ⟨tl,e⟩ := ih (by omega)
      exact ⟨tl ++ _,by rw [e,List.append_assoc]; rfl⟩

theorem ofDim_iff {c : List Sim} {d : Int} {k : Nat} {x : Int} : x ∈ ofDim c d k ↔ ∃ i : Nat,x = i ∧ i < k ∧ ((c.getD i []).length : Int) = d + 1 := by
  unfold ofDim
  rw [List.mem_map]
  constructor
  · rintro ⟨i,hi,rfl⟩
    have := List.mem_filter.1 hi
    exact ⟨i,rfl,by simpa using this.1,by simpa using this.2⟩
  · rintro ⟨i,rfl,h1,h2⟩
    exact ⟨i,List.mem_filter.2 ⟨by simpa using h1,by simpa using h2⟩,rfl⟩

/-- where the column of a simplex begins -/
def FC (c : List Sim) (st : Sim) (s : Nat) : Int := SDn c st (((c.getD s []).length : Int) - 1) s

theorem FC_bound {c : List Sim} {st : Sim} (hst : ∀ x ∈ st,0 ≤ x ∧ x ≤ 3) {s : Nat} (hs : s < c.length) : 0 ≤ FC c st s ∧ FC c st s + st.getD s 0 ≤ SD c st (((c.getD s []).length : Int) - 1) := by
  refine ⟨(SDn_nn hst).1,?_⟩
  rw [SD_eq]
  exact SDn_hit hst hs (by omega)

/-! stores -/
abbrev St := List (Nat × Int)
def upds (S : St) (cs : Sim) : Sim := S.foldl (fun cs q => cs.set q.1 q.2) cs

theorem upds_append {S T : St} {cs : Sim} : upds (S ++ T) cs = upds T (upds S cs) := by simp [upds]
theorem upds_one {q : Nat} {v : Int} {cs : Sim} : upds [(q,v)] cs = cs.set q v := rfl
theorem upds_length {S : St} : ∀ {cs : Sim},(upds S cs).length = cs.length := by
  induction S with
  | nil => intro cs; rfl
  | cons q S ih => intro cs; show (upds S (cs.set q.1 q.2)).length = _; rw [ih,List.length_set]

theorem upds_elems {p : Int} {S : St} : ∀ {cs : Sim},Elems cs p → (∀ q ∈ S,0 ≤ q.2 ∧ q.2 ≤ p - 1) → Elems (upds S cs) p := by
  induction S with
  | nil => intro cs h _; exact h
  | cons q S ih =>
    intro cs h hS
    refine ih (cs := cs.set q.1 q.2) (fun x hx => ?_) fun y hy => hS y (List.mem_cons_of_mem _ hy)
    rcases List.mem_or_eq_of_mem_set hx with hx | rfl
    · exact h x hx
    · exact hS q List.mem_cons_self

theorem upds_miss {S : St} {q : Nat} : ∀ {cs : Sim},(∀ x ∈ S,x.1 ≠ q) → (upds S cs).getD q 0 = cs.getD q 0 := by
  induction S with
  | nil => intro cs _; rfl
  | cons y S ih =>
    intro cs h
    have e := ih (cs := cs.set y.1 y.2) fun x hx => h x (List.mem_cons_of_mem _ hx)
    show (upds S (cs.set y.1 y.2)).getD q 0 = _
    rw [e,List.getD_eq_getElem?_getD,List.getD_eq_getElem?_getD,List.getElem?_set_ne (h y List.mem_cons_self)]

theorem upds_hit {S : St} {q : Nat} {v : Int} : ∀ {cs : Sim},q < cs.length → (∀ x ∈ S,x.1 = q → x.2 = v) → (∃ x ∈ S,x.1 = q) → (upds S cs).getD q 0 = v := by
  induction S with
  | nil => intro cs _ _ ⟨x,hx,_⟩; simp at hx
  | cons y S ih =>
    intro cs hq hall ⟨x,hx,e⟩
    show (upds S (cs.set y.1 y.2)).getD q 0 = _
    by_cases hS : ∃ x ∈ S,x.1 = q
    · exact ih (by rw [List.length_set]; exact hq) (fun x hx => hall x (List.mem_cons_of_mem _ hx)) hS
    · rw [upds_miss fun x hx e => hS ⟨x,hx,e⟩]
      rcases List.mem_cons.1 hx with rfl | hx
      · subst e
        rw [List.getD_eq_getElem?_getD,List.getElem?_set_self hq]
        exact hall x List.mem_cons_self rfl
      · exact absurd ⟨x,hx,e⟩ hS

def sgn (p : Int) (a : Nat) : Int := if a % 2 = 0 then 1 else p - 1

theorem sgn_in {p : Int} (hp : 2 ≤ p ∧ p ≤ 251) (a : Nat) : 0 ≤ sgn p a ∧ sgn p a ≤ p - 1 := by
  unfold sgn; split <;> omega

def stJ (p : Int) (m : Mat) (W top left : Nat) (sg : Int) (i n : Nat) : St := (List.range n).map fun j => ((top + i) * W + left + j,m.2.2.2.1.getD (i * m.2.2.1.toNat + j) 0 * sg % p)
def stI (p : Int) (m : Mat) (W top left : Nat) (sg : Int) (n : Nat) : St := (List.range n).flatMap fun i => stJ p m W top left sg i m.2.2.1.toNat

/-- the stores of a simplex -/
noncomputable def stF (c : List Sim) (p : Int) (st : Sim) (ms : List Mat) (k : Int) (s n : Nat) : St :=
  (List.range n).flatMap fun a => stI p (mp c ms s a) (SD c st k).toNat (FC c st s).toNat (FC c st (fc c s a)).toNat (sgn p a) (mp c ms s a).2.1.toNat
/-- the stores of a degree -/
noncomputable def stS (c : List Sim) (p : Int) (st : Sim) (ms : List Mat) (k : Int) (n : Nat) : St :=
  ((ofDim c (k + 1) c.length).take n).flatMap fun s => stF c p st ms k s.toNat (fIdx c s.toNat).length

open Classical in
/-- the coboundary matrix -/
noncomputable def cobC (c : List Sim) (p : Int) (st : Sim) (ms : List Mat) (k : Int) : Sim :=
  if k < 0 then List.replicate ((SD c st (k + 1)).toNat * (SD c st k).toNat) 0 else upds (stS c p st ms k (ofDim c (k + 1) c.length).length) (List.replicate ((SD c st (k + 1)).toNat * (SD c st k).toNat) 0)
noncomputable def cobM (c : List Sim) (p : Int) (st : Sim) (ms : List Mat) (k : Int) : Mat := (p,SD c st (k + 1),SD c st k,cobC c p st ms k,())

theorem stJ_mem {p : Int} {m : Mat} {W top left : Nat} {sg : Int} {i n : Nat} {q : Nat × Int} : q ∈ stJ p m W top left sg i n ↔ ∃ j,j < n ∧ q = ((top + i) * W + left + j,m.2.2.2.1.getD (i * m.2.2.1.toNat + j) 0 * sg % p) := by
  unfold stJ
  rw [List.mem_map]
  constructor
  · rintro ⟨j,hj,rfl⟩; exact ⟨j,List.mem_range.1 hj,rfl⟩
  · rintro ⟨j,hj,rfl⟩; exact ⟨j,List.mem_range.2 hj,rfl⟩

theorem stF_mem {c : List Sim} {p : Int} {st : Sim} {ms : List Mat} {k : Int} {s n : Nat} {q : Nat × Int} : q ∈ stF c p st ms k s n ↔ ∃ a i j,a < n ∧ i < (mp c ms s a).2.1.toNat ∧ j < (mp c ms s a).2.2.1.toNat ∧
    q = (((FC c st s).toNat + i) * (SD c st k).toNat + (FC c st (fc c s a)).toNat + j,(mp c ms s a).2.2.2.1.getD (i * (mp c ms s a).2.2.1.toNat + j) 0 * sgn p a % p) := by
  unfold stF stI
  rw [List.mem_flatMap]
  constructor
  · rintro ⟨a,ha,h⟩
    obtain ⟨i,hi,h⟩ := List.mem_flatMap.1 h
    obtain ⟨j,hj,e⟩ := stJ_mem.1 h
    exact ⟨a,i,j,List.mem_range.1 ha,List.mem_range.1 hi,hj,e⟩
  · rintro ⟨a,i,j,ha,hi,hj,e⟩
    exact ⟨a,List.mem_range.2 ha,List.mem_flatMap.2 ⟨i,List.mem_range.2 hi,stJ_mem.2 ⟨j,hj,e⟩⟩⟩

theorem stS_mem {c : List Sim} {p : Int} {st : Sim} {ms : List Mat} {k : Int} {n : Nat} {q : Nat × Int} (hn : (ofDim c (k + 1) c.length).length ≤ n) : q ∈ stS c p st ms k n ↔ ∃ s : Nat,s < c.length ∧ ((c.getD s []).length : Int) = k + 2 ∧ q ∈ stF c p st ms k s (fIdx c s).length := by
  unfold stS
  rw [List.take_of_length_le hn,List.mem_flatMap]
  constructor
  · rintro ⟨x,hx,h⟩
    obtain ⟨s,rfl,h1,h2⟩ := ofDim_iff.1 hx
    exact ⟨s,h1,by omega,h⟩
  · rintro ⟨s,h1,h2,h⟩
    exact ⟨(s : Int),ofDim_iff.2 ⟨s,rfl,h1,by omega⟩,h⟩

/-- the sizes that the coboundary's places keep to -/
theorem cob_geo {c : List Sim} {p : Int} {st : Sim} {ms : List Mat} (h : VS c p st ms) {k : Int} {s a : Nat} (hs : s < c.length) (hd : ((c.getD s []).length : Int) = k + 2) (ha : a < (fIdx c s).length) :
    (mp c ms s a).2.1 = st.getD s 0 ∧ (mp c ms s a).2.2.1 = st.getD (fc c s a) 0 ∧ fc c s a < c.length ∧ ((c.getD (fc c s a) []).length : Int) = k + 1 ∧
    (0 ≤ FC c st s ∧ FC c st s + st.getD s 0 ≤ SD c st (k + 1)) ∧ 0 ≤ FC c st (fc c s a) ∧ FC c st (fc c s a) + st.getD (fc c s a) 0 ≤ SD c st k := by
  obtain ⟨_,hb⟩ := h.map hs ha
  obtain ⟨_,hf,hg⟩ := fc_get h.1 hs ha
  have hl := fIdx_length (c := c) (k := s)
  have hfl : ((c.getD (fc c s a) []).length : Int) = k + 1 := by
    rw [hg,List.length_eraseIdx]
    split at hl
    · rw [if_pos (by omega)]; omega
    · omega
  have b1 := FC_bound h.2.2.1.2.1 hs
  have b2 := FC_bound h.2.2.1.2.1 hf
  rw [show ((c.getD s []).length : Int) - 1 = k + 1 by omega] at b1
  rw [show ((c.getD (fc c s a) []).length : Int) - 1 = k by omega] at b2
  exact ⟨hb.2.2.1,hb.2.2.2,hf,hfl,b1,b2⟩

theorem SD_zero {c : List Sim} (hv : VC c) (st : Sim) {d : Int} (hd : d < 0 ∨ 4 ≤ d) : SD c st d = 0 := by
  have : ofDim c d c.length = [] := List.eq_nil_iff_forall_not_mem.2 fun x hx => by
    obtain ⟨i,_,hi,hl⟩ := ofDim_iff.1 hx
    have := hv.2.1 i hi
    have h1 := this.1
    have h2 := this.2.1
    omega
  rw [SD_eq,SDn,this]; rfl

theorem SD_nat {c : List Sim} {p : Int} {st : Sim} {ms : List Mat} (h : VS c p st ms) (d : Int) : ∃ n : Nat,SD c st d = (n : Int) ∧ n ≤ 32 ∧ (SD c st d).toNat = n := by
  by_cases hd : d < 0 ∨ 4 ≤ d
  · exact ⟨0,SD_zero h.1 st hd,by omega,by rw [SD_zero h.1 st hd]; rfl⟩
  · have := SD_bound h d.toNat (by omega)
    rw [Int.toNat_of_nonneg (by omega)] at this
    exact ⟨(SD c st d).toNat,by omega,by omega,rfl⟩

theorem cobC_length {c : List Sim} {p : Int} {st : Sim} {ms : List Mat} {k : Int} : (cobC c p st ms k).length = (SD c st (k + 1)).toNat * (SD c st k).toNat := by
  unfold cobC; split
  · rw [List.length_replicate]
  · rw [upds_length,List.length_replicate]

theorem rep_elems {n : Nat} {p : Int} (hp : 2 ≤ p) : Elems (List.replicate n 0) p := fun x hx => by
  rw [List.mem_replicate] at hx; omega

theorem cobC_elems {c : List Sim} {p : Int} {st : Sim} {ms : List Mat} (h : VS c p st ms) (k : Int) : Elems (cobC c p st ms k) p := by
  have hp := h.2.1.1
  unfold cobC; split
  · exact rep_elems hp
  · refine upds_elems (rep_elems hp) fun q hq => ?_
    obtain ⟨s,_,_,hq⟩ := (stS_mem (Nat.le_refl _)).1 hq
    obtain ⟨a,i,j,_,_,_,rfl⟩ := stF_mem.1 hq
    have h0 := Int.emod_nonneg ((mp c ms s a).2.2.2.1.getD (i * (mp c ms s a).2.2.1.toNat + j) 0 * sgn p a) (show p ≠ 0 by omega)
    have h1 := Int.emod_lt_of_pos ((mp c ms s a).2.2.2.1.getD (i * (mp c ms s a).2.2.1.toNat + j) 0 * sgn p a) (show 0 < p by omega)
    exact ⟨h0,by simp only; omega⟩

end VeT

open Go Go.Proofs Ve
set_option linter.unusedVariables false
set_option linter.unusedSimpArgs false
namespace VeT

theorem Index_ret (s : Sim) (v : Int) (hs : s.length ≤ 1048576) : Ret E n_slices_Index_Sint64_int64 [dL s,dI v] ⟨o_slices_Index_Sint64_int64,(idxf (fun x => pb (x = v)) s,())⟩ := by
  obtain ⟨o,h1,h2,h3⟩ := find_loop 1 (L := fun φ n k => slices_Index_Sint64_int64.l0 (mkR (run E (φ 0))) (φ 0) n s v (s.length : Int) k) (len := s.length) (fun k => ∃ h : k < s.length,pb (s[k] = v) = true) (fun o => some ⟨o_slices_Index_Sint64_int64,(o2i o,())⟩) (fun _ _ _ _ => rfl) (fun k hk hP => by
      obtain ⟨_,hP⟩ := hP
      have hP := pb_iff.1 hP
      simp only [slices_Index_Sint64_int64.l0_succ _ mk_ok]
      exact ev_t (decide_eq_true (by omega)) (ev_bind (idx_lt hk) (ev_t (by simp [hP]) ev_rfl))) (fun k q hk hP ih => by
      simp only [slices_Index_Sint64_int64.l0_succ _ mk_ok]
      refine ev_t (decide_eq_true (by omega)) (ev_bind (idx_lt hk) (ev_f (by simp only [beq_eq_false_iff_ne]; exact fun e => hP ⟨hk,pb_true e.symm⟩) ?_))
      rw [w64_succ (by omega)]; exact ih) (by
      simp only [slices_Index_Sint64_int64.l0_succ _ mk_ok]
      exact ev_f (decide_eq_false (by omega)) ev_rfl)
  rw [idxf_of (p := fun x => pb (x = v)) h1 h2] at h3
  refine ret_of ?_
  simp only [run_slices_Index_Sint64_int64,slices_Index_Sint64_int64.ev]
  exact Ev.start (p := fun φ n => slices_Index_Sint64_int64.l0 (mkR (run E (φ 0))) (φ 0) n s v (s.length : Int) 0 = _) 1 h3 (fun _ _ _ h => h)

theorem Contains_ret (s : Sim) (v : Int) (hs : s.length ≤ 1048576) : Ret E n_slices_Contains_Sint64_int64 [dL s,dI v] ⟨o_slices_Contains_Sint64_int64,(pb (v ∈ s),())⟩ := by
  refine ret_of ?_
  simp only [run_slices_Contains_Sint64_int64,slices_Contains_Sint64_int64.ev]
  refine ev_call (Index_ret s v hs) (ev_some ?_)
  have : decide (idxf (fun x => pb (x = v)) s ≥ 0) = pb (v ∈ s) := eq_pb (by
    rw [decide_eq_true_iff,ge_iff_le,idxf_nonneg]
    exact ⟨fun ⟨x,h,e⟩ => pb_iff.1 e ▸ h,fun h => ⟨v,h,pb_true rfl⟩⟩)
  simp only [this]

theorem l00Has_ret (s : Sim) (v : Int) (hs : s.length ≤ 1048576) : Ret E n_spec_l00Has [dL s,dI v] ⟨o_spec_l00Has,(pb (v ∈ s),())⟩ := by
  obtain ⟨o,h1,h2,h3⟩ := find_loop 1 (L := fun φ n k => spec_l00Has.l0 (mkR (run E (φ 0))) (φ 0) n s v k) (len := s.length) (fun k => ∃ h : k < s.length,s[k] = v) (fun o => some ⟨o_spec_l00Has,(o.isSome,())⟩) (fun _ _ _ _ => rfl) (fun k hk hP => by
      obtain ⟨_,hP⟩ := hP
      simp only [spec_l00Has.l0_succ _ mk_ok]
      exact ev_t (decide_eq_true (by omega)) (ev_bind (idx_lt hk) (ev_t (by simp [hP]) ev_rfl))) (fun k q hk hP ih => by
      simp only [spec_l00Has.l0_succ _ mk_ok]
      refine ev_t (decide_eq_true (by omega)) (ev_bind (idx_lt hk) (ev_f (by simp only [beq_eq_false_iff_ne]; exact fun e => hP ⟨hk,e⟩) ?_))
      rw [w64_succ (by omega)]; exact ih) (by
      simp only [spec_l00Has.l0_succ _ mk_ok]
      exact ev_f (decide_eq_false (by omega)) ev_rfl)
  have : o.isSome = pb (v ∈ s) := eq_pb (by
    cases o with
    | none =>
      simp only [Option.isSome_none,Bool.false_eq_true,false_iff]
      intro hm
      obtain ⟨j,hj,e⟩ := List.mem_iff_getElem.1 hm
      exact h2 rfl j hj ⟨hj,e⟩
    | some k =>
      obtain ⟨_,⟨hk,e⟩,_⟩ := h1 k rfl
      simp only [Option.isSome_some,true_iff]
      exact e ▸ List.getElem_mem hk)
  rw [this] at h3
  refine ret_of ?_
  simp only [run_spec_l00Has,spec_l00Has.ev]
  exact Ev.start (p := fun φ n => spec_l00Has.l0 (mkR (run E (φ 0))) (φ 0) n s v 0 = _) 1 h3 (fun _ _ _ h => h)

/-- a part of a simplex -/
def Part (a b : Sim) : Prop := ∀ x ∈ a,x ∈ b

end VeT

open Go Go.Proofs Ve
set_option linter.unusedVariables false
set_option linter.unusedSimpArgs false
namespace VeT

theorem zero_1_ret (i j : Nat) : Ret E n_impl_zero_1 [dI (i : Int),dI (j : Int)] ⟨o_impl_zero_1,((0 : Int),())⟩ := by
  refine ret_of ?_
  simp only [run_impl_zero_1,impl_zero_1.ev]
  (first | exact ev_rfl | exact Ev.of fun _ => trivial)

theorem flatF_zero {C : Nat} : ∀ {n : Nat},flatF (fun _ _ => 0) C n = List.replicate (n * C) 0
  | 0 => by simp [flatF]
  | n + 1 => by
    rw [flatF,flatF_zero,Nat.add_mul,Nat.one_mul,← List.replicate_append_replicate]
    congr 1
    rw [List.map_const',List.length_range]

theorem zero_ret (p : Int) (R C : Nat) (hR : R ≤ 32) (hC : C ≤ 32) : Ret E n_impl_zero [dI p,dI (R : Int),dI (C : Int)] ⟨o_impl_zero,(p,(R : Int),(C : Int),List.replicate (R * C) 0,())⟩ := by
  have h1 := rc_le hR hC
  refine ret_of ?_
  simp only [run_impl_zero,impl_zero.ev]
  rw [← flatF_zero]
  exact ev_call (filled_impl_zero_1_ret p R C (fun _ _ => 0) (by omega) (by omega) (by omega) fun i j _ _ => zero_1_ret i j) ev_rfl

theorem firstColumn_ret (c : List Sim) (p : Int) (st : Sim) (ms : List Mat) (s : Nat) (hs : s < c.length) (hc : Sm (.sl (.sl (.int .i64))) c) (hl : st.length = c.length) (hst : ∀ x ∈ st,0 ≤ x ∧ x ≤ 3) :
    Ret E n_impl_firstColumn [dLL c,dI p,dL st,dMs ms,dI (s : Int)] ⟨o_impl_firstColumn,(FC c st s,())⟩ := by
  have hc1 : c.length ≤ 1048576 := hc.1
  have hls : (c[s]).length ≤ 1048576 := (sm_get hc hs).1
  have e : w64 (((c[s]).length : Int) - 1) = ((c[s]).length : Int) - 1 := w64_small (by omega) (by omega)
  obtain ⟨tl,hpre⟩ := ofDim_pre (c := c) (d := ((c[s]).length : Int) - 1) hs (by rw [getD_lt hs]; omega)
  have hF : FC c st s = SDn c st (((c[s]).length : Int) - 1) s := by rw [FC,getD_lt hs]
  refine ret_of ?_
  simp only [run_impl_firstColumn,impl_firstColumn.ev]
  refine ev_bind (idx_lt hs) (ev_call (sizeI_ret _) ?_)
  simp only [e]
  refine ev_call (simplicesOf_ret c (((c[s]).length : Int) - 1) hc ⟨by omega,by omega⟩) ?_
  rw [hF]
  generalize ((c[s]).length : Int) - 1 = d at hpre ⊢
  have hol := ofDim_length c d c.length
  have hlen : (ofDim c d s).length < (ofDim c d c.length).length := by rw [hpre]; simp
  refine Ev.start (p := fun φ n => impl_firstColumn.l0 (mkR (run E (φ 0))) (φ 0) n (s : Int) 0 (ofDim c d c.length) ((ofDim c d c.length).length : Int) 0 c p st ms = _) 1 ?_ (fun _ _ _ h => h)
  refine loopR 1 (σ := Nat) (L := fun φ n t => impl_firstColumn.l0 (mkR (run E (φ 0))) (φ 0) n (s : Int) (sumD c st d t) (ofDim c d c.length) ((ofDim c d c.length).length : Int) (t : Int) c p st ms) (fun _ _ _ _ => rfl) (fun t => t ≤ (ofDim c d s).length) (fun _ => _) (fun t => (ofDim c d s).length - t) (fun t ht ih => ?_) 0 (Nat.zero_le _)
  have ht : t ≤ (ofDim c d s).length := ht
  have htl : t < (ofDim c d c.length).length := by omega
  simp only [impl_firstColumn.l0_succ _ mk_ok]
  refine ev_t (decide_eq_true (by omega)) ?_
  by_cases h : t = (ofDim c d s).length
  · have hg : (ofDim c d c.length)[t]? = some (s : Int) := by rw [hpre,h,List.getElem?_append_right (Nat.le_refl _),Nat.sub_self]; rfl
    refine ev_bind (idx_nat.trans hg) (ev_t (by simp) (ev_some ?_))
    have : sumD c st d t = SDn c st d s := by
      unfold sumD SDn
      rw [hpre,h,List.take_left' rfl]
    rw [this]
  · have hp : t < (ofDim c d s).length := by omega
    obtain ⟨i,hi,his⟩ := ofDim_mem (List.getElem_mem hp)
    have hg : (ofDim c d c.length)[t]? = some (i : Int) := by rw [hpre,List.getElem?_append_left hp,List.getElem?_eq_getElem hp,hi]
    have hgi : (ofDim c d c.length)[t] = (i : Int) := by rw [List.getElem?_eq_getElem htl] at hg; exact Option.some.inj hg
    have hil : i < st.length := by omega
    have := ih (t + 1) (by show t + 1 ≤ _; omega) (by show (ofDim c d s).length - (t + 1) < (ofDim c d s).length - t; omega)
    rw [sumD_succ _ _ _ _ htl,hgi,Int.toNat_natCast,getD_lt hil] at this
    have hb := sumD_le hst d t (c := c)
    have hb2 := hst _ (List.getElem_mem hil)
    refine ev_bind (idx_nat.trans hg) (ev_f (by simp; omega) (ev_bind (idx_lt hil) ?_))
    rw [w64_succ (by omega),w64_small (by omega) (by omega)]
    exact this

theorem alternating_ret (p : Int) (i : Nat) (hp : 2 ≤ p ∧ p ≤ 251) : Ret E n_impl_alternating [dI (i : Int),dI p] ⟨o_impl_alternating,(sgn p i,())⟩ := by
  refine ret_of ?_
  simp only [run_impl_alternating,impl_alternating.ev]
  rw [Int.tmod_eq_emod_of_nonneg (by omega),w64_small (by omega) (by omega)]
  refine ev_b (fun h => ev_some ?_) fun h => ev_some ?_
  · have h : (i : Int) % 2 = 0 := by simpa using h
    rw [sgn,if_pos (by omega)]
  · have h : ¬ (i : Int) % 2 = 0 := by simpa using h
    rw [sgn,if_neg (by omega)]

theorem stJ_succ {p : Int} {m : Mat} {W top left : Nat} {sg : Int} {i n : Nat} {cs : Sim} : upds (stJ p m W top left sg i (n + 1)) cs = (upds (stJ p m W top left sg i n) cs).set ((top + i) * W + left + n) (m.2.2.2.1.getD (i * m.2.2.1.toNat + n) 0 * sg % p) := by
  unfold stJ
  rw [List.range_succ,List.map_append,upds_append]; rfl

theorem stI_succ {p : Int} {m : Mat} {W top left : Nat} {sg : Int} {n : Nat} {cs : Sim} : upds (stI p m W top left sg (n + 1)) cs = upds (stJ p m W top left sg n m.2.2.1.toNat) (upds (stI p m W top left sg n) cs) := by
  unfold stI
  rw [List.range_succ,List.flatMap_append,upds_append,List.flatMap_singleton]

theorem stF_succ {c : List Sim} {p : Int} {st : Sim} {ms : List Mat} {k : Int} {s n : Nat} {cs : Sim} : upds (stF c p st ms k s (n + 1)) cs = upds (stI p (mp c ms s n) (SD c st k).toNat (FC c st s).toNat (FC c st (fc c s n)).toNat (sgn p n) (mp c ms s n).2.1.toNat) (upds (stF c p st ms k s n) cs) := by
  unfold stF
  rw [List.range_succ,List.flatMap_append,upds_append,List.flatMap_singleton]

theorem stS_succ {c : List Sim} {p : Int} {st : Sim} {ms : List Mat} {k : Int} {n : Nat} {cs : Sim} (hn : n < (ofDim c (k + 1) c.length).length) {s : Nat} (hs : (ofDim c (k + 1) c.length)[n] = (s : Int)) : upds (stS c p st ms k (n + 1)) cs = upds (stF c p st ms k s (fIdx c s).length) (upds (stS c p st ms k n) cs) := by
  unfold stS
  rw [List.take_succ_eq_append_getElem hn,List.flatMap_append,upds_append,List.flatMap_singleton,hs,Int.toNat_natCast]

end VeT

open Go Go.Proofs Ve
set_option linter.unusedVariables false
set_option linter.unusedSimpArgs false
namespace VeT

/-- what the stores of a simplex' face need -/
structure CobF (c : List Sim) (p : Int) (st : Sim) (ms : List Mat) (k : Int) (s a T L R C H W : Nat) : Prop where
  sl : s < c.length
  al : a < (fIdx c s).length
  eT : FC c st s = (T : Int)
  eL : FC c st (fc c s a) = (L : Int)
  eR : (mp c ms s a).2.1 = (R : Int)
  eC : (mp c ms s a).2.2.1 = (C : Int)
  eW : SD c st k = (W : Int)
  hT : T + R ≤ H
  hL : L + C ≤ W
  hH : H ≤ 32
  hW : W ≤ 32
  len : (mp c ms s a).2.2.2.1.length = R * C
  el : Elems (mp c ms s a).2.2.2.1 p
  hp : 2 ≤ p ∧ p ≤ 251
  hR : R ≤ 32
  hC : C ≤ 32
  h4 : a ≤ 4

theorem cobF_of {c : List Sim} {p : Int} {st : Sim} {ms : List Mat} (h : VS c p st ms) {k : Int} {s a H W : Nat} (hs : s < c.length) (hd : ((c.getD s []).length : Int) = k + 2) (ha : a < (fIdx c s).length) (eH : SD c st (k + 1) = (H : Int)) (eW : SD c st k = (W : Int)) (hH : H ≤ 32) (hW : W ≤ 32) :
    ∃ T L R C : Nat,CobF c p st ms k s a T L R C H W := by
  obtain ⟨g1,g2,g3,g4,g5,g6,g7⟩ := cob_geo h hs hd ha
  obtain ⟨_,hb⟩ := h.map hs ha
  obtain ⟨R,C,em,hR,hC,hlen⟩ := hb.1.nat
  have e1 : (mp c ms s a).2.1 = (R : Int) := congrArg (fun m : Mat => m.2.1) em
  have e2 : (mp c ms s a).2.2.1 = (C : Int) := congrArg (fun m : Mat => m.2.2.1) em
  have hp : 2 ≤ p ∧ p ≤ 251 := ⟨h.2.1.1,h.2.1.2.1⟩
  have el := hb.1.2.2.2.2
  rw [hb.2.1] at el
  have h4 := h.1.fIdx4 hs
  exact ⟨(FC c st s).toNat,(FC c st (fc c s a)).toNat,R,C,hs,ha,by omega,by omega,e1,e2,eW,by omega,by omega,hH,hW,hlen,el,hp,hR,hC,by omega⟩

theorem pos_eq {T L i j W H : Nat} (h1 : T + i < H) (h2 : L + j < W) (hH : H ≤ 32) (hW : W ≤ 32) : w64 (w64 (w64 (w64 ((T : Int) + (i : Int)) * (W : Int)) + (L : Int)) + (j : Int)) = (((T + i) * W + L + j : Nat) : Int) ∧ (T + i) * W + L + j < H * W := by
  have hlt := lt_rc h1 h2
  have := rc_le hH hW
  have e1 : w64 ((T : Int) + (i : Int)) = ((T + i : Nat) : Int) := by rw [w64_small (by omega) (by omega)]; omega
  have e2 : w64 (((T + i : Nat) : Int) * (W : Int)) = (((T + i) * W : Nat) : Int) := by rw [cast_mul]; exact w64_small (by omega) (by omega)
  have e3 : w64 ((((T + i) * W : Nat) : Int) + (L : Int)) = (((T + i) * W + L : Nat) : Int) := by rw [w64_small (by omega) (by omega)]; omega
  have e4 : w64 ((((T + i) * W + L : Nat) : Int) + (j : Int)) = (((T + i) * W + L + j : Nat) : Int) := by rw [w64_small (by omega) (by omega)]; omega
  rw [e1,e2,e3,e4]
  exact ⟨rfl,by omega⟩

theorem val_eq {x y p : Int} (hx : 0 ≤ x ∧ x ≤ 250) (hy : 0 ≤ y ∧ y ≤ 250) (hp : 2 ≤ p ∧ p ≤ 251) : Int.tmod (w64 (x * y)) p = x * y % p := by
  have := mul_in hx hy
  rw [w64_small (by omega) (by omega),Int.tmod_eq_emod_of_nonneg (by omega)]

theorem coboundaryMatrix_ret (c : List Sim) (p : Int) (st : Sim) (ms : List Mat) (k : Int) (hk : -1 ≤ k ∧ k ≤ 3) (hc : Sm (.sl (.sl (.int .i64))) c) (h : VS c p st ms) :
    Ret E n_impl_coboundaryMatrix [dLL c,dI p,dL st,dMs ms,dI k] ⟨o_impl_coboundaryMatrix,cobM c p st ms k⟩ := by
  obtain ⟨H,eH,bH,tH⟩ := SD_nat h (k + 1)
  obtain ⟨W,eW,bW,tW⟩ := SD_nat h k
  have hst := h.2.2.1.2.1
  have hl := h.2.2.1.1
  have h48 := h.1.1
  have ek : w64 (k + 1) = k + 1 := w64_small (by omega) (by omega)
  have hHW := rc_le bH bW
  have s1 := stalkSum_ret c st (k + 1) p ms hc hl hst (by omega)
  have s2 := stalkSum_ret c st k p ms hc hl hst (by omega)
  rw [show sumD c st (k + 1) (ofDim c (k + 1) c.length).length = (H : Int) from eH] at s1
  rw [show sumD c st k (ofDim c k c.length).length = (W : Int) from eW] at s2
  have z := zero_ret p H W bH bW
  have hM : cobM c p st ms k = (p,(H : Int),(W : Int),cobC c p st ms k,()) := by rw [cobM,eH,eW]
  rw [hM]
  refine ret_of ?_
  simp only [run_impl_coboundaryMatrix,impl_coboundaryMatrix.ev,ek]
  suffices hmain : Ev fun φ => impl_coboundaryMatrix.j0 (mkR (run E (φ 0))) (φ 0) k c p st ms 0 0 0 p (H : Int) (W : Int) (List.replicate (H * W) 0) = some ⟨o_impl_coboundaryMatrix,(p,(H : Int),(W : Int),cobC c p st ms k,())⟩ by
    exact ev_both (ev_call s1 (ev_both (ev_call s2 (ev_both (ev_call z hmain) (ev_call z hmain))) (ev_call s2 (ev_call z hmain)))) (ev_call s1 (ev_call s2 (ev_call z hmain)))
  simp only [impl_coboundaryMatrix.j0_eq _ mk_ok,ek]
  refine ev_call (simplicesOf_ret c (k + 1) hc (by omega)) ?_
  have hol := ofDim_length c (k + 1) c.length
  by_cases hk0 : k < 0
  · have e0 : cobC c p st ms k = List.replicate (H * W) 0 := by rw [cobC,if_pos hk0,tH,tW]
    rw [e0]
    refine Ev.start (p := fun φ n => impl_coboundaryMatrix.l1 (mkR (run E (φ 0))) (φ 0) n k (ofDim c (k + 1) c.length) ((ofDim c (k + 1) c.length).length : Int) 0 c p st ms 0 0 0 p (H : Int) (W : Int) (List.replicate (H * W) 0) = _) 1 ?_ (fun _ _ _ h => h)
    refine Ev.round 1 (L := fun φ n => impl_coboundaryMatrix.l1 (mkR (run E (φ 0))) (φ 0) n k (ofDim c (k + 1) c.length) ((ofDim c (k + 1) c.length).length : Int) 0 c p st ms 0 0 0 p (H : Int) (W : Int) (List.replicate (H * W) 0)) ?_ (fun _ _ _ => rfl)
    simp only [impl_coboundaryMatrix.l1_succ _ mk_ok,impl_coboundaryMatrix.j2_eq _ mk_ok]
    refine ev_d (fun hlt => ?_) fun _ => ev_rfl
    have hlt : 0 < (ofDim c (k + 1) c.length).length := by omega
    exact ev_bind (idx_lt (k := 0) hlt) (ev_t (decide_eq_true hk0) ev_rfl)
  have e0 : cobC c p st ms k = upds (stS c p st ms k (ofDim c (k + 1) c.length).length) (List.replicate (H * W) 0) := by rw [cobC,if_neg hk0,tH,tW]
  rw [e0]
  -- one row of a face' stores
  have r5 : ∀ (s a T L R C i : Nat) (F : CobF c p st ms k s a T L R C H W) (t : Nat) (ls : Sim) (n1 : Int) (fs : Sim) (n2 : Int) (cs : Sim) (hcs : cs.length = H * W) (hi : i < R) (r : Option Dv),
      (Ev fun φ => impl_coboundaryMatrix.l4 (mkR (run E (φ 0))) (φ 0) (φ 1) (φ 2) (φ 3) k (s : Int) (a : Int) (T : Int) (L : Int) ls n1 (t : Int) fs n2 (a : Int) (R : Int) ((i + 1 : Nat) : Int) c p st ms 0 0 0 p (H : Int) (W : Int) (mp c ms s a).1 (R : Int) (C : Int) (mp c ms s a).2.2.2.1 (upds (stJ p (mp c ms s a) W T L (sgn p a) i C) cs) = r) →
      Ev fun φ => impl_coboundaryMatrix.l5 (mkR (run E (φ 0))) (φ 0) (φ 1) (φ 2) (φ 3) (φ 0) k (s : Int) (a : Int) (T : Int) (L : Int) (i : Int) ls n1 (t : Int) fs n2 (a : Int) (R : Int) (i : Int) (C : Int) 0 c p st ms 0 0 0 p (H : Int) (W : Int) (mp c ms s a).1 (R : Int) (C : Int) (mp c ms s a).2.2.2.1 cs = r := by
    intro s a T L R C i F t ls n1 fs n2 cs hcs hi r hr
    refine Ev.start (p := fun φ n => impl_coboundaryMatrix.l5 (mkR (run E (φ 0))) (φ 0) (φ 1) (φ 2) (φ 3) n k (s : Int) (a : Int) (T : Int) (L : Int) (i : Int) ls n1 (t : Int) fs n2 (a : Int) (R : Int) (i : Int) (C : Int) 0 c p st ms 0 0 0 p (H : Int) (W : Int) (mp c ms s a).1 (R : Int) (C : Int) (mp c ms s a).2.2.2.1 cs = _) 4 ?_ (fun _ _ _ h => h)
    refine fold_loop 4 (L := fun φ n j o => impl_coboundaryMatrix.l5 (mkR (run E (φ 0))) (φ 0) (φ 1) (φ 2) (φ 3) n k (s : Int) (a : Int) (T : Int) (L : Int) (i : Int) ls n1 (t : Int) fs n2 (a : Int) (R : Int) (i : Int) (C : Int) j c p st ms 0 0 0 p (H : Int) (W : Int) (mp c ms s a).1 (R : Int) (C : Int) (mp c ms s a).2.2.2.1 o) (len := C) (fun j => upds (stJ p (mp c ms s a) W T L (sgn p a) i j) cs) (fun _ _ _ _ _ => rfl) (fun j q hj ih => ?_) ?_
    · simp only [impl_coboundaryMatrix.l5_succ _ mk_ok]
      have hT := F.hT
      have hL := F.hL
      have hp := F.hp
      obtain ⟨ep,hpos⟩ := pos_eq (T := T) (L := L) (i := i) (j := j) (W := W) (H := H) (by omega) (by omega) bH bW
      have hij : i * C + j < (mp c ms s a).2.2.2.1.length := by rw [F.len]; exact lt_rc hi hj
      have hRC := rc_le F.hR F.hC
      have hx := F.el.get hp (i * C + j)
      have hy := sgn_in hp a
      rw [stJ_succ,F.eC,Int.toNat_natCast,getD_lt hij] at ih
      rw [getD_lt hij] at hx
      have hol' : (upds (stJ p (mp c ms s a) W T L (sgn p a) i j) cs).length = H * W := by rw [upds_length,hcs]
      have ev := val_eq hx (show 0 ≤ sgn p a ∧ sgn p a ≤ 250 by omega) hp
      refine ev_t (decide_eq_true (by omega)) (ev_call (Mat_at_ret _ _ C _ i j hij (by rw [F.len]; omega)) (ev_call (alternating_ret p a hp) (ev_chk (by simp; omega) ?_)))
      simp only [ep,ev,hol',Int.toNat_natCast]
      refine ev_chk (by simp only [Bool.and_eq_true,decide_eq_true_eq]; omega) ?_
      rw [w64_succ (by omega)]
      exact ih
    · simp only [impl_coboundaryMatrix.l5_succ _ mk_ok]
      have := F.hR
      refine ev_f (decide_eq_false (by omega)) ?_
      rw [w64_succ (by omega)]
      exact hr
  -- a face' stores
  have r4 : ∀ (s a T L R C : Nat) (F : CobF c p st ms k s a T L R C H W) (t : Nat) (ls : Sim) (n1 : Int) (fs : Sim) (n2 : Int) (cs : Sim) (hcs : cs.length = H * W) (r : Option Dv),
      (Ev fun φ => impl_coboundaryMatrix.l3 (mkR (run E (φ 0))) (φ 0) (φ 1) (φ 2) k (s : Int) ls n1 (t : Int) fs n2 ((a + 1 : Nat) : Int) c p st ms 0 0 0 p (H : Int) (W : Int) (upds (stI p (mp c ms s a) W T L (sgn p a) R) cs) = r) →
      Ev fun φ => impl_coboundaryMatrix.l4 (mkR (run E (φ 0))) (φ 0) (φ 1) (φ 2) (φ 0) k (s : Int) (a : Int) (T : Int) (L : Int) ls n1 (t : Int) fs n2 (a : Int) (R : Int) 0 c p st ms 0 0 0 p (H : Int) (W : Int) (mp c ms s a).1 (R : Int) (C : Int) (mp c ms s a).2.2.2.1 cs = r := by
    intro s a T L R C F t ls n1 fs n2 cs hcs r hr
    refine Ev.start (p := fun φ n => impl_coboundaryMatrix.l4 (mkR (run E (φ 0))) (φ 0) (φ 1) (φ 2) n k (s : Int) (a : Int) (T : Int) (L : Int) ls n1 (t : Int) fs n2 (a : Int) (R : Int) 0 c p st ms 0 0 0 p (H : Int) (W : Int) (mp c ms s a).1 (R : Int) (C : Int) (mp c ms s a).2.2.2.1 cs = _) 3 ?_ (fun _ _ _ h => h)
    refine fold_loop 3 (L := fun φ n i o => impl_coboundaryMatrix.l4 (mkR (run E (φ 0))) (φ 0) (φ 1) (φ 2) n k (s : Int) (a : Int) (T : Int) (L : Int) ls n1 (t : Int) fs n2 (a : Int) (R : Int) i c p st ms 0 0 0 p (H : Int) (W : Int) (mp c ms s a).1 (R : Int) (C : Int) (mp c ms s a).2.2.2.1 o) (len := R) (fun i => upds (stI p (mp c ms s a) W T L (sgn p a) i) cs) (fun _ _ _ _ _ => rfl) (fun i q hi ih => ?_) ?_
    · simp only [impl_coboundaryMatrix.l4_succ _ mk_ok]
      rw [stI_succ,F.eC,Int.toNat_natCast] at ih
      exact ev_t (decide_eq_true (by omega)) (r5 s a T L R C i F t ls n1 fs n2 _ (by rw [upds_length,hcs]) hi q ih)
    · simp only [impl_coboundaryMatrix.l4_succ _ mk_ok]
      have := F.h4
      refine ev_f (decide_eq_false (by omega)) ?_
      rw [w64_succ (by omega)]
      exact hr
  refine Ev.start (p := fun φ n => impl_coboundaryMatrix.l1 (mkR (run E (φ 0))) (φ 0) n k (ofDim c (k + 1) c.length) ((ofDim c (k + 1) c.length).length : Int) 0 c p st ms 0 0 0 p (H : Int) (W : Int) (List.replicate (H * W) 0) = _) 1 ?_ (fun _ _ _ h => h)
  refine fold_loop 1 (L := fun φ n t o => impl_coboundaryMatrix.l1 (mkR (run E (φ 0))) (φ 0) n k (ofDim c (k + 1) c.length) ((ofDim c (k + 1) c.length).length : Int) t c p st ms 0 0 0 p (H : Int) (W : Int) o) (len := (ofDim c (k + 1) c.length).length) (fun t => upds (stS c p st ms k t) (List.replicate (H * W) 0)) (fun _ _ _ _ _ => rfl) (fun t q ht ih => ?_) ?_
  · simp only [impl_coboundaryMatrix.l1_succ _ mk_ok]
    obtain ⟨s,hse,hs,hd⟩ := ofDim_iff.1 (List.getElem_mem ht)
    rw [stS_succ ht hse] at ih
    have hg : (ofDim c (k + 1) c.length)[t]? = some (s : Int) := by rw [List.getElem?_eq_getElem ht,hse]
    have hf4 := h.1.fIdx4 hs
    generalize hO : upds (stS c p st ms k t) (List.replicate (H * W) 0) = O at ih ⊢
    have hOl : O.length = H * W := by rw [← hO,upds_length,List.length_replicate]
    refine ev_t (decide_eq_true (by omega)) (ev_bind (idx_nat.trans hg) (ev_f (decide_eq_false hk0) (ev_call (faceIndices_ret c s hs hc h.1.srt) ?_)))
    refine Ev.start (p := fun φ n => impl_coboundaryMatrix.l3 (mkR (run E (φ 0))) (φ 0) (φ 1) n k (s : Int) (ofDim c (k + 1) c.length) ((ofDim c (k + 1) c.length).length : Int) (t : Int) (fIdx c s) ((fIdx c s).length : Int) 0 c p st ms 0 0 0 p (H : Int) (W : Int) O = _) 2 ?_ (fun _ _ _ h => h)
    refine fold_loop 2 (L := fun φ n a o => impl_coboundaryMatrix.l3 (mkR (run E (φ 0))) (φ 0) (φ 1) n k (s : Int) (ofDim c (k + 1) c.length) ((ofDim c (k + 1) c.length).length : Int) (t : Int) (fIdx c s) ((fIdx c s).length : Int) a c p st ms 0 0 0 p (H : Int) (W : Int) o) (len := (fIdx c s).length) (fun a => upds (stF c p st ms k s a) O) (fun _ _ _ _ _ => rfl) (fun a q2 ha ih2 => ?_) ?_
    · simp only [impl_coboundaryMatrix.l3_succ _ mk_ok]
      obtain ⟨T,L,R,C,F⟩ := cobF_of h hs (by omega) ha eH eW bH bW
      obtain ⟨ix,hfc,_⟩ := fc_get h.1 hs ha
      have f1 := firstColumn_ret c p st ms s hs hc hl hst
      have f2 := firstColumn_ret c p st ms (fc c s a) hfc hc hl hst
      rw [F.eT] at f1
      rw [F.eL] at f2
      rw [stF_succ,tW,F.eT,F.eL,F.eR,Int.toNat_natCast,Int.toNat_natCast,Int.toNat_natCast] at ih2
      refine ev_t (decide_eq_true (by omega)) (ev_bind ix (ev_call (direct_ret c p st ms s a hs ha h) (ev_call f1 (ev_call f2 ?_))))
      simp only [F.eR,F.eC]
      exact r4 s a T L R C F t _ _ _ _ _ (by rw [upds_length,hOl]) q2 ih2
    · simp only [impl_coboundaryMatrix.l3_succ _ mk_ok]
      refine ev_f (decide_eq_false (by omega)) ?_
      rw [w64_succ (by omega)]
      exact ih
  · simp only [impl_coboundaryMatrix.l1_succ _ mk_ok,impl_coboundaryMatrix.j2_eq _ mk_ok]
    exact ev_f (decide_eq_false (by omega)) ev_rfl

end VeT

open Go Go.Proofs Ve
set_option linter.unusedVariables false
set_option linter.unusedSimpArgs false
namespace VeT

end VeT

open Go Go.Proofs Ve
set_option linter.unusedVariables false
set_option linter.unusedSimpArgs false
namespace VeT

/-! powers -/
theorem mul_congr {p x x' y y' : Int} (h1 : x % p = x' % p) (h2 : y % p = y' % p) : x * y % p = x' * y' % p := by
  rw [Int.mul_emod x,h1,h2,← Int.mul_emod]

theorem pow_congr {p x x' : Int} (h : x % p = x' % p) : ∀ n : Nat,x ^ n % p = x' ^ n % p
  | 0 => by rw [Int.pow_zero,Int.pow_zero]
  | n + 1 => by rw [Int.pow_succ,Int.pow_succ]; exact mul_congr (pow_congr h n) h

/-- the inverse of a number -/
def invF (a p : Int) : Int := a ^ (p - 2).toNat % p

theorem invF_in {a p : Int} (hp : 2 ≤ p) : 0 ≤ invF a p ∧ invF a p ≤ p - 1 := by
  have h0 := Int.emod_nonneg (a ^ (p - 2).toNat) (show p ≠ 0 by omega)
  have h1 := Int.emod_lt_of_pos (a ^ (p - 2).toNat) (show 0 < p by omega)
  unfold invF; omega

/-! elimination -/
abbrev Ent := Nat → Nat → Int

def elSw (top q : Nat) (A : Ent) : Ent := fun i => if i = top then A q else if i = q then A top else A i
def elN (p : Int) (c top : Nat) (B : Ent) : Nat → Int := fun j => B top j * invF (B top c) p % p
def elM (p : Int) (c top : Nat) (B : Ent) : Ent := fun i j => if i = top then elN p c top B j else B i j
def elF (p : Int) (c top : Nat) (B : Ent) : Ent := fun i j => if i = top then elN p c top B j else if B i c ≠ 0 then (B i j + (p - B i c) * elN p c top B j) % p else B i j

noncomputable def elP (p : Int) (R c : Nat) (S : Ent × List Nat) : Ent × List Nat :=
  match firstN (fun i => S.1 i c ≠ 0) S.2.length (R - S.2.length) with
  | none => S
  | some q => (elF p c S.2.length (elSw S.2.length q S.1),S.2 ++ [c])

noncomputable def elS (p : Int) (R : Nat) (A : Ent) : Nat → Ent × List Nat
  | 0 => (A,[])
  | c + 1 => elP p R c (elS p R A c)

def EIn (p : Int) (R W : Nat) (A : Ent) : Prop := ∀ i j,i < R → j < W → 0 ≤ A i j ∧ A i j ≤ p - 1

theorem EIn.sw {p : Int} {R W top q : Nat} {A : Ent} (h : EIn p R W A) (ht : top < R) (hq : q < R) : EIn p R W (elSw top q A) := fun i j hi hj => by
  unfold elSw; split
  · exact h q j hq hj
  · split
    · exact h top j ht hj
    · exact h i j hi hj

theorem emod_in {p x : Int} (hp : 2 ≤ p) : 0 ≤ x % p ∧ x % p ≤ p - 1 := by
  have h0 := Int.emod_nonneg x (show p ≠ 0 by omega)
  have h1 := Int.emod_lt_of_pos x (show 0 < p by omega)
  omega

theorem EIn.f {p : Int} {R W c top : Nat} {B : Ent} (h : EIn p R W B) (hp : 2 ≤ p) : EIn p R W (elF p c top B) := fun i j hi hj => by
  unfold elF; split
  · exact emod_in hp
  · split
    · exact emod_in hp
    · exact h i j hi hj

theorem elS_in {p : Int} {R W : Nat} {A : Ent} (hp : 2 ≤ p) (h : EIn p R W A) : ∀ c,EIn p R W (elS p R A c).1 ∧ (elS p R A c).2.length ≤ R ∧ (elS p R A c).2.length ≤ c ∧ ∀ x ∈ (elS p R A c).2,x < c
  | 0 => ⟨h,Nat.zero_le _,Nat.zero_le _,fun x hx => by simp [elS] at hx⟩
  | c + 1 => by
    obtain ⟨h1,h2,h3,h4⟩ := elS_in hp h c
    rw [elS,elP]
    cases hf : firstN (fun i => (elS p R A c).1 i c ≠ 0) (elS p R A c).2.length (R - (elS p R A c).2.length) with
    | none => exact ⟨h1,h2,by show (elS p R A c).2.length ≤ c + 1; omega,fun x hx => by have := h4 x hx; omega⟩
    | some q =>
      have hq := firstN_some hf
      refine ⟨(h1.sw (by omega) (by omega)).f hp,?_,?_,fun x hx => ?_⟩
      · simp only [List.length_append,List.length_singleton]; omega
      · simp only [List.length_append,List.length_singleton]; omega
      · rcases List.mem_append.1 hx with hx | hx
        · have := h4 x hx; omega
        · rw [List.mem_singleton] at hx; omega

/-! rows -/
def rowsE (A : Ent) (R W : Nat) : List Sim := (List.range R).map fun i => (List.range W).map (A i)

theorem rowsE_length {A : Ent} {R W : Nat} : (rowsE A R W).length = R := by simp [rowsE]

theorem rowsE_get {A : Ent} {R W i : Nat} (hi : i < R) : (rowsE A R W)[i]? = some ((List.range W).map (A i)) := by
  unfold rowsE; rw [List.getElem?_map,List.getElem?_range hi]; rfl

theorem rowsE_congr {A B : Ent} {R W : Nat} (h : ∀ i j,i < R → j < W → A i j = B i j) : rowsE A R W = rowsE B R W :=
  List.map_congr_left fun i hi => List.map_congr_left fun j hj => h i j (List.mem_range.1 hi) (List.mem_range.1 hj)

theorem rowsE_set {A : Ent} {R W i : Nat} {f : Nat → Int} : (rowsE A R W).set i ((List.range W).map f) = rowsE (fun k j => if k = i then f j else A k j) R W := by
  apply List.ext_getElem?
  intro k
  by_cases hk : k < R
  · rw [rowsE_get hk]
    by_cases hik : k = i
    · subst hik
      rw [List.getElem?_set_self (by rw [rowsE_length]; exact hk)]
      simp
    · rw [List.getElem?_set_ne (Ne.symm hik),rowsE_get hk]
      simp [hik]
  · rw [List.getElem?_eq_none (by rw [List.length_set,rowsE_length]; omega),List.getElem?_eq_none (by rw [rowsE_length]; omega)]

theorem row_get {f : Nat → Int} {W j : Nat} (hj : j < W) : ((List.range W).map f)[j]? = some (f j) := by
  rw [List.getElem?_map,List.getElem?_range hj]; rfl

theorem flatF_set {A : Ent} {R W i j : Nat} {v : Int} (hi : i < R) (hj : j < W) : (flatF A W R).set (i * W + j) v = flatF (fun k l => if k = i ∧ l = j then v else A k l) W R := by
  apply List.ext_getElem?
  intro n
  by_cases hn : n < R * W
  · have hW : 0 < W := by omega
    have e : n = n / W * W + n % W := by have := Nat.div_add_mod n W; rw [Nat.mul_comm] at this; omega
    have h1 : n / W < R := Nat.div_lt_of_lt_mul (by rw [Nat.mul_comm]; exact hn)
    have h2 : n % W < W := Nat.mod_lt _ hW
    generalize n / W = a at e h1
    generalize n % W = b at e h2
    subst e
    rw [flatF_getD h1 h2]
    by_cases hab : a = i ∧ b = j
    · obtain ⟨rfl,rfl⟩ := hab
      rw [List.getElem?_set_self (by rw [flatF_length]; exact hn)]
      simp
    · rw [List.getElem?_set_ne,flatF_getD h1 h2,if_neg hab]
      intro e
      have hbW : b < W := h2
      have : a = i ∧ b = j := by
        have h3 : (i * W + j) / W = i := by rw [Nat.mul_comm,Nat.mul_add_div (by omega),Nat.div_eq_of_lt hj,Nat.add_zero]
        have h4 : (a * W + b) / W = a := by rw [Nat.mul_comm,Nat.mul_add_div (by omega),Nat.div_eq_of_lt hbW,Nat.add_zero]
        have : a = i := by rw [← h3,← h4,e]
        subst this
        exact ⟨rfl,by omega⟩
      exact hab this
  · rw [List.getElem?_eq_none (by rw [List.length_set,flatF_length]; omega),List.getElem?_eq_none (by rw [flatF_length]; omega)]

theorem flatF_flatten {A : Ent} {W : Nat} : ∀ {R : Nat},(rowsE A R W).flatten = flatF A W R
  | 0 => by simp [rowsE,flatF]
  | R + 1 => by
    have := flatF_flatten (A := A) (W := W) (R := R)
    unfold rowsE at this ⊢
    rw [List.range_succ,List.map_append,List.flatten_append,this,flatF]
    simp

/-- a matrix' entries -/
def entM (cells : Sim) (W : Nat) : Ent := fun i j => cells.getD (i * W + j) 0

theorem entM_flat {cells : Sim} {R W : Nat} (h : cells.length = R * W) : flatF (entM cells W) W R = cells := by
  refine List.ext_getElem (by rw [flatF_length,h]) fun n h1 h2 => ?_
  rw [flatF_length] at h1
  have hW : 0 < W := by
    cases W with
    | zero => simp at h1
    | succ W => omega
  have e : n = n / W * W + n % W := by have := Nat.div_add_mod n W; rw [Nat.mul_comm] at this; omega
  have h3 : n / W < R := Nat.div_lt_of_lt_mul (by rw [Nat.mul_comm]; exact h1)
  have h4 : n % W < W := Nat.mod_lt _ hW
  have hg := flatF_getD (f := entM cells W) h3 h4
  rw [← e,List.getElem?_eq_getElem (by rw [flatF_length]; exact h1)] at hg
  rw [Option.some.inj hg]
  unfold entM
  rw [← e,getD_lt h2]

theorem entM_in {p : Int} {cells : Sim} {R W : Nat} (h : Elems cells p) (hl : cells.length = R * W) : EIn p R W (entM cells W) := fun i j hi hj => by
  unfold entM
  have := lt_rc hi hj
  rw [getD_lt (by omega)]
  exact h _ (List.getElem_mem _)

end VeT

open Go Go.Proofs Ve
set_option linter.unusedVariables false
set_option linter.unusedSimpArgs false
namespace VeT

/-! marks: what the laws write over arguments and results -/
def mkL (k : Int) (n : Nat) : Sim := (List.range n).map fun (i : Nat) => k + (i : Int)

theorem mkL_length {k : Int} {n : Nat} : (mkL k n).length = n := by simp [mkL]

theorem mkL_get {k : Int} {n i : Nat} (h : i < (mkL k n).length) : (mkL k n)[i] = k + i := by simp [mkL]

theorem markInt64S_ret (s : Sim) (k : Int) (hk : 0 ≤ k ∧ k ≤ 4611686018427387904) (hs : s.length ≤ 1048576) : Ret E n_laws_markInt64S [dL s,dI k] ⟨o_laws_markInt64S,(k + s.length,mkL k s.length,())⟩ := by
  refine ret_of ?_
  simp only [run_laws_markInt64S,laws_markInt64S.ev]
  refine Ev.start (p := fun φ n => laws_markInt64S.l0 (mkR (run E (φ 0))) (φ 0) n k 0 s = _) 1 ?_ (fun _ _ _ h => h)
  have hl : ∀ j,j ≤ s.length → (mkL k j ++ s.drop j).length = s.length := fun j hj => by rw [List.length_append,mkL_length,List.length_drop]; omega
  have := fold_loop 1 (L := fun φ n j (a : Int × Sim) => laws_markInt64S.l0 (mkR (run E (φ 0))) (φ 0) n a.1 j a.2) (len := s.length) (fun j => (k + (j : Int),mkL k j ++ s.drop j)) (r := some ⟨o_laws_markInt64S,(k + s.length,mkL k s.length,())⟩) (fun _ _ _ _ _ => rfl) (fun j r hj ih => ?_) ?_
  · simpa [mkL] using this
  · simp only [laws_markInt64S.l0_succ _ mk_ok,hl j (by omega)]
    refine ev_t (decide_eq_true (by omega)) (ev_chk (by simp; omega) ?_)
    rw [w64_succ (by omega),w64_small (by omega) (by omega),Int.toNat_natCast]
    have e : (mkL k j ++ s.drop j).set j (k + j) = mkL k (j + 1) ++ s.drop (j + 1) := by
      rw [List.drop_eq_getElem_cons hj,List.set_append_right _ _ (by rw [mkL_length]; omega),mkL_length,Nat.sub_self,List.set_cons_zero]
      unfold mkL
      rw [List.range_succ,List.map_append,List.append_assoc]; rfl
    rw [e,show k + (j : Int) + 1 = k + ((j + 1 : Nat) : Int) by omega]
    exact ih
  · simp only [laws_markInt64S.l0_succ _ mk_ok,hl s.length (Nat.le_refl _)]
    refine ev_f (decide_eq_false (by omega)) (ev_some ?_)
    simp

theorem heldInt64S_ret (k : Int) (n : Nat) (hk : 0 ≤ k ∧ k ≤ 4611686018427387904) (hn : n ≤ 1048576) : Ret E n_laws_heldInt64S [dL (mkL k n),dI k] ⟨o_laws_heldInt64S,(k + n,())⟩ := by
  refine ret_of ?_
  simp only [run_laws_heldInt64S,laws_heldInt64S.ev]
  refine Ev.start (p := fun φ m => laws_heldInt64S.l0 (mkR (run E (φ 0))) (φ 0) m (mkL k n) k 0 = _) 1 ?_ (fun _ _ _ h => h)
  have := fold_loop 1 (L := fun φ m j a => laws_heldInt64S.l0 (mkR (run E (φ 0))) (φ 0) m (mkL k n) a j) (len := n) (fun j => k + (j : Int)) (r := some ⟨o_laws_heldInt64S,(k + n,())⟩) (fun _ _ _ _ _ => rfl) (fun j r hj ih => ?_) ?_
  · simpa using this
  · simp only [laws_heldInt64S.l0_succ _ mk_ok,mkL_length]
    have hj' : j < (mkL k n).length := by rw [mkL_length]; exact hj
    refine ev_t (decide_eq_true (by omega)) (ev_bind (idx_lt hj') (ev_f (by simp [mkL_get hj']) ?_))
    rw [w64_succ (by omega),w64_small (by omega) (by omega),show k + (j : Int) + 1 = k + ((j + 1 : Nat) : Int) by omega]
    exact ih
  · simp only [laws_heldInt64S.l0_succ _ mk_ok,mkL_length]
    exact ev_f (decide_eq_false (by omega)) ev_rfl

def mkLL : List Sim → Int → List Sim
  | [],_ => []
  | x :: xs,k => mkL k x.length :: mkLL xs (k + x.length)
def mkN : List Sim → Int → Int
  | [],k => k
  | x :: xs,k => mkN xs (k + x.length)

theorem mkN_ge : ∀ {xs : List Sim} {k : Int},(∀ x ∈ xs,x.length ≤ 1048576) → k ≤ mkN xs k ∧ mkN xs k ≤ k + 1048576 * xs.length
  | [],k,_ => by simp [mkN]
  | x :: xs,k,h => by
    have h1 := mkN_ge (xs := xs) (k := k + x.length) fun y hy => h y (List.mem_cons_of_mem _ hy)
    have h2 := h x List.mem_cons_self
    simp only [mkN,List.length_cons]; omega

theorem markRows_evt : ∀ (xs : List Sim) (k : Int),0 ≤ k → k + 1048576 * xs.length ≤ 4611686018427387904 → (∀ x ∈ xs,x.length ≤ 1048576) → Evt fun n => markRows n_laws_markInt64S (mkR (run E n)) xs k = some (mkN xs k,mkLL xs k)
  | [],k,_,_,_ => Evt.of fun _ => rfl
  | x :: xs,k,h0,hb,hx => by
    have h2 := hx x List.mem_cons_self
    simp only [List.length_cons] at hb
    have h3 := markRows_evt xs (k + x.length) (by omega) (by omega) fun y hy => hx y (List.mem_cons_of_mem _ hy)
    have h4 := markInt64S_ret x k (by omega) h2
    refine (h4.and h3).mono fun n ⟨a,b⟩ => ?_
    have a' : callT (mkR (run E n)) n_laws_markInt64S oM [⟨tL,x⟩,⟨tI,k⟩] = some (k + x.length,mkL k x.length,()) := callT_of a
    simp only [markRows,a',Option.bind_some,b,Option.map_some,mkN,mkLL]

theorem run_markSS (n : Nat) (args : List Dv) : run E (n + 1) n_laws_markInt64SS args = pMarkSS n_laws_markInt64S (mkR (run E n)) args := rfl

theorem markInt64SS_ret (xs : List Sim) (k : Int) (hk : 0 ≤ k ∧ k ≤ 1099511627776) (hs : Sm (.sl (.sl (.int .i64))) xs) : Ret E n_laws_markInt64SS [dLL xs,dI k] ⟨o_laws_markInt64SS,(mkN xs k,mkLL xs k,())⟩ := by
  have hs1 : xs.length ≤ 1048576 := hs.1
  refine Evt.succ ((markRows_evt xs k hk.1 (by omega) fun x hx => (hs.2 x hx).1).mono fun n h => ?_)
  rw [run_markSS]
  show ((markRows n_laws_markInt64S (mkR (run E n)) xs k).map fun q => (⟨.cons tI (.cons (.sl tL) .nil),(q.1,q.2,())⟩ : Dv)) = _
  rw [h]; rfl

end VeT

open Go Go.Proofs Ve
set_option linter.unusedVariables false
set_option linter.unusedSimpArgs false
namespace VeT

/-! marks of matrices and sheaves -/
def mkMM : List MatT → Int → List MatT
  | [],_ => []
  | x :: xs,k => (k,k + 1,k + 1 + 1,mkL (k + 1 + 1 + 1) x.2.2.2.1.length,()) :: mkMM xs (k + 1 + 1 + 1 + x.2.2.2.1.length)
def mkMN : List MatT → Int → Int
  | [],k => k
  | x :: xs,k => mkMN xs (k + 1 + 1 + 1 + x.2.2.2.1.length)

theorem mkMN_ge : ∀ {xs : List MatT} {k : Int},(∀ x ∈ xs,x.2.2.2.1.length ≤ 1048576) → k ≤ mkMN xs k ∧ mkMN xs k ≤ k + 1048579 * xs.length
  | [],k,_ => by simp [mkMN]
  | x :: xs,k,h => by
    have h1 := mkMN_ge (xs := xs) (k := k + 1 + 1 + 1 + x.2.2.2.1.length) fun y hy => h y (List.mem_cons_of_mem _ hy)
    have h2 := h x List.mem_cons_self
    simp only [mkMN,List.length_cons]; omega

theorem markRowsM_evt : ∀ (xs : List MatT) (k : Int),0 ≤ k → k + 1048579 * xs.length ≤ 4611686018427387904 → (∀ x ∈ xs,x.2.2.2.1.length ≤ 1048576) → Evt fun n => markRowsM n_laws_markInt64S (mkR (run E n)) xs k = some (mkMN xs k,mkMM xs k)
  | [],k,_,_,_ => Evt.of fun _ => rfl
  | x :: xs,k,h0,hb,hx => by
    have h2 := hx x List.mem_cons_self
    simp only [List.length_cons] at hb
    have h3 := markRowsM_evt xs (k + 1 + 1 + 1 + x.2.2.2.1.length) (by omega) (by omega) fun y hy => hx y (List.mem_cons_of_mem _ hy)
    have h4 := markInt64S_ret x.2.2.2.1 (k + 1 + 1 + 1) (by omega) h2
    refine (h4.and h3).mono fun n ⟨a,b⟩ => ?_
    have a' : callT (mkR (run E n)) n_laws_markInt64S oM [⟨tL,x.2.2.2.1⟩,⟨tI,k + 1 + 1 + 1⟩] = some (k + 1 + 1 + 1 + x.2.2.2.1.length,mkL (k + 1 + 1 + 1) x.2.2.2.1.length,()) := callT_of a
    rw [markRowsM,if_pos (by omega)]
    simp only [a',Option.bind_some,b,Option.map_some,mkMN,mkMM]

theorem run_markMS (n : Nat) (args : List Dv) : run E (n + 1) n_laws_markMatrixS args = pMarkMS n_laws_markInt64S (mkR (run E n)) args := rfl

theorem markMatrixS_ret (xs : List MatT) (k : Int) (hk : 0 ≤ k ∧ k ≤ 4398046511104) (hs : Sm (.sl tM) xs) : Ret E n_laws_markMatrixS [⟨.sl tM,xs⟩,⟨.int .i64,k⟩] ⟨o_laws_markMatrixS,(mkMN xs k,mkMM xs k,())⟩ := by
  have hs1 : xs.length ≤ 1048576 := hs.1
  refine Evt.succ ((markRowsM_evt xs k hk.1 (by omega) fun x hx => (hs.2 x hx).2.2.2.1.1).mono fun n h => ?_)
  rw [run_markMS]
  show ((markRowsM n_laws_markInt64S (mkR (run E n)) xs k).map fun q => (⟨.cons tI (.cons (.sl tM) .nil),(q.1,q.2,())⟩ : Dv)) = _
  rw [h]; rfl

theorem markComplexP_ret (xs : List Sim) (k : Int) (hk : 0 ≤ k ∧ k ≤ 1099511627776) (hs : Sm (.sl (.sl (.int .i64))) xs) : Ret E n_laws_markComplex [dLL xs,dI k] ⟨o_laws_markComplex,(mkN xs k,mkLL xs k,())⟩ := by
  refine ret_of ?_
  simp only [run_laws_markComplex,laws_markComplex.ev]
  exact ev_call (markInt64SS_ret xs k hk hs) ev_rfl

/-- the number behind a sheaf's marks -/
def mkSN (x : Shf) (k : Int) : Int := mkMN x.2.2.2.1 (mkN x.1 k + x.2.2.1.length)

theorem markSheaf_ret (x : Shf) (hx : Sm (.st cS) x) : ∃ a b c,Ret E n_laws_markSheaf [dLL x.1,dI x.2.1,dL x.2.2.1,dMs x.2.2.2.1,dI 1] ⟨o_laws_markSheaf,(mkSN x 1,a,b,c,())⟩ ∧ 1 ≤ mkSN x 1 ∧ mkSN x 1 ≤ 4398046511104 := by
  have h1 : Sm (.sl (.sl (.int .i64))) x.1 := hx.1
  have h2 : x.2.2.1.length ≤ 1048576 := hx.2.2.1.1
  have h3 : Sm (.sl tM) x.2.2.2.1 := hx.2.2.2.1
  have l1 : x.1.length ≤ 1048576 := h1.1
  have l3 : x.2.2.2.1.length ≤ 1048576 := h3.1
  have g1 := mkN_ge (xs := x.1) (k := 1) fun y hy => (h1.2 y hy).1
  have g3 := mkMN_ge (xs := x.2.2.2.1) (k := mkN x.1 1 + x.2.2.1.length) fun y hy => (h3.2 y hy).2.2.2.1.1
  refine ⟨mkLL x.1 1,mkL (mkN x.1 1) x.2.2.1.length,mkMM x.2.2.2.1 (mkN x.1 1 + x.2.2.1.length),ret_of ?_,by unfold mkSN; omega⟩
  · simp only [run_laws_markSheaf,laws_markSheaf.ev]
    exact ev_call (markComplexP_ret x.1 1 (by omega) h1) (ev_call (markInt64S_ret x.2.2.1 (mkN x.1 1) (by omega) h2) (ev_call (markMatrixS_ret x.2.2.2.1 (mkN x.1 1 + x.2.2.1.length) (by omega) h3) ev_rfl))

end VeT

open Go Go.Proofs Ve
set_option linter.unusedVariables false
set_option linter.unusedSimpArgs false
namespace VeT

/-- the unit matrix' entries -/
def unitE (i j : Nat) : Int := if i = j then 1 else 0
def unitM (p : Int) (n : Nat) : Mat := (p,(n : Int),(n : Int),flatF unitE n n,())

theorem unit_1_ret (i j : Nat) : Ret E n_impl_unit_1 [dI (i : Int),dI (j : Int)] ⟨o_impl_unit_1,(unitE i j,())⟩ := by
  refine ret_of ?_
  simp only [run_impl_unit_1,impl_unit_1.ev]
  refine ev_b (fun h => ev_some ?_) fun h => ev_some ?_
  · have h : (i : Int) = j := by simpa using h
    rw [unitE,if_pos (by omega)]
  · have h : ¬ (i : Int) = j := by simpa using h
    rw [unitE,if_neg (by omega)]

theorem unit_ret (p : Int) (n : Nat) (hn : n ≤ 32) : Ret E n_impl_unit [dI p,dI (n : Int)] ⟨o_impl_unit,unitM p n⟩ := by
  have h := rc_le hn hn
  refine ret_of ?_
  simp only [run_impl_unit,impl_unit.ev]
  exact ev_call (filled_impl_unit_1_ret p n n unitE (by omega) (by omega) (by omega) fun i j _ _ => unit_1_ret i j) ev_rfl

theorem l03Unit_ret (p : Int) (n : Nat) (hn : n ≤ 32) : Ret E n_spec_l03Unit [dI p,dI (n : Int)] ⟨o_spec_l03Unit,unitM p n⟩ := by
  have h := rc_le hn hn
  refine ret_of ?_
  simp only [run_spec_l03Unit,spec_l03Unit.ev]
  refine ev_call (l03Zero_ret p n n hn hn) ?_
  refine Ev.start (p := fun φ m => spec_l03Unit.l0 (mkR (run E (φ 0))) (φ 0) m (n : Int) 0 0 0 0 p (n : Int) (n : Int) (List.replicate (n * n) 0) = _) 1 ?_ (fun _ _ _ h => h)
  have := fold_loop 1 (L := fun φ m i o => spec_l03Unit.l0 (mkR (run E (φ 0))) (φ 0) m (n : Int) i 0 0 0 p (n : Int) (n : Int) o) (len := n) (fun i => flatF unitE n i ++ List.replicate ((n - i) * n) 0) (r := some ⟨o_spec_l03Unit,unitM p n⟩) (fun _ _ _ _ _ => rfl) (fun i r hi ih => ?_) ?_
  · simpa [flatF] using this
  · simp only [spec_l03Unit.l0_succ _ mk_ok]
    have hii := lt_rc hi hi
    have hle : (i + 1) * n ≤ n * n := Nat.mul_le_mul_right _ hi
    rw [Nat.add_mul] at hle
    have hRi : (n - i) * n = n + (n - (i + 1)) * n := by
      rw [show n - i = (n - (i + 1)) + 1 by omega,Nat.add_mul]; omega
    have hol : (flatF unitE n i ++ List.replicate ((n - i) * n) (0 : Int)).length = i * n + (n - i) * n := by simp [flatF_length]
    have e1 : w64 (w64 ((i : Int) * (n : Int)) + (i : Int)) = ((i * n + i : Nat) : Int) := by
      rw [cast_mul,w64_small (n := ((i * n : Nat) : Int)) (by omega) (by omega),w64_small (by omega) (by omega)]; omega
    simp only [e1,Int.toNat_natCast]
    refine ev_t (decide_eq_true (by omega)) (ev_chk (by simp only [Bool.and_eq_true,decide_eq_true_eq,hol]; omega) ?_)
    rw [w64_succ (by omega)]
    have e2 : (flatF unitE n i ++ List.replicate ((n - i) * n) (0 : Int)).set (i * n + i) 1 = flatF unitE n (i + 1) ++ List.replicate ((n - (i + 1)) * n) 0 := by
      rw [List.set_append_right _ _ (by rw [flatF_length]; omega),flatF_length,Nat.add_sub_cancel_left,flatF,List.append_assoc]
      congr 1
      apply List.ext_getElem?
      intro j
      rw [List.getElem?_set,List.length_replicate]
      by_cases hj : j < n
      · rw [List.getElem?_append_left (by simpa using hj)]
        by_cases hij : i = j
        · subst hij
          rw [if_pos rfl,if_pos (by omega)]
          simp [hj,unitE]
        · rw [if_neg hij,List.getElem?_replicate,if_pos (by omega)]
          simp [hj,unitE,hij]
      · rw [if_neg (by omega),List.getElem?_append_right (by simpa using hj)]
        simp only [List.length_map,List.length_range,List.getElem?_replicate]
        by_cases h2 : j < (n - i) * n
        · rw [if_pos h2,if_pos (by omega)]
        · rw [if_neg h2,if_neg (by omega)]
    rw [e2]
    exact ih
  · simp only [spec_l03Unit.l0_succ _ mk_ok]
    refine ev_f (decide_eq_false (by omega)) (ev_some ?_)
    simp [unitM]

end VeT

open Go Go.Proofs Ve
set_option linter.unusedVariables false
set_option linter.unusedSimpArgs false
namespace VeT

theorem isVector_ret (v : Sim) (n p : Int) (hv : v.length ≤ 1048576) (hp : 0 ≤ p ∧ p ≤ 1048576) : Ret E n_impl_isVector [dL v,dI n,dI p] ⟨o_impl_isVector,(pb (Elems v p ∧ (v.length : Int) = n),())⟩ := by
  refine ret_of ?_
  simp only [run_impl_isVector,impl_isVector.ev]
  refine ev_call (sizeI_ret v) (ev_b (fun h => ev_call (areElements_ret v p hv hp) (ev_some ?_)) fun h => ev_some ?_)
  · have h : (v.length : Int) = n := by simpa using h
    exact congrArg (fun b : Bool => some (⟨o_impl_isVector,(b,())⟩ : Dv)) (pb_congr ⟨fun e => ⟨e,h⟩,fun e => e.1⟩)
  · have h : ¬ (v.length : Int) = n := by simpa using h
    rw [pb_false fun e => h e.2]

/-! the coboundary matrix -/
noncomputable def cobX (x : Shf) (k : Int) : Mat := cobM x.1 x.2.1 x.2.2.1 x.2.2.2.1 k

theorem VM.len {m : Mat} (h : VM m) : m.2.2.2.1.length ≤ 1024 := by
  obtain ⟨R,C,_,hR,hC,hl⟩ := h.nat
  have := rc_le hR hC
  omega

end VeT

open Go Go.Proofs Ve
set_option linter.unusedVariables false
set_option linter.unusedSimpArgs false
namespace VeT

theorem Rises.lt {s : Sim} (h : Rises s) : ∀ {i j : Nat} (hj : j < s.length) (hij : i < j),s[i] < s[j] := by
  intro i j
  induction j with
  | zero => intro _ h; omega
  | succ j ih =>
    intro hj hij
    have := h (j + 1) (by omega) hj
    rw [Nat.add_sub_cancel,getD_lt (by omega),getD_lt hj] at this
    by_cases e : i = j
    · subst e; exact this
    · exact Int.lt_trans (ih (by omega) (by omega)) this

theorem Rises.pairwise {s : Sim} (h : Rises s) : s.Pairwise (· < ·) := by
  rw [List.pairwise_iff_getElem]
  intro i j hi hj hij
  exact h.lt hj hij

theorem sorted_eq : ∀ {a b : Sim},a.Pairwise (· < ·) → b.Pairwise (· < ·) → (∀ x,x ∈ a ↔ x ∈ b) → a = b
  | [],[],_,_,_ => rfl
  | [],y :: ys,_,_,h => absurd ((h y).2 List.mem_cons_self) (by simp)
  | x :: xs,[],_,_,h => absurd ((h x).1 List.mem_cons_self) (by simp)
  | x :: xs,y :: ys,ha,hb,h => by
    rw [List.pairwise_cons] at ha hb
    have exy : x = y := by
      have h1 := (h x).1 List.mem_cons_self
      have h2 := (h y).2 List.mem_cons_self
      rw [List.mem_cons] at h1 h2
      rcases h1 with h1 | h1
      · exact h1
      · rcases h2 with h2 | h2
        · exact h2.symm
        · have := hb.1 x h1
          have := ha.1 y h2
          omega
    subst exy
    congr 1
    refine sorted_eq ha.2 hb.2 fun z => ⟨fun hz => ?_,fun hz => ?_⟩
    · have := (h z).1 (List.mem_cons_of_mem _ hz)
      rw [List.mem_cons] at this
      rcases this with e | e
      · have := ha.1 z hz; omega
      · exact e
    · have := (h z).2 (List.mem_cons_of_mem _ hz)
      rw [List.mem_cons] at this
      rcases this with e | e
      · have := hb.1 z hz; omega
      · exact e

/-- two simplices,one a part of the other and not the same: a vertex is left -/
theorem part_left {a b : Sim} (ha : Rises a) (hb : Rises b) (h : Part a b) (hne : a ≠ b) : ∃ i,∃ hi : i < b.length,¬ b[i] ∈ a ∧ ∀ j (hj : j < i),b[j] ∈ a := by
  have hex : ∃ x ∈ b,¬ x ∈ a := Classical.byContradiction fun hn => hne (sorted_eq ha.pairwise hb.pairwise fun x => ⟨h x,fun hx => Classical.byContradiction fun hxa => hn ⟨x,hx,hxa⟩⟩)
  obtain ⟨x,hx,hxa⟩ := hex
  obtain ⟨j,hj,rfl⟩ := List.mem_iff_getElem.1 hx
  have hf : b.findIdx (fun v => !pb (v ∈ a)) < b.length := List.findIdx_lt_length_of_exists ⟨b[j],hx,by rw [pb_false hxa]; rfl⟩
  refine ⟨b.findIdx (fun v => !pb (v ∈ a)),hf,?_,fun q hq => ?_⟩
  · have := List.findIdx_getElem (w := hf)
    exact pb_not.1 (by simpa using this)
  · have := List.not_of_lt_findIdx hq
    exact pb_iff.1 (by simpa using this)

theorem part_erase {a b : Sim} (h : Part a b) {i : Nat} (hi : i < b.length) (hn : ¬ b[i] ∈ a) : Part a (b.eraseIdx i) := by
  intro x hx
  obtain ⟨j,hj,rfl⟩ := List.mem_iff_getElem.1 (h x hx)
  have hji : j ≠ i := fun e => hn (by subst e; exact hx)
  rw [List.mem_iff_getElem?]
  by_cases hlt : j < i
  · exact ⟨j,by rw [List.getElem?_eraseIdx,if_pos hlt,List.getElem?_eq_getElem hj]⟩
  · exact ⟨j - 1,by rw [List.getElem?_eraseIdx,if_neg (by omega),show j - 1 + 1 = j by omega,List.getElem?_eq_getElem hj]⟩

end VeT

open Go Go.Proofs Ve
set_option linter.unusedVariables false
set_option linter.unusedSimpArgs false
namespace VeT

/-! the coboundary's entries -/
theorem rc_inj {W a b a' b' : Nat} (hb : b < W) (hb' : b' < W) (e : a * W + b = a' * W + b') : a = a' ∧ b = b' := by
  have h1 : (a * W + b) / W = a := by rw [Nat.mul_comm,Nat.mul_add_div (by omega),Nat.div_eq_of_lt hb,Nat.add_zero]
  have h2 : (a' * W + b') / W = a' := by rw [Nat.mul_comm,Nat.mul_add_div (by omega),Nat.div_eq_of_lt hb',Nat.add_zero]
  have : a = a' := by rw [← h1,← h2,e]
  subst this
  exact ⟨rfl,by omega⟩

theorem FC_lt {c : List Sim} {st : Sim} (hst : ∀ x ∈ st,0 ≤ x ∧ x ≤ 3) {s s' : Nat} (hl : (c.getD s []).length = (c.getD s' []).length) (h : s < s') : FC c st s + st.getD s 0 ≤ FC c st s' := by
  unfold FC
  rw [← hl]
  exact SDn_hit hst h (by omega)

theorem FC_uniq {c : List Sim} {st : Sim} (hst : ∀ x ∈ st,0 ≤ x ∧ x ≤ 3) {s s' i i' : Nat} (hl : (c.getD s []).length = (c.getD s' []).length) (hi : i < (st.getD s 0).toNat) (hi' : i' < (st.getD s' 0).toNat)
    (e : (FC c st s).toNat + i = (FC c st s').toNat + i') : s = s' ∧ i = i' := by
  have n1 : 0 ≤ FC c st s := (SDn_nn hst).1
  have n2 : 0 ≤ FC c st s' := (SDn_nn hst).1
  rcases Nat.lt_trichotomy s s' with h | h | h
  · have := FC_lt hst hl h; omega
  · subst h; exact ⟨rfl,by omega⟩
  · have := FC_lt hst hl.symm h; omega

theorem erase_inj {s : Sim} (hs : Rises s) {a b : Nat} (ha : a < s.length) (hb : b < s.length) (e : s.eraseIdx a = s.eraseIdx b) : a = b := by
  have key : ∀ {a b : Nat},a < b → b < s.length → s.eraseIdx a = s.eraseIdx b → False := fun {a b} hab hb e => by
    have h := congrArg (·[a]?) e
    simp only [List.getElem?_eraseIdx] at h
    rw [if_neg (by omega),if_pos hab,List.getElem?_eq_getElem (by omega),List.getElem?_eq_getElem (by omega)] at h
    have h := Option.some.inj h
    have := hs.lt (i := a) (j := a + 1) (by omega) (by omega)
    omega
  rcases Nat.lt_trichotomy a b with h | h | h
  · exact absurd e fun e => key h hb e
  · exact h
  · exact absurd e.symm fun e => key h ha e

theorem fc_inj {c : List Sim} (hv : VC c) {s a b : Nat} (hs : s < c.length) (ha : a < (fIdx c s).length) (hb : b < (fIdx c s).length) (e : fc c s a = fc c s b) : a = b := by
  obtain ⟨_,_,ea⟩ := fc_get hv hs ha
  obtain ⟨_,_,eb⟩ := fc_get hv hs hb
  have hl := fIdx_length (c := c) (k := s)
  rw [e,eb] at ea
  split at hl
  · exact (erase_inj (hv.2.1 s hs).2.2.1 (by omega) (by omega) ea).symm
  · omega

/-- the coboundary's columns at a face -/
theorem cob_hit {c : List Sim} {p : Int} {st : Sim} {ms : List Mat} (h : VS c p st ms) {k : Int} (hk : 0 ≤ k) {s a i j : Nat} (hs : s < c.length) (hd : ((c.getD s []).length : Int) = k + 2) (ha : a < (fIdx c s).length)
    (hi : i < (st.getD s 0).toNat) (hj : j < (st.getD (fc c s a) 0).toNat) :
    (cobC c p st ms k).getD (((FC c st s).toNat + i) * (SD c st k).toNat + ((FC c st (fc c s a)).toNat + j)) 0 = (mp c ms s a).2.2.2.1.getD (i * (mp c ms s a).2.2.1.toNat + j) 0 * sgn p a % p := by
  have hst := h.2.2.1.2.1
  obtain ⟨g1,g2,g3,g4,g5,g6,g7⟩ := cob_geo h hs hd ha
  have hW : (FC c st (fc c s a)).toNat + j < (SD c st k).toNat := by omega
  have hH : (FC c st s).toNat + i < (SD c st (k + 1)).toNat := by omega
  unfold cobC
  rw [if_neg (by omega)]
  refine upds_hit (by rw [List.length_replicate]; exact lt_rc hH hW) (fun x hx e => ?_) ⟨_,(stS_mem (Nat.le_refl _)).2 ⟨s,hs,hd,stF_mem.2 ⟨a,i,j,ha,by omega,by omega,rfl⟩⟩,by simp only; omega⟩
  obtain ⟨s',hs',hd',hx⟩ := (stS_mem (Nat.le_refl _)).1 hx
  obtain ⟨a',i',j',ha',hi',hj',rfl⟩ := stF_mem.1 hx
  obtain ⟨q1,q2,q3,q4,q5,q6,q7⟩ := cob_geo h hs' hd' ha'
  simp only at e ⊢
  have hW' : (FC c st (fc c s' a')).toNat + j' < (SD c st k).toNat := by omega
  have e0 : ((FC c st s').toNat + i') * (SD c st k).toNat + ((FC c st (fc c s' a')).toNat + j') = ((FC c st s).toNat + i) * (SD c st k).toNat + ((FC c st (fc c s a)).toNat + j) := by omega
  obtain ⟨e1,e2⟩ := rc_inj hW' hW e0
  obtain ⟨rfl,rfl⟩ := FC_uniq hst (by omega) (by omega) (by omega) e1
  obtain ⟨e3,rfl⟩ := FC_uniq hst (by omega) (by omega) (by omega) e2
  obtain rfl := fc_inj h.1 hs ha' ha e3
  rfl

/-- the coboundary's columns at no face -/
theorem cob_miss {c : List Sim} {p : Int} {st : Sim} {ms : List Mat} (h : VS c p st ms) {k : Int} {s i g : Nat} (hs : s < c.length) (hd : ((c.getD s []).length : Int) = k + 2)
    (hi : i < (st.getD s 0).toNat) (hg : g < (SD c st k).toNat) (hno : ∀ a,a < (fIdx c s).length → ¬ ((FC c st (fc c s a)).toNat ≤ g ∧ g < (FC c st (fc c s a)).toNat + (st.getD (fc c s a) 0).toNat)) :
    (cobC c p st ms k).getD (((FC c st s).toNat + i) * (SD c st k).toNat + g) 0 = 0 := by
  have hst := h.2.2.1.2.1
  have hrep : ∀ n q,(List.replicate n (0 : Int)).getD q 0 = 0 := fun n q => by
    rw [List.getD_eq_getElem?_getD,List.getElem?_replicate]; split <;> rfl
  unfold cobC
  split
  · exact hrep _ _
  rw [upds_miss fun x hx e => ?_]
  · exact hrep _ _
  obtain ⟨s',hs',hd',hx⟩ := (stS_mem (Nat.le_refl _)).1 hx
  obtain ⟨a',i',j',ha',hi',hj',rfl⟩ := stF_mem.1 hx
  obtain ⟨q1,q2,q3,q4,q5,q6,q7⟩ := cob_geo h hs' hd' ha'
  simp only at e
  have hW' : (FC c st (fc c s' a')).toNat + j' < (SD c st k).toNat := by omega
  have e0 : ((FC c st s').toNat + i') * (SD c st k).toNat + ((FC c st (fc c s' a')).toNat + j') = ((FC c st s).toNat + i) * (SD c st k).toNat + g := by omega
  obtain ⟨e1,e2⟩ := rc_inj hW' hg e0
  obtain ⟨rfl,rfl⟩ := FC_uniq hst (by omega) (by omega) (by omega) e1
  exact hno a' ha' ⟨by omega,by omega⟩

end VeT

open Go Go.Proofs Ve
set_option linter.unusedVariables false
set_option linter.unusedSimpArgs false
namespace VeT

/-- the first vertex that is not in the face -/
noncomputable def fv (c : List Sim) (f k : Nat) : Nat := (c.getD k []).findIdx (fun v => !pb (v ∈ c.getD f []))

noncomputable def restV (c : List Sim) (p : Int) (st : Sim) (ms : List Mat) (f : Nat) : Nat → Nat → Mat
  | 0,k => unitM p (st.getD f 0).toNat
  | d + 1,k => if f = k then unitM p (st.getD f 0).toNat else mulM (mp c ms k (fv c f k)) (restV c p st ms f d (fc c k (fv c f k)))

theorem unitM_VM {p : Int} {n : Nat} (hp : Pr p) (hn : n ≤ 32) : VM (unitM p n) := by
  refine ⟨hp,⟨by show (0 : Int) ≤ n; omega,by show (n : Int) ≤ 32; omega⟩,⟨by show (0 : Int) ≤ n; omega,by show (n : Int) ≤ 32; omega⟩,?_,?_⟩
  · show ((flatF unitE n n).length : Int) = (n : Int) * (n : Int)
    rw [flatF_length,cast_mul]
  · intro x hx
    have hx : x ∈ flatF unitE n n := hx
    have : ∀ m,x ∈ flatF unitE n m → 0 ≤ x ∧ x ≤ 1 := by
      intro m
      induction m with
      | zero => intro h; simp [flatF] at h
      | succ m ih =>
        intro h
        rw [flatF,List.mem_append] at h
        rcases h with h | h
        · exact ih h
        · rw [List.mem_map] at h
          obtain ⟨j,_,rfl⟩ := h
          unfold unitE; split <;> omega
    have := this n hx
    have := hp.1
    show 0 ≤ x ∧ x ≤ p - 1
    omega

theorem mulM_VM {a b : Mat} (ha : VM a) (hb : VM b) : VM (mulM a b) := by
  refine ⟨ha.1,ha.2.1,hb.2.2.1,?_,?_⟩
  · show ((flatF _ b.2.2.1.toNat a.2.1.toNat).length : Int) = a.2.1 * b.2.2.1
    rw [flatF_length]
    have h1 := ha.2.1
    have h2 := hb.2.2.1
    obtain ⟨x,hx⟩ := Int.eq_ofNat_of_zero_le h1.1
    obtain ⟨y,hy⟩ := Int.eq_ofNat_of_zero_le h2.1
    rw [hx,hy,cast_mul]; rfl
  · intro x hx
    have hx : x ∈ flatF (mulE a.1 a.2.2.2.1 b.2.2.2.1 a.2.2.1.toNat b.2.2.1.toNat) b.2.2.1.toNat a.2.1.toNat := hx
    have hp := ha.1.1
    have : ∀ m,x ∈ flatF (mulE a.1 a.2.2.2.1 b.2.2.2.1 a.2.2.1.toNat b.2.2.1.toNat) b.2.2.1.toNat m → 0 ≤ x ∧ x ≤ a.1 - 1 := by
      intro m
      induction m with
      | zero => intro h; simp [flatF] at h
      | succ m ih =>
        intro h
        rw [flatF,List.mem_append] at h
        rcases h with h | h
        · exact ih h
        · rw [List.mem_map] at h
          obtain ⟨j,_,rfl⟩ := h
          have h1 := Int.emod_nonneg (dotN (fun l => a.2.2.2.1.getD (m * a.2.2.1.toNat + l) 0) (fun l => b.2.2.2.1.getD (l * b.2.2.1.toNat + j) 0) a.2.2.1.toNat) (show a.1 ≠ 0 by omega)
          have h2 := Int.emod_lt_of_pos (dotN (fun l => a.2.2.2.1.getD (m * a.2.2.1.toNat + l) 0) (fun l => b.2.2.2.1.getD (l * b.2.2.1.toNat + j) 0) a.2.2.1.toNat) (show 0 < a.1 by omega)
          unfold mulE; omega
    exact this _ hx

theorem restriction_1_ret (v : Int) (a : Sim) (ha : a.length ≤ 1048576) : Ret E n_impl_restriction_1 [dI v,⟨.ptr (.cons (.sl (.int .i64)) .nil),(a,())⟩] ⟨o_impl_restriction_1,(!pb (v ∈ a),())⟩ := by
  refine ret_of ?_
  simp only [run_impl_restriction_1,impl_restriction_1.ev]
  exact ev_call (Contains_ret a v ha) ev_rfl

/-- one step down -/
structure Down (c : List Sim) (p : Int) (st : Sim) (ms : List Mat) (f k : Nat) : Prop where
  v : VS c p st ms
  fl : f < c.length
  kl : k < c.length
  ne : f ≠ k
  pt : Part (c.getD f []) (c.getD k [])

theorem Down.facts {c p st ms f k} (h : Down c p st ms f k) : fv c f k < (c.getD k []).length ∧ fv c f k < (fIdx c k).length ∧ (∀ j (hj : j < fv c f k) (hl : j < (c.getD k []).length),(c.getD k [])[j] ∈ c.getD f []) ∧ (∀ hl : fv c f k < (c.getD k []).length,¬ (c.getD k [])[fv c f k] ∈ c.getD f []) ∧ Part (c.getD f []) (c.getD (fc c k (fv c f k)) []) ∧ (c.getD (fc c k (fv c f k)) []).length < (c.getD k []).length ∧ fc c k (fv c f k) < c.length := by
  have hx := h.v.1.2.1 f h.fl
  have hy := h.v.1.2.1 k h.kl
  have hne : c.getD f [] ≠ c.getD k [] := fun e => by
    have hs := h.v.1.srt
    rw [getD_lt h.fl,getD_lt h.kl] at e
    rcases Nat.lt_or_gt_of_ne h.ne with hlt | hlt
    · have := hs f k h.kl hlt; rw [e,cmpS_zero.2 rfl] at this; omega
    · have := hs k f h.fl hlt; rw [e,cmpS_zero.2 rfl] at this; omega
  obtain ⟨i,hi,hin,hbef⟩ := part_left hx.2.2.1 hy.2.2.1 h.pt hne
  have hfv : fv c f k < (c.getD k []).length := List.findIdx_lt_length_of_exists ⟨_,List.getElem_mem hi,by rw [pb_false hin]; rfl⟩
  have hno : ∀ hl : fv c f k < (c.getD k []).length,¬ (c.getD k [])[fv c f k] ∈ c.getD f [] := fun hl => by
    have t : (!pb ((c.getD k [])[fv c f k] ∈ c.getD f [])) = true := List.findIdx_getElem (w := hl) (p := fun v => !pb (v ∈ c.getD f []))
    exact pb_not.1 (by simpa only [Bool.not_eq_true'] using t)
  have hbf : ∀ j (hj : j < fv c f k) (hl : j < (c.getD k []).length),(c.getD k [])[j] ∈ c.getD f [] := fun j hj hl => by
    have := List.not_of_lt_findIdx hj
    exact pb_iff.1 (by simpa using this)
  have h2 : 1 < (c.getD k []).length := by
    refine Classical.byContradiction fun hn => ?_
    have h1 : (c.getD k []).length = 1 := by omega
    have hf0 : 0 < (c.getD f []).length := hx.1
    have hm := h.pt _ (List.getElem_mem hf0)
    obtain ⟨q,hq,e⟩ := List.mem_iff_getElem.1 hm
    have hq0 : q = fv c f k := by omega
    subst hq0
    exact hno hfv (e ▸ List.getElem_mem hf0)
  have hil : fv c f k < (fIdx c k).length := by rw [fIdx_length,if_pos h2]; exact hfv
  obtain ⟨_,hF,hFg⟩ := fc_get h.v.1 h.kl hil
  refine ⟨hfv,hil,hbf,hno,?_,?_,hF⟩
  · rw [hFg]; exact part_erase h.pt hfv (hno hfv)
  · rw [hFg,List.length_eraseIdx,if_pos hfv]; omega

end VeT

open Go Go.Proofs Ve
set_option linter.unusedVariables false
set_option linter.unusedSimpArgs false
namespace VeT

theorem Down.idx {c p st ms f k} (h : Down c p st ms f k) : idxf (fun v => !pb (v ∈ c.getD f [])) (c.getD k []) = (fv c f k : Nat) := by
  obtain ⟨h1,_,h3,h4,_⟩ := h.facts
  have : (c.getD k []).findIdx? (fun v => !pb (v ∈ c.getD f [])) = some (fv c f k) := by
    rw [List.findIdx?_eq_some_iff_getElem]
    exact ⟨h1,by rw [pb_false (h4 h1)]; rfl,fun j hj => by rw [pb_true (h3 j hj (by omega))]; simp⟩
  unfold idxf
  rw [this]; rfl

theorem st_le {c p st ms} (h : VS c p st ms) (f : Nat) (hf : f < c.length) : ∃ hl : f < st.length,∃ n : Nat,st[f] = (n : Int) ∧ n ≤ 3 ∧ (st.getD f 0).toNat = n ∧ st.getD f 0 = (n : Int) := by
  have hl : f < st.length := by rw [h.2.2.1.1]; exact hf
  have hb := h.2.2.1.2.1 _ (List.getElem_mem hl)
  obtain ⟨n,hn⟩ := Int.eq_ofNat_of_zero_le hb.1
  exact ⟨hl,n,hn,by omega,by rw [getD_lt hl]; omega,by rw [getD_lt hl,hn]⟩

theorem rest_ret (c : List Sim) (p : Int) (st : Sim) (ms : List Mat) (hc : Sm (.sl (.sl (.int .i64))) c) (h : VS c p st ms) (f : Nat) (hf : f < c.length) : ∀ (d k : Nat),k < c.length → (c.getD k []).length ≤ d → Part (c.getD f []) (c.getD k []) →
    (VM (restV c p st ms f d k) ∧ (restV c p st ms f d k).2.1 = st.getD k 0) ∧
    Ret E n_impl_restriction [dLL c,dI p,dL st,dMs ms,dI (f : Int),dI (k : Int)] ⟨o_impl_restriction,restV c p st ms f d k⟩ ∧
    Ret E n_spec_l09Restrict [dS (c,p,st,ms,()),dI (f : Int),dI (k : Int)] ⟨o_spec_l09Restrict,restV c p st ms f d k⟩ := by
  intro d
  obtain ⟨hfl,n,hn,hn3,hnt,hng⟩ := st_le h f hf
  induction d with
  | zero =>
    intro k hk hd
    have := (h.1.2.1 k hk).1
    omega
  | succ d ih =>
    intro k hk hd hpt
    have h4f := h.1.len4 hf
    rw [restV]
    by_cases hfk : f = k
    · subst hfk
      rw [if_pos rfl,hnt]
      refine ⟨⟨unitM_VM h.2.1 (by omega),by rw [hng]; rfl⟩,ret_of ?_,ret_of ?_⟩
      · simp only [run_impl_restriction,impl_restriction.ev]
        refine ev_t (by simp) (ev_bind (idx_lt hfl) ?_)
        rw [hn]
        exact ev_call (unit_ret p n (by omega)) ev_rfl
      · simp only [run_spec_l09Restrict,spec_l09Restrict.ev]
        refine ev_t (by simp) (ev_bind (idx_lt (xs := st) hfl) ?_)
        rw [hn]
        exact ev_call (l03Unit_ret p n (by omega)) ev_rfl
    · rw [if_neg hfk]
      have D : Down c p st ms f k := ⟨h,hf,hk,hfk,hpt⟩
      obtain ⟨f1,f2,f3,f4,f5,f6,f7⟩ := D.facts
      obtain ⟨⟨v1,v2⟩,r1,r2⟩ := ih (fc c k (fv c f k)) f7 (by omega) f5
      obtain ⟨ix,_,hFg⟩ := fc_get h.1 hk f2
      obtain ⟨_,hB⟩ := h.map hk f2
      have hsh : (mp c ms k (fv c f k)).2.2.1 = (restV c p st ms f d (fc c k (fv c f k))).2.1 := by rw [hB.2.2.2,v2]
      have gf : c.getD f [] = c[f] := getD_lt hf
      have gk : c.getD k [] = c[k] := getD_lt hk
      have hlf : (c[f]).length ≤ 1048576 := (sm_get (t := .sl (.int .i64)) (s := c) hc hf).1
      have hlk : (c[k]).length ≤ 1048576 := (sm_get (t := .sl (.int .i64)) (s := c) hc hk).1
      refine ⟨⟨mulM_VM hB.1 v1,hB.2.2.1⟩,ret_of ?_,ret_of ?_⟩
      · simp only [run_impl_restriction,impl_restriction.ev]
        refine ev_f (by simp; omega) (ev_bind (idx_lt hf) (ev_bind (idx_lt hk) ?_))
        have hI := IndexFunc_Sint64_int64_impl_restriction_1_ret c[k] ((c[f],()),()) (fun v => !pb (v ∈ c[f])) hlk fun v _ => restriction_1_ret v c[f] hlf
        have hD := D.idx
        rw [gf,gk] at hD
        rw [hD] at hI
        exact ev_call hI (ev_call (faceIndices_ret c k hk hc h.1.srt) (ev_bind ix (ev_call (direct_ret c p st ms k (fv c f k) hk f2 h) (ev_call r1 (ev_call (product_ret _ _ hB.1 v1 hsh) ev_rfl)))))
      · simp only [run_spec_l09Restrict,spec_l09Restrict.ev]
        refine ev_f (by simp; omega) (ev_bind (idx_lt (xs := c) hk) ?_)
        refine Ev.start (p := fun φ m => spec_l09Restrict.l0 (mkR (run E (φ 0))) (φ 0) m (c,p,st,ms,()) (f : Int) (k : Int) c[k] 0 0 0 0 = _) 1 ?_ (fun _ _ _ h => h)
        rw [gk] at f1
        refine loopR 1 (σ := Nat) (L := fun φ m i => spec_l09Restrict.l0 (mkR (run E (φ 0))) (φ 0) m (c,p,st,ms,()) (f : Int) (k : Int) c[k] (i : Int) 0 0 0) (fun _ _ _ _ => rfl) (fun i => i ≤ fv c f k) (fun _ => _) (fun i => fv c f k - i) (fun i hi ihi => ?_) 0 (Nat.zero_le _)
        have hi : i ≤ fv c f k := hi
        have hil : i < (c[k]).length := by omega
        simp only [spec_l09Restrict.l0_succ _ mk_ok]
        refine ev_bind (idx_lt (xs := c) hf) (ev_bind (idx_lt hil) (ev_call (l00Has_ret c[f] c[k][i] hlf) ?_))
        by_cases he : i = fv c f k
        · subst he
          have hno : ¬ c[k][fv c f k] ∈ c[f] := by
            have := f4 (by rw [gk]; exact f1)
            simpa only [gk,gf] using this
          exact ev_f (pb_false hno) (ev_call (l05Faces_ret c k hk hc) (ev_bind ix (ev_call r2 (ev_call (l09Get_ret (c,p,st,ms,()) k (fv c f k) hk f2 h) (ev_call (l03Times_ret _ _ hB.1 v1 hsh) ev_rfl)))))
        · have hin : c[k][i] ∈ c[f] := by
            have := f3 i (by omega) (by rw [gk]; exact hil)
            simpa only [gk,gf] using this
          refine ev_t (pb_true hin) ?_
          have h4k := h.1.len4 hk
          rw [gk] at h4k
          rw [w64_succ (by omega)]
          exact ihi (i + 1) (by show i + 1 ≤ _; omega) (by show fv c f k - (i + 1) < fv c f k - i; omega)

end VeT

open Go Go.Proofs Ve
set_option linter.unusedVariables false
set_option linter.unusedSimpArgs false
namespace VeT

/-! vertices come first -/
theorem VC.len1 {c : List Sim} (h : VC c) {k : Nat} (hk : k < c.length) : 1 ≤ (c.getD k []).length := (h.2.1 k hk).1

theorem vert_low {c : List Sim} (h : VC c) {v k : Nat} (hv : v < c.length) (h1 : (c.getD v []).length = 1) (hk : k < v) : (c.getD k []).length = 1 := by
  have hkc : k < c.length := by omega
  have := h.srt k v hv hk
  rw [cmpS_lt] at this
  have h2 := h.len1 hkc
  rw [getD_lt hv] at h1
  rw [getD_lt hkc] at h2 ⊢
  omega

theorem FC_vert {c : List Sim} {st : Sim} {v : Nat} (h1 : (c.getD v []).length = 1) : FC c st v = SDn c st 0 v := by
  unfold FC; rw [h1]; rfl

theorem l10Start_ret (x : Shf) (v : Nat) (hv : v < x.1.length) (h1 : (x.1.getD v []).length = 1) (h : VS x.1 x.2.1 x.2.2.1 x.2.2.2.1) : Ret E n_spec_l10Start [dS x,dI (v : Int)] ⟨o_spec_l10Start,(FC x.1 x.2.2.1 v,())⟩ := by
  have h48 := h.1.1
  have hst := h.2.2.1.2.1
  have hl := h.2.2.1.1
  rw [FC_vert h1]
  refine ret_of ?_
  simp only [run_spec_l10Start,spec_l10Start.ev]
  refine Ev.start (p := fun φ n => spec_l10Start.l0 (mkR (run E (φ 0))) (φ 0) n x (v : Int) 0 0 = _) 1 ?_ (fun _ _ _ h => h)
  refine fold_loop 1 (L := fun φ n k a => spec_l10Start.l0 (mkR (run E (φ 0))) (φ 0) n x (v : Int) a k) (len := v) (fun k => SDn x.1 x.2.2.1 0 k) (fun _ _ _ _ _ => rfl) (fun k r hk ih => ?_) ?_
  · have hks : k < x.2.2.1.length := by omega
    simp only [spec_l10Start.l0_succ _ mk_ok]
    have hb := SDn_nn (c := x.1) (d := 0) hst (n := k)
    have hb2 := hst _ (List.getElem_mem hks)
    have hl1 := vert_low h.1 hv h1 hk
    rw [SDn_succ,if_pos (by omega),getD_lt hks] at ih
    refine ev_t (decide_eq_true (by omega)) (ev_bind (idx_lt hks) ?_)
    rw [w64_succ (by omega),w64_small (by omega) (by omega)]; exact ih
  · simp only [spec_l10Start.l0_succ _ mk_ok]
    exact ev_f (decide_eq_false (by omega)) ev_rfl

theorem l10All_ret (x : Shf) (hc : Sm (.sl (.sl (.int .i64))) x.1) (h : VS x.1 x.2.1 x.2.2.1 x.2.2.2.1) : Ret E n_spec_l10All [dS x] ⟨o_spec_l10All,(SD x.1 x.2.2.1 0,())⟩ := by
  refine ret_of ?_
  simp only [run_spec_l10All,spec_l10All.ev]
  exact ev_call (l09Sum_ret x.1 x.2.2.1 0 hc h.2.2.1.1 h.2.2.1.2.1 (by omega)) ev_rfl

/-! sums of rows -/
def addV (a b : Sim) (c p : Int) : Sim := (List.range a.length).map fun i => (a.getD i 0 + c * b.getD i 0) % p

theorem addV_length {a b : Sim} {c p : Int} : (addV a b c p).length = a.length := by simp [addV]

theorem addV_get {a b : Sim} {c p : Int} {i : Nat} (h : i < a.length) : (addV a b c p).getD i 0 = (a.getD i 0 + c * b.getD i 0) % p := by
  simp [addV,List.getD_eq_getElem?_getD,h]

theorem l02Add_ret (a b : Sim) (c p : Int) (hp : 2 ≤ p ∧ p ≤ 251) (hc : 0 ≤ c ∧ c ≤ 250) (hl : a.length ≤ b.length) (ha1 : a.length ≤ 1048576) (ea : ∀ x ∈ a,0 ≤ x ∧ x ≤ 250) (eb : ∀ x ∈ b,0 ≤ x ∧ x ≤ 250) :
    Ret E n_spec_l02Add [dL a,dL b,dI c,dI p] ⟨o_spec_l02Add,(addV a b c p,())⟩ := by
  refine ret_of ?_
  simp only [run_spec_l02Add,spec_l02Add.ev]
  refine Ev.start (p := fun φ n => spec_l02Add.l0 (mkR (run E (φ 0))) (φ 0) n a b c p 0 [] = _) 1 ?_ (fun _ _ _ h => h)
  refine fold_loop 1 (L := fun φ n k o => spec_l02Add.l0 (mkR (run E (φ 0))) (φ 0) n a b c p k o) (len := a.length) (fun k => (List.range k).map fun i => (a.getD i 0 + c * b.getD i 0) % p) (fun _ _ _ _ _ => rfl) (fun k r hk ih => ?_) ?_
  · simp only [spec_l02Add.l0_succ _ mk_ok]
    have hkb : k < b.length := by omega
    have h1 := ea _ (List.getElem_mem hk)
    have h2 := mul_in hc (eb _ (List.getElem_mem hkb))
    rw [List.range_succ,List.map_append,List.map_singleton,getD_lt hk,getD_lt hkb] at ih
    refine ev_t (decide_eq_true (by omega)) (ev_bind (idx_lt hk) (ev_bind (idx_lt hkb) (ev_chk (by simp; omega) ?_)))
    rw [w64_small (n := c * b[k]) (by omega) (by omega),w64_small (by omega) (by omega),Int.tmod_eq_emod_of_nonneg (by omega),w64_succ (by omega)]
    exact ev_chk (by simp; omega) ih
  · simp only [spec_l02Add.l0_succ _ mk_ok]
    exact ev_f (decide_eq_false (by omega)) ev_rfl

/-! rows in a wider matrix -/
def rowSt (m : Mat) (a : Nat) (t : Int) (i n : Nat) : St := (List.range n).map fun j => (a + j,m.2.2.2.1.getD (i * m.2.2.1.toNat + j) 0 * t % m.1)
def rowW (m : Mat) (a n : Nat) (t : Int) (i : Nat) : Sim := upds (rowSt m a t i m.2.2.1.toNat) (List.replicate n 0)

theorem rowSt_succ {m : Mat} {a : Nat} {t : Int} {i n : Nat} {cs : Sim} : upds (rowSt m a t i (n + 1)) cs = (upds (rowSt m a t i n) cs).set (a + n) (m.2.2.2.1.getD (i * m.2.2.1.toNat + n) 0 * t % m.1) := by
  unfold rowSt
  rw [List.range_succ,List.map_append,upds_append]; rfl

theorem rowW_length {m : Mat} {a n : Nat} {t : Int} {i : Nat} : (rowW m a n t i).length = n := by rw [rowW,upds_length,List.length_replicate]

theorem rowW_hit {m : Mat} {a n : Nat} {t : Int} {i j : Nat} (hj : j < m.2.2.1.toNat) (hn : a + j < n) : (rowW m a n t i).getD (a + j) 0 = m.2.2.2.1.getD (i * m.2.2.1.toNat + j) 0 * t % m.1 := by
  unfold rowW
  refine upds_hit (by rw [List.length_replicate]; exact hn) (fun x hx e => ?_) ⟨_,List.mem_map.2 ⟨j,List.mem_range.2 hj,rfl⟩,rfl⟩
  obtain ⟨j',_,rfl⟩ := List.mem_map.1 hx
  simp only at e ⊢
  obtain rfl : j' = j := by omega
  rfl

theorem rowW_miss {m : Mat} {a n : Nat} {t : Int} {i g : Nat} (h : ¬ (a ≤ g ∧ g < a + m.2.2.1.toNat)) : (rowW m a n t i).getD g 0 = 0 := by
  unfold rowW
  rw [upds_miss fun x hx e => ?_]
  · rw [List.getD_eq_getElem?_getD,List.getElem?_replicate]; split <;> rfl
  · obtain ⟨j',hj',rfl⟩ := List.mem_map.1 hx
    have := List.mem_range.1 hj'
    simp only at e
    omega

theorem rowW_elems {m : Mat} {a n : Nat} {t : Int} {i : Nat} (hp : 2 ≤ m.1) : Elems (rowW m a n t i) m.1 := by
  refine upds_elems (rep_elems hp) fun q hq => ?_
  obtain ⟨j,_,rfl⟩ := List.mem_map.1 hq
  have h0 := Int.emod_nonneg (m.2.2.2.1.getD (i * m.2.2.1.toNat + j) 0 * t) (show m.1 ≠ 0 by omega)
  have h1 := Int.emod_lt_of_pos (m.2.2.2.1.getD (i * m.2.2.1.toNat + j) 0 * t) (show 0 < m.1 by omega)
  simp only; omega

theorem l10Rows_ret (m : Mat) (a n : Nat) (t : Int) (hm : VM m) (ha : (a : Int) + m.2.2.1 ≤ n) (hn : n ≤ 1048576) (ht : 0 ≤ t ∧ t ≤ 250) : Ret E n_spec_l10Rows [dM m,dI (a : Int),dI (n : Int),dI t] ⟨o_spec_l10Rows,((List.range m.2.1.toNat).map (rowW m a n t),())⟩ := by
  obtain ⟨R,C,em,hR,hC,hlen⟩ := hm.nat
  have hp : 2 ≤ m.1 ∧ m.1 ≤ 251 := ⟨hm.1.1,hm.1.2.1⟩
  have el := hm.2.2.2.2
  have eR : m.2.1 = (R : Int) := congrArg (fun m : Mat => m.2.1) em
  have eC : m.2.2.1 = (C : Int) := congrArg (fun m : Mat => m.2.2.1) em
  have hRC := rc_le hR hC
  rw [eC] at ha
  rw [eR,Int.toNat_natCast]
  refine ret_of ?_
  simp only [run_spec_l10Rows,spec_l10Rows.ev]
  refine Ev.start (p := fun φ q => spec_l10Rows.l0 (mkR (run E (φ 0))) (φ 0) q m (a : Int) (n : Int) t 0 [] = _) 1 ?_ (fun _ _ _ h => h)
  refine fold_loop 1 (L := fun φ q i o => spec_l10Rows.l0 (mkR (run E (φ 0))) (φ 0) q m (a : Int) (n : Int) t i o) (len := R) (fun i => (List.range i).map (rowW m a n t)) (fun _ _ _ _ _ => rfl) (fun i r hi ih => ?_) ?_
  · simp only [spec_l10Rows.l0_succ _ mk_ok,eR,Int.toNat_natCast]
    rw [List.range_succ,List.map_append,List.map_singleton] at ih
    refine ev_t (decide_eq_true (by omega)) (ev_chk (by simp only [Bool.and_eq_true,decide_eq_true_eq]; omega) ?_)
    refine Ev.start (p := fun φ q => spec_l10Rows.l1 (mkR (run E (φ 0))) (φ 0) (φ 1) q m (a : Int) (n : Int) t (i : Int) 0 ((List.range i).map (rowW m a n t)) (List.replicate n 0) = _) 2 ?_ (fun _ _ _ h => h)
    refine fold_loop 2 (L := fun φ q j o => spec_l10Rows.l1 (mkR (run E (φ 0))) (φ 0) (φ 1) q m (a : Int) (n : Int) t (i : Int) j ((List.range i).map (rowW m a n t)) o) (len := C) (fun j => upds (rowSt m a t i j) (List.replicate n 0)) (fun _ _ _ _ _ => rfl) (fun j q hj ih2 => ?_) ?_
    · simp only [spec_l10Rows.l1_succ _ mk_ok]
      have hij : i * C + j < m.2.2.2.1.length := by rw [hlen]; exact lt_rc hi hj
      have hx := el.get hp (i * C + j)
      rw [rowSt_succ,eC,Int.toNat_natCast,getD_lt hij] at ih2
      rw [getD_lt hij] at hx
      have hol' : (upds (rowSt m a t i j) (List.replicate n 0)).length = n := by rw [upds_length,List.length_replicate]
      have ev := val_eq hx ht hp
      have e1 : w64 (w64 ((i : Int) * (C : Int)) + (j : Int)) = ((i * C + j : Nat) : Int) := by
        rw [cast_mul,w64_small (n := ((i * C : Nat) : Int)) (by omega) (by omega),w64_small (by omega) (by omega)]; omega
      have e2 : w64 ((a : Int) + (j : Int)) = ((a + j : Nat) : Int) := by rw [w64_small (by omega) (by omega)]; omega
      simp only [eC,e1,e2,hol',Int.toNat_natCast]
      refine ev_t (decide_eq_true (by omega)) (ev_bind (idx_lt hij) (ev_chk (by simp; omega) ?_))
      simp only [ev]
      refine ev_chk (by simp only [Bool.and_eq_true,decide_eq_true_eq]; omega) ?_
      rw [w64_succ (by omega)]
      exact ih2
    · simp only [spec_l10Rows.l1_succ _ mk_ok,eC]
      refine ev_f (decide_eq_false (by omega)) (ev_chk (by simp; omega) ?_)
      rw [w64_succ (by omega)]
      rw [rowW,eC,Int.toNat_natCast] at ih
      exact ih
  · simp only [spec_l10Rows.l0_succ _ mk_ok,eR]
    exact ev_f (decide_eq_false (by omega)) ev_rfl

theorem l10Sum_ret (a b : List Sim) (p : Int) (hp : 2 ≤ p ∧ p ≤ 251) (hl : b.length = a.length) (ha : a.length ≤ 1048576) (hr : ∀ i (h : i < a.length) (h' : i < b.length),a[i].length ≤ b[i].length ∧ a[i].length ≤ 1048576 ∧ (∀ x ∈ a[i],0 ≤ x ∧ x ≤ 250) ∧ ∀ x ∈ b[i],0 ≤ x ∧ x ≤ 250) :
    Ret E n_spec_l10Sum [dLL a,dLL b,dI p] ⟨o_spec_l10Sum,((List.range a.length).map fun i => addV (a.getD i []) (b.getD i []) 1 p,())⟩ := by
  refine ret_of ?_
  simp only [run_spec_l10Sum,spec_l10Sum.ev]
  refine Ev.start (p := fun φ n => spec_l10Sum.l0 (mkR (run E (φ 0))) (φ 0) n a b p 0 [] = _) 1 ?_ (fun _ _ _ h => h)
  refine fold_loop 1 (L := fun φ n k o => spec_l10Sum.l0 (mkR (run E (φ 0))) (φ 0) n a b p k o) (len := a.length) (fun k => (List.range k).map fun i => addV (a.getD i []) (b.getD i []) 1 p) (fun _ _ _ _ _ => rfl) (fun k r hk ih => ?_) ?_
  · simp only [spec_l10Sum.l0_succ _ mk_ok]
    have hkb : k < b.length := by omega
    obtain ⟨h1,h2,h3,h4⟩ := hr k hk hkb
    rw [List.range_succ,List.map_append,List.map_singleton,getD_lt hk,getD_lt hkb] at ih
    refine ev_t (decide_eq_true (by omega)) (ev_bind (idx_lt hk) (ev_bind (idx_lt hkb) (ev_call (l02Add_ret a[k] b[k] 1 p hp (by omega) h1 h2 h3 h4) (ev_chk (by simp; omega) ?_))))
    rw [w64_succ (by omega)]; exact ih
  · simp only [spec_l10Sum.l0_succ _ mk_ok]
    exact ev_f (decide_eq_false (by omega)) ev_rfl

end VeT

open Go Go.Proofs Ve
set_option linter.unusedVariables false
set_option linter.unusedSimpArgs false
namespace VeT

/-- a row of the coboundary matrix -/
noncomputable def rowC (c : List Sim) (p : Int) (st : Sim) (ms : List Mat) (k : Int) (r : Nat) : Sim := (List.range (SD c st k).toNat).map fun g => (cobC c p st ms k).getD (r * (SD c st k).toNat + g) 0

theorem rowC_length {c : List Sim} {p : Int} {st : Sim} {ms : List Mat} {k : Int} {r : Nat} : (rowC c p st ms k r).length = (SD c st k).toNat := by simp [rowC]

theorem rowC_get {c : List Sim} {p : Int} {st : Sim} {ms : List Mat} {k : Int} {r g : Nat} (h : g < (SD c st k).toNat) : (rowC c p st ms k r).getD g 0 = (cobC c p st ms k).getD (r * (SD c st k).toNat + g) 0 := by
  simp [rowC,List.getD_eq_getElem?_getD,h]

theorem getD_ext {a b : Sim} (hl : a.length = b.length) (h : ∀ i,i < a.length → a.getD i 0 = b.getD i 0) : a = b := by
  refine List.ext_getElem hl fun i h1 h2 => ?_
  have := h i h1
  rwa [getD_lt h1,getD_lt h2] at this

theorem fIdx_edge {c : List Sim} {s : Nat} (h2 : (c.getD s []).length = 2) : (fIdx c s).length = 2 := by
  rw [fIdx_length,if_pos (by omega)]; exact h2

/-- an edge's row: both its vertices' columns -/
theorem edge_row {c : List Sim} {p : Int} {st : Sim} {ms : List Mat} (h : VS c p st ms) {s i : Nat} (hs : s < c.length) (h2 : (c.getD s []).length = 2) (hi : i < (st.getD s 0).toNat) :
    addV (rowW (mp c ms s 0) (FC c st (fc c s 0)).toNat (SD c st 0).toNat 1 i) (rowW (mp c ms s 1) (FC c st (fc c s 1)).toNat (SD c st 0).toNat (p - 1) i) 1 p = rowC c p st ms 0 ((FC c st s).toNat + i) := by
  have hst := h.2.2.1.2.1
  have hp : 2 ≤ p ∧ p ≤ 251 := ⟨h.2.1.1,h.2.1.2.1⟩
  have hfl := fIdx_edge h2
  have hd : ((c.getD s []).length : Int) = 0 + 2 := by omega
  obtain ⟨a1,a2,a3,a4,a5,a6,a7⟩ := cob_geo h hs hd (a := 0) (by omega)
  obtain ⟨b1,b2,b3,b4,b5,b6,b7⟩ := cob_geo h hs hd (a := 1) (by omega)
  obtain ⟨_,A⟩ := h.map hs (i := 0) (by omega)
  obtain ⟨_,B⟩ := h.map hs (i := 1) (by omega)
  have hne : fc c s 0 ≠ fc c s 1 := fun e => by have := fc_inj h.1 hs (a := 0) (b := 1) (by omega) (by omega) e; omega
  have na := st_nn hst (fc c s 0)
  have nb := st_nn hst (fc c s 1)
  refine getD_ext (by rw [addV_length,rowW_length,rowC_length]) fun g hg => ?_
  rw [addV_length,rowW_length] at hg
  rw [addV_get (by rw [rowW_length]; exact hg),rowC_get hg]
  have one : ∀ x : Int,(x % p + 1 * 0) % p = x % p := fun x => by rw [Int.mul_zero,Int.add_zero,Int.emod_emod_of_dvd _ (Int.dvd_refl p)]
  have two : ∀ x : Int,(0 + 1 * (x % p)) % p = x % p := fun x => by rw [Int.one_mul,Int.zero_add,Int.emod_emod_of_dvd _ (Int.dvd_refl p)]
  have A1 : (mp c ms s 0).1 = p := A.2.1
  have B1 : (mp c ms s 1).1 = p := B.2.1
  by_cases hA : (FC c st (fc c s 0)).toNat ≤ g ∧ g < (FC c st (fc c s 0)).toNat + (st.getD (fc c s 0) 0).toNat
  · obtain ⟨j,rfl⟩ : ∃ j,g = (FC c st (fc c s 0)).toNat + j := ⟨g - (FC c st (fc c s 0)).toNat,by omega⟩
    have hj : j < (st.getD (fc c s 0) 0).toNat := by omega
    rw [rowW_hit (by rw [a2]; exact hj) hg,rowW_miss (m := mp c ms s 1),A1,one]
    · rw [cob_hit h (by omega) hs hd (a := 0) (by omega) hi hj]; rfl
    · rw [b2]
      intro hh
      obtain ⟨q,hq⟩ : ∃ q,(FC c st (fc c s 0)).toNat + j = (FC c st (fc c s 1)).toNat + q := ⟨(FC c st (fc c s 0)).toNat + j - (FC c st (fc c s 1)).toNat,by omega⟩
      exact hne (FC_uniq hst (by omega) hj (i' := q) (by omega) hq).1
  · by_cases hB : (FC c st (fc c s 1)).toNat ≤ g ∧ g < (FC c st (fc c s 1)).toNat + (st.getD (fc c s 1) 0).toNat
    · obtain ⟨j,rfl⟩ : ∃ j,g = (FC c st (fc c s 1)).toNat + j := ⟨g - (FC c st (fc c s 1)).toNat,by omega⟩
      have hj : j < (st.getD (fc c s 1) 0).toNat := by omega
      rw [rowW_miss (m := mp c ms s 0) (by rw [a2]; exact hA),rowW_hit (by rw [b2]; exact hj) hg,B1,two]
      rw [cob_hit h (by omega) hs hd (a := 1) (by omega) hi hj]; rfl
    · rw [rowW_miss (m := mp c ms s 0) (by rw [a2]; exact hA),rowW_miss (m := mp c ms s 1) (by rw [b2]; exact hB)]
      rw [cob_miss h hs hd hi hg fun a ha => ?_]
      · simp
      · have : a = 0 ∨ a = 1 := by omega
        rcases this with rfl | rfl
        · exact hA
        · exact hB

/-- the conditions of a section -/
noncomputable def conds (c : List Sim) (p : Int) (st : Sim) (ms : List Mat) (n : Nat) : List Sim := (List.range n).map (rowC c p st ms 0)

theorem conds_add {c : List Sim} {p : Int} {st : Sim} {ms : List Mat} {a b : Nat} : conds c p st ms (a + b) = conds c p st ms a ++ (List.range b).map fun i => rowC c p st ms 0 (a + i) := by
  induction b with
  | zero => simp
  | succ b ih =>
    unfold conds at ih ⊢
    rw [← Nat.add_assoc,List.range_succ,List.map_append,ih,List.range_succ,List.map_append,List.append_assoc]; rfl

theorem conds_length {c : List Sim} {p : Int} {st : Sim} {ms : List Mat} {n : Nat} : (conds c p st ms n).length = n := by simp [conds]

theorem sumD_FC {c : List Sim} {st : Sim} {d : Int} {t s : Nat} (ht : t < (ofDim c d c.length).length) (hs : (ofDim c d c.length)[t] = (s : Int)) (hd : ((c.getD s []).length : Int) = d + 1) (hsl : s < c.length) : sumD c st d t = FC c st s := by
  obtain ⟨tl,e⟩ := ofDim_pre (c := c) (d := d) hsl hd
  have hu : t = (ofDim c d s).length := by
    rcases Nat.lt_trichotomy t (ofDim c d s).length with h | h | h
    · have h1 : (ofDim c d c.length)[t]? = (ofDim c d s)[t]? := by rw [e,List.getElem?_append_left h]
      rw [List.getElem?_eq_getElem ht,List.getElem?_eq_getElem h,hs] at h1
      obtain ⟨i,hi,his⟩ := ofDim_mem (List.getElem_mem h)
      have := Option.some.inj h1
      omega
    · exact h
    · -- behind s only greater ones
      exfalso
      have hmono : ∀ n m i j,i < (ofDim c d n).length → j < (ofDim c d n).length → i < j → m = n → (ofDim c d n).getD i 0 < (ofDim c d n).getD j 0 := by
        intro n
        induction n with
        | zero => intro m i j hi; simp [ofDim] at hi
        | succ n ih =>
          intro m i j hi hj hij hm
          rw [ofDim_succ] at hi hj ⊢
          by_cases hl : ((c.getD n []).length : Int) = d + 1
          · rw [if_pos hl] at hi hj ⊢
            rw [List.length_append,List.length_singleton] at hi hj
            by_cases hjn : j < (ofDim c d n).length
            · have := ih n i j (by omega) hjn hij rfl
              rw [List.getD_eq_getElem?_getD,List.getD_eq_getElem?_getD,List.getElem?_append_left (by omega),List.getElem?_append_left hjn]
              rw [List.getD_eq_getElem?_getD,List.getD_eq_getElem?_getD] at this
              exact this
            · have hin : i < (ofDim c d n).length := by omega
              obtain ⟨q,hq,hqn⟩ := ofDim_mem (List.getElem_mem hin)
              rw [List.getD_eq_getElem?_getD,List.getD_eq_getElem?_getD,List.getElem?_append_left hin,List.getElem?_append_right (by omega),List.getElem?_eq_getElem hin,hq,show j - (ofDim c d n).length = 0 by omega]
              simp; omega
          · rw [if_neg hl,List.append_nil] at hi hj ⊢
            exact ih n i j hi hj hij rfl
      have hlt : (ofDim c d s).length < (ofDim c d c.length).length := by rw [e]; simp
      have := hmono c.length c.length _ t hlt ht h rfl
      rw [getD_lt ht,hs,List.getD_eq_getElem?_getD,e,List.getElem?_append_right (Nat.le_refl _),Nat.sub_self] at this
      simp at this
  have hdd : ((c.getD s []).length : Int) - 1 = d := by omega
  unfold FC
  rw [hdd]
  unfold sumD SDn
  rw [hu,e,List.take_left' rfl]

theorem l10Conditions_ret (x : Shf) (hc : Sm (.sl (.sl (.int .i64))) x.1) (h : VS x.1 x.2.1 x.2.2.1 x.2.2.2.1) : Ret E n_spec_l10Conditions [dS x] ⟨o_spec_l10Conditions,(conds x.1 x.2.1 x.2.2.1 x.2.2.2.1 (SD x.1 x.2.2.1 1).toNat,())⟩ := by
  obtain ⟨c,p,st,ms,⟨⟩⟩ := x
  have hc : Sm (.sl (.sl (.int .i64))) c := hc
  have h : VS c p st ms := h
  show Ret E n_spec_l10Conditions [dS (c,p,st,ms,())] ⟨o_spec_l10Conditions,(conds c p st ms (SD c st 1).toNat,())⟩
  obtain ⟨W,eW,bW,tW⟩ := SD_nat h 0
  obtain ⟨H,eH,bH,tH⟩ := SD_nat h 1
  have hst := h.2.2.1.2.1
  have h48 := h.1.1
  have hp : 2 ≤ p ∧ p ≤ 251 := ⟨h.2.1.1,h.2.1.2.1⟩
  have hol := ofDim_length c 1 c.length
  have ep : w64 (p - 1) = p - 1 := w64_small (by omega) (by omega)
  have all := l10All_ret (c,p,st,ms,()) hc h
  rw [show SD (c,p,st,ms,()).1 (c,p,st,ms,()).2.2.1 0 = (W : Int) from eW] at all
  refine ret_of ?_
  simp only [run_spec_l10Conditions,spec_l10Conditions.ev]
  refine ev_call all (ev_call (l05Of_ret c 1 hc (by omega)) ?_)
  refine Ev.start (p := fun φ n => spec_l10Conditions.l0 (mkR (run E (φ 0))) (φ 0) n (c,p,st,ms,()) (W : Int) (ofDim c 1 c.length) 0 [] = _) 1 ?_ (fun _ _ _ h => h)
  have := fold_loop 1 (L := fun φ n t o => spec_l10Conditions.l0 (mkR (run E (φ 0))) (φ 0) n (c,p,st,ms,()) (W : Int) (ofDim c 1 c.length) t o) (len := (ofDim c 1 c.length).length) (fun t => conds c p st ms (sumD c st 1 t).toNat) (r := some ⟨o_spec_l10Conditions,(conds c p st ms (SD c st 1).toNat,())⟩) (fun _ _ _ _ _ => rfl) (fun t q ht ih => ?_) ?_
  · exact this
  · simp only [spec_l10Conditions.l0_succ _ mk_ok]
    obtain ⟨s,hse,hs,hd⟩ := ofDim_iff.1 (List.getElem_mem ht)
    have hg : (ofDim c 1 c.length)[t]? = some (s : Int) := by rw [List.getElem?_eq_getElem ht,hse]
    have h2 : (c.getD s []).length = 2 := by omega
    have hfl := fIdx_edge h2
    have hd0 : ((c.getD s []).length : Int) = 0 + 2 := by omega
    obtain ⟨a1,a2,a3,a4,a5,a6,a7⟩ := cob_geo h hs hd0 (a := 0) (by omega)
    obtain ⟨b1,b2,b3,b4,b5,b6,b7⟩ := cob_geo h hs hd0 (a := 1) (by omega)
    obtain ⟨_,A⟩ := h.map hs (i := 0) (by omega)
    obtain ⟨_,B⟩ := h.map hs (i := 1) (by omega)
    obtain ⟨ix0,_,_⟩ := fc_get h.1 hs (i := 0) (by omega)
    obtain ⟨ix1,_,_⟩ := fc_get h.1 hs (i := 1) (by omega)
    have na := st_nn hst (fc c s 0)
    have nb := st_nn hst (fc c s 1)
    have ns := st_nn hst s
    have f0 := l10Start_ret (c,p,st,ms,()) (fc c s 0) a3 (by show (c.getD (fc c s 0) []).length = 1; omega) h
    have f1 := l10Start_ret (c,p,st,ms,()) (fc c s 1) b3 (by show (c.getD (fc c s 1) []).length = 1; omega) h
    obtain ⟨T0,e0⟩ := Int.eq_ofNat_of_zero_le a6
    obtain ⟨T1,e1⟩ := Int.eq_ofNat_of_zero_le b6
    rw [show FC (c,p,st,ms,()).1 (c,p,st,ms,()).2.2.1 (fc c s 0) = (T0 : Int) from e0] at f0
    rw [show FC (c,p,st,ms,()).1 (c,p,st,ms,()).2.2.1 (fc c s 1) = (T1 : Int) from e1] at f1
    have r0 := l10Rows_ret (mp c ms s 0) T0 W 1 A.1 (by omega) (by omega) (by omega)
    have r1 := l10Rows_ret (mp c ms s 1) T1 W (p - 1) B.1 (by omega) (by omega) (by omega)
    have A1 : (mp c ms s 0).1 = p := A.2.1
    have B1 : (mp c ms s 1).1 = p := B.2.1
    have hR0 : (mp c ms s 0).2.1.toNat = (st.getD s 0).toNat := by rw [a1]
    have hR1 : (mp c ms s 1).2.1.toNat = (st.getD s 0).toNat := by rw [b1]
    rw [hR0] at r0
    rw [hR1] at r1
    have hin : ∀ m : Mat,m.1 = p → ∀ a t i,∀ x ∈ rowW m a W t i,0 ≤ x ∧ x ≤ 250 := fun m hm a t i x hx => by
      have := rowW_elems (m := m) (a := a) (n := W) (t := t) (i := i) (by omega)
      rw [hm] at this
      exact this.mem hp x hx
    have sm := l10Sum_ret ((List.range (st.getD s 0).toNat).map (rowW (mp c ms s 0) T0 W 1)) ((List.range (st.getD s 0).toNat).map (rowW (mp c ms s 1) T1 W (p - 1))) p hp (by simp) (by rw [List.length_map,List.length_range]; omega) (fun i hi hi' => by
      simp only [List.getElem_map,List.getElem_range,rowW_length]
      exact ⟨Nat.le_refl _,by omega,hin _ A1 _ _ _,hin _ B1 _ _ _⟩)
    rw [List.length_map,List.length_range] at sm
    have hbk := sumD_le hst 1 t (c := c)
    have hFC := sumD_FC ht hse hd hs (st := st)
    have hrow : ((List.range (st.getD s 0).toNat).map fun i => addV (((List.range (st.getD s 0).toNat).map (rowW (mp c ms s 0) T0 W 1)).getD i []) (((List.range (st.getD s 0).toNat).map (rowW (mp c ms s 1) T1 W (p - 1))).getD i []) 1 p) = (List.range (st.getD s 0).toNat).map fun i => rowC c p st ms 0 ((sumD c st 1 t).toNat + i) := List.map_congr_left fun i hi => by
      have hi := List.mem_range.1 hi
      have hE := edge_row h hs h2 hi
      rw [e0,e1,Int.toNat_natCast,Int.toNat_natCast,tW] at hE
      rw [hFC,← hE]
      generalize (st.getD s 0).toNat = n at hi ⊢
      simp [List.getD_eq_getElem?_getD,hi]
    rw [hrow] at sm
    rw [sumD_succ _ _ _ _ ht,hse,Int.toNat_natCast,show (sumD c st 1 t + st.getD s 0).toNat = (sumD c st 1 t).toNat + (st.getD s 0).toNat by omega,conds_add] at ih
    refine ev_t (decide_eq_true (by omega)) (ev_bind (idx_nat.trans hg) (ev_call (l05Faces_ret c s hs hc) (ev_bind (idx_nat.trans hg) (ev_bind ix0 (ev_call (l09Get_ret (c,p,st,ms,()) s 0 hs (by show 0 < (fIdx c s).length; omega) h) (ev_call f0 (ev_call r0 (ev_bind (idx_nat.trans hg) (ev_bind ix1 (ev_call (l09Get_ret (c,p,st,ms,()) s 1 hs (by show 1 < (fIdx c s).length; omega) h) (ev_call f1 ?_)))))))))))
    simp only [ep]
    refine ev_call r1 (ev_call sm (ev_chk (by simp only [conds_length,List.length_map,List.length_range,decide_eq_true_eq]; omega) ?_))
    rw [w64_succ (by omega)]
    exact ih
  · simp only [spec_l10Conditions.l0_succ _ mk_ok]
    exact ev_f (decide_eq_false (by omega)) ev_rfl

end VeT

open Go Go.Proofs Ve
set_option linter.unusedVariables false
set_option linter.unusedSimpArgs false
namespace VeT

/-! the first vertex -/
noncomputable def fvx (c : List Sim) (s : Nat) : Nat := (findI c ((c.getD s []).take 1)).toNat

theorem take_mem {c : List Sim} (h : VC c) {s : Nat} (hs : s < c.length) : ∀ d n,n + d = (c.getD s []).length → 1 ≤ n → (c.getD s []).take n ∈ c
  | 0,n,e,_ => by
    rw [List.take_of_length_le (by omega),getD_lt hs]; exact List.getElem_mem hs
  | d + 1,n,e,h1 => by
    have hm := take_mem h hs d (n + 1) (by omega) (by omega)
    obtain ⟨k,hk,ek⟩ := List.mem_iff_getElem.1 hm
    have hf := h.2.2.2 k hk ((c.getD s []).take n) (faces_mem.2 ⟨?_,n,?_,?_⟩)
    · exact hf
    · rw [getD_lt hk,ek,List.length_take]; omega
    · rw [getD_lt hk,ek,List.length_take]; omega
    · rw [getD_lt hk,ek]
      apply List.ext_getElem?
      intro j
      rw [List.getElem?_eraseIdx,List.getElem?_take,List.getElem?_take,List.getElem?_take]
      by_cases hj : j < n
      · rw [if_pos hj,if_pos hj,if_pos (by omega)]
      · rw [if_neg hj,if_neg hj,if_neg (by omega)]

theorem fvx_get {c : List Sim} (h : VC c) {s : Nat} (hs : s < c.length) : findI c ((c.getD s []).take 1) = ((fvx c s : Nat) : Int) ∧ fvx c s < c.length ∧ c.getD (fvx c s) [] = (c.getD s []).take 1 ∧ (c.getD (fvx c s) []).length = 1 ∧ Part (c.getD (fvx c s) []) (c.getD s []) := by
  have h1 := h.len1 hs
  have hm := take_mem h hs ((c.getD s []).length - 1) 1 (by omega) (by omega)
  have h0 := findI_nonneg.2 hm
  have hlt := findI_lt (c := c) (s := (c.getD s []).take 1)
  have hg := findI_get hm
  refine ⟨by unfold fvx; omega,by unfold fvx; omega,hg,?_,fun y hy => ?_⟩
  · show (c.getD (findI c ((c.getD s []).take 1)).toNat []).length = 1
    rw [hg,List.length_take]; omega
  · have hy : y ∈ c.getD (findI c ((c.getD s []).take 1)).toNat [] := hy
    rw [hg] at hy
    exact List.mem_of_mem_take hy

theorem firstVertex_ret (x : Shf) (s : Nat) (hs : s < x.1.length) (hc : Sm (.sl (.sl (.int .i64))) x.1) (h : VC x.1) : Ret E n_impl_firstVertex [dLL x.1,dI x.2.1,dL x.2.2.1,dMs x.2.2.2.1,dI (s : Int)] ⟨o_impl_firstVertex,((fvx x.1 s : Nat),())⟩ := by
  have h1 := h.len1 hs
  have hg := (fvx_get h hs).1
  rw [getD_lt hs] at h1 hg
  refine ret_of ?_
  simp only [run_impl_firstVertex,impl_firstVertex.ev]
  refine ev_bind (idx_lt hs) (ev_chk (by simp only [Bool.and_eq_true,decide_eq_true_eq]; omega) (ev_call (indexOf_ret x.1 _ hc h.srt) (ev_some ?_)))
  rw [← hg]; rfl

theorem l10First_ret (x : Shf) (s : Nat) (hs : s < x.1.length) (hc : Sm (.sl (.sl (.int .i64))) x.1) (h : VC x.1) : Ret E n_spec_l10First [dS x,dI (s : Int)] ⟨o_spec_l10First,((fvx x.1 s : Nat),())⟩ := by
  have h1 := h.len1 hs
  have hg := (fvx_get h hs).1
  rw [getD_lt hs] at h1 hg
  refine ret_of ?_
  simp only [run_spec_l10First,spec_l10First.ev]
  refine ev_bind (idx_lt hs) (ev_chk (by simp only [Bool.and_eq_true,decide_eq_true_eq]; omega) (ev_call (l05Find_ret (x.1,()) _ hc) (ev_some ?_)))
  rw [← hg]; rfl

/-! the column of a section at a simplex -/
theorem restV_cols {c : List Sim} {p : Int} {st : Sim} {ms : List Mat} {f : Nat} (hst : ∀ x ∈ st,0 ≤ x ∧ x ≤ 3) : ∀ {d k : Nat},(restV c p st ms f d k).2.2.1 = st.getD f 0
  | 0,k => by
    have := st_nn hst f
    show (((st.getD f 0).toNat : Nat) : Int) = _; omega
  | d + 1,k => by
    have := st_nn hst f
    rw [restV]; split
    · show (((st.getD f 0).toNat : Nat) : Int) = _; omega
    · exact restV_cols hst (d := d)

noncomputable def restX (x : Shf) (f k : Nat) : Mat := restV x.1 x.2.1 x.2.2.1 x.2.2.2.1 f (x.1.getD k []).length k

end VeT

open Go Go.Proofs Ve
set_option linter.unusedVariables false
set_option linter.unusedSimpArgs false
namespace VeT

/-! places -/
def Plcs (c : List Sim) (w : Sim) : Prop := Rises w ∧ ∀ y ∈ w,0 ≤ y ∧ y ≤ (c.length : Int) - 1

theorem arePlaces_ret (x : Shf) (w : Sim) (hc : x.1.length ≤ 1048576) (hw : Sm (.sl (.int .i64)) w) : Ret E n_impl_arePlaces [dLL x.1,dI x.2.1,dL x.2.2.1,dMs x.2.2.2.1,dL w] ⟨o_impl_arePlaces,(pb (Plcs x.1 w),())⟩ := by
  refine ret_of ?_
  simp only [run_impl_arePlaces,impl_arePlaces.ev]
  refine ev_call (isRising_ret w hw) (ev_b (fun h => ev_call (sizeL_ret x.1) (ev_call (areElements_ret w (x.1.length : Int) hw.1 ⟨by omega,by omega⟩) (ev_some ?_))) fun h => ev_some ?_)
  · have h := pb_iff.1 (show pb (Rises w) = true by simpa using h)
    exact congrArg (fun b : Bool => some (⟨o_impl_arePlaces,(b,())⟩ : Dv)) (pb_congr ⟨fun e => ⟨h,e⟩,fun e => e.2⟩)
  · have h := pb_not.1 (show pb (Rises w) = false by simpa using h)
    rw [pb_false fun e => h e.1]

theorem l10Places_ret (x : Shf) (w : Sim) (hc : x.1.length ≤ 1048576) (hw : Sm (.sl (.int .i64)) w) : Ret E n_spec_l10Places [dS x,dL w] ⟨o_spec_l10Places,(pb (Plcs x.1 w),())⟩ := by
  have e : w64 ((x.1.length : Int) - 1) = (x.1.length : Int) - 1 := w64_small (by omega) (by omega)
  refine ret_of ?_
  simp only [run_spec_l10Places,spec_l10Places.ev,e]
  exact ev_call (l00Rises_ret w 0 ((x.1.length : Int) - 1) hw) ev_rfl

theorem Plcs.get {c : List Sim} {w : Sim} (h : Plcs c w) {i : Nat} (hi : i < w.length) : ∃ n : Nat,w[i] = (n : Int) ∧ n < c.length := by
  have := h.2 _ (List.getElem_mem hi)
  exact ⟨(w[i]).toNat,by omega,by omega⟩

open Classical in
noncomputable def PC (x : Shf) (w : Sim) : Int := if ISh x then (if Plcs x.1 w then 0 else 2) else 1

theorem PC_zero {x : Shf} {w : Sim} : PC x w = 0 ↔ ISh x ∧ Plcs x.1 w := by
  unfold PC; split
  · rename_i h
    split
    · rename_i h2; exact ⟨fun _ => ⟨h,h2⟩,fun _ => rfl⟩
    · rename_i h2; exact ⟨fun e => by omega,fun e => absurd e.2 h2⟩
  · rename_i h; exact ⟨fun e => by omega,fun e => absurd e.1 h⟩

theorem placed_ret (x : Shf) (w : Sim) (hx : Sm (.st cS) x) (hw : Sm (.sl (.int .i64)) w) : Ret E n_impl_placed [dLL x.1,dI x.2.1,dL x.2.2.1,dMs x.2.2.2.1,dL w] ⟨o_impl_placed,(PC x w,())⟩ := by
  refine ret_of ?_
  simp only [run_impl_placed,impl_placed.ev]
  refine ev_call (implIsSheaf_ret x hx) (ev_b (fun h => ev_some ?_) fun h => ev_call (arePlaces_ret x w hx.1.1 hw) (ev_b (fun h2 => ev_some ?_) fun h2 => ev_some ?_))
  · rw [PC,if_neg (pb_not.1 (show pb (ISh x) = false by simpa using h))]
  · rw [PC,if_pos (pb_iff.1 (show pb (ISh x) = true by simpa using h)),if_neg (pb_not.1 (show pb (Plcs x.1 w) = false by simpa using h2))]
  · rw [PC,if_pos (pb_iff.1 (show pb (ISh x) = true by simpa using h)),if_pos (pb_iff.1 (show pb (Plcs x.1 w) = true by simpa using h2))]

end VeT

open Go Go.Proofs Ve
set_option linter.unusedVariables false
set_option linter.unusedSimpArgs false
namespace VeT

/-! the first number -/
theorem firstN_min {P : Nat → Prop} : ∀ {d a k : Nat},firstN P a d = some k → ∀ i,a ≤ i → i < k → ¬ P i
  | 0,a,k,h => by simp [firstN] at h
  | d + 1,a,k,h => fun i h1 h2 => by
    rw [firstN] at h
    split at h
    · obtain rfl := Option.some.inj h; omega
    · rename_i hp
      by_cases e : i = a
      · subst e; exact hp
      · exact firstN_min h i (by omega) h2

/-! columns of local data -/
def off (st w : Sim) (n : Nat) : Int := ((w.take n).map fun k => st.getD k.toNat 0).sum

theorem off_succ {st w : Sim} {n : Nat} (hn : n < w.length) {s : Nat} (hs : w[n] = (s : Int)) : off st w (n + 1) = off st w n + st.getD s 0 := by
  unfold off
  rw [List.take_succ_eq_append_getElem hn,List.map_append,List.sum_append,hs]
  simp

theorem off_in {st w : Sim} (hst : ∀ x ∈ st,0 ≤ x ∧ x ≤ 3) : ∀ {n : Nat},0 ≤ off st w n ∧ off st w n ≤ 3 * n
  | 0 => by simp [off]
  | n + 1 => by
    have ih := off_in (w := w) hst (n := n)
    by_cases hn : n < w.length
    · have hb := st_nn hst (w[n]).toNat
      unfold off at ih ⊢
      rw [List.take_succ_eq_append_getElem hn,List.map_append,List.sum_append]
      simp only [List.map_cons,List.map_nil,List.sum_cons,List.sum_nil,Int.add_zero]
      omega
    · unfold off at ih ⊢
      rw [List.take_of_length_le (by omega)] at ih ⊢
      omega

theorem Plcs.le48 {c : List Sim} {w : Sim} (h : Plcs c w) : w.length ≤ c.length := by
  by_cases h0 : w.length = 0
  · omega
  · have hge : ∀ j,∀ hj : j < w.length,(j : Int) ≤ w[j] := by
      intro j
      induction j with
      | zero => intro hj; exact (h.2 _ (List.getElem_mem hj)).1
      | succ j ih =>
        intro hj
        have h1 := ih (by omega)
        have h2 := h.1.lt hj (Nat.lt_succ_self j)
        omega
    have h1 := hge (w.length - 1) (by omega)
    have h2 := (h.2 _ (List.getElem_mem (show w.length - 1 < w.length by omega))).2
    omega

theorem l10Many_ret (x : Shf) (w : Sim) (hl : x.2.2.1.length = x.1.length) (hst : ∀ y ∈ x.2.2.1,0 ≤ y ∧ y ≤ 3) (hw : w.length ≤ 1048576) (hpl : ∀ i (h : i < w.length),∃ n : Nat,w[i] = (n : Int) ∧ n < x.1.length) :
    Ret E n_spec_l10Many [dS x,dL w] ⟨o_spec_l10Many,(off x.2.2.1 w w.length,())⟩ := by
  refine ret_of ?_
  simp only [run_spec_l10Many,spec_l10Many.ev]
  refine Ev.start (p := fun φ n => spec_l10Many.l0 (mkR (run E (φ 0))) (φ 0) n x w 0 0 = _) 1 ?_ (fun _ _ _ h => h)
  refine fold_loop 1 (L := fun φ n k a => spec_l10Many.l0 (mkR (run E (φ 0))) (φ 0) n x w a k) (len := w.length) (fun k => off x.2.2.1 w k) (fun _ _ _ _ _ => rfl) (fun k r hk ih => ?_) ?_
  · simp only [spec_l10Many.l0_succ _ mk_ok]
    obtain ⟨s,hs,hsl⟩ := hpl k hk
    have hg : w[k]? = some (s : Int) := by rw [List.getElem?_eq_getElem hk,hs]
    have hss : s < x.2.2.1.length := by omega
    have hb := off_in (w := w) hst (n := k)
    have hb2 := hst _ (List.getElem_mem hss)
    rw [off_succ hk hs,getD_lt hss] at ih
    refine ev_t (decide_eq_true (by omega)) (ev_bind (idx_nat.trans hg) (ev_bind (idx_lt hss) ?_))
    rw [w64_succ (by omega),w64_small (by omega) (by omega)]; exact ih
  · simp only [spec_l10Many.l0_succ _ mk_ok]
    exact ev_f (decide_eq_false (by omega)) ev_rfl

def starts (st w : Sim) (n : Nat) : Sim := (List.range n).map (off st w)

theorem offsets_ret (x : Shf) (w : Sim) (hl : x.2.2.1.length = x.1.length) (hst : ∀ y ∈ x.2.2.1,0 ≤ y ∧ y ≤ 3) (hw : w.length ≤ 1048576) (hpl : ∀ i (h : i < w.length),∃ n : Nat,w[i] = (n : Int) ∧ n < x.1.length) :
    Ret E n_impl_offsets [dLL x.1,dI x.2.1,dL x.2.2.1,dMs x.2.2.2.1,dL w] ⟨o_impl_offsets,(starts x.2.2.1 w w.length,off x.2.2.1 w w.length,())⟩ := by
  refine ret_of ?_
  simp only [run_impl_offsets,impl_offsets.ev]
  refine Ev.start (p := fun φ n => impl_offsets.l0 (mkR (run E (φ 0))) (φ 0) n 0 w (w.length : Int) 0 x.1 x.2.1 x.2.2.1 x.2.2.2.1 [] = _) 1 ?_ (fun _ _ _ h => h)
  have := fold_loop 1 (L := fun φ n k (a : Int × Sim) => impl_offsets.l0 (mkR (run E (φ 0))) (φ 0) n a.1 w (w.length : Int) k x.1 x.2.1 x.2.2.1 x.2.2.2.1 a.2) (len := w.length) (fun k => (off x.2.2.1 w k,starts x.2.2.1 w k)) (r := some ⟨o_impl_offsets,(starts x.2.2.1 w w.length,off x.2.2.1 w w.length,())⟩) (fun _ _ _ _ _ => rfl) (fun k r hk ih => ?_) ?_
  · exact this
  · simp only [impl_offsets.l0_succ _ mk_ok]
    obtain ⟨s,hs,hsl⟩ := hpl k hk
    have hg : w[k]? = some (s : Int) := by rw [List.getElem?_eq_getElem hk,hs]
    have hss : s < x.2.2.1.length := by omega
    have hb := off_in (w := w) hst (n := k)
    have hb2 := hst _ (List.getElem_mem hss)
    have hle : (starts x.2.2.1 w k).length = k := by simp [starts]
    have es : starts x.2.2.1 w (k + 1) = starts x.2.2.1 w k ++ [off x.2.2.1 w k] := by
      unfold starts; rw [List.range_succ,List.map_append]; rfl
    rw [es] at ih
    simp only at ih
    rw [off_succ hk hs,getD_lt hss] at ih
    refine ev_t (decide_eq_true (by omega)) (ev_bind (idx_nat.trans hg) (ev_chk (decide_eq_true (by simp only [List.length_cons,List.length_nil,hle]; omega)) (ev_bind (idx_lt hss) ?_)))
    rw [w64_succ (by omega),w64_small (by omega) (by omega)]; exact ih
  · simp only [impl_offsets.l0_succ _ mk_ok]
    exact ev_f (decide_eq_false (by omega)) ev_rfl

/-! local data -/
def Dat (x : Shf) (w v : Sim) : Prop := Elems v x.2.1 ∧ (v.length : Int) = off x.2.2.1 w w.length

open Classical in
noncomputable def LC (x : Shf) (w v : Sim) : Int := if PC x w = 0 then (if Dat x w v then 0 else 7) else PC x w

theorem LC_zero {x : Shf} {w v : Sim} : LC x w v = 0 ↔ (ISh x ∧ Plcs x.1 w) ∧ Dat x w v := by
  rw [← PC_zero]
  unfold LC; split
  · rename_i h
    split
    · rename_i h2; exact ⟨fun _ => ⟨h,h2⟩,fun _ => rfl⟩
    · rename_i h2; exact ⟨fun e => by omega,fun e => absurd e.2 h2⟩
  · rename_i h; exact ⟨fun e => absurd e h,fun e => absurd e.1 h⟩

theorem localized_ret (x : Shf) (w v : Sim) (hx : Sm (.st cS) x) (hw : Sm (.sl (.int .i64)) w) (hv : Sm (.sl (.int .i64)) v) : Ret E n_impl_localized [dLL x.1,dI x.2.1,dL x.2.2.1,dMs x.2.2.2.1,dL w,dL v] ⟨o_impl_localized,(LC x w v,())⟩ := by
  refine ret_of ?_
  simp only [run_impl_localized,impl_localized.ev]
  refine ev_call (placed_ret x w hx hw) (ev_b (fun h => ev_some ?_) fun h => ?_)
  · have h : ¬ PC x w = 0 := by simpa using h
    rw [LC,if_neg h]
  · have h : PC x w = 0 := by simpa using h
    obtain ⟨hs,hpl⟩ := PC_zero.1 h
    have hp := hs.1.2.1
    refine ev_call (offsets_ret x w hs.1.2.2.1.1 hs.1.2.2.1.2.1 hw.1 fun i hi => hpl.get hi) (ev_call (isVector_ret v (off x.2.2.1 w w.length) x.2.1 hv.1 ⟨by have := hp.1; omega,by have := hp.2.1; omega⟩) (ev_b (fun h2 => ev_some ?_) fun h2 => ev_some ?_))
    · rw [LC,if_pos h,if_neg (pb_not.1 (show pb (Dat x w v) = false by simpa [Dat] using h2))]
    · rw [LC,if_pos h,if_pos (pb_iff.1 (show pb (Dat x w v) = true by simpa [Dat] using h2))]

theorem l10Data_ret (x : Shf) (w v : Sim) (hl : x.2.2.1.length = x.1.length) (hst : ∀ y ∈ x.2.2.1,0 ≤ y ∧ y ≤ 3) (hw : w.length ≤ 1048576) (hv : v.length ≤ 1048576) (hpl : ∀ i (h : i < w.length),∃ n : Nat,w[i] = (n : Int) ∧ n < x.1.length) (hp : 0 ≤ x.2.1 ∧ x.2.1 ≤ 1048576) :
    Ret E n_spec_l10Data [dS x,dL w,dL v] ⟨o_spec_l10Data,(pb (Dat x w v),())⟩ := by
  have e : w64 (x.2.1 - 1) = x.2.1 - 1 := w64_small (by omega) (by omega)
  refine ret_of ?_
  simp only [run_spec_l10Data,spec_l10Data.ev]
  refine Ev.start (p := fun φ n' => spec_l10Data.l0 (mkR (run E (φ 0))) (φ 0) n' x w v 0 = _) 1 ?_ (fun _ _ _ h => h)
  refine (all_pb 1 (L := fun φ n' k => spec_l10Data.l0 (mkR (run E (φ 0))) (φ 0) n' x w v k) (len := v.length) 0 (by omega) (fun j => 0 ≤ v.getD j 0 ∧ v.getD j 0 ≤ x.2.1 - 1) (fun b => some ⟨o_spec_l10Data,(b && ((v.length : Int) == off x.2.2.1 w w.length),())⟩) (fun _ _ _ _ => rfl) (fun k h1 h2 hP _ => ?_) (fun k r h1 h2 hP _ ih => ?_) (fun _ => ?_)).to ?_
  · simp only [spec_l10Data.l0_succ _ mk_ok,e]
    rw [getD_lt h2] at hP
    exact ev_t (decide_eq_true (by omega)) (ev_bind (idx_lt h2) (ev_call (l00In_ret _ _ _) (ev_t (by rw [pb_false hP]; rfl) ev_rfl)))
  · simp only [spec_l10Data.l0_succ _ mk_ok,e]
    rw [getD_lt h2] at hP
    refine ev_t (decide_eq_true (by omega)) (ev_bind (idx_lt h2) (ev_call (l00In_ret _ _ _) (ev_f (by rw [pb_true hP]; rfl) ?_)))
    rw [w64_succ (by omega)]; exact ih
  · simp only [spec_l10Data.l0_succ _ mk_ok]
    exact ev_f (decide_eq_false (by omega)) (ev_call (l10Many_ret x w hl hst hw hpl) (ev_some (by rw [Bool.true_and])))
  · have : (pb (∀ j,0 ≤ j → j < v.length → 0 ≤ v.getD j 0 ∧ v.getD j 0 ≤ x.2.1 - 1) && ((v.length : Int) == off x.2.2.1 w w.length)) = pb (Dat x w v) := eq_pb (by
      rw [Bool.and_eq_true,pb_iff,beq_iff_eq]
      refine and_congr_left' ⟨fun h y hy => ?_,fun h j _ hj => ?_⟩
      · obtain ⟨j,hj,rfl⟩ := List.mem_iff_getElem.1 hy
        have := h j (by omega) hj
        rwa [getD_lt hj] at this
      · rw [getD_lt hj]; exact h _ (List.getElem_mem hj))
    rw [this]

theorem l10Ask_ret (x : Shf) (w v : Sim) (hx : Sm (.st cS) x) (hw : Sm (.sl (.int .i64)) w) (hv : Sm (.sl (.int .i64)) v) : Ret E n_spec_l10Ask [dS x,dL w,dL v] ⟨o_spec_l10Ask,(LC x w v,())⟩ := by
  refine ret_of ?_
  simp only [run_spec_l10Ask,spec_l10Ask.ev]
  refine ev_call (l09Is_ret x hx) (ev_b (fun h => ev_some ?_) fun h => ?_)
  · have h := pb_not.1 (show pb (ISh x) = false by simpa using h)
    have e : PC x w = 1 := by rw [PC,if_neg h]
    rw [LC,e,if_neg (by omega)]
  · have h := pb_iff.1 (show pb (ISh x) = true by simpa using h)
    refine ev_call (l10Places_ret x w hx.1.1 hw) (ev_b (fun h2 => ev_some ?_) fun h2 => ?_)
    · have h2 := pb_not.1 (show pb (Plcs x.1 w) = false by simpa using h2)
      have e : PC x w = 2 := by rw [PC,if_pos h,if_neg h2]
      rw [LC,e,if_neg (by omega)]
    · have h2 := pb_iff.1 (show pb (Plcs x.1 w) = true by simpa using h2)
      have hp := h.1.2.1
      have h0 := PC_zero.2 ⟨h,h2⟩
      refine ev_call (l10Data_ret x w v h.1.2.2.1.1 h.1.2.2.1.2.1 hw.1 hv.1 (fun i hi => h2.get hi) ⟨by have := hp.1; omega,by have := hp.2.1; omega⟩) (ev_b (fun h3 => ev_some ?_) fun h3 => ev_some ?_)
      · rw [LC,if_pos h0,if_neg (pb_not.1 (show pb (Dat x w v) = false by simpa using h3))]
      · rw [LC,if_pos h0,if_pos (pb_iff.1 (show pb (Dat x w v) = true by simpa using h3))]

end VeT

open Go Go.Proofs Ve
set_option linter.unusedVariables false
set_option linter.unusedSimpArgs false
namespace VeT

/-! remainders -/
def redV (a p : Int) : Int := Int.tmod (w64 (Int.tmod a p + p)) p

theorem redV_eq {a p : Int} (hp : 2 ≤ p ∧ p ≤ 251) (ha : -1048576 ≤ a ∧ a ≤ 1048576) : redV a p = a % p := by
  have h1 : -p < Int.tmod a p ∧ Int.tmod a p < p := by
    constructor
    · by_cases h : a < 0
      · have := Int.tmod_lt_of_pos (-a) (show 0 < p by omega)
        rw [Int.neg_tmod] at this; omega
      · have := Int.tmod_nonneg p (show 0 ≤ a by omega); omega
    · exact Int.tmod_lt_of_pos a (by omega)
  have h2 : Int.tmod a p % p = a % p := by
    have := Int.tmod_add_mul_tdiv a p
    have e : a = Int.tmod a p + p * Int.tdiv a p := this.symm
    conv => rhs; rw [e]
    rw [Int.add_mul_emod_self_left]
  unfold redV
  rw [w64_small (by omega) (by omega),Int.tmod_eq_emod_of_nonneg (by omega),Int.add_emod_right,h2]

theorem reduce_ret (a p : Int) (hp : 2 ≤ p) : Ret E n_impl_reduce [dI a,dI p] ⟨o_impl_reduce,(redV a p,())⟩ := by
  refine ret_of ?_
  simp only [run_impl_reduce,impl_reduce.ev]
  exact ev_chk (by simp; omega) (ev_chk (by simp; omega) ev_rfl)

theorem l03Mod_ret (a p : Int) (hp : 2 ≤ p) : Ret E n_spec_l03Mod [dI a,dI p] ⟨o_spec_l03Mod,(redV a p,())⟩ := by
  refine ret_of ?_
  simp only [run_spec_l03Mod,spec_l03Mod.ev]
  exact ev_chk (by simp; omega) (ev_chk (by simp; omega) ev_rfl)

theorem addTimes_ret (a b : Sim) (c p : Int) (hp : 2 ≤ p ∧ p ≤ 251) (hc : 0 ≤ c ∧ c ≤ 250) (hl : a.length ≤ b.length) (ha1 : a.length ≤ 1048576) (ea : ∀ x ∈ a,0 ≤ x ∧ x ≤ 250) (eb : ∀ x ∈ b,0 ≤ x ∧ x ≤ 250) :
    Ret E n_impl_addTimes [dL a,dL b,dI c,dI p] ⟨o_impl_addTimes,(addV a b c p,())⟩ := by
  refine ret_of ?_
  simp only [run_impl_addTimes,impl_addTimes.ev]
  refine Ev.start (p := fun φ n => impl_addTimes.l0 (mkR (run E (φ 0))) (φ 0) n a b c p (a.length : Int) 0 [] = _) 1 ?_ (fun _ _ _ h => h)
  refine fold_loop 1 (L := fun φ n k o => impl_addTimes.l0 (mkR (run E (φ 0))) (φ 0) n a b c p (a.length : Int) k o) (len := a.length) (fun k => (List.range k).map fun i => (a.getD i 0 + c * b.getD i 0) % p) (fun _ _ _ _ _ => rfl) (fun k r hk ih => ?_) ?_
  · simp only [impl_addTimes.l0_succ _ mk_ok]
    have hkb : k < b.length := by omega
    have h1 := ea _ (List.getElem_mem hk)
    have h2 := mul_in hc (eb _ (List.getElem_mem hkb))
    rw [List.range_succ,List.map_append,List.map_singleton,getD_lt hk,getD_lt hkb] at ih
    refine ev_t (decide_eq_true (by omega)) (ev_bind (idx_lt hk) (ev_bind (idx_lt hkb) (ev_chk (by simp; omega) ?_)))
    rw [w64_small (n := c * b[k]) (by omega) (by omega),w64_small (by omega) (by omega),Int.tmod_eq_emod_of_nonneg (by omega),w64_succ (by omega)]
    exact ev_chk (by simp; omega) ih
  · simp only [impl_addTimes.l0_succ _ mk_ok]
    exact ev_f (decide_eq_false (by omega)) ev_rfl

/-! inverses -/
theorem sq_pow {a : Int} : ∀ k : Nat,(a * a) ^ k = a ^ (k + k)
  | 0 => by rw [Int.pow_zero,Nat.add_zero,Int.pow_zero]
  | k + 1 => by rw [Int.pow_succ,sq_pow k,show k + 1 + (k + 1) = k + k + 1 + 1 by omega,Int.pow_succ,Int.pow_succ,Int.mul_assoc]

theorem powerOf_ret (a : Int) (n : Nat) (p : Int) (hp : 2 ≤ p ∧ p ≤ 251) (ha : 0 ≤ a ∧ a ≤ p - 1) (hn : n ≤ 1048576) : Ret E n_impl_powerOf [dI a,dI (n : Int),dI p] ⟨o_impl_powerOf,(a ^ n % p,())⟩ := by
  refine ret_of ?_
  simp only [run_impl_powerOf,impl_powerOf.ev]
  refine Ev.start (p := fun φ m => impl_powerOf.l0 (mkR (run E (φ 0))) (φ 0) m a (n : Int) p 1 = _) 1 ?_ (fun _ _ _ h => h)
  refine loopR 1 (σ := Int × Nat × Int) (L := fun φ m s => impl_powerOf.l0 (mkR (run E (φ 0))) (φ 0) m s.1 (s.2.1 : Int) p s.2.2) (fun _ _ _ _ => rfl) (fun s => (0 ≤ s.1 ∧ s.1 ≤ p - 1) ∧ s.2.1 ≤ 1048576 ∧ (0 ≤ s.2.2 ∧ s.2.2 ≤ p - 1) ∧ s.2.2 * s.1 ^ s.2.1 % p = a ^ n % p) (fun _ => _) (fun s => s.2.1) (fun s hi ih => ?_) (a,n,1) ⟨ha,hn,by show 0 ≤ (1 : Int) ∧ (1 : Int) ≤ p - 1; omega,by show 1 * a ^ n % p = _; rw [Int.one_mul]⟩
  obtain ⟨b,m,q⟩ := s
  obtain ⟨h1,h2,h3,h4⟩ := hi
  simp only at h1 h2 h3 h4 ih
  simp only [impl_powerOf.l0_succ _ mk_ok]
  have hbb := mul_in (x := b) (y := b) (by omega) (by omega)
  have hqb := mul_in (x := q) (y := b) (by omega) (by omega)
  have e1 : w64 (b * b) = b * b := w64_small (by omega) (by omega)
  have e2 : w64 (q * b) = q * b := w64_small (by omega) (by omega)
  have e3 : Int.tdiv (m : Int) 2 = ((m / 2 : Nat) : Int) := rfl
  have e4 : w64 ((m / 2 : Nat) : Int) = ((m / 2 : Nat) : Int) := w64_small (by omega) (by omega)
  have e5 : Int.tmod (m : Int) 2 = ((m % 2 : Nat) : Int) := rfl
  refine ev_d (fun hm => ?_) fun hm => ev_some ?_
  · rw [e5,e1,e2,e3,e4,Int.tmod_eq_emod_of_nonneg (by omega),Int.tmod_eq_emod_of_nonneg (by omega)]
    have hd : m / 2 < m := by omega
    refine ev_b (fun ho => ev_chk (by simp; omega) (ev_chk (by simp; omega) ?_)) fun he => ev_chk (by simp; omega) ?_
    · have ho : m % 2 = 1 := by have : ((m % 2 : Nat) : Int) = 1 := by simpa using ho
                                omega
      refine ih (b * b % p,m / 2,q * b % p) ⟨emod_in (by omega),by show m / 2 ≤ _; omega,emod_in (by omega),?_⟩ hd
      rw [← h4]
      show q * b % p * (b * b % p) ^ (m / 2) % p = _
      have hx : (q * b % p) % p = (q * b) % p := Int.emod_emod_of_dvd _ (Int.dvd_refl p)
      have hy : (b * b % p) ^ (m / 2) % p = (b * b) ^ (m / 2) % p := pow_congr (Int.emod_emod_of_dvd _ (Int.dvd_refl p)) _
      rw [mul_congr hx hy,sq_pow]
      have hm2 : m = m / 2 + m / 2 + 1 := by omega
      conv => rhs; rw [hm2,Int.pow_succ]
      rw [Int.mul_assoc,Int.mul_comm b]
    · have he : m % 2 = 0 := by
        have : ¬ ((m % 2 : Nat) : Int) = 1 := by simpa using he
        omega
      refine ih (b * b % p,m / 2,q) ⟨emod_in (by omega),by show m / 2 ≤ _; omega,h3,?_⟩ hd
      rw [← h4]
      show q * (b * b % p) ^ (m / 2) % p = _
      have hy : (b * b % p) ^ (m / 2) % p = (b * b) ^ (m / 2) % p := pow_congr (Int.emod_emod_of_dvd _ (Int.dvd_refl p)) _
      rw [mul_congr rfl hy,sq_pow]
      have hm2 : m = m / 2 + m / 2 := by omega
      conv => rhs; rw [hm2]
  · have hm : m = 0 := by omega
    subst hm
    have : q = a ^ n % p := by rw [← h4,Int.pow_zero,Int.mul_one,Int.emod_eq_of_lt (by omega) (by omega)]
    rw [this]

theorem inverseOf_ret (a p : Int) (hp : 2 ≤ p ∧ p ≤ 251) (ha : 0 ≤ a ∧ a ≤ p - 1) : Ret E n_impl_inverseOf [dI a,dI p] ⟨o_impl_inverseOf,(invF a p,())⟩ := by
  have e : w64 (p - 2) = (((p - 2).toNat : Nat) : Int) := by rw [w64_small (by omega) (by omega)]; omega
  refine ret_of ?_
  simp only [run_impl_inverseOf,impl_inverseOf.ev,e]
  exact ev_call (powerOf_ret a (p - 2).toNat p hp ha (by omega)) ev_rfl

theorem l03Inverse_ret (a p : Int) (hp : 2 ≤ p ∧ p ≤ 251) (ha : 0 ≤ a ∧ a ≤ p - 1) : Ret E n_spec_l03Inverse [dI a,dI p] ⟨o_spec_l03Inverse,(invF a p,())⟩ := by
  have e : w64 (p - 2) = (((p - 2).toNat : Nat) : Int) := by rw [w64_small (by omega) (by omega)]; omega
  refine ret_of ?_
  simp only [run_spec_l03Inverse,spec_l03Inverse.ev,e]
  refine Ev.start (p := fun φ m => spec_l03Inverse.l0 (mkR (run E (φ 0))) (φ 0) m a p 1 (((p - 2).toNat : Nat) : Int) = _) 1 ?_ (fun _ _ _ h => h)
  refine loopR 1 (σ := Nat × Int) (L := fun φ m s => spec_l03Inverse.l0 (mkR (run E (φ 0))) (φ 0) m a p s.2 (s.1 : Int)) (fun _ _ _ _ => rfl) (fun s => s.1 ≤ 1048576 ∧ (0 ≤ s.2 ∧ s.2 ≤ p - 1) ∧ s.2 * a ^ s.1 % p = a ^ (p - 2).toNat % p) (fun _ => _) (fun s => s.1) (fun s hi ih => ?_) ((p - 2).toNat,1) ⟨by show (p - 2).toNat ≤ _; omega,by show 0 ≤ (1 : Int) ∧ (1 : Int) ≤ p - 1; omega,by show 1 * _ % p = _; rw [Int.one_mul]⟩
  obtain ⟨m,q⟩ := s
  obtain ⟨h2,h3,h4⟩ := hi
  simp only at h2 h3 h4 ih
  simp only [spec_l03Inverse.l0_succ _ mk_ok]
  have hqa := mul_in (x := q) (y := a) (by omega) (by omega)
  refine ev_d (fun hm => ev_chk (by simp; omega) ?_) fun hm => ev_some ?_
  · rw [w64_small (n := q * a) (by omega) (by omega),Int.tmod_eq_emod_of_nonneg (by omega),w64_small (by omega) (by omega),show (m : Int) - 1 = ((m - 1 : Nat) : Int) by omega]
    refine ih (m - 1,q * a % p) ⟨by show m - 1 ≤ _; omega,emod_in (by omega),?_⟩ (by show m - 1 < m; omega)
    rw [← h4]
    show q * a % p * a ^ (m - 1) % p = _
    have hx : (q * a % p) % p = (q * a) % p := Int.emod_emod_of_dvd _ (Int.dvd_refl p)
    rw [mul_congr hx rfl]
    conv => rhs; rw [show m = m - 1 + 1 by omega,Int.pow_succ]
    rw [Int.mul_assoc,Int.mul_comm a]
  · have hm : m = 0 := by omega
    subst hm
    have : q = invF a p := by unfold invF; rw [← h4,Int.pow_zero,Int.mul_one,Int.emod_eq_of_lt (by omega) (by omega)]
    rw [this]

/-! rows as functions -/
theorem addV_map {f g : Nat → Int} {W : Nat} {c p : Int} : addV ((List.range W).map f) ((List.range W).map g) c p = (List.range W).map fun j => (f j + c * g j) % p := by
  unfold addV
  rw [List.length_map,List.length_range]
  refine List.map_congr_left fun j hj => ?_
  have hj := List.mem_range.1 hj
  simp [List.getD_eq_getElem?_getD,hj]

theorem zeros_map {W : Nat} : List.replicate W (0 : Int) = (List.range W).map fun _ => 0 := by
  rw [List.map_const',List.length_range]

theorem map_in {f : Nat → Int} {W : Nat} {p : Int} (hp : p ≤ 251) (h : ∀ j,j < W → 0 ≤ f j ∧ f j ≤ p - 1) : ∀ x ∈ (List.range W).map f,0 ≤ x ∧ x ≤ 250 := fun x hx => by
  obtain ⟨j,hj,rfl⟩ := List.mem_map.1 hx
  have := h j (List.mem_range.1 hj)
  omega

def pvL (l : List Nat) : Sim := l.map fun (n : Nat) => (n : Int)

theorem pvL_length {l : List Nat} : (pvL l).length = l.length := by simp [pvL]
theorem pvL_add {l : List Nat} {c : Nat} : pvL (l ++ [c]) = pvL l ++ [(c : Int)] := by simp [pvL]

theorem idxf_first {A : Ent} {R W c top : Nat} (hc : c < W) (ht : top ≤ R) : idxf (fun row : Sim => row.getD c 0 != 0) ((rowsE A R W).drop top) = o2i ((firstN (fun i => A i c ≠ 0) top (R - top)).map fun q => q - top) := by
  have hlen : ((rowsE A R W).drop top).length = R - top := by rw [List.length_drop,rowsE_length]
  have hget : ∀ k (h : k < ((rowsE A R W).drop top).length),(((rowsE A R W).drop top)[k].getD c 0 != 0) = true ↔ A (top + k) c ≠ 0 := fun k h => by
    rw [hlen] at h
    have h1 := rowsE_get (A := A) (W := W) (show top + k < R by omega)
    have h2 : ((rowsE A R W).drop top)[k]? = some ((List.range W).map (A (top + k))) := by rw [List.getElem?_drop]; exact h1
    rw [List.getElem?_eq_getElem (by rw [hlen]; exact h)] at h2
    rw [Option.some.inj h2,List.getD_eq_getElem?_getD,row_get hc]
    simp
  symm
  refine idxf_of (fun k hk => ?_) fun hno j hj ⟨hj',hP⟩ => ?_
  · cases hf : firstN (fun i => A i c ≠ 0) top (R - top) with
    | none => rw [hf] at hk; cases hk
    | some q =>
      rw [hf] at hk
      have hk : q - top = k := Option.some.inj hk
      have h1 := firstN_some hf
      have hkl : k < ((rowsE A R W).drop top).length := by rw [hlen]; omega
      refine ⟨hkl,⟨hkl,(hget k hkl).2 (by rw [show top + k = q by omega]; exact h1.2.2)⟩,fun j hj ⟨hj',hP⟩ => ?_⟩
      exact firstN_min hf (top + j) (by omega) (by omega) ((hget j hj').1 hP)
  · cases hf : firstN (fun i => A i c ≠ 0) top (R - top) with
    | none => exact firstN_none hf (top + j) (by omega) (by rw [hlen] at hj; omega) ((hget j hj').1 hP)
    | some q => rw [hf] at hno; cases hno

end VeT

open Go Go.Proofs Ve
set_option linter.unusedVariables false
set_option linter.unusedSimpArgs false
namespace VeT

theorem eliminate_1_ret (row : Sim) (c : Nat) (hc : c < row.length) : Ret E n_impl_eliminate_1 [dL row,⟨.ptr (.cons (.int .i64) .nil),((c : Int),())⟩] ⟨o_impl_eliminate_1,(row.getD c 0 != 0,())⟩ := by
  rw [getD_lt hc]
  refine ret_of ?_
  simp only [run_impl_eliminate_1,impl_eliminate_1.ev]
  exact ev_bind (idx_lt hc) ev_rfl

/-- the steps of the last loop: rows below k are done -/
def elK (p : Int) (c top k : Nat) (B : Ent) : Ent := fun i j => if i < k then elF p c top B i j else elM p c top B i j

theorem elK_zero {p : Int} {c top : Nat} {B : Ent} {R W : Nat} : rowsE (elK p c top 0 B) R W = rowsE (elM p c top B) R W := rowsE_congr fun i j _ _ => by simp [elK]
theorem elK_all {p : Int} {c top : Nat} {B : Ent} {R W : Nat} : rowsE (elK p c top R B) R W = rowsE (elF p c top B) R W := rowsE_congr fun i j hi _ => by simp [elK,hi]

theorem elSw_rows {top q R W : Nat} {A : Ent} (ht : top < R) (hq : q < R) (hne : q ≠ top) : ((rowsE A R W).set top ((List.range W).map (A q))).set q ((List.range W).map (A top)) = rowsE (elSw top q A) R W := by
  rw [rowsE_set,rowsE_set]
  refine rowsE_congr fun i j _ _ => ?_
  unfold elSw
  by_cases h1 : i = q
  · subst h1; simp [hne]
  · by_cases h2 : i = top
    · subst h2; simp [h1]
    · simp [h1,h2]

theorem elSw_self {top R W : Nat} {A : Ent} : rowsE (elSw top top A) R W = rowsE A R W := rowsE_congr fun i j _ _ => by
  unfold elSw
  by_cases h : i = top
  · subst h; simp
  · simp [h]

theorem eliminate_ret (A : Ent) (R W : Nat) (p : Int) (hp : 2 ≤ p ∧ p ≤ 251) (hR : R ≤ 1048576) (hW : W ≤ 1048576) (hA : EIn p R W A) :
    ∃ det : Int,Ret E n_impl_eliminate [dLL (rowsE A R W),dI (W : Int),dI p] ⟨o_impl_eliminate,(pvL (elS p R A W).2,det,rowsE (elS p R A W).1 R W,())⟩ := by
  have key : ∀ d c det,c + d = W → ∃ det' : Int,Ev fun φ => impl_eliminate.l0 (mkR (run E (φ 0))) (φ 0) (φ 1) (W : Int) p det (W : Int) (c : Int) (pvL (elS p R A c).2) (rowsE (elS p R A c).1 R W) = some ⟨o_impl_eliminate,(pvL (elS p R A W).2,det',rowsE (elS p R A W).1 R W,())⟩ := by
    intro d
    induction d with
    | zero =>
      intro c det hc
      obtain rfl : c = W := by omega
      refine ⟨det,Ev.round 1 (L := fun φ n => impl_eliminate.l0 (mkR (run E (φ 0))) (φ 0) n (c : Int) p det (c : Int) (c : Int) (pvL (elS p R A c).2) (rowsE (elS p R A c).1 R c)) ?_ (fun _ _ _ => rfl)⟩
      simp only [impl_eliminate.l0_succ _ mk_ok]
      exact ev_f (decide_eq_false (by omega)) ev_rfl
    | succ d ih =>
      intro c det hcd
      have hc : c < W := by omega
      obtain ⟨hB,hpl,hpc,_⟩ := elS_in hp.1 hA c
      have hstep : elS p R A (c + 1) = elP p R c (elS p R A c) := rfl
      generalize hS : elS p R A c = S at hB hpl hpc hstep
      obtain ⟨B0,pv⟩ := S
      simp only at hB hpl hpc hstep
      have hlen : (rowsE B0 R W).length = R := rowsE_length
      have hI := IndexFunc_SSint64_Sint64_impl_eliminate_1_ret ((rowsE B0 R W).drop pv.length) (((c : Int),()),()) (fun row => row.getD c 0 != 0) (by rw [List.length_drop,hlen]; omega) fun row hrow => eliminate_1_ret row c (by
        have := List.mem_of_mem_drop hrow
        unfold rowsE at this
        obtain ⟨i,_,rfl⟩ := List.mem_map.1 this
        simpa using hc)
      rw [idxf_first hc hpl] at hI
      cases hf : firstN (fun i => B0 i c ≠ 0) pv.length (R - pv.length) with
      | none =>
        rw [hf] at hI
        have e : elS p R A (c + 1) = (B0,pv) := by rw [hstep,elP]; simp only [hf]
        obtain ⟨det',h'⟩ := ih (c + 1) 0 (by omega)
        rw [e] at h'
        refine ⟨det',Ev.round 1 (L := fun φ n => impl_eliminate.l0 (mkR (run E (φ 0))) (φ 0) n (W : Int) p det (W : Int) (c : Int) (pvL pv) (rowsE B0 R W)) ?_ (fun _ _ _ => rfl)⟩
        simp only [impl_eliminate.l0_succ _ mk_ok,pvL_length,hlen,Int.toNat_natCast]
        rw [show List.take R (rowsE B0 R W) = rowsE B0 R W from List.take_of_length_le (by omega)]
        refine ev_t (decide_eq_true (by omega)) (ev_chk (by simp only [Bool.and_eq_true,decide_eq_true_eq]; omega) (ev_call hI (ev_t rfl ?_)))
        rw [w64_succ (by omega)]
        exact h'
      | some q =>
        rw [hf] at hI
        have hq := firstN_some hf
        have e : elS p R A (c + 1) = (elF p c pv.length (elSw pv.length q B0),pv ++ [c]) := by rw [hstep,elP]; simp only [hf]
        generalize ht : pv.length = top at hI hq e hpl hpc
        have htR : top < R := by omega
        have hqR : q < R := by omega
        have hsw := hB.sw htR hqR
        have hlead : 1 ≤ elSw top q B0 top c ∧ elSw top q B0 top c ≤ p - 1 := by
          have h1 := hsw top c htR hc
          have h2 : elSw top q B0 top c = B0 q c := by simp [elSw]
          have h3 := hq.2.2
          rw [← h2] at h3
          omega
        have hI' : Ret E n_slices_IndexFunc_SSint64_Sint64 [dLL ((rowsE B0 R W).drop top),⟨.fn n_impl_eliminate_1 (.cons (.ptr (.cons (.int .i64) .nil)) .nil),(((c : Int),()),())⟩] ⟨o_slices_IndexFunc_SSint64_Sint64,(((q - top : Nat) : Int),())⟩ := hI
        -- what lies behind the exchange
        have back : ∀ det2,∃ det',Ev fun φ => impl_eliminate.j1 (mkR (run E (φ 0))) (φ 0) (φ 1) (W : Int) p det2 (top : Int) (W : Int) (c : Int) (c : Int) (pvL pv) (rowsE (elSw top q B0) R W) = some ⟨o_impl_eliminate,(pvL (elS p R A W).2,det',rowsE (elS p R A W).1 R W,())⟩ := fun det2 => by
          generalize elSw top q B0 = B at hsw hlead e
          obtain ⟨det',h'⟩ := ih (c + 1) (Int.tmod (w64 (det2 * B top c)) p) (by omega)
          rw [e] at h'
          simp only at h'
          rw [pvL_add,← elK_all] at h'
          have hBl : (rowsE B R W).length = R := rowsE_length
          have hNin : ∀ j,0 ≤ elN p c top B j ∧ elN p c top B j ≤ p - 1 := fun j => emod_in hp.1
          have hinv := invF_in (a := B top c) (p := p) hp.1
          have hinvR := inverseOf_ret (B top c) p hp ⟨by omega,hlead.2⟩
          have hgt := rowsE_get (A := B) (W := W) htR
          have hat : Ret E n_impl_addTimes [dL (List.replicate W 0),dL ((List.range W).map (B top)),dI (invF (B top c) p),dI p] ⟨o_impl_addTimes,((List.range W).map (elN p c top B),())⟩ := by
            have := addTimes_ret (List.replicate W 0) ((List.range W).map (B top)) (invF (B top c) p) p hp (by omega) (by simp) (by rw [List.length_replicate]; exact hW) (fun x hx => by rw [List.mem_replicate] at hx; omega) (map_in hp.2 fun j hj => hsw top j htR hj)
            rw [zeros_map,addV_map,← zeros_map] at this
            have e2 : ((List.range W).map fun j => (0 + invF (B top c) p * B top j) % p) = (List.range W).map (elN p c top B) := List.map_congr_left fun j _ => by
              rw [Int.zero_add,Int.mul_comm]; rfl
            rw [e2] at this
            exact this
          have hset : (rowsE B R W).set top ((List.range W).map (elN p c top B)) = rowsE (elK p c top 0 B) R W := by
            rw [rowsE_set,elK_zero]; rfl
          refine ⟨det',?_⟩
          -- the loop over the rows
          have loop : Ev fun φ => impl_eliminate.j2 (mkR (run E (φ 0))) (φ 0) (φ 1) (W : Int) p (Int.tmod (w64 (det2 * B top c)) p) (top : Int) (W : Int) (c : Int) (c : Int) (pvL pv) (rowsE (elK p c top 0 B) R W) = some ⟨o_impl_eliminate,(pvL (elS p R A W).2,det',rowsE (elS p R A W).1 R W,())⟩ := by
            simp only [impl_eliminate.j2_eq _ mk_ok,rowsE_length]
            generalize Int.tmod (w64 (det2 * B top c)) p = D at h' ⊢
            refine Ev.start (p := fun φ n => impl_eliminate.l3 (mkR (run E (φ 0))) (φ 0) (φ 1) n (W : Int) p D (top : Int) (W : Int) (c : Int) (R : Int) 0 (c : Int) (pvL pv) (rowsE (elK p c top 0 B) R W) = _) 2 ?_ (fun _ _ _ h => h)
            refine fold_loop 2 (L := fun φ n i S => impl_eliminate.l3 (mkR (run E (φ 0))) (φ 0) (φ 1) n (W : Int) p D (top : Int) (W : Int) (c : Int) (R : Int) i (c : Int) (pvL pv) S) (len := R) (fun i => rowsE (elK p c top i B) R W) (fun _ _ _ _ _ => rfl) (fun i r hi ih2 => ?_) ?_
            · simp only [impl_eliminate.l3_succ _ mk_ok,rowsE_length,Int.toNat_natCast]
              have hrow : (rowsE (elK p c top i B) R W)[i]? = some ((List.range W).map (elM p c top B i)) := by
                rw [rowsE_get hi]
                have : elK p c top i B i = elM p c top B i := funext fun j => by simp [elK]
                rw [this]
              have htop : (rowsE (elK p c top i B) R W)[top]? = some ((List.range W).map (elN p c top B)) := by
                rw [rowsE_get htR]
                have : elK p c top i B top = elN p c top B := funext fun j => by simp [elK,elF,elM]
                rw [this]
              refine ev_t (decide_eq_true (by omega)) (ev_chk (by simp only [Bool.and_eq_true,decide_eq_true_eq]; omega) (ev_bind hrow ?_))
              by_cases hit : i = top
              · subst hit
                refine ev_f (by simp) ?_
                simp only [impl_eliminate.j4_eq _ mk_ok,cond_false]
                have hsame : rowsE (elK p c i (i + 1) B) R W = rowsE (elK p c i i B) R W := rowsE_congr fun k j _ _ => by
                  unfold elK
                  by_cases h1 : k = i
                  · subst h1; simp [elF,elM]
                  · by_cases h2 : k < i
                    · rw [if_pos (by omega),if_pos h2]
                    · rw [if_neg (by omega),if_neg h2]
                rw [hsame] at ih2
                rw [w64_succ (by omega)]; exact ih2
              · have hM : elM p c top B i = B i := funext fun j => by simp [elM,hit]
                rw [hM]
                have hBi := hsw i c hi hc
                refine ev_t (by simp; omega) (ev_bind (idx_nat.trans (row_get hc)) ?_)
                by_cases hz : B i c = 0
                · simp only [hz,bne_self_eq_false,impl_eliminate.j4_eq _ mk_ok,cond_false]
                  have hsame : rowsE (elK p c top (i + 1) B) R W = rowsE (elK p c top i B) R W := rowsE_congr fun k j _ _ => by
                    unfold elK
                    by_cases h1 : k = i
                    · subst h1; simp [elF,elM,hit,hz]
                    · by_cases h2 : k < i
                      · rw [if_pos (by omega),if_pos h2]
                      · rw [if_neg (by omega),if_neg h2]
                  rw [hsame] at ih2
                  rw [w64_succ (by omega)]; exact ih2
                · have hne : (B i c != 0) = true := by simpa using hz
                  have ec : w64 (p - B i c) = p - B i c := w64_small (by omega) (by omega)
                  simp only [hne,impl_eliminate.j4_eq _ mk_ok,cond_true,rowsE_length,Int.toNat_natCast]
                  refine ev_chk (by simp only [Bool.and_eq_true,decide_eq_true_eq]; omega) (ev_bind htop (ev_bind (idx_nat.trans (row_get hc)) ?_))
                  simp only [ec]
                  have hat2 := addTimes_ret ((List.range W).map (B i)) ((List.range W).map (elN p c top B)) (p - B i c) p hp (by omega) (by simp) (by simpa using hW) (map_in hp.2 fun j hj => hsw i j hi hj) (map_in hp.2 fun j _ => hNin j)
                  rw [addV_map] at hat2
                  refine ev_call hat2 (ev_chk (by simp only [Bool.and_eq_true,decide_eq_true_eq]; omega) ?_)
                  have hset2 : (rowsE (elK p c top i B) R W).set i ((List.range W).map fun j => (B i j + (p - B i c) * elN p c top B j) % p) = rowsE (elK p c top (i + 1) B) R W := by
                    rw [rowsE_set]
                    refine rowsE_congr fun k j _ _ => ?_
                    unfold elK
                    by_cases h1 : k = i
                    · subst h1; simp [elF,hit,hz]
                    · by_cases h2 : k < i
                      · rw [if_neg h1,if_pos h2,if_pos (by omega)]
                      · rw [if_neg h1,if_neg h2,if_neg (by omega)]
                  rw [w64_succ (by omega)]
                  rw [← hset2] at ih2
                  exact ih2
            · simp only [impl_eliminate.l3_succ _ mk_ok]
              refine ev_f (decide_eq_false (by omega)) (ev_chk (by simp only [pvL_length,List.length_cons,List.length_nil,decide_eq_true_eq]; omega) ?_)
              rw [w64_succ (by omega)]
              exact h'
          simp only [impl_eliminate.j1_eq _ mk_ok,rowsE_length,Int.toNat_natCast]
          have hck : (decide ((0 : Int) ≤ (top : Int)) && decide ((top : Int) < (R : Int))) = true := by simp only [Bool.and_eq_true,decide_eq_true_eq]; omega
          have hcw : (decide ((0 : Int) ≤ (W : Int)) && decide ((W : Int) * 8 ≤ 70368744177664)) = true := by simp only [Bool.and_eq_true,decide_eq_true_eq]; omega
          have fin := loop
          rw [← hset] at fin
          exact ev_chk hck (ev_bind hgt (ev_bind (idx_nat.trans (row_get hc)) (ev_chk (by simp; omega) (ev_chk hck (ev_bind hgt (ev_both (ev_chk hcw (ev_call hinvR (ev_call hat (ev_chk hck fin)))) (ev_call hinvR (ev_chk hcw (ev_call hat (ev_chk hck fin))))))))))
        by_cases hqt : q = top
        · subst hqt
          obtain ⟨det',h'⟩ := back det
          rw [elSw_self] at h'
          refine ⟨det',Ev.round 1 (L := fun φ n => impl_eliminate.l0 (mkR (run E (φ 0))) (φ 0) n (W : Int) p det (W : Int) (c : Int) (pvL pv) (rowsE B0 R W)) ?_ (fun _ _ _ => rfl)⟩
          simp only [impl_eliminate.l0_succ _ mk_ok,pvL_length,hlen,Int.toNat_natCast,ht]
          rw [show List.take R (rowsE B0 R W) = rowsE B0 R W from List.take_of_length_le (by omega)]
          refine ev_t (decide_eq_true (by omega)) (ev_chk (by simp only [Bool.and_eq_true,decide_eq_true_eq]; omega) (ev_call hI' ?_))
          rw [Nat.sub_self]
          exact ev_f rfl (ev_f rfl h')
        · obtain ⟨det',h'⟩ := back (redV (w64 (0 - det)) p)
          rw [← elSw_rows htR hqR hqt] at h'
          refine ⟨det',Ev.round 1 (L := fun φ n => impl_eliminate.l0 (mkR (run E (φ 0))) (φ 0) n (W : Int) p det (W : Int) (c : Int) (pvL pv) (rowsE B0 R W)) ?_ (fun _ _ _ => rfl)⟩
          simp only [impl_eliminate.l0_succ _ mk_ok,pvL_length,hlen,Int.toNat_natCast,ht]
          rw [show List.take R (rowsE B0 R W) = rowsE B0 R W from List.take_of_length_le (by omega)]
          have e3 : w64 ((top : Int) + ((q - top : Nat) : Int)) = (q : Int) := by rw [w64_small (by omega) (by omega)]; omega
          refine ev_t (decide_eq_true (by omega)) (ev_chk (by simp only [Bool.and_eq_true,decide_eq_true_eq]; omega) (ev_call hI' (ev_f (decide_eq_false (Int.not_lt.2 (Int.natCast_nonneg _))) (ev_t (decide_eq_true (by show (0 : Int) < ((q - top : Nat) : Int); omega)) ?_))))
          simp only [e3,Int.toNat_natCast,List.length_set,hlen]
          have hck : (decide ((0 : Int) ≤ (top : Int)) && decide ((top : Int) < (R : Int))) = true := by simp only [Bool.and_eq_true,decide_eq_true_eq]; omega
          have hckq : (decide ((0 : Int) ≤ (q : Int)) && decide ((q : Int) < (R : Int))) = true := by simp only [Bool.and_eq_true,decide_eq_true_eq]; omega
          exact ev_chk hckq (ev_bind (rowsE_get hqR) (ev_chk hck (ev_bind (rowsE_get htR) (ev_chk hck (ev_chk hckq (ev_call (reduce_ret (w64 (0 - det)) p hp.1) h'))))))
  obtain ⟨det',h⟩ := key W 0 1 (by omega)
  refine ⟨det',ret_of ?_⟩
  simp only [run_impl_eliminate,impl_eliminate.ev]
  exact Ev.start (p := fun φ n => impl_eliminate.l0 (mkR (run E (φ 0))) (φ 0) n (W : Int) p 1 (W : Int) 0 [] (rowsE A R W) = _) 1 h (fun _ _ _ h => h)

end VeT

open Go Go.Proofs Ve
set_option linter.unusedVariables false
set_option linter.unusedSimpArgs false
namespace VeT

theorem ix_eq {i W j : Nat} (h : i * W + j ≤ 4611686018427387904) : w64 (w64 ((i : Int) * (W : Int)) + (j : Int)) = ((i * W + j : Nat) : Int) := by
  rw [cast_mul,w64_small (n := ((i * W : Nat) : Int)) (by omega) (by omega),w64_small (by omega) (by omega)]; omega

/-- a flat matrix' entry,as the evaluator reads and writes it -/
theorem flat_at {A : Ent} {R W i j : Nat} (hi : i < R) (hj : j < W) (hRW : R * W ≤ 1048576) : (decide ((0 : Int) ≤ ((i * W + j : Nat) : Int)) && decide (((i * W + j : Nat) : Int) < ((flatF A W R).length : Int))) = true ∧ (flatF A W R)[i * W + j]? = some (A i j) := by
  have := lt_rc hi hj
  refine ⟨?_,flatF_getD hi hj⟩
  simp only [Bool.and_eq_true,decide_eq_true_eq,flatF_length]; omega

theorem l03Reduced_ret (p : Int) (R W : Nat) (cells : Sim) (hp : 2 ≤ p ∧ p ≤ 251) (hR : R ≤ 1048576) (hW : W ≤ 1048576) (hRW : R * W ≤ 1048576) (hl : cells.length = R * W) (he : Elems cells p) :
    ∃ det : Int,Ret E n_spec_l03Reduced [dM (p,(R : Int),(W : Int),cells,())] ⟨o_spec_l03Reduced,(p,(R : Int),(W : Int),flatF (elS p R (entM cells W) W).1 W R,pvL (elS p R (entM cells W) W).2,det,())⟩ := by
  generalize hMt : (p,(R : Int),(W : Int),cells,()) = M
  have M1 : M.1 = p := by rw [← hMt]
  have M2 : M.2.1 = (R : Int) := by rw [← hMt]
  have M3 : M.2.2.1 = (W : Int) := by rw [← hMt]
  have M4 : M.2.2.2.1 = cells := by rw [← hMt]
  have hA := entM_in he hl
  have hfl := entM_flat hl
  generalize entM cells W = A at hA hfl
  let G : Int → Option Dv := fun det => some ⟨o_spec_l03Reduced,(p,(R : Int),(W : Int),flatF (elS p R A W).1 W R,pvL (elS p R A W).2,det,())⟩
  -- a column where no row is left
  have none_of : ∀ c,(elS p R A c).2.length = R → elS p R A (c + 1) = elS p R A c := fun c h => by
    show elP p R c (elS p R A c) = _
    rw [elP,h,Nat.sub_self]; rfl
  have stay : ∀ d c,c + d = W → (elS p R A c).2.length = R → elS p R A W = elS p R A c := by
    intro d
    induction d with
    | zero => intro c hc _; rw [show c = W by omega]
    | succ d ih =>
      intro c hc h
      have e := none_of c h
      rw [ih (c + 1) (by omega) (by rw [e]; exact h),e]
  have key : ∀ d c det,c + d = W → ∃ det' : Int,Ev fun φ => spec_l03Reduced.l1 (mkR (run E (φ 0))) (φ 0) (φ 1) M p (W : Int) det ((elS p R A c).2.length : Int) (c : Int) 0 0 0 p (R : Int) (W : Int) (pvL (elS p R A c).2) (flatF (elS p R A c).1 W R) = G det' := by
    intro d
    induction d with
    | zero =>
      intro c det hc
      obtain rfl : c = W := by omega
      refine ⟨det,Ev.round 1 (L := fun φ n => spec_l03Reduced.l1 (mkR (run E (φ 0))) (φ 0) n M p (c : Int) det ((elS p R A c).2.length : Int) (c : Int) 0 0 0 p (R : Int) (c : Int) (pvL (elS p R A c).2) (flatF (elS p R A c).1 c R)) ?_ (fun _ _ _ => rfl)⟩
      simp only [spec_l03Reduced.l1_succ _ mk_ok,spec_l03Reduced.j2_eq _ mk_ok,cond_false]
      exact ev_f (decide_eq_false (by omega)) ev_rfl
    | succ d ih =>
      intro c det hcd
      have hc : c < W := by omega
      obtain ⟨hB,hpl,hpc,_⟩ := elS_in hp.1 hA c
      have hstep : elS p R A (c + 1) = elP p R c (elS p R A c) := rfl
      by_cases hfull : (elS p R A c).2.length = R
      · refine ⟨det,Ev.round 1 (L := fun φ n => spec_l03Reduced.l1 (mkR (run E (φ 0))) (φ 0) n M p (W : Int) det ((elS p R A c).2.length : Int) (c : Int) 0 0 0 p (R : Int) (W : Int) (pvL (elS p R A c).2) (flatF (elS p R A c).1 W R)) ?_ (fun _ _ _ => rfl)⟩
        simp only [spec_l03Reduced.l1_succ _ mk_ok,M2,hfull,show decide ((R : Int) < (R : Int)) = false from decide_eq_false (by omega),spec_l03Reduced.j2_eq _ mk_ok,cond_false]
        refine ev_t (decide_eq_true (by omega)) (ev_some ?_)
        show _ = some _
        rw [stay (d + 1) c hcd hfull]
      · have htR : (elS p R A c).2.length < R := by omega
        generalize hS : elS p R A c = S at hB hpl hpc hstep hfull htR
        obtain ⟨B0,pv⟩ := S
        simp only at hB hpl hpc hstep hfull htR
        generalize ht : pv.length = top at hpl hpc hfull htR
        -- what lies behind the exchange
        have back : ∀ q,top ≤ q → q < R → B0 q c ≠ 0 → elS p R A (c + 1) = (elF p c top (elSw top q B0),pv ++ [c]) → ∀ det2,∃ det',Ev fun φ => spec_l03Reduced.j6 (mkR (run E (φ 0))) (φ 0) (φ 1) M p (W : Int) det2 (top : Int) (c : Int) 0 0 0 p (R : Int) (W : Int) (pvL pv) (flatF (elSw top q B0) W R) = G det' := fun q hq1 hqR hq2 e det2 => by
          have hsw := hB.sw htR hqR
          have hlead : 1 ≤ elSw top q B0 top c ∧ elSw top q B0 top c ≤ p - 1 := by
            have h1 := hsw top c htR hc
            have h2 : elSw top q B0 top c = B0 q c := by simp [elSw]
            rw [← h2] at hq2
            omega
          generalize elSw top q B0 = B at hsw hlead e
          obtain ⟨det',h'⟩ := ih (c + 1) (Int.tmod (w64 (det2 * B top c)) p) (by omega)
          rw [e] at h'
          simp only at h'
          rw [pvL_add,List.length_append,List.length_singleton,ht] at h'
          have hNin : ∀ j,0 ≤ elN p c top B j ∧ elN p c top B j ≤ p - 1 := fun j => emod_in hp.1
          have hinv := invF_in (a := B top c) (p := p) hp.1
          have hinvR := l03Inverse_ret (B top c) p hp ⟨by omega,hlead.2⟩
          have hidx : ∀ i j,i < R → j < W → i * W + j ≤ 4611686018427387904 := fun i j hi hj => by have := lt_rc hi hj; omega
          refine ⟨det',?_⟩
          simp only [spec_l03Reduced.j6_eq _ mk_ok,ix_eq (hidx top c htR hc),Int.toNat_natCast]
          obtain ⟨k1,k2⟩ := flat_at (A := B) htR hc hRW
          refine ev_chk k1 (ev_bind k2 (ev_chk (by simp; omega) (ev_call hinvR ?_)))
          generalize Int.tmod (w64 (det2 * B top c)) p = D at h' ⊢
          -- the loop that scales the row
          let N : Nat → Ent := fun n i j => if i = top ∧ j < n then elN p c top B j else B i j
          have hN0 : flatF (N 0) W R = flatF B W R := flatF_congr fun i j _ _ => by simp [N]
          have hNW : flatF (N W) W R = flatF (elM p c top B) W R := flatF_congr fun i j _ hj => by
            simp only [N,elM,hj,and_true]
          rw [← hN0]
          refine Ev.start (p := fun φ n => spec_l03Reduced.l7 (mkR (run E (φ 0))) (φ 0) (φ 1) n M p (W : Int) D (top : Int) (c : Int) (invF (B top c) p) 0 0 0 0 p (R : Int) (W : Int) (pvL pv) (flatF (N 0) W R) = _) 2 ?_ (fun _ _ _ h => h)
          refine fold_loop 2 (L := fun φ n j o => spec_l03Reduced.l7 (mkR (run E (φ 0))) (φ 0) (φ 1) n M p (W : Int) D (top : Int) (c : Int) (invF (B top c) p) j 0 0 0 p (R : Int) (W : Int) (pvL pv) o) (len := W) (fun j => flatF (N j) W R) (fun _ _ _ _ _ => rfl) (fun j r hj ih2 => ?_) ?_
          · simp only [spec_l03Reduced.l7_succ _ mk_ok,ix_eq (hidx top j htR hj),Int.toNat_natCast]
            obtain ⟨k1,k2⟩ := flat_at (A := N j) htR hj hRW
            have hNj : N j top j = B top j := by simp [N]
            rw [hNj] at k2
            have hb := hsw top j htR hj
            have ev := val_eq (x := B top j) (y := invF (B top c) p) (p := p) (by omega) (by omega) hp
            have hset : (flatF (N j) W R).set (top * W + j) (B top j * invF (B top c) p % p) = flatF (N (j + 1)) W R := by
              rw [flatF_set htR hj]
              refine flatF_congr fun k l _ _ => ?_
              simp only [N]
              by_cases h1 : k = top
              · subst h1
                by_cases h2 : l = j
                · subst h2; simp [elN]
                · simp only [true_and,h2,if_false,and_false]
                  by_cases h3 : l < j
                  · rw [if_pos h3,if_pos (by omega)]
                  · rw [if_neg h3,if_neg (by omega)]
              · simp [h1]
            refine ev_t (decide_eq_true (by omega)) (ev_chk k1 (ev_bind k2 (ev_chk (by simp; omega) (ev_chk k1 ?_))))
            simp only [ev]
            rw [w64_succ (by omega),hset]; exact ih2
          · simp only [spec_l03Reduced.l7_succ _ mk_ok]
            refine ev_f (decide_eq_false (by omega)) ?_
            rw [hNW]
            -- the loop over the rows
            let K : Nat → Ent := fun n i j => if i < n then elF p c top B i j else elM p c top B i j
            have hK0 : flatF (K 0) W R = flatF (elM p c top B) W R := flatF_congr fun i j _ _ => by simp [K]
            have hKR : flatF (K R) W R = flatF (elF p c top B) W R := flatF_congr fun i j hi _ => by simp [K,hi]
            rw [← hK0]
            refine Ev.start (p := fun φ n => spec_l03Reduced.l8 (mkR (run E (φ 0))) (φ 0) (φ 1) n M p (W : Int) D (top : Int) (c : Int) 0 0 0 0 p (R : Int) (W : Int) (pvL pv) (flatF (K 0) W R) = _) 3 ?_ (fun _ _ _ h => h)
            refine fold_loop 3 (L := fun φ n i o => spec_l03Reduced.l8 (mkR (run E (φ 0))) (φ 0) (φ 1) n M p (W : Int) D (top : Int) (c : Int) i 0 0 0 p (R : Int) (W : Int) (pvL pv) o) (len := R) (fun i => flatF (K i) W R) (fun _ _ _ _ _ => rfl) (fun i r hi ih2 => ?_) ?_
            · simp only [spec_l03Reduced.l8_succ _ mk_ok,M2,ix_eq (hidx i c hi hc),Int.toNat_natCast]
              obtain ⟨k1,k2⟩ := flat_at (A := K i) hi hc hRW
              refine ev_t (decide_eq_true (by omega)) (ev_chk k1 (ev_bind k2 ?_))
              by_cases hit : i = top
              · subst hit
                refine ev_t (by simp) ?_
                simp only [spec_l03Reduced.j9_eq _ mk_ok,cond_true]
                have hsame : flatF (K (i + 1)) W R = flatF (K i) W R := flatF_congr fun k j _ _ => by
                  simp only [K]
                  by_cases h1 : k = i
                  · subst h1; simp [elF,elM]
                  · by_cases h2 : k < i
                    · rw [if_pos (by omega),if_pos h2]
                    · rw [if_neg (by omega),if_neg h2]
                rw [hsame] at ih2
                rw [w64_succ (by omega)]; exact ih2
              · have hM : ∀ j,K i i j = B i j := fun j => by simp [K,elM,hit]
                rw [hM]
                have hBi := hsw i c hi hc
                refine ev_f (by simp; omega) ?_
                by_cases hz : B i c = 0
                · simp only [hz,beq_self_eq_true,spec_l03Reduced.j9_eq _ mk_ok,cond_true]
                  have hsame : flatF (K (i + 1)) W R = flatF (K i) W R := flatF_congr fun k j _ _ => by
                    simp only [K]
                    by_cases h1 : k = i
                    · subst h1; simp [elF,elM,hit,hz]
                    · by_cases h2 : k < i
                      · rw [if_pos (by omega),if_pos h2]
                      · rw [if_neg (by omega),if_neg h2]
                  rw [hsame] at ih2
                  rw [w64_succ (by omega)]; exact ih2
                · have hne : (B i c == 0) = false := by simpa using hz
                  simp only [hne,spec_l03Reduced.j9_eq _ mk_ok,cond_false]
                  let Q : Nat → Ent := fun n k j => if k = i ∧ j < n then elF p c top B i j else K i k j
                  have hQ0 : flatF (Q 0) W R = flatF (K i) W R := flatF_congr fun k j _ _ => by simp [Q]
                  have hQW : flatF (Q W) W R = flatF (K (i + 1)) W R := flatF_congr fun k j _ hj => by
                    simp only [Q,K,hj,and_true]
                    by_cases h1 : k = i
                    · subst h1; simp
                    · by_cases h2 : k < i
                      · rw [if_neg h1,if_pos h2,if_pos (by omega)]
                      · rw [if_neg h1,if_neg h2,if_neg (by omega)]
                  rw [← hQ0]
                  refine Ev.start (p := fun φ n => spec_l03Reduced.l10 (mkR (run E (φ 0))) (φ 0) (φ 1) (φ 3) n M p (W : Int) D (top : Int) (c : Int) (i : Int) (B i c) 0 0 0 0 p (R : Int) (W : Int) (pvL pv) (flatF (Q 0) W R) = _) 4 ?_ (fun _ _ _ h => h)
                  refine fold_loop 4 (L := fun φ n j o => spec_l03Reduced.l10 (mkR (run E (φ 0))) (φ 0) (φ 1) (φ 3) n M p (W : Int) D (top : Int) (c : Int) (i : Int) (B i c) j 0 0 0 p (R : Int) (W : Int) (pvL pv) o) (len := W) (fun j => flatF (Q j) W R) (fun _ _ _ _ _ => rfl) (fun j r2 hj ih3 => ?_) ?_
                  · simp only [spec_l03Reduced.l10_succ _ mk_ok,ix_eq (hidx i j hi hj),ix_eq (hidx top j htR hj),Int.toNat_natCast]
                    obtain ⟨k1,k2⟩ := flat_at (A := Q j) hi hj hRW
                    obtain ⟨k3,k4⟩ := flat_at (A := Q j) htR hj hRW
                    have q1 : Q j i j = B i j := by simp only [Q,Nat.lt_irrefl,and_false,if_false]; exact hM j
                    have q2 : Q j top j = elN p c top B j := by
                      have : ¬ top = i := fun e => hit e.symm
                      simp [Q,K,this,elF,elM]
                    rw [q1] at k2
                    rw [q2] at k4
                    have hbij := hsw i j hi hj
                    have hnj := hNin j
                    have hm := mul_in (x := B i c) (y := elN p c top B j) (by omega) (by omega)
                    have e1 : w64 (B i c * elN p c top B j) = B i c * elN p c top B j := w64_small (by omega) (by omega)
                    have e2 : w64 (B i j - B i c * elN p c top B j) = B i j - B i c * elN p c top B j := w64_small (by omega) (by omega)
                    have e3 : redV (B i j - B i c * elN p c top B j) p = elF p c top B i j := by
                      rw [redV_eq hp (by omega)]
                      unfold elF
                      rw [if_neg hit,if_pos hz]
                      have : B i j + (p - B i c) * elN p c top B j = B i j - B i c * elN p c top B j + p * elN p c top B j := by rw [Int.sub_mul]; omega
                      rw [this,Int.add_mul_emod_self_left]
                    have hmod := l03Mod_ret (B i j - B i c * elN p c top B j) p hp.1
                    rw [e3] at hmod
                    have hset : (flatF (Q j) W R).set (i * W + j) (elF p c top B i j) = flatF (Q (j + 1)) W R := by
                      rw [flatF_set hi hj]
                      refine flatF_congr fun k l _ _ => ?_
                      simp only [Q]
                      by_cases h1 : k = i
                      · subst h1
                        by_cases h2 : l = j
                        · subst h2; simp
                        · simp only [true_and,h2,if_false,and_false]
                          by_cases h3 : l < j
                          · rw [if_pos h3,if_pos (by omega)]
                          · rw [if_neg h3,if_neg (by omega)]
                      · simp [h1]
                    refine ev_t (decide_eq_true (by omega)) (ev_chk k1 (ev_bind k2 (ev_chk k3 (ev_bind k4 ?_))))
                    simp only [e1,e2]
                    refine ev_call hmod (ev_chk k1 ?_)
                    rw [w64_succ (by omega)]
                    rw [← hset] at ih3
                    exact ih3
                  · simp only [spec_l03Reduced.l10_succ _ mk_ok]
                    refine ev_f (decide_eq_false (by omega)) ?_
                    rw [w64_succ (by omega),hQW]; exact ih2
            · simp only [spec_l03Reduced.l8_succ _ mk_ok,M2]
              refine ev_f (decide_eq_false (by omega)) (ev_chk (by simp only [pvL_length,List.length_cons,List.length_nil,decide_eq_true_eq]; omega) ?_)
              rw [w64_succ (by omega),w64_succ (by omega),hKR]
              exact h'
        have hidx : ∀ i j,i < R → j < W → i * W + j ≤ 4611686018427387904 := fun i j hi hj => by have := lt_rc hi hj; omega
        -- the search for the row
        have search : ∀ rs : Nat → Option Dv,∀ rn : Option Dv,(∀ q,top ≤ q → q < R → B0 q c ≠ 0 → (∀ i,top ≤ i → i < q → ¬ B0 i c ≠ 0) → Ev fun φ => spec_l03Reduced.j4 (mkR (run E (φ 0))) (φ 0) (φ 1) (φ 2) M p (W : Int) det (top : Int) (c : Int) (q : Int) false 0 0 0 p (R : Int) (W : Int) (pvL pv) (flatF B0 W R) = rs q) →
            ((∀ i,top ≤ i → i < R → ¬ B0 i c ≠ 0) → Ev fun φ => spec_l03Reduced.j4 (mkR (run E (φ 0))) (φ 0) (φ 1) (φ 2) M p (W : Int) det (top : Int) (c : Int) (R : Int) false 0 0 0 p (R : Int) (W : Int) (pvL pv) (flatF B0 W R) = rn) →
            Ev fun φ => spec_l03Reduced.l3 (mkR (run E (φ 0))) (φ 0) (φ 1) (φ 0) M p (W : Int) det (top : Int) (c : Int) (top : Int) 0 0 0 p (R : Int) (W : Int) (pvL pv) (flatF B0 W R) = orN rs rn (firstN (fun i => B0 i c ≠ 0) top (R - top)) := fun rs rn hs hn => by
          refine Ev.start (p := fun φ n => spec_l03Reduced.l3 (mkR (run E (φ 0))) (φ 0) (φ 1) n M p (W : Int) det (top : Int) (c : Int) (top : Int) 0 0 0 p (R : Int) (W : Int) (pvL pv) (flatF B0 W R) = _) 2 ?_ (fun _ _ _ h => h)
          -- the first one is kept in mind by the number of the round
          have go : ∀ d a,top ≤ a → a + d = R → (∀ i,top ≤ i → i < a → ¬ B0 i c ≠ 0) → Ev fun φ => spec_l03Reduced.l3 (mkR (run E (φ 0))) (φ 0) (φ 1) (φ 2) M p (W : Int) det (top : Int) (c : Int) (a : Int) 0 0 0 p (R : Int) (W : Int) (pvL pv) (flatF B0 W R) = orN rs rn (firstN (fun i => B0 i c ≠ 0) a d) := by
            intro d
            induction d with
            | zero =>
              intro a ha hk hno
              obtain rfl : a = R := by omega
              refine Ev.round 2 (L := fun φ n => spec_l03Reduced.l3 (mkR (run E (φ 0))) (φ 0) (φ 1) n M p (W : Int) det (top : Int) (c : Int) (a : Int) 0 0 0 p (a : Int) (W : Int) (pvL pv) (flatF B0 W a)) ?_ (fun _ _ _ => rfl)
              simp only [spec_l03Reduced.l3_succ _ mk_ok,M2]
              exact ev_f (decide_eq_false (by omega)) (hn hno)
            | succ d ih3 =>
              intro a ha hk hno
              have haR : a < R := by omega
              refine Ev.round 2 (L := fun φ n => spec_l03Reduced.l3 (mkR (run E (φ 0))) (φ 0) (φ 1) n M p (W : Int) det (top : Int) (c : Int) (a : Int) 0 0 0 p (R : Int) (W : Int) (pvL pv) (flatF B0 W R)) ?_ (fun _ _ _ => rfl)
              simp only [spec_l03Reduced.l3_succ _ mk_ok,M2,ix_eq (hidx a c haR hc),Int.toNat_natCast]
              obtain ⟨k1,k2⟩ := flat_at (A := B0) haR hc hRW
              refine ev_t (decide_eq_true (by omega)) (ev_chk k1 (ev_bind k2 ?_))
              rw [firstN]
              by_cases hz : B0 a c = 0
              · rw [if_neg (by simpa using hz)]
                simp only [hz,beq_self_eq_true,spec_l03Reduced.j4_eq _ mk_ok,cond_true]
                rw [w64_succ (by omega)]
                refine ih3 (a + 1) (by omega) (by omega) fun i h1 h2 => ?_
                by_cases e : i = a
                · subst e; simpa using hz
                · exact hno i h1 (by omega)
              · rw [if_pos hz]
                have hne : (B0 a c == 0) = false := by simpa using hz
                simp only [hne]
                exact hs a ha haR hz hno
          exact go (R - top) top (Nat.le_refl _) (by omega) fun i h1 h2 => by omega
        have enter : ∀ r,(Ev fun φ => spec_l03Reduced.l3 (mkR (run E (φ 0))) (φ 0) (φ 1) (φ 0) M p (W : Int) det (top : Int) (c : Int) (top : Int) 0 0 0 p (R : Int) (W : Int) (pvL pv) (flatF B0 W R) = r) → Ev fun φ => spec_l03Reduced.l1 (mkR (run E (φ 0))) (φ 0) (φ 1) M p (W : Int) det (top : Int) (c : Int) 0 0 0 p (R : Int) (W : Int) (pvL pv) (flatF B0 W R) = r := fun r hr => by
          refine Ev.round 1 (L := fun φ n => spec_l03Reduced.l1 (mkR (run E (φ 0))) (φ 0) n M p (W : Int) det (top : Int) (c : Int) 0 0 0 p (R : Int) (W : Int) (pvL pv) (flatF B0 W R)) ?_ (fun _ _ _ => rfl)
          simp only [spec_l03Reduced.l1_succ _ mk_ok,M2,show decide ((top : Int) < (R : Int)) = true from decide_eq_true (by omega),spec_l03Reduced.j2_eq _ mk_ok,cond_true]
          exact ev_t (decide_eq_true (by omega)) hr
        cases hf : firstN (fun i => B0 i c ≠ 0) top (R - top) with
        | none =>
          have e : elS p R A (c + 1) = (B0,pv) := by rw [hstep,elP]; simp only [ht,hf]
          obtain ⟨det',h'⟩ := ih (c + 1) det (by omega)
          rw [e] at h'
          simp only [ht] at h'
          refine ⟨det',enter _ ?_⟩
          have := search (fun _ => G det') (G det') (fun q h1 h2 h3 _ => absurd h3 (firstN_none hf q h1 (by omega))) fun _ => by
            simp only [spec_l03Reduced.j4_eq _ mk_ok,cond_false,M2]
            refine ev_t (by simp) ?_
            rw [w64_succ (by omega)]; exact h'
          rw [hf] at this
          exact this
        | some q =>
          have hq := firstN_some hf
          have hqR : q < R := by omega
          have e : elS p R A (c + 1) = (elF p c top (elSw top q B0),pv ++ [c]) := by rw [hstep,elP]; simp only [ht,hf]
          by_cases hqt : q = top
          · subst hqt
            obtain ⟨det',h'⟩ := back q (Nat.le_refl _) hqR hq.2.2 e det
            have hself : flatF (elSw q q B0) W R = flatF B0 W R := flatF_congr fun i j _ _ => by
              unfold elSw
              by_cases h : i = q
              · subst h; simp
              · simp [h]
            rw [hself] at h'
            refine ⟨det',enter _ ?_⟩
            have := search (fun _ => G det') (G det') (fun q' h1 h2 h3 h4 => by
              obtain rfl : q' = q := Classical.byContradiction fun hne => h4 q (Nat.le_refl _) (by omega) hq.2.2
              simp only [spec_l03Reduced.j4_eq _ mk_ok,cond_false,M2]
              exact ev_f (by simp; omega) (ev_f (by simp) h')) fun hno => absurd hq.2.2 (hno q (Nat.le_refl _) hqR)
            rw [hf] at this
            exact this
          · obtain ⟨det',h'⟩ := back q hq.1 hqR hq.2.2 e (w64 (p - det))
            refine ⟨det',enter _ ?_⟩
            have := search (fun _ => G det') (G det') (fun q' h1 h2 h3 h4 => by
              obtain rfl : q' = q := by
                rcases Nat.lt_trichotomy q' q with h | h | h
                · exact absurd h3 (firstN_min hf q' h1 h)
                · exact h
                · exact absurd hq.2.2 (h4 q hq.1 h)
              simp only [spec_l03Reduced.j4_eq _ mk_ok,cond_false,M2]
              refine ev_f (by simp; omega) (ev_t (by simp; omega) ?_)
              -- the loop that exchanges the rows
              let X : Nat → Ent := fun n i j => if j < n then elSw top q' B0 i j else B0 i j
              have hX0 : flatF (X 0) W R = flatF B0 W R := flatF_congr fun i j _ _ => by simp [X]
              have hXW : flatF (X W) W R = flatF (elSw top q' B0) W R := flatF_congr fun i j _ hj => by simp [X,hj]
              rw [← hX0]
              refine Ev.start (p := fun φ n => spec_l03Reduced.l5 (mkR (run E (φ 0))) (φ 0) (φ 1) n M p (W : Int) (w64 (p - det)) (top : Int) (c : Int) (q' : Int) 0 0 0 0 p (R : Int) (W : Int) (pvL pv) (flatF (X 0) W R) = _) 3 ?_ (fun _ _ _ h => h)
              refine fold_loop 3 (L := fun φ n j o => spec_l03Reduced.l5 (mkR (run E (φ 0))) (φ 0) (φ 1) n M p (W : Int) (w64 (p - det)) (top : Int) (c : Int) (q' : Int) j 0 0 0 p (R : Int) (W : Int) (pvL pv) o) (len := W) (fun j => flatF (X j) W R) (fun _ _ _ _ _ => rfl) (fun j r hj ih3 => ?_) ?_
              · simp only [spec_l03Reduced.l5_succ _ mk_ok,ix_eq (hidx q' j hqR hj),ix_eq (hidx top j htR hj),Int.toNat_natCast,List.length_set]
                obtain ⟨k1,k2⟩ := flat_at (A := X j) hqR hj hRW
                obtain ⟨k3,k4⟩ := flat_at (A := X j) htR hj hRW
                have x1 : X j q' j = B0 q' j := by simp [X]
                have x2 : X j top j = B0 top j := by simp [X]
                rw [x1] at k2
                rw [x2] at k4
                have hset : ((flatF (X j) W R).set (q' * W + j) (B0 top j)).set (top * W + j) (B0 q' j) = flatF (X (j + 1)) W R := by
                  rw [flatF_set hqR hj,flatF_set htR hj]
                  refine flatF_congr fun k l _ _ => ?_
                  simp only [X]
                  by_cases hl : l = j
                  · subst hl
                    by_cases hk1 : k = top
                    · subst hk1; simp [elSw]
                    · by_cases hk2 : k = q'
                      · subst hk2; simp [elSw,hk1]
                      · simp [elSw,hk1,hk2]
                  · simp only [hl,and_false,if_false]
                    by_cases h3 : l < j
                    · rw [if_pos h3,if_pos (by omega)]
                    · rw [if_neg h3,if_neg (by omega)]
                refine ev_t (decide_eq_true (by omega)) (ev_chk k1 (ev_bind k2 (ev_chk k3 (ev_bind k4 (ev_chk k1 (ev_chk k3 ?_))))))
                rw [w64_succ (by omega),hset]; exact ih3
              · simp only [spec_l03Reduced.l5_succ _ mk_ok]
                refine ev_f (decide_eq_false (by omega)) ?_
                rw [hXW]; exact h') fun hno => absurd hq.2.2 (hno q hq.1 hqR)
            rw [hf] at this
            exact this
  obtain ⟨det',h⟩ := key W 0 1 (by omega)
  refine ⟨det',ret_of ?_⟩
  have h0 : flatF (elS p R A 0).1 W R = cells := hfl
  rw [h0] at h
  simp only [run_spec_l03Reduced,spec_l03Reduced.ev,spec_l03Reduced.j0_eq _ mk_ok,M1,M2,M3,M4]
  have own := l00Own_ret cells (by omega)
  have st := Ev.start (p := fun φ n => spec_l03Reduced.l1 (mkR (run E (φ 0))) (φ 0) n M p (W : Int) 1 0 0 0 0 0 p (R : Int) (W : Int) [] cells = G det') 1 h (fun _ _ _ h => h)
  exact ev_both (ev_call own st) (ev_call own st)

end VeT

open Go Go.Proofs Ve
set_option linter.unusedVariables false
set_option linter.unusedSimpArgs false
namespace VeT

theorem row_ent {cells : Sim} {R C i : Nat} (hl : cells.length = R * C) (hi : i < R) : (cells.take ((i + 1) * C)).drop (i * C) = (List.range C).map (entM cells C i) := by
  have h := flatF_row (f := entM cells C) (C := C) hi
  rw [entM_flat hl] at h
  exact h

theorem rowsOfG_ret (p : Int) (R C : Nat) (cells : Sim) (hl : cells.length = R * C) (hR : R ≤ 1048576) (hC : C ≤ 1048576) (hRC : R * C ≤ 1048576) : Ret E n_impl_rowsOf [dI p,dI (R : Int),dI (C : Int),dL cells] ⟨o_impl_rowsOf,(rowsE (entM cells C) R C,())⟩ := by
  refine ret_of ?_
  simp only [run_impl_rowsOf,impl_rowsOf.ev]
  refine Ev.start (p := fun φ n => impl_rowsOf.l0 (mkR (run E (φ 0))) (φ 0) n (R : Int) 0 p (R : Int) (C : Int) cells [] = _) 1 ?_ (fun _ _ _ h => h)
  refine fold_loop 1 (L := fun φ n k a => impl_rowsOf.l0 (mkR (run E (φ 0))) (φ 0) n (R : Int) k p (R : Int) (C : Int) cells a) (len := R) (fun k => rowsE (entM cells C) k C) (fun _ _ _ _ _ => rfl) (fun k r hk ih => ?_) ?_
  · simp only [impl_rowsOf.l0_succ _ mk_ok]
    have hle : (k + 1) * C ≤ R * C := Nat.mul_le_mul_right _ hk
    have e : rowsE (entM cells C) (k + 1) C = rowsE (entM cells C) k C ++ [(List.range C).map (entM cells C k)] := by
      unfold rowsE; rw [List.range_succ,List.map_append]; rfl
    rw [e,← row_ent hl hk] at ih
    refine ev_t (decide_eq_true (by omega)) (ev_call (Mat_row_ret p _ C cells k (by omega) (by omega) (by omega)) (ev_call (Clone_ret _ (by rw [List.length_drop,List.length_take]; omega)) (ev_chk (by simp [rowsE_length]; omega) ?_)))
    rw [w64_succ (by omega)]; exact ih
  · simp only [impl_rowsOf.l0_succ _ mk_ok]
    exact ev_f (decide_eq_false (by omega)) ev_rfl

theorem matrixOf_ret (p n : Int) (rows : List Sim) (h1 : rows.length ≤ 1048576) (h2 : rows.flatten.length ≤ 1048576) : Ret E n_impl_matrixOf [dI p,dI n,dLL rows] ⟨o_impl_matrixOf,(p,(rows.length : Int),n,rows.flatten,())⟩ := by
  refine ret_of ?_
  simp only [run_impl_matrixOf,impl_matrixOf.ev]
  exact ev_call (sizeL_ret rows) (ev_call (Concat_ret rows h1 h2) ev_rfl)

theorem flatten_take {rows : List Sim} {k : Nat} (hk : k < rows.length) : (rows.take (k + 1)).flatten = (rows.take k).flatten ++ rows[k] := by
  rw [List.take_succ_eq_append_getElem hk,List.flatten_append]; simp

theorem flatten_take_le {rows : List Sim} {k : Nat} : (rows.take k).flatten.length ≤ rows.flatten.length := by
  conv => rhs; rw [← List.take_append_drop k rows,List.flatten_append,List.length_append]
  omega

theorem l04Rows_ret (p n : Int) (rows : List Sim) (h1 : rows.length ≤ 1048576) (h2 : rows.flatten.length ≤ 1048576) : Ret E n_spec_l04Rows [dI p,dI n,dLL rows] ⟨o_spec_l04Rows,(p,(rows.length : Int),n,rows.flatten,())⟩ := by
  refine ret_of ?_
  simp only [run_spec_l04Rows,spec_l04Rows.ev]
  refine Ev.start (p := fun φ q => spec_l04Rows.l0 (mkR (run E (φ 0))) (φ 0) q rows 0 0 0 0 p (rows.length : Int) n [] = _) 1 ?_ (fun _ _ _ h => h)
  refine fold_loop 1 (L := fun φ q k o => spec_l04Rows.l0 (mkR (run E (φ 0))) (φ 0) q rows k 0 0 0 p (rows.length : Int) n o) (len := rows.length) (fun k => (rows.take k).flatten) (fun _ _ _ _ _ => rfl) (fun k r hk ih => ?_) ?_
  · simp only [spec_l04Rows.l0_succ _ mk_ok]
    have hle := flatten_take_le (rows := rows) (k := k + 1)
    rw [flatten_take hk] at ih hle
    rw [List.length_append] at hle
    refine ev_t (decide_eq_true (by omega)) (ev_bind (idx_lt hk) (ev_chk (decide_eq_true (by omega)) ?_))
    rw [w64_succ (by omega)]; exact ih
  · simp only [spec_l04Rows.l0_succ _ mk_ok]
    refine ev_f (decide_eq_false (by omega)) (ev_some ?_)
    rw [List.take_of_length_le (Nat.le_refl _)]

theorem pvL_get {l : List Nat} {i : Nat} (hi : i < l.length) : (pvL l)[i]? = some ((l.getD i 0 : Nat) : Int) := by
  unfold pvL
  rw [List.getElem?_map,List.getElem?_eq_getElem hi,getD_lt hi]; rfl

theorem getD_mem {l : List Nat} {i : Nat} (hi : i < l.length) : l.getD i 0 ∈ l := by
  rw [getD_lt hi]; exact List.getElem_mem hi

/-- a list of rows of one length -/
def Rws (p : Int) (W : Nat) (rows : List Sim) : Prop := ∀ x ∈ rows,x.length = W ∧ Elems x p

theorem Rws.flat {p : Int} {W : Nat} {rows : List Sim} (h : Rws p W rows) : rows.flatten.length = rows.length * W ∧ Elems rows.flatten p := by
  induction rows with
  | nil => exact ⟨by simp,fun x hx => by simp at hx⟩
  | cons r rows ih =>
    obtain ⟨h1,h2⟩ := ih fun x hx => h x (List.mem_cons_of_mem _ hx)
    obtain ⟨h3,h4⟩ := h r List.mem_cons_self
    refine ⟨by rw [List.flatten_cons,List.length_append,h1,h3,List.length_cons,Nat.add_mul]; omega,fun x hx => ?_⟩
    rw [List.flatten_cons,List.mem_append] at hx
    rcases hx with hx | hx
    · exact h4 x hx
    · exact h2 x hx

/-- the conditions are the coboundary's rows -/
theorem conds_rowsE {x : Shf} {n : Nat} : conds x.1 x.2.1 x.2.2.1 x.2.2.2.1 n = rowsE (entM (cobX x 0).2.2.2.1 (SD x.1 x.2.2.1 0).toNat) n (SD x.1 x.2.2.1 0).toNat := rfl

theorem conds_rws {x : Shf} (hs : VS x.1 x.2.1 x.2.2.1 x.2.2.2.1) (n : Nat) : Rws x.2.1 (SD x.1 x.2.2.1 0).toNat (conds x.1 x.2.1 x.2.2.1 x.2.2.2.1 n) := fun r hr => by
  unfold conds at hr
  obtain ⟨i,_,rfl⟩ := List.mem_map.1 hr
  refine ⟨rowC_length,fun y hy => ?_⟩
  unfold rowC at hy
  obtain ⟨g,_,rfl⟩ := List.mem_map.1 hy
  by_cases hg : i * (SD x.1 x.2.2.1 0).toNat + g < (cobC x.1 x.2.1 x.2.2.1 x.2.2.2.1 0).length
  · rw [getD_lt hg]; exact cobC_elems hs 0 _ (List.getElem_mem hg)
  · rw [List.getD_eq_getElem?_getD,List.getElem?_eq_none (by omega)]
    have := hs.2.1.1
    show 0 ≤ (0 : Int) ∧ (0 : Int) ≤ _; omega

end VeT

open Go Go.Proofs Ve
set_option linter.unusedVariables false
set_option linter.unusedSimpArgs false
namespace VeT

/-! a matrix beside a column -/
def augE (A : Ent) (b : Sim) (W : Nat) : Ent := fun i j => if j = W then b.getD i 0 else A i j

theorem augE_in {p : Int} {R W : Nat} {A : Ent} {b : Sim} (hA : EIn p R W A) (hb : Elems b p) (hl : b.length = R) : EIn p R (W + 1) (augE A b W) := fun i j hi hj => by
  unfold augE
  split
  · rw [getD_lt (by omega)]; exact hb _ (List.getElem_mem _)
  · exact hA i j hi (by omega)

theorem augE_row {A : Ent} {b : Sim} {W i : Nat} : (List.range (W + 1)).map (augE A b W i) = (List.range W).map (A i) ++ [b.getD i 0] := by
  rw [List.range_succ,List.map_append]
  congr 1
  · exact List.map_congr_left fun j hj => by
      have := List.mem_range.1 hj
      unfold augE; rw [if_neg (by omega)]
  · simp [augE]

def augC (cells b : Sim) (W R : Nat) : Sim := flatF (augE (entM cells W) b W) (W + 1) R

theorem entM_flatF {f : Ent} {W R i j : Nat} (hi : i < R) (hj : j < W) : entM (flatF f W R) W i j = f i j := by
  unfold entM
  rw [List.getD_eq_getElem?_getD,flatF_getD hi hj]; rfl

def augK (A : Ent) (b : Sim) (R W n : Nat) : List Sim := (List.range R).map fun i => if i < n then (List.range (W + 1)).map (augE A b W i) else (List.range W).map (A i)

theorem augK_zero {A : Ent} {b : Sim} {R W : Nat} : augK A b R W 0 = rowsE A R W := by simp [augK,rowsE]

theorem augK_all {A : Ent} {b : Sim} {R W : Nat} : augK A b R W R = rowsE (augE A b W) R (W + 1) :=
  List.map_congr_left fun i hi => by rw [if_pos (List.mem_range.1 hi)]

theorem augK_length {A : Ent} {b : Sim} {R W n : Nat} : (augK A b R W n).length = R := by simp [augK]

theorem augK_get {A : Ent} {b : Sim} {R W n : Nat} (hn : n < R) : (augK A b R W n)[n]? = some ((List.range W).map (A n)) := by
  unfold augK
  rw [List.getElem?_map,List.getElem?_range hn]
  simp

theorem augK_set {A : Ent} {b : Sim} {R W n : Nat} : (augK A b R W n).set n ((List.range W).map (A n) ++ [b.getD n 0]) = augK A b R W (n + 1) := by
  rw [← augE_row]
  apply List.ext_getElem?
  intro k
  rw [List.getElem?_set]
  unfold augK
  by_cases hk : n = k
  · subst hk
    by_cases hR : n < R
    · simp [hR]
    · simp [hR]
  · rw [if_neg hk]
    by_cases hR : k < R
    · simp only [List.getElem?_map,List.getElem?_range hR,Option.map_some]
      by_cases h : k < n
      · rw [if_pos h,if_pos (by omega)]
      · rw [if_neg h,if_neg (by omega)]
    · rw [List.getElem?_eq_none (by simp; omega),List.getElem?_eq_none (by simp; omega)]

/-! what the pivots tell -/
def solP (F : Ent) (W : Nat) : List Nat → Nat → Sim → Option Sim
  | [],_,o => some o
  | q :: qs,i,o => if q = W then none else solP F W qs (i + 1) (o.set q (F i W))

def solO : Option Sim → Sim × Bool × Unit
  | some o => (o,true,())
  | none => ([],false,())

noncomputable def solS (p : Int) (R W : Nat) (cells b : Sim) : Option Sim :=
  solP (elS p R (entM (augC cells b W R) (W + 1)) (W + 1)).1 W (elS p R (entM (augC cells b W R) (W + 1)) (W + 1)).2 0 (List.replicate W 0)

theorem solP_length {F : Ent} {W : Nat} : ∀ {qs : List Nat} {i : Nat} {o y : Sim},solP F W qs i o = some y → y.length = o.length
  | [],i,o,y,h => by obtain rfl := Option.some.inj h; rfl
  | q :: qs,i,o,y,h => by
    unfold solP at h
    split at h
    · cases h
    · rw [solP_length h,List.length_set]

theorem solve_ret (p : Int) (R W : Nat) (cells b : Sim) (hp : 2 ≤ p ∧ p ≤ 251) (hR : R ≤ 1048576) (hW : W < 1048576) (hRW : R * W ≤ 1048576) (hl : cells.length = R * W) (he : Elems cells p) (hbl : b.length = R) (hb : Elems b p) :
    Ret E n_impl_solve [dI p,dI (R : Int),dI (W : Int),dL cells,dL b] ⟨o_impl_solve,solO (solS p R W cells b)⟩ := by
  have hA0 := entM_in he hl
  have hA1 := augE_in hA0 hb hbl
  have hrows : rowsE (augE (entM cells W) b W) R (W + 1) = rowsE (entM (augC cells b W R) (W + 1)) R (W + 1) := rowsE_congr fun i j hi hj => (entM_flatF hi hj).symm
  have hA : EIn p R (W + 1) (entM (augC cells b W R) (W + 1)) := fun i j hi hj => by
    unfold augC; rw [entM_flatF hi hj]; exact hA1 i j hi hj
  unfold solS
  generalize entM (augC cells b W R) (W + 1) = A at hA hrows
  obtain ⟨det,hel⟩ := eliminate_ret A R (W + 1) p hp hR (by omega) hA
  obtain ⟨hF,hpl,hpc,hpv⟩ := elS_in hp.1 hA (W + 1)
  refine ret_of ?_
  simp only [run_impl_solve,impl_solve.ev]
  refine ev_call (rowsOfG_ret p R W cells hl hR (by omega) hRW) ?_
  rw [← augK_zero (b := b)]
  simp only [augK_length]
  refine Ev.start (p := fun φ n => impl_solve.l0 (mkR (run E (φ 0))) (φ 0) n b (R : Int) 0 p (R : Int) (W : Int) cells (augK (entM cells W) b R W 0) = _) 1 ?_ (fun _ _ _ h => h)
  refine fold_loop 1 (L := fun φ n i rows => impl_solve.l0 (mkR (run E (φ 0))) (φ 0) n b (R : Int) i p (R : Int) (W : Int) cells rows) (len := R) (fun i => augK (entM cells W) b R W i) (fun _ _ _ _ _ => rfl) (fun i r hi ih => ?_) ?_
  · simp only [impl_solve.l0_succ _ mk_ok,augK_length,Int.toNat_natCast]
    have hbi : b[i]? = some (b.getD i 0) := by rw [getD_lt (by omega)]; exact List.getElem?_eq_getElem _
    have one : Ev fun φ => (((augK (entM cells W) b R W i)[i]?).bind fun y => (chk (decide ((y.length + [b.getD i 0].length) * 8 ≤ 70368744177664))).bind fun _ => (chk (decide (0 ≤ (i : Int)) && decide ((i : Int) < (R : Int)))).bind fun _ => (chk (decide True)).bind fun _ =>
        impl_solve.l0 (mkR (run E (φ 0))) (φ 0) (φ 1) b (R : Int) (w64 ((i : Int) + 1)) p (R : Int) (W : Int) cells ((augK (entM cells W) b R W i).set i (y ++ [b.getD i 0]))) = r := by
      refine ev_bind (augK_get hi) (ev_chk (by simp; omega) (ev_chk (by simp; omega) (ev_chk (decide_eq_true trivial) ?_)))
      rw [augK_set,w64_succ (by omega)]; exact ih
    exact ev_t (decide_eq_true (by omega)) (ev_chk (by simp; omega) (ev_bind (idx_nat.trans hbi) (ev_both one one)))
  · simp only [impl_solve.l0_succ _ mk_ok]
    rw [augK_all,hrows,w64_succ (k := W) (by omega)]
    refine ev_f (decide_eq_false (by omega)) (ev_call hel (ev_chk (by simp; omega) ?_))
    generalize elS p R A (W + 1) = S at hF hpl hpc hpv
    obtain ⟨F,pv⟩ := S
    simp only at hF hpl hpc hpv
    simp only [pvL_length,Int.toNat_natCast]
    have key : ∀ d i o,i + d = pv.length → o.length = W → Ev fun φ => impl_solve.l1 (mkR (run E (φ 0))) (φ 0) (φ 2) (pvL pv) (pv.length : Int) (i : Int) p (R : Int) (W : Int) cells o (rowsE F R (W + 1)) = some ⟨o_impl_solve,solO (solP F W (pv.drop i) i o)⟩ := by
      intro d
      induction d with
      | zero =>
        intro i o hi ho
        refine Ev.round 2 (L := fun φ n => impl_solve.l1 (mkR (run E (φ 0))) (φ 0) n (pvL pv) (pv.length : Int) (i : Int) p (R : Int) (W : Int) cells o (rowsE F R (W + 1))) ?_ (fun _ _ _ => rfl)
        simp only [impl_solve.l1_succ _ mk_ok]
        rw [List.drop_of_length_le (by omega)]
        exact ev_f (decide_eq_false (by omega)) (ev_some rfl)
      | succ d ih =>
        intro i o hi ho
        have hil : i < pv.length := by omega
        refine Ev.round 2 (L := fun φ n => impl_solve.l1 (mkR (run E (φ 0))) (φ 0) n (pvL pv) (pv.length : Int) (i : Int) p (R : Int) (W : Int) cells o (rowsE F R (W + 1))) ?_ (fun _ _ _ => rfl)
        simp only [impl_solve.l1_succ _ mk_ok,rowsE_length,Int.toNat_natCast]
        have hq := hpv _ (getD_mem hil)
        have hdrop : pv.drop i = pv.getD i 0 :: pv.drop (i + 1) := by rw [List.drop_eq_getElem_cons hil,getD_lt hil]
        refine ev_t (decide_eq_true (by omega)) (ev_bind (idx_nat.trans (pvL_get hil)) ?_)
        rw [hdrop,solP]
        refine ev_b (fun h => ev_some ?_) fun h => ?_
        · have h : pv.getD i 0 = W := by have : ((pv.getD i 0 : Nat) : Int) = (W : Int) := by simpa using h
                                         omega
          rw [if_pos h]; rfl
        · have h : pv.getD i 0 ≠ W := fun e => by rw [e] at h; simp at h
          rw [if_neg h]
          refine ev_chk (by simp; omega) (ev_bind (rowsE_get (by omega)) (ev_bind (idx_nat.trans (row_get (Nat.lt_succ_self W))) (ev_chk (by simp only [Bool.and_eq_true,decide_eq_true_eq]; omega) ?_)))
          simp only [Int.toNat_natCast]
          rw [w64_succ (by omega)]
          exact ih (i + 1) _ (by omega) (by rw [List.length_set]; exact ho)
    refine Ev.start (p := fun φ n => impl_solve.l1 (mkR (run E (φ 0))) (φ 0) n (pvL pv) (pv.length : Int) 0 p (R : Int) (W : Int) cells (List.replicate W 0) (rowsE F R (W + 1)) = _) 2 ?_ (fun _ _ _ h => h)
    exact key pv.length 0 (List.replicate W 0) (by omega) (by simp)

theorem l03Join_ret (p : Int) (R W : Nat) (cells b : Sim) (hR : R ≤ 1048576) (hW : W < 1048576) (hRW : R * (W + 1) ≤ 1048576) (hl : cells.length = R * W) (hbl : b.length = R) :
    Ret E n_spec_l03Join [dM (p,(R : Int),(W : Int),cells,()),dM (p,(R : Int),1,b,())] ⟨o_spec_l03Join,(p,(R : Int),((W + 1 : Nat) : Int),augC cells b W R,())⟩ := by
  refine ret_of ?_
  simp only [run_spec_l03Join,spec_l03Join.ev,spec_l03Join.j0_eq _ mk_ok]
  rw [w64_succ (by omega)]
  generalize hMt : (p,(R : Int),(W : Int),cells,()) = M
  generalize hNt : (p,(R : Int),(1 : Int),b,()) = N
  have M2 : M.2.1 = (R : Int) := by rw [← hMt]
  have M3 : M.2.2.1 = (W : Int) := by rw [← hMt]
  have M4 : M.2.2.2.1 = cells := by rw [← hMt]
  have N3 : N.2.2.1 = ((1 : Nat) : Int) := by rw [← hNt]; rfl
  have N4 : N.2.2.2.1 = b := by rw [← hNt]
  have one : Ev fun φ => spec_l03Join.l1 (mkR (run E (φ 0))) (φ 0) (φ 0) M N 0 0 0 0 p (R : Int) ((W + 1 : Nat) : Int) [] = some ⟨o_spec_l03Join,(p,(R : Int),((W + 1 : Nat) : Int),augC cells b W R,())⟩ := by
    refine Ev.start (p := fun φ n => spec_l03Join.l1 (mkR (run E (φ 0))) (φ 0) n M N 0 0 0 0 p (R : Int) ((W + 1 : Nat) : Int) [] = _) 1 ?_ (fun _ _ _ h => h)
    refine fold_loop 1 (L := fun φ n i o => spec_l03Join.l1 (mkR (run E (φ 0))) (φ 0) n M N i 0 0 0 p (R : Int) ((W + 1 : Nat) : Int) o) (len := R) (fun i => flatF (augE (entM cells W) b W) (W + 1) i) (fun _ _ _ _ _ => rfl) (fun i r hi ih => ?_) ?_
    · have hle : (i + 1) * W ≤ R * W := Nat.mul_le_mul_right _ hi
      have hle2 : (i + 1) * (W + 1) ≤ R * (W + 1) := Nat.mul_le_mul_right _ hi
      have e0 : (i + 1) * (W + 1) = (i + 1) * W + (i + 1) := Nat.mul_succ _ _
      have e1 : (i + 1) * W = i * W + W := Nat.succ_mul _ _
      have e2 : i * (W + 1) = i * W + i := Nat.mul_succ _ _
      have e3 : R * (W + 1) = R * W + R := Nat.mul_succ _ _
      have c1 : w64 ((i : Int) * (W : Int)) = ((i * W : Nat) : Int) := by rw [cast_mul]; exact w64_small (by omega) (by omega)
      have c2 : w64 (((i + 1 : Nat) : Int) * (W : Int)) = (((i + 1) * W : Nat) : Int) := by rw [cast_mul]; exact w64_small (by omega) (by omega)
      have c3 : w64 ((i : Int) * ((1 : Nat) : Int)) = (i : Int) := by rw [cast_mul,Nat.mul_one]; exact w64_small (by omega) (by omega)
      have c4 : w64 (((i + 1 : Nat) : Int) * ((1 : Nat) : Int)) = ((i + 1 : Nat) : Int) := by rw [cast_mul,Nat.mul_one]; exact w64_small (by omega) (by omega)
      have hr1 := row_ent hl hi
      have hr2 : (b.take (i + 1)).drop i = [b.getD i 0] := by
        rw [List.take_succ_eq_append_getElem (by omega),List.drop_append_of_le_length (by rw [List.length_take]; omega),List.drop_of_length_le (by rw [List.length_take]; omega),getD_lt (by omega)]; rfl
      have hfl := flatF_length (f := augE (entM cells W) b W) (C := W + 1) (n := i)
      simp only [spec_l03Join.l1_succ _ mk_ok,M2,M3,M4,N3,N4,w64_succ (k := i) (by omega),c1,c2,c3,c4,Int.toNat_natCast,hr1,hr2]
      rw [flatF,augE_row,← List.append_assoc] at ih
      refine ev_t (decide_eq_true (by omega)) (ev_chk (by simp only [Bool.and_eq_true,decide_eq_true_eq]; omega) (ev_chk (by simp only [List.length_map,List.length_range,decide_eq_true_eq]; omega) (ev_chk (by simp only [Bool.and_eq_true,decide_eq_true_eq]; omega) (ev_chk (by simp only [List.length_append,List.length_map,List.length_range,List.length_singleton,decide_eq_true_eq]; omega) ih))))
    · simp only [spec_l03Join.l1_succ _ mk_ok,M2]
      exact ev_f (decide_eq_false (by omega)) ev_rfl
  exact ev_both one one

theorem l03Solve_ret (p : Int) (R W : Nat) (cells b : Sim) (hp : 2 ≤ p ∧ p ≤ 251) (hR : R ≤ 1048576) (hW : W < 1048576) (hRW : R * (W + 1) ≤ 1048576) (hl : cells.length = R * W) (he : Elems cells p) (hbl : b.length = R) (hb : Elems b p) :
    Ret E n_spec_l03Solve [dM (p,(R : Int),(W : Int),cells,()),dL b] ⟨o_spec_l03Solve,solO (solS p R W cells b)⟩ := by
  have hA0 := entM_in he hl
  have hA1 := augE_in hA0 hb hbl
  have hcl : (augC cells b W R).length = R * (W + 1) := flatF_length
  have hA : EIn p R (W + 1) (entM (augC cells b W R) (W + 1)) := fun i j hi hj => by
    unfold augC; rw [entM_flatF hi hj]; exact hA1 i j hi hj
  have hce : Elems (augC cells b W R) p := by
    unfold augC
    intro x hx
    rw [← flatF_flatten] at hx
    obtain ⟨row,hrow,hx⟩ := List.mem_flatten.1 hx
    obtain ⟨i,hi,rfl⟩ := List.mem_map.1 hrow
    obtain ⟨j,hj,rfl⟩ := List.mem_map.1 hx
    exact hA1 i j (List.mem_range.1 hi) (List.mem_range.1 hj)
  obtain ⟨det,hel⟩ := l03Reduced_ret p R (W + 1) (augC cells b W R) hp hR (by omega) hRW hcl hce
  obtain ⟨hF,hpl,hpc,hpv⟩ := elS_in hp.1 hA (W + 1)
  unfold solS
  refine ret_of ?_
  simp only [run_spec_l03Solve,spec_l03Solve.ev]
  refine ev_call (l03Join_ret p R W cells b hR hW hRW hl hbl) (ev_call hel (ev_chk (by simp; omega) ?_))
  generalize elS p R (entM (augC cells b W R) (W + 1)) (W + 1) = S at hF hpl hpc hpv
  obtain ⟨F,pv⟩ := S
  simp only at hF hpl hpc hpv
  simp only [Int.toNat_natCast]
  generalize hMt : (p,(R : Int),(W : Int),cells,()) = M
  have M3 : M.2.2.1 = (W : Int) := by rw [← hMt]
  have key : ∀ d i o,i + d = pv.length → o.length = W → Ev fun φ => spec_l03Solve.l0 (mkR (run E (φ 0))) (φ 0) (φ 1) M (pvL pv) (i : Int) p (R : Int) ((W + 1 : Nat) : Int) (augC cells b W R) p (R : Int) ((W + 1 : Nat) : Int) (flatF F (W + 1) R) o = some ⟨o_spec_l03Solve,solO (solP F W (pv.drop i) i o)⟩ := by
    intro d
    induction d with
    | zero =>
      intro i o hi ho
      refine Ev.round 1 (L := fun φ n => spec_l03Solve.l0 (mkR (run E (φ 0))) (φ 0) n M (pvL pv) (i : Int) p (R : Int) ((W + 1 : Nat) : Int) (augC cells b W R) p (R : Int) ((W + 1 : Nat) : Int) (flatF F (W + 1) R) o) ?_ (fun _ _ _ => rfl)
      simp only [spec_l03Solve.l0_succ _ mk_ok,pvL_length]
      rw [List.drop_of_length_le (by omega)]
      exact ev_f (decide_eq_false (by omega)) (ev_some rfl)
    | succ d ih =>
      intro i o hi ho
      have hil : i < pv.length := by omega
      refine Ev.round 1 (L := fun φ n => spec_l03Solve.l0 (mkR (run E (φ 0))) (φ 0) n M (pvL pv) (i : Int) p (R : Int) ((W + 1 : Nat) : Int) (augC cells b W R) p (R : Int) ((W + 1 : Nat) : Int) (flatF F (W + 1) R) o) ?_ (fun _ _ _ => rfl)
      have hiR : i < R := by omega
      have hix0 : i * (W + 1) + W < R * (W + 1) := lt_rc hiR (Nat.lt_succ_self W)
      have hix : i * (W + 1) + W ≤ 4611686018427387904 := by omega
      simp only [spec_l03Solve.l0_succ _ mk_ok,pvL_length,M3,ix_eq hix,Int.toNat_natCast]
      have hq := hpv _ (getD_mem hil)
      have hdrop : pv.drop i = pv.getD i 0 :: pv.drop (i + 1) := by rw [List.drop_eq_getElem_cons hil,getD_lt hil]
      refine ev_t (decide_eq_true (by omega)) (ev_bind (idx_nat.trans (pvL_get hil)) ?_)
      rw [hdrop,solP]
      refine ev_b (fun h => ev_some ?_) fun h => ?_
      · have h : pv.getD i 0 = W := by have : ((pv.getD i 0 : Nat) : Int) = (W : Int) := by simpa using h
                                       omega
        rw [if_pos h]; rfl
      · have h : pv.getD i 0 ≠ W := fun e => by rw [e] at h; simp at h
        rw [if_neg h]
        refine ev_bind (idx_nat.trans (pvL_get hil)) (ev_bind (idx_nat.trans (flatF_getD hiR (Nat.lt_succ_self W))) (ev_chk (by simp only [Bool.and_eq_true,decide_eq_true_eq]; omega) ?_))
        simp only [Int.toNat_natCast]
        rw [w64_succ (by omega)]
        exact ih (i + 1) _ (by omega) (by rw [List.length_set]; exact ho)
  refine Ev.start (p := fun φ n => spec_l03Solve.l0 (mkR (run E (φ 0))) (φ 0) n M (pvL pv) 0 p (R : Int) ((W + 1 : Nat) : Int) (augC cells b W R) p (R : Int) ((W + 1 : Nat) : Int) (flatF F (W + 1) R) (List.replicate W 0) = _) 1 ?_ (fun _ _ _ h => h)
  exact key pv.length 0 (List.replicate W 0) (by omega) (by simp)

end VeT

open Go Go.Proofs Ve
set_option linter.unusedVariables false
set_option linter.unusedSimpArgs false
namespace VeT

/-- a row that is copied into zeros -/
theorem copy_row {m : Mat} {a n i R C : Nat} (hm : VM m) (eR : m.2.1 = (R : Int)) (eC : m.2.2.1 = (C : Int)) (hi : i < R) (ha : a + C ≤ n) :
    List.take a (List.replicate n (0 : Int)) ++ List.take (n - a) ((List.range C).map (entM m.2.2.2.1 C i)) ++ List.drop (a + (List.take (n - a) ((List.range C).map (entM m.2.2.2.1 C i))).length) (List.replicate n (0 : Int)) = rowW m a n 1 i := by
  have hp := hm.1.1
  have el := hm.2.2.2.2
  have hlc : m.2.2.2.1.length = R * C := by
    have := hm.2.2.2.1
    rw [eR,eC,cast_mul] at this; omega
  have htk : List.take (n - a) ((List.range C).map (entM m.2.2.2.1 C i)) = (List.range C).map (entM m.2.2.2.1 C i) := List.take_of_length_le (by rw [List.length_map,List.length_range]; omega)
  have hC : m.2.2.1.toNat = C := by rw [eC]; rfl
  rw [htk,List.length_map,List.length_range]
  have hl1 : (List.take a (List.replicate n (0 : Int))).length = a := by rw [List.length_take,List.length_replicate]; omega
  refine getD_ext (by rw [rowW_length]; simp; omega) fun g hg => ?_
  have hgn : g < n := by
    have : g < (List.take a (List.replicate n (0 : Int)) ++ (List.range C).map (entM m.2.2.2.1 C i) ++ List.drop (a + C) (List.replicate n (0 : Int))).length := hg
    simp at this; omega
  have hz : ∀ k q : Nat,(List.replicate k (0 : Int))[q]?.getD 0 = 0 := fun k q => by rw [List.getElem?_replicate]; split <;> rfl
  rw [List.getD_eq_getElem?_getD]
  by_cases h1 : g < a
  · rw [rowW_miss (by omega),List.getElem?_append_left (by rw [List.length_append,hl1]; omega),List.getElem?_append_left (by rw [hl1]; exact h1),List.getElem?_take,if_pos h1]
    exact hz _ _
  · by_cases h2 : g < a + C
    · obtain ⟨j,rfl⟩ : ∃ j,g = a + j := ⟨g - a,by omega⟩
      have hj : j < C := by omega
      rw [rowW_hit (by rw [hC]; exact hj) hgn,List.getElem?_append_left (by rw [List.length_append,hl1,List.length_map,List.length_range]; omega),List.getElem?_append_right (by rw [hl1]; omega),hl1,Nat.add_sub_cancel_left,row_get hj,hC]
      have hlt := lt_rc hi hj
      have he : 0 ≤ entM m.2.2.2.1 C i j ∧ entM m.2.2.2.1 C i j ≤ m.1 - 1 := by unfold entM; rw [getD_lt (by omega)]; exact el _ (List.getElem_mem _)
      show entM m.2.2.2.1 C i j = entM m.2.2.2.1 C i j * 1 % m.1
      rw [Int.mul_one,Int.emod_eq_of_lt he.1 (by omega)]
    · rw [rowW_miss (by omega),List.getElem?_append_right (by rw [List.length_append,hl1,List.length_map,List.length_range]; omega),List.getElem?_drop]
      exact hz _ _

/-! the conditions of a section with values at places -/
noncomputable def gvR (x : Shf) (s n : Nat) : List Sim := (List.range n).map (rowW (restX x (fvx x.1 s) s) (FC x.1 x.2.2.1 (fvx x.1 s)).toNat (SD x.1 x.2.2.1 0).toNat 1)
noncomputable def gvL (x : Shf) (w : Sim) (n : Nat) : List Sim := conds x.1 x.2.1 x.2.2.1 x.2.2.2.1 (SD x.1 x.2.2.1 1).toNat ++ ((w.take n).map fun k => gvR x k.toNat (x.2.2.1.getD k.toNat 0).toNat).flatten

theorem gvL_succ {x : Shf} {w : Sim} {n : Nat} (hn : n < w.length) {s : Nat} (hs : w[n] = (s : Int)) : gvL x w (n + 1) = gvL x w n ++ gvR x s (x.2.2.1.getD s 0).toNat := by
  unfold gvL
  rw [List.take_succ_eq_append_getElem hn,List.map_append,List.flatten_append,hs,List.append_assoc]
  simp

structure Gv (x : Shf) (s W : Nat) : Prop where
  vm : VM (restX x (fvx x.1 s) s)
  eR : (restX x (fvx x.1 s) s).2.1 = x.2.2.1.getD s 0
  eC : (restX x (fvx x.1 s) s).2.2.1 = x.2.2.1.getD (fvx x.1 s) 0
  e1 : (restX x (fvx x.1 s) s).1 = x.2.1
  fl : fvx x.1 s < x.1.length
  f1 : (x.1.getD (fvx x.1 s) []).length = 1
  pt : Part (x.1.getD (fvx x.1 s) []) (x.1.getD s [])
  hF : 0 ≤ FC x.1 x.2.2.1 (fvx x.1 s) ∧ FC x.1 x.2.2.1 (fvx x.1 s) + x.2.2.1.getD (fvx x.1 s) 0 ≤ W
  h3 : 0 ≤ x.2.2.1.getD s 0 ∧ x.2.2.1.getD s 0 ≤ 3
  h3f : 0 ≤ x.2.2.1.getD (fvx x.1 s) 0 ∧ x.2.2.1.getD (fvx x.1 s) 0 ≤ 3

theorem restV_p {c : List Sim} {p : Int} {st : Sim} {ms : List Mat} {f : Nat} (h : VS c p st ms) (hf : f < c.length) : ∀ {d k : Nat},k < c.length → (c.getD k []).length ≤ d → Part (c.getD f []) (c.getD k []) → (restV c p st ms f d k).1 = p
  | 0,k,_,_,_ => rfl
  | d + 1,k,hk,hd,hpt => by
    rw [restV]
    by_cases hfk : f = k
    · rw [if_pos hfk]; rfl
    · rw [if_neg hfk]
      have D : Down c p st ms f k := ⟨h,hf,hk,hfk,hpt⟩
      obtain ⟨_,f2,_⟩ := D.facts
      exact (h.map hk f2).2.2.1

theorem gv_of {x : Shf} {s W : Nat} (hx : Sm (.st cS) x) (h : VS x.1 x.2.1 x.2.2.1 x.2.2.2.1) (hs : s < x.1.length) (eW : SD x.1 x.2.2.1 0 = (W : Int)) : Gv x s W := by
  obtain ⟨_,hf,_,hf1,hpt⟩ := fvx_get h.1 hs
  have hst := h.2.2.1.2.1
  obtain ⟨⟨hVM,hR⟩,_,_⟩ := rest_ret x.1 x.2.1 x.2.2.1 x.2.2.2.1 hx.1 h (fvx x.1 s) hf _ s hs (Nat.le_refl _) hpt
  have hb := FC_bound hst hf
  rw [show ((x.1.getD (fvx x.1 s) []).length : Int) - 1 = 0 by omega,eW] at hb
  exact ⟨hVM,hR,restV_cols hst,restV_p h hf hs (Nat.le_refl _) hpt,hf,hf1,hpt,hb,st_nn hst s,st_nn hst _⟩

theorem gvR_rws {x : Shf} {s W n : Nat} (g : Gv x s W) (hp : 2 ≤ x.2.1) (tW : (SD x.1 x.2.2.1 0).toNat = W) : Rws x.2.1 W (gvR x s n) := fun r hr => by
  unfold gvR at hr
  obtain ⟨i,_,rfl⟩ := List.mem_map.1 hr
  refine ⟨by rw [rowW_length,tW],?_⟩
  have := rowW_elems (m := restX x (fvx x.1 s) s) (a := (FC x.1 x.2.2.1 (fvx x.1 s)).toNat) (n := (SD x.1 x.2.2.1 0).toNat) (t := 1) (i := i) (by rw [g.e1]; exact hp)
  rw [g.e1] at this
  exact this

theorem gvL_facts {x : Shf} {w : Sim} {W H : Nat} (hx : Sm (.st cS) x) (h : VS x.1 x.2.1 x.2.2.1 x.2.2.2.1) (hw : Plcs x.1 w) (eW : SD x.1 x.2.2.1 0 = (W : Int)) (eH : SD x.1 x.2.2.1 1 = (H : Int)) :
    ∀ n,n ≤ w.length → (gvL x w n).length ≤ H + 3 * n ∧ Rws x.2.1 W (gvL x w n) := by
  have tW : (SD x.1 x.2.2.1 0).toNat = W := by omega
  intro n
  induction n with
  | zero =>
    intro _
    have e : gvL x w 0 = conds x.1 x.2.1 x.2.2.1 x.2.2.2.1 (SD x.1 x.2.2.1 1).toNat := by simp [gvL]
    rw [e]
    have := conds_rws h (SD x.1 x.2.2.1 1).toNat
    rw [tW] at this
    exact ⟨by rw [conds_length]; omega,this⟩
  | succ n ih =>
    intro hn
    obtain ⟨h1,h2⟩ := ih (by omega)
    obtain ⟨s,hs,hsl⟩ := hw.get (show n < w.length by omega)
    have g := gv_of hx h hsl eW
    rw [gvL_succ (by omega) hs]
    refine ⟨?_,fun r hr => ?_⟩
    · have := g.h3
      have hl : (gvR x s (x.2.2.1.getD s 0).toNat).length = (x.2.2.1.getD s 0).toNat := by simp [gvR]
      rw [List.length_append,hl]; omega
    · rcases List.mem_append.1 hr with hr | hr
      · exact h2 r hr
      · exact gvR_rws g h.2.1.1 tW r hr

theorem conditions_ret (x : Shf) (w : Sim) (hx : Sm (.st cS) x) (hw1 : Sm (.sl (.int .i64)) w) (h : VS x.1 x.2.1 x.2.2.1 x.2.2.2.1) (hw : Plcs x.1 w) :
    Ret E n_impl_conditions [dLL x.1,dI x.2.1,dL x.2.2.1,dMs x.2.2.2.1,dL w] ⟨o_impl_conditions,(x.2.1,((gvL x w w.length).length : Int),SD x.1 x.2.2.1 0,(gvL x w w.length).flatten,())⟩ := by
  obtain ⟨W,eW,bW,tW⟩ := SD_nat h 0
  obtain ⟨H,eH,bH,tH⟩ := SD_nat h 1
  have hst := h.2.2.1.2.1
  have hRC := rc_le bH bW
  have h48 := h.1.1
  have hwl := hw.le48
  have facts := gvL_facts hx h hw eW eH
  have s0 := stalkSum_ret x.1 x.2.2.1 0 x.2.1 x.2.2.2.1 hx.1 h.2.2.1.1 hst (by omega)
  rw [show sumD x.1 x.2.2.1 0 (ofDim x.1 0 x.1.length).length = (W : Int) from eW] at s0
  have hrows := rowsOfG_ret x.2.1 H W (cobX x 0).2.2.2.1 (by show (cobC _ _ _ _ 0).length = _; rw [cobC_length,show SD x.1 x.2.2.1 (0 + 1) = SD x.1 x.2.2.1 1 from rfl,tH,tW]) (by omega) (by omega) (by omega)
  rw [eW]
  refine ret_of ?_
  simp only [run_impl_conditions,impl_conditions.ev]
  refine ev_call s0 (ev_call (coboundaryMatrix_ret x.1 x.2.1 x.2.2.1 x.2.2.2.1 0 (by omega) hx.1 h) ?_)
  have e1 : (cobM x.1 x.2.1 x.2.2.1 x.2.2.2.1 0).1 = x.2.1 := rfl
  have e2 : (cobM x.1 x.2.1 x.2.2.1 x.2.2.2.1 0).2.1 = (H : Int) := eH
  have e3 : (cobM x.1 x.2.1 x.2.2.1 x.2.2.2.1 0).2.2.1 = (W : Int) := eW
  have e4 : (cobM x.1 x.2.1 x.2.2.1 x.2.2.2.1 0).2.2.2.1 = (cobX x 0).2.2.2.1 := rfl
  simp only [e1,e2,e3,e4]
  refine ev_call hrows ?_
  have e0 : rowsE (entM (cobX x 0).2.2.2.1 W) H W = gvL x w 0 := by
    have : gvL x w 0 = conds x.1 x.2.1 x.2.2.1 x.2.2.2.1 (SD x.1 x.2.2.1 1).toNat := by simp [gvL]
    rw [this,conds_rowsE,tW,tH]
  rw [e0]
  refine Ev.start (p := fun φ n => impl_conditions.l0 (mkR (run E (φ 0))) (φ 0) n (W : Int) w (w.length : Int) 0 x.1 x.2.1 x.2.2.1 x.2.2.2.1 0 0 0 (gvL x w 0) = _) 1 ?_ (fun _ _ _ h => h)
  refine fold_loop 1 (L := fun φ n k o => impl_conditions.l0 (mkR (run E (φ 0))) (φ 0) n (W : Int) w (w.length : Int) k x.1 x.2.1 x.2.2.1 x.2.2.2.1 0 0 0 o) (len := w.length) (fun k => gvL x w k) (fun _ _ _ _ _ => rfl) (fun k r hk ih => ?_) ?_
  · simp only [impl_conditions.l0_succ _ mk_ok]
    obtain ⟨s,hs,hsl⟩ := hw.get hk
    have hg : w[k]? = some (s : Int) := by rw [List.getElem?_eq_getElem hk,hs]
    have g := gv_of hx h hsl eW
    obtain ⟨_,r1,_⟩ := rest_ret x.1 x.2.1 x.2.2.1 x.2.2.2.1 hx.1 h (fvx x.1 s) g.fl _ s hsl (Nat.le_refl _) g.pt
    obtain ⟨R,C,em,hR,hC,hlen⟩ := g.vm.nat
    have eR : (restX x (fvx x.1 s) s).2.1 = (R : Int) := congrArg (fun m : Mat => m.2.1) em
    have eC : (restX x (fvx x.1 s) s).2.2.1 = (C : Int) := congrArg (fun m : Mat => m.2.2.1) em
    have hRC2 := rc_le hR hC
    have rr := rowsOfG_ret (restX x (fvx x.1 s) s).1 R C (restX x (fvx x.1 s) s).2.2.2.1 hlen (by omega) (by omega) (by omega)
    rw [← eR,← eC] at rr
    obtain ⟨T,eT⟩ := Int.eq_ofNat_of_zero_le g.hF.1
    have hTC : T + C ≤ W := by have := g.hF.2; have := g.eC; omega
    have fc := firstColumn_ret x.1 x.2.1 x.2.2.1 x.2.2.2.1 (fvx x.1 s) g.fl hx.1 h.2.2.1.1 hst
    rw [eT] at fc
    have hRs : (x.2.2.1.getD s 0).toNat = R := by have := g.eR; omega
    obtain ⟨hf1,hf2⟩ := facts k (by omega)
    rw [gvL_succ hk hs,hRs] at ih
    refine ev_t (decide_eq_true (by omega)) (ev_bind (idx_nat.trans hg) (ev_call (firstVertex_ret x s hsl hx.1 h.1) (ev_call r1 (ev_call rr ?_))))
    generalize hB : gvL x w k = B at ih hf1 ⊢
    have hgv : gvR x s R = (List.range R).map (rowW (restX x (fvx x.1 s) s) T W 1) := by unfold gvR; rw [eT,tW]; rfl
    rw [hgv] at ih
    rw [rowsE_length]
    refine Ev.start (p := fun φ n => impl_conditions.l1 (mkR (run E (φ 0))) (φ 0) (φ 1) n (W : Int) ((fvx x.1 s : Nat) : Int) w (w.length : Int) (k : Int) (rowsE (entM (restX x (fvx x.1 s) s).2.2.2.1 C) R C) (R : Int) 0 x.1 x.2.1 x.2.2.1 x.2.2.2.1 0 0 0 B = _) 2 ?_ (fun _ _ _ h => h)
    have := fold_loop 2 (L := fun φ n i o => impl_conditions.l1 (mkR (run E (φ 0))) (φ 0) (φ 1) n (W : Int) ((fvx x.1 s : Nat) : Int) w (w.length : Int) (k : Int) (rowsE (entM (restX x (fvx x.1 s) s).2.2.2.1 C) R C) (R : Int) i x.1 x.2.1 x.2.2.1 x.2.2.2.1 0 0 0 o) (len := R) (fun i => B ++ (List.range i).map (rowW (restX x (fvx x.1 s) s) T W 1)) (r := r) (fun _ _ _ _ _ => rfl) (fun i q hi ih2 => ?_) ?_
    · simpa using this
    · simp only [impl_conditions.l1_succ _ mk_ok,Int.toNat_natCast,List.length_replicate]
      rw [List.range_succ,List.map_append,List.map_singleton,← List.append_assoc] at ih2
      have hcp := copy_row g.vm eR eC hi hTC
      refine ev_t (decide_eq_true (by omega)) (ev_bind (idx_nat.trans (rowsE_get hi)) (ev_chk (by simp only [Bool.and_eq_true,decide_eq_true_eq]; omega) (ev_call fc ?_)))
      simp only [Int.toNat_natCast,hcp]
      have hT0 : (0 : Int) ≤ (T : Int) := by omega
      have hTW : (T : Int) ≤ (W : Int) := by omega
      refine ev_chk (by simp only [Bool.and_eq_true,decide_eq_true_eq]; exact ⟨hT0,hTW⟩) (ev_chk (by simp only [Bool.and_eq_true,decide_eq_true_eq]; omega) (ev_chk (by simp only [List.length_append,List.length_map,List.length_range,List.length_cons,List.length_nil,decide_eq_true_eq]; omega) ?_))
      rw [w64_succ (by omega)]; exact ih2
    · simp only [impl_conditions.l1_succ _ mk_ok]
      refine ev_f (decide_eq_false (by omega)) ?_
      rw [w64_succ (by omega)]; exact ih
  · simp only [impl_conditions.l0_succ _ mk_ok]
    obtain ⟨hf1,hf2⟩ := facts w.length (Nat.le_refl _)
    obtain ⟨hl1,hl2⟩ := hf2.flat
    have hmul : (gvL x w w.length).length * W ≤ 176 * 32 := Nat.mul_le_mul (by omega) bW
    exact ev_f (decide_eq_false (by omega)) (ev_call (matrixOf_ret x.2.1 (W : Int) (gvL x w w.length) (by omega) (by omega)) ev_rfl)

theorem l10Given_ret (x : Shf) (w : Sim) (hx : Sm (.st cS) x) (hw1 : Sm (.sl (.int .i64)) w) (h : VS x.1 x.2.1 x.2.2.1 x.2.2.2.1) (hw : Plcs x.1 w) :
    Ret E n_spec_l10Given [dS x,dL w] ⟨o_spec_l10Given,(gvL x w w.length,())⟩ := by
  obtain ⟨W,eW,bW,tW⟩ := SD_nat h 0
  obtain ⟨H,eH,bH,tH⟩ := SD_nat h 1
  have hst := h.2.2.1.2.1
  have h48 := h.1.1
  have hwl := hw.le48
  have facts := gvL_facts hx h hw eW eH
  have all := l10All_ret x hx.1 h
  rw [eW] at all
  refine ret_of ?_
  simp only [run_spec_l10Given,spec_l10Given.ev]
  refine ev_call all (ev_call (l10Conditions_ret x hx.1 h) ?_)
  have e0 : conds x.1 x.2.1 x.2.2.1 x.2.2.2.1 (SD x.1 x.2.2.1 1).toNat = gvL x w 0 := by simp [gvL]
  rw [e0]
  refine Ev.start (p := fun φ n => spec_l10Given.l0 (mkR (run E (φ 0))) (φ 0) n x w (W : Int) 0 (gvL x w 0) = _) 1 ?_ (fun _ _ _ h => h)
  refine fold_loop 1 (L := fun φ n k o => spec_l10Given.l0 (mkR (run E (φ 0))) (φ 0) n x w (W : Int) k o) (len := w.length) (fun k => gvL x w k) (fun _ _ _ _ _ => rfl) (fun k r hk ih => ?_) ?_
  · simp only [spec_l10Given.l0_succ _ mk_ok]
    obtain ⟨s,hs,hsl⟩ := hw.get hk
    have hg : w[k]? = some (s : Int) := by rw [List.getElem?_eq_getElem hk,hs]
    have g := gv_of hx h hsl eW
    obtain ⟨_,_,r2⟩ := rest_ret x.1 x.2.1 x.2.2.1 x.2.2.2.1 hx.1 h (fvx x.1 s) g.fl _ s hsl (Nat.le_refl _) g.pt
    obtain ⟨T,eT⟩ := Int.eq_ofNat_of_zero_le g.hF.1
    have hTC : (T : Int) + (restX x (fvx x.1 s) s).2.2.1 ≤ W := by have := g.hF.2; rw [g.eC]; omega
    have ls := l10Start_ret x (fvx x.1 s) g.fl g.f1 h
    rw [eT] at ls
    have rr := l10Rows_ret (restX x (fvx x.1 s) s) T W 1 g.vm hTC (by omega) (by omega)
    have hgv : gvR x s (x.2.2.1.getD s 0).toNat = (List.range (restX x (fvx x.1 s) s).2.1.toNat).map (rowW (restX x (fvx x.1 s) s) T W 1) := by unfold gvR; rw [eT,tW,g.eR]; rfl
    rw [← hgv] at rr
    obtain ⟨hf1,hf2⟩ := facts k (by omega)
    have hl : (gvR x s (x.2.2.1.getD s 0).toNat).length = (x.2.2.1.getD s 0).toNat := by simp [gvR]
    have h3 := g.h3
    rw [gvL_succ hk hs] at ih
    refine ev_t (decide_eq_true (by omega)) (ev_bind (idx_nat.trans hg) (ev_call (l10First_ret x s hsl hx.1 h.1) (ev_bind (idx_nat.trans hg) (ev_call r2 (ev_call ls (ev_call rr (ev_chk (by simp only [hl,decide_eq_true_eq]; omega) ?_)))))))
    rw [w64_succ (by omega)]; exact ih
  · simp only [spec_l10Given.l0_succ _ mk_ok]
    exact ev_f (decide_eq_false (by omega)) ev_rfl

end VeT

open Go Go.Proofs Ve
set_option linter.unusedVariables false
set_option linter.unusedSimpArgs false
namespace VeT

/-! sections that extend values at places -/
theorem gvL_len {x : Shf} {w : Sim} {H : Nat} (hst : ∀ y ∈ x.2.2.1,0 ≤ y ∧ y ≤ 3) (hl : x.2.2.1.length = x.1.length) (hw : Plcs x.1 w) (eH : SD x.1 x.2.2.1 1 = (H : Int)) :
    ∀ n,n ≤ w.length → ((gvL x w n).length : Int) = (H : Int) + off x.2.2.1 w n := by
  intro n
  induction n with
  | zero =>
    intro _
    have e : gvL x w 0 = conds x.1 x.2.1 x.2.2.1 x.2.2.2.1 (SD x.1 x.2.2.1 1).toNat := by simp [gvL]
    rw [e,conds_length,eH]
    simp [off]
  | succ n ih =>
    intro hn
    have h1 := ih (by omega)
    obtain ⟨s,hs,hsl⟩ := hw.get (show n < w.length by omega)
    have hl2 : (gvR x s (x.2.2.1.getD s 0).toNat).length = (x.2.2.1.getD s 0).toNat := by simp [gvR]
    have h3 : 0 ≤ x.2.2.1.getD s 0 ∧ x.2.2.1.getD s 0 ≤ 3 := by rw [getD_lt (by omega)]; exact hst _ (List.getElem_mem _)
    rw [gvL_succ (by omega) hs,off_succ (by omega) hs,List.length_append,hl2]
    omega

noncomputable def extB (x : Shf) (v : Sim) : Sim := List.replicate (SD x.1 x.2.2.1 1).toNat 0 ++ v
noncomputable def extS (x : Shf) (w v : Sim) : Option Sim := solS x.2.1 (gvL x w w.length).length (SD x.1 x.2.2.1 0).toNat (gvL x w w.length).flatten (extB x v)

theorem ext_ret {x : Shf} {w v : Sim} (hx : Sm (.st cS) x) (h : VS x.1 x.2.1 x.2.2.1 x.2.2.2.1) (hw : Plcs x.1 w) (hd : Dat x w v) :
    Ret E n_impl_solve [dI x.2.1,dI ((gvL x w w.length).length : Int),dI (SD x.1 x.2.2.1 0),dL (gvL x w w.length).flatten,dL (extB x v)] ⟨o_impl_solve,solO (extS x w v)⟩ ∧
    Ret E n_spec_l03Solve [dM (x.2.1,((gvL x w w.length).length : Int),SD x.1 x.2.2.1 0,(gvL x w w.length).flatten,()),dL (extB x v)] ⟨o_spec_l03Solve,solO (extS x w v)⟩ := by
  obtain ⟨W,eW,bW,tW⟩ := SD_nat h 0
  obtain ⟨H,eH,bH,tH⟩ := SD_nat h 1
  have h48 := h.1.1
  have hwl := hw.le48
  obtain ⟨f1,f2⟩ := gvL_facts hx h hw eW eH w.length (Nat.le_refl _)
  have hlen := gvL_len h.2.2.1.2.1 h.2.2.1.1 hw eH w.length (Nat.le_refl _)
  obtain ⟨g1,g2⟩ := f2.flat
  have hp : 2 ≤ x.2.1 ∧ x.2.1 ≤ 251 := ⟨h.2.1.1,h.2.1.2.1⟩
  have hbl : (extB x v).length = (gvL x w w.length).length := by
    have := hd.2
    unfold extB
    rw [List.length_append,List.length_replicate,tH]; omega
  have hb : Elems (extB x v) x.2.1 := fun y hy => by
    rcases List.mem_append.1 hy with hy | hy
    · have := (List.mem_replicate.1 hy).2; omega
    · exact hd.1 y hy
  have hmul : (gvL x w w.length).length * (W + 1) ≤ 176 * 33 := Nat.mul_le_mul (by omega) (by omega)
  have hmul2 : (gvL x w w.length).length * W ≤ (gvL x w w.length).length * (W + 1) := Nat.mul_le_mul_left _ (by omega)
  have k1 := solve_ret x.2.1 (gvL x w w.length).length W (gvL x w w.length).flatten (extB x v) hp (by omega) (by omega) (by omega) g1 g2 hbl hb
  have k2 := l03Solve_ret x.2.1 (gvL x w w.length).length W (gvL x w w.length).flatten (extB x v) hp (by omega) (by omega) (by omega) g1 g2 hbl hb
  unfold extS
  rw [tW,eW]
  exact ⟨k1,k2⟩

theorem ext_length {x : Shf} {w v y : Sim} (hs : VS x.1 x.2.1 x.2.2.1 x.2.2.2.1) (h : extS x w v = some y) : y.length ≤ 1048576 := by
  obtain ⟨W,eW,bW,tW⟩ := SD_nat hs 0
  unfold extS solS at h
  rw [solP_length h,List.length_replicate]; omega

noncomputable def ExtendSectionV (x : Shf) (w v : Sim) : Sim × Int × Unit := if LC x w v = 0 then (match extS x w v with | some y => (y,0,()) | none => ([],3,())) else ([],LC x w v,())

theorem implExtendSection_ret (x : Shf) (w v : Sim) (hx : Sm (.st cS) x) (hw : Sm (.sl (.int .i64)) w) (hv : Sm (.sl (.int .i64)) v) : Ret E n_impl_ExtendSection [dLL x.1,dI x.2.1,dL x.2.2.1,dMs x.2.2.2.1,dL w,dL v] ⟨o_impl_ExtendSection,ExtendSectionV x w v⟩ := by
  refine ret_of ?_
  simp only [run_impl_ExtendSection,impl_ExtendSection.ev]
  refine ev_call (localized_ret x w v hx hw hv) (ev_b (fun h => ev_some ?_) fun h => ?_)
  · have h : ¬ LC x w v = 0 := by simpa using h
    rw [ExtendSectionV,if_neg h]
  · have h : LC x w v = 0 := by simpa using h
    obtain ⟨⟨hs,hpl⟩,hd⟩ := LC_zero.1 h
    rw [ExtendSectionV,if_pos h]
    obtain ⟨H,eH,bH,tH⟩ := SD_nat hs.1 1
    have hst := hs.1.2.2.1.2.1
    have hv1 : v.length ≤ 1048576 := hv.1
    have hv2 := hd.2
    have hoi := off_in (st := x.2.2.1) (w := w) hst (n := w.length)
    have h48 := hs.1.1.1
    have hwl := hpl.le48
    have s1 := stalkSum_ret x.1 x.2.2.1 1 x.2.1 x.2.2.2.1 hx.1 hs.1.2.2.1.1 hst (by omega)
    rw [show sumD x.1 x.2.2.1 1 (ofDim x.1 1 x.1.length).length = (H : Int) from eH] at s1
    have hH8 : (0 : Int) ≤ (H : Int) ∧ (H : Int) * 8 ≤ 70368744177664 := by omega
    have hcc := Concat_ret [List.replicate H 0,v] (by simp) (by simp; omega)
    rw [show [List.replicate H 0,v].flatten = extB x v by unfold extB; rw [tH]; simp] at hcc
    refine ev_call (conditions_ret x w hx hw hs.1 hpl) (ev_call s1 (ev_chk (by simp only [Bool.and_eq_true,decide_eq_true_eq]; exact hH8) ?_))
    simp only [Int.toNat_natCast]
    refine ev_call hcc (ev_call (ext_ret hx hs.1 hpl hd).1 ?_)
    cases extS x w v with
    | none => exact ev_t rfl ev_rfl
    | some y => exact ev_f rfl ev_rfl

theorem specExtendSection_ret (x : Shf) (w v : Sim) (hx : Sm (.st cS) x) (hw : Sm (.sl (.int .i64)) w) (hv : Sm (.sl (.int .i64)) v) : Ret E n_spec_ExtendSection [dLL x.1,dI x.2.1,dL x.2.2.1,dMs x.2.2.2.1,dL w,dL v] ⟨o_spec_ExtendSection,ExtendSectionV x w v⟩ := by
  refine ret_of ?_
  simp only [run_spec_ExtendSection,spec_ExtendSection.ev,spec_ExtendSection.j0_eq _ mk_ok]
  refine ev_call (l10Ask_ret x w v hx hw hv) (ev_b (fun h => ev_some ?_) fun h => ?_)
  · have h : ¬ LC x w v = 0 := by simpa using h
    rw [ExtendSectionV,if_neg h]
  · have h : LC x w v = 0 := by simpa using h
    obtain ⟨⟨hs,hpl⟩,hd⟩ := LC_zero.1 h
    rw [ExtendSectionV,if_pos h]
    obtain ⟨H,eH,bH,tH⟩ := SD_nat hs.1 1
    obtain ⟨W,eW,bW,tW⟩ := SD_nat hs.1 0
    have hst := hs.1.2.2.1.2.1
    have hv2 := hd.2
    have hoi := off_in (st := x.2.2.1) (w := w) hst (n := w.length)
    have h48 := hs.1.1.1
    have hwl := hpl.le48
    have hlen := gvL_len hst hs.1.2.2.1.1 hpl eH w.length (Nat.le_refl _)
    obtain ⟨f1,f2⟩ := gvL_facts hx hs.1 hpl eW eH w.length (Nat.le_refl _)
    obtain ⟨g1,g2⟩ := f2.flat
    have hmul : (gvL x w w.length).length * W ≤ 176 * 32 := Nat.mul_le_mul (by omega) bW
    refine ev_call (l10Given_ret x w hx hw hs.1 hpl) ?_
    have e : w64 (((gvL x w w.length).length : Int) - (v.length : Int)) = (H : Int) := by rw [w64_small (by omega) (by omega)]; omega
    simp only [e,Int.toNat_natCast]
    have eb : List.replicate H 0 ++ v = extB x v := by unfold extB; rw [tH]
    rw [eb]
    have all := l10All_ret x hx.1 hs.1
    have rows := l04Rows_ret x.2.1 (SD x.1 x.2.2.1 0) (gvL x w w.length) (by omega) (by omega)
    refine ev_chk (by simp; omega) (ev_chk (by simp only [List.length_replicate,decide_eq_true_eq]; omega) (ev_both (ev_call all (ev_both (ev_call rows ?_) (ev_call rows ?_))) (ev_call all (ev_call rows ?_))))
    all_goals
      refine ev_call (ext_ret hx hs.1 hpl hd).2 ?_
      cases hS : extS x w v with
      | none => exact ev_t rfl ev_rfl
      | some y => exact ev_f rfl (ev_call (l00Own_ret y (ext_length hs.1 hS)) ev_rfl)

theorem ExtendSectionV_sm (x : Shf) (w v : Sim) (hx : Sm (.st cS) x) (hw : Sm (.sl (.int .i64)) w) (hv : Sm (.sl (.int .i64)) v) : Sm (.sl (.int .i64)) (ExtendSectionV x w v).1 := by
  refine ⟨?_,fun _ _ => trivial⟩
  unfold ExtendSectionV
  split
  · rename_i h
    cases hp : extS x w v with
    | none => show ([] : List Int).length ≤ 1048576; simp
    | some y => exact ext_length (LC_zero.1 h).1.1.1 hp
  · show ([] : List Int).length ≤ 1048576; simp

end VeT

open Go Go.Proofs Ve
set_option linter.unusedVariables false
set_option linter.unusedSimpArgs false
namespace VeT

theorem law_ExtendSection (x0 : Shf) (x1 : Sim) (x2 : Sim) (w0 : Wf (.st cS) x0) (w1 : Wf (.sl (.int .i64)) x1) (w2 : Wf (.sl (.int .i64)) x2) : Ret E n_laws_FnExactExtendSection [dLL x0.1,dI x0.2.1,dL x0.2.2.1,dMs x0.2.2.2.1,dL x1,dL x2] ⟨.cons .bool .nil,(true,())⟩ := by
  refine ret_of ?_
  simp only [run_laws_FnExactExtendSection,laws_FnExactExtendSection.ev]
  refine ev_d (fun _ => ev_rfl) fun l1 => ?_
  have m1 : Sm (.sl (.int .i64)) x1 := ⟨by omega,fun _ _ => trivial⟩
  refine ev_d (fun _ => ev_rfl) fun l2 => ?_
  have m2 : Sm (.sl (.int .i64)) x2 := ⟨by omega,fun _ _ => trivial⟩
  obtain ⟨r0,hs0,s0⟩ := szSheaf_ret x0 1048576 w0 (by omega) (by omega)
  refine ev_call hs0 (ev_d (fun _ => ev_rfl) fun n0 => ?_)
  have n0 := Int.not_lt.1 n0
  obtain ⟨b0,m0⟩ := s0 n0
  have hi := implExtendSection_ret x0 x1 x2 m0 m1 m2
  have hsp := specExtendSection_ret x0 x1 x2 m0 m1 m2
  have hsm := ExtendSectionV_sm x0 x1 x2 m0 m1 m2
  generalize ExtendSectionV x0 x1 x2 = V at hi hsp hsm
  obtain ⟨v0,v1,⟨⟩⟩ := V
  have z0 : Sm (.sl (.int .i64)) v0 := hsm
  obtain ⟨qr0,hqr0,eqr0⟩ := eqInt64S_ret v0 v0 z0
  obtain rfl : qr0 = true := eqr0.2 rfl
  have to0 := toSheaf_ret x0 m0
  obtain ⟨q0,hq0,eq0⟩ := eqSheaf_ret x0 x0 m0
  obtain rfl : q0 = true := eq0.2 rfl
  have to1 := toInt64S_ret x1 m1
  obtain ⟨q1,hq1,eq1⟩ := eqInt64S_ret x1 x1 m1
  obtain rfl : q1 = true := eq1.2 rfl
  have to2 := toInt64S_ret x2 m2
  obtain ⟨q2,hq2,eq2⟩ := eqInt64S_ret x2 x2 m2
  obtain rfl : q2 = true := eq2.2 rfl
  obtain ⟨ma0,mb0,mc0,hm0,hmb0⟩ := markSheaf_ret x0 m0
  have hm1 := markInt64S_ret x1 (mkSN x0 1) (by omega) m1.1
  have hm2 := markInt64S_ret x2 (mkSN x0 1 + (x1.length : Int)) (by omega) m2.1
  have hk : ¬ (mkSN x0 1 + (x1.length : Int) + (x2.length : Int) < 0) := by omega
  have mr0 := markInt64S_ret v0 (1) (by omega) z0.1
  have hl0 := heldInt64S_ret (1) v0.length (by omega) z0.1
  have he0 : ¬ (1 + (v0.length : Int) < 0) := by omega
  repeat (first | with_reducible exact ev_rfl | with_reducible refine ev_call hqr0 ?_ | with_reducible refine ev_call to0 ?_ | with_reducible refine ev_call hq0 ?_ | with_reducible refine ev_call to1 ?_ | with_reducible refine ev_call hq1 ?_ | with_reducible refine ev_call to2 ?_ | with_reducible refine ev_call hq2 ?_ | with_reducible refine ev_call hi ?_ | with_reducible refine ev_call hsp ?_ | with_reducible refine ev_call hm0 ?_ | with_reducible refine ev_call hm1 ?_ | with_reducible refine ev_call hm2 ?_ | with_reducible refine ev_call mr0 ?_ | with_reducible refine ev_call hl0 ?_ | with_reducible refine ev_f (by first | rfl | exact bne_self_eq_false _ | exact decide_eq_false hk | exact decide_eq_false he0 | (simp; done)) ?_ | simp only [bne_self_eq_false,laws_FnExactExtendSection.j0_eq _ mk_ok,laws_FnExactExtendSection.j1_eq _ mk_ok,laws_FnExactExtendSection.j2_eq _ mk_ok,cond_false])

theorem rowExtendSection (z : ((.cons (.sl (.sl (.int .i64))) (.cons (.int .i64) (.cons (.sl (.int .i64)) (.cons (.sl (.st cM)) (.cons (.sl (.int .i64)) (.cons (.sl (.int .i64)) .nil)))))) : Ty).T)
    (h : Wf (.cons (.sl (.sl (.int .i64))) (.cons (.int .i64) (.cons (.sl (.int .i64)) (.cons (.sl (.st cM)) (.cons (.sl (.int .i64)) (.cons (.sl (.int .i64)) .nil)))))) z) :
    Evt fun n => run E n n_laws_FnExactExtendSection (unpack _ z) = some ⟨.cons .bool .nil,(true,())⟩ :=
  law_ExtendSection (z.1,z.2.1,z.2.2.1,z.2.2.2.1,()) z.2.2.2.2.1 z.2.2.2.2.2.1 ⟨h.1,h.2.1,h.2.2.1,h.2.2.2.1,trivial⟩ h.2.2.2.2.1 h.2.2.2.2.2.1

end VeT
