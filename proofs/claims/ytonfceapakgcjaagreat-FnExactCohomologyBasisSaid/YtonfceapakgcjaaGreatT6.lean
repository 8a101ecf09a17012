import Derived.Test.YtonfceapakgcjaaGreatT5
import Derived.KernelRfl
import Derived.Test.YtonfceapakgcjaaGreatV2
set_option linter.unusedVariables false
set_option linter.unusedSimpArgs false
open Go Go.Proofs Ve
set_option linter.unusedVariables false
set_option linter.unusedSimpArgs false
namespace VeT

/-- a wrong square -/
def Bq (c : List Sim) (ms : List Mat) (k i j : Nat) : Prop := two c ms k i (j - 1) ≠ two c ms k j i
def Pi (c : List Sim) (ms : List Mat) (k i : Nat) : Prop := ∃ j,i + 1 ≤ j ∧ j < i + 1 + ((c.getD k []).length - (i + 1)) ∧ Bq c ms k i j
def Pk (c : List Sim) (ms : List Mat) (k : Nat) : Prop := 3 ≤ (c.getD k []).length ∧ ∃ i,0 ≤ i ∧ i < 0 + (c.getD k []).length ∧ Pi c ms k i

noncomputable def rI (c : List Sim) (ms : List Mat) (out : Nat → Nat → Nat → Option Dv) (k i : Nat) (rn : Option Dv) : Option Dv := orN (out k i) rn (firstN (Bq c ms k i) (i + 1) ((c.getD k []).length - (i + 1)))
noncomputable def rK (c : List Sim) (ms : List Mat) (out : Nat → Nat → Nat → Option Dv) (k : Nat) (rn : Option Dv) : Option Dv := orN (fun i => rI c ms out k i none) rn (firstN (Pi c ms k) 0 (c.getD k []).length)
noncomputable def wrongR (c : List Sim) (ms : List Mat) (out : Nat → Nat → Nat → Option Dv) (rn : Option Dv) : Option Dv := orN (fun k => rK c ms out k none) rn (firstN (Pk c ms) 0 c.length)

theorem rI_hit {c ms out k i} {rn rn' : Option Dv} (h : Pi c ms k i) : rI c ms out k i rn = rI c ms out k i rn' := by
  obtain ⟨j,hj⟩ := firstN_ex h
  unfold rI; rw [hj]; rfl
theorem rI_go {c ms out k i} {rn : Option Dv} (h : ¬ Pi c ms k i) : rI c ms out k i rn = rn := by
  unfold rI
  cases hf : firstN (Bq c ms k i) (i + 1) ((c.getD k []).length - (i + 1)) with
  | none => rfl
  | some j => exact absurd ⟨j,firstN_some hf⟩ h
theorem rK_hit {c ms out k} {rn rn' : Option Dv} (h : Pk c ms k) : rK c ms out k rn = rK c ms out k rn' := by
  obtain ⟨j,hj⟩ := firstN_ex h.2
  unfold rK; rw [hj]; rfl
theorem rK_go {c ms out k} {rn : Option Dv} (h : ¬ Pk c ms k) (h3 : 3 ≤ (c.getD k []).length) : rK c ms out k rn = rn := by
  unfold rK
  cases hf : firstN (Pi c ms k) 0 (c.getD k []).length with
  | none => rfl
  | some j => exact absurd ⟨h3,j,firstN_some hf⟩ h

/-- the first wrong square -/
noncomputable def wrongV (c : List Sim) (ms : List Mat) : Option (Nat × Nat × Nat) :=
  (firstN (Pk c ms) 0 c.length).bind fun k => (firstN (Pi c ms k) 0 (c.getD k []).length).bind fun i => (firstN (Bq c ms k i) (i + 1) ((c.getD k []).length - (i + 1))).map fun j => (k,i,j)

theorem wrongV_some {c ms k i j} (h : wrongV c ms = some (k,i,j)) : k < c.length ∧ 3 ≤ (c.getD k []).length ∧ i < j ∧ j < (c.getD k []).length ∧ ∀ out rn,wrongR c ms out rn = out k i j := by
  unfold wrongV at h
  obtain ⟨k',hk,h⟩ := Option.bind_eq_some_iff.1 h
  obtain ⟨i',hi,h⟩ := Option.bind_eq_some_iff.1 h
  obtain ⟨j',hj,h⟩ := Option.map_eq_some_iff.1 h
  simp only [Prod.mk.injEq] at h
  obtain ⟨rfl,rfl,rfl⟩ := h
  have a := firstN_some hk
  have b := firstN_some hi
  have d := firstN_some hj
  refine ⟨by omega,a.2.2.1,by omega,by omega,fun out rn => ?_⟩
  unfold wrongR rK rI
  rw [hk]; simp only [orN]; rw [hi]; simp only [orN]; rw [hj]

theorem wrongV_none {c ms} (h : wrongV c ms = none) : ∀ out rn,wrongR c ms out rn = rn := by
  intro out rn
  unfold wrongR
  cases hk : firstN (Pk c ms) 0 c.length with
  | none => rfl
  | some k =>
    have a := firstN_some hk
    obtain ⟨i,hi⟩ := firstN_ex a.2.2.2
    obtain ⟨j,hj⟩ := firstN_ex (firstN_some hi).2.2
    unfold wrongV at h
    rw [hk] at h
    simp only [Option.bind_some] at h
    rw [hi] at h
    simp only [Option.bind_some] at h
    rw [hj] at h
    cases h

theorem faceIx_ret (c : List Sim) (k : Nat) (hk : k < c.length) (hc : Sm (.sl (.sl (.int .i64))) c) (hv : VC c) : Ret E n_Z36 [dLL c,dI (k : Int)] ⟨o_Z36,(fIdx c k,())⟩ := faceIndices_ret c k hk hc hv.srt

noncomputable def outI (c : List Sim) (k i j : Nat) : Option Dv := some ⟨o_Z72,((k : Int),(fIdx c (fc c k i)).getD (j - 1) 0,true,())⟩

theorem wrongSquare_ret' (c : List Sim) (p : Int) (st : Sim) (ms : List Mat) (hc : Sm (.sl (.sl (.int .i64))) c) (h : VS c p st ms) : Ev fun φ => run E (φ 0 + 1) n_Z72 [dLL c,dI p,dL st,dMs ms] = wrongR c ms (outI c) (some ⟨o_Z72,(0,0,false,())⟩) := by
  have hv := h.1
  have h48 := hv.1
  simp only [run_Z72,Z72.ev]
  refine Ev.start (p := fun φ n => Z72.l0 (mkR (run E (φ 0))) (φ 0) n c (c.length : Int) 0 c p st ms = _) 1 ?_ (fun _ _ _ h => h)
  have inner3 : ∀ k i (hk : k < c.length) (hn : 3 ≤ (c.getD k []).length) (hi : i < (c.getD k []).length) (rn : Option Dv),
      (¬ Pi c ms k i → Ev fun φ => Z72.l1 (mkR (run E (φ 0))) (φ 0) (φ 1) (φ 2) (c.getD k []) (k : Int) (fIdx c k) c (c.length : Int) (k : Int) ((c.getD k []).length : Int) ((i + 1 : Nat) : Int) c p st ms = rn) →
      Ev fun φ => Z72.l2 (mkR (run E (φ 0))) (φ 0) (φ 1) (φ 2) (φ 0) (c.getD k []) (k : Int) (fIdx c k) (i : Int) ((i + 1 : Nat) : Int) c (c.length : Int) (k : Int) ((c.getD k []).length : Int) (i : Int) c p st ms = rI c ms (outI c) k i rn := by
    intro k i hk hn hi rn hrn
    have h4 := hv.len4 hk
    refine Ev.start (p := fun φ n => Z72.l2 (mkR (run E (φ 0))) (φ 0) (φ 1) (φ 2) n (c.getD k []) (k : Int) (fIdx c k) (i : Int) ((i + 1 : Nat) : Int) c (c.length : Int) (k : Int) ((c.getD k []).length : Int) (i : Int) c p st ms = _) 3 ?_ (fun _ _ _ h => h)
    -- one round
    have round : ∀ j (hij : i + 1 ≤ j) (hj : j < (c.getD k []).length) (r : Option Dv),
        (Ev fun φ => (bif (!pb (two c ms k i (j - 1) = two c ms k j i)) then outI c k i j else Z72.l2 (mkR (run E (φ 0))) (φ 0) (φ 1) (φ 2) (φ 3) (c.getD k []) (k : Int) (fIdx c k) (i : Int) (w64 ((j : Int) + 1)) c (c.length : Int) (k : Int) ((c.getD k []).length : Int) (i : Int) c p st ms) = r) →
        Ev fun φ => Z72.l2 (mkR (run E (φ 0))) (φ 0) (φ 1) (φ 2) (φ 3 + 1) (c.getD k []) (k : Int) (fIdx c k) (i : Int) (j : Int) c (c.length : Int) (k : Int) ((c.getD k []).length : Int) (i : Int) c p st ms = r := by
      intro j hij hj r hr
      have s1 : Sq c p st ms k i (j - 1) := ⟨hk,hn,hi,by omega,h⟩
      have s2 : Sq c p st ms k j i := ⟨hk,hn,hj,by omega,h⟩
      obtain ⟨ix1,F1,_⟩ := fc_get hv hk s1.hi
      obtain ⟨ix2,F2,_⟩ := fc_get hv hk s2.hi
      have g1 := direct_ret c p st ms k i hk s1.hi h
      have g2 := direct_ret c p st ms (fc c k i) (j - 1) F1 s1.hj h
      have g3 := direct_ret c p st ms k j hk s2.hi h
      have g4 := direct_ret c p st ms (fc c k j) i F2 s2.hj h
      have ej : w64 ((j : Int) - 1) = ((j - 1 : Nat) : Int) := by rw [w64_small (by omega) (by omega)]; omega
      have j4 : Ev fun φ => Z72.j4 (mkR (run E (φ 0))) (φ 0) (φ 1) (φ 2) (φ 3) (c.getD k []) (k : Int) (fIdx c k) (i : Int) (j : Int) c (c.length : Int) (k : Int) ((c.getD k []).length : Int) (i : Int) c p st ms
          (two c ms k i (j - 1)).1 (two c ms k i (j - 1)).2.1 (two c ms k i (j - 1)).2.2.1 (two c ms k i (j - 1)).2.2.2.1 (two c ms k j i).1 (two c ms k j i).2.1 (two c ms k j i).2.2.1 (two c ms k j i).2.2.2.1 = r := by
        simp only [Z72.j4_eq _ mk_ok,ej]
        refine ev_call (SameMatrixP_ret (two c ms k i (j - 1)) (two c ms k j i) (mulM_len s1.b1 s1.b2)) ?_
        by_cases he : two c ms k i (j - 1) = two c ms k j i
        · rw [pb_true he] at hr ⊢
          exact ev_f rfl (by simpa using hr)
        · rw [pb_false he] at hr ⊢
          refine ev_t rfl (ev_bind ix1 (ev_call (faceIx_ret c (fc c k i) F1 hc hv) (ev_bind (idx_lt s1.hj) ?_)))
          have : outI c k i j = r := by
            obtain ⟨n0,hr⟩ := hr
            exact hr (fun _ => n0) (fun _ => Nat.le_refl _)
          rw [← this,outI,getD_lt s1.hj]; exact ev_rfl
      have j3 : Ev fun φ => Z72.j3 (mkR (run E (φ 0))) (φ 0) (φ 1) (φ 2) (φ 3) (c.getD k []) (k : Int) (fIdx c k) (i : Int) (j : Int) c (c.length : Int) (k : Int) ((c.getD k []).length : Int) (i : Int) c p st ms
          (two c ms k i (j - 1)).1 (two c ms k i (j - 1)).2.1 (two c ms k i (j - 1)).2.2.1 (two c ms k i (j - 1)).2.2.2.1 = r := by
        simp only [Z72.j3_eq _ mk_ok]
        refine ev_bind ix2 (ev_both (ev_call g3 (ev_both (ev_call g4 (ev_both (ev_call s2.impl j4) (ev_call s2.impl j4))) (ev_call g4 (ev_call s2.impl j4)))) (ev_call g3 (ev_call g4 (ev_call s2.impl j4))))
      simp only [Z72.l2_succ _ mk_ok,ej]
      refine ev_t (decide_eq_true (by omega)) (ev_bind ix1 (ev_both (ev_call g1 (ev_both (ev_call g2 (ev_both (ev_call s1.impl j3) (ev_call s1.impl j3))) (ev_call g2 (ev_call s1.impl j3)))) (ev_call g1 (ev_call g2 (ev_call s1.impl j3)))))
    refine first_loop 3 (L := fun φ n j => Z72.l2 (mkR (run E (φ 0))) (φ 0) (φ 1) (φ 2) n (c.getD k []) (k : Int) (fIdx c k) (i : Int) j c (c.length : Int) (k : Int) ((c.getD k []).length : Int) (i : Int) c p st ms) (len := (c.getD k []).length) (Bq c ms k i) (outI c k i) rn (fun _ _ _ _ => rfl) (i + 1) (fun j h1 h2 hB => ?_) (fun j q h1 h2 hB ih => ?_) (fun hno => ?_) _ (by omega)
    · refine round j h1 h2 _ (ev_t ?_ ev_rfl)
      rw [pb_false hB]; rfl
    · refine round j h1 h2 _ (ev_f ?_ ?_)
      · rw [pb_true (Classical.not_not.1 hB)]; rfl
      · rw [w64_succ (by omega)]; exact ih
    · simp only [Z72.l2_succ _ mk_ok]
      refine ev_f (decide_eq_false (by omega)) ?_
      rw [w64_succ (by omega)]; exact hrn fun ⟨j,h1,h2,h3⟩ => hno j h1 (by omega) h3
  have inner2 : ∀ k (hk : k < c.length) (hn : 3 ≤ (c.getD k []).length) (rn : Option Dv),
      (¬ Pk c ms k → Ev fun φ => Z72.l0 (mkR (run E (φ 0))) (φ 0) (φ 1) c (c.length : Int) ((k + 1 : Nat) : Int) c p st ms = rn) →
      Ev fun φ => Z72.l1 (mkR (run E (φ 0))) (φ 0) (φ 1) (φ 0) (c.getD k []) (k : Int) (fIdx c k) c (c.length : Int) (k : Int) ((c.getD k []).length : Int) 0 c p st ms = rK c ms (outI c) k rn := by
    intro k hk hn rn hrn
    have h4 := hv.len4 hk
    refine Ev.start (p := fun φ n => Z72.l1 (mkR (run E (φ 0))) (φ 0) (φ 1) n (c.getD k []) (k : Int) (fIdx c k) c (c.length : Int) (k : Int) ((c.getD k []).length : Int) 0 c p st ms = _) 2 ?_ (fun _ _ _ h => h)
    refine first_loop 2 (L := fun φ n i => Z72.l1 (mkR (run E (φ 0))) (φ 0) (φ 1) n (c.getD k []) (k : Int) (fIdx c k) c (c.length : Int) (k : Int) ((c.getD k []).length : Int) i c p st ms) (len := (c.getD k []).length) (Pi c ms k) (fun i => rI c ms (outI c) k i none) rn (fun _ _ _ _ => rfl) 0 (fun i h1 h2 hP => ?_) (fun i q h1 h2 hP ih => ?_) (fun hno => ?_) _ (by omega)
    · simp only [Z72.l1_succ _ mk_ok]
      refine ev_t (decide_eq_true (by omega)) ?_
      rw [w64_succ (by omega)]
      exact inner3 k i hk hn h2 none fun hn => absurd hP hn
    · simp only [Z72.l1_succ _ mk_ok]
      refine ev_t (decide_eq_true (by omega)) ?_
      rw [w64_succ (by omega)]
      exact (inner3 k i hk hn h2 q fun _ => ih).to (rI_go hP)
    · simp only [Z72.l1_succ _ mk_ok]
      refine ev_f (decide_eq_false (by omega)) ?_
      rw [w64_succ (by omega)]; exact hrn fun ⟨_,i,h1,h2,h3⟩ => hno i h1 (by omega) h3
  refine first_loop 1 (L := fun φ n k => Z72.l0 (mkR (run E (φ 0))) (φ 0) n c (c.length : Int) k c p st ms) (len := c.length) (Pk c ms) (fun k => rK c ms (outI c) k none) _ (fun _ _ _ _ => rfl) 0 (fun k h1 h2 hP => ?_) (fun k q h1 h2 hP ih => ?_) (fun hno => ?_) _ (by omega)
  · simp only [Z72.l0_succ _ mk_ok]
    refine ev_t (decide_eq_true (by omega)) (ev_bind (idx_lt h2) ?_)
    have hn := hP.1
    rw [← getD_lt (d := []) h2]
    exact ev_f (decide_eq_false (by omega)) (ev_call (faceIx_ret c k h2 hc hv) (inner2 k h2 hn none fun hn => absurd hP hn))
  · simp only [Z72.l0_succ _ mk_ok]
    refine ev_t (decide_eq_true (by omega)) (ev_bind (idx_lt h2) ?_)
    rw [← getD_lt (d := []) h2]
    refine ev_d (fun hlt => ?_) fun hlt => ?_
    · rw [w64_succ (by omega)]; exact ih
    · exact ev_call (faceIx_ret c k h2 hc hv) ((inner2 k h2 (by omega) q fun _ => ih).to (rK_go hP (by omega)))
  · simp only [Z72.l0_succ _ mk_ok]
    exact ev_f (decide_eq_false (by omega)) ev_rfl

noncomputable def outS (k i j : Nat) : Option Dv := some ⟨o_Z166,((k : Int),(i : Int),(j : Int),())⟩

theorem l09Wrong_ret' (x : Shf) (hc : Sm (.sl (.sl (.int .i64))) x.1) (h : VS x.1 x.2.1 x.2.2.1 x.2.2.2.1) : Ev fun φ => run E (φ 0 + 1) n_Z166 [dS x] = wrongR x.1 x.2.2.2.1 outS (some ⟨o_Z166,(-1,0,0,())⟩) := by
  have hv := h.1
  have h48 := hv.1
  simp only [run_Z166,Z166.ev]
  refine Ev.start (p := fun φ n => Z166.l0 (mkR (run E (φ 0))) (φ 0) n x 0 = _) 1 ?_ (fun _ _ _ h => h)
  have inner3 : ∀ k i (hk : k < x.1.length) (hn : 3 ≤ (x.1.getD k []).length) (hi : i < (x.1.getD k []).length) (rn : Option Dv),
      (¬ Pi x.1 x.2.2.2.1 k i → Ev fun φ => Z166.l1 (mkR (run E (φ 0))) (φ 0) (φ 1) (φ 2) x (k : Int) ((x.1.getD k []).length : Int) ((i + 1 : Nat) : Int) = rn) →
      Ev fun φ => Z166.l3 (mkR (run E (φ 0))) (φ 0) (φ 1) (φ 2) (φ 0) x (k : Int) ((x.1.getD k []).length : Int) (i : Int) ((i + 1 : Nat) : Int) = rI x.1 x.2.2.2.1 outS k i rn := by
    intro k i hk hn hi rn hrn
    have h4 := hv.len4 hk
    refine Ev.start (p := fun φ n => Z166.l3 (mkR (run E (φ 0))) (φ 0) (φ 1) (φ 2) n x (k : Int) ((x.1.getD k []).length : Int) (i : Int) ((i + 1 : Nat) : Int) = _) 3 ?_ (fun _ _ _ h => h)
    have round : ∀ j (hij : i + 1 ≤ j) (hj : j < (x.1.getD k []).length) (r : Option Dv),
        (Ev fun φ => (bif (!pb (two x.1 x.2.2.2.1 k i (j - 1) = two x.1 x.2.2.2.1 k j i)) then outS k i j else Z166.l3 (mkR (run E (φ 0))) (φ 0) (φ 1) (φ 2) (φ 3) x (k : Int) ((x.1.getD k []).length : Int) (i : Int) (w64 ((j : Int) + 1))) = r) →
        Ev fun φ => Z166.l3 (mkR (run E (φ 0))) (φ 0) (φ 1) (φ 2) (φ 3 + 1) x (k : Int) ((x.1.getD k []).length : Int) (i : Int) (j : Int) = r := by
      intro j hij hj r hr
      have s1 : Sq x.1 x.2.1 x.2.2.1 x.2.2.2.1 k i (j - 1) := ⟨hk,hn,hi,by omega,h⟩
      have s2 : Sq x.1 x.2.1 x.2.2.1 x.2.2.2.1 k j i := ⟨hk,hn,hj,by omega,h⟩
      have t1 := l09Two_ret x k i j (by omega) (by rw [if_pos (by omega)]; exact s1) hc (by omega)
      have t2 := l09Two_ret x k j i (by omega) (by rw [if_neg (by omega)]; exact s2) hc (by omega)
      rw [if_pos (by omega)] at t1
      rw [if_neg (by omega)] at t2
      simp only [Z166.l3_succ _ mk_ok]
      exact ev_t (decide_eq_true (by omega)) (ev_call t1 (ev_call t2 (ev_call (l03SameP_ret (two x.1 x.2.2.2.1 k i (j - 1)) (two x.1 x.2.2.2.1 k j i) (mulM_len s1.b1 s1.b2)) hr)))
    refine first_loop 3 (L := fun φ n j => Z166.l3 (mkR (run E (φ 0))) (φ 0) (φ 1) (φ 2) n x (k : Int) ((x.1.getD k []).length : Int) (i : Int) j) (len := (x.1.getD k []).length) (Bq x.1 x.2.2.2.1 k i) (outS k i) rn (fun _ _ _ _ => rfl) (i + 1) (fun j h1 h2 hB => ?_) (fun j q h1 h2 hB ih => ?_) (fun hno => ?_) _ (by omega)
    · refine round j h1 h2 _ (ev_t ?_ ev_rfl)
      rw [pb_false hB]; rfl
    · refine round j h1 h2 _ (ev_f ?_ ?_)
      · rw [pb_true (Classical.not_not.1 hB)]; rfl
      · rw [w64_succ (by omega)]; exact ih
    · simp only [Z166.l3_succ _ mk_ok]
      refine ev_f (decide_eq_false (by omega)) ?_
      rw [w64_succ (by omega)]; exact hrn fun ⟨j,h1,h2,h3⟩ => hno j h1 (by omega) h3
  have inner2 : ∀ k (hk : k < x.1.length) (hn : 3 ≤ (x.1.getD k []).length) (rn : Option Dv),
      (¬ Pk x.1 x.2.2.2.1 k → Ev fun φ => Z166.l0 (mkR (run E (φ 0))) (φ 0) (φ 1) x ((k + 1 : Nat) : Int) = rn) →
      Ev fun φ => Z166.l1 (mkR (run E (φ 0))) (φ 0) (φ 1) (φ 0) x (k : Int) ((x.1.getD k []).length : Int) 0 = rK x.1 x.2.2.2.1 outS k rn := by
    intro k hk hn rn hrn
    have h4 := hv.len4 hk
    refine Ev.start (p := fun φ n => Z166.l1 (mkR (run E (φ 0))) (φ 0) (φ 1) n x (k : Int) ((x.1.getD k []).length : Int) 0 = _) 2 ?_ (fun _ _ _ h => h)
    have h2' : decide (((x.1.getD k []).length : Int) > 2) = true := decide_eq_true (by omega)
    refine first_loop 2 (L := fun φ n i => Z166.l1 (mkR (run E (φ 0))) (φ 0) (φ 1) n x (k : Int) ((x.1.getD k []).length : Int) i) (len := (x.1.getD k []).length) (Pi x.1 x.2.2.2.1 k) (fun i => rI x.1 x.2.2.2.1 outS k i none) rn (fun _ _ _ _ => rfl) 0 (fun i h1 h2 hP => ?_) (fun i q h1 h2 hP ih => ?_) (fun hno => ?_) _ (by omega)
    · simp only [Z166.l1_succ _ mk_ok,h2',Z166.j2_eq _ mk_ok,cond_true]
      refine ev_t (decide_eq_true (by omega)) ?_
      rw [w64_succ (by omega)]
      exact inner3 k i hk hn h2 none fun hn => absurd hP hn
    · simp only [Z166.l1_succ _ mk_ok,h2',Z166.j2_eq _ mk_ok,cond_true]
      refine ev_t (decide_eq_true (by omega)) ?_
      rw [w64_succ (by omega)]
      exact (inner3 k i hk hn h2 q fun _ => ih).to (rI_go hP)
    · simp only [Z166.l1_succ _ mk_ok,Z166.j2_eq _ mk_ok,cond_false]
      refine ev_f (decide_eq_false (by omega)) ?_
      rw [w64_succ (by omega)]; exact hrn fun ⟨_,i,h1,h2,h3⟩ => hno i h1 (by omega) h3
  refine first_loop 1 (L := fun φ n k => Z166.l0 (mkR (run E (φ 0))) (φ 0) n x k) (len := x.1.length) (Pk x.1 x.2.2.2.1) (fun k => rK x.1 x.2.2.2.1 outS k none) _ (fun _ _ _ _ => rfl) 0 (fun k h1 h2 hP => ?_) (fun k q h1 h2 hP ih => ?_) (fun hno => ?_) _ (by omega)
  · simp only [Z166.l0_succ _ mk_ok]
    refine ev_t (decide_eq_true (by omega)) (ev_bind (idx_lt h2) ?_)
    have hn := hP.1
    rw [← getD_lt (d := []) h2]
    exact inner2 k h2 hn none fun hn => absurd hP hn
  · simp only [Z166.l0_succ _ mk_ok]
    refine ev_t (decide_eq_true (by omega)) (ev_bind (idx_lt h2) ?_)
    rw [← getD_lt (d := []) h2]
    by_cases hn : 3 ≤ (x.1.getD k []).length
    · exact (inner2 k h2 hn q fun _ => ih).to (rK_go hP hn)
    · have h2' : decide (((x.1.getD k []).length : Int) > 2) = false := decide_eq_false (by omega)
      refine Ev.start (p := fun φ n => Z166.l1 (mkR (run E (φ 0))) (φ 0) (φ 1) n x (k : Int) ((x.1.getD k []).length : Int) 0 = _) 2 ?_ (fun _ _ _ h => h)
      refine Ev.round 2 (L := fun φ n => Z166.l1 (mkR (run E (φ 0))) (φ 0) (φ 1) n x (k : Int) ((x.1.getD k []).length : Int) 0) ?_ (fun _ _ _ => rfl)
      simp only [Z166.l1_succ _ mk_ok,h2',Z166.j2_eq _ mk_ok,cond_false]
      rw [w64_succ (by omega)]
      exact ev_d (fun _ => ih) fun _ => ih
  · simp only [Z166.l0_succ _ mk_ok]
    exact ev_f (decide_eq_false (by omega)) ev_rfl

end VeT

open Go Go.Proofs Ve
set_option linter.unusedVariables false
set_option linter.unusedSimpArgs false
namespace VeT

noncomputable def wI (c : List Sim) (ms : List Mat) : Int × Int × Bool × Unit := match wrongV c ms with
  | some (k,i,j) => ((k : Int),(fIdx c (fc c k i)).getD (j - 1) 0,true,())
  | none => (0,0,false,())

noncomputable def wS (c : List Sim) (ms : List Mat) : Int × Int × Int × Unit := match wrongV c ms with
  | some (k,i,j) => ((k : Int),(i : Int),(j : Int),())
  | none => (-1,0,0,())

theorem wrongSquare_ret (c : List Sim) (p : Int) (st : Sim) (ms : List Mat) (hc : Sm (.sl (.sl (.int .i64))) c) (h : VS c p st ms) : Ret E n_Z72 [dLL c,dI p,dL st,dMs ms] ⟨o_Z72,wI c ms⟩ := by
  refine ret_of ((wrongSquare_ret' c p st ms hc h).to ?_)
  cases hw : wrongV c ms with
  | none => rw [wrongV_none hw,wI,hw]
  | some t =>
    obtain ⟨k,i,j⟩ := t
    rw [(wrongV_some hw).2.2.2.2,wI,hw]; rfl

theorem l09Wrong_ret (x : Shf) (hc : Sm (.sl (.sl (.int .i64))) x.1) (h : VS x.1 x.2.1 x.2.2.1 x.2.2.2.1) : Ret E n_Z166 [dS x] ⟨o_Z166,wS x.1 x.2.2.2.1⟩ := by
  refine ret_of ((l09Wrong_ret' x hc h).to ?_)
  cases hw : wrongV x.1 x.2.2.2.1 with
  | none => rw [wrongV_none hw,wS,hw]
  | some t =>
    obtain ⟨k,i,j⟩ := t
    rw [(wrongV_some hw).2.2.2.2,wS,hw]; rfl

/-- sheaves -/
def ISh (x : Shf) : Prop := VS x.1 x.2.1 x.2.2.1 x.2.2.2.1 ∧ wrongV x.1 x.2.2.2.1 = none

theorem implIsSheaf_ret (x : Shf) (hx : Sm (.st cS) x) : Ret E n_Z6 [dLL x.1,dI x.2.1,dL x.2.2.1,dMs x.2.2.2.1] ⟨o_Z6,(pb (ISh x),())⟩ := by
  refine ret_of ?_
  simp only [run_Z6,Z6.ev]
  refine ev_call (implValid_ret x hx) (ev_b (fun h => ev_some ?_) fun h => ?_)
  · have h := pb_not.1 (show pb (VS x.1 x.2.1 x.2.2.1 x.2.2.2.1) = false by simpa using h)
    rw [pb_false fun hi => h hi.1]
  · have h := pb_iff.1 (show pb (VS x.1 x.2.1 x.2.2.1 x.2.2.2.1) = true by simpa using h)
    refine ev_call (wrongSquare_ret _ _ _ _ hx.1 h) (ev_some ?_)
    have : (!(wI x.1 x.2.2.2.1).2.2.1) = pb (ISh x) := eq_pb (by
      unfold ISh wI
      cases hw : wrongV x.1 x.2.2.2.1 with
      | none => simp [h]
      | some t => simp)
    rw [this]

theorem l09Is_ret (x : Shf) (hx : Sm (.st cS) x) : Ret E n_Z159 [dS x] ⟨o_Z159,(pb (ISh x),())⟩ := by
  refine ret_of ?_
  simp only [run_Z159,Z159.ev]
  refine ev_call (l09Ok_ret x hx) (ev_b (fun h => ev_some ?_) fun h => ?_)
  · have h := pb_not.1 (show pb (VS x.1 x.2.1 x.2.2.1 x.2.2.2.1) = false by simpa using h)
    rw [pb_false fun hi => h hi.1]
  · have h := pb_iff.1 (show pb (VS x.1 x.2.1 x.2.2.1 x.2.2.2.1) = true by simpa using h)
    refine ev_call (l09Wrong_ret x hx.1 h) (ev_some ?_)
    have : decide ((wS x.1 x.2.2.2.1).1 < 0) = pb (ISh x) := eq_pb (by
      rw [decide_eq_true_iff]
      unfold ISh wS
      cases hw : wrongV x.1 x.2.2.2.1 with
      | none => simp [h]
      | some t => simp only [reduceCtorEq,and_false,iff_false]; omega)
    rw [this]

/-! the Euler number -/
def SDn (c : List Sim) (st : Sim) (d : Int) (n : Nat) : Int := ((ofDim c d n).map fun i => st.getD i.toNat 0).sum

theorem SD_eq {c : List Sim} {st : Sim} {d : Int} : SD c st d = SDn c st d c.length := by
  unfold SD sumD SDn
  rw [List.take_of_length_le (Nat.le_refl _)]

theorem SDn_succ {c : List Sim} {st : Sim} {d : Int} {n : Nat} : SDn c st d (n + 1) = SDn c st d n + if ((c.getD n []).length : Int) = d + 1 then st.getD n 0 else 0 := by
  unfold SDn
  rw [ofDim_succ,List.map_append,List.sum_append]
  split <;> simp

theorem SD_bound {c : List Sim} {p : Int} {st : Sim} {ms : List Mat} (h : VS c p st ms) (d : Nat) (hd : d < 4) : 0 ≤ SD c st (d : Int) ∧ SD c st (d : Int) ≤ 32 := ⟨sum_len_le h.2.2.1.2.1 _,h.2.2.1.2.2 d hd⟩

end VeT

open Go Go.Proofs Ve
set_option linter.unusedVariables false
set_option linter.unusedSimpArgs false
namespace VeT

/-! where columns begin -/
theorem st_nn {st : Sim} (hst : ∀ x ∈ st,0 ≤ x ∧ x ≤ 3) (k : Nat) : 0 ≤ st.getD k 0 ∧ st.getD k 0 ≤ 3 := by
  by_cases hl : k < st.length
  · rw [getD_lt hl]; exact hst _ (List.getElem_mem hl)
  · rw [List.getD_eq_getElem?_getD,List.getElem?_eq_none (by omega)]; simp

theorem SDn_nn {c : List Sim} {st : Sim} {d : Int} (hst : ∀ x ∈ st,0 ≤ x ∧ x ≤ 3) : ∀ {n : Nat},0 ≤ SDn c st d n ∧ SDn c st d n ≤ 3 * n
  | 0 => by simp [SDn,ofDim]
  | n + 1 => by
    have h1 := SDn_nn (c := c) (d := d) hst (n := n)
    have h2 := st_nn hst n
    rw [SDn_succ]; split <;> omega

theorem SDn_mono {c : List Sim} {st : Sim} {d : Int} (hst : ∀ x ∈ st,0 ≤ x ∧ x ≤ 3) {n m : Nat} (h : n ≤ m) : SDn c st d n ≤ SDn c st d m := by
  induction h with
  | refl => exact Int.le_refl _
  | @step m h ih => rw [SDn_succ]; have := st_nn hst m; split <;> omega

theorem SDn_hit {c : List Sim} {st : Sim} {d : Int} (hst : ∀ x ∈ st,0 ≤ x ∧ x ≤ 3) {s n : Nat} (hs : s < n) (hd : ((c.getD s []).length : Int) = d + 1) : SDn c st d s + st.getD s 0 ≤ SDn c st d n := by
  have := SDn_mono (c := c) (d := d) hst (show s + 1 ≤ n from hs)
  rw [SDn_succ,if_pos hd] at this; exact this

theorem ofDim_pre {c : List Sim} {d : Int} {s n : Nat} (hs : s < n) (hd : ((c.getD s []).length : Int) = d + 1) : ∃ tl,ofDim c d n = ofDim c d s ++ (s : Int) :: tl := by
  induction n with
  | zero => omega
  | succ n ih =>
    rw [ofDim_succ]
    by_cases h : s = n
    · subst h; exact ⟨[],by rw [if_pos hd]⟩
    · obtain ⟨tl,e⟩ := ih (by omega)
      exact ⟨tl ++ _,by rw [e,List.append_assoc]; rfl⟩

theorem ofDim_iff {c : List Sim} {d : Int} {k : Nat} {x : Int} : x ∈ ofDim c d k ↔ ∃ i : Nat,x = i ∧ i < k ∧ ((c.getD i []).length : Int) = d + 1 := by
  unfold ofDim
  rw [List.mem_map]
  constructor
  · rintro ⟨i,hi,rfl⟩
    have := List.mem_filter.1 hi
    exact ⟨i,rfl,by simpa using this.1,by simpa using this.2⟩
  · rintro ⟨i,rfl,h1,h2⟩
    exact ⟨i,List.mem_filter.2 ⟨by simpa using h1,by simpa using h2⟩,rfl⟩

/-- where the column of a simplex begins -/
def FC (c : List Sim) (st : Sim) (s : Nat) : Int := SDn c st (((c.getD s []).length : Int) - 1) s

theorem FC_bound {c : List Sim} {st : Sim} (hst : ∀ x ∈ st,0 ≤ x ∧ x ≤ 3) {s : Nat} (hs : s < c.length) : 0 ≤ FC c st s ∧ FC c st s + st.getD s 0 ≤ SD c st (((c.getD s []).length : Int) - 1) := by
  refine ⟨(SDn_nn hst).1,?_⟩
  rw [SD_eq]
  exact SDn_hit hst hs (by omega)

/-! stores -/
abbrev St := List (Nat × Int)
def upds (S : St) (cs : Sim) : Sim := S.foldl (fun cs q => cs.set q.1 q.2) cs

theorem upds_append {S T : St} {cs : Sim} : upds (S ++ T) cs = upds T (upds S cs) := by simp [upds]
theorem upds_one {q : Nat} {v : Int} {cs : Sim} : upds [(q,v)] cs = cs.set q v := rfl
theorem upds_length {S : St} : ∀ {cs : Sim},(upds S cs).length = cs.length := by
  induction S with
  | nil => intro cs; rfl
  | cons q S ih => intro cs; show (upds S (cs.set q.1 q.2)).length = _; rw [ih,List.length_set]

theorem upds_elems {p : Int} {S : St} : ∀ {cs : Sim},Elems cs p → (∀ q ∈ S,0 ≤ q.2 ∧ q.2 ≤ p - 1) → Elems (upds S cs) p := by
  induction S with
  | nil => intro cs h _; exact h
  | cons q S ih =>
    intro cs h hS
    refine ih (cs := cs.set q.1 q.2) (fun x hx => ?_) fun y hy => hS y (List.mem_cons_of_mem _ hy)
    rcases List.mem_or_eq_of_mem_set hx with hx | rfl
    · exact h x hx
    · exact hS q List.mem_cons_self

def sgn (p : Int) (a : Nat) : Int := if a % 2 = 0 then 1 else p - 1

theorem sgn_in {p : Int} (hp : 2 ≤ p ∧ p ≤ 251) (a : Nat) : 0 ≤ sgn p a ∧ sgn p a ≤ p - 1 := by
  unfold sgn; split <;> omega

def stJ (p : Int) (m : Mat) (W top left : Nat) (sg : Int) (i n : Nat) : St := (List.range n).map fun j => ((top + i) * W + left + j,m.2.2.2.1.getD (i * m.2.2.1.toNat + j) 0 * sg % p)
def stI (p : Int) (m : Mat) (W top left : Nat) (sg : Int) (n : Nat) : St := (List.range n).flatMap fun i => stJ p m W top left sg i m.2.2.1.toNat

/-- the stores of a simplex -/
noncomputable def stF (c : List Sim) (p : Int) (st : Sim) (ms : List Mat) (k : Int) (s n : Nat) : St :=
  (List.range n).flatMap fun a => stI p (mp c ms s a) (SD c st k).toNat (FC c st s).toNat (FC c st (fc c s a)).toNat (sgn p a) (mp c ms s a).2.1.toNat
/-- the stores of a degree -/
noncomputable def stS (c : List Sim) (p : Int) (st : Sim) (ms : List Mat) (k : Int) (n : Nat) : St :=
  ((ofDim c (k + 1) c.length).take n).flatMap fun s => stF c p st ms k s.toNat (fIdx c s.toNat).length

open Classical in
/-- the coboundary matrix -/
noncomputable def cobC (c : List Sim) (p : Int) (st : Sim) (ms : List Mat) (k : Int) : Sim :=
  if k < 0 then List.replicate ((SD c st (k + 1)).toNat * (SD c st k).toNat) 0 else upds (stS c p st ms k (ofDim c (k + 1) c.length).length) (List.replicate ((SD c st (k + 1)).toNat * (SD c st k).toNat) 0)
noncomputable def cobM (c : List Sim) (p : Int) (st : Sim) (ms : List Mat) (k : Int) : Mat := (p,SD c st (k + 1),SD c st k,cobC c p st ms k,())

theorem stJ_mem {p : Int} {m : Mat} {W top left : Nat} {sg : Int} {i n : Nat} {q : Nat × Int} : q ∈ stJ p m W top left sg i n ↔ ∃ j,j < n ∧ q = ((top + i) * W + left + j,m.2.2.2.1.getD (i * m.2.2.1.toNat + j) 0 * sg % p) := by
  unfold stJ
  rw [List.mem_map]
  constructor
  · rintro ⟨j,hj,rfl⟩; exact ⟨j,List.mem_range.1 hj,rfl⟩
  · rintro ⟨j,hj,rfl⟩; exact ⟨j,List.mem_range.2 hj,rfl⟩

theorem stF_mem {c : List Sim} {p : Int} {st : Sim} {ms : List Mat} {k : Int} {s n : Nat} {q : Nat × Int} : q ∈ stF c p st ms k s n ↔ ∃ a i j,a < n ∧ i < (mp c ms s a).2.1.toNat ∧ j < (mp c ms s a).2.2.1.toNat ∧
    q = (((FC c st s).toNat + i) * (SD c st k).toNat + (FC c st (fc c s a)).toNat + j,(mp c ms s a).2.2.2.1.getD (i * (mp c ms s a).2.2.1.toNat + j) 0 * sgn p a % p) := by
  unfold stF stI
  rw [List.mem_flatMap]
  constructor
  · rintro ⟨a,ha,h⟩
    obtain ⟨i,hi,h⟩ := List.mem_flatMap.1 h
    obtain ⟨j,hj,e⟩ := stJ_mem.1 h
    exact ⟨a,i,j,List.mem_range.1 ha,List.mem_range.1 hi,hj,e⟩
  · rintro ⟨a,i,j,ha,hi,hj,e⟩
    exact ⟨a,List.mem_range.2 ha,List.mem_flatMap.2 ⟨i,List.mem_range.2 hi,stJ_mem.2 ⟨j,hj,e⟩⟩⟩

theorem stS_mem {c : List Sim} {p : Int} {st : Sim} {ms : List Mat} {k : Int} {n : Nat} {q : Nat × Int} (hn : (ofDim c (k + 1) c.length).length ≤ n) : q ∈ stS c p st ms k n ↔ ∃ s : Nat,s < c.length ∧ ((c.getD s []).length : Int) = k + 2 ∧ q ∈ stF c p st ms k s (fIdx c s).length := by
  unfold stS
  rw [List.take_of_length_le hn,List.mem_flatMap]
  constructor
  · rintro ⟨x,hx,h⟩
    obtain ⟨s,rfl,h1,h2⟩ := ofDim_iff.1 hx
    exact ⟨s,h1,by omega,h⟩
  · rintro ⟨s,h1,h2,h⟩
    exact ⟨(s : Int),ofDim_iff.2 ⟨s,rfl,h1,by omega⟩,h⟩

/-- the sizes that the coboundary's places keep to -/
theorem cob_geo {c : List Sim} {p : Int} {st : Sim} {ms : List Mat} (h : VS c p st ms) {k : Int} {s a : Nat} (hs : s < c.length) (hd : ((c.getD s []).length : Int) = k + 2) (ha : a < (fIdx c s).length) :
    (mp c ms s a).2.1 = st.getD s 0 ∧ (mp c ms s a).2.2.1 = st.getD (fc c s a) 0 ∧ fc c s a < c.length ∧ ((c.getD (fc c s a) []).length : Int) = k + 1 ∧
    (0 ≤ FC c st s ∧ FC c st s + st.getD s 0 ≤ SD c st (k + 1)) ∧ 0 ≤ FC c st (fc c s a) ∧ FC c st (fc c s a) + st.getD (fc c s a) 0 ≤ SD c st k := by
  obtain ⟨_,hb⟩ := h.map hs ha
  obtain ⟨_,hf,hg⟩ := fc_get h.1 hs ha
  have hl := fIdx_length (c := c) (k := s)
  have hfl : ((c.getD (fc c s a) []).length : Int) = k + 1 := by
    rw [hg,List.length_eraseIdx]
    split at hl
    · rw [if_pos (by omega)]; omega
    · omega
  have b1 := FC_bound h.2.2.1.2.1 hs
  have b2 := FC_bound h.2.2.1.2.1 hf
  rw [show ((c.getD s []).length : Int) - 1 = k + 1 by omega] at b1
  rw [show ((c.getD (fc c s a) []).length : Int) - 1 = k by omega] at b2
  exact ⟨hb.2.2.1,hb.2.2.2,hf,hfl,b1,b2⟩

theorem SD_zero {c : List Sim} (hv : VC c) (st : Sim) {d : Int} (hd : d < 0 ∨ 4 ≤ d) : SD c st d = 0 := by
  have : ofDim c d c.length = [] := List.eq_nil_iff_forall_not_mem.2 fun x hx => by
    obtain ⟨i,_,hi,hl⟩ := ofDim_iff.1 hx
    have := hv.2.1 i hi
    have h1 := this.1
    have h2 := this.2.1
    omega
  rw [SD_eq,SDn,this]; rfl

theorem SD_nat {c : List Sim} {p : Int} {st : Sim} {ms : List Mat} (h : VS c p st ms) (d : Int) : ∃ n : Nat,SD c st d = (n : Int) ∧ n ≤ 32 ∧ (SD c st d).toNat = n := by
  by_cases hd : d < 0 ∨ 4 ≤ d
  · exact ⟨0,SD_zero h.1 st hd,by omega,by rw [SD_zero h.1 st hd]; rfl⟩
  · have := SD_bound h d.toNat (by omega)
    rw [Int.toNat_of_nonneg (by omega)] at this
    exact ⟨(SD c st d).toNat,by omega,by omega,rfl⟩

theorem cobC_length {c : List Sim} {p : Int} {st : Sim} {ms : List Mat} {k : Int} : (cobC c p st ms k).length = (SD c st (k + 1)).toNat * (SD c st k).toNat := by
  unfold cobC; split
  · rw [List.length_replicate]
  · rw [upds_length,List.length_replicate]

theorem rep_elems {n : Nat} {p : Int} (hp : 2 ≤ p) : Elems (List.replicate n 0) p := fun x hx => by
  rw [List.mem_replicate] at hx; omega

theorem cobC_elems {c : List Sim} {p : Int} {st : Sim} {ms : List Mat} (h : VS c p st ms) (k : Int) : Elems (cobC c p st ms k) p := by
  have hp := h.2.1.1
  unfold cobC; split
  · exact rep_elems hp
  · refine upds_elems (rep_elems hp) fun q hq => ?_
    obtain ⟨s,_,_,hq⟩ := (stS_mem (Nat.le_refl _)).1 hq
    obtain ⟨a,i,j,_,_,_,rfl⟩ := stF_mem.1 hq
    have h0 := Int.emod_nonneg ((mp c ms s a).2.2.2.1.getD (i * (mp c ms s a).2.2.1.toNat + j) 0 * sgn p a) (show p ≠ 0 by omega)
    have h1 := Int.emod_lt_of_pos ((mp c ms s a).2.2.2.1.getD (i * (mp c ms s a).2.2.1.toNat + j) 0 * sgn p a) (show 0 < p by omega)
    exact ⟨h0,by simp only; omega⟩

end VeT

open Go Go.Proofs Ve
set_option linter.unusedVariables false
set_option linter.unusedSimpArgs false
namespace VeT

theorem Index_ret (s : Sim) (v : Int) (hs : s.length ≤ 1048576) : Ret E n_Z125 [dL s,dI v] ⟨o_Z125,(idxf (fun x => pb (x = v)) s,())⟩ := by
  obtain ⟨o,h1,h2,h3⟩ := find_loop 1 (L := fun φ n k => Z125.l0 (mkR (run E (φ 0))) (φ 0) n s v (s.length : Int) k) (len := s.length) (fun k => ∃ h : k < s.length,pb (s[k] = v) = true) (fun o => some ⟨o_Z125,(o2i o,())⟩) (fun _ _ _ _ => rfl) (fun k hk hP => by
      obtain ⟨_,hP⟩ := hP
      have hP := pb_iff.1 hP
      simp only [Z125.l0_succ _ mk_ok]
      exact ev_t (decide_eq_true (by omega)) (ev_bind (idx_lt hk) (ev_t (by simp [hP]) ev_rfl))) (fun k q hk hP ih => by
      simp only [Z125.l0_succ _ mk_ok]
      refine ev_t (decide_eq_true (by omega)) (ev_bind (idx_lt hk) (ev_f (by simp only [beq_eq_false_iff_ne]; exact fun e => hP ⟨hk,pb_true e.symm⟩) ?_))
      rw [w64_succ (by omega)]; exact ih) (by
      simp only [Z125.l0_succ _ mk_ok]
      exact ev_f (decide_eq_false (by omega)) ev_rfl)
  rw [idxf_of (p := fun x => pb (x = v)) h1 h2] at h3
  refine ret_of ?_
  simp only [run_Z125,Z125.ev]
  exact Ev.start (p := fun φ n => Z125.l0 (mkR (run E (φ 0))) (φ 0) n s v (s.length : Int) 0 = _) 1 h3 (fun _ _ _ h => h)

theorem Contains_ret (s : Sim) (v : Int) (hs : s.length ≤ 1048576) : Ret E n_Z113 [dL s,dI v] ⟨o_Z113,(pb (v ∈ s),())⟩ := by
  refine ret_of ?_
  simp only [run_Z113,Z113.ev]
  refine ev_call (Index_ret s v hs) (ev_some ?_)
  have : decide (idxf (fun x => pb (x = v)) s ≥ 0) = pb (v ∈ s) := eq_pb (by
    rw [decide_eq_true_iff,ge_iff_le,idxf_nonneg]
    exact ⟨fun ⟨x,h,e⟩ => pb_iff.1 e ▸ h,fun h => ⟨v,h,pb_true rfl⟩⟩)
  simp only [this]

theorem l00Has_ret (s : Sim) (v : Int) (hs : s.length ≤ 1048576) : Ret E n_Z128 [dL s,dI v] ⟨o_Z128,(pb (v ∈ s),())⟩ := by
  obtain ⟨o,h1,h2,h3⟩ := find_loop 1 (L := fun φ n k => Z128.l0 (mkR (run E (φ 0))) (φ 0) n s v k) (len := s.length) (fun k => ∃ h : k < s.length,s[k] = v) (fun o => some ⟨o_Z128,(o.isSome,())⟩) (fun _ _ _ _ => rfl) (fun k hk hP => by
      obtain ⟨_,hP⟩ := hP
      simp only [Z128.l0_succ _ mk_ok]
      exact ev_t (decide_eq_true (by omega)) (ev_bind (idx_lt hk) (ev_t (by simp [hP]) ev_rfl))) (fun k q hk hP ih => by
      simp only [Z128.l0_succ _ mk_ok]
      refine ev_t (decide_eq_true (by omega)) (ev_bind (idx_lt hk) (ev_f (by simp only [beq_eq_false_iff_ne]; exact fun e => hP ⟨hk,e⟩) ?_))
      rw [w64_succ (by omega)]; exact ih) (by
      simp only [Z128.l0_succ _ mk_ok]
      exact ev_f (decide_eq_false (by omega)) ev_rfl)
  have : o.isSome = pb (v ∈ s) := eq_pb (by
    cases o with
    | none =>
      simp only [Option.isSome_none,Bool.false_eq_true,false_iff]
      intro hm
      obtain ⟨j,hj,e⟩ := List.mem_iff_getElem.1 hm
      exact h2 rfl j hj ⟨hj,e⟩
    | some k =>
      obtain ⟨_,⟨hk,e⟩,_⟩ := h1 k rfl
      simp only [Option.isSome_some,true_iff]
      exact e ▸ List.getElem_mem hk)
  rw [this] at h3
  refine ret_of ?_
  simp only [run_Z128,Z128.ev]
  exact Ev.start (p := fun φ n => Z128.l0 (mkR (run E (φ 0))) (φ 0) n s v 0 = _) 1 h3 (fun _ _ _ h => h)

end VeT

open Go Go.Proofs Ve
set_option linter.unusedVariables false
set_option linter.unusedSimpArgs false
namespace VeT

theorem zero_1_ret (i j : Nat) : Ret E n_Z74 [dI (i : Int),dI (j : Int)] ⟨o_Z74,((0 : Int),())⟩ := by
  refine ret_of ?_
  simp only [run_Z74,Z74.ev]
  (first | exact ev_rfl | exact Ev.of fun _ => trivial)

theorem flatF_zero {C : Nat} : ∀ {n : Nat},flatF (fun _ _ => 0) C n = List.replicate (n * C) 0
  | 0 => by simp [flatF]
  | n + 1 => by
    rw [flatF,flatF_zero,Nat.add_mul,Nat.one_mul,← List.replicate_append_replicate]
    congr 1
    rw [List.map_const',List.length_range]

theorem zero_ret (p : Int) (R C : Nat) (hR : R ≤ 32) (hC : C ≤ 32) : Ret E n_Z73 [dI p,dI (R : Int),dI (C : Int)] ⟨o_Z73,(p,(R : Int),(C : Int),List.replicate (R * C) 0,())⟩ := by
  have h1 := rc_le hR hC
  refine ret_of ?_
  simp only [run_Z73,Z73.ev]
  rw [← flatF_zero]
  exact ev_call (filled_impl_zero_1_ret p R C (fun _ _ => 0) (by omega) (by omega) (by omega) fun i j _ _ => zero_1_ret i j) ev_rfl

theorem firstColumn_ret (c : List Sim) (p : Int) (st : Sim) (ms : List Mat) (s : Nat) (hs : s < c.length) (hc : Sm (.sl (.sl (.int .i64))) c) (hl : st.length = c.length) (hst : ∀ x ∈ st,0 ≤ x ∧ x ≤ 3) :
    Ret E n_Z42 [dLL c,dI p,dL st,dMs ms,dI (s : Int)] ⟨o_Z42,(FC c st s,())⟩ := by
  have hc1 : c.length ≤ 1048576 := hc.1
  have hls : (c[s]).length ≤ 1048576 := (sm_get hc hs).1
  have e : w64 (((c[s]).length : Int) - 1) = ((c[s]).length : Int) - 1 := w64_small (by omega) (by omega)
  obtain ⟨tl,hpre⟩ := ofDim_pre (c := c) (d := ((c[s]).length : Int) - 1) hs (by rw [getD_lt hs]; omega)
  have hF : FC c st s = SDn c st (((c[s]).length : Int) - 1) s := by rw [FC,getD_lt hs]
  refine ret_of ?_
  simp only [run_Z42,Z42.ev]
  refine ev_bind (idx_lt hs) (ev_call (sizeI_ret _) ?_)
  simp only [e]
  refine ev_call (simplicesOf_ret c (((c[s]).length : Int) - 1) hc ⟨by omega,by omega⟩) ?_
  rw [hF]
  generalize ((c[s]).length : Int) - 1 = d at hpre ⊢
  have hol := ofDim_length c d c.length
  have hlen : (ofDim c d s).length < (ofDim c d c.length).length := by rw [hpre]; simp
  refine Ev.start (p := fun φ n => Z42.l0 (mkR (run E (φ 0))) (φ 0) n (s : Int) 0 (ofDim c d c.length) ((ofDim c d c.length).length : Int) 0 c p st ms = _) 1 ?_ (fun _ _ _ h => h)
  refine loopR 1 (σ := Nat) (L := fun φ n t => Z42.l0 (mkR (run E (φ 0))) (φ 0) n (s : Int) (sumD c st d t) (ofDim c d c.length) ((ofDim c d c.length).length : Int) (t : Int) c p st ms) (fun _ _ _ _ => rfl) (fun t => t ≤ (ofDim c d s).length) (fun _ => _) (fun t => (ofDim c d s).length - t) (fun t ht ih => ?_) 0 (Nat.zero_le _)
  have ht : t ≤ (ofDim c d s).length := ht
  have htl : t < (ofDim c d c.length).length := by omega
  simp only [Z42.l0_succ _ mk_ok]
  refine ev_t (decide_eq_true (by omega)) ?_
  by_cases h : t = (ofDim c d s).length
  · have hg : (ofDim c d c.length)[t]? = some (s : Int) := by rw [hpre,h,List.getElem?_append_right (Nat.le_refl _),Nat.sub_self]; rfl
    refine ev_bind (idx_nat.trans hg) (ev_t (by simp) (ev_some ?_))
    have : sumD c st d t = SDn c st d s := by
      unfold sumD SDn
      rw [hpre,h,List.take_left' rfl]
    rw [this]
  · have hp : t < (ofDim c d s).length := by omega
    obtain ⟨i,hi,his⟩ := ofDim_mem (List.getElem_mem hp)
    have hg : (ofDim c d c.length)[t]? = some (i : Int) := by rw [hpre,List.getElem?_append_left hp,List.getElem?_eq_getElem hp,hi]
    have hgi : (ofDim c d c.length)[t] = (i : Int) := by rw [List.getElem?_eq_getElem htl] at hg; exact Option.some.inj hg
    have hil : i < st.length := by omega
    have := ih (t + 1) (by show t + 1 ≤ _; omega) (by show (ofDim c d s).length - (t + 1) < (ofDim c d s).length - t; omega)
    rw [sumD_succ _ _ _ _ htl,hgi,Int.toNat_natCast,getD_lt hil] at this
    have hb := sumD_le hst d t (c := c)
    have hb2 := hst _ (List.getElem_mem hil)
    refine ev_bind (idx_nat.trans hg) (ev_f (by simp; omega) (ev_bind (idx_lt hil) ?_))
    rw [w64_succ (by omega),w64_small (by omega) (by omega)]
    exact this

theorem l11At_ret (x : Shf) (s : Nat) (hs : s < x.1.length) (hc : Sm (.sl (.sl (.int .i64))) x.1) (hl : x.2.2.1.length = x.1.length) (hst : ∀ y ∈ x.2.2.1,0 ≤ y ∧ y ≤ 3) :
    Ret E n_Z168 [dS x,dI (s : Int)] ⟨o_Z168,(FC x.1 x.2.2.1 s,())⟩ := by
  have hc1 : x.1.length ≤ 1048576 := hc.1
  refine ret_of ?_
  simp only [run_Z168,Z168.ev]
  refine Ev.start (p := fun φ n => Z168.l0 (mkR (run E (φ 0))) (φ 0) n x (s : Int) 0 0 = _) 1 ?_ (fun _ _ _ h => h)
  refine fold_loop 1 (L := fun φ n k a => Z168.l0 (mkR (run E (φ 0))) (φ 0) n x (s : Int) a k) (len := s) (fun k => SDn x.1 x.2.2.1 (((x.1.getD s []).length : Int) - 1) k) (fun _ _ _ _ _ => rfl) (fun k r hk ih => ?_) ?_
  · have hkc : k < x.1.length := by omega
    have hks : k < x.2.2.1.length := by omega
    simp only [Z168.l0_succ _ mk_ok]
    have hb := SDn_nn (c := x.1) (d := ((x.1.getD s []).length : Int) - 1) hst (n := k)
    have hb2 := hst _ (List.getElem_mem hks)
    rw [SDn_succ,getD_lt hkc,getD_lt hks,getD_lt hs] at ih
    rw [getD_lt hs] at hb
    rw [w64_succ (by omega)]
    refine ev_t (decide_eq_true (by omega)) (ev_bind (idx_lt hkc) (ev_bind (idx_lt hs) (ev_b (fun he => ev_bind (idx_lt hks) ?_) fun he => ?_)))
    · have he : ((x.1[k]).length : Int) = ((x.1[s]).length : Int) := by simpa using he
      rw [if_pos (by omega)] at ih
      rw [getD_lt hs,w64_small (by omega) (by omega)]; exact ih
    · have he : ¬ ((x.1[k]).length : Int) = ((x.1[s]).length : Int) := by simpa using he
      rw [if_neg (by omega),Int.add_zero] at ih
      rw [getD_lt hs]; exact ih
  · simp only [Z168.l0_succ _ mk_ok]
    exact ev_f (decide_eq_false (by omega)) ev_rfl

theorem alternating_ret (p : Int) (i : Nat) (hp : 2 ≤ p ∧ p ≤ 251) : Ret E n_Z18 [dI (i : Int),dI p] ⟨o_Z18,(sgn p i,())⟩ := by
  refine ret_of ?_
  simp only [run_Z18,Z18.ev]
  rw [Int.tmod_eq_emod_of_nonneg (by omega),w64_small (by omega) (by omega)]
  refine ev_b (fun h => ev_some ?_) fun h => ev_some ?_
  · have h : (i : Int) % 2 = 0 := by simpa using h
    rw [sgn,if_pos (by omega)]
  · have h : ¬ (i : Int) % 2 = 0 := by simpa using h
    rw [sgn,if_neg (by omega)]

theorem l07Sign_ret (p : Int) (i : Nat) (hp : 2 ≤ p ∧ p ≤ 251) : Ret E n_Z154 [dI (i : Int),dI p] ⟨o_Z154,(sgn p i,())⟩ := by
  refine ret_of ?_
  simp only [run_Z154,Z154.ev]
  rw [Int.tmod_eq_emod_of_nonneg (by omega),w64_small (by omega) (by omega)]
  refine ev_b (fun h => ev_chk (by simp; omega) (ev_some ?_)) fun h => ev_some ?_
  · have h : (i : Int) % 2 = 0 := by simpa using h
    rw [sgn,if_pos (by omega),Int.tmod_eq_emod_of_nonneg (by omega),Int.emod_eq_of_lt (by omega) (by omega)]
  · have h : ¬ (i : Int) % 2 = 0 := by simpa using h
    rw [sgn,if_neg (by omega)]

theorem stJ_succ {p : Int} {m : Mat} {W top left : Nat} {sg : Int} {i n : Nat} {cs : Sim} : upds (stJ p m W top left sg i (n + 1)) cs = (upds (stJ p m W top left sg i n) cs).set ((top + i) * W + left + n) (m.2.2.2.1.getD (i * m.2.2.1.toNat + n) 0 * sg % p) := by
  unfold stJ
  rw [List.range_succ,List.map_append,upds_append]; rfl

theorem stI_succ {p : Int} {m : Mat} {W top left : Nat} {sg : Int} {n : Nat} {cs : Sim} : upds (stI p m W top left sg (n + 1)) cs = upds (stJ p m W top left sg n m.2.2.1.toNat) (upds (stI p m W top left sg n) cs) := by
  unfold stI
  rw [List.range_succ,List.flatMap_append,upds_append,List.flatMap_singleton]

theorem stF_succ {c : List Sim} {p : Int} {st : Sim} {ms : List Mat} {k : Int} {s n : Nat} {cs : Sim} : upds (stF c p st ms k s (n + 1)) cs = upds (stI p (mp c ms s n) (SD c st k).toNat (FC c st s).toNat (FC c st (fc c s n)).toNat (sgn p n) (mp c ms s n).2.1.toNat) (upds (stF c p st ms k s n) cs) := by
  unfold stF
  rw [List.range_succ,List.flatMap_append,upds_append,List.flatMap_singleton]

theorem stS_succ {c : List Sim} {p : Int} {st : Sim} {ms : List Mat} {k : Int} {n : Nat} {cs : Sim} (hn : n < (ofDim c (k + 1) c.length).length) {s : Nat} (hs : (ofDim c (k + 1) c.length)[n] = (s : Int)) : upds (stS c p st ms k (n + 1)) cs = upds (stF c p st ms k s (fIdx c s).length) (upds (stS c p st ms k n) cs) := by
  unfold stS
  rw [List.take_succ_eq_append_getElem hn,List.flatMap_append,upds_append,List.flatMap_singleton,hs,Int.toNat_natCast]

end VeT

open Go Go.Proofs Ve
set_option linter.unusedVariables false
set_option linter.unusedSimpArgs false
namespace VeT

/-- what the stores of a simplex' face need -/
structure CobF (c : List Sim) (p : Int) (st : Sim) (ms : List Mat) (k : Int) (s a T L R C H W : Nat) : Prop where
  sl : s < c.length
  al : a < (fIdx c s).length
  eT : FC c st s = (T : Int)
  eL : FC c st (fc c s a) = (L : Int)
  eR : (mp c ms s a).2.1 = (R : Int)
  eC : (mp c ms s a).2.2.1 = (C : Int)
  eW : SD c st k = (W : Int)
  hT : T + R ≤ H
  hL : L + C ≤ W
  hH : H ≤ 32
  hW : W ≤ 32
  len : (mp c ms s a).2.2.2.1.length = R * C
  el : Elems (mp c ms s a).2.2.2.1 p
  hp : 2 ≤ p ∧ p ≤ 251
  hR : R ≤ 32
  hC : C ≤ 32
  h4 : a ≤ 4

theorem cobF_of {c : List Sim} {p : Int} {st : Sim} {ms : List Mat} (h : VS c p st ms) {k : Int} {s a H W : Nat} (hs : s < c.length) (hd : ((c.getD s []).length : Int) = k + 2) (ha : a < (fIdx c s).length) (eH : SD c st (k + 1) = (H : Int)) (eW : SD c st k = (W : Int)) (hH : H ≤ 32) (hW : W ≤ 32) :
    ∃ T L R C : Nat,CobF c p st ms k s a T L R C H W := by
  obtain ⟨g1,g2,g3,g4,g5,g6,g7⟩ := cob_geo h hs hd ha
  obtain ⟨_,hb⟩ := h.map hs ha
  obtain ⟨R,C,em,hR,hC,hlen⟩ := hb.1.nat
  have e1 : (mp c ms s a).2.1 = (R : Int) := congrArg (fun m : Mat => m.2.1) em
  have e2 : (mp c ms s a).2.2.1 = (C : Int) := congrArg (fun m : Mat => m.2.2.1) em
  have hp : 2 ≤ p ∧ p ≤ 251 := ⟨h.2.1.1,h.2.1.2.1⟩
  have el := hb.1.2.2.2.2
  rw [hb.2.1] at el
  have h4 := h.1.fIdx4 hs
  exact ⟨(FC c st s).toNat,(FC c st (fc c s a)).toNat,R,C,hs,ha,by omega,by omega,e1,e2,eW,by omega,by omega,hH,hW,hlen,el,hp,hR,hC,by omega⟩

theorem pos_eq {T L i j W H : Nat} (h1 : T + i < H) (h2 : L + j < W) (hH : H ≤ 32) (hW : W ≤ 32) : w64 (w64 (w64 (w64 ((T : Int) + (i : Int)) * (W : Int)) + (L : Int)) + (j : Int)) = (((T + i) * W + L + j : Nat) : Int) ∧ (T + i) * W + L + j < H * W := by
  have hlt := lt_rc h1 h2
  have := rc_le hH hW
  have e1 : w64 ((T : Int) + (i : Int)) = ((T + i : Nat) : Int) := by rw [w64_small (by omega) (by omega)]; omega
  have e2 : w64 (((T + i : Nat) : Int) * (W : Int)) = (((T + i) * W : Nat) : Int) := by rw [cast_mul]; exact w64_small (by omega) (by omega)
  have e3 : w64 ((((T + i) * W : Nat) : Int) + (L : Int)) = (((T + i) * W + L : Nat) : Int) := by rw [w64_small (by omega) (by omega)]; omega
  have e4 : w64 ((((T + i) * W + L : Nat) : Int) + (j : Int)) = (((T + i) * W + L + j : Nat) : Int) := by rw [w64_small (by omega) (by omega)]; omega
  rw [e1,e2,e3,e4]
  exact ⟨rfl,by omega⟩

theorem val_eq {x y p : Int} (hx : 0 ≤ x ∧ x ≤ 250) (hy : 0 ≤ y ∧ y ≤ 250) (hp : 2 ≤ p ∧ p ≤ 251) : Int.tmod (w64 (x * y)) p = x * y % p := by
  have := mul_in hx hy
  rw [w64_small (by omega) (by omega),Int.tmod_eq_emod_of_nonneg (by omega)]

theorem coboundaryMatrix_ret (c : List Sim) (p : Int) (st : Sim) (ms : List Mat) (k : Int) (hk : -1 ≤ k ∧ k ≤ 3) (hc : Sm (.sl (.sl (.int .i64))) c) (h : VS c p st ms) :
    Ret E n_Z25 [dLL c,dI p,dL st,dMs ms,dI k] ⟨o_Z25,cobM c p st ms k⟩ := by
  obtain ⟨H,eH,bH,tH⟩ := SD_nat h (k + 1)
  obtain ⟨W,eW,bW,tW⟩ := SD_nat h k
  have hst := h.2.2.1.2.1
  have hl := h.2.2.1.1
  have h48 := h.1.1
  have ek : w64 (k + 1) = k + 1 := w64_small (by omega) (by omega)
  have hHW := rc_le bH bW
  have s1 := stalkSum_ret c st (k + 1) p ms hc hl hst (by omega)
  have s2 := stalkSum_ret c st k p ms hc hl hst (by omega)
  rw [show sumD c st (k + 1) (ofDim c (k + 1) c.length).length = (H : Int) from eH] at s1
  rw [show sumD c st k (ofDim c k c.length).length = (W : Int) from eW] at s2
  have z := zero_ret p H W bH bW
  have hM : cobM c p st ms k = (p,(H : Int),(W : Int),cobC c p st ms k,()) := by rw [cobM,eH,eW]
  rw [hM]
  refine ret_of ?_
  simp only [run_Z25,Z25.ev,ek]
  suffices hmain : Ev fun φ => Z25.j0 (mkR (run E (φ 0))) (φ 0) k c p st ms 0 0 0 p (H : Int) (W : Int) (List.replicate (H * W) 0) = some ⟨o_Z25,(p,(H : Int),(W : Int),cobC c p st ms k,())⟩ by
    exact ev_both (ev_call s1 (ev_both (ev_call s2 (ev_both (ev_call z hmain) (ev_call z hmain))) (ev_call s2 (ev_call z hmain)))) (ev_call s1 (ev_call s2 (ev_call z hmain)))
  simp only [Z25.j0_eq _ mk_ok,ek]
  refine ev_call (simplicesOf_ret c (k + 1) hc (by omega)) ?_
  have hol := ofDim_length c (k + 1) c.length
  by_cases hk0 : k < 0
  · have e0 : cobC c p st ms k = List.replicate (H * W) 0 := by rw [cobC,if_pos hk0,tH,tW]
    rw [e0]
    refine Ev.start (p := fun φ n => Z25.l1 (mkR (run E (φ 0))) (φ 0) n k (ofDim c (k + 1) c.length) ((ofDim c (k + 1) c.length).length : Int) 0 c p st ms 0 0 0 p (H : Int) (W : Int) (List.replicate (H * W) 0) = _) 1 ?_ (fun _ _ _ h => h)
    refine Ev.round 1 (L := fun φ n => Z25.l1 (mkR (run E (φ 0))) (φ 0) n k (ofDim c (k + 1) c.length) ((ofDim c (k + 1) c.length).length : Int) 0 c p st ms 0 0 0 p (H : Int) (W : Int) (List.replicate (H * W) 0)) ?_ (fun _ _ _ => rfl)
    simp only [Z25.l1_succ _ mk_ok,Z25.j2_eq _ mk_ok]
    refine ev_d (fun hlt => ?_) fun _ => ev_rfl
    have hlt : 0 < (ofDim c (k + 1) c.length).length := by omega
    exact ev_bind (idx_lt (k := 0) hlt) (ev_t (decide_eq_true hk0) ev_rfl)
  have e0 : cobC c p st ms k = upds (stS c p st ms k (ofDim c (k + 1) c.length).length) (List.replicate (H * W) 0) := by rw [cobC,if_neg hk0,tH,tW]
  rw [e0]
  -- one row of a face' stores
  have r5 : ∀ (s a T L R C i : Nat) (F : CobF c p st ms k s a T L R C H W) (t : Nat) (ls : Sim) (n1 : Int) (fs : Sim) (n2 : Int) (cs : Sim) (hcs : cs.length = H * W) (hi : i < R) (r : Option Dv),
      (Ev fun φ => Z25.l4 (mkR (run E (φ 0))) (φ 0) (φ 1) (φ 2) (φ 3) k (s : Int) (a : Int) (T : Int) (L : Int) ls n1 (t : Int) fs n2 (a : Int) (R : Int) ((i + 1 : Nat) : Int) c p st ms 0 0 0 p (H : Int) (W : Int) (mp c ms s a).1 (R : Int) (C : Int) (mp c ms s a).2.2.2.1 (upds (stJ p (mp c ms s a) W T L (sgn p a) i C) cs) = r) →
      Ev fun φ => Z25.l5 (mkR (run E (φ 0))) (φ 0) (φ 1) (φ 2) (φ 3) (φ 0) k (s : Int) (a : Int) (T : Int) (L : Int) (i : Int) ls n1 (t : Int) fs n2 (a : Int) (R : Int) (i : Int) (C : Int) 0 c p st ms 0 0 0 p (H : Int) (W : Int) (mp c ms s a).1 (R : Int) (C : Int) (mp c ms s a).2.2.2.1 cs = r := by
    intro s a T L R C i F t ls n1 fs n2 cs hcs hi r hr
    refine Ev.start (p := fun φ n => Z25.l5 (mkR (run E (φ 0))) (φ 0) (φ 1) (φ 2) (φ 3) n k (s : Int) (a : Int) (T : Int) (L : Int) (i : Int) ls n1 (t : Int) fs n2 (a : Int) (R : Int) (i : Int) (C : Int) 0 c p st ms 0 0 0 p (H : Int) (W : Int) (mp c ms s a).1 (R : Int) (C : Int) (mp c ms s a).2.2.2.1 cs = _) 4 ?_ (fun _ _ _ h => h)
    refine fold_loop 4 (L := fun φ n j o => Z25.l5 (mkR (run E (φ 0))) (φ 0) (φ 1) (φ 2) (φ 3) n k (s : Int) (a : Int) (T : Int) (L : Int) (i : Int) ls n1 (t : Int) fs n2 (a : Int) (R : Int) (i : Int) (C : Int) j c p st ms 0 0 0 p (H : Int) (W : Int) (mp c ms s a).1 (R : Int) (C : Int) (mp c ms s a).2.2.2.1 o) (len := C) (fun j => upds (stJ p (mp c ms s a) W T L (sgn p a) i j) cs) (fun _ _ _ _ _ => rfl) (fun j q hj ih => ?_) ?_
    · simp only [Z25.l5_succ _ mk_ok]
      have hT := F.hT
      have hL := F.hL
      have hp := F.hp
      obtain ⟨ep,hpos⟩ := pos_eq (T := T) (L := L) (i := i) (j := j) (W := W) (H := H) (by omega) (by omega) bH bW
      have hij : i * C + j < (mp c ms s a).2.2.2.1.length := by rw [F.len]; exact lt_rc hi hj
      have hRC := rc_le F.hR F.hC
      have hx := F.el.get hp (i * C + j)
      have hy := sgn_in hp a
      rw [stJ_succ,F.eC,Int.toNat_natCast,getD_lt hij] at ih
      rw [getD_lt hij] at hx
      have hol' : (upds (stJ p (mp c ms s a) W T L (sgn p a) i j) cs).length = H * W := by rw [upds_length,hcs]
      have ev := val_eq hx (show 0 ≤ sgn p a ∧ sgn p a ≤ 250 by omega) hp
      refine ev_t (decide_eq_true (by omega)) (ev_call (Mat_at_ret _ _ C _ i j hij (by rw [F.len]; omega)) (ev_call (alternating_ret p a hp) (ev_chk (by simp; omega) ?_)))
      simp only [ep,ev,hol',Int.toNat_natCast]
      refine ev_chk (by simp only [Bool.and_eq_true,decide_eq_true_eq]; omega) ?_
      rw [w64_succ (by omega)]
      exact ih
    · simp only [Z25.l5_succ _ mk_ok]
      have := F.hR
      refine ev_f (decide_eq_false (by omega)) ?_
      rw [w64_succ (by omega)]
      exact hr
  -- a face' stores
  have r4 : ∀ (s a T L R C : Nat) (F : CobF c p st ms k s a T L R C H W) (t : Nat) (ls : Sim) (n1 : Int) (fs : Sim) (n2 : Int) (cs : Sim) (hcs : cs.length = H * W) (r : Option Dv),
      (Ev fun φ => Z25.l3 (mkR (run E (φ 0))) (φ 0) (φ 1) (φ 2) k (s : Int) ls n1 (t : Int) fs n2 ((a + 1 : Nat) : Int) c p st ms 0 0 0 p (H : Int) (W : Int) (upds (stI p (mp c ms s a) W T L (sgn p a) R) cs) = r) →
      Ev fun φ => Z25.l4 (mkR (run E (φ 0))) (φ 0) (φ 1) (φ 2) (φ 0) k (s : Int) (a : Int) (T : Int) (L : Int) ls n1 (t : Int) fs n2 (a : Int) (R : Int) 0 c p st ms 0 0 0 p (H : Int) (W : Int) (mp c ms s a).1 (R : Int) (C : Int) (mp c ms s a).2.2.2.1 cs = r := by
    intro s a T L R C F t ls n1 fs n2 cs hcs r hr
    refine Ev.start (p := fun φ n => Z25.l4 (mkR (run E (φ 0))) (φ 0) (φ 1) (φ 2) n k (s : Int) (a : Int) (T : Int) (L : Int) ls n1 (t : Int) fs n2 (a : Int) (R : Int) 0 c p st ms 0 0 0 p (H : Int) (W : Int) (mp c ms s a).1 (R : Int) (C : Int) (mp c ms s a).2.2.2.1 cs = _) 3 ?_ (fun _ _ _ h => h)
    refine fold_loop 3 (L := fun φ n i o => Z25.l4 (mkR (run E (φ 0))) (φ 0) (φ 1) (φ 2) n k (s : Int) (a : Int) (T : Int) (L : Int) ls n1 (t : Int) fs n2 (a : Int) (R : Int) i c p st ms 0 0 0 p (H : Int) (W : Int) (mp c ms s a).1 (R : Int) (C : Int) (mp c ms s a).2.2.2.1 o) (len := R) (fun i => upds (stI p (mp c ms s a) W T L (sgn p a) i) cs) (fun _ _ _ _ _ => rfl) (fun i q hi ih => ?_) ?_
    · simp only [Z25.l4_succ _ mk_ok]
      rw [stI_succ,F.eC,Int.toNat_natCast] at ih
      exact ev_t (decide_eq_true (by omega)) (r5 s a T L R C i F t ls n1 fs n2 _ (by rw [upds_length,hcs]) hi q ih)
    · simp only [Z25.l4_succ _ mk_ok]
      have := F.h4
      refine ev_f (decide_eq_false (by omega)) ?_
      rw [w64_succ (by omega)]
      exact hr
  refine Ev.start (p := fun φ n => Z25.l1 (mkR (run E (φ 0))) (φ 0) n k (ofDim c (k + 1) c.length) ((ofDim c (k + 1) c.length).length : Int) 0 c p st ms 0 0 0 p (H : Int) (W : Int) (List.replicate (H * W) 0) = _) 1 ?_ (fun _ _ _ h => h)
  refine fold_loop 1 (L := fun φ n t o => Z25.l1 (mkR (run E (φ 0))) (φ 0) n k (ofDim c (k + 1) c.length) ((ofDim c (k + 1) c.length).length : Int) t c p st ms 0 0 0 p (H : Int) (W : Int) o) (len := (ofDim c (k + 1) c.length).length) (fun t => upds (stS c p st ms k t) (List.replicate (H * W) 0)) (fun _ _ _ _ _ => rfl) (fun t q ht ih => ?_) ?_
  · simp only [Z25.l1_succ _ mk_ok]
    obtain ⟨s,hse,hs,hd⟩ := ofDim_iff.1 (List.getElem_mem ht)
    rw [stS_succ ht hse] at ih
    have hg : (ofDim c (k + 1) c.length)[t]? = some (s : Int) := by rw [List.getElem?_eq_getElem ht,hse]
    have hf4 := h.1.fIdx4 hs
    generalize hO : upds (stS c p st ms k t) (List.replicate (H * W) 0) = O at ih ⊢
    have hOl : O.length = H * W := by rw [← hO,upds_length,List.length_replicate]
    refine ev_t (decide_eq_true (by omega)) (ev_bind (idx_nat.trans hg) (ev_f (decide_eq_false hk0) (ev_call (faceIndices_ret c s hs hc h.1.srt) ?_)))
    refine Ev.start (p := fun φ n => Z25.l3 (mkR (run E (φ 0))) (φ 0) (φ 1) n k (s : Int) (ofDim c (k + 1) c.length) ((ofDim c (k + 1) c.length).length : Int) (t : Int) (fIdx c s) ((fIdx c s).length : Int) 0 c p st ms 0 0 0 p (H : Int) (W : Int) O = _) 2 ?_ (fun _ _ _ h => h)
    refine fold_loop 2 (L := fun φ n a o => Z25.l3 (mkR (run E (φ 0))) (φ 0) (φ 1) n k (s : Int) (ofDim c (k + 1) c.length) ((ofDim c (k + 1) c.length).length : Int) (t : Int) (fIdx c s) ((fIdx c s).length : Int) a c p st ms 0 0 0 p (H : Int) (W : Int) o) (len := (fIdx c s).length) (fun a => upds (stF c p st ms k s a) O) (fun _ _ _ _ _ => rfl) (fun a q2 ha ih2 => ?_) ?_
    · simp only [Z25.l3_succ _ mk_ok]
      obtain ⟨T,L,R,C,F⟩ := cobF_of h hs (by omega) ha eH eW bH bW
      obtain ⟨ix,hfc,_⟩ := fc_get h.1 hs ha
      have f1 := firstColumn_ret c p st ms s hs hc hl hst
      have f2 := firstColumn_ret c p st ms (fc c s a) hfc hc hl hst
      rw [F.eT] at f1
      rw [F.eL] at f2
      rw [stF_succ,tW,F.eT,F.eL,F.eR,Int.toNat_natCast,Int.toNat_natCast,Int.toNat_natCast] at ih2
      refine ev_t (decide_eq_true (by omega)) (ev_bind ix (ev_call (direct_ret c p st ms s a hs ha h) (ev_call f1 (ev_call f2 ?_))))
      simp only [F.eR,F.eC]
      exact r4 s a T L R C F t _ _ _ _ _ (by rw [upds_length,hOl]) q2 ih2
    · simp only [Z25.l3_succ _ mk_ok]
      refine ev_f (decide_eq_false (by omega)) ?_
      rw [w64_succ (by omega)]
      exact ih
  · simp only [Z25.l1_succ _ mk_ok,Z25.j2_eq _ mk_ok]
    exact ev_f (decide_eq_false (by omega)) ev_rfl

end VeT

open Go Go.Proofs Ve
set_option linter.unusedVariables false
set_option linter.unusedSimpArgs false
namespace VeT

theorem l11Matrix_ret (x : Shf) (k : Int) (hk : -1 ≤ k ∧ k ≤ 3) (hc : Sm (.sl (.sl (.int .i64))) x.1) (h : VS x.1 x.2.1 x.2.2.1 x.2.2.2.1) :
    Ret E n_Z170 [dS x,dI k] ⟨o_Z170,cobM x.1 x.2.1 x.2.2.1 x.2.2.2.1 k⟩ := by
  obtain ⟨c,p,st,ms,⟨⟩⟩ := x
  have hc : Sm (.sl (.sl (.int .i64))) c := hc
  have h : VS c p st ms := h
  show Ret E n_Z170 [dS (c,p,st,ms,()),dI k] ⟨o_Z170,cobM c p st ms k⟩
  obtain ⟨H,eH,bH,tH⟩ := SD_nat h (k + 1)
  obtain ⟨W,eW,bW,tW⟩ := SD_nat h k
  have hst := h.2.2.1.2.1
  have hl := h.2.2.1.1
  have h48 := h.1.1
  have ek : w64 (k + 1) = k + 1 := w64_small (by omega) (by omega)
  have hHW := rc_le bH bW
  have s1 := l09Sum_ret c st (k + 1) hc hl hst (by omega)
  have s2 := l09Sum_ret c st k hc hl hst (by omega)
  rw [show sumD c st (k + 1) (ofDim c (k + 1) c.length).length = (H : Int) from eH] at s1
  rw [show sumD c st k (ofDim c k c.length).length = (W : Int) from eW] at s2
  have z := l03Zero_ret p H W bH bW
  have hM : cobM c p st ms k = (p,(H : Int),(W : Int),cobC c p st ms k,()) := by rw [cobM,eH,eW]
  rw [hM]
  refine ret_of ?_
  simp only [run_Z170,Z170.ev,ek]
  suffices hmain : Ev fun φ => Z170.j0 (mkR (run E (φ 0))) (φ 0) (c,p,st,ms,()) k 0 0 0 p (H : Int) (W : Int) (List.replicate (H * W) 0) = some ⟨o_Z170,(p,(H : Int),(W : Int),cobC c p st ms k,())⟩ by
    exact ev_both (ev_call s1 (ev_both (ev_call s2 (ev_both (ev_call z hmain) (ev_call z hmain))) (ev_call s2 (ev_call z hmain)))) (ev_call s1 (ev_call s2 (ev_call z hmain)))
  simp only [Z170.j0_eq _ mk_ok,ek]
  refine ev_call (l05Of_ret c (k + 1) hc (by omega)) ?_
  have hol := ofDim_length c (k + 1) c.length
  by_cases hk0 : k < 0
  · have e0 : cobC c p st ms k = List.replicate (H * W) 0 := by rw [cobC,if_pos hk0,tH,tW]
    rw [e0]
    refine Ev.start (p := fun φ n => Z170.l1 (mkR (run E (φ 0))) (φ 0) n (c,p,st,ms,()) k (ofDim c (k + 1) c.length) 0 0 0 0 p (H : Int) (W : Int) (List.replicate (H * W) 0) = _) 1 ?_ (fun _ _ _ h => h)
    refine Ev.round 1 (L := fun φ n => Z170.l1 (mkR (run E (φ 0))) (φ 0) n (c,p,st,ms,()) k (ofDim c (k + 1) c.length) 0 0 0 0 p (H : Int) (W : Int) (List.replicate (H * W) 0)) ?_ (fun _ _ _ => rfl)
    simp only [Z170.l1_succ _ mk_ok,Z170.j2_eq _ mk_ok,show decide (k ≥ 0) = false from decide_eq_false (by omega),cond_false]
    exact ev_d (fun _ => ev_rfl) fun _ => ev_rfl
  have e0 : cobC c p st ms k = upds (stS c p st ms k (ofDim c (k + 1) c.length).length) (List.replicate (H * W) 0) := by rw [cobC,if_neg hk0,tH,tW]
  rw [e0]
  -- one row of a face' stores
  have r5 : ∀ (s a T L R C i : Nat) (F : CobF c p st ms k s a T L R C H W) (t : Nat) (ls : Sim) (fs : Sim) (cs : Sim) (hcs : cs.length = H * W) (hi : i < R) (r : Option Dv),
      (Ev fun φ => Z170.l4 (mkR (run E (φ 0))) (φ 0) (φ 1) (φ 2) (φ 3) (c,p,st,ms,()) k ls (t : Int) fs (T : Int) (a : Int) (mp c ms s a) (L : Int) (sgn p a) ((i + 1 : Nat) : Int) 0 0 0 p (H : Int) (W : Int) (upds (stJ p (mp c ms s a) W T L (sgn p a) i C) cs) = r) →
      Ev fun φ => Z170.l5 (mkR (run E (φ 0))) (φ 0) (φ 1) (φ 2) (φ 3) (φ 0) (c,p,st,ms,()) k ls (t : Int) fs (T : Int) (a : Int) (mp c ms s a) (L : Int) (sgn p a) (i : Int) 0 0 0 0 p (H : Int) (W : Int) cs = r := by
    intro s a T L R C i F t ls fs cs hcs hi r hr
    refine Ev.start (p := fun φ n => Z170.l5 (mkR (run E (φ 0))) (φ 0) (φ 1) (φ 2) (φ 3) n (c,p,st,ms,()) k ls (t : Int) fs (T : Int) (a : Int) (mp c ms s a) (L : Int) (sgn p a) (i : Int) 0 0 0 0 p (H : Int) (W : Int) cs = _) 4 ?_ (fun _ _ _ h => h)
    refine fold_loop 4 (L := fun φ n j o => Z170.l5 (mkR (run E (φ 0))) (φ 0) (φ 1) (φ 2) (φ 3) n (c,p,st,ms,()) k ls (t : Int) fs (T : Int) (a : Int) (mp c ms s a) (L : Int) (sgn p a) (i : Int) j 0 0 0 p (H : Int) (W : Int) o) (len := C) (fun j => upds (stJ p (mp c ms s a) W T L (sgn p a) i j) cs) (fun _ _ _ _ _ => rfl) (fun j q hj ih => ?_) ?_
    · simp only [Z170.l5_succ _ mk_ok]
      have hT := F.hT
      have hL := F.hL
      have hp := F.hp
      obtain ⟨ep,hpos⟩ := pos_eq (T := T) (L := L) (i := i) (j := j) (W := W) (H := H) (by omega) (by omega) bH bW
      have hij : i * C + j < (mp c ms s a).2.2.2.1.length := by rw [F.len]; exact lt_rc hi hj
      have hRC := rc_le F.hR F.hC
      have hx := F.el.get hp (i * C + j)
      have hy := sgn_in hp a
      rw [stJ_succ,F.eC,Int.toNat_natCast,getD_lt hij] at ih
      rw [getD_lt hij] at hx
      have hol' : (upds (stJ p (mp c ms s a) W T L (sgn p a) i j) cs).length = H * W := by rw [upds_length,hcs]
      have ev := val_eq hx (show 0 ≤ sgn p a ∧ sgn p a ≤ 250 by omega) hp
      have hlen := F.len
      have e1 : w64 (w64 ((i : Int) * (C : Int)) + (j : Int)) = ((i * C + j : Nat) : Int) := by
        rw [cast_mul,w64_small (n := ((i * C : Nat) : Int)) (by omega) (by omega),w64_small (by omega) (by omega)]; omega
      simp only [F.eC,e1,ep,hol',Int.toNat_natCast]
      refine ev_t (decide_eq_true (by omega)) (ev_bind (idx_lt hij) (ev_chk (by simp; omega) ?_))
      simp only [ev]
      refine ev_chk (by simp only [Bool.and_eq_true,decide_eq_true_eq]; omega) ?_
      rw [w64_succ (by omega)]
      exact ih
    · simp only [Z170.l5_succ _ mk_ok,F.eC]
      have := F.hR
      refine ev_f (decide_eq_false (by omega)) ?_
      rw [w64_succ (by omega)]
      exact hr
  -- a face' stores
  have r4 : ∀ (s a T L R C : Nat) (F : CobF c p st ms k s a T L R C H W) (t : Nat) (ls : Sim) (fs : Sim) (cs : Sim) (hcs : cs.length = H * W) (r : Option Dv),
      (Ev fun φ => Z170.l3 (mkR (run E (φ 0))) (φ 0) (φ 1) (φ 2) (c,p,st,ms,()) k ls (t : Int) fs (T : Int) ((a + 1 : Nat) : Int) 0 0 0 p (H : Int) (W : Int) (upds (stI p (mp c ms s a) W T L (sgn p a) R) cs) = r) →
      Ev fun φ => Z170.l4 (mkR (run E (φ 0))) (φ 0) (φ 1) (φ 2) (φ 0) (c,p,st,ms,()) k ls (t : Int) fs (T : Int) (a : Int) (mp c ms s a) (L : Int) (sgn p a) 0 0 0 0 p (H : Int) (W : Int) cs = r := by
    intro s a T L R C F t ls fs cs hcs r hr
    refine Ev.start (p := fun φ n => Z170.l4 (mkR (run E (φ 0))) (φ 0) (φ 1) (φ 2) n (c,p,st,ms,()) k ls (t : Int) fs (T : Int) (a : Int) (mp c ms s a) (L : Int) (sgn p a) 0 0 0 0 p (H : Int) (W : Int) cs = _) 3 ?_ (fun _ _ _ h => h)
    refine fold_loop 3 (L := fun φ n i o => Z170.l4 (mkR (run E (φ 0))) (φ 0) (φ 1) (φ 2) n (c,p,st,ms,()) k ls (t : Int) fs (T : Int) (a : Int) (mp c ms s a) (L : Int) (sgn p a) i 0 0 0 p (H : Int) (W : Int) o) (len := R) (fun i => upds (stI p (mp c ms s a) W T L (sgn p a) i) cs) (fun _ _ _ _ _ => rfl) (fun i q hi ih => ?_) ?_
    · simp only [Z170.l4_succ _ mk_ok,F.eR]
      rw [stI_succ,F.eC,Int.toNat_natCast] at ih
      exact ev_t (decide_eq_true (by omega)) (r5 s a T L R C i F t ls fs _ (by rw [upds_length,hcs]) hi q ih)
    · simp only [Z170.l4_succ _ mk_ok,F.eR]
      have := F.h4
      refine ev_f (decide_eq_false (by omega)) ?_
      rw [w64_succ (by omega)]
      exact hr
  refine Ev.start (p := fun φ n => Z170.l1 (mkR (run E (φ 0))) (φ 0) n (c,p,st,ms,()) k (ofDim c (k + 1) c.length) 0 0 0 0 p (H : Int) (W : Int) (List.replicate (H * W) 0) = _) 1 ?_ (fun _ _ _ h => h)
  refine fold_loop 1 (L := fun φ n t o => Z170.l1 (mkR (run E (φ 0))) (φ 0) n (c,p,st,ms,()) k (ofDim c (k + 1) c.length) t 0 0 0 p (H : Int) (W : Int) o) (len := (ofDim c (k + 1) c.length).length) (fun t => upds (stS c p st ms k t) (List.replicate (H * W) 0)) (fun _ _ _ _ _ => rfl) (fun t q ht ih => ?_) ?_
  · simp only [Z170.l1_succ _ mk_ok]
    obtain ⟨s,hse,hs,hd⟩ := ofDim_iff.1 (List.getElem_mem ht)
    rw [stS_succ ht hse] at ih
    have hg : (ofDim c (k + 1) c.length)[t]? = some (s : Int) := by rw [List.getElem?_eq_getElem ht,hse]
    have hf4 := h.1.fIdx4 hs
    generalize hO : upds (stS c p st ms k t) (List.replicate (H * W) 0) = O at ih ⊢
    have hOl : O.length = H * W := by rw [← hO,upds_length,List.length_replicate]
    have a1 := l11At_ret (c,p,st,ms,()) s hs hc hl hst
    have hFC := (FC_bound hst hs).1
    obtain ⟨T,eT⟩ := Int.eq_ofNat_of_zero_le hFC
    rw [show FC (c,p,st,ms,()).1 (c,p,st,ms,()).2.2.1 s = (T : Int) from eT] at a1
    refine ev_t (decide_eq_true (by omega)) ?_
    simp only [Z170.j2_eq _ mk_ok,show decide (k ≥ 0) = true from decide_eq_true (by omega),cond_true]
    refine ev_bind (idx_nat.trans hg) (ev_call (l05Faces_ret c s hs hc) (ev_bind (idx_nat.trans hg) (ev_call a1 ?_)))
    refine Ev.start (p := fun φ n => Z170.l3 (mkR (run E (φ 0))) (φ 0) (φ 1) n (c,p,st,ms,()) k (ofDim c (k + 1) c.length) (t : Int) (fIdx c s) (T : Int) 0 0 0 0 p (H : Int) (W : Int) O = _) 2 ?_ (fun _ _ _ h => h)
    refine fold_loop 2 (L := fun φ n a o => Z170.l3 (mkR (run E (φ 0))) (φ 0) (φ 1) n (c,p,st,ms,()) k (ofDim c (k + 1) c.length) (t : Int) (fIdx c s) (T : Int) a 0 0 0 p (H : Int) (W : Int) o) (len := (fIdx c s).length) (fun a => upds (stF c p st ms k s a) O) (fun _ _ _ _ _ => rfl) (fun a q2 ha ih2 => ?_) ?_
    · simp only [Z170.l3_succ _ mk_ok]
      obtain ⟨T',L,R,C,F⟩ := cobF_of h hs (by omega) ha eH eW bH bW
      obtain rfl : T = T' := by have := F.eT; omega
      obtain ⟨ix,hfc,_⟩ := fc_get h.1 hs ha
      have f2 := l11At_ret (c,p,st,ms,()) (fc c s a) hfc hc hl hst
      rw [show FC (c,p,st,ms,()).1 (c,p,st,ms,()).2.2.1 (fc c s a) = (L : Int) from F.eL] at f2
      rw [stF_succ,tW,F.eT,F.eL,F.eR,Int.toNat_natCast,Int.toNat_natCast,Int.toNat_natCast] at ih2
      refine ev_t (decide_eq_true (by omega)) (ev_bind (idx_nat.trans hg) (ev_call (l09Get_ret (c,p,st,ms,()) s a hs ha h) (ev_bind ix (ev_call f2 (ev_call (l07Sign_ret p a F.hp) ?_)))))
      exact r4 s a T L R C F t _ _ _ (by rw [upds_length,hOl]) q2 ih2
    · simp only [Z170.l3_succ _ mk_ok]
      refine ev_f (decide_eq_false (by omega)) ?_
      rw [w64_succ (by omega)]
      exact ih
  · simp only [Z170.l1_succ _ mk_ok,Z170.j2_eq _ mk_ok,cond_false]
    exact ev_f (decide_eq_false (by omega)) ev_rfl

/-! zero lists -/
def Zs (v : Sim) : Prop := ∀ x ∈ v,x = 0

theorem isZero_1_ret (x : Int) : Ret E n_Z55 [dI x] ⟨o_Z55,(!pb (x = 0),())⟩ := by
  refine ret_of ?_
  simp only [run_Z55,Z55.ev]
  refine ev_some ?_
  have : (x != 0) = !pb (x = 0) := by
    by_cases h : x = 0
    · rw [pb_true h]; simp [h]
    · rw [pb_false h]; simp [h]
  rw [this]

theorem isZero_ret (v : Sim) (hv : v.length ≤ 1048576) : Ret E n_Z54 [dL v] ⟨o_Z54,(pb (Zs v),())⟩ := by
  refine ret_of ?_
  simp only [run_Z54,Z54.ev]
  refine ev_call (ContainsFunc_Sint64_int64_impl_isZero_1_ret v _ hv fun x _ => isZero_1_ret x) (ev_some ?_)
  simp only [none_bad]; rfl

end VeT

open Go Go.Proofs Ve
set_option linter.unusedVariables false
set_option linter.unusedSimpArgs false
namespace VeT

/-! powers -/
theorem mul_congr {p x x' y y' : Int} (h1 : x % p = x' % p) (h2 : y % p = y' % p) : x * y % p = x' * y' % p := by
  rw [Int.mul_emod x,h1,h2,← Int.mul_emod]

theorem pow_congr {p x x' : Int} (h : x % p = x' % p) : ∀ n : Nat,x ^ n % p = x' ^ n % p
  | 0 => by rw [Int.pow_zero,Int.pow_zero]
  | n + 1 => by rw [Int.pow_succ,Int.pow_succ]; exact mul_congr (pow_congr h n) h

/-- the inverse of a number -/
def invF (a p : Int) : Int := a ^ (p - 2).toNat % p

theorem invF_in {a p : Int} (hp : 2 ≤ p) : 0 ≤ invF a p ∧ invF a p ≤ p - 1 := by
  have h0 := Int.emod_nonneg (a ^ (p - 2).toNat) (show p ≠ 0 by omega)
  have h1 := Int.emod_lt_of_pos (a ^ (p - 2).toNat) (show 0 < p by omega)
  unfold invF; omega

/-! elimination -/
abbrev Ent := Nat → Nat → Int

def elSw (top q : Nat) (A : Ent) : Ent := fun i => if i = top then A q else if i = q then A top else A i
def elN (p : Int) (c top : Nat) (B : Ent) : Nat → Int := fun j => B top j * invF (B top c) p % p
def elM (p : Int) (c top : Nat) (B : Ent) : Ent := fun i j => if i = top then elN p c top B j else B i j
def elF (p : Int) (c top : Nat) (B : Ent) : Ent := fun i j => if i = top then elN p c top B j else if B i c ≠ 0 then (B i j + (p - B i c) * elN p c top B j) % p else B i j

noncomputable def elP (p : Int) (R c : Nat) (S : Ent × List Nat) : Ent × List Nat :=
  match firstN (fun i => S.1 i c ≠ 0) S.2.length (R - S.2.length) with
  | none => S
  | some q => (elF p c S.2.length (elSw S.2.length q S.1),S.2 ++ [c])

noncomputable def elS (p : Int) (R : Nat) (A : Ent) : Nat → Ent × List Nat
  | 0 => (A,[])
  | c + 1 => elP p R c (elS p R A c)

def EIn (p : Int) (R W : Nat) (A : Ent) : Prop := ∀ i j,i < R → j < W → 0 ≤ A i j ∧ A i j ≤ p - 1

theorem EIn.sw {p : Int} {R W top q : Nat} {A : Ent} (h : EIn p R W A) (ht : top < R) (hq : q < R) : EIn p R W (elSw top q A) := fun i j hi hj => by
  unfold elSw; split
  · exact h q j hq hj
  · split
    · exact h top j ht hj
    · exact h i j hi hj

theorem emod_in {p x : Int} (hp : 2 ≤ p) : 0 ≤ x % p ∧ x % p ≤ p - 1 := by
  have h0 := Int.emod_nonneg x (show p ≠ 0 by omega)
  have h1 := Int.emod_lt_of_pos x (show 0 < p by omega)
  omega

theorem EIn.f {p : Int} {R W c top : Nat} {B : Ent} (h : EIn p R W B) (hp : 2 ≤ p) : EIn p R W (elF p c top B) := fun i j hi hj => by
  unfold elF; split
  · exact emod_in hp
  · split
    · exact emod_in hp
    · exact h i j hi hj

theorem elS_in {p : Int} {R W : Nat} {A : Ent} (hp : 2 ≤ p) (h : EIn p R W A) : ∀ c,EIn p R W (elS p R A c).1 ∧ (elS p R A c).2.length ≤ R ∧ (elS p R A c).2.length ≤ c ∧ ∀ x ∈ (elS p R A c).2,x < c
  | 0 => ⟨h,Nat.zero_le _,Nat.zero_le _,fun x hx => by simp [elS] at hx⟩
  | c + 1 => by
    obtain ⟨h1,h2,h3,h4⟩ := elS_in hp h c
    rw [elS,elP]
    cases hf : firstN (fun i => (elS p R A c).1 i c ≠ 0) (elS p R A c).2.length (R - (elS p R A c).2.length) with
    | none => exact ⟨h1,h2,by show (elS p R A c).2.length ≤ c + 1; omega,fun x hx => by have := h4 x hx; omega⟩
    | some q =>
      have hq := firstN_some hf
      refine ⟨(h1.sw (by omega) (by omega)).f hp,?_,?_,fun x hx => ?_⟩
      · simp only [List.length_append,List.length_singleton]; omega
      · simp only [List.length_append,List.length_singleton]; omega
      · rcases List.mem_append.1 hx with hx | hx
        · have := h4 x hx; omega
        · rw [List.mem_singleton] at hx; omega

/-! rows -/
def rowsE (A : Ent) (R W : Nat) : List Sim := (List.range R).map fun i => (List.range W).map (A i)

theorem rowsE_length {A : Ent} {R W : Nat} : (rowsE A R W).length = R := by simp [rowsE]

theorem rowsE_get {A : Ent} {R W i : Nat} (hi : i < R) : (rowsE A R W)[i]? = some ((List.range W).map (A i)) := by
  unfold rowsE; rw [List.getElem?_map,List.getElem?_range hi]; rfl

theorem rowsE_congr {A B : Ent} {R W : Nat} (h : ∀ i j,i < R → j < W → A i j = B i j) : rowsE A R W = rowsE B R W :=
  List.map_congr_left fun i hi => List.map_congr_left fun j hj => h i j (List.mem_range.1 hi) (List.mem_range.1 hj)

theorem rowsE_set {A : Ent} {R W i : Nat} {f : Nat → Int} : (rowsE A R W).set i ((List.range W).map f) = rowsE (fun k j => if k = i then f j else A k j) R W := by
  apply List.ext_getElem?
  intro k
  by_cases hk : k < R
  · rw [rowsE_get hk]
    by_cases hik : k = i
    · subst hik
      rw [List.getElem?_set_self (by rw [rowsE_length]; exact hk)]
      simp
    · rw [List.getElem?_set_ne (Ne.symm hik),rowsE_get hk]
      simp [hik]
  · rw [List.getElem?_eq_none (by rw [List.length_set,rowsE_length]; omega),List.getElem?_eq_none (by rw [rowsE_length]; omega)]

theorem row_get {f : Nat → Int} {W j : Nat} (hj : j < W) : ((List.range W).map f)[j]? = some (f j) := by
  rw [List.getElem?_map,List.getElem?_range hj]; rfl

theorem flatF_set {A : Ent} {R W i j : Nat} {v : Int} (hi : i < R) (hj : j < W) : (flatF A W R).set (i * W + j) v = flatF (fun k l => if k = i ∧ l = j then v else A k l) W R := by
  apply List.ext_getElem?
  intro n
  by_cases hn : n < R * W
  · have hW : 0 < W := by omega
    have e : n = n / W * W + n % W := by have := Nat.div_add_mod n W; rw [Nat.mul_comm] at this; omega
    have h1 : n / W < R := Nat.div_lt_of_lt_mul (by rw [Nat.mul_comm]; exact hn)
    have h2 : n % W < W := Nat.mod_lt _ hW
    generalize n / W = a at e h1
    generalize n % W = b at e h2
    subst e
    rw [flatF_getD h1 h2]
    by_cases hab : a = i ∧ b = j
    · obtain ⟨rfl,rfl⟩ := hab
      rw [List.getElem?_set_self (by rw [flatF_length]; exact hn)]
      simp
    · rw [List.getElem?_set_ne,flatF_getD h1 h2,if_neg hab]
      intro e
      have hbW : b < W := h2
      have : a = i ∧ b = j := by
        have h3 : (i * W + j) / W = i := by rw [Nat.mul_comm,Nat.mul_add_div (by omega),Nat.div_eq_of_lt hj,Nat.add_zero]
        have h4 : (a * W + b) / W = a := by rw [Nat.mul_comm,Nat.mul_add_div (by omega),Nat.div_eq_of_lt hbW,Nat.add_zero]
        have : a = i := by rw [← h3,← h4,e]
        subst this
        exact ⟨rfl,by omega⟩
      exact hab this
  · rw [List.getElem?_eq_none (by rw [List.length_set,flatF_length]; omega),List.getElem?_eq_none (by rw [flatF_length]; omega)]

theorem flatF_flatten {A : Ent} {W : Nat} : ∀ {R : Nat},(rowsE A R W).flatten = flatF A W R
  | 0 => by simp [rowsE,flatF]
  | R + 1 => by
    have := flatF_flatten (A := A) (W := W) (R := R)
    unfold rowsE at this ⊢
    rw [List.range_succ,List.map_append,List.flatten_append,this,flatF]
    simp

/-- a matrix' entries -/
def entM (cells : Sim) (W : Nat) : Ent := fun i j => cells.getD (i * W + j) 0

theorem entM_flat {cells : Sim} {R W : Nat} (h : cells.length = R * W) : flatF (entM cells W) W R = cells := by
  refine List.ext_getElem (by rw [flatF_length,h]) fun n h1 h2 => ?_
  rw [flatF_length] at h1
  have hW : 0 < W := by
    cases W with
    | zero => simp at h1
    | succ W => omega
  have e : n = n / W * W + n % W := by have := Nat.div_add_mod n W; rw [Nat.mul_comm] at this; omega
  have h3 : n / W < R := Nat.div_lt_of_lt_mul (by rw [Nat.mul_comm]; exact h1)
  have h4 : n % W < W := Nat.mod_lt _ hW
  have hg := flatF_getD (f := entM cells W) h3 h4
  rw [← e,List.getElem?_eq_getElem (by rw [flatF_length]; exact h1)] at hg
  rw [Option.some.inj hg]
  unfold entM
  rw [← e,getD_lt h2]

theorem entM_in {p : Int} {cells : Sim} {R W : Nat} (h : Elems cells p) (hl : cells.length = R * W) : EIn p R W (entM cells W) := fun i j hi hj => by
  unfold entM
  have := lt_rc hi hj
  rw [getD_lt (by omega)]
  exact h _ (List.getElem_mem _)

end VeT

open Go Go.Proofs Ve
set_option linter.unusedVariables false
set_option linter.unusedSimpArgs false
namespace VeT

/-! inverses modulo a prime -/
def invTab : Bool := (List.range 252).all fun p => !(decide (2 ≤ p) && (List.range 16).all fun k => !(decide (2 ≤ k) && decide (k * k ≤ p) && decide (p % k = 0))) || (List.range p).all fun a => a == 0 || (a * (a ^ (p - 2) % p) % p == 1)

theorem invTab_ok : invTab = true := by kernel_rfl

theorem inv_mul {p a : Int} (hp : Pr p) (h1 : 1 ≤ a) (h2 : a ≤ p - 1) : a * invF a p % p = 1 := by
  obtain ⟨hp2,hp251,hpk⟩ := hp
  obtain ⟨P,rfl⟩ := Int.eq_ofNat_of_zero_le (show 0 ≤ p by omega)
  obtain ⟨N,rfl⟩ := Int.eq_ofNat_of_zero_le (show 0 ≤ a by omega)
  have h := invTab_ok
  unfold invTab at h
  rw [List.all_eq_true] at h
  have hP := h P (List.mem_range.2 (by omega))
  rw [Bool.or_eq_true] at hP
  rcases hP with hP | hP
  · exfalso
    rw [Bool.not_eq_true',Bool.and_eq_false_iff] at hP
    rcases hP with hP | hP
    · have := of_decide_eq_false hP; omega
    · rw [← Bool.not_eq_true,List.all_eq_true] at hP
      refine hP fun k hk => ?_
      have hk16 := List.mem_range.1 hk
      rw [Bool.not_eq_true',Bool.and_eq_false_iff,Bool.and_eq_false_iff]
      by_cases hk2 : 2 ≤ k
      · by_cases hkk : k * k ≤ P
        · right
          refine decide_eq_false fun e => ?_
          have := hpk k hk2 (by have : ((k * k : Nat) : Int) ≤ (P : Int) := by omega
                                rwa [Int.natCast_mul] at this)
          exact this (by omega)
        · exact .inl (.inr (decide_eq_false hkk))
      · exact .inl (.inl (decide_eq_false hk2))
  · rw [List.all_eq_true] at hP
    have hN := hP N (List.mem_range.2 (by omega))
    rw [Bool.or_eq_true] at hN
    rcases hN with hN | hN
    · have : N = 0 := by simpa using hN
      omega
    · have hN : N * (N ^ (P - 2) % P) % P = 1 := by simpa using hN
      unfold invF
      have e : ((P : Int) - 2).toNat = P - 2 := by omega
      rw [e]
      have : ((N * (N ^ (P - 2) % P) % P : Nat) : Int) = 1 := by rw [hN]; rfl
      rwa [Int.natCast_emod,Int.natCast_mul,Int.natCast_emod,Int.natCast_pow] at this

/-! sums of multiples of rows -/
theorem dotN_add {c d g : Nat → Int} : ∀ {n : Nat},dotN (fun i => c i + d i) g n = dotN c g n + dotN d g n
  | 0 => rfl
  | n + 1 => by simp only [dotN]; rw [dotN_add,Int.add_mul]; omega

theorem dotN_smul {k : Int} {c g : Nat → Int} : ∀ {n : Nat},dotN (fun i => k * c i) g n = k * dotN c g n
  | 0 => by simp [dotN]
  | n + 1 => by simp only [dotN]; rw [dotN_smul,Int.mul_add,Int.mul_assoc]

theorem dotN_none {k : Nat} {g : Nat → Int} : ∀ {n : Nat},n ≤ k → dotN (fun i => if i = k then 1 else 0) g n = 0
  | 0,_ => rfl
  | n + 1,h => by simp only [dotN]; rw [dotN_none (by omega),if_neg (by omega),Int.zero_mul]; rfl

theorem dotN_one {k : Nat} {g : Nat → Int} : ∀ {n : Nat},k < n → dotN (fun i => if i = k then 1 else 0) g n = g k
  | n + 1,h => by
    simp only [dotN]
    by_cases hk : k = n
    · subst hk; rw [dotN_none (Nat.le_refl _),if_pos rfl,Int.one_mul,Int.zero_add]
    · rw [dotN_one (by omega),if_neg (by omega),Int.zero_mul,Int.add_zero]

def Spn (p : Int) (R W : Nat) (A : Ent) (x : Nat → Int) : Prop := ∃ c : Nat → Int,∀ j,j < W → dotN c (fun i => A i j) R % p = x j % p

theorem Spn.row {p : Int} {R W : Nat} {A : Ent} {i : Nat} (hi : i < R) : Spn p R W A (A i) := ⟨fun k => if k = i then 1 else 0,fun j _ => by rw [dotN_one hi]⟩

theorem Spn.congr {p : Int} {R W : Nat} {A : Ent} {x y : Nat → Int} (h : ∀ j,j < W → x j % p = y j % p) : Spn p R W A x → Spn p R W A y := fun ⟨c,hc⟩ => ⟨c,fun j hj => (hc j hj).trans (h j hj)⟩

theorem Spn.add {p : Int} {R W : Nat} {A : Ent} {x y : Nat → Int} (hx : Spn p R W A x) (hy : Spn p R W A y) : Spn p R W A (fun j => x j + y j) := by
  obtain ⟨c,hc⟩ := hx
  obtain ⟨d,hd⟩ := hy
  exact ⟨fun i => c i + d i,fun j hj => by rw [dotN_add,Int.add_emod,hc j hj,hd j hj,← Int.add_emod]⟩

theorem Spn.smul {p : Int} {R W : Nat} {A : Ent} {x : Nat → Int} (k : Int) (hx : Spn p R W A x) : Spn p R W A (fun j => k * x j) := by
  obtain ⟨c,hc⟩ := hx
  exact ⟨fun i => k * c i,fun j hj => by rw [dotN_smul,Int.mul_emod,hc j hj,← Int.mul_emod]⟩

theorem Spn.zero {p : Int} {R W : Nat} {A : Ent} : Spn p R W A (fun _ => 0) := ⟨fun _ => 0,fun j _ => by
  have : ∀ n,dotN (fun _ => 0) (fun i => A i j) n = 0 := fun n => by
    induction n with
    | zero => rfl
    | succ n ih => simp only [dotN,ih,Int.zero_mul]; rfl
  rw [this]⟩

theorem Spn.sum {p : Int} {R W : Nat} {A B : Ent} {c : Nat → Int} : ∀ {n : Nat},(∀ i,i < n → Spn p R W A (B i)) → Spn p R W A (fun j => dotN c (fun i => B i j) n)
  | 0,_ => Spn.zero
  | n + 1,h => (Spn.sum (n := n) fun i hi => h i (by omega)).add ((h n (Nat.lt_succ_self n)).smul (c n))

theorem Spn.trans {p : Int} {R R' W : Nat} {A B : Ent} {x : Nat → Int} (h : ∀ i,i < R' → Spn p R W A (B i)) (hx : Spn p R' W B x) : Spn p R W A x := by
  obtain ⟨c,hc⟩ := hx
  exact (Spn.sum h).congr hc

/-! the steps of the elimination keep the rows' sums -/
def Eqv (p : Int) (R W : Nat) (A B : Ent) : Prop := (∀ i,i < R → Spn p R W A (B i)) ∧ (∀ i,i < R → Spn p R W B (A i))

theorem Eqv.refl {p : Int} {R W : Nat} {A : Ent} : Eqv p R W A A := ⟨fun _ h => Spn.row h,fun _ h => Spn.row h⟩
theorem Eqv.trans {p : Int} {R W : Nat} {A B C : Ent} (h : Eqv p R W A B) (k : Eqv p R W B C) : Eqv p R W A C := ⟨fun i hi => Spn.trans h.1 (k.1 i hi),fun i hi => Spn.trans k.2 (h.2 i hi)⟩

theorem Eqv.sw {p : Int} {R W top q : Nat} {A : Ent} (ht : top < R) (hq : q < R) : Eqv p R W A (elSw top q A) := by
  refine ⟨fun i hi => ?_,fun i hi => ?_⟩
  · unfold elSw
    split
    · exact Spn.row hq
    · split
      · exact Spn.row ht
      · exact Spn.row hi
  · have key : ∀ k,k < R → (elSw top q A) k = A i → Spn p R W (elSw top q A) (A i) := fun k hk e => by rw [← e]; exact Spn.row hk
    by_cases h1 : i = top
    · subst h1
      by_cases h2 : q = i
      · subst h2; exact key q hq (by simp [elSw])
      · exact key q hq (by simp [elSw,h2])
    · by_cases h2 : i = q
      · subst h2; exact key top ht (by simp [elSw])
      · exact key i hi (by simp [elSw,h1,h2])

theorem Eqv.f {p : Int} {R W c top : Nat} {B : Ent} (hp : Pr p) (ht : top < R) (hl : 1 ≤ B top c ∧ B top c ≤ p - 1) : Eqv p R W B (elF p c top B) := by
  have hinv := inv_mul hp hl.1 hl.2
  have hN : Spn p R W B (elN p c top B) := ((Spn.row ht).smul (invF (B top c) p)).congr fun j _ => by
    show invF (B top c) p * B top j % p = (B top j * invF (B top c) p % p) % p
    rw [Int.emod_emod_of_dvd _ (Int.dvd_refl p),Int.mul_comm]
  have eTop : elF p c top B top = elN p c top B := by funext j; simp [elF]
  have hN2 : Spn p R W (elF p c top B) (elN p c top B) := by rw [← eTop]; exact Spn.row ht
  refine ⟨fun i hi => ?_,fun i hi => ?_⟩
  · by_cases h1 : i = top
    · subst h1; rw [eTop]; exact hN
    · by_cases h2 : B i c = 0
      · have e : elF p c top B i = B i := by funext j; simp [elF,h1,h2]
        rw [e]; exact Spn.row hi
      · refine ((Spn.row hi).add (hN.smul (p - B i c))).congr fun j _ => ?_
        have e : elF p c top B i j = (B i j + (p - B i c) * elN p c top B j) % p := by simp [elF,h1,h2]
        rw [e,Int.emod_emod_of_dvd _ (Int.dvd_refl p)]
  · by_cases h1 : i = top
    · subst h1
      refine (hN2.smul (B i c)).congr fun j _ => ?_
      show B i c * (B i j * invF (B i c) p % p) % p = B i j % p
      rw [Int.mul_emod,Int.emod_emod_of_dvd _ (Int.dvd_refl p),← Int.mul_emod,show B i c * (B i j * invF (B i c) p) = B i j * (B i c * invF (B i c) p) by rw [← Int.mul_assoc,Int.mul_comm (B i c),Int.mul_assoc],Int.mul_emod,hinv,Int.mul_one,Int.emod_emod_of_dvd _ (Int.dvd_refl p)]
    · by_cases h2 : B i c = 0
      · have e : elF p c top B i = B i := by funext j; simp [elF,h1,h2]
        rw [← e]; exact Spn.row hi
      · refine ((Spn.row hi).add (hN2.smul (B i c))).congr fun j _ => ?_
        have e : elF p c top B i j = (B i j + (p - B i c) * elN p c top B j) % p := by simp [elF,h1,h2]
        rw [e,Int.add_emod,Int.emod_emod_of_dvd _ (Int.dvd_refl p),← Int.add_emod,show B i j + (p - B i c) * elN p c top B j + B i c * elN p c top B j = B i j + p * elN p c top B j by rw [Int.sub_mul]; omega,Int.add_mul_emod_self_left]

/-! the shape of what the elimination leaves -/
structure Rf (R c : Nat) (B : Ent) (pv : List Nat) : Prop where
  len : pv.length ≤ R
  lt : ∀ i,i < pv.length → pv.getD i 0 < c
  mono : ∀ i j,i < j → j < pv.length → pv.getD i 0 < pv.getD j 0
  one : ∀ i j,i < R → j < pv.length → B i (pv.getD j 0) = if i = j then 1 else 0
  low : ∀ i j,i < pv.length → j < pv.getD i 0 → B i j = 0
  bot : ∀ i j,pv.length ≤ i → i < R → j < c → B i j = 0

end VeT

open Go Go.Proofs Ve
set_option linter.unusedVariables false
set_option linter.unusedSimpArgs false
namespace VeT

theorem getD_app_lt {l : List Nat} {c i : Nat} (h : i < l.length) : (l ++ [c]).getD i 0 = l.getD i 0 := by
  rw [List.getD_eq_getElem?_getD,List.getD_eq_getElem?_getD,List.getElem?_append_left h]

theorem getD_app_eq {l : List Nat} {c : Nat} : (l ++ [c]).getD l.length 0 = c := by
  rw [List.getD_eq_getElem?_getD,List.getElem?_append_right (Nat.le_refl _)]; simp

theorem Rf.next {p : Int} {R W c : Nat} {B : Ent} {pv : List Nat} (hp : Pr p) (hB : EIn p R W B) (hc : c < W) (h : Rf R c B pv) {q : Nat} (hq : pv.length ≤ q ∧ q < R) (hne : B q c ≠ 0) :
    Rf R (c + 1) (elF p c pv.length (elSw pv.length q B)) (pv ++ [c]) := by
  obtain ⟨hlen,hlt,hmono,hone,hlow,hbot⟩ := h
  generalize ht : pv.length = top at *
  have hB' : EIn p R W (elSw top q B) := hB.sw (by omega) hq.2
  have rowLt : ∀ i,i < top → elSw top q B i = B i := fun i hi => by
    unfold elSw; rw [if_neg (by omega),if_neg (by omega)]
  have rowGe : ∀ i,top ≤ i → i < R → ∀ j,j < c → elSw top q B i j = 0 := fun i h1 h2 j hj => by
    unfold elSw
    split
    · exact hbot q j hq.1 hq.2 hj
    · split
      · exact hbot top j (Nat.le_refl _) (by omega) hj
      · exact hbot i j h1 h2 hj
  have eLead : elSw top q B top c = B q c := by simp [elSw]
  have hlead : 1 ≤ elSw top q B top c ∧ elSw top q B top c ≤ p - 1 := by
    have := hB q c hq.2 hc
    rw [eLead]; omega
  generalize elSw top q B = B' at hB' rowLt rowGe eLead hlead
  have hinv := inv_mul hp hlead.1 hlead.2
  have nLt : ∀ j,j < c → elN p c top B' j = 0 := fun j hj => by
    unfold elN; rw [rowGe top (Nat.le_refl _) (by omega) j hj,Int.zero_mul]; exact Int.zero_emod p
  have nC : elN p c top B' c = 1 := hinv
  have fLt : ∀ i j,i < R → j < c → elF p c top B' i j = B' i j := fun i j hi hj => by
    unfold elF
    split
    · rename_i e; subst e; rw [nLt j hj,rowGe i (Nat.le_refl _) hi j hj]
    · split
      · rw [nLt j hj,Int.mul_zero,Int.add_zero]
        have := hB' i j hi (by omega)
        exact Int.emod_eq_of_lt this.1 (by omega)
      · rfl
  have fC : ∀ i,i < R → elF p c top B' i c = if i = top then 1 else 0 := fun i hi => by
    unfold elF
    split
    · exact nC
    · split
      · rw [nC,Int.mul_one,show B' i c + (p - B' i c) = p by omega,Int.emod_self]
      · rename_i _ h2; exact Classical.byContradiction fun e => h2 e
  refine ⟨?_,?_,?_,?_,?_,?_⟩
  · rw [List.length_append,List.length_singleton,ht]; omega
  · intro i hi
    rw [List.length_append,List.length_singleton,ht] at hi
    by_cases hi2 : i < top
    · rw [getD_app_lt (by omega)]; have := hlt i hi2; omega
    · obtain rfl : i = top := by omega
      subst ht
      rw [getD_app_eq]; omega
  · intro i j hij hj
    rw [List.length_append,List.length_singleton,ht] at hj
    by_cases hj2 : j < top
    · rw [getD_app_lt (by omega),getD_app_lt (by omega)]; exact hmono i j hij hj2
    · obtain rfl : j = top := by omega
      have := hlt i hij
      subst ht
      rw [getD_app_lt hij,getD_app_eq]; exact this
  · intro i j hi hj
    rw [List.length_append,List.length_singleton,ht] at hj
    by_cases hj2 : j < top
    · have hpj := hlt j hj2
      rw [getD_app_lt (by omega),fLt i _ hi hpj]
      by_cases hi2 : i < top
      · rw [rowLt i hi2]; exact hone i j hi hj2
      · rw [rowGe i (by omega) hi _ hpj,if_neg (by omega)]
    · obtain rfl : j = top := by omega
      have hfc := fC i hi
      subst ht
      rw [getD_app_eq]; exact hfc
  · intro i j hi hj
    rw [List.length_append,List.length_singleton,ht] at hi
    by_cases hi2 : i < top
    · rw [getD_app_lt (by omega)] at hj
      have := hlt i hi2
      rw [fLt i j (by omega) (by omega),rowLt i hi2]; exact hlow i j hi2 hj
    · obtain rfl : i = top := by omega
      have hfl : j < c → elF p c i B' i j = 0 := fun h => by rw [fLt i j (by omega) h]; exact rowGe i (Nat.le_refl _) (by omega) j h
      have e : (pv ++ [c]).getD i 0 = c := by rw [← ht]; exact getD_app_eq
      rw [e] at hj
      exact hfl hj
  · intro i j hi hiR hj
    rw [List.length_append,List.length_singleton,ht] at hi
    by_cases hjc : j < c
    · rw [fLt i j hiR hjc]; exact rowGe i (by omega) hiR j hjc
    · obtain rfl : j = c := by omega
      rw [fC i hiR,if_neg (by omega)]

theorem elS_rf {p : Int} {R W : Nat} {A : Ent} (hp : Pr p) (hA : EIn p R W A) : ∀ c,c ≤ W → Rf R c (elS p R A c).1 (elS p R A c).2 ∧ Eqv p R W A (elS p R A c).1
  | 0,_ => ⟨⟨Nat.zero_le _,fun i h => by simp [elS] at h,fun i j _ h => by simp [elS] at h,fun i j _ h => by simp [elS] at h,fun i j h => by simp [elS] at h,fun i j _ _ h => by omega⟩,Eqv.refl⟩
  | c + 1,hc => by
    obtain ⟨h1,h2⟩ := elS_rf hp hA c (by omega)
    have hB := (elS_in hp.1 hA c).1
    rw [elS,elP]
    generalize elS p R A c = S at h1 h2 hB
    obtain ⟨B,pv⟩ := S
    simp only at h1 h2 hB ⊢
    cases hf : firstN (fun i => B i c ≠ 0) pv.length (R - pv.length) with
    | none =>
      have hn := firstN_none hf
      show Rf R (c + 1) B pv ∧ Eqv p R W A B
      refine ⟨⟨h1.len,fun i hi => by have := h1.lt i hi; omega,h1.mono,h1.one,h1.low,fun i j h3 h4 h5 => ?_⟩,h2⟩
      by_cases hj : j < c
      · exact h1.bot i j h3 h4 hj
      · obtain rfl : j = c := by omega
        exact Classical.byContradiction fun e => hn i h3 (by omega) e
    | some q =>
      have hq := firstN_some hf
      have hq2 : pv.length ≤ q ∧ q < R := by omega
      have hlead : 1 ≤ elSw pv.length q B pv.length c ∧ elSw pv.length q B pv.length c ≤ p - 1 := by
        have e : elSw pv.length q B pv.length c = B q c := by simp [elSw]
        have := hB q c hq2.2 (by omega)
        have := hq.2.2
        rw [e]; omega
      exact ⟨h1.next hp hB (by omega) hq2 hq.2.2,(h2.trans (Eqv.sw (by omega) hq2.2)).trans (Eqv.f hp (by omega) hlead)⟩

end VeT

open Go Go.Proofs Ve
set_option linter.unusedVariables false
set_option linter.unusedSimpArgs false
namespace VeT

/-! marks: what the laws write over arguments and results -/
def mkL (k : Int) (n : Nat) : Sim := (List.range n).map fun (i : Nat) => k + (i : Int)

theorem mkL_length {k : Int} {n : Nat} : (mkL k n).length = n := by simp [mkL]

theorem mkL_get {k : Int} {n i : Nat} (h : i < (mkL k n).length) : (mkL k n)[i] = k + i := by simp [mkL]

theorem markInt64S_ret (s : Sim) (k : Int) (hk : 0 ≤ k ∧ k ≤ 4611686018427387904) (hs : s.length ≤ 1048576) : Ret E n_Z85 [dL s,dI k] ⟨o_Z85,(k + s.length,mkL k s.length,())⟩ := by
  refine ret_of ?_
  simp only [run_Z85,Z85.ev]
  refine Ev.start (p := fun φ n => Z85.l0 (mkR (run E (φ 0))) (φ 0) n k 0 s = _) 1 ?_ (fun _ _ _ h => h)
  have hl : ∀ j,j ≤ s.length → (mkL k j ++ s.drop j).length = s.length := fun j hj => by rw [List.length_append,mkL_length,List.length_drop]; omega
  have := fold_loop 1 (L := fun φ n j (a : Int × Sim) => Z85.l0 (mkR (run E (φ 0))) (φ 0) n a.1 j a.2) (len := s.length) (fun j => (k + (j : Int),mkL k j ++ s.drop j)) (r := some ⟨o_Z85,(k + s.length,mkL k s.length,())⟩) (fun _ _ _ _ _ => rfl) (fun j r hj ih => ?_) ?_
  · simpa [mkL] using this
  · simp only [Z85.l0_succ _ mk_ok,hl j (by omega)]
    refine ev_t (decide_eq_true (by omega)) (ev_chk (by simp; omega) ?_)
    rw [w64_succ (by omega),w64_small (by omega) (by omega),Int.toNat_natCast]
    have e : (mkL k j ++ s.drop j).set j (k + j) = mkL k (j + 1) ++ s.drop (j + 1) := by
      rw [List.drop_eq_getElem_cons hj,List.set_append_right _ _ (by rw [mkL_length]; omega),mkL_length,Nat.sub_self,List.set_cons_zero]
      unfold mkL
      rw [List.range_succ,List.map_append,List.append_assoc]; rfl
    rw [e,show k + (j : Int) + 1 = k + ((j + 1 : Nat) : Int) by omega]
    exact ih
  · simp only [Z85.l0_succ _ mk_ok,hl s.length (Nat.le_refl _)]
    refine ev_f (decide_eq_false (by omega)) (ev_some ?_)
    simp

theorem heldInt64S_ret (k : Int) (n : Nat) (hk : 0 ≤ k ∧ k ≤ 4611686018427387904) (hn : n ≤ 1048576) : Ret E n_Z82 [dL (mkL k n),dI k] ⟨o_Z82,(k + n,())⟩ := by
  refine ret_of ?_
  simp only [run_Z82,Z82.ev]
  refine Ev.start (p := fun φ m => Z82.l0 (mkR (run E (φ 0))) (φ 0) m (mkL k n) k 0 = _) 1 ?_ (fun _ _ _ h => h)
  have := fold_loop 1 (L := fun φ m j a => Z82.l0 (mkR (run E (φ 0))) (φ 0) m (mkL k n) a j) (len := n) (fun j => k + (j : Int)) (r := some ⟨o_Z82,(k + n,())⟩) (fun _ _ _ _ _ => rfl) (fun j r hj ih => ?_) ?_
  · simpa using this
  · simp only [Z82.l0_succ _ mk_ok,mkL_length]
    have hj' : j < (mkL k n).length := by rw [mkL_length]; exact hj
    refine ev_t (decide_eq_true (by omega)) (ev_bind (idx_lt hj') (ev_f (by simp [mkL_get hj']) ?_))
    rw [w64_succ (by omega),w64_small (by omega) (by omega),show k + (j : Int) + 1 = k + ((j + 1 : Nat) : Int) by omega]
    exact ih
  · simp only [Z82.l0_succ _ mk_ok,mkL_length]
    exact ev_f (decide_eq_false (by omega)) ev_rfl

def mkLL : List Sim → Int → List Sim
  | [],_ => []
  | x :: xs,k => mkL k x.length :: mkLL xs (k + x.length)
def mkN : List Sim → Int → Int
  | [],k => k
  | x :: xs,k => mkN xs (k + x.length)

theorem mkLL_length : ∀ {xs : List Sim} {k : Int},(mkLL xs k).length = xs.length
  | [],_ => rfl
  | x :: xs,k => by simp [mkLL,mkLL_length]

theorem mkN_ge : ∀ {xs : List Sim} {k : Int},(∀ x ∈ xs,x.length ≤ 1048576) → k ≤ mkN xs k ∧ mkN xs k ≤ k + 1048576 * xs.length
  | [],k,_ => by simp [mkN]
  | x :: xs,k,h => by
    have h1 := mkN_ge (xs := xs) (k := k + x.length) fun y hy => h y (List.mem_cons_of_mem _ hy)
    have h2 := h x List.mem_cons_self
    simp only [mkN,List.length_cons]; omega

theorem markRows_evt : ∀ (xs : List Sim) (k : Int),0 ≤ k → k + 1048576 * xs.length ≤ 4611686018427387904 → (∀ x ∈ xs,x.length ≤ 1048576) → Evt fun n => markRows n_Z85 (mkR (run E n)) xs k = some (mkN xs k,mkLL xs k)
  | [],k,_,_,_ => Evt.of fun _ => rfl
  | x :: xs,k,h0,hb,hx => by
    have h2 := hx x List.mem_cons_self
    simp only [List.length_cons] at hb
    have h3 := markRows_evt xs (k + x.length) (by omega) (by omega) fun y hy => hx y (List.mem_cons_of_mem _ hy)
    have h4 := markInt64S_ret x k (by omega) h2
    refine (h4.and h3).mono fun n ⟨a,b⟩ => ?_
    have a' : callT (mkR (run E n)) n_Z85 oM [⟨tL,x⟩,⟨tI,k⟩] = some (k + x.length,mkL k x.length,()) := callT_of a
    simp only [markRows,a',Option.bind_some,b,Option.map_some,mkN,mkLL]

theorem run_markSS (n : Nat) (args : List Dv) : run E (n + 1) n_Z86 args = pMarkSS n_Z85 (mkR (run E n)) args := rfl

theorem markInt64SS_ret (xs : List Sim) (k : Int) (hk : 0 ≤ k ∧ k ≤ 1125899906842624) (hs : Sm (.sl (.sl (.int .i64))) xs) : Ret E n_Z86 [dLL xs,dI k] ⟨o_Z86,(mkN xs k,mkLL xs k,())⟩ := by
  have hs1 : xs.length ≤ 1048576 := hs.1
  refine Evt.succ ((markRows_evt xs k hk.1 (by omega) fun x hx => (hs.2 x hx).1).mono fun n h => ?_)
  rw [run_markSS]
  show ((markRows n_Z85 (mkR (run E n)) xs k).map fun q => (⟨.cons tI (.cons (.sl tL) .nil),(q.1,q.2,())⟩ : Dv)) = _
  rw [h]; rfl

theorem heldInt64SS_ret (xs : List Sim) (k : Int) (hk : 0 ≤ k ∧ k ≤ 1125899906842624) (hs : Sm (.sl (.sl (.int .i64))) xs) : Ret E n_Z83 [dLL (mkLL xs k),dI k] ⟨o_Z83,(mkN xs k,())⟩ := by
  have hs1 : xs.length ≤ 1048576 := hs.1
  refine ret_of ?_
  simp only [run_Z83,Z83.ev]
  refine Ev.start (p := fun φ m => Z83.l0 (mkR (run E (φ 0))) (φ 0) m (mkLL xs k) k 0 = _) 1 ?_ (fun _ _ _ h => h)
  -- the rows that are left
  refine loopR 1 (σ := Nat × Int) (L := fun φ m s => Z83.l0 (mkR (run E (φ 0))) (φ 0) m (mkLL xs k) s.2 (s.1 : Int)) (fun _ _ _ _ => rfl) (fun s => s.1 ≤ xs.length ∧ (mkLL xs k).drop s.1 = mkLL (xs.drop s.1) s.2 ∧ mkN xs k = mkN (xs.drop s.1) s.2 ∧ k ≤ s.2 ∧ s.2 ≤ k + 1048576 * s.1) (fun _ => _) (fun s => xs.length - s.1) (fun s hi ih => ?_) (0,k) ⟨Nat.zero_le _,rfl,rfl,Int.le_refl _,by simp⟩
  obtain ⟨j,q⟩ := s
  obtain ⟨h1,h2,h3,h4,h5⟩ := hi
  simp only at h1 h2 h3 h4 h5 ih
  simp only [Z83.l0_succ _ mk_ok,mkLL_length]
  refine ev_d (fun hlt => ?_) fun hlt => ev_some ?_
  · have hj : j < xs.length := by omega
    have hj' : j < (mkLL xs k).length := by rw [mkLL_length]; exact hj
    rw [List.drop_eq_getElem_cons hj,List.drop_eq_getElem_cons hj',mkLL] at h2
    rw [List.drop_eq_getElem_cons hj,mkN] at h3
    obtain ⟨e1,e2⟩ := List.cons.inj h2
    have hx := (sm_get hs hj).1
    have hx : (xs[j]).length ≤ 1048576 := hx
    refine ev_bind (idx_lt hj') ?_
    rw [e1]
    refine ev_call (heldInt64S_ret q (xs[j]).length (by omega) hx) (ev_f (decide_eq_false (Int.not_lt.2 (by show 0 ≤ q + ((xs[j]).length : Int); omega))) ?_)
    rw [w64_succ (by omega)]
    exact ih (j + 1,q + ((xs[j]).length : Int)) ⟨by show j + 1 ≤ _; omega,e2,h3,by show k ≤ q + ((xs[j]).length : Int); omega,by show q + ((xs[j]).length : Int) ≤ k + 1048576 * ((j + 1 : Nat) : Int); omega⟩ (by show xs.length - (j + 1) < xs.length - j; omega)
  · have e : j = xs.length := by omega
    subst e
    rw [List.drop_length,mkN] at h3
    rw [h3]

end VeT

open Go Go.Proofs Ve
set_option linter.unusedVariables false
set_option linter.unusedSimpArgs false
namespace VeT

/-! marks of matrices and sheaves -/
def mkMM : List MatT → Int → List MatT
  | [],_ => []
  | x :: xs,k => (k,k + 1,k + 1 + 1,mkL (k + 1 + 1 + 1) x.2.2.2.1.length,()) :: mkMM xs (k + 1 + 1 + 1 + x.2.2.2.1.length)
def mkMN : List MatT → Int → Int
  | [],k => k
  | x :: xs,k => mkMN xs (k + 1 + 1 + 1 + x.2.2.2.1.length)

theorem mkMN_ge : ∀ {xs : List MatT} {k : Int},(∀ x ∈ xs,x.2.2.2.1.length ≤ 1048576) → k ≤ mkMN xs k ∧ mkMN xs k ≤ k + 1048579 * xs.length
  | [],k,_ => by simp [mkMN]
  | x :: xs,k,h => by
    have h1 := mkMN_ge (xs := xs) (k := k + 1 + 1 + 1 + x.2.2.2.1.length) fun y hy => h y (List.mem_cons_of_mem _ hy)
    have h2 := h x List.mem_cons_self
    simp only [mkMN,List.length_cons]; omega

theorem markRowsM_evt : ∀ (xs : List MatT) (k : Int),0 ≤ k → k + 1048579 * xs.length ≤ 4611686018427387904 → (∀ x ∈ xs,x.2.2.2.1.length ≤ 1048576) → Evt fun n => markRowsM n_Z85 (mkR (run E n)) xs k = some (mkMN xs k,mkMM xs k)
  | [],k,_,_,_ => Evt.of fun _ => rfl
  | x :: xs,k,h0,hb,hx => by
    have h2 := hx x List.mem_cons_self
    simp only [List.length_cons] at hb
    have h3 := markRowsM_evt xs (k + 1 + 1 + 1 + x.2.2.2.1.length) (by omega) (by omega) fun y hy => hx y (List.mem_cons_of_mem _ hy)
    have h4 := markInt64S_ret x.2.2.2.1 (k + 1 + 1 + 1) (by omega) h2
    refine (h4.and h3).mono fun n ⟨a,b⟩ => ?_
    have a' : callT (mkR (run E n)) n_Z85 oM [⟨tL,x.2.2.2.1⟩,⟨tI,k + 1 + 1 + 1⟩] = some (k + 1 + 1 + 1 + x.2.2.2.1.length,mkL (k + 1 + 1 + 1) x.2.2.2.1.length,()) := callT_of a
    rw [markRowsM,if_pos (by omega)]
    simp only [a',Option.bind_some,b,Option.map_some,mkMN,mkMM]

theorem run_markMS (n : Nat) (args : List Dv) : run E (n + 1) n_Z87 args = pMarkMS n_Z85 (mkR (run E n)) args := rfl

theorem markMatrixS_ret (xs : List MatT) (k : Int) (hk : 0 ≤ k ∧ k ≤ 4398046511104) (hs : Sm (.sl tM) xs) : Ret E n_Z87 [⟨.sl tM,xs⟩,⟨.int .i64,k⟩] ⟨o_Z87,(mkMN xs k,mkMM xs k,())⟩ := by
  have hs1 : xs.length ≤ 1048576 := hs.1
  refine Evt.succ ((markRowsM_evt xs k hk.1 (by omega) fun x hx => (hs.2 x hx).2.2.2.1.1).mono fun n h => ?_)
  rw [run_markMS]
  show ((markRowsM n_Z85 (mkR (run E n)) xs k).map fun q => (⟨.cons tI (.cons (.sl tM) .nil),(q.1,q.2,())⟩ : Dv)) = _
  rw [h]; rfl

theorem markComplexP_ret (xs : List Sim) (k : Int) (hk : 0 ≤ k ∧ k ≤ 1125899906842624) (hs : Sm (.sl (.sl (.int .i64))) xs) : Ret E n_Z84 [dLL xs,dI k] ⟨o_Z84,(mkN xs k,mkLL xs k,())⟩ := by
  refine ret_of ?_
  simp only [run_Z84,Z84.ev]
  exact ev_call (markInt64SS_ret xs k hk hs) ev_rfl

/-- the number behind a sheaf's marks -/
def mkSN (x : Shf) (k : Int) : Int := mkMN x.2.2.2.1 (mkN x.1 k + x.2.2.1.length)

theorem markSheaf_ret (x : Shf) (hx : Sm (.st cS) x) : ∃ a b c,Ret E n_Z88 [dLL x.1,dI x.2.1,dL x.2.2.1,dMs x.2.2.2.1,dI 1] ⟨o_Z88,(mkSN x 1,a,b,c,())⟩ ∧ 1 ≤ mkSN x 1 ∧ mkSN x 1 ≤ 4398046511104 := by
  have h1 : Sm (.sl (.sl (.int .i64))) x.1 := hx.1
  have h2 : x.2.2.1.length ≤ 1048576 := hx.2.2.1.1
  have h3 : Sm (.sl tM) x.2.2.2.1 := hx.2.2.2.1
  have l1 : x.1.length ≤ 1048576 := h1.1
  have l3 : x.2.2.2.1.length ≤ 1048576 := h3.1
  have g1 := mkN_ge (xs := x.1) (k := 1) fun y hy => (h1.2 y hy).1
  have g3 := mkMN_ge (xs := x.2.2.2.1) (k := mkN x.1 1 + x.2.2.1.length) fun y hy => (h3.2 y hy).2.2.2.1.1
  refine ⟨mkLL x.1 1,mkL (mkN x.1 1) x.2.2.1.length,mkMM x.2.2.2.1 (mkN x.1 1 + x.2.2.1.length),ret_of ?_,by unfold mkSN; omega⟩
  · simp only [run_Z88,Z88.ev]
    exact ev_call (markComplexP_ret x.1 1 (by omega) h1) (ev_call (markInt64S_ret x.2.2.1 (mkN x.1 1) (by omega) h2) (ev_call (markMatrixS_ret x.2.2.2.1 (mkN x.1 1 + x.2.2.1.length) (by omega) h3) ev_rfl))

end VeT

open Go Go.Proofs Ve
set_option linter.unusedVariables false
set_option linter.unusedSimpArgs false
namespace VeT

end VeT

open Go Go.Proofs Ve
set_option linter.unusedVariables false
set_option linter.unusedSimpArgs false
namespace VeT

/-! codes of sheaves,degrees,cochains -/
open Classical in
noncomputable def GC (x : Shf) (k : Int) : Int := if ISh x then (if 0 ≤ k ∧ k ≤ 3 then 0 else 2) else 1

theorem GC_zero {x : Shf} {k : Int} : GC x k = 0 ↔ ISh x ∧ 0 ≤ k ∧ k ≤ 3 := by
  unfold GC; split
  · rename_i h
    split
    · rename_i h2; exact ⟨fun _ => ⟨h,h2⟩,fun _ => rfl⟩
    · rename_i h2; exact ⟨fun e => by omega,fun e => absurd e.2 h2⟩
  · rename_i h; exact ⟨fun e => by omega,fun e => absurd e.1 h⟩

theorem graded_ret (x : Shf) (k : Int) (hx : Sm (.st cS) x) : Ret E n_Z44 [dLL x.1,dI x.2.1,dL x.2.2.1,dMs x.2.2.2.1,dI k] ⟨o_Z44,(GC x k,())⟩ := by
  refine ret_of ?_
  simp only [run_Z44,Z44.ev]
  refine ev_call (implIsSheaf_ret x hx) (ev_b (fun h => ev_some ?_) fun h => ev_call (isDimension_ret k) (ev_b (fun h2 => ev_some ?_) fun h2 => ev_some ?_))
  · have h := pb_not.1 (show pb (ISh x) = false by simpa using h)
    rw [GC,if_neg h]
  · have h := pb_iff.1 (show pb (ISh x) = true by simpa using h)
    have h2 := pb_not.1 (show pb (0 ≤ k ∧ k ≤ 3) = false by simpa using h2)
    rw [GC,if_pos h,if_neg h2]
  · have h := pb_iff.1 (show pb (ISh x) = true by simpa using h)
    have h2 := pb_iff.1 (show pb (0 ≤ k ∧ k ≤ 3) = true by simpa using h2)
    rw [GC,if_pos h,if_pos h2]

theorem l11Ask_ret (x : Shf) (k : Int) (hx : Sm (.st cS) x) : Ret E n_Z167 [dS x,dI k] ⟨o_Z167,(GC x k,())⟩ := by
  refine ret_of ?_
  simp only [run_Z167,Z167.ev]
  refine ev_call (l09Is_ret x hx) (ev_b (fun h => ev_some ?_) fun h => ev_call (l05Dimension_ret k) (ev_b (fun h2 => ev_some ?_) fun h2 => ev_some ?_))
  · have h := pb_not.1 (show pb (ISh x) = false by simpa using h)
    rw [GC,if_neg h]
  · have h := pb_iff.1 (show pb (ISh x) = true by simpa using h)
    have h2 := pb_not.1 (show pb (0 ≤ k ∧ k ≤ 3) = false by simpa using h2)
    rw [GC,if_pos h,if_neg h2]
  · have h := pb_iff.1 (show pb (ISh x) = true by simpa using h)
    have h2 := pb_iff.1 (show pb (0 ≤ k ∧ k ≤ 3) = true by simpa using h2)
    rw [GC,if_pos h,if_pos h2]

/-! the coboundary matrix -/
noncomputable def cobX (x : Shf) (k : Int) : Mat := cobM x.1 x.2.1 x.2.2.1 x.2.2.2.1 k

theorem VM.len {m : Mat} (h : VM m) : m.2.2.2.1.length ≤ 1024 := by
  obtain ⟨R,C,_,hR,hC,hl⟩ := h.nat
  have := rc_le hR hC
  omega

end VeT

open Go Go.Proofs Ve
set_option linter.unusedVariables false
set_option linter.unusedSimpArgs false
namespace VeT

theorem Rises.lt {s : Sim} (h : Rises s) : ∀ {i j : Nat} (hj : j < s.length) (hij : i < j),s[i] < s[j] := by
  intro i j
  induction j with
  | zero => intro _ h; omega
  | succ j ih =>
    intro hj hij
    have := h (j + 1) (by omega) hj
    rw [Nat.add_sub_cancel,getD_lt (by omega),getD_lt hj] at this
    by_cases e : i = j
    · subst e; exact this
    · exact Int.lt_trans (ih (by omega) (by omega)) this

end VeT

open Go Go.Proofs Ve
set_option linter.unusedVariables false
set_option linter.unusedSimpArgs false
namespace VeT

end VeT

open Go Go.Proofs Ve
set_option linter.unusedVariables false
set_option linter.unusedSimpArgs false
namespace VeT

end VeT

open Go Go.Proofs Ve
set_option linter.unusedVariables false
set_option linter.unusedSimpArgs false
namespace VeT

end VeT

open Go Go.Proofs Ve
set_option linter.unusedVariables false
set_option linter.unusedSimpArgs false
namespace VeT

/-! sums of rows -/
def addV (a b : Sim) (c p : Int) : Sim := (List.range a.length).map fun i => (a.getD i 0 + c * b.getD i 0) % p

end VeT

open Go Go.Proofs Ve
set_option linter.unusedVariables false
set_option linter.unusedSimpArgs false
namespace VeT

end VeT

open Go Go.Proofs Ve
set_option linter.unusedVariables false
set_option linter.unusedSimpArgs false
namespace VeT

end VeT

open Go Go.Proofs Ve
set_option linter.unusedVariables false
set_option linter.unusedSimpArgs false
namespace VeT

/-! places -/
def Plcs (c : List Sim) (w : Sim) : Prop := Rises w ∧ ∀ y ∈ w,0 ≤ y ∧ y ≤ (c.length : Int) - 1

theorem Plcs.get {c : List Sim} {w : Sim} (h : Plcs c w) {i : Nat} (hi : i < w.length) : ∃ n : Nat,w[i] = (n : Int) ∧ n < c.length := by
  have := h.2 _ (List.getElem_mem hi)
  exact ⟨(w[i]).toNat,by omega,by omega⟩

end VeT

open Go Go.Proofs Ve
set_option linter.unusedVariables false
set_option linter.unusedSimpArgs false
namespace VeT

/-! the first number -/
theorem firstN_min {P : Nat → Prop} : ∀ {d a k : Nat},firstN P a d = some k → ∀ i,a ≤ i → i < k → ¬ P i
  | 0,a,k,h => by simp [firstN] at h
  | d + 1,a,k,h => fun i h1 h2 => by
    rw [firstN] at h
    split at h
    · obtain rfl := Option.some.inj h; omega
    · rename_i hp
      by_cases e : i = a
      · subst e; exact hp
      · exact firstN_min h i (by omega) h2

end VeT

open Go Go.Proofs Ve
set_option linter.unusedVariables false
set_option linter.unusedSimpArgs false
namespace VeT

/-! remainders -/
def redV (a p : Int) : Int := Int.tmod (w64 (Int.tmod a p + p)) p

theorem redV_eq {a p : Int} (hp : 2 ≤ p ∧ p ≤ 251) (ha : -1048576 ≤ a ∧ a ≤ 1048576) : redV a p = a % p := by
  have h1 : -p < Int.tmod a p ∧ Int.tmod a p < p := by
    constructor
    · by_cases h : a < 0
      · have := Int.tmod_lt_of_pos (-a) (show 0 < p by omega)
        rw [Int.neg_tmod] at this; omega
      · have := Int.tmod_nonneg p (show 0 ≤ a by omega); omega
    · exact Int.tmod_lt_of_pos a (by omega)
  have h2 : Int.tmod a p % p = a % p := by
    have := Int.tmod_add_mul_tdiv a p
    have e : a = Int.tmod a p + p * Int.tdiv a p := this.symm
    conv => rhs; rw [e]
    rw [Int.add_mul_emod_self_left]
  unfold redV
  rw [w64_small (by omega) (by omega),Int.tmod_eq_emod_of_nonneg (by omega),Int.add_emod_right,h2]

theorem reduce_ret (a p : Int) (hp : 2 ≤ p) : Ret E n_Z62 [dI a,dI p] ⟨o_Z62,(redV a p,())⟩ := by
  refine ret_of ?_
  simp only [run_Z62,Z62.ev]
  exact ev_chk (by simp; omega) (ev_chk (by simp; omega) ev_rfl)

theorem l03Mod_ret (a p : Int) (hp : 2 ≤ p) : Ret E n_Z138 [dI a,dI p] ⟨o_Z138,(redV a p,())⟩ := by
  refine ret_of ?_
  simp only [run_Z138,Z138.ev]
  exact ev_chk (by simp; omega) (ev_chk (by simp; omega) ev_rfl)

theorem addTimes_ret (a b : Sim) (c p : Int) (hp : 2 ≤ p ∧ p ≤ 251) (hc : 0 ≤ c ∧ c ≤ 250) (hl : a.length ≤ b.length) (ha1 : a.length ≤ 1048576) (ea : ∀ x ∈ a,0 ≤ x ∧ x ≤ 250) (eb : ∀ x ∈ b,0 ≤ x ∧ x ≤ 250) :
    Ret E n_Z17 [dL a,dL b,dI c,dI p] ⟨o_Z17,(addV a b c p,())⟩ := by
  refine ret_of ?_
  simp only [run_Z17,Z17.ev]
  refine Ev.start (p := fun φ n => Z17.l0 (mkR (run E (φ 0))) (φ 0) n a b c p (a.length : Int) 0 [] = _) 1 ?_ (fun _ _ _ h => h)
  refine fold_loop 1 (L := fun φ n k o => Z17.l0 (mkR (run E (φ 0))) (φ 0) n a b c p (a.length : Int) k o) (len := a.length) (fun k => (List.range k).map fun i => (a.getD i 0 + c * b.getD i 0) % p) (fun _ _ _ _ _ => rfl) (fun k r hk ih => ?_) ?_
  · simp only [Z17.l0_succ _ mk_ok]
    have hkb : k < b.length := by omega
    have h1 := ea _ (List.getElem_mem hk)
    have h2 := mul_in hc (eb _ (List.getElem_mem hkb))
    rw [List.range_succ,List.map_append,List.map_singleton,getD_lt hk,getD_lt hkb] at ih
    refine ev_t (decide_eq_true (by omega)) (ev_bind (idx_lt hk) (ev_bind (idx_lt hkb) (ev_chk (by simp; omega) ?_)))
    rw [w64_small (n := c * b[k]) (by omega) (by omega),w64_small (by omega) (by omega),Int.tmod_eq_emod_of_nonneg (by omega),w64_succ (by omega)]
    exact ev_chk (by simp; omega) ih
  · simp only [Z17.l0_succ _ mk_ok]
    exact ev_f (decide_eq_false (by omega)) ev_rfl

/-! inverses -/
theorem sq_pow {a : Int} : ∀ k : Nat,(a * a) ^ k = a ^ (k + k)
  | 0 => by rw [Int.pow_zero,Nat.add_zero,Int.pow_zero]
  | k + 1 => by rw [Int.pow_succ,sq_pow k,show k + 1 + (k + 1) = k + k + 1 + 1 by omega,Int.pow_succ,Int.pow_succ,Int.mul_assoc]

theorem powerOf_ret (a : Int) (n : Nat) (p : Int) (hp : 2 ≤ p ∧ p ≤ 251) (ha : 0 ≤ a ∧ a ≤ p - 1) (hn : n ≤ 1048576) : Ret E n_Z59 [dI a,dI (n : Int),dI p] ⟨o_Z59,(a ^ n % p,())⟩ := by
  refine ret_of ?_
  simp only [run_Z59,Z59.ev]
  refine Ev.start (p := fun φ m => Z59.l0 (mkR (run E (φ 0))) (φ 0) m a (n : Int) p 1 = _) 1 ?_ (fun _ _ _ h => h)
  refine loopR 1 (σ := Int × Nat × Int) (L := fun φ m s => Z59.l0 (mkR (run E (φ 0))) (φ 0) m s.1 (s.2.1 : Int) p s.2.2) (fun _ _ _ _ => rfl) (fun s => (0 ≤ s.1 ∧ s.1 ≤ p - 1) ∧ s.2.1 ≤ 1048576 ∧ (0 ≤ s.2.2 ∧ s.2.2 ≤ p - 1) ∧ s.2.2 * s.1 ^ s.2.1 % p = a ^ n % p) (fun _ => _) (fun s => s.2.1) (fun s hi ih => ?_) (a,n,1) ⟨ha,hn,by show 0 ≤ (1 : Int) ∧ (1 : Int) ≤ p - 1; omega,by show 1 * a ^ n % p = _; rw [Int.one_mul]⟩
  obtain ⟨b,m,q⟩ := s
  obtain ⟨h1,h2,h3,h4⟩ := hi
  simp only at h1 h2 h3 h4 ih
  simp only [Z59.l0_succ _ mk_ok]
  have hbb := mul_in (x := b) (y := b) (by omega) (by omega)
  have hqb := mul_in (x := q) (y := b) (by omega) (by omega)
  have e1 : w64 (b * b) = b * b := w64_small (by omega) (by omega)
  have e2 : w64 (q * b) = q * b := w64_small (by omega) (by omega)
  have e3 : Int.tdiv (m : Int) 2 = ((m / 2 : Nat) : Int) := rfl
  have e4 : w64 ((m / 2 : Nat) : Int) = ((m / 2 : Nat) : Int) := w64_small (by omega) (by omega)
  have e5 : Int.tmod (m : Int) 2 = ((m % 2 : Nat) : Int) := rfl
  refine ev_d (fun hm => ?_) fun hm => ev_some ?_
  · rw [e5,e1,e2,e3,e4,Int.tmod_eq_emod_of_nonneg (by omega),Int.tmod_eq_emod_of_nonneg (by omega)]
    have hd : m / 2 < m := by omega
    refine ev_b (fun ho => ev_chk (by simp; omega) (ev_chk (by simp; omega) ?_)) fun he => ev_chk (by simp; omega) ?_
    · have ho : m % 2 = 1 := by have : ((m % 2 : Nat) : Int) = 1 := by simpa using ho
                                omega
      refine ih (b * b % p,m / 2,q * b % p) ⟨emod_in (by omega),by show m / 2 ≤ _; omega,emod_in (by omega),?_⟩ hd
      rw [← h4]
      show q * b % p * (b * b % p) ^ (m / 2) % p = _
      have hx : (q * b % p) % p = (q * b) % p := Int.emod_emod_of_dvd _ (Int.dvd_refl p)
      have hy : (b * b % p) ^ (m / 2) % p = (b * b) ^ (m / 2) % p := pow_congr (Int.emod_emod_of_dvd _ (Int.dvd_refl p)) _
      rw [mul_congr hx hy,sq_pow]
      have hm2 : m = m / 2 + m / 2 + 1 := by omega
      conv => rhs; rw [hm2,Int.pow_succ]
      rw [Int.mul_assoc,Int.mul_comm b]
    · have he : m % 2 = 0 := by
        have : ¬ ((m % 2 : Nat) : Int) = 1 := by simpa using he
        omega
      refine ih (b * b % p,m / 2,q) ⟨emod_in (by omega),by show m / 2 ≤ _; omega,h3,?_⟩ hd
      rw [← h4]
      show q * (b * b % p) ^ (m / 2) % p = _
      have hy : (b * b % p) ^ (m / 2) % p = (b * b) ^ (m / 2) % p := pow_congr (Int.emod_emod_of_dvd _ (Int.dvd_refl p)) _
      rw [mul_congr rfl hy,sq_pow]
      have hm2 : m = m / 2 + m / 2 := by omega
      conv => rhs; rw [hm2]
  · have hm : m = 0 := by omega
    subst hm
    have : q = a ^ n % p := by rw [← h4,Int.pow_zero,Int.mul_one,Int.emod_eq_of_lt (by omega) (by omega)]
    rw [this]

theorem inverseOf_ret (a p : Int) (hp : 2 ≤ p ∧ p ≤ 251) (ha : 0 ≤ a ∧ a ≤ p - 1) : Ret E n_Z47 [dI a,dI p] ⟨o_Z47,(invF a p,())⟩ := by
  have e : w64 (p - 2) = (((p - 2).toNat : Nat) : Int) := by rw [w64_small (by omega) (by omega)]; omega
  refine ret_of ?_
  simp only [run_Z47,Z47.ev,e]
  exact ev_call (powerOf_ret a (p - 2).toNat p hp ha (by omega)) ev_rfl

theorem l03Inverse_ret (a p : Int) (hp : 2 ≤ p ∧ p ≤ 251) (ha : 0 ≤ a ∧ a ≤ p - 1) : Ret E n_Z135 [dI a,dI p] ⟨o_Z135,(invF a p,())⟩ := by
  have e : w64 (p - 2) = (((p - 2).toNat : Nat) : Int) := by rw [w64_small (by omega) (by omega)]; omega
  refine ret_of ?_
  simp only [run_Z135,Z135.ev,e]
  refine Ev.start (p := fun φ m => Z135.l0 (mkR (run E (φ 0))) (φ 0) m a p 1 (((p - 2).toNat : Nat) : Int) = _) 1 ?_ (fun _ _ _ h => h)
  refine loopR 1 (σ := Nat × Int) (L := fun φ m s => Z135.l0 (mkR (run E (φ 0))) (φ 0) m a p s.2 (s.1 : Int)) (fun _ _ _ _ => rfl) (fun s => s.1 ≤ 1048576 ∧ (0 ≤ s.2 ∧ s.2 ≤ p - 1) ∧ s.2 * a ^ s.1 % p = a ^ (p - 2).toNat % p) (fun _ => _) (fun s => s.1) (fun s hi ih => ?_) ((p - 2).toNat,1) ⟨by show (p - 2).toNat ≤ _; omega,by show 0 ≤ (1 : Int) ∧ (1 : Int) ≤ p - 1; omega,by show 1 * _ % p = _; rw [Int.one_mul]⟩
  obtain ⟨m,q⟩ := s
  obtain ⟨h2,h3,h4⟩ := hi
  simp only at h2 h3 h4 ih
  simp only [Z135.l0_succ _ mk_ok]
  have hqa := mul_in (x := q) (y := a) (by omega) (by omega)
  refine ev_d (fun hm => ev_chk (by simp; omega) ?_) fun hm => ev_some ?_
  · rw [w64_small (n := q * a) (by omega) (by omega),Int.tmod_eq_emod_of_nonneg (by omega),w64_small (by omega) (by omega),show (m : Int) - 1 = ((m - 1 : Nat) : Int) by omega]
    refine ih (m - 1,q * a % p) ⟨by show m - 1 ≤ _; omega,emod_in (by omega),?_⟩ (by show m - 1 < m; omega)
    rw [← h4]
    show q * a % p * a ^ (m - 1) % p = _
    have hx : (q * a % p) % p = (q * a) % p := Int.emod_emod_of_dvd _ (Int.dvd_refl p)
    rw [mul_congr hx rfl]
    conv => rhs; rw [show m = m - 1 + 1 by omega,Int.pow_succ]
    rw [Int.mul_assoc,Int.mul_comm a]
  · have hm : m = 0 := by omega
    subst hm
    have : q = invF a p := by unfold invF; rw [← h4,Int.pow_zero,Int.mul_one,Int.emod_eq_of_lt (by omega) (by omega)]
    rw [this]

/-! rows as functions -/
theorem addV_map {f g : Nat → Int} {W : Nat} {c p : Int} : addV ((List.range W).map f) ((List.range W).map g) c p = (List.range W).map fun j => (f j + c * g j) % p := by
  unfold addV
  rw [List.length_map,List.length_range]
  refine List.map_congr_left fun j hj => ?_
  have hj := List.mem_range.1 hj
  simp [List.getD_eq_getElem?_getD,hj]

theorem zeros_map {W : Nat} : List.replicate W (0 : Int) = (List.range W).map fun _ => 0 := by
  rw [List.map_const',List.length_range]

theorem map_in {f : Nat → Int} {W : Nat} {p : Int} (hp : p ≤ 251) (h : ∀ j,j < W → 0 ≤ f j ∧ f j ≤ p - 1) : ∀ x ∈ (List.range W).map f,0 ≤ x ∧ x ≤ 250 := fun x hx => by
  obtain ⟨j,hj,rfl⟩ := List.mem_map.1 hx
  have := h j (List.mem_range.1 hj)
  omega

def pvL (l : List Nat) : Sim := l.map fun (n : Nat) => (n : Int)

theorem pvL_length {l : List Nat} : (pvL l).length = l.length := by simp [pvL]
theorem pvL_add {l : List Nat} {c : Nat} : pvL (l ++ [c]) = pvL l ++ [(c : Int)] := by simp [pvL]

theorem idxf_first {A : Ent} {R W c top : Nat} (hc : c < W) (ht : top ≤ R) : idxf (fun row : Sim => row.getD c 0 != 0) ((rowsE A R W).drop top) = o2i ((firstN (fun i => A i c ≠ 0) top (R - top)).map fun q => q - top) := by
  have hlen : ((rowsE A R W).drop top).length = R - top := by rw [List.length_drop,rowsE_length]
  have hget : ∀ k (h : k < ((rowsE A R W).drop top).length),(((rowsE A R W).drop top)[k].getD c 0 != 0) = true ↔ A (top + k) c ≠ 0 := fun k h => by
    rw [hlen] at h
    have h1 := rowsE_get (A := A) (W := W) (show top + k < R by omega)
    have h2 : ((rowsE A R W).drop top)[k]? = some ((List.range W).map (A (top + k))) := by rw [List.getElem?_drop]; exact h1
    rw [List.getElem?_eq_getElem (by rw [hlen]; exact h)] at h2
    rw [Option.some.inj h2,List.getD_eq_getElem?_getD,row_get hc]
    simp
  symm
  refine idxf_of (fun k hk => ?_) fun hno j hj ⟨hj',hP⟩ => ?_
  · cases hf : firstN (fun i => A i c ≠ 0) top (R - top) with
    | none => rw [hf] at hk; cases hk
    | some q =>
      rw [hf] at hk
      have hk : q - top = k := Option.some.inj hk
      have h1 := firstN_some hf
      have hkl : k < ((rowsE A R W).drop top).length := by rw [hlen]; omega
      refine ⟨hkl,⟨hkl,(hget k hkl).2 (by rw [show top + k = q by omega]; exact h1.2.2)⟩,fun j hj ⟨hj',hP⟩ => ?_⟩
      exact firstN_min hf (top + j) (by omega) (by omega) ((hget j hj').1 hP)
  · cases hf : firstN (fun i => A i c ≠ 0) top (R - top) with
    | none => exact firstN_none hf (top + j) (by omega) (by rw [hlen] at hj; omega) ((hget j hj').1 hP)
    | some q => rw [hf] at hno; cases hno

end VeT

open Go Go.Proofs Ve
set_option linter.unusedVariables false
set_option linter.unusedSimpArgs false
namespace VeT

theorem eliminate_1_ret (row : Sim) (c : Nat) (hc : c < row.length) : Ret E n_Z35 [dL row,⟨.ptr (.cons (.int .i64) .nil),((c : Int),())⟩] ⟨o_Z35,(row.getD c 0 != 0,())⟩ := by
  rw [getD_lt hc]
  refine ret_of ?_
  simp only [run_Z35,Z35.ev]
  exact ev_bind (idx_lt hc) ev_rfl

/-- the steps of the last loop: rows below k are done -/
def elK (p : Int) (c top k : Nat) (B : Ent) : Ent := fun i j => if i < k then elF p c top B i j else elM p c top B i j

theorem elK_zero {p : Int} {c top : Nat} {B : Ent} {R W : Nat} : rowsE (elK p c top 0 B) R W = rowsE (elM p c top B) R W := rowsE_congr fun i j _ _ => by simp [elK]
theorem elK_all {p : Int} {c top : Nat} {B : Ent} {R W : Nat} : rowsE (elK p c top R B) R W = rowsE (elF p c top B) R W := rowsE_congr fun i j hi _ => by simp [elK,hi]

theorem elSw_rows {top q R W : Nat} {A : Ent} (ht : top < R) (hq : q < R) (hne : q ≠ top) : ((rowsE A R W).set top ((List.range W).map (A q))).set q ((List.range W).map (A top)) = rowsE (elSw top q A) R W := by
  rw [rowsE_set,rowsE_set]
  refine rowsE_congr fun i j _ _ => ?_
  unfold elSw
  by_cases h1 : i = q
  · subst h1; simp [hne]
  · by_cases h2 : i = top
    · subst h2; simp [h1]
    · simp [h1,h2]

theorem elSw_self {top R W : Nat} {A : Ent} : rowsE (elSw top top A) R W = rowsE A R W := rowsE_congr fun i j _ _ => by
  unfold elSw
  by_cases h : i = top
  · subst h; simp
  · simp [h]

theorem eliminate_ret (A : Ent) (R W : Nat) (p : Int) (hp : 2 ≤ p ∧ p ≤ 251) (hR : R ≤ 1048576) (hW : W ≤ 1048576) (hA : EIn p R W A) :
    ∃ det : Int,Ret E n_Z34 [dLL (rowsE A R W),dI (W : Int),dI p] ⟨o_Z34,(pvL (elS p R A W).2,det,rowsE (elS p R A W).1 R W,())⟩ := by
  have key : ∀ d c det,c + d = W → ∃ det' : Int,Ev fun φ => Z34.l0 (mkR (run E (φ 0))) (φ 0) (φ 1) (W : Int) p det (W : Int) (c : Int) (pvL (elS p R A c).2) (rowsE (elS p R A c).1 R W) = some ⟨o_Z34,(pvL (elS p R A W).2,det',rowsE (elS p R A W).1 R W,())⟩ := by
    intro d
    induction d with
    | zero =>
      intro c det hc
      obtain rfl : c = W := by omega
      refine ⟨det,Ev.round 1 (L := fun φ n => Z34.l0 (mkR (run E (φ 0))) (φ 0) n (c : Int) p det (c : Int) (c : Int) (pvL (elS p R A c).2) (rowsE (elS p R A c).1 R c)) ?_ (fun _ _ _ => rfl)⟩
      simp only [Z34.l0_succ _ mk_ok]
      exact ev_f (decide_eq_false (by omega)) ev_rfl
    | succ d ih =>
      intro c det hcd
      have hc : c < W := by omega
      obtain ⟨hB,hpl,hpc,_⟩ := elS_in hp.1 hA c
      have hstep : elS p R A (c + 1) = elP p R c (elS p R A c) := rfl
      generalize hS : elS p R A c = S at hB hpl hpc hstep
      obtain ⟨B0,pv⟩ := S
      simp only at hB hpl hpc hstep
      have hlen : (rowsE B0 R W).length = R := rowsE_length
      have hI := IndexFunc_SSint64_Sint64_impl_eliminate_1_ret ((rowsE B0 R W).drop pv.length) (((c : Int),()),()) (fun row => row.getD c 0 != 0) (by rw [List.length_drop,hlen]; omega) fun row hrow => eliminate_1_ret row c (by
        have := List.mem_of_mem_drop hrow
        unfold rowsE at this
        obtain ⟨i,_,rfl⟩ := List.mem_map.1 this
        simpa using hc)
      rw [idxf_first hc hpl] at hI
      cases hf : firstN (fun i => B0 i c ≠ 0) pv.length (R - pv.length) with
      | none =>
        rw [hf] at hI
        have e : elS p R A (c + 1) = (B0,pv) := by rw [hstep,elP]; simp only [hf]
        obtain ⟨det',h'⟩ := ih (c + 1) 0 (by omega)
        rw [e] at h'
        refine ⟨det',Ev.round 1 (L := fun φ n => Z34.l0 (mkR (run E (φ 0))) (φ 0) n (W : Int) p det (W : Int) (c : Int) (pvL pv) (rowsE B0 R W)) ?_ (fun _ _ _ => rfl)⟩
        simp only [Z34.l0_succ _ mk_ok,pvL_length,hlen,Int.toNat_natCast]
        rw [show List.take R (rowsE B0 R W) = rowsE B0 R W from List.take_of_length_le (by omega)]
        refine ev_t (decide_eq_true (by omega)) (ev_chk (by simp only [Bool.and_eq_true,decide_eq_true_eq]; omega) (ev_call hI (ev_t rfl ?_)))
        rw [w64_succ (by omega)]
        exact h'
      | some q =>
        rw [hf] at hI
        have hq := firstN_some hf
        have e : elS p R A (c + 1) = (elF p c pv.length (elSw pv.length q B0),pv ++ [c]) := by rw [hstep,elP]; simp only [hf]
        generalize ht : pv.length = top at hI hq e hpl hpc
        have htR : top < R := by omega
        have hqR : q < R := by omega
        have hsw := hB.sw htR hqR
        have hlead : 1 ≤ elSw top q B0 top c ∧ elSw top q B0 top c ≤ p - 1 := by
          have h1 := hsw top c htR hc
          have h2 : elSw top q B0 top c = B0 q c := by simp [elSw]
          have h3 := hq.2.2
          rw [← h2] at h3
          omega
        have hI' : Ret E n_Z116 [dLL ((rowsE B0 R W).drop top),⟨.fn n_Z35 (.cons (.ptr (.cons (.int .i64) .nil)) .nil),(((c : Int),()),())⟩] ⟨o_Z116,(((q - top : Nat) : Int),())⟩ := hI
        -- what lies behind the exchange
        have back : ∀ det2,∃ det',Ev fun φ => Z34.j1 (mkR (run E (φ 0))) (φ 0) (φ 1) (W : Int) p det2 (top : Int) (W : Int) (c : Int) (c : Int) (pvL pv) (rowsE (elSw top q B0) R W) = some ⟨o_Z34,(pvL (elS p R A W).2,det',rowsE (elS p R A W).1 R W,())⟩ := fun det2 => by
          generalize elSw top q B0 = B at hsw hlead e
          obtain ⟨det',h'⟩ := ih (c + 1) (Int.tmod (w64 (det2 * B top c)) p) (by omega)
          rw [e] at h'
          simp only at h'
          rw [pvL_add,← elK_all] at h'
          have hBl : (rowsE B R W).length = R := rowsE_length
          have hNin : ∀ j,0 ≤ elN p c top B j ∧ elN p c top B j ≤ p - 1 := fun j => emod_in hp.1
          have hinv := invF_in (a := B top c) (p := p) hp.1
          have hinvR := inverseOf_ret (B top c) p hp ⟨by omega,hlead.2⟩
          have hgt := rowsE_get (A := B) (W := W) htR
          have hat : Ret E n_Z17 [dL (List.replicate W 0),dL ((List.range W).map (B top)),dI (invF (B top c) p),dI p] ⟨o_Z17,((List.range W).map (elN p c top B),())⟩ := by
            have := addTimes_ret (List.replicate W 0) ((List.range W).map (B top)) (invF (B top c) p) p hp (by omega) (by simp) (by rw [List.length_replicate]; exact hW) (fun x hx => by rw [List.mem_replicate] at hx; omega) (map_in hp.2 fun j hj => hsw top j htR hj)
            rw [zeros_map,addV_map,← zeros_map] at this
            have e2 : ((List.range W).map fun j => (0 + invF (B top c) p * B top j) % p) = (List.range W).map (elN p c top B) := List.map_congr_left fun j _ => by
              rw [Int.zero_add,Int.mul_comm]; rfl
            rw [e2] at this
            exact this
          have hset : (rowsE B R W).set top ((List.range W).map (elN p c top B)) = rowsE (elK p c top 0 B) R W := by
            rw [rowsE_set,elK_zero]; rfl
          refine ⟨det',?_⟩
          -- the loop over the rows
          have loop : Ev fun φ => Z34.j2 (mkR (run E (φ 0))) (φ 0) (φ 1) (W : Int) p (Int.tmod (w64 (det2 * B top c)) p) (top : Int) (W : Int) (c : Int) (c : Int) (pvL pv) (rowsE (elK p c top 0 B) R W) = some ⟨o_Z34,(pvL (elS p R A W).2,det',rowsE (elS p R A W).1 R W,())⟩ := by
            simp only [Z34.j2_eq _ mk_ok,rowsE_length]
            generalize Int.tmod (w64 (det2 * B top c)) p = D at h' ⊢
            refine Ev.start (p := fun φ n => Z34.l3 (mkR (run E (φ 0))) (φ 0) (φ 1) n (W : Int) p D (top : Int) (W : Int) (c : Int) (R : Int) 0 (c : Int) (pvL pv) (rowsE (elK p c top 0 B) R W) = _) 2 ?_ (fun _ _ _ h => h)
            refine fold_loop 2 (L := fun φ n i S => Z34.l3 (mkR (run E (φ 0))) (φ 0) (φ 1) n (W : Int) p D (top : Int) (W : Int) (c : Int) (R : Int) i (c : Int) (pvL pv) S) (len := R) (fun i => rowsE (elK p c top i B) R W) (fun _ _ _ _ _ => rfl) (fun i r hi ih2 => ?_) ?_
            · simp only [Z34.l3_succ _ mk_ok,rowsE_length,Int.toNat_natCast]
              have hrow : (rowsE (elK p c top i B) R W)[i]? = some ((List.range W).map (elM p c top B i)) := by
                rw [rowsE_get hi]
                have : elK p c top i B i = elM p c top B i := funext fun j => by simp [elK]
                rw [this]
              have htop : (rowsE (elK p c top i B) R W)[top]? = some ((List.range W).map (elN p c top B)) := by
                rw [rowsE_get htR]
                have : elK p c top i B top = elN p c top B := funext fun j => by simp [elK,elF,elM]
                rw [this]
              refine ev_t (decide_eq_true (by omega)) (ev_chk (by simp only [Bool.and_eq_true,decide_eq_true_eq]; omega) (ev_bind hrow ?_))
              by_cases hit : i = top
              · subst hit
                refine ev_f (by simp) ?_
                simp only [Z34.j4_eq _ mk_ok,cond_false]
                have hsame : rowsE (elK p c i (i + 1) B) R W = rowsE (elK p c i i B) R W := rowsE_congr fun k j _ _ => by
                  unfold elK
                  by_cases h1 : k = i
                  · subst h1; simp [elF,elM]
                  · by_cases h2 : k < i
                    · rw [if_pos (by omega),if_pos h2]
                    · rw [if_neg (by omega),if_neg h2]
                rw [hsame] at ih2
                rw [w64_succ (by omega)]; exact ih2
              · have hM : elM p c top B i = B i := funext fun j => by simp [elM,hit]
                rw [hM]
                have hBi := hsw i c hi hc
                refine ev_t (by simp; omega) (ev_bind (idx_nat.trans (row_get hc)) ?_)
                by_cases hz : B i c = 0
                · simp only [hz,bne_self_eq_false,Z34.j4_eq _ mk_ok,cond_false]
                  have hsame : rowsE (elK p c top (i + 1) B) R W = rowsE (elK p c top i B) R W := rowsE_congr fun k j _ _ => by
                    unfold elK
                    by_cases h1 : k = i
                    · subst h1; simp [elF,elM,hit,hz]
                    · by_cases h2 : k < i
                      · rw [if_pos (by omega),if_pos h2]
                      · rw [if_neg (by omega),if_neg h2]
                  rw [hsame] at ih2
                  rw [w64_succ (by omega)]; exact ih2
                · have hne : (B i c != 0) = true := by simpa using hz
                  have ec : w64 (p - B i c) = p - B i c := w64_small (by omega) (by omega)
                  simp only [hne,Z34.j4_eq _ mk_ok,cond_true,rowsE_length,Int.toNat_natCast]
                  refine ev_chk (by simp only [Bool.and_eq_true,decide_eq_true_eq]; omega) (ev_bind htop (ev_bind (idx_nat.trans (row_get hc)) ?_))
                  simp only [ec]
                  have hat2 := addTimes_ret ((List.range W).map (B i)) ((List.range W).map (elN p c top B)) (p - B i c) p hp (by omega) (by simp) (by simpa using hW) (map_in hp.2 fun j hj => hsw i j hi hj) (map_in hp.2 fun j _ => hNin j)
                  rw [addV_map] at hat2
                  refine ev_call hat2 (ev_chk (by simp only [Bool.and_eq_true,decide_eq_true_eq]; omega) ?_)
                  have hset2 : (rowsE (elK p c top i B) R W).set i ((List.range W).map fun j => (B i j + (p - B i c) * elN p c top B j) % p) = rowsE (elK p c top (i + 1) B) R W := by
                    rw [rowsE_set]
                    refine rowsE_congr fun k j _ _ => ?_
                    unfold elK
                    by_cases h1 : k = i
                    · subst h1; simp [elF,hit,hz]
                    · by_cases h2 : k < i
                      · rw [if_neg h1,if_pos h2,if_pos (by omega)]
                      · rw [if_neg h1,if_neg h2,if_neg (by omega)]
                  rw [w64_succ (by omega)]
                  rw [← hset2] at ih2
                  exact ih2
            · simp only [Z34.l3_succ _ mk_ok]
              refine ev_f (decide_eq_false (by omega)) (ev_chk (by simp only [pvL_length,List.length_cons,List.length_nil,decide_eq_true_eq]; omega) ?_)
              rw [w64_succ (by omega)]
              exact h'
          simp only [Z34.j1_eq _ mk_ok,rowsE_length,Int.toNat_natCast]
          have hck : (decide ((0 : Int) ≤ (top : Int)) && decide ((top : Int) < (R : Int))) = true := by simp only [Bool.and_eq_true,decide_eq_true_eq]; omega
          have hcw : (decide ((0 : Int) ≤ (W : Int)) && decide ((W : Int) * 8 ≤ 70368744177664)) = true := by simp only [Bool.and_eq_true,decide_eq_true_eq]; omega
          have fin := loop
          rw [← hset] at fin
          exact ev_chk hck (ev_bind hgt (ev_bind (idx_nat.trans (row_get hc)) (ev_chk (by simp; omega) (ev_chk hck (ev_bind hgt (ev_both (ev_chk hcw (ev_call hinvR (ev_call hat (ev_chk hck fin)))) (ev_call hinvR (ev_chk hcw (ev_call hat (ev_chk hck fin))))))))))
        by_cases hqt : q = top
        · subst hqt
          obtain ⟨det',h'⟩ := back det
          rw [elSw_self] at h'
          refine ⟨det',Ev.round 1 (L := fun φ n => Z34.l0 (mkR (run E (φ 0))) (φ 0) n (W : Int) p det (W : Int) (c : Int) (pvL pv) (rowsE B0 R W)) ?_ (fun _ _ _ => rfl)⟩
          simp only [Z34.l0_succ _ mk_ok,pvL_length,hlen,Int.toNat_natCast,ht]
          rw [show List.take R (rowsE B0 R W) = rowsE B0 R W from List.take_of_length_le (by omega)]
          refine ev_t (decide_eq_true (by omega)) (ev_chk (by simp only [Bool.and_eq_true,decide_eq_true_eq]; omega) (ev_call hI' ?_))
          rw [Nat.sub_self]
          exact ev_f rfl (ev_f rfl h')
        · obtain ⟨det',h'⟩ := back (redV (w64 (0 - det)) p)
          rw [← elSw_rows htR hqR hqt] at h'
          refine ⟨det',Ev.round 1 (L := fun φ n => Z34.l0 (mkR (run E (φ 0))) (φ 0) n (W : Int) p det (W : Int) (c : Int) (pvL pv) (rowsE B0 R W)) ?_ (fun _ _ _ => rfl)⟩
          simp only [Z34.l0_succ _ mk_ok,pvL_length,hlen,Int.toNat_natCast,ht]
          rw [show List.take R (rowsE B0 R W) = rowsE B0 R W from List.take_of_length_le (by omega)]
          have e3 : w64 ((top : Int) + ((q - top : Nat) : Int)) = (q : Int) := by rw [w64_small (by omega) (by omega)]; omega
          refine ev_t (decide_eq_true (by omega)) (ev_chk (by simp only [Bool.and_eq_true,decide_eq_true_eq]; omega) (ev_call hI' (ev_f (decide_eq_false (Int.not_lt.2 (Int.natCast_nonneg _))) (ev_t (decide_eq_true (by show (0 : Int) < ((q - top : Nat) : Int); omega)) ?_))))
          simp only [e3,Int.toNat_natCast,List.length_set,hlen]
          have hck : (decide ((0 : Int) ≤ (top : Int)) && decide ((top : Int) < (R : Int))) = true := by simp only [Bool.and_eq_true,decide_eq_true_eq]; omega
          have hckq : (decide ((0 : Int) ≤ (q : Int)) && decide ((q : Int) < (R : Int))) = true := by simp only [Bool.and_eq_true,decide_eq_true_eq]; omega
          exact ev_chk hckq (ev_bind (rowsE_get hqR) (ev_chk hck (ev_bind (rowsE_get htR) (ev_chk hck (ev_chk hckq (ev_call (reduce_ret (w64 (0 - det)) p hp.1) h'))))))
  obtain ⟨det',h⟩ := key W 0 1 (by omega)
  refine ⟨det',ret_of ?_⟩
  simp only [run_Z34,Z34.ev]
  exact Ev.start (p := fun φ n => Z34.l0 (mkR (run E (φ 0))) (φ 0) n (W : Int) p 1 (W : Int) 0 [] (rowsE A R W) = _) 1 h (fun _ _ _ h => h)

end VeT

open Go Go.Proofs Ve
set_option linter.unusedVariables false
set_option linter.unusedSimpArgs false
namespace VeT

theorem ix_eq {i W j : Nat} (h : i * W + j ≤ 4611686018427387904) : w64 (w64 ((i : Int) * (W : Int)) + (j : Int)) = ((i * W + j : Nat) : Int) := by
  rw [cast_mul,w64_small (n := ((i * W : Nat) : Int)) (by omega) (by omega),w64_small (by omega) (by omega)]; omega

/-- a flat matrix' entry,as the evaluator reads and writes it -/
theorem flat_at {A : Ent} {R W i j : Nat} (hi : i < R) (hj : j < W) (hRW : R * W ≤ 1048576) : (decide ((0 : Int) ≤ ((i * W + j : Nat) : Int)) && decide (((i * W + j : Nat) : Int) < ((flatF A W R).length : Int))) = true ∧ (flatF A W R)[i * W + j]? = some (A i j) := by
  have := lt_rc hi hj
  refine ⟨?_,flatF_getD hi hj⟩
  simp only [Bool.and_eq_true,decide_eq_true_eq,flatF_length]; omega

theorem l03Reduced_ret (p : Int) (R W : Nat) (cells : Sim) (hp : 2 ≤ p ∧ p ≤ 251) (hR : R ≤ 1048576) (hW : W ≤ 1048576) (hRW : R * W ≤ 1048576) (hl : cells.length = R * W) (he : Elems cells p) :
    ∃ det : Int,Ret E n_Z140 [dM (p,(R : Int),(W : Int),cells,())] ⟨o_Z140,(p,(R : Int),(W : Int),flatF (elS p R (entM cells W) W).1 W R,pvL (elS p R (entM cells W) W).2,det,())⟩ := by
  generalize hMt : (p,(R : Int),(W : Int),cells,()) = M
  have M1 : M.1 = p := by rw [← hMt]
  have M2 : M.2.1 = (R : Int) := by rw [← hMt]
  have M3 : M.2.2.1 = (W : Int) := by rw [← hMt]
  have M4 : M.2.2.2.1 = cells := by rw [← hMt]
  have hA := entM_in he hl
  have hfl := entM_flat hl
  generalize entM cells W = A at hA hfl
  let G : Int → Option Dv := fun det => some ⟨o_Z140,(p,(R : Int),(W : Int),flatF (elS p R A W).1 W R,pvL (elS p R A W).2,det,())⟩
  -- a column where no row is left
  have none_of : ∀ c,(elS p R A c).2.length = R → elS p R A (c + 1) = elS p R A c := fun c h => by
    show elP p R c (elS p R A c) = _
    rw [elP,h,Nat.sub_self]; rfl
  have stay : ∀ d c,c + d = W → (elS p R A c).2.length = R → elS p R A W = elS p R A c := by
    intro d
    induction d with
    | zero => intro c hc _; rw [show c = W by omega]
    | succ d ih =>
      intro c hc h
      have e := none_of c h
      rw [ih (c + 1) (by omega) (by rw [e]; exact h),e]
  have key : ∀ d c det,c + d = W → ∃ det' : Int,Ev fun φ => Z140.l1 (mkR (run E (φ 0))) (φ 0) (φ 1) M p (W : Int) det ((elS p R A c).2.length : Int) (c : Int) 0 0 0 p (R : Int) (W : Int) (pvL (elS p R A c).2) (flatF (elS p R A c).1 W R) = G det' := by
    intro d
    induction d with
    | zero =>
      intro c det hc
      obtain rfl : c = W := by omega
      refine ⟨det,Ev.round 1 (L := fun φ n => Z140.l1 (mkR (run E (φ 0))) (φ 0) n M p (c : Int) det ((elS p R A c).2.length : Int) (c : Int) 0 0 0 p (R : Int) (c : Int) (pvL (elS p R A c).2) (flatF (elS p R A c).1 c R)) ?_ (fun _ _ _ => rfl)⟩
      simp only [Z140.l1_succ _ mk_ok,Z140.j2_eq _ mk_ok,cond_false]
      exact ev_f (decide_eq_false (by omega)) ev_rfl
    | succ d ih =>
      intro c det hcd
      have hc : c < W := by omega
      obtain ⟨hB,hpl,hpc,_⟩ := elS_in hp.1 hA c
      have hstep : elS p R A (c + 1) = elP p R c (elS p R A c) := rfl
      by_cases hfull : (elS p R A c).2.length = R
      · refine ⟨det,Ev.round 1 (L := fun φ n => Z140.l1 (mkR (run E (φ 0))) (φ 0) n M p (W : Int) det ((elS p R A c).2.length : Int) (c : Int) 0 0 0 p (R : Int) (W : Int) (pvL (elS p R A c).2) (flatF (elS p R A c).1 W R)) ?_ (fun _ _ _ => rfl)⟩
        simp only [Z140.l1_succ _ mk_ok,M2,hfull,show decide ((R : Int) < (R : Int)) = false from decide_eq_false (by omega),Z140.j2_eq _ mk_ok,cond_false]
        refine ev_t (decide_eq_true (by omega)) (ev_some ?_)
        show _ = some _
        rw [stay (d + 1) c hcd hfull]
      · have htR : (elS p R A c).2.length < R := by omega
        generalize hS : elS p R A c = S at hB hpl hpc hstep hfull htR
        obtain ⟨B0,pv⟩ := S
        simp only at hB hpl hpc hstep hfull htR
        generalize ht : pv.length = top at hpl hpc hfull htR
        -- what lies behind the exchange
        have back : ∀ q,top ≤ q → q < R → B0 q c ≠ 0 → elS p R A (c + 1) = (elF p c top (elSw top q B0),pv ++ [c]) → ∀ det2,∃ det',Ev fun φ => Z140.j6 (mkR (run E (φ 0))) (φ 0) (φ 1) M p (W : Int) det2 (top : Int) (c : Int) 0 0 0 p (R : Int) (W : Int) (pvL pv) (flatF (elSw top q B0) W R) = G det' := fun q hq1 hqR hq2 e det2 => by
          have hsw := hB.sw htR hqR
          have hlead : 1 ≤ elSw top q B0 top c ∧ elSw top q B0 top c ≤ p - 1 := by
            have h1 := hsw top c htR hc
            have h2 : elSw top q B0 top c = B0 q c := by simp [elSw]
            rw [← h2] at hq2
            omega
          generalize elSw top q B0 = B at hsw hlead e
          obtain ⟨det',h'⟩ := ih (c + 1) (Int.tmod (w64 (det2 * B top c)) p) (by omega)
          rw [e] at h'
          simp only at h'
          rw [pvL_add,List.length_append,List.length_singleton,ht] at h'
          have hNin : ∀ j,0 ≤ elN p c top B j ∧ elN p c top B j ≤ p - 1 := fun j => emod_in hp.1
          have hinv := invF_in (a := B top c) (p := p) hp.1
          have hinvR := l03Inverse_ret (B top c) p hp ⟨by omega,hlead.2⟩
          have hidx : ∀ i j,i < R → j < W → i * W + j ≤ 4611686018427387904 := fun i j hi hj => by have := lt_rc hi hj; omega
          refine ⟨det',?_⟩
          simp only [Z140.j6_eq _ mk_ok,ix_eq (hidx top c htR hc),Int.toNat_natCast]
          obtain ⟨k1,k2⟩ := flat_at (A := B) htR hc hRW
          refine ev_chk k1 (ev_bind k2 (ev_chk (by simp; omega) (ev_call hinvR ?_)))
          generalize Int.tmod (w64 (det2 * B top c)) p = D at h' ⊢
          -- the loop that scales the row
          let N : Nat → Ent := fun n i j => if i = top ∧ j < n then elN p c top B j else B i j
          have hN0 : flatF (N 0) W R = flatF B W R := flatF_congr fun i j _ _ => by simp [N]
          have hNW : flatF (N W) W R = flatF (elM p c top B) W R := flatF_congr fun i j _ hj => by
            simp only [N,elM,hj,and_true]
          rw [← hN0]
          refine Ev.start (p := fun φ n => Z140.l7 (mkR (run E (φ 0))) (φ 0) (φ 1) n M p (W : Int) D (top : Int) (c : Int) (invF (B top c) p) 0 0 0 0 p (R : Int) (W : Int) (pvL pv) (flatF (N 0) W R) = _) 2 ?_ (fun _ _ _ h => h)
          refine fold_loop 2 (L := fun φ n j o => Z140.l7 (mkR (run E (φ 0))) (φ 0) (φ 1) n M p (W : Int) D (top : Int) (c : Int) (invF (B top c) p) j 0 0 0 p (R : Int) (W : Int) (pvL pv) o) (len := W) (fun j => flatF (N j) W R) (fun _ _ _ _ _ => rfl) (fun j r hj ih2 => ?_) ?_
          · simp only [Z140.l7_succ _ mk_ok,ix_eq (hidx top j htR hj),Int.toNat_natCast]
            obtain ⟨k1,k2⟩ := flat_at (A := N j) htR hj hRW
            have hNj : N j top j = B top j := by simp [N]
            rw [hNj] at k2
            have hb := hsw top j htR hj
            have ev := val_eq (x := B top j) (y := invF (B top c) p) (p := p) (by omega) (by omega) hp
            have hset : (flatF (N j) W R).set (top * W + j) (B top j * invF (B top c) p % p) = flatF (N (j + 1)) W R := by
              rw [flatF_set htR hj]
              refine flatF_congr fun k l _ _ => ?_
              simp only [N]
              by_cases h1 : k = top
              · subst h1
                by_cases h2 : l = j
                · subst h2; simp [elN]
                · simp only [true_and,h2,if_false,and_false]
                  by_cases h3 : l < j
                  · rw [if_pos h3,if_pos (by omega)]
                  · rw [if_neg h3,if_neg (by omega)]
              · simp [h1]
            refine ev_t (decide_eq_true (by omega)) (ev_chk k1 (ev_bind k2 (ev_chk (by simp; omega) (ev_chk k1 ?_))))
            simp only [ev]
            rw [w64_succ (by omega),hset]; exact ih2
          · simp only [Z140.l7_succ _ mk_ok]
            refine ev_f (decide_eq_false (by omega)) ?_
            rw [hNW]
            -- the loop over the rows
            let K : Nat → Ent := fun n i j => if i < n then elF p c top B i j else elM p c top B i j
            have hK0 : flatF (K 0) W R = flatF (elM p c top B) W R := flatF_congr fun i j _ _ => by simp [K]
            have hKR : flatF (K R) W R = flatF (elF p c top B) W R := flatF_congr fun i j hi _ => by simp [K,hi]
            rw [← hK0]
            refine Ev.start (p := fun φ n => Z140.l8 (mkR (run E (φ 0))) (φ 0) (φ 1) n M p (W : Int) D (top : Int) (c : Int) 0 0 0 0 p (R : Int) (W : Int) (pvL pv) (flatF (K 0) W R) = _) 3 ?_ (fun _ _ _ h => h)
            refine fold_loop 3 (L := fun φ n i o => Z140.l8 (mkR (run E (φ 0))) (φ 0) (φ 1) n M p (W : Int) D (top : Int) (c : Int) i 0 0 0 p (R : Int) (W : Int) (pvL pv) o) (len := R) (fun i => flatF (K i) W R) (fun _ _ _ _ _ => rfl) (fun i r hi ih2 => ?_) ?_
            · simp only [Z140.l8_succ _ mk_ok,M2,ix_eq (hidx i c hi hc),Int.toNat_natCast]
              obtain ⟨k1,k2⟩ := flat_at (A := K i) hi hc hRW
              refine ev_t (decide_eq_true (by omega)) (ev_chk k1 (ev_bind k2 ?_))
              by_cases hit : i = top
              · subst hit
                refine ev_t (by simp) ?_
                simp only [Z140.j9_eq _ mk_ok,cond_true]
                have hsame : flatF (K (i + 1)) W R = flatF (K i) W R := flatF_congr fun k j _ _ => by
                  simp only [K]
                  by_cases h1 : k = i
                  · subst h1; simp [elF,elM]
                  · by_cases h2 : k < i
                    · rw [if_pos (by omega),if_pos h2]
                    · rw [if_neg (by omega),if_neg h2]
                rw [hsame] at ih2
                rw [w64_succ (by omega)]; exact ih2
              · have hM : ∀ j,K i i j = B i j := fun j => by simp [K,elM,hit]
                rw [hM]
                have hBi := hsw i c hi hc
                refine ev_f (by simp; omega) ?_
                by_cases hz : B i c = 0
                · simp only [hz,beq_self_eq_true,Z140.j9_eq _ mk_ok,cond_true]
                  have hsame : flatF (K (i + 1)) W R = flatF (K i) W R := flatF_congr fun k j _ _ => by
                    simp only [K]
                    by_cases h1 : k = i
                    · subst h1; simp [elF,elM,hit,hz]
                    · by_cases h2 : k < i
                      · rw [if_pos (by omega),if_pos h2]
                      · rw [if_neg (by omega),if_neg h2]
                  rw [hsame] at ih2
                  rw [w64_succ (by omega)]; exact ih2
                · have hne : (B i c == 0) = false := by simpa using hz
                  simp only [hne,Z140.j9_eq _ mk_ok,cond_false]
                  let Q : Nat → Ent := fun n k j => if k = i ∧ j < n then elF p c top B i j else K i k j
                  have hQ0 : flatF (Q 0) W R = flatF (K i) W R := flatF_congr fun k j _ _ => by simp [Q]
                  have hQW : flatF (Q W) W R = flatF (K (i + 1)) W R := flatF_congr fun k j _ hj => by
                    simp only [Q,K,hj,and_true]
                    by_cases h1 : k = i
                    · subst h1; simp
                    · by_cases h2 : k < i
                      · rw [if_neg h1,if_pos h2,if_pos (by omega)]
                      · rw [if_neg h1,if_neg h2,if_neg (by omega)]
                  rw [← hQ0]
                  refine Ev.start (p := fun φ n => Z140.l10 (mkR (run E (φ 0))) (φ 0) (φ 1) (φ 3) n M p (W : Int) D (top : Int) (c : Int) (i : Int) (B i c) 0 0 0 0 p (R : Int) (W : Int) (pvL pv) (flatF (Q 0) W R) = _) 4 ?_ (fun _ _ _ h => h)
                  refine fold_loop 4 (L := fun φ n j o => Z140.l10 (mkR (run E (φ 0))) (φ 0) (φ 1) (φ 3) n M p (W : Int) D (top : Int) (c : Int) (i : Int) (B i c) j 0 0 0 p (R : Int) (W : Int) (pvL pv) o) (len := W) (fun j => flatF (Q j) W R) (fun _ _ _ _ _ => rfl) (fun j r2 hj ih3 => ?_) ?_
                  · simp only [Z140.l10_succ _ mk_ok,ix_eq (hidx i j hi hj),ix_eq (hidx top j htR hj),Int.toNat_natCast]
                    obtain ⟨k1,k2⟩ := flat_at (A := Q j) hi hj hRW
                    obtain ⟨k3,k4⟩ := flat_at (A := Q j) htR hj hRW
                    have q1 : Q j i j = B i j := by simp only [Q,Nat.lt_irrefl,and_false,if_false]; exact hM j
                    have q2 : Q j top j = elN p c top B j := by
                      have : ¬ top = i := fun e => hit e.symm
                      simp [Q,K,this,elF,elM]
                    rw [q1] at k2
                    rw [q2] at k4
                    have hbij := hsw i j hi hj
                    have hnj := hNin j
                    have hm := mul_in (x := B i c) (y := elN p c top B j) (by omega) (by omega)
                    have e1 : w64 (B i c * elN p c top B j) = B i c * elN p c top B j := w64_small (by omega) (by omega)
                    have e2 : w64 (B i j - B i c * elN p c top B j) = B i j - B i c * elN p c top B j := w64_small (by omega) (by omega)
                    have e3 : redV (B i j - B i c * elN p c top B j) p = elF p c top B i j := by
                      rw [redV_eq hp (by omega)]
                      unfold elF
                      rw [if_neg hit,if_pos hz]
                      have : B i j + (p - B i c) * elN p c top B j = B i j - B i c * elN p c top B j + p * elN p c top B j := by rw [Int.sub_mul]; omega
                      rw [this,Int.add_mul_emod_self_left]
                    have hmod := l03Mod_ret (B i j - B i c * elN p c top B j) p hp.1
                    rw [e3] at hmod
                    have hset : (flatF (Q j) W R).set (i * W + j) (elF p c top B i j) = flatF (Q (j + 1)) W R := by
                      rw [flatF_set hi hj]
                      refine flatF_congr fun k l _ _ => ?_
                      simp only [Q]
                      by_cases h1 : k = i
                      · subst h1
                        by_cases h2 : l = j
                        · subst h2; simp
                        · simp only [true_and,h2,if_false,and_false]
                          by_cases h3 : l < j
                          · rw [if_pos h3,if_pos (by omega)]
                          · rw [if_neg h3,if_neg (by omega)]
                      · simp [h1]
                    refine ev_t (decide_eq_true (by omega)) (ev_chk k1 (ev_bind k2 (ev_chk k3 (ev_bind k4 ?_))))
                    simp only [e1,e2]
                    refine ev_call hmod (ev_chk k1 ?_)
                    rw [w64_succ (by omega)]
                    rw [← hset] at ih3
                    exact ih3
                  · simp only [Z140.l10_succ _ mk_ok]
                    refine ev_f (decide_eq_false (by omega)) ?_
                    rw [w64_succ (by omega),hQW]; exact ih2
            · simp only [Z140.l8_succ _ mk_ok,M2]
              refine ev_f (decide_eq_false (by omega)) (ev_chk (by simp only [pvL_length,List.length_cons,List.length_nil,decide_eq_true_eq]; omega) ?_)
              rw [w64_succ (by omega),w64_succ (by omega),hKR]
              exact h'
        have hidx : ∀ i j,i < R → j < W → i * W + j ≤ 4611686018427387904 := fun i j hi hj => by have := lt_rc hi hj; omega
        -- the search for the row
        have search : ∀ rs : Nat → Option Dv,∀ rn : Option Dv,(∀ q,top ≤ q → q < R → B0 q c ≠ 0 → (∀ i,top ≤ i → i < q → ¬ B0 i c ≠ 0) → Ev fun φ => Z140.j4 (mkR (run E (φ 0))) (φ 0) (φ 1) (φ 2) M p (W : Int) det (top : Int) (c : Int) (q : Int) false 0 0 0 p (R : Int) (W : Int) (pvL pv) (flatF B0 W R) = rs q) →
            ((∀ i,top ≤ i → i < R → ¬ B0 i c ≠ 0) → Ev fun φ => Z140.j4 (mkR (run E (φ 0))) (φ 0) (φ 1) (φ 2) M p (W : Int) det (top : Int) (c : Int) (R : Int) false 0 0 0 p (R : Int) (W : Int) (pvL pv) (flatF B0 W R) = rn) →
            Ev fun φ => Z140.l3 (mkR (run E (φ 0))) (φ 0) (φ 1) (φ 0) M p (W : Int) det (top : Int) (c : Int) (top : Int) 0 0 0 p (R : Int) (W : Int) (pvL pv) (flatF B0 W R) = orN rs rn (firstN (fun i => B0 i c ≠ 0) top (R - top)) := fun rs rn hs hn => by
          refine Ev.start (p := fun φ n => Z140.l3 (mkR (run E (φ 0))) (φ 0) (φ 1) n M p (W : Int) det (top : Int) (c : Int) (top : Int) 0 0 0 p (R : Int) (W : Int) (pvL pv) (flatF B0 W R) = _) 2 ?_ (fun _ _ _ h => h)
          -- the first one is kept in mind by the number of the round
          have go : ∀ d a,top ≤ a → a + d = R → (∀ i,top ≤ i → i < a → ¬ B0 i c ≠ 0) → Ev fun φ => Z140.l3 (mkR (run E (φ 0))) (φ 0) (φ 1) (φ 2) M p (W : Int) det (top : Int) (c : Int) (a : Int) 0 0 0 p (R : Int) (W : Int) (pvL pv) (flatF B0 W R) = orN rs rn (firstN (fun i => B0 i c ≠ 0) a d) := by
            intro d
            induction d with
            | zero =>
              intro a ha hk hno
              obtain rfl : a = R := by omega
              refine Ev.round 2 (L := fun φ n => Z140.l3 (mkR (run E (φ 0))) (φ 0) (φ 1) n M p (W : Int) det (top : Int) (c : Int) (a : Int) 0 0 0 p (a : Int) (W : Int) (pvL pv) (flatF B0 W a)) ?_ (fun _ _ _ => rfl)
              simp only [Z140.l3_succ _ mk_ok,M2]
              exact ev_f (decide_eq_false (by omega)) (hn hno)
            | succ d ih3 =>
              intro a ha hk hno
              have haR : a < R := by omega
              refine Ev.round 2 (L := fun φ n => Z140.l3 (mkR (run E (φ 0))) (φ 0) (φ 1) n M p (W : Int) det (top : Int) (c : Int) (a : Int) 0 0 0 p (R : Int) (W : Int) (pvL pv) (flatF B0 W R)) ?_ (fun _ _ _ => rfl)
              simp only [Z140.l3_succ _ mk_ok,M2,ix_eq (hidx a c haR hc),Int.toNat_natCast]
              obtain ⟨k1,k2⟩ := flat_at (A := B0) haR hc hRW
              refine ev_t (decide_eq_true (by omega)) (ev_chk k1 (ev_bind k2 ?_))
              rw [firstN]
              by_cases hz : B0 a c = 0
              · rw [if_neg (by simpa using hz)]
                simp only [hz,beq_self_eq_true,Z140.j4_eq _ mk_ok,cond_true]
                rw [w64_succ (by omega)]
                refine ih3 (a + 1) (by omega) (by omega) fun i h1 h2 => ?_
                by_cases e : i = a
                · subst e; simpa using hz
                · exact hno i h1 (by omega)
              · rw [if_pos hz]
                have hne : (B0 a c == 0) = false := by simpa using hz
                simp only [hne]
                exact hs a ha haR hz hno
          exact go (R - top) top (Nat.le_refl _) (by omega) fun i h1 h2 => by omega
        have enter : ∀ r,(Ev fun φ => Z140.l3 (mkR (run E (φ 0))) (φ 0) (φ 1) (φ 0) M p (W : Int) det (top : Int) (c : Int) (top : Int) 0 0 0 p (R : Int) (W : Int) (pvL pv) (flatF B0 W R) = r) → Ev fun φ => Z140.l1 (mkR (run E (φ 0))) (φ 0) (φ 1) M p (W : Int) det (top : Int) (c : Int) 0 0 0 p (R : Int) (W : Int) (pvL pv) (flatF B0 W R) = r := fun r hr => by
          refine Ev.round 1 (L := fun φ n => Z140.l1 (mkR (run E (φ 0))) (φ 0) n M p (W : Int) det (top : Int) (c : Int) 0 0 0 p (R : Int) (W : Int) (pvL pv) (flatF B0 W R)) ?_ (fun _ _ _ => rfl)
          simp only [Z140.l1_succ _ mk_ok,M2,show decide ((top : Int) < (R : Int)) = true from decide_eq_true (by omega),Z140.j2_eq _ mk_ok,cond_true]
          exact ev_t (decide_eq_true (by omega)) hr
        cases hf : firstN (fun i => B0 i c ≠ 0) top (R - top) with
        | none =>
          have e : elS p R A (c + 1) = (B0,pv) := by rw [hstep,elP]; simp only [ht,hf]
          obtain ⟨det',h'⟩ := ih (c + 1) det (by omega)
          rw [e] at h'
          simp only [ht] at h'
          refine ⟨det',enter _ ?_⟩
          have := search (fun _ => G det') (G det') (fun q h1 h2 h3 _ => absurd h3 (firstN_none hf q h1 (by omega))) fun _ => by
            simp only [Z140.j4_eq _ mk_ok,cond_false,M2]
            refine ev_t (by simp) ?_
            rw [w64_succ (by omega)]; exact h'
          rw [hf] at this
          exact this
        | some q =>
          have hq := firstN_some hf
          have hqR : q < R := by omega
          have e : elS p R A (c + 1) = (elF p c top (elSw top q B0),pv ++ [c]) := by rw [hstep,elP]; simp only [ht,hf]
          by_cases hqt : q = top
          · subst hqt
            obtain ⟨det',h'⟩ := back q (Nat.le_refl _) hqR hq.2.2 e det
            have hself : flatF (elSw q q B0) W R = flatF B0 W R := flatF_congr fun i j _ _ => by
              unfold elSw
              by_cases h : i = q
              · subst h; simp
              · simp [h]
            rw [hself] at h'
            refine ⟨det',enter _ ?_⟩
            have := search (fun _ => G det') (G det') (fun q' h1 h2 h3 h4 => by
              obtain rfl : q' = q := Classical.byContradiction fun hne => h4 q (Nat.le_refl _) (by omega) hq.2.2
              simp only [Z140.j4_eq _ mk_ok,cond_false,M2]
              exact ev_f (by simp; omega) (ev_f (by simp) h')) fun hno => absurd hq.2.2 (hno q (Nat.le_refl _) hqR)
            rw [hf] at this
            exact this
          · obtain ⟨det',h'⟩ := back q hq.1 hqR hq.2.2 e (w64 (p - det))
            refine ⟨det',enter _ ?_⟩
            have := search (fun _ => G det') (G det') (fun q' h1 h2 h3 h4 => by
              obtain rfl : q' = q := by
                rcases Nat.lt_trichotomy q' q with h | h | h
                · exact absurd h3 (firstN_min hf q' h1 h)
                · exact h
                · exact absurd hq.2.2 (h4 q hq.1 h)
              simp only [Z140.j4_eq _ mk_ok,cond_false,M2]
              refine ev_f (by simp; omega) (ev_t (by simp; omega) ?_)
              -- the loop that exchanges the rows
              let X : Nat → Ent := fun n i j => if j < n then elSw top q' B0 i j else B0 i j
              have hX0 : flatF (X 0) W R = flatF B0 W R := flatF_congr fun i j _ _ => by simp [X]
              have hXW : flatF (X W) W R = flatF (elSw top q' B0) W R := flatF_congr fun i j _ hj => by simp [X,hj]
              rw [← hX0]
              refine Ev.start (p := fun φ n => Z140.l5 (mkR (run E (φ 0))) (φ 0) (φ 1) n M p (W : Int) (w64 (p - det)) (top : Int) (c : Int) (q' : Int) 0 0 0 0 p (R : Int) (W : Int) (pvL pv) (flatF (X 0) W R) = _) 3 ?_ (fun _ _ _ h => h)
              refine fold_loop 3 (L := fun φ n j o => Z140.l5 (mkR (run E (φ 0))) (φ 0) (φ 1) n M p (W : Int) (w64 (p - det)) (top : Int) (c : Int) (q' : Int) j 0 0 0 p (R : Int) (W : Int) (pvL pv) o) (len := W) (fun j => flatF (X j) W R) (fun _ _ _ _ _ => rfl) (fun j r hj ih3 => ?_) ?_
              · simp only [Z140.l5_succ _ mk_ok,ix_eq (hidx q' j hqR hj),ix_eq (hidx top j htR hj),Int.toNat_natCast,List.length_set]
                obtain ⟨k1,k2⟩ := flat_at (A := X j) hqR hj hRW
                obtain ⟨k3,k4⟩ := flat_at (A := X j) htR hj hRW
                have x1 : X j q' j = B0 q' j := by simp [X]
                have x2 : X j top j = B0 top j := by simp [X]
                rw [x1] at k2
                rw [x2] at k4
                have hset : ((flatF (X j) W R).set (q' * W + j) (B0 top j)).set (top * W + j) (B0 q' j) = flatF (X (j + 1)) W R := by
                  rw [flatF_set hqR hj,flatF_set htR hj]
                  refine flatF_congr fun k l _ _ => ?_
                  simp only [X]
                  by_cases hl : l = j
                  · subst hl
                    by_cases hk1 : k = top
                    · subst hk1; simp [elSw]
                    · by_cases hk2 : k = q'
                      · subst hk2; simp [elSw,hk1]
                      · simp [elSw,hk1,hk2]
                  · simp only [hl,and_false,if_false]
                    by_cases h3 : l < j
                    · rw [if_pos h3,if_pos (by omega)]
                    · rw [if_neg h3,if_neg (by omega)]
                refine ev_t (decide_eq_true (by omega)) (ev_chk k1 (ev_bind k2 (ev_chk k3 (ev_bind k4 (ev_chk k1 (ev_chk k3 ?_))))))
                rw [w64_succ (by omega),hset]; exact ih3
              · simp only [Z140.l5_succ _ mk_ok]
                refine ev_f (decide_eq_false (by omega)) ?_
                rw [hXW]; exact h') fun hno => absurd hq.2.2 (hno q hq.1 hqR)
            rw [hf] at this
            exact this
  obtain ⟨det',h⟩ := key W 0 1 (by omega)
  refine ⟨det',ret_of ?_⟩
  have h0 : flatF (elS p R A 0).1 W R = cells := hfl
  rw [h0] at h
  simp only [run_Z140,Z140.ev,Z140.j0_eq _ mk_ok,M1,M2,M3,M4]
  have own := l00Own_ret cells (by omega)
  have st := Ev.start (p := fun φ n => Z140.l1 (mkR (run E (φ 0))) (φ 0) n M p (W : Int) 1 0 0 0 0 0 p (R : Int) (W : Int) [] cells = G det') 1 h (fun _ _ _ h => h)
  exact ev_both (ev_call own st) (ev_call own st)

end VeT

open Go Go.Proofs Ve
set_option linter.unusedVariables false
set_option linter.unusedSimpArgs false
namespace VeT

theorem row_ent {cells : Sim} {R C i : Nat} (hl : cells.length = R * C) (hi : i < R) : (cells.take ((i + 1) * C)).drop (i * C) = (List.range C).map (entM cells C i) := by
  have h := flatF_row (f := entM cells C) (C := C) hi
  rw [entM_flat hl] at h
  exact h

theorem rowsOfG_ret (p : Int) (R C : Nat) (cells : Sim) (hl : cells.length = R * C) (hR : R ≤ 1048576) (hC : C ≤ 1048576) (hRC : R * C ≤ 1048576) : Ret E n_Z63 [dI p,dI (R : Int),dI (C : Int),dL cells] ⟨o_Z63,(rowsE (entM cells C) R C,())⟩ := by
  refine ret_of ?_
  simp only [run_Z63,Z63.ev]
  refine Ev.start (p := fun φ n => Z63.l0 (mkR (run E (φ 0))) (φ 0) n (R : Int) 0 p (R : Int) (C : Int) cells [] = _) 1 ?_ (fun _ _ _ h => h)
  refine fold_loop 1 (L := fun φ n k a => Z63.l0 (mkR (run E (φ 0))) (φ 0) n (R : Int) k p (R : Int) (C : Int) cells a) (len := R) (fun k => rowsE (entM cells C) k C) (fun _ _ _ _ _ => rfl) (fun k r hk ih => ?_) ?_
  · simp only [Z63.l0_succ _ mk_ok]
    have hle : (k + 1) * C ≤ R * C := Nat.mul_le_mul_right _ hk
    have e : rowsE (entM cells C) (k + 1) C = rowsE (entM cells C) k C ++ [(List.range C).map (entM cells C k)] := by
      unfold rowsE; rw [List.range_succ,List.map_append]; rfl
    rw [e,← row_ent hl hk] at ih
    refine ev_t (decide_eq_true (by omega)) (ev_call (Mat_row_ret p _ C cells k (by omega) (by omega) (by omega)) (ev_call (Clone_ret _ (by rw [List.length_drop,List.length_take]; omega)) (ev_chk (by simp [rowsE_length]; omega) ?_)))
    rw [w64_succ (by omega)]; exact ih
  · simp only [Z63.l0_succ _ mk_ok]
    exact ev_f (decide_eq_false (by omega)) ev_rfl

/-! kernels -/
def kerSt (p : Int) (pv : List Nat) (F : Ent) (c n : Nat) : St := (List.range n).map fun i => (pv.getD i 0,(0 - F i c) % p)
def kerX (p : Int) (W : Nat) (pv : List Nat) (F : Ent) (c n : Nat) : Sim := upds (kerSt p pv F c n) ((List.replicate W 0).set c 1)

open Classical in
noncomputable def kerL (p : Int) (W : Nat) (pv : List Nat) (F : Ent) : Nat → List Sim
  | 0 => []
  | c + 1 => kerL p W pv F c ++ if c ∈ pv then [] else [kerX p W pv F c pv.length]

theorem kerX_succ {p : Int} {W : Nat} {pv : List Nat} {F : Ent} {c n : Nat} : kerX p W pv F c (n + 1) = (kerX p W pv F c n).set (pv.getD n 0) ((0 - F n c) % p) := by
  unfold kerX kerSt
  rw [List.range_succ,List.map_append,upds_append]; rfl

theorem kerX_length {p : Int} {W : Nat} {pv : List Nat} {F : Ent} {c n : Nat} : (kerX p W pv F c n).length = W := by
  unfold kerX; rw [upds_length,List.length_set,List.length_replicate]

theorem kerL_length {p : Int} {W : Nat} {pv : List Nat} {F : Ent} : ∀ {n : Nat},(kerL p W pv F n).length ≤ n
  | 0 => by simp [kerL]
  | n + 1 => by
    have := kerL_length (p := p) (W := W) (pv := pv) (F := F) (n := n)
    rw [kerL,List.length_append]; split <;> simp <;> omega

theorem kerL_mem {p : Int} {W : Nat} {pv : List Nat} {F : Ent} (hp : 2 ≤ p) : ∀ {n : Nat} {x : Sim},x ∈ kerL p W pv F n → x.length = W ∧ Elems x p
  | 0,x,h => by simp [kerL] at h
  | n + 1,x,h => by
    rw [kerL,List.mem_append] at h
    rcases h with h | h
    · exact kerL_mem hp h
    · split at h
      · simp at h
      · rw [List.mem_singleton] at h
        subst h
        refine ⟨kerX_length,upds_elems (fun y hy => ?_) fun q hq => ?_⟩
        · rcases List.mem_or_eq_of_mem_set hy with hy | rfl
          · rw [List.mem_replicate] at hy; omega
          · omega
        · obtain ⟨i,_,rfl⟩ := List.mem_map.1 hq
          exact emod_in hp

theorem pvL_mem {l : List Nat} {c : Nat} : (c : Int) ∈ pvL l ↔ c ∈ l := by
  unfold pvL
  rw [List.mem_map]
  exact ⟨fun ⟨a, h, e⟩ => by obtain rfl : a = c := by omega
                             exact h,fun h => ⟨c,h,rfl⟩⟩

theorem pvL_get {l : List Nat} {i : Nat} (hi : i < l.length) : (pvL l)[i]? = some ((l.getD i 0 : Nat) : Int) := by
  unfold pvL
  rw [List.getElem?_map,List.getElem?_eq_getElem hi,getD_lt hi]; rfl

theorem getD_mem {l : List Nat} {i : Nat} (hi : i < l.length) : l.getD i 0 ∈ l := by
  rw [getD_lt hi]; exact List.getElem_mem hi

/-- the kernel of a matrix -/
noncomputable def kerM (p : Int) (R W : Nat) (cells : Sim) : List Sim := kerL p W (elS p R (entM cells W) W).2 (elS p R (entM cells W) W).1 W

theorem kernel_ret (p : Int) (R W : Nat) (cells : Sim) (hp : 2 ≤ p ∧ p ≤ 251) (hR : R ≤ 1048576) (hW : W ≤ 1048576) (hRW : R * W ≤ 1048576) (hl : cells.length = R * W) (he : Elems cells p) :
    Ret E n_Z56 [dI p,dI (R : Int),dI (W : Int),dL cells] ⟨o_Z56,(kerM p R W cells,())⟩ := by
  have hA := entM_in he hl
  obtain ⟨det,hel⟩ := eliminate_ret (entM cells W) R W p hp hR hW hA
  obtain ⟨hF,hpl,hpc,hpv⟩ := elS_in hp.1 hA W
  refine ret_of ?_
  simp only [run_Z56,Z56.ev]
  refine ev_call (rowsOfG_ret p R W cells hl hR hW hRW) (ev_call hel ?_)
  unfold kerM
  generalize elS p R (entM cells W) W = S at hF hpl hpc hpv
  obtain ⟨F,pv⟩ := S
  simp only at hF hpl hpc hpv
  refine Ev.start (p := fun φ n => Z56.l0 (mkR (run E (φ 0))) (φ 0) n (pvL pv) (W : Int) 0 p (R : Int) (W : Int) cells [] (rowsE F R W) = _) 1 ?_ (fun _ _ _ h => h)
  refine fold_loop 1 (L := fun φ n c o => Z56.l0 (mkR (run E (φ 0))) (φ 0) n (pvL pv) (W : Int) c p (R : Int) (W : Int) cells o (rowsE F R W)) (len := W) (fun c => kerL p W pv F c) (fun _ _ _ _ _ => rfl) (fun c r hc ih => ?_) ?_
  · simp only [Z56.l0_succ _ mk_ok,Int.toNat_natCast,List.length_replicate]
    rw [kerL] at ih
    refine ev_t (decide_eq_true (by omega)) (ev_call (Contains_ret (pvL pv) (c : Int) (by rw [pvL_length]; omega)) (ev_b (fun h => ?_) fun h => ?_))
    · rw [if_pos (pvL_mem.1 (pb_iff.1 h)),List.append_nil] at ih
      rw [w64_succ (by omega)]; exact ih
    · rw [if_neg (mt pvL_mem.2 (pb_not.1 h))] at ih
      refine ev_chk (by simp only [Bool.and_eq_true,decide_eq_true_eq]; omega) (ev_chk (by simp only [Bool.and_eq_true,decide_eq_true_eq]; omega) ?_)
      have hkl := kerL_length (p := p) (W := W) (pv := pv) (F := F) (n := c)
      generalize kerL p W pv F c = K at ih hkl ⊢
      refine Ev.start (p := fun φ n => Z56.l1 (mkR (run E (φ 0))) (φ 0) (φ 1) n (pvL pv) (c : Int) (W : Int) (c : Int) (pvL pv) ((pvL pv).length : Int) 0 p (R : Int) (W : Int) cells ((List.replicate W 0).set c 1) K (rowsE F R W) = _) 2 ?_ (fun _ _ _ h => h)
      refine fold_loop 2 (L := fun φ n i x => Z56.l1 (mkR (run E (φ 0))) (φ 0) (φ 1) n (pvL pv) (c : Int) (W : Int) (c : Int) (pvL pv) ((pvL pv).length : Int) i p (R : Int) (W : Int) cells x K (rowsE F R W)) (len := pv.length) (fun i => kerX p W pv F c i) (fun _ _ _ _ _ => rfl) (fun i q hi ih2 => ?_) ?_
      · simp only [Z56.l1_succ _ mk_ok,pvL_length,rowsE_length,Int.toNat_natCast,kerX_length]
        have hiR : i < R := by omega
        have hFi := hF i c hiR hc
        have hpi := hpv _ (getD_mem hi)
        have e0 : w64 (0 - F i c) = 0 - F i c := w64_small (by omega) (by omega)
        have hred := reduce_ret (0 - F i c) p hp.1
        rw [redV_eq hp (by omega)] at hred
        rw [kerX_succ] at ih2
        simp only [pvL_length] at ih2
        refine ev_t (decide_eq_true (by omega)) (ev_bind (idx_nat.trans (pvL_get hi)) (ev_chk (by simp only [Bool.and_eq_true,decide_eq_true_eq]; omega) (ev_bind (rowsE_get hiR) (ev_bind (idx_nat.trans (row_get hc)) ?_))))
        simp only [e0,Int.toNat_natCast]
        refine ev_call hred (ev_chk (by simp only [Bool.and_eq_true,decide_eq_true_eq]; omega) ?_)
        rw [w64_succ (by omega)]; exact ih2
      · simp only [Z56.l1_succ _ mk_ok,pvL_length]
        refine ev_f (decide_eq_false (by omega)) (ev_chk (by simp only [List.length_cons,List.length_nil,decide_eq_true_eq]; omega) ?_)
        rw [w64_succ (by omega)]; exact ih
  · simp only [Z56.l0_succ _ mk_ok]
    exact ev_f (decide_eq_false (by omega)) ev_rfl

theorem l03Kernel_ret (p : Int) (R W : Nat) (cells : Sim) (hp : 2 ≤ p ∧ p ≤ 251) (hR : R ≤ 1048576) (hW : W ≤ 1048576) (hRW : R * W ≤ 1048576) (hl : cells.length = R * W) (he : Elems cells p) :
    Ret E n_Z137 [dM (p,(R : Int),(W : Int),cells,())] ⟨o_Z137,(kerM p R W cells,())⟩ := by
  have hA := entM_in he hl
  obtain ⟨det,hel⟩ := l03Reduced_ret p R W cells hp hR hW hRW hl he
  obtain ⟨hF,hpl,hpc,hpv⟩ := elS_in hp.1 hA W
  refine ret_of ?_
  simp only [run_Z137,Z137.ev]
  refine ev_call hel ?_
  unfold kerM
  generalize elS p R (entM cells W) W = S at hF hpl hpc hpv
  obtain ⟨F,pv⟩ := S
  simp only at hF hpl hpc hpv
  generalize hMt : (p,(R : Int),(W : Int),cells,()) = M
  have M1 : M.1 = p := by rw [← hMt]
  have M3 : M.2.2.1 = (W : Int) := by rw [← hMt]
  refine Ev.start (p := fun φ n => Z137.l0 (mkR (run E (φ 0))) (φ 0) n M (pvL pv) 0 p (R : Int) (W : Int) (flatF F W R) [] = _) 1 ?_ (fun _ _ _ h => h)
  refine fold_loop 1 (L := fun φ n c o => Z137.l0 (mkR (run E (φ 0))) (φ 0) n M (pvL pv) c p (R : Int) (W : Int) (flatF F W R) o) (len := W) (fun c => kerL p W pv F c) (fun _ _ _ _ _ => rfl) (fun c r hc ih => ?_) ?_
  · simp only [Z137.l0_succ _ mk_ok,M3,Int.toNat_natCast,List.length_replicate]
    rw [kerL] at ih
    refine ev_t (decide_eq_true (by omega)) (ev_call (l00Has_ret (pvL pv) (c : Int) (by rw [pvL_length]; omega)) (ev_b (fun h => ?_) fun h => ?_))
    · rw [if_pos (pvL_mem.1 (pb_iff.1 h)),List.append_nil] at ih
      rw [w64_succ (by omega)]; exact ih
    · rw [if_neg (mt pvL_mem.2 (pb_not.1 h))] at ih
      refine ev_chk (by simp only [Bool.and_eq_true,decide_eq_true_eq]; omega) (ev_chk (by simp only [Bool.and_eq_true,decide_eq_true_eq]; omega) ?_)
      have hkl := kerL_length (p := p) (W := W) (pv := pv) (F := F) (n := c)
      generalize kerL p W pv F c = K at ih hkl ⊢
      refine Ev.start (p := fun φ n => Z137.l1 (mkR (run E (φ 0))) (φ 0) (φ 1) n M (pvL pv) (c : Int) 0 p (R : Int) (W : Int) (flatF F W R) K ((List.replicate W 0).set c 1) = _) 2 ?_ (fun _ _ _ h => h)
      refine fold_loop 2 (L := fun φ n i x => Z137.l1 (mkR (run E (φ 0))) (φ 0) (φ 1) n M (pvL pv) (c : Int) i p (R : Int) (W : Int) (flatF F W R) K x) (len := pv.length) (fun i => kerX p W pv F c i) (fun _ _ _ _ _ => rfl) (fun i q hi ih2 => ?_) ?_
      · have hiR : i < R := by omega
        have hlt := lt_rc hiR hc
        simp only [Z137.l1_succ _ mk_ok,pvL_length,M1,M3,ix_eq (show i * W + c ≤ 4611686018427387904 by omega),kerX_length]
        have hFi := hF i c hiR hc
        have hpi := hpv _ (getD_mem hi)
        have e0 : w64 (0 - F i c) = 0 - F i c := w64_small (by omega) (by omega)
        have hred := l03Mod_ret (0 - F i c) p hp.1
        rw [redV_eq hp (by omega)] at hred
        rw [kerX_succ] at ih2
        refine ev_t (decide_eq_true (by omega)) (ev_bind (idx_nat.trans (pvL_get hi)) (ev_bind (idx_nat.trans (flatF_getD hiR hc)) ?_))
        simp only [e0,Int.toNat_natCast]
        refine ev_call hred (ev_chk (by simp only [Bool.and_eq_true,decide_eq_true_eq]; omega) ?_)
        rw [w64_succ (by omega)]; exact ih2
      · simp only [Z137.l1_succ _ mk_ok,pvL_length]
        refine ev_f (decide_eq_false (by omega)) (ev_chk (by simp only [List.length_cons,List.length_nil,decide_eq_true_eq]; omega) ?_)
        rw [w64_succ (by omega)]; exact ih
  · simp only [Z137.l0_succ _ mk_ok,M3]
    exact ev_f (decide_eq_false (by omega)) ev_rfl

/-- a list of rows of one length -/
def Rws (p : Int) (W : Nat) (rows : List Sim) : Prop := ∀ x ∈ rows,x.length = W ∧ Elems x p

theorem Rws.flat {p : Int} {W : Nat} {rows : List Sim} (h : Rws p W rows) : rows.flatten.length = rows.length * W ∧ Elems rows.flatten p := by
  induction rows with
  | nil => exact ⟨by simp,fun x hx => by simp at hx⟩
  | cons r rows ih =>
    obtain ⟨h1,h2⟩ := ih fun x hx => h x (List.mem_cons_of_mem _ hx)
    obtain ⟨h3,h4⟩ := h r List.mem_cons_self
    refine ⟨by rw [List.flatten_cons,List.length_append,h1,h3,List.length_cons,Nat.add_mul]; omega,fun x hx => ?_⟩
    rw [List.flatten_cons,List.mem_append] at hx
    rcases hx with hx | hx
    · exact h4 x hx
    · exact h2 x hx

/-! the kernel of the coboundary -/
noncomputable def kerC (x : Shf) (k : Int) : List Sim := kerM x.2.1 (SD x.1 x.2.2.1 (k + 1)).toNat (SD x.1 x.2.2.1 k).toNat (cobX x k).2.2.2.1

theorem kerC_ret {x : Shf} (k : Int) (hs : VS x.1 x.2.1 x.2.2.1 x.2.2.2.1) :
    Ret E n_Z56 [dI (cobX x k).1,dI (cobX x k).2.1,dI (cobX x k).2.2.1,dL (cobX x k).2.2.2.1] ⟨o_Z56,(kerC x k,())⟩ ∧ Ret E n_Z137 [dM (cobX x k)] ⟨o_Z137,(kerC x k,())⟩ := by
  obtain ⟨H,eH,bH,tH⟩ := SD_nat hs (k + 1)
  obtain ⟨W,eW,bW,tW⟩ := SD_nat hs k
  have hp : 2 ≤ x.2.1 ∧ x.2.1 ≤ 251 := ⟨hs.2.1.1,hs.2.1.2.1⟩
  have hRC := rc_le bH bW
  have hl : (cobX x k).2.2.2.1.length = H * W := by show (cobC _ _ _ _ k).length = _; rw [cobC_length,tH,tW]
  have he : Elems (cobX x k).2.2.2.1 x.2.1 := cobC_elems hs k
  have hM : cobX x k = (x.2.1,(H : Int),(W : Int),(cobX x k).2.2.2.1,()) := by
    show (_,SD x.1 x.2.2.1 (k + 1),SD x.1 x.2.2.1 k,_,_) = _
    rw [eH,eW]; rfl
  have k1 := kernel_ret x.2.1 H W (cobX x k).2.2.2.1 hp (by omega) (by omega) (by omega) hl he
  have k2 := l03Kernel_ret x.2.1 H W (cobX x k).2.2.2.1 hp (by omega) (by omega) (by omega) hl he
  rw [← hM] at k2
  have eK : kerC x k = kerM x.2.1 H W (cobX x k).2.2.2.1 := by unfold kerC; rw [tH,tW]
  rw [eK]
  refine ⟨?_,k2⟩
  have e1 : (cobX x k).2.1 = (H : Int) := eH
  have e2 : (cobX x k).2.2.1 = (W : Int) := eW
  rw [e1,e2]
  exact k1

end VeT

open Go Go.Proofs Ve
set_option linter.unusedVariables false
set_option linter.unusedSimpArgs false
namespace VeT

/-! a matrix beside a column -/
def augE (A : Ent) (b : Sim) (W : Nat) : Ent := fun i j => if j = W then b.getD i 0 else A i j

theorem augE_in {p : Int} {R W : Nat} {A : Ent} {b : Sim} (hA : EIn p R W A) (hb : Elems b p) (hl : b.length = R) : EIn p R (W + 1) (augE A b W) := fun i j hi hj => by
  unfold augE
  split
  · rw [getD_lt (by omega)]; exact hb _ (List.getElem_mem _)
  · exact hA i j hi (by omega)

theorem augE_row {A : Ent} {b : Sim} {W i : Nat} : (List.range (W + 1)).map (augE A b W i) = (List.range W).map (A i) ++ [b.getD i 0] := by
  rw [List.range_succ,List.map_append]
  congr 1
  · exact List.map_congr_left fun j hj => by
      have := List.mem_range.1 hj
      unfold augE; rw [if_neg (by omega)]
  · simp [augE]

def augC (cells b : Sim) (W R : Nat) : Sim := flatF (augE (entM cells W) b W) (W + 1) R

theorem entM_flatF {f : Ent} {W R i j : Nat} (hi : i < R) (hj : j < W) : entM (flatF f W R) W i j = f i j := by
  unfold entM
  rw [List.getD_eq_getElem?_getD,flatF_getD hi hj]; rfl

/-! what the pivots tell -/
def solP (F : Ent) (W : Nat) : List Nat → Nat → Sim → Option Sim
  | [],_,o => some o
  | q :: qs,i,o => if q = W then none else solP F W qs (i + 1) (o.set q (F i W))

def solO : Option Sim → Sim × Bool × Unit
  | some o => (o,true,())
  | none => ([],false,())

noncomputable def solS (p : Int) (R W : Nat) (cells b : Sim) : Option Sim :=
  solP (elS p R (entM (augC cells b W R) (W + 1)) (W + 1)).1 W (elS p R (entM (augC cells b W R) (W + 1)) (W + 1)).2 0 (List.replicate W 0)

theorem l03Join_ret (p : Int) (R W : Nat) (cells b : Sim) (hR : R ≤ 1048576) (hW : W < 1048576) (hRW : R * (W + 1) ≤ 1048576) (hl : cells.length = R * W) (hbl : b.length = R) :
    Ret E n_Z136 [dM (p,(R : Int),(W : Int),cells,()),dM (p,(R : Int),1,b,())] ⟨o_Z136,(p,(R : Int),((W + 1 : Nat) : Int),augC cells b W R,())⟩ := by
  refine ret_of ?_
  simp only [run_Z136,Z136.ev,Z136.j0_eq _ mk_ok]
  rw [w64_succ (by omega)]
  generalize hMt : (p,(R : Int),(W : Int),cells,()) = M
  generalize hNt : (p,(R : Int),(1 : Int),b,()) = N
  have M2 : M.2.1 = (R : Int) := by rw [← hMt]
  have M3 : M.2.2.1 = (W : Int) := by rw [← hMt]
  have M4 : M.2.2.2.1 = cells := by rw [← hMt]
  have N3 : N.2.2.1 = ((1 : Nat) : Int) := by rw [← hNt]; rfl
  have N4 : N.2.2.2.1 = b := by rw [← hNt]
  have one : Ev fun φ => Z136.l1 (mkR (run E (φ 0))) (φ 0) (φ 0) M N 0 0 0 0 p (R : Int) ((W + 1 : Nat) : Int) [] = some ⟨o_Z136,(p,(R : Int),((W + 1 : Nat) : Int),augC cells b W R,())⟩ := by
    refine Ev.start (p := fun φ n => Z136.l1 (mkR (run E (φ 0))) (φ 0) n M N 0 0 0 0 p (R : Int) ((W + 1 : Nat) : Int) [] = _) 1 ?_ (fun _ _ _ h => h)
    refine fold_loop 1 (L := fun φ n i o => Z136.l1 (mkR (run E (φ 0))) (φ 0) n M N i 0 0 0 p (R : Int) ((W + 1 : Nat) : Int) o) (len := R) (fun i => flatF (augE (entM cells W) b W) (W + 1) i) (fun _ _ _ _ _ => rfl) (fun i r hi ih => ?_) ?_
    · have hle : (i + 1) * W ≤ R * W := Nat.mul_le_mul_right _ hi
      have hle2 : (i + 1) * (W + 1) ≤ R * (W + 1) := Nat.mul_le_mul_right _ hi
      have e0 : (i + 1) * (W + 1) = (i + 1) * W + (i + 1) := Nat.mul_succ _ _
      have e1 : (i + 1) * W = i * W + W := Nat.succ_mul _ _
      have e2 : i * (W + 1) = i * W + i := Nat.mul_succ _ _
      have e3 : R * (W + 1) = R * W + R := Nat.mul_succ _ _
      have c1 : w64 ((i : Int) * (W : Int)) = ((i * W : Nat) : Int) := by rw [cast_mul]; exact w64_small (by omega) (by omega)
      have c2 : w64 (((i + 1 : Nat) : Int) * (W : Int)) = (((i + 1) * W : Nat) : Int) := by rw [cast_mul]; exact w64_small (by omega) (by omega)
      have c3 : w64 ((i : Int) * ((1 : Nat) : Int)) = (i : Int) := by rw [cast_mul,Nat.mul_one]; exact w64_small (by omega) (by omega)
      have c4 : w64 (((i + 1 : Nat) : Int) * ((1 : Nat) : Int)) = ((i + 1 : Nat) : Int) := by rw [cast_mul,Nat.mul_one]; exact w64_small (by omega) (by omega)
      have hr1 := row_ent hl hi
      have hr2 : (b.take (i + 1)).drop i = [b.getD i 0] := by
        rw [List.take_succ_eq_append_getElem (by omega),List.drop_append_of_le_length (by rw [List.length_take]; omega),List.drop_of_length_le (by rw [List.length_take]; omega),getD_lt (by omega)]; rfl
      have hfl := flatF_length (f := augE (entM cells W) b W) (C := W + 1) (n := i)
      simp only [Z136.l1_succ _ mk_ok,M2,M3,M4,N3,N4,w64_succ (k := i) (by omega),c1,c2,c3,c4,Int.toNat_natCast,hr1,hr2]
      rw [flatF,augE_row,← List.append_assoc] at ih
      refine ev_t (decide_eq_true (by omega)) (ev_chk (by simp only [Bool.and_eq_true,decide_eq_true_eq]; omega) (ev_chk (by simp only [List.length_map,List.length_range,decide_eq_true_eq]; omega) (ev_chk (by simp only [Bool.and_eq_true,decide_eq_true_eq]; omega) (ev_chk (by simp only [List.length_append,List.length_map,List.length_range,List.length_singleton,decide_eq_true_eq]; omega) ih))))
    · simp only [Z136.l1_succ _ mk_ok,M2]
      exact ev_f (decide_eq_false (by omega)) ev_rfl
  exact ev_both one one

theorem l03Solve_ret (p : Int) (R W : Nat) (cells b : Sim) (hp : 2 ≤ p ∧ p ≤ 251) (hR : R ≤ 1048576) (hW : W < 1048576) (hRW : R * (W + 1) ≤ 1048576) (hl : cells.length = R * W) (he : Elems cells p) (hbl : b.length = R) (hb : Elems b p) :
    Ret E n_Z142 [dM (p,(R : Int),(W : Int),cells,()),dL b] ⟨o_Z142,solO (solS p R W cells b)⟩ := by
  have hA0 := entM_in he hl
  have hA1 := augE_in hA0 hb hbl
  have hcl : (augC cells b W R).length = R * (W + 1) := flatF_length
  have hA : EIn p R (W + 1) (entM (augC cells b W R) (W + 1)) := fun i j hi hj => by
    unfold augC; rw [entM_flatF hi hj]; exact hA1 i j hi hj
  have hce : Elems (augC cells b W R) p := by
    unfold augC
    intro x hx
    rw [← flatF_flatten] at hx
    obtain ⟨row,hrow,hx⟩ := List.mem_flatten.1 hx
    obtain ⟨i,hi,rfl⟩ := List.mem_map.1 hrow
    obtain ⟨j,hj,rfl⟩ := List.mem_map.1 hx
    exact hA1 i j (List.mem_range.1 hi) (List.mem_range.1 hj)
  obtain ⟨det,hel⟩ := l03Reduced_ret p R (W + 1) (augC cells b W R) hp hR (by omega) hRW hcl hce
  obtain ⟨hF,hpl,hpc,hpv⟩ := elS_in hp.1 hA (W + 1)
  unfold solS
  refine ret_of ?_
  simp only [run_Z142,Z142.ev]
  refine ev_call (l03Join_ret p R W cells b hR hW hRW hl hbl) (ev_call hel (ev_chk (by simp; omega) ?_))
  generalize elS p R (entM (augC cells b W R) (W + 1)) (W + 1) = S at hF hpl hpc hpv
  obtain ⟨F,pv⟩ := S
  simp only at hF hpl hpc hpv
  simp only [Int.toNat_natCast]
  generalize hMt : (p,(R : Int),(W : Int),cells,()) = M
  have M3 : M.2.2.1 = (W : Int) := by rw [← hMt]
  have key : ∀ d i o,i + d = pv.length → o.length = W → Ev fun φ => Z142.l0 (mkR (run E (φ 0))) (φ 0) (φ 1) M (pvL pv) (i : Int) p (R : Int) ((W + 1 : Nat) : Int) (augC cells b W R) p (R : Int) ((W + 1 : Nat) : Int) (flatF F (W + 1) R) o = some ⟨o_Z142,solO (solP F W (pv.drop i) i o)⟩ := by
    intro d
    induction d with
    | zero =>
      intro i o hi ho
      refine Ev.round 1 (L := fun φ n => Z142.l0 (mkR (run E (φ 0))) (φ 0) n M (pvL pv) (i : Int) p (R : Int) ((W + 1 : Nat) : Int) (augC cells b W R) p (R : Int) ((W + 1 : Nat) : Int) (flatF F (W + 1) R) o) ?_ (fun _ _ _ => rfl)
      simp only [Z142.l0_succ _ mk_ok,pvL_length]
      rw [List.drop_of_length_le (by omega)]
      exact ev_f (decide_eq_false (by omega)) (ev_some rfl)
    | succ d ih =>
      intro i o hi ho
      have hil : i < pv.length := by omega
      refine Ev.round 1 (L := fun φ n => Z142.l0 (mkR (run E (φ 0))) (φ 0) n M (pvL pv) (i : Int) p (R : Int) ((W + 1 : Nat) : Int) (augC cells b W R) p (R : Int) ((W + 1 : Nat) : Int) (flatF F (W + 1) R) o) ?_ (fun _ _ _ => rfl)
      have hiR : i < R := by omega
      have hix0 : i * (W + 1) + W < R * (W + 1) := lt_rc hiR (Nat.lt_succ_self W)
      have hix : i * (W + 1) + W ≤ 4611686018427387904 := by omega
      simp only [Z142.l0_succ _ mk_ok,pvL_length,M3,ix_eq hix,Int.toNat_natCast]
      have hq := hpv _ (getD_mem hil)
      have hdrop : pv.drop i = pv.getD i 0 :: pv.drop (i + 1) := by rw [List.drop_eq_getElem_cons hil,getD_lt hil]
      refine ev_t (decide_eq_true (by omega)) (ev_bind (idx_nat.trans (pvL_get hil)) ?_)
      rw [hdrop,solP]
      refine ev_b (fun h => ev_some ?_) fun h => ?_
      · have h : pv.getD i 0 = W := by have : ((pv.getD i 0 : Nat) : Int) = (W : Int) := by simpa using h
                                       omega
        rw [if_pos h]; rfl
      · have h : pv.getD i 0 ≠ W := fun e => by rw [e] at h; simp at h
        rw [if_neg h]
        refine ev_bind (idx_nat.trans (pvL_get hil)) (ev_bind (idx_nat.trans (flatF_getD hiR (Nat.lt_succ_self W))) (ev_chk (by simp only [Bool.and_eq_true,decide_eq_true_eq]; omega) ?_))
        simp only [Int.toNat_natCast]
        rw [w64_succ (by omega)]
        exact ih (i + 1) _ (by omega) (by rw [List.length_set]; exact ho)
  refine Ev.start (p := fun φ n => Z142.l0 (mkR (run E (φ 0))) (φ 0) n M (pvL pv) 0 p (R : Int) ((W + 1 : Nat) : Int) (augC cells b W R) p (R : Int) ((W + 1 : Nat) : Int) (flatF F (W + 1) R) (List.replicate W 0) = _) 1 ?_ (fun _ _ _ h => h)
  exact key pv.length 0 (List.replicate W 0) (by omega) (by simp)

end VeT

open Go Go.Proofs Ve
set_option linter.unusedVariables false
set_option linter.unusedSimpArgs false
namespace VeT

/-! sums of sums -/
theorem dotN_addR {c g h : Nat → Int} : ∀ {n : Nat},dotN c (fun i => g i + h i) n = dotN c g n + dotN c h n
  | 0 => rfl
  | n + 1 => by simp only [dotN]; rw [dotN_addR,Int.mul_add]; omega

theorem dotN_smulR {k : Int} {c g : Nat → Int} : ∀ {n : Nat},dotN c (fun i => k * g i) n = k * dotN c g n
  | 0 => by simp [dotN]
  | n + 1 => by simp only [dotN]; rw [dotN_smulR,Int.mul_add,← Int.mul_assoc,Int.mul_comm (c n) k,Int.mul_assoc]

theorem dotN_zeroR {c : Nat → Int} : ∀ {n : Nat},dotN c (fun _ => 0) n = 0
  | 0 => rfl
  | n + 1 => by simp only [dotN]; rw [dotN_zeroR,Int.mul_zero]; rfl

theorem dotN_comm {c g : Nat → Int} : ∀ {n : Nat},dotN c g n = dotN g c n
  | 0 => rfl
  | n + 1 => by simp only [dotN]; rw [dotN_comm,Int.mul_comm]

theorem dotN_swap {y c : Nat → Int} {A : Ent} {W : Nat} : ∀ {R : Nat},dotN y (fun j => dotN c (fun i => A i j) R) W = dotN c (fun i => dotN y (A i) W) R
  | 0 => dotN_zeroR
  | R + 1 => by
    simp only [dotN]
    rw [dotN_addR,dotN_swap,dotN_smulR]

theorem dotN_mod {p : Int} {c g h : Nat → Int} : ∀ {n : Nat},(∀ i,i < n → g i % p = h i % p) → dotN c g n % p = dotN c h n % p
  | 0,_ => rfl
  | n + 1,hgh => by
    simp only [dotN]
    rw [Int.add_emod,dotN_mod (n := n) fun i hi => hgh i (by omega),Int.mul_emod,hgh n (Nat.lt_succ_self n),← Int.mul_emod,← Int.add_emod]

theorem dotN_congr {c d g h : Nat → Int} : ∀ {n : Nat},(∀ i,i < n → c i = d i ∧ g i = h i) → dotN c g n = dotN d h n
  | 0,_ => rfl
  | n + 1,e => by simp only [dotN]; rw [dotN_congr (n := n) fun i hi => e i (by omega),(e n (Nat.lt_succ_self n)).1,(e n (Nat.lt_succ_self n)).2]

/-- what is orthogonal to all rows is orthogonal to their sums -/
theorem Spn.orth {p : Int} {R W : Nat} {A : Ent} {x y : Nat → Int} (hy : ∀ i,i < R → dotN y (A i) W % p = 0) (hx : Spn p R W A x) : dotN y x W % p = 0 := by
  obtain ⟨c,hc⟩ := hx
  rw [← dotN_mod (p := p) (c := y) (g := fun j => dotN c (fun i => A i j) R) (h := x) hc,dotN_swap,dotN_mod (p := p) (h := fun _ => 0) fun i hi => by rw [hy i hi,Int.zero_emod],dotN_zeroR,Int.zero_emod]

/-- another number at one place -/
theorem dotN_upd {y g : Nat → Int} {q : Nat} {v : Int} : ∀ {n : Nat},q < n → dotN (fun j => if j = q then v else y j) g n = dotN y g n + (v - y q) * g q
  | n + 1,h => by
    simp only [dotN]
    by_cases hq : q = n
    · subst hq
      rw [if_pos rfl,dotN_congr (d := y) (h := g) fun i hi => ⟨if_neg (by omega),rfl⟩,Int.sub_mul]; omega
    · rw [dotN_upd (by omega),if_neg (by omega)]; omega

/-! solutions -/
def Slv (p : Int) (R W : Nat) (A : Ent) (b : Nat → Int) : Prop := ∃ y : Nat → Int,∀ i,i < R → dotN y (A i) W % p = b i % p

theorem solP_none {F : Ent} {W : Nat} : ∀ {qs : List Nat} {i : Nat} {o : Sim},solP F W qs i o = none ↔ W ∈ qs
  | [],i,o => by simp [solP]
  | q :: qs,i,o => by
    unfold solP
    split
    · rename_i h; simp [h]
    · rename_i h
      rw [solP_none,List.mem_cons]
      exact ⟨.inr,fun h' => h'.resolve_left (fun e => h e.symm)⟩

theorem getD_setI {o : Sim} {q j : Nat} {v : Int} (hq : q < o.length) : (o.set q v).getD j 0 = if j = q then v else o.getD j 0 := by
  by_cases e : q = j
  · subst e
    rw [if_pos rfl,getD_lt (by rw [List.length_set]; exact hq),List.getElem_set_self]
  · rw [if_neg fun e2 => e e2.symm,List.getD_eq_getElem?_getD,List.getElem?_set_ne e,List.getD_eq_getElem?_getD]

/-- what the pivots tell solves -/
theorem solP_dot {F : Ent} {W R : Nat} {pv : List Nat} (h1 : ∀ j,j < pv.length → pv.getD j 0 < W) (hm : ∀ i j,i < j → j < pv.length → pv.getD i 0 < pv.getD j 0) (ho : ∀ i j,i < R → j < pv.length → F i (pv.getD j 0) = if i = j then 1 else 0) :
    ∀ d n o y,n + d = pv.length → o.length = W → (∀ k,n ≤ k → k < pv.length → o.getD (pv.getD k 0) 0 = 0) → (∀ i,i < R → dotN (fun j => o.getD j 0) (F i) W = if i < n then F i W else 0) →
      solP F W (pv.drop n) n o = some y → ∀ i,i < R → dotN (fun j => y.getD j 0) (F i) W = if i < pv.length then F i W else 0 := by
  intro d
  induction d with
  | zero =>
    intro n o y hn ho2 _ hd h i hi
    rw [List.drop_of_length_le (by omega)] at h
    obtain rfl := Option.some.inj h
    rw [show pv.length = n by omega]; exact hd i hi
  | succ d ih =>
    intro n o y hn ho2 hz hd h i hi
    have hnl : n < pv.length := by omega
    have hdrop : pv.drop n = pv.getD n 0 :: pv.drop (n + 1) := by rw [List.drop_eq_getElem_cons hnl,getD_lt hnl]
    have hq := h1 n hnl
    have hget : ∀ (v : Int) (j : Nat),(o.set (pv.getD n 0) v).getD j 0 = if j = pv.getD n 0 then v else o.getD j 0 := fun v j => getD_setI (by omega)
    rw [hdrop,solP,if_neg (by omega)] at h
    refine ih (n + 1) _ y (by omega) (by rw [List.length_set]; exact ho2) (fun k hk hkl => ?_) (fun i hi => ?_) h i hi
    · have := hm n k (by omega) hkl
      rw [hget,if_neg (by omega)]; exact hz k (by omega) hkl
    · rw [dotN_congr (d := fun j => if j = pv.getD n 0 then F n W else o.getD j 0) (h := F i) fun j _ => ⟨hget _ j,rfl⟩,dotN_upd hq,hd i hi,hz n (Nat.le_refl _) hnl,ho i n hi hnl]
      by_cases e : i = n
      · subst e; simp
      · rw [if_neg e,Int.mul_zero,Int.add_zero]
        by_cases e2 : i < n
        · rw [if_pos e2,if_pos (by omega)]
        · rw [if_neg e2,if_neg (by omega)]

theorem solS_iff {p : Int} {R W : Nat} {cells b : Sim} (hp : Pr p) (hl : cells.length = R * W) (he : Elems cells p) (hbl : b.length = R) (hb : Elems b p) :
    (solS p R W cells b ≠ none ↔ Slv p R W (entM cells W) (fun i => b.getD i 0)) ∧ ∀ y,solS p R W cells b = some y → ∀ i,i < R → dotN (fun j => y.getD j 0) (entM cells W i) W % p = b.getD i 0 % p := by
  have hA0 := entM_in he hl
  have hA1 := augE_in hA0 hb hbl
  have hA : EIn p R (W + 1) (entM (augC cells b W R) (W + 1)) := fun i j hi hj => by
    unfold augC; rw [entM_flatF hi hj]; exact hA1 i j hi hj
  have hent : ∀ i j,i < R → j < W + 1 → entM (augC cells b W R) (W + 1) i j = augE (entM cells W) b W i j := fun i j hi hj => by unfold augC; exact entM_flatF hi hj
  obtain ⟨hrf,heq⟩ := elS_rf hp hA (W + 1) (Nat.le_refl _)
  unfold solS
  generalize elS p R (entM (augC cells b W R) (W + 1)) (W + 1) = S at hrf heq
  obtain ⟨F,pv⟩ := S
  simp only at hrf heq ⊢
  -- a solution beside -1 is what is orthogonal to the rows
  have aug : ∀ (y : Nat → Int) (G : Ent),∀ i,dotN (fun j => if j = W then -1 else y j) (G i) (W + 1) = dotN y (G i) W - G i W := fun y G i => by
    simp only [dotN]
    rw [if_pos trivial,dotN_congr (d := y) (h := G i) fun j hj => ⟨if_neg (by omega),rfl⟩]; omega
  have key : ∀ y : Nat → Int,(∀ i,i < R → dotN y (entM cells W i) W % p = b.getD i 0 % p) ↔ ∀ i,i < R → (dotN y (F i) W - F i W) % p = 0 := by
    intro y
    have e1 : ∀ i,i < R → (dotN (fun j => if j = W then -1 else y j) (entM (augC cells b W R) (W + 1) i) (W + 1) = dotN y (entM cells W i) W - b.getD i 0) := fun i hi => by
      rw [aug,dotN_congr (d := y) (h := entM cells W i) fun j hj => ⟨rfl,by rw [hent i j hi (by omega)]; unfold augE; rw [if_neg (by omega)]⟩,hent i W hi (by omega)]
      unfold augE; rw [if_pos rfl]
    constructor
    · intro h i hi
      rw [← aug]
      exact Spn.orth (fun k hk => by rw [e1 k hk]; exact Int.emod_eq_emod_iff_emod_sub_eq_zero.1 (h k hk)) (heq.1 i hi)
    · intro h i hi
      refine Int.emod_eq_emod_iff_emod_sub_eq_zero.2 ?_
      rw [← e1 i hi]
      exact Spn.orth (fun k hk => by rw [aug]; exact h k hk) (heq.2 i hi)
  have good : ∀ y,solP F W pv 0 (List.replicate W 0) = some y → ∀ i,i < R → dotN (fun j => y.getD j 0) (entM cells W i) W % p = b.getD i 0 % p := by
    intro y hy
    have hW : W ∉ pv := fun h => by rw [solP_none.2 h] at hy; cases hy
    refine (key _).2 fun i hi => ?_
    have hz0 : ∀ j,(List.replicate W (0 : Int)).getD j 0 = 0 := fun j => by
      rw [List.getD_eq_getElem?_getD,List.getElem?_replicate]; split <;> rfl
    have hd := solP_dot (F := F) (W := W) (R := R) (pv := pv) (fun j hj => by
        have h1 := hrf.lt j hj
        have h2 : pv.getD j 0 ≠ W := fun e => hW (by rw [← e]; exact getD_mem hj)
        omega) hrf.mono hrf.one pv.length 0 (List.replicate W 0) y (by omega) (by simp) (fun k _ _ => hz0 _) (fun i _ => by
        rw [dotN_congr (d := fun _ => 0) (h := F i) fun j _ => ⟨hz0 j,rfl⟩,dotN_comm,dotN_zeroR,if_neg (by omega)]) (by rw [List.drop_zero]; exact hy) i hi
    rw [hd]
    split
    · rw [Int.sub_self,Int.zero_emod]
    · rename_i h; rw [hrf.bot i W (by omega) hi (by omega)]; rfl
  refine ⟨⟨fun h => ?_,fun ⟨y,hy⟩ h => ?_⟩,good⟩
  · cases hs : solP F W pv 0 (List.replicate W 0) with
    | none => exact absurd hs h
    | some y => exact ⟨fun j => y.getD j 0,good y hs⟩
  · obtain ⟨k,hk,hkW⟩ := List.mem_iff_getElem.1 (solP_none.1 h)
    have hkd : pv.getD k 0 = W := by rw [getD_lt hk]; exact hkW
    have hkR : k < R := Nat.lt_of_lt_of_le hk hrf.len
    have h1 := (key y).1 hy k hkR
    have h2 := hrf.one k k hkR hk
    rw [hkd,if_pos rfl] at h2
    rw [dotN_congr (d := y) (h := fun _ => 0) fun j hj => ⟨rfl,hrf.low k j hk (by omega)⟩,dotN_zeroR,h2] at h1
    have hp2 := hp.1
    have : (0 - 1 : Int) % p = p - 1 := by
      rw [show (0 - 1 : Int) = (p - 1) + p * (-1) by omega,Int.add_mul_emod_self_left]
      exact Int.emod_eq_of_lt (by omega) (by omega)
    omega

end VeT

open Go Go.Proofs Ve
set_option linter.unusedVariables false
set_option linter.unusedSimpArgs false
namespace VeT

/-! what is left of a vector behind the rows of a reduced basis -/
def cX (p : Int) (x : Nat → Int) (pv : List Nat) (k : Nat) : Int := (p - x (pv.getD k 0)) % p

def restF (p : Int) (F : Ent) (pv : List Nat) (x : Nat → Int) : Nat → Nat → Int
  | 0 => x
  | k + 1 => fun j => (restF p F pv x k j + cX p x pv k * F k j) % p

theorem restF_eq {p : Int} {F : Ent} {pv : List Nat} {x : Nat → Int} {j : Nat} : ∀ k,restF p F pv x k j % p = (x j + dotN (cX p x pv) (fun i => F i j) k) % p
  | 0 => by simp [restF,dotN]
  | k + 1 => by
    simp only [restF,dotN]
    rw [Int.emod_emod_of_dvd _ (Int.dvd_refl p),Int.add_emod,restF_eq k,← Int.add_emod,Int.add_assoc]

theorem dotN_tail {c g : Nat → Int} {t : Nat} : ∀ {n : Nat},t ≤ n → (∀ i,t ≤ i → i < n → g i = 0) → dotN c g n = dotN c g t
  | 0,h,_ => by rw [show t = 0 by omega]
  | n + 1,h,hz => by
    by_cases ht : t = n + 1
    · rw [ht]
    · simp only [dotN]
      rw [dotN_tail (n := n) (by omega) fun i h1 h2 => hz i h1 (by omega),hz n (by omega) (Nat.lt_succ_self n),Int.mul_zero,Int.add_zero]

theorem rest_iff {p : Int} {R W : Nat} {F : Ent} {pv : List Nat} {x : Nat → Int} (hp : 2 ≤ p) (hrf : Rf R W F pv) (hx : ∀ j,j < W → 0 ≤ x j ∧ x j ≤ p - 1) :
    (∀ j,j < W → restF p F pv x pv.length j = 0) ↔ Spn p R W F x := by
  constructor
  · intro h
    refine (Spn.sum (c := fun i => (-1) * cX p x pv i) (B := F) (n := pv.length) fun i hi => Spn.row (Nat.lt_of_lt_of_le hi hrf.len)).congr fun j hj => ?_
    rw [dotN_smul]
    have e := restF_eq (p := p) (F := F) (pv := pv) (x := x) (j := j) pv.length
    rw [h j hj,Int.zero_emod] at e
    refine (Int.emod_eq_emod_iff_emod_sub_eq_zero.2 ?_).symm
    rw [show x j - -1 * dotN (cX p x pv) (fun i => F i j) pv.length = x j + dotN (cX p x pv) (fun i => F i j) pv.length by omega]
    exact e.symm
  · rintro ⟨c,hc⟩ j hj
    have hck : ∀ k,k < pv.length → x (pv.getD k 0) % p = c k % p := fun k hk => by
      rw [← hc _ (hrf.lt k hk),dotN_congr (d := c) (h := fun i => if i = k then 1 else 0) fun i hi => ⟨rfl,hrf.one i k hi hk⟩,dotN_comm,dotN_one (Nat.lt_of_lt_of_le hk hrf.len)]
    have e0 : dotN c (fun i => F i j) R = dotN c (fun i => F i j) pv.length := dotN_tail hrf.len fun i h1 h2 => hrf.bot i j h1 h2 hj
    have e1 : dotN (cX p x pv) (fun i => F i j) pv.length % p = dotN (fun i => (-1) * c i) (fun i => F i j) pv.length % p := by
      rw [dotN_comm,dotN_comm (c := fun i => (-1) * c i)]
      refine dotN_mod fun i hi => ?_
      unfold cX
      rw [Int.emod_emod_of_dvd _ (Int.dvd_refl p)]
      refine Int.emod_eq_emod_iff_emod_sub_eq_zero.2 ?_
      have := Int.emod_eq_emod_iff_emod_sub_eq_zero.1 (hck i hi).symm
      rw [show p - x (pv.getD i 0) - -1 * c i = (c i - x (pv.getD i 0)) + p * 1 by omega,Int.add_mul_emod_self_left]
      exact this
    have e2 : restF p F pv x pv.length j % p = 0 := by
      rw [restF_eq,Int.add_emod,e1,← Int.add_emod,dotN_smul,← e0,Int.add_emod,← hc j hj,← Int.add_emod,show dotN c (fun i => F i j) R + -1 * dotN c (fun i => F i j) R = 0 by omega,Int.zero_emod]
    have hin : 0 ≤ restF p F pv x pv.length j ∧ restF p F pv x pv.length j ≤ p - 1 := by
      cases hn : pv.length with
      | zero => exact hx j hj
      | succ n => exact emod_in hp
    rw [Int.emod_eq_of_lt hin.1 (by omega)] at e2
    exact e2

/-! rows as entries -/
def entR (rows : List Sim) : Ent := fun i j => (rows.getD i []).getD j 0

theorem rowsE_entR {rows : List Sim} {W : Nat} (h : ∀ x ∈ rows,x.length = W) : rowsE (entR rows) rows.length W = rows := by
  apply List.ext_getElem
  · rw [rowsE_length]
  · intro i h1 h2
    have e := rowsE_get (A := entR rows) (W := W) h2
    rw [List.getElem?_eq_getElem h1] at e
    rw [Option.some.inj e]
    apply List.ext_getElem
    · rw [List.length_map,List.length_range]; exact (h _ (List.getElem_mem h2)).symm
    · intro j h3 h4
      rw [List.getElem_map,List.getElem_range]
      unfold entR
      rw [getD_lt h2,getD_lt h4]

theorem entR_in {p : Int} {rows : List Sim} {W : Nat} (h : Rws p W rows) : EIn p rows.length W (entR rows) := fun i j hi hj => by
  obtain ⟨h1,h2⟩ := h _ (List.getElem_mem hi)
  unfold entR
  rw [getD_lt hi,getD_lt (by omega)]
  exact h2 _ (List.getElem_mem _)

/-- the space of rows: its reduced basis -/
noncomputable def basS (p : Int) (W : Nat) (rows : List Sim) : Ent × List Nat := elS p rows.length (entR rows) W
noncomputable def bas (p : Int) (W : Nat) (rows : List Sim) : List Sim := rowsE (basS p W rows).1 (basS p W rows).2.length W

theorem rowsE_take {A : Ent} {R W t : Nat} (h : t ≤ R) : (rowsE A R W).take t = rowsE A t W := by
  unfold rowsE
  rw [← List.map_take,List.take_range,Nat.min_eq_left h]

end VeT

open Go Go.Proofs Ve
set_option linter.unusedVariables false
set_option linter.unusedSimpArgs false
namespace VeT

theorem copyLists_ret (rows : List Sim) (hl : rows.length ≤ 1048576) (hs : ∀ x ∈ rows,x.length ≤ 1048576) : Ret E n_Z31 [dLL rows] ⟨o_Z31,(rows,())⟩ := by
  refine ret_of ?_
  simp only [run_Z31,Z31.ev]
  refine Ev.start (p := fun φ n => Z31.l0 (mkR (run E (φ 0))) (φ 0) n rows (rows.length : Int) 0 [] = _) 1 ?_ (fun _ _ _ h => h)
  refine fold_loop 1 (L := fun φ n k o => Z31.l0 (mkR (run E (φ 0))) (φ 0) n rows (rows.length : Int) k o) (len := rows.length) (fun k => rows.take k) (fun _ _ _ _ _ => rfl) (fun k r hk ih => ?_) ?_
  · simp only [Z31.l0_succ _ mk_ok]
    rw [List.take_succ_eq_append_getElem hk] at ih
    refine ev_t (decide_eq_true (by omega)) (ev_bind (idx_lt hk) (ev_call (Clone_ret _ (hs _ (List.getElem_mem hk))) (ev_chk (by simp only [List.length_take,List.length_singleton,decide_eq_true_eq]; omega) ?_)))
    rw [w64_succ (by omega)]; exact ih
  · simp only [Z31.l0_succ _ mk_ok]
    refine ev_f (decide_eq_false (by omega)) (ev_some ?_)
    rw [List.take_of_length_le (Nat.le_refl _)]

theorem spaceOf_ret (p : Int) (W : Nat) (rows : List Sim) (hp : 2 ≤ p ∧ p ≤ 251) (hR : rows.length ≤ 1048576) (hW : W ≤ 1048576) (hr : Rws p W rows) :
    Ret E n_Z67 [dI p,dI (W : Int),dLL rows] ⟨o_Z67,(p,(W : Int),bas p W rows,())⟩ := by
  have hA := entR_in hr
  obtain ⟨det,hel⟩ := eliminate_ret (entR rows) rows.length W p hp hR hW hA
  rw [rowsE_entR fun x hx => (hr x hx).1] at hel
  have hlen := (elS_in hp.1 hA W).2.1
  refine ret_of ?_
  simp only [run_Z67,Z67.ev]
  unfold bas basS
  generalize elS p rows.length (entR rows) W = S at hel hlen
  obtain ⟨F,pv⟩ := S
  simp only at hel hlen ⊢
  refine ev_call (copyLists_ret rows hR fun x hx => by rw [(hr x hx).1]; exact hW) (ev_call hel (ev_chk (by simp only [pvL_length,rowsE_length,Bool.and_eq_true,decide_eq_true_eq]; omega) ?_))
  simp only [pvL_length,Int.toNat_natCast,List.drop_zero]
  rw [rowsE_take hlen]
  exact ev_call (copyLists_ret (rowsE F pv.length W) (by rw [rowsE_length]; omega) fun x hx => by
    obtain ⟨i,_,rfl⟩ := List.mem_map.1 hx
    rw [List.length_map,List.length_range]; exact hW) ev_rfl

theorem placesOf_1_ret (x : Int) : Ret E n_Z58 [dI x] ⟨o_Z58,(x != 0,())⟩ := by
  refine ret_of ?_
  simp only [run_Z58,Z58.ev]
  exact Ev.of fun _ => trivial

theorem idxf_pv {f : Nat → Int} {W q : Nat} (hq : q < W) (h1 : f q ≠ 0) (h0 : ∀ j,j < q → f j = 0) : idxf (fun x : Int => x != 0) ((List.range W).map f) = (q : Int) := by
  have := idxf_of (p := fun x : Int => x != 0) (s := (List.range W).map f) (o := some q) (fun k hk => by
    obtain rfl := Option.some.inj hk
    refine ⟨by simpa using hq,⟨by simpa using hq,by simpa using h1⟩,fun j hj => ?_⟩
    rintro ⟨hjl,hne⟩
    simp [h0 j hj] at hne) (fun h => by cases h)
  exact this.symm

theorem placesOf_ret {R W : Nat} {F : Ent} {pv : List Nat} (p : Int) (hW : W ≤ 1048576) (hR : R ≤ 1048576) (hrf : Rf R W F pv) :
    Ret E n_Z57 [dI p,dI (W : Int),dLL (rowsE F pv.length W)] ⟨o_Z57,(pvL pv,())⟩ := by
  have hlen := hrf.len
  refine ret_of ?_
  simp only [run_Z57,Z57.ev,rowsE_length]
  refine Ev.start (p := fun φ n => Z57.l0 (mkR (run E (φ 0))) (φ 0) n (rowsE F pv.length W) (pv.length : Int) 0 [] = _) 1 ?_ (fun _ _ _ h => h)
  refine fold_loop 1 (L := fun φ n k o => Z57.l0 (mkR (run E (φ 0))) (φ 0) n (rowsE F pv.length W) (pv.length : Int) k o) (len := pv.length) (fun k => pvL (pv.take k)) (fun _ _ _ _ _ => rfl) (fun k r hk ih => ?_) ?_
  · simp only [Z57.l0_succ _ mk_ok]
    have hone := hrf.one k k (by omega) hk
    rw [if_pos rfl] at hone
    have hix := idxf_pv (f := F k) (hrf.lt k hk) (by rw [hone]; exact Int.one_ne_zero) fun j hj => hrf.low k j hk hj
    have hcall := IndexFunc_Sint64_int64_impl_placesOf_1_ret ((List.range W).map (F k)) (fun x => x != 0) (by rw [List.length_map,List.length_range]; exact hW) fun x _ => placesOf_1_ret x
    rw [hix] at hcall
    rw [List.take_succ_eq_append_getElem hk,pvL_add,← getD_lt (d := 0) hk] at ih
    refine ev_t (decide_eq_true (by omega)) (ev_bind (idx_nat.trans (rowsE_get hk)) (ev_call hcall (ev_chk (by simp only [pvL_length,List.length_take,List.length_singleton,decide_eq_true_eq]; omega) ?_)))
    rw [w64_succ (by omega)]; exact ih
  · simp only [Z57.l0_succ _ mk_ok]
    refine ev_f (decide_eq_false (by omega)) (ev_some ?_)
    rw [List.take_of_length_le (Nat.le_refl _)]

def restL (p : Int) (F : Ent) (pv : List Nat) (x : Nat → Int) (W k : Nat) : Sim := (List.range W).map (restF p F pv x k)

theorem coordinates_ret {R W : Nat} {F : Ent} {pv : List Nat} (p : Int) (x : Sim) (hp : 2 ≤ p ∧ p ≤ 251) (hW : W ≤ 1048576) (hR : R ≤ 1048576) (hF : EIn p R W F) (hrf : Rf R W F pv) (hx : Elems x p) (hxl : x.length = W) :
    ∃ l : Sim,Ret E n_Z30 [dI p,dI (W : Int),dLL (rowsE F pv.length W),dL x] ⟨o_Z30,(l,pb (Zs (restL p F pv (fun j => x.getD j 0) W pv.length)),())⟩ := by
  have hlen := hrf.len
  have hx0 : x = restL p F pv (fun j => x.getD j 0) W 0 := by
    show x = (List.range W).map fun j => x.getD j 0
    apply List.ext_getElem
    · rw [List.length_map,List.length_range,hxl]
    · intro j h1 h2
      rw [List.getElem_map,List.getElem_range,getD_lt h1]
  refine ⟨(pv.map fun q => x.getD q 0),ret_of ?_⟩
  simp only [run_Z30,Z30.ev]
  refine ev_call (placesOf_ret p hW hR hrf) ?_
  simp only [pvL_length]
  have hin : ∀ j,j < W → 0 ≤ x.getD j 0 ∧ x.getD j 0 ≤ p - 1 := fun j hj => by rw [getD_lt (by omega)]; exact hx _ (List.getElem_mem _)
  have hrin : ∀ k j,j < W → 0 ≤ restF p F pv (fun j => x.getD j 0) k j ∧ restF p F pv (fun j => x.getD j 0) k j ≤ p - 1 := fun k j hj => by
    cases k with
    | zero => exact hin j hj
    | succ k => exact emod_in hp.1
  suffices h : Ev fun φ => Z30.l0 (mkR (run E (φ 0))) (φ 0) (φ 0) x (restL p F pv (fun j => x.getD j 0) W 0) (pvL pv) (pv.length : Int) 0 p (W : Int) (rowsE F pv.length W) [] = some ⟨o_Z30,(pv.map fun q => x.getD q 0,pb (Zs (restL p F pv (fun j => x.getD j 0) W pv.length)),())⟩ by
    rw [← hx0] at h; exact h
  refine Ev.start (p := fun φ n => Z30.l0 (mkR (run E (φ 0))) (φ 0) n x (restL p F pv (fun j => x.getD j 0) W 0) (pvL pv) (pv.length : Int) 0 p (W : Int) (rowsE F pv.length W) [] = _) 1 ?_ (fun _ _ _ h => h)
  refine fold_loop 1 (L := fun φ n k (o : Sim × Sim) => Z30.l0 (mkR (run E (φ 0))) (φ 0) n x o.1 (pvL pv) (pv.length : Int) k p (W : Int) (rowsE F pv.length W) o.2) (len := pv.length) (fun k => (restL p F pv (fun j => x.getD j 0) W k,(pv.take k).map fun q => x.getD q 0)) (fun _ _ _ _ _ => rfl) (fun k r hk ih => ?_) ?_
  · simp only [Z30.l0_succ _ mk_ok] at ih ⊢
    have hq := hrf.lt k hk
    have hxq : x[pv.getD k 0]? = some (x.getD (pv.getD k 0) 0) := by rw [getD_lt (show pv.getD k 0 < x.length by omega)]; exact List.getElem?_eq_getElem _
    have hv := hin _ hq
    have hc : Int.tmod (w64 (p - x.getD (pv.getD k 0) 0)) p = cX p (fun j => x.getD j 0) pv k := by
      rw [w64_small (by omega) (by omega),Int.tmod_eq_emod_of_nonneg (by omega)]; rfl
    have hcin : 0 ≤ cX p (fun j => x.getD j 0) pv k ∧ cX p (fun j => x.getD j 0) pv k ≤ p - 1 := emod_in hp.1
    have hadd := addTimes_ret (restL p F pv (fun j => x.getD j 0) W k) ((List.range W).map (F k)) (cX p (fun j => x.getD j 0) pv k) p hp (by omega) (by simp [restL]) (by simp [restL]; omega) (map_in hp.2 (hrin k)) (map_in hp.2 fun j hj => hF k j (by omega) hj)
    rw [show addV (restL p F pv (fun j => x.getD j 0) W k) ((List.range W).map (F k)) (cX p (fun j => x.getD j 0) pv k) p = restL p F pv (fun j => x.getD j 0) W (k + 1) from addV_map] at hadd
    have hp0 : (p != 0) = true := by simp; omega
    rw [List.take_succ_eq_append_getElem hk,List.map_append,List.map_singleton,← getD_lt (d := 0) hk] at ih
    refine ev_t (decide_eq_true (by omega)) (ev_bind (idx_nat.trans (pvL_get hk)) (ev_bind (idx_nat.trans hxq) (ev_chk (by simp only [List.length_map,List.length_take,List.length_singleton,decide_eq_true_eq]; omega) (ev_bind (idx_nat.trans (rowsE_get hk)) (ev_bind (idx_nat.trans hxq) (ev_chk hp0 ?_))))))
    simp only [hc]
    refine ev_call hadd ?_
    rw [w64_succ (by omega)]; exact ih
  · simp only [Z30.l0_succ _ mk_ok]
    refine ev_f (decide_eq_false (by omega)) (ev_call (isZero_ret _ (by simp [restL]; omega)) (ev_some ?_))
    rw [List.take_of_length_le (Nat.le_refl _)]

theorem Zs_restL {p : Int} {F : Ent} {pv : List Nat} {x : Nat → Int} {W k : Nat} : Zs (restL p F pv x W k) ↔ ∀ j,j < W → restF p F pv x k j = 0 := by
  unfold Zs restL
  constructor
  · intro h j hj; exact h _ (List.mem_map.2 ⟨j,List.mem_range.2 hj,rfl⟩)
  · intro h y hy
    obtain ⟨j,hj,rfl⟩ := List.mem_map.1 hy
    exact h j (List.mem_range.1 hj)

/-- is a vector a sum of multiples of rows? -/
def InR (p : Int) (W : Nat) (rows : List Sim) (x : Sim) : Prop := Spn p rows.length W (entR rows) (fun j => x.getD j 0)

theorem contains_ret (p : Int) (W : Nat) (rows : List Sim) (x : Sim) (hp : Pr p) (hW : W ≤ 1048576) (hR : rows.length ≤ 1048576) (hr : Rws p W rows) (hx : Elems x p) (hxl : x.length = W) :
    Ret E n_Z29 [dI p,dI (W : Int),dLL (bas p W rows),dL x] ⟨o_Z29,(pb (InR p W rows x),())⟩ := by
  have hA := entR_in hr
  obtain ⟨hrf,heq⟩ := elS_rf hp hA W (Nat.le_refl _)
  have hF := (elS_in hp.1 hA W).1
  have hin : ∀ j,j < W → 0 ≤ x.getD j 0 ∧ x.getD j 0 ≤ p - 1 := fun j hj => by rw [getD_lt (by omega)]; exact hx _ (List.getElem_mem _)
  unfold bas basS
  have e : ∀ F pv,Rf rows.length W F pv → Eqv p rows.length W (entR rows) F → (Zs (restL p F pv (fun j => x.getD j 0) W pv.length) ↔ InR p W rows x) := fun F pv h1 h2 => by
    rw [Zs_restL,rest_iff hp.1 h1 hin]
    exact ⟨fun h => Spn.trans h2.1 h,fun h => Spn.trans h2.2 h⟩
  have e := e _ _ hrf heq
  generalize elS p rows.length (entR rows) W = S at hrf heq hF e
  obtain ⟨F,pv⟩ := S
  simp only at hrf heq hF e ⊢
  obtain ⟨l,hl⟩ := coordinates_ret p x ⟨hp.1,hp.2.1⟩ hW hR hF hrf hx hxl
  rw [show pb (Zs (restL p F pv (fun j => x.getD j 0) W pv.length)) = pb (InR p W rows x) from pb_congr e] at hl
  refine ret_of ?_
  simp only [run_Z29,Z29.ev]
  exact ev_call hl ev_rfl

end VeT

open Go Go.Proofs Ve
set_option linter.unusedVariables false
set_option linter.unusedSimpArgs false
namespace VeT

/-! sums of rows do not depend on the rows that give them -/
theorem InR.mem {p : Int} {W : Nat} {rows : List Sim} {r : Sim} (h : r ∈ rows) : InR p W rows r := by
  obtain ⟨i,hi,e⟩ := List.mem_iff_getElem.1 h
  have : entR rows i = fun j => r.getD j 0 := by funext j; unfold entR; rw [getD_lt hi,e]
  unfold InR
  rw [← this]
  exact Spn.row hi

theorem InR.trans {p : Int} {W : Nat} {A B : List Sim} {y : Sim} (h : ∀ r ∈ A,InR p W B r) (hy : InR p W A y) : InR p W B y :=
  Spn.trans (fun i hi => by
    have e : entR A i = fun j => (A[i]).getD j 0 := by funext j; unfold entR; rw [getD_lt hi]
    rw [e]
    exact h _ (List.getElem_mem hi)) hy

def SameR (p : Int) (W : Nat) (A B : List Sim) : Prop := ∀ y,InR p W A y ↔ InR p W B y

theorem SameR.refl {p : Int} {W : Nat} {A : List Sim} : SameR p W A A := fun _ => Iff.rfl

theorem SameR.append {p : Int} {W : Nat} {A B : List Sim} {x : Sim} (h : SameR p W A B) : SameR p W (A ++ [x]) (B ++ [x]) := by
  have key : ∀ A B : List Sim,SameR p W A B → ∀ y,InR p W (A ++ [x]) y → InR p W (B ++ [x]) y := fun A B h y hy => InR.trans (fun r hr => by
    rcases List.mem_append.1 hr with hr | hr
    · exact InR.trans (fun r hr => InR.mem (List.mem_append.2 (.inl hr))) ((h r).1 (InR.mem hr))
    · exact InR.mem (List.mem_append.2 (.inr hr))) hy
  exact fun y => ⟨key A B h y,key B A (fun y => (h y).symm) y⟩

theorem bas_rws {p : Int} {W : Nat} {rows : List Sim} (hp : 2 ≤ p) (hr : Rws p W rows) : Rws p W (bas p W rows) ∧ (bas p W rows).length ≤ W := by
  have hA := entR_in hr
  obtain ⟨hF,h1,h2,h3⟩ := elS_in hp hA W
  unfold bas basS
  refine ⟨fun x hx => ?_,by rw [rowsE_length]; exact h2⟩
  obtain ⟨i,hi,rfl⟩ := List.mem_map.1 hx
  have hi := List.mem_range.1 hi
  refine ⟨by simp,fun y hy => ?_⟩
  obtain ⟨j,hj,rfl⟩ := List.mem_map.1 hy
  exact hF i j (by omega) (List.mem_range.1 hj)

theorem bas_same {p : Int} {W : Nat} {rows : List Sim} (hp : Pr p) (hr : Rws p W rows) : SameR p W (bas p W rows) rows := by
  have hA := entR_in hr
  obtain ⟨hrf,heq⟩ := elS_rf hp hA W (Nat.le_refl _)
  unfold bas basS
  generalize elS p rows.length (entR rows) W = S at hrf heq
  obtain ⟨F,pv⟩ := S
  simp only at hrf heq ⊢
  have hent : ∀ i j,i < pv.length → j < W → entR (rowsE F pv.length W) i j = F i j := fun i j hi hj => by
    unfold entR
    have e1 : (rowsE F pv.length W).getD i [] = (List.range W).map (F i) := by rw [List.getD_eq_getElem?_getD,rowsE_get hi]; rfl
    rw [e1,List.getD_eq_getElem?_getD,row_get hj]; rfl
  refine fun y => ⟨fun h => ?_,fun h => ?_⟩
  · refine Spn.trans (fun i hi => ?_) h
    rw [rowsE_length] at hi
    exact (heq.1 i (Nat.lt_of_lt_of_le hi hrf.len)).congr fun j hj => by rw [hent i j hi hj]
  · obtain ⟨c,hc⟩ := Spn.trans heq.2 h
    refine ⟨c,fun j hj => ?_⟩
    rw [rowsE_length,← hc j hj,dotN_tail hrf.len fun i h1 h2 => hrf.bot i j h1 h2 hj,dotN_congr (d := c) (h := fun i => F i j) fun i hi => ⟨rfl,hent i j hi hj⟩]

/-! vectors that are independent of those before them -/
open Classical in
noncomputable def clsT (p : Int) (W : Nat) : List Sim → List Sim → List Sim
  | _,[] => []
  | h,x :: xs => if InR p W h x then clsT p W h xs else x :: clsT p W (h ++ [x]) xs

theorem clsT_sub {p : Int} {W : Nat} : ∀ {l h : List Sim} {x : Sim},x ∈ clsT p W h l → x ∈ l
  | [],h,x,hx => by simp [clsT] at hx
  | y :: l,h,x,hx => by
    unfold clsT at hx
    split at hx
    · exact List.mem_cons_of_mem _ (clsT_sub hx)
    · rcases List.mem_cons.1 hx with rfl | hx
      · exact List.mem_cons_self
      · exact List.mem_cons_of_mem _ (clsT_sub hx)

theorem clsT_length {p : Int} {W : Nat} : ∀ {l h : List Sim},(clsT p W h l).length ≤ l.length
  | [],h => by simp [clsT]
  | y :: l,h => by
    unfold clsT
    split
    · have := clsT_length (p := p) (W := W) (l := l) (h := h); simp; omega
    · have := clsT_length (p := p) (W := W) (l := l) (h := h ++ [y]); simp; omega

open Classical in
noncomputable def msk (p : Int) (W : Nat) : List Sim → List Sim → List Bool
  | _,[] => []
  | h,x :: xs => if InR p W h x then false :: msk p W h xs else true :: msk p W (h ++ [x]) xs

theorem run_pIndep (n : Nat) (args : List Dv) : run E (n + 1) n_Z45 args = pIndep n_Z29 n_Z31 n_Z67 (mkR (run E n)) args := rfl

theorem sel_msk {p : Int} {W : Nat} (pIndep : Unit) : ∀ {l h : List Sim},sel (msk p W h l) l = clsT p W h l
  | [],h => rfl
  | x :: xs,h => by
    unfold msk clsT
    split
    · exact sel_msk ()
    · simp only [sel]; rw [sel_msk ()]

theorem ev_callT {f : Nat} {out : Ty} {args : List Dv} {x : out.T} (h : Ret E f args ⟨out,x⟩) : Ev fun φ => callT (mkR (run E (φ 0))) f out args = some x := by
  have h1 := ev_call (E := E) (K := fun _ y => some (⟨out,y⟩ : Dv)) (r := some ⟨out,x⟩) h ev_rfl
  refine h1.mono fun φ h2 => ?_
  cases e : callT (mkR (run E (φ 0))) f out args with
  | none => rw [e] at h2; cases h2
  | some y =>
    rw [e] at h2
    have h3 := Option.some.inj h2
    exact congrArg some (eq_of_heq (Dv.mk.inj h3).2)

-- pIndep
theorem indV_ev (p : Int) (W : Nat) (hp : Pr p) (hW : W ≤ 1048575) : ∀ (l g h : List Sim),Rws p W l → Rws p W g → g.length ≤ 1048576 → SameR p W g h →
    Ev fun φ => indV n_Z29 n_Z31 n_Z67 (mkR (run E (φ 0))) p (W : Int) (bas p W g) l = some (msk p W h l) := by
  have hp2 : 2 ≤ p ∧ p ≤ 251 := ⟨hp.1,hp.2.1⟩
  intro l
  induction l with
  | nil => exact fun g h _ _ _ _ => Ev.of fun _ => rfl
  | cons x l ih =>
    intro g h hl hg hgl hs
    obtain ⟨hx1,hx2⟩ := hl x List.mem_cons_self
    have hl' : Rws p W l := fun r hr => hl r (List.mem_cons_of_mem _ hr)
    have hc := ev_callT (contains_ret p W g x hp (by omega) hgl hg hx2 hx1)
    by_cases hin : InR p W g x
    · rw [pb_true hin] at hc
      refine (hc.and (ih g h hl' hg hgl hs)).mono fun φ ⟨h1,h2⟩ => ?_
      unfold indV msk
      rw [if_pos ((hs x).1 hin)]
      refine (congrArg (Option.bind · _) h1).trans ?_
      simp only [Option.bind_some,cond_true]
      rw [h2]; rfl
    · rw [pb_false hin] at hc
      obtain ⟨b1,b2⟩ := bas_rws hp.1 hg
      have hg2 : Rws p W (bas p W g ++ [x]) := fun r hr => by
        rcases List.mem_append.1 hr with hr | hr
        · exact b1 r hr
        · rw [List.mem_singleton] at hr; subst hr; exact ⟨hx1,hx2⟩
      have hs2 : SameR p W (bas p W g ++ [x]) (h ++ [x]) := SameR.append fun y => (bas_same hp hg y).trans (hs y)
      have hsp := ev_callT (spaceOf_ret p W (bas p W g ++ [x]) hp2 (by rw [List.length_append,List.length_singleton]; omega) (by omega) hg2)
      have hcl := ev_callT (copyLists_ret (bas p W g) (by omega) fun x hx => by rw [(b1 x hx).1]; omega)
      have hih := ih (bas p W g ++ [x]) (h ++ [x]) hl' hg2 (by rw [List.length_append,List.length_singleton]; omega) hs2
      refine ((hc.and hcl).and (hsp.and hih)).mono fun φ ⟨⟨h1,h2⟩,h3,h4⟩ => ?_
      unfold indV msk
      rw [if_neg fun e => hin ((hs x).2 e)]
      refine (congrArg (Option.bind · _) h1).trans ?_
      simp only [Option.bind_some,cond_false]
      refine (congrArg (Option.bind · _) h2).trans ?_
      simp only [Option.bind_some]
      have hk : chk (decide (((bas p W g).length + 1) * 24 ≤ 70368744177664)) = some () := by unfold chk; rw [decide_eq_true (by omega)]; rfl
      rw [hk,Option.bind_some]
      refine (congrArg (Option.bind · _) h3).trans ?_
      simp only [Option.bind_some]
      rw [h4]; rfl

-- pIndep
theorem independent_ret (p : Int) (W : Nat) (rows list : List Sim) (hp : Pr p) (hW : W ≤ 1048575) (hR : rows.length ≤ 1048576) (hr : Rws p W rows) (hl : list.length ≤ 1048576) (hls : Rws p W list) :
    Ret E n_Z45 [dI p,dI (W : Int),dLL (bas p W rows),dLL list] ⟨o_Z45,(clsT p W rows list,())⟩ := by
  refine ret_of ?_
  refine (indV_ev p W hp hW list rows rows hls hr hR SameR.refl).mono fun φ h => ?_
  rw [run_pIndep]
  show ((some p).bind fun p => (some (W : Int)).bind fun W => (some (bas p W.toNat rows)).bind fun B => (some list).bind fun xs =>
      if xs.length ≤ 1048576 then (indV n_Z29 n_Z31 n_Z67 (mkR (run E (φ 0))) p W B xs).map fun ms => (⟨.cons tLL .nil,(sel ms xs,())⟩ : Dv) else none) = _
  simp only [Option.bind_some,Int.toNat_natCast,if_pos hl]
  rw [h,Option.map_some,sel_msk ()]

end VeT

open Go Go.Proofs Ve
set_option linter.unusedVariables false
set_option linter.unusedSimpArgs false
namespace VeT

/-! a matrix with some columns -/
def ColR (p : Int) (W : Nat) (cells : Sim) (h : List Sim) : Prop := (cells.length = W * h.length ∧ Elems cells p) ∧ ∀ i j,i < W → j < h.length → entM cells h.length i j = entR h j i

theorem ColR.slv {p : Int} {W : Nat} {cells : Sim} {h : List Sim} {v : Sim} (hc : ColR p W cells h) : Slv p W h.length (entM cells h.length) (fun i => v.getD i 0) ↔ InR p W h v := by
  have e : ∀ (y : Nat → Int) i,i < W → dotN y (entM cells h.length i) h.length = dotN y (fun j => entR h j i) h.length := fun y i hi => dotN_congr fun j hj => ⟨rfl,hc.2 i j hi hj⟩
  exact ⟨fun ⟨y,hy⟩ => ⟨y,fun i hi => by rw [← e y i hi]; exact hy i hi⟩,fun ⟨y,hy⟩ => ⟨y,fun i hi => by rw [e y i hi]; exact hy i hi⟩⟩

theorem ColR.next {p : Int} {W : Nat} {cells : Sim} {h : List Sim} {v : Sim} (hc : ColR p W cells h) (hv : Elems v p) (hl : v.length = W) : ColR p W (augC cells v h.length W) (h ++ [v]) := by
  have hlen : (h ++ [v]).length = h.length + 1 := by simp
  have hA0 := entM_in hc.1.2 hc.1.1
  have hA1 := augE_in hA0 hv hl
  refine ⟨⟨by rw [hlen]; exact flatF_length,fun x hx => ?_⟩,fun i j hi hj => ?_⟩
  · unfold augC at hx
    rw [← flatF_flatten] at hx
    obtain ⟨row,hrow,hx⟩ := List.mem_flatten.1 hx
    obtain ⟨i,hi,rfl⟩ := List.mem_map.1 hrow
    obtain ⟨j,hj,rfl⟩ := List.mem_map.1 hx
    exact hA1 i j (List.mem_range.1 hi) (List.mem_range.1 hj)
  · rw [hlen] at hj ⊢
    unfold augC
    rw [entM_flatF hi hj]
    unfold augE entR
    by_cases hjh : j < h.length
    · rw [if_neg (by omega),hc.2 i j hi hjh,List.getD_eq_getElem?_getD (l := h ++ [v]),List.getElem?_append_left hjh,← List.getD_eq_getElem?_getD]; rfl
    · obtain rfl : j = h.length := by omega
      rw [if_pos rfl,List.getD_eq_getElem?_getD (l := h ++ [v]),List.getElem?_append_right (Nat.le_refl _)]; simp

theorem colsL_colR {p : Int} {W C : Nat} {cells : Sim} (hl : cells.length = W * C) (he : Elems cells p) : ColR p W cells (colsL W C cells) ∧ (colsL W C cells).length = C ∧ Rws p W (colsL W C cells) := by
  have hlen : (colsL W C cells).length = C := by simp [colsL]
  have hA := entM_in he hl
  refine ⟨⟨⟨by rw [hlen]; exact hl,he⟩,fun i j hi hj => ?_⟩,hlen,fun x hx => ?_⟩
  · rw [hlen] at hj ⊢
    have e : (colsL W C cells).getD j [] = (List.range W).map fun i => cells.getD (i * C + j) 0 := by
      unfold colsL
      rw [List.getD_eq_getElem?_getD,List.getElem?_map,List.getElem?_range hj]; rfl
    unfold entR
    rw [e,List.getD_eq_getElem?_getD,List.getElem?_map,List.getElem?_range hi]; rfl
  · obtain ⟨i,hi,rfl⟩ := List.mem_map.1 hx
    refine ⟨by simp,fun y hy => ?_⟩
    obtain ⟨j,hj,rfl⟩ := List.mem_map.1 hy
    exact hA j i (List.mem_range.1 hj) (List.mem_range.1 hi)

theorem l07Spans_ret (p : Int) (W : Nat) (cells : Sim) (h : List Sim) (v : Sim) (hp : Pr p) (hW : W ≤ 64) (hh : h.length ≤ 4096) (hc : ColR p W cells h) (hv : Elems v p) (hl : v.length = W) :
    Ret E n_Z155 [dM (p,(W : Int),(h.length : Int),cells,()),dL v] ⟨o_Z155,(pb (InR p W h v),())⟩ := by
  have hm : W * (h.length + 1) ≤ 64 * 4097 := Nat.mul_le_mul hW (by omega)
  have hs := l03Solve_ret p W h.length cells v ⟨hp.1,hp.2.1⟩ (by omega) (by omega) (by omega) hc.1.1 hc.1.2 hl hv
  have hi := (solS_iff hp hc.1.1 hc.1.2 hl hv).1.trans hc.slv
  refine ret_of ?_
  simp only [run_Z155,Z155.ev]
  refine ev_call hs (ev_some ?_)
  cases hq : solS p W h.length cells v with
  | none =>
    rw [pb_false fun e => hi.2 e hq]; rfl
  | some y =>
    rw [pb_true (hi.1 (by rw [hq]; exact fun e => by cases e))]; rfl

theorem l07With_ret (p : Int) (W : Nat) (cells : Sim) (h : List Sim) (v : Sim) (hW : W ≤ 64) (hh : h.length ≤ 4096) (hc : ColR p W cells h) (hl : v.length = W) :
    Ret E n_Z156 [dM (p,(W : Int),(h.length : Int),cells,()),dL v] ⟨o_Z156,(p,(W : Int),((h.length + 1 : Nat) : Int),augC cells v h.length W,())⟩ := by
  have hm : W * (h.length + 1) ≤ 64 * 4097 := Nat.mul_le_mul hW (by omega)
  refine ret_of ?_
  simp only [run_Z156,Z156.ev]
  exact ev_call (l03Join_ret p W h.length cells v (by omega) (by omega) (by omega) hc.1.1 hl) ev_rfl

theorem l07Classes_ret (p : Int) (W : Nat) (cells : Sim) (h list : List Sim) (hp : Pr p) (hW : W ≤ 64) (hh : h.length + list.length ≤ 4096) (hc : ColR p W cells h) (hls : Rws p W list) :
    Ret E n_Z153 [dI p,dI (W : Int),dI (h.length : Int),dL cells,dLL list] ⟨o_Z153,(clsT p W h list,())⟩ := by
  refine ret_of ?_
  simp only [run_Z153,Z153.ev]
  have key : ∀ d k (cells : Sim) (h taken : List Sim),k + d = list.length → h.length + d ≤ 4096 → ColR p W cells h → taken.length ≤ k →
      Ev fun φ => Z153.l0 (mkR (run E (φ 0))) (φ 0) (φ 1) list (k : Int) p (W : Int) (h.length : Int) cells taken = some ⟨o_Z153,(taken ++ clsT p W h (list.drop k),())⟩ := by
    intro d
    induction d with
    | zero =>
      intro k cells h taken hk hb hc ht
      refine Ev.round 1 (L := fun φ n => Z153.l0 (mkR (run E (φ 0))) (φ 0) n list (k : Int) p (W : Int) (h.length : Int) cells taken) ?_ (fun _ _ _ => rfl)
      simp only [Z153.l0_succ _ mk_ok]
      rw [List.drop_of_length_le (by omega),clsT,List.append_nil]
      exact ev_f (decide_eq_false (by omega)) ev_rfl
    | succ d ih =>
      intro k cells h taken hk hb hc ht
      have hkl : k < list.length := by omega
      obtain ⟨hx1,hx2⟩ := hls _ (List.getElem_mem hkl)
      refine Ev.round 1 (L := fun φ n => Z153.l0 (mkR (run E (φ 0))) (φ 0) n list (k : Int) p (W : Int) (h.length : Int) cells taken) ?_ (fun _ _ _ => rfl)
      simp only [Z153.l0_succ _ mk_ok]
      rw [List.drop_eq_getElem_cons hkl,clsT]
      refine ev_t (decide_eq_true (by omega)) (ev_bind (idx_lt hkl) (ev_call (l07Spans_ret p W cells h list[k] hp hW (by omega) hc hx2 hx1) (ev_b (fun hq => ?_) fun hq => ?_)))
      · have hq := pb_not.1 (show pb (InR p W h list[k]) = false by simpa using hq)
        rw [if_neg hq]
        have hih := ih (k + 1) (augC cells list[k] h.length W) (h ++ [list[k]]) (taken ++ [list[k]]) (by omega) (by rw [List.length_append,List.length_singleton]; omega) (hc.next hx2 hx1) (by rw [List.length_append,List.length_singleton]; omega)
        rw [List.append_assoc,List.singleton_append,List.length_append,List.length_singleton] at hih
        refine ev_bind (idx_lt hkl) (ev_call (l00Own_ret list[k] (by omega)) (ev_chk (by simp only [List.length_singleton,decide_eq_true_eq]; omega) (ev_bind (idx_lt hkl) (ev_call (l07With_ret p W cells h list[k] hW (by omega) hc hx1) ?_))))
        rw [w64_succ (by omega)]; exact hih
      · have hq := pb_iff.1 (show pb (InR p W h list[k]) = true by simpa using hq)
        rw [if_pos hq,w64_succ (by omega)]
        exact ih (k + 1) cells h taken (by omega) (by omega) hc (by omega)
  refine Ev.start (p := fun φ n => Z153.l0 (mkR (run E (φ 0))) (φ 0) n list 0 p (W : Int) (h.length : Int) cells [] = _) 1 ?_ (fun _ _ _ h => h)
  exact key list.length 0 cells h [] (by omega) hh hc (Nat.le_refl _)

/-! the basis of cohomology -/
noncomputable def cohB (x : Shf) (k : Int) : List Sim := clsT x.2.1 (SD x.1 x.2.2.1 k).toNat (colsL (SD x.1 x.2.2.1 k).toNat (SD x.1 x.2.2.1 (k - 1)).toNat (cobX x (k - 1)).2.2.2.1) (kerC x k)

theorem kerC_rws {x : Shf} {k : Int} (hs : VS x.1 x.2.1 x.2.2.1 x.2.2.2.1) : Rws x.2.1 (SD x.1 x.2.2.1 k).toNat (kerC x k) ∧ (kerC x k).length ≤ (SD x.1 x.2.2.1 k).toNat :=
  ⟨fun r hr => kerL_mem hs.2.1.1 hr,kerL_length⟩

theorem cohB_ret (x : Shf) (k : Int) (hx : Sm (.st cS) x) (hk : 0 ≤ k ∧ k ≤ 3) (hs : VS x.1 x.2.1 x.2.2.1 x.2.2.2.1) :
    Ret E n_Z26 [dLL x.1,dI x.2.1,dL x.2.2.1,dMs x.2.2.2.1,dI k] ⟨o_Z26,(cohB x k,())⟩ ∧ Ret E n_Z169 [dS x,dI k] ⟨o_Z169,(cohB x k,())⟩ := by
  obtain ⟨W,eW,bW,tW⟩ := SD_nat hs k
  obtain ⟨C,eC,bC,tC⟩ := SD_nat hs (k - 1)
  have hl : (cobX x (k - 1)).2.2.2.1.length = W * C := by show (cobC _ _ _ _ (k - 1)).length = _; rw [cobC_length,tC,show k - 1 + 1 = k by omega,tW]
  have he : Elems (cobX x (k - 1)).2.2.2.1 x.2.1 := cobC_elems hs (k - 1)
  obtain ⟨hcr,hcl,hcw⟩ := colsL_colR hl he
  obtain ⟨hkr,hkl⟩ := kerC_rws (k := k) hs
  have hker := kerC_ret k hs
  have e1 : (cobX x (k - 1)).2.1 = (W : Int) := by show SD x.1 x.2.2.1 (k - 1 + 1) = _; rw [show k - 1 + 1 = k by omega,eW]
  have e2 : (cobX x (k - 1)).2.2.1 = (C : Int) := eC
  have hp2 : 2 ≤ x.2.1 ∧ x.2.1 ≤ 251 := ⟨hs.2.1.1,hs.2.1.2.1⟩
  unfold cohB
  rw [tW,tC]
  rw [tW] at hkr hkl
  have hi := independent_ret x.2.1 W (colsL W C (cobX x (k - 1)).2.2.2.1) (kerC x k) hs.2.1 (by omega) (by omega) hcw (by omega) hkr
  have hsp := l07Classes_ret x.2.1 W (cobX x (k - 1)).2.2.2.1 (colsL W C (cobX x (k - 1)).2.2.2.1) (kerC x k) hs.2.1 (by omega) (by omega) hcr hkr
  have hcob : Ret E n_Z24 [dLL x.1,dI x.2.1,dL x.2.2.1,dMs x.2.2.2.1,dI k] ⟨o_Z24,(x.2.1,(W : Int),bas x.2.1 W (colsL W C (cobX x (k - 1)).2.2.2.1),())⟩ := by
    have hm := coboundaryMatrix_ret x.1 x.2.1 x.2.2.1 x.2.2.2.1 (k - 1) (by omega) hx.1 hs
    have hcc := columnsOf_ret (cobX x (k - 1)).1 W C (cobX x (k - 1)).2.2.2.1 hl bW bC
    have hso := spaceOf_ret x.2.1 W (colsL W C (cobX x (k - 1)).2.2.2.1) hp2 (by omega) (by omega) hcw
    rw [← e1] at hcc hso
    rw [← e2] at hcc
    refine ret_of ?_
    simp only [run_Z24,Z24.ev,w64_small (n := k - 1) (by omega) (by omega)]
    refine ev_call hm (ev_call hcc (ev_call hso (ev_some ?_)))
    rw [e1]
  constructor
  · refine ret_of ?_
    simp only [run_Z26,Z26.ev]
    exact ev_call hcob (ev_call (coboundaryMatrix_ret x.1 x.2.1 x.2.2.1 x.2.2.2.1 k (by omega) hx.1 hs) (ev_call hker.1 (ev_call hi ev_rfl)))
  · rw [hcl,← e1,← e2] at hsp
    refine ret_of ?_
    simp only [run_Z169,Z169.ev,w64_small (n := k - 1) (by omega) (by omega)]
    exact ev_call (l11Matrix_ret x k (by omega) hx.1 hs) (ev_call (l11Matrix_ret x (k - 1) (by omega) hx.1 hs) (ev_call hker.2 (ev_call hsp ev_rfl)))

end VeT

open Go Go.Proofs Ve
set_option linter.unusedVariables false
set_option linter.unusedSimpArgs false
namespace VeT

/-! classes: they span,and their numbers are told -/
theorem InR.left {p : Int} {W : Nat} {A B : List Sim} {x : Sim} (h : InR p W A x) : InR p W (A ++ B) x := InR.trans (fun r hr => InR.mem (List.mem_append.2 (.inl hr))) h

end VeT

open Go Go.Proofs Ve
set_option linter.unusedVariables false
set_option linter.unusedSimpArgs false
namespace VeT

end VeT

open Go Go.Proofs Ve
set_option linter.unusedVariables false
set_option linter.unusedSimpArgs false
namespace VeT

end VeT

open Go Go.Proofs Ve
set_option linter.unusedVariables false
set_option linter.unusedSimpArgs false
namespace VeT

end VeT

open Go Go.Proofs Ve
set_option linter.unusedVariables false
set_option linter.unusedSimpArgs false
namespace VeT

end VeT

open Go Go.Proofs Ve
set_option linter.unusedVariables false
set_option linter.unusedSimpArgs false
namespace VeT

structure BdF (c : List Sim) (k p : Int) : Prop where
  sc : Sm (.sl (.sl (.int .i64))) c
  vc : VC c
  pr : Pr p
  hk : 0 ≤ k ∧ k ≤ 4
  lu : (ofDim c k c.length).length ≤ 32
  ll : (ofDim c (k - 1) c.length).length ≤ 32

theorem BdF.hp {c : List Sim} {k p : Int} (F : BdF c k p) : 2 ≤ p ∧ p ≤ 251 := ⟨F.pr.1,F.pr.2.1⟩

end VeT

open Go Go.Proofs Ve
set_option linter.unusedVariables false
set_option linter.unusedSimpArgs false
namespace VeT

end VeT

open Go Go.Proofs Ve
set_option linter.unusedVariables false
set_option linter.unusedSimpArgs false
namespace VeT

theorem sm_LLnil : Sm (.sl (.sl (.int .i64))) ([] : List Sim) := ⟨by show (0 : Nat) ≤ 1048576; omega,fun _ h => by cases h⟩

noncomputable def CohomologyBasisV (x : Shf) (k : Int) : List Sim × Int × Unit := if GC x k = 0 then (cohB x k,0,()) else ([],GC x k,())

theorem implCohomologyBasis_ret (x : Shf) (k : Int) (hx : Sm (.st cS) x) : Ret E n_Z5 [dLL x.1,dI x.2.1,dL x.2.2.1,dMs x.2.2.2.1,dI k] ⟨o_Z5,CohomologyBasisV x k⟩ := by
  refine ret_of ?_
  simp only [run_Z5,Z5.ev]
  unfold CohomologyBasisV
  refine ev_call (graded_ret x k hx) ?_
  by_cases h : GC x k = 0
  · obtain ⟨h1,h2⟩ := GC_zero.1 h
    rw [if_pos h]
    exact ev_f (by simp [h]) (ev_call (cohB_ret x k hx h2 h1.1).1 ev_rfl)
  · rw [if_neg h]
    exact ev_t (by simpa using h) ev_rfl

theorem specCohomologyBasis_ret (x : Shf) (k : Int) (hx : Sm (.st cS) x) : Ret E n_Z126 [dLL x.1,dI x.2.1,dL x.2.2.1,dMs x.2.2.2.1,dI k] ⟨o_Z126,CohomologyBasisV x k⟩ := by
  refine ret_of ?_
  simp only [run_Z126,Z126.ev]
  unfold CohomologyBasisV
  refine ev_call (l11Ask_ret x k hx) ?_
  by_cases h : GC x k = 0
  · obtain ⟨h1,h2⟩ := GC_zero.1 h
    rw [if_pos h]
    exact ev_f (by simp [h]) (ev_call (cohB_ret x k hx h2 h1.1).2 ev_rfl)
  · rw [if_neg h]
    exact ev_t (by simpa using h) ev_rfl

theorem CohomologyBasisV_sm (x : Shf) (k : Int) (hx : Sm (.st cS) x) : Sm (.sl (.sl (.int .i64))) (CohomologyBasisV x k).1 := by
  unfold CohomologyBasisV
  split
  · rename_i h
    obtain ⟨h1,h2⟩ := GC_zero.1 h
    obtain ⟨W,eW,bW,tW⟩ := SD_nat h1.1 k
    obtain ⟨hkr,hkl⟩ := kerC_rws (k := k) h1.1
    rw [tW] at hkr hkl
    have h3 : (cohB x k).length ≤ (kerC x k).length := clsT_length
    refine ⟨by show (cohB x k).length ≤ 1048576; omega,fun y hy => ?_⟩
    have hy : y ∈ cohB x k := hy
    have := (hkr y (clsT_sub hy)).1
    exact ⟨by show y.length ≤ 1048576; omega,fun _ _ => trivial⟩
  · exact sm_LLnil

end VeT

open Go Go.Proofs Ve
set_option linter.unusedVariables false
set_option linter.unusedSimpArgs false
namespace VeT

theorem law_CohomologyBasis (x0 : Shf) (x1 : Int) (w0 : Wf (.st cS) x0) : Ret E n_Z75 [dLL x0.1,dI x0.2.1,dL x0.2.2.1,dMs x0.2.2.2.1,dI x1] ⟨.cons .bool .nil,(true,())⟩ := by
  refine ret_of ?_
  simp only [run_Z75,Z75.ev]
  obtain ⟨r0,hs0,s0⟩ := szSheaf_ret x0 1048576 w0 (by omega) (by omega)
  refine ev_call hs0 (ev_d (fun _ => ev_rfl) fun n0 => ?_)
  have n0 := Int.not_lt.1 n0
  obtain ⟨b0,m0⟩ := s0 n0
  have hi := implCohomologyBasis_ret x0 x1 m0
  have hsp := specCohomologyBasis_ret x0 x1 m0
  have hsm := CohomologyBasisV_sm x0 x1 m0
  generalize CohomologyBasisV x0 x1 = V at hi hsp hsm
  obtain ⟨v0,v1,⟨⟩⟩ := V
  have z0 : Sm (.sl (.sl (.int .i64))) v0 := hsm
  obtain ⟨qr0,hqr0,eqr0⟩ := eqInt64SS_ret v0 v0 z0
  obtain rfl : qr0 = true := eqr0.2 rfl
  have to0 := toSheaf_ret x0 m0
  obtain ⟨q0,hq0,eq0⟩ := eqSheaf_ret x0 x0 m0
  obtain rfl : q0 = true := eq0.2 rfl
  obtain ⟨ma0,mb0,mc0,hm0,hmb0⟩ := markSheaf_ret x0 m0
  have hk : ¬ (mkSN x0 1 < 0) := by omega
  have mr0 := markInt64SS_ret v0 (1) (by omega) z0
  have hl0 := heldInt64SS_ret v0 (1) (by omega) z0
  have hb0 := mkN_ge (xs := v0) (k := 1) fun y hy => (z0.2 y hy).1
  have he0 : ¬ (mkN v0 (1) < 0) := by omega
  repeat (first | with_reducible exact ev_rfl | with_reducible refine ev_call hqr0 ?_ | with_reducible refine ev_call to0 ?_ | with_reducible refine ev_call hq0 ?_ | with_reducible refine ev_call hi ?_ | with_reducible refine ev_call hsp ?_ | with_reducible refine ev_call hm0 ?_ | with_reducible refine ev_call mr0 ?_ | with_reducible refine ev_call hl0 ?_ | with_reducible refine ev_both ?_ ?_ | with_reducible refine ev_f (by first | rfl | exact bne_self_eq_false _ | exact decide_eq_false hk | exact decide_eq_false he0 | (simp; done)) ?_ | simp only [bne_self_eq_false,Z75.j0_eq _ mk_ok,Z75.j1_eq _ mk_ok,Z75.j2_eq _ mk_ok,cond_false])

theorem rowCohomologyBasis (z : ((.cons (.sl (.sl (.int .i64))) (.cons (.int .i64) (.cons (.sl (.int .i64)) (.cons (.sl (.st cM)) (.cons (.int .i64) .nil))))) : Ty).T)
    (h : Wf (.cons (.sl (.sl (.int .i64))) (.cons (.int .i64) (.cons (.sl (.int .i64)) (.cons (.sl (.st cM)) (.cons (.int .i64) .nil))))) z) :
    Evt fun n => run E n n_Z75 (unpack _ z) = some ⟨.cons .bool .nil,(true,())⟩ :=
  law_CohomologyBasis (z.1,z.2.1,z.2.2.1,z.2.2.2.1,()) z.2.2.2.2.1 ⟨h.1,h.2.1,h.2.2.1,h.2.2.2.1,trivial⟩

end VeT
