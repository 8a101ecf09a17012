import Derived.Test.YtonfceapakgcjaaGreatT6
import Derived.Test.YtonfceapakgcjaaGreatT5
set_option linter.unusedVariables false
set_option linter.unusedSimpArgs false
open Go Go.Proofs Ve
set_option linter.unusedVariables false
set_option linter.unusedSimpArgs false
namespace VeT

/-! a matrix with some columns -/
def ColR (p : Int) (W : Nat) (cells : Sim) (h : List Sim) : Prop := (cells.length = W * h.length ∧ Elems cells p) ∧ ∀ i j,i < W → j < h.length → entM cells h.length i j = entR h j i

theorem ColR.slv {p : Int} {W : Nat} {cells : Sim} {h : List Sim} {v : Sim} (hc : ColR p W cells h) : Slv p W h.length (entM cells h.length) (fun i => v.getD i 0) ↔ InR p W h v := by
  have e : ∀ (y : Nat → Int) i,i < W → dotN y (entM cells h.length i) h.length = dotN y (fun j => entR h j i) h.length := fun y i hi => dotN_congr fun j hj => ⟨rfl,hc.2 i j hi hj⟩
  exact ⟨fun ⟨y,hy⟩ => ⟨y,fun i hi => by rw [← e y i hi]; exact hy i hi⟩,fun ⟨y,hy⟩ => ⟨y,fun i hi => by rw [e y i hi]; exact hy i hi⟩⟩

theorem ColR.next {p : Int} {W : Nat} {cells : Sim} {h : List Sim} {v : Sim} (hc : ColR p W cells h) (hv : Elems v p) (hl : v.length = W) : ColR p W (augC cells v h.length W) (h ++ [v]) := by
  have hlen : (h ++ [v]).length = h.length + 1 := by simp
  have hA0 := entM_in hc.1.2 hc.1.1
  have hA1 := augE_in hA0 hv hl
  refine ⟨⟨by rw [hlen]; exact flatF_length,fun x hx => ?_⟩,fun i j hi hj => ?_⟩
  · unfold augC at hx
    rw [← flatF_flatten] at hx
    obtain ⟨row,hrow,hx⟩ := List.mem_flatten.1 hx
    obtain ⟨i,hi,rfl⟩ := List.mem_map.1 hrow
    obtain ⟨j,hj,rfl⟩ := List.mem_map.1 hx
    exact hA1 i j (List.mem_range.1 hi) (List.mem_range.1 hj)
  · rw [hlen] at hj ⊢
    unfold augC
    rw [entM_flatF hi hj]
    unfold augE entR
    by_cases hjh : j < h.length
    · rw [if_neg (by omega),hc.2 i j hi hjh,List.getD_eq_getElem?_getD (l := h ++ [v]),List.getElem?_append_left hjh,← List.getD_eq_getElem?_getD]; rfl
    · obtain rfl : j = h.length := by omega
      rw [if_pos rfl,List.getD_eq_getElem?_getD (l := h ++ [v]),List.getElem?_append_right (Nat.le_refl _)]; simp

theorem colsL_colR {p : Int} {W C : Nat} {cells : Sim} (hl : cells.length = W * C) (he : Elems cells p) : ColR p W cells (colsL W C cells) ∧ (colsL W C cells).length = C ∧ Rws p W (colsL W C cells) := by
  have hlen : (colsL W C cells).length = C := by simp [colsL]
  have hA := entM_in he hl
  refine ⟨⟨⟨by rw [hlen]; exact hl,he⟩,fun i j hi hj => ?_⟩,hlen,fun x hx => ?_⟩
  · rw [hlen] at hj ⊢
    have e : (colsL W C cells).getD j [] = (List.range W).map fun i => cells.getD (i * C + j) 0 := by
      unfold colsL
      rw [List.getD_eq_getElem?_getD,List.getElem?_map,List.getElem?_range hj]; rfl
    unfold entR
    rw [e,List.getD_eq_getElem?_getD,List.getElem?_map,List.getElem?_range hi]; rfl
  · obtain ⟨i,hi,rfl⟩ := List.mem_map.1 hx
    refine ⟨by simp,fun y hy => ?_⟩
    obtain ⟨j,hj,rfl⟩ := List.mem_map.1 hy
    exact hA j i (List.mem_range.1 hj) (List.mem_range.1 hi)

theorem l07Spans_ret (p : Int) (W : Nat) (cells : Sim) (h : List Sim) (v : Sim) (hp : Pr p) (hW : W ≤ 64) (hh : h.length ≤ 4096) (hc : ColR p W cells h) (hv : Elems v p) (hl : v.length = W) :
    Ret E n_Z166 [dM (p,(W : Int),(h.length : Int),cells,()),dL v] ⟨o_Z166,(pb (InR p W h v),())⟩ := by
  have hm : W * (h.length + 1) ≤ 64 * 4097 := Nat.mul_le_mul hW (by omega)
  have hs := l03Solve_ret p W h.length cells v ⟨hp.1,hp.2.1⟩ (by omega) (by omega) (by omega) hc.1.1 hc.1.2 hl hv
  have hi := (solS_iff hp hc.1.1 hc.1.2 hl hv).1.trans hc.slv
  refine ret_of ?_
  simp only [run_Z166,Z166.ev]
  refine ev_call hs (ev_some ?_)
  cases hq : solS p W h.length cells v with
  | none =>
    rw [pb_false fun e => hi.2 e hq]; rfl
  | some y =>
    rw [pb_true (hi.1 (by rw [hq]; exact fun e => by cases e))]; rfl

theorem l07With_ret (p : Int) (W : Nat) (cells : Sim) (h : List Sim) (v : Sim) (hW : W ≤ 64) (hh : h.length ≤ 4096) (hc : ColR p W cells h) (hl : v.length = W) :
    Ret E n_Z167 [dM (p,(W : Int),(h.length : Int),cells,()),dL v] ⟨o_Z167,(p,(W : Int),((h.length + 1 : Nat) : Int),augC cells v h.length W,())⟩ := by
  have hm : W * (h.length + 1) ≤ 64 * 4097 := Nat.mul_le_mul hW (by omega)
  refine ret_of ?_
  simp only [run_Z167,Z167.ev]
  exact ev_call (l03Join_ret p W h.length cells v (by omega) (by omega) (by omega) hc.1.1 hl) ev_rfl

theorem l07Classes_ret (p : Int) (W : Nat) (cells : Sim) (h list : List Sim) (hp : Pr p) (hW : W ≤ 64) (hh : h.length + list.length ≤ 4096) (hc : ColR p W cells h) (hls : Rws p W list) :
    Ret E n_Z162 [dI p,dI (W : Int),dI (h.length : Int),dL cells,dLL list] ⟨o_Z162,(clsT p W h list,())⟩ := by
  refine ret_of ?_
  simp only [run_Z162,Z162.ev]
  have key : ∀ d k (cells : Sim) (h taken : List Sim),k + d = list.length → h.length + d ≤ 4096 → ColR p W cells h → taken.length ≤ k →
      Ev fun φ => Z162.l0 (mkR (run E (φ 0))) (φ 0) (φ 1) list (k : Int) p (W : Int) (h.length : Int) cells taken = some ⟨o_Z162,(taken ++ clsT p W h (list.drop k),())⟩ := by
    intro d
    induction d with
    | zero =>
      intro k cells h taken hk hb hc ht
      refine Ev.round 1 (L := fun φ n => Z162.l0 (mkR (run E (φ 0))) (φ 0) n list (k : Int) p (W : Int) (h.length : Int) cells taken) ?_ (fun _ _ _ => rfl)
      simp only [Z162.l0_succ _ mk_ok]
      rw [List.drop_of_length_le (by omega),clsT,List.append_nil]
      exact ev_f (decide_eq_false (by omega)) ev_rfl
    | succ d ih =>
      intro k cells h taken hk hb hc ht
      have hkl : k < list.length := by omega
      obtain ⟨hx1,hx2⟩ := hls _ (List.getElem_mem hkl)
      refine Ev.round 1 (L := fun φ n => Z162.l0 (mkR (run E (φ 0))) (φ 0) n list (k : Int) p (W : Int) (h.length : Int) cells taken) ?_ (fun _ _ _ => rfl)
      simp only [Z162.l0_succ _ mk_ok]
      rw [List.drop_eq_getElem_cons hkl,clsT]
      refine ev_t (decide_eq_true (by omega)) (ev_bind (idx_lt hkl) (ev_call (l07Spans_ret p W cells h list[k] hp hW (by omega) hc hx2 hx1) (ev_b (fun hq => ?_) fun hq => ?_)))
      · have hq := pb_not.1 (show pb (InR p W h list[k]) = false by simpa using hq)
        rw [if_neg hq]
        have hih := ih (k + 1) (augC cells list[k] h.length W) (h ++ [list[k]]) (taken ++ [list[k]]) (by omega) (by rw [List.length_append,List.length_singleton]; omega) (hc.next hx2 hx1) (by rw [List.length_append,List.length_singleton]; omega)
        rw [List.append_assoc,List.singleton_append,List.length_append,List.length_singleton] at hih
        refine ev_bind (idx_lt hkl) (ev_call (l00Own_ret list[k] (by omega)) (ev_chk (by simp only [List.length_singleton,decide_eq_true_eq]; omega) (ev_bind (idx_lt hkl) (ev_call (l07With_ret p W cells h list[k] hW (by omega) hc hx1) ?_))))
        rw [w64_succ (by omega)]; exact hih
      · have hq := pb_iff.1 (show pb (InR p W h list[k]) = true by simpa using hq)
        rw [if_pos hq,w64_succ (by omega)]
        exact ih (k + 1) cells h taken (by omega) (by omega) hc (by omega)
  refine Ev.start (p := fun φ n => Z162.l0 (mkR (run E (φ 0))) (φ 0) n list 0 p (W : Int) (h.length : Int) cells [] = _) 1 ?_ (fun _ _ _ h => h)
  exact key list.length 0 cells h [] (by omega) hh hc (Nat.le_refl _)

/-! the basis of cohomology -/
noncomputable def cohB (x : Shf) (k : Int) : List Sim := clsT x.2.1 (SD x.1 x.2.2.1 k).toNat (colsL (SD x.1 x.2.2.1 k).toNat (SD x.1 x.2.2.1 (k - 1)).toNat (cobX x (k - 1)).2.2.2.1) (kerC x k)

theorem kerC_rws {x : Shf} {k : Int} (hs : VS x.1 x.2.1 x.2.2.1 x.2.2.2.1) : Rws x.2.1 (SD x.1 x.2.2.1 k).toNat (kerC x k) ∧ (kerC x k).length ≤ (SD x.1 x.2.2.1 k).toNat :=
  ⟨fun r hr => kerL_mem hs.2.1.1 hr,kerL_length⟩

theorem cohB_ret (x : Shf) (k : Int) (hx : Sm (.st cS) x) (hk : 0 ≤ k ∧ k ≤ 3) (hs : VS x.1 x.2.1 x.2.2.1 x.2.2.2.1) :
    Ret E n_Z27 [dLL x.1,dI x.2.1,dL x.2.2.1,dMs x.2.2.2.1,dI k] ⟨o_Z27,(cohB x k,())⟩ ∧ Ret E n_Z180 [dS x,dI k] ⟨o_Z180,(cohB x k,())⟩ := by
  obtain ⟨W,eW,bW,tW⟩ := SD_nat hs k
  obtain ⟨C,eC,bC,tC⟩ := SD_nat hs (k - 1)
  have hl : (cobX x (k - 1)).2.2.2.1.length = W * C := by show (cobC _ _ _ _ (k - 1)).length = _; rw [cobC_length,tC,show k - 1 + 1 = k by omega,tW]
  have he : Elems (cobX x (k - 1)).2.2.2.1 x.2.1 := cobC_elems hs (k - 1)
  obtain ⟨hcr,hcl,hcw⟩ := colsL_colR hl he
  obtain ⟨hkr,hkl⟩ := kerC_rws (k := k) hs
  have hker := kerC_ret k hs
  have e1 : (cobX x (k - 1)).2.1 = (W : Int) := by show SD x.1 x.2.2.1 (k - 1 + 1) = _; rw [show k - 1 + 1 = k by omega,eW]
  have e2 : (cobX x (k - 1)).2.2.1 = (C : Int) := eC
  have hp2 : 2 ≤ x.2.1 ∧ x.2.1 ≤ 251 := ⟨hs.2.1.1,hs.2.1.2.1⟩
  unfold cohB
  rw [tW,tC]
  rw [tW] at hkr hkl
  have hi := independent_ret x.2.1 W (colsL W C (cobX x (k - 1)).2.2.2.1) (kerC x k) hs.2.1 (by omega) (by omega) hcw (by omega) hkr
  have hsp := l07Classes_ret x.2.1 W (cobX x (k - 1)).2.2.2.1 (colsL W C (cobX x (k - 1)).2.2.2.1) (kerC x k) hs.2.1 (by omega) (by omega) hcr hkr
  have hcob : Ret E n_Z25 [dLL x.1,dI x.2.1,dL x.2.2.1,dMs x.2.2.2.1,dI k] ⟨o_Z25,(x.2.1,(W : Int),bas x.2.1 W (colsL W C (cobX x (k - 1)).2.2.2.1),())⟩ := by
    have hm := coboundaryMatrix_ret x.1 x.2.1 x.2.2.1 x.2.2.2.1 (k - 1) (by omega) hx.1 hs
    have hcc := columnsOf_ret (cobX x (k - 1)).1 W C (cobX x (k - 1)).2.2.2.1 hl bW bC
    have hso := spaceOf_ret x.2.1 W (colsL W C (cobX x (k - 1)).2.2.2.1) hp2 (by omega) (by omega) hcw
    rw [← e1] at hcc hso
    rw [← e2] at hcc
    refine ret_of ?_
    simp only [run_Z25,Z25.ev,w64_small (n := k - 1) (by omega) (by omega)]
    refine ev_call hm (ev_call hcc (ev_call hso (ev_some ?_)))
    rw [e1]
  constructor
  · refine ret_of ?_
    simp only [run_Z27,Z27.ev]
    exact ev_call hcob (ev_call (coboundaryMatrix_ret x.1 x.2.1 x.2.2.1 x.2.2.2.1 k (by omega) hx.1 hs) (ev_call hker.1 (ev_call hi ev_rfl)))
  · rw [hcl,← e1,← e2] at hsp
    refine ret_of ?_
    simp only [run_Z180,Z180.ev,w64_small (n := k - 1) (by omega) (by omega)]
    exact ev_call (l11Matrix_ret x k (by omega) hx.1 hs) (ev_call (l11Matrix_ret x (k - 1) (by omega) hx.1 hs) (ev_call hker.2 (ev_call hsp ev_rfl)))

end VeT

open Go Go.Proofs Ve
set_option linter.unusedVariables false
set_option linter.unusedSimpArgs false
namespace VeT

/-! classes: they span,and their numbers are told -/
theorem InR.left {p : Int} {W : Nat} {A B : List Sim} {x : Sim} (h : InR p W A x) : InR p W (A ++ B) x := InR.trans (fun r hr => InR.mem (List.mem_append.2 (.inl hr))) h

theorem clsT_span {p : Int} {W : Nat} : ∀ {l h : List Sim} {x : Sim},x ∈ l → InR p W (h ++ clsT p W h l) x
  | [],h,x,hx => by simp at hx
  | y :: l,h,x,hx => by
    unfold clsT
    split
    · rename_i hy
      rcases List.mem_cons.1 hx with rfl | hx
      · exact hy.left
      · exact clsT_span hx
    · rcases List.mem_cons.1 hx with rfl | hx
      · exact InR.mem (List.mem_append.2 (.inr List.mem_cons_self))
      · have := clsT_span (p := p) (W := W) (h := h ++ [y]) hx
        rwa [List.append_assoc,List.singleton_append] at this

theorem dotN_cons {c g : Nat → Int} : ∀ {n : Nat},dotN c g (n + 1) = c 0 * g 0 + dotN (fun i => c (i + 1)) (fun i => g (i + 1)) n
  | 0 => by simp [dotN]
  | n + 1 => by
    have := dotN_cons (c := c) (g := g) (n := n)
    rw [show dotN c g (n + 1 + 1) = dotN c g (n + 1) + c (n + 1) * g (n + 1) from rfl,this]
    simp only [dotN]; omega

theorem Spn.unmul {p : Int} {R W : Nat} {A : Ent} {x : Nat → Int} {k : Int} (hp : Pr p) (hk : k % p ≠ 0) (h : Spn p R W A (fun j => k * x j)) : Spn p R W A x := by
  have hin := emod_in (x := k) hp.1
  have hinv := inv_mul hp (a := k % p) (by omega) hin.2
  refine (h.smul (invF (k % p) p)).congr fun j _ => ?_
  show invF (k % p) p * (k * x j) % p = x j % p
  rw [← Int.mul_assoc,Int.mul_emod,show invF (k % p) p * k % p = 1 by rw [Int.mul_comm,Int.mul_emod,← hinv]; conv => rhs; rw [Int.mul_emod,Int.emod_emod_of_dvd _ (Int.dvd_refl p)],Int.one_mul,Int.emod_emod_of_dvd _ (Int.dvd_refl p)]

theorem clsT_free {p : Int} {W : Nat} (hp : Pr p) : ∀ {l h : List Sim} {c : Nat → Int},Spn p h.length W (entR h) (fun j => dotN c (fun i => entR (clsT p W h l) i j) (clsT p W h l).length) →
    ∀ i,i < (clsT p W h l).length → c i % p = 0
  | [],h,c,_,i,hi => by simp [clsT] at hi
  | y :: l,h,c,hs,i,hi => by
    unfold clsT at hs hi
    split at hs
    · rename_i hy
      rw [if_pos hy] at hi
      exact clsT_free hp hs i hi
    · rename_i hy
      rw [if_neg hy] at hi
      rw [List.length_cons] at hi
      generalize hB : clsT p W (h ++ [y]) l = B at hs hi
      have e1 : ∀ j,dotN c (fun i => entR (y :: B) i j) (y :: B).length = c 0 * y.getD j 0 + dotN (fun i => c (i + 1)) (fun i => entR B i j) B.length := fun j => by
        rw [List.length_cons,dotN_cons]; rfl
      have big : ∀ {x : Nat → Int},Spn p h.length W (entR h) x → Spn p (h ++ [y]).length W (entR (h ++ [y])) x := fun {x} hx => Spn.trans (fun i hi => by
        have e : entR h i = fun j => (h[i]).getD j 0 := by funext j; unfold entR; rw [getD_lt hi]
        rw [e]
        exact InR.mem (List.mem_append.2 (.inl (List.getElem_mem hi)))) hx
      have hyy : Spn p (h ++ [y]).length W (entR (h ++ [y])) (fun j => y.getD j 0) := InR.mem (List.mem_append.2 (.inr List.mem_cons_self))
      have rest : Spn p (h ++ [y]).length W (entR (h ++ [y])) (fun j => dotN (fun i => c (i + 1)) (fun i => entR B i j) B.length) :=
        ((big hs).add (hyy.smul (-1 * c 0))).congr fun j _ => by
          rw [e1,show c 0 * y.getD j 0 + dotN (fun i => c (i + 1)) (fun i => entR B i j) B.length + -1 * c 0 * y.getD j 0 = dotN (fun i => c (i + 1)) (fun i => entR B i j) B.length by rw [Int.mul_assoc]; omega]
      have tail : ∀ i,i < B.length → c (i + 1) % p = 0 := fun i hi => by
        subst hB
        exact clsT_free hp (c := fun i => c (i + 1)) rest i hi
      cases i with
      | succ i => exact tail i (by omega)
      | zero =>
        refine Classical.byContradiction fun hc => hy ?_
        refine Spn.unmul hp hc (hs.congr fun j _ => ?_)
        have hz : dotN (fun i => c (i + 1)) (fun i => entR B i j) B.length % p = 0 := by
          rw [dotN_comm,dotN_mod (p := p) (h := fun _ => 0) fun i hi => by rw [tail i hi,Int.zero_emod],dotN_zeroR,Int.zero_emod]
        rw [e1,Int.add_emod,hz,Int.add_zero,Int.emod_emod_of_dvd _ (Int.dvd_refl p)]

end VeT

open Go Go.Proofs Ve
set_option linter.unusedVariables false
set_option linter.unusedSimpArgs false
namespace VeT

/-! the kernel's vectors span the kernel -/
theorem kerL_in {p : Int} {W : Nat} {pv : List Nat} {F : Ent} : ∀ {n c : Nat},c < n → c ∉ pv → kerX p W pv F c pv.length ∈ kerL p W pv F n
  | n + 1,c,h,hc => by
    rw [kerL,List.mem_append]
    by_cases e : c = n
    · subst e
      right; rw [if_neg hc]; exact List.mem_singleton.2 rfl
    · exact .inl (kerL_in (by omega) hc)

theorem kerX_pv {p : Int} {R W c : Nat} {pv : List Nat} {F : Ent} (hrf : Rf R W F pv) : ∀ n,n ≤ pv.length → ∀ i,i < n → (kerX p W pv F c n).getD (pv.getD i 0) 0 = (0 - F i c) % p
  | 0,_,i,hi => by omega
  | n + 1,hn,i,hi => by
    have hq := hrf.lt n (by omega)
    rw [kerX_succ,getD_setI (by rw [kerX_length]; exact hq)]
    by_cases e : i = n
    · subst e; rw [if_pos rfl]
    · have := hrf.mono i n (by omega) (by omega)
      rw [if_neg (by omega)]; exact kerX_pv hrf n (by omega) i (by omega)

theorem kerX_free {p : Int} {R W c j : Nat} {pv : List Nat} {F : Ent} (hrf : Rf R W F pv) (hj : j < W) (hjp : j ∉ pv) (hc : c < W) : ∀ n,n ≤ pv.length → (kerX p W pv F c n).getD j 0 = if j = c then 1 else 0
  | 0,_ => by
    show ((List.replicate W (0 : Int)).set c 1).getD j 0 = _
    rw [getD_setI (by simpa using hc)]
    split
    · rfl
    · rw [List.getD_eq_getElem?_getD,List.getElem?_replicate,if_pos hj]; rfl
  | n + 1,hn => by
    have hq := hrf.lt n (by omega)
    rw [kerX_succ,getD_setI (by rw [kerX_length]; exact hq),if_neg fun e => hjp (by rw [e]; exact getD_mem (by omega))]
    exact kerX_free hrf hj hjp hc n (by omega)

theorem pv_at {pv : List Nat} {j : Nat} (h : j ∈ pv) : ∃ i,i < pv.length ∧ pv.getD i 0 = j := by
  obtain ⟨i,hi,e⟩ := List.mem_iff_getElem.1 h
  exact ⟨i,hi,by rw [getD_lt hi]; exact e⟩

open Classical in
theorem kerM_span {p : Int} {R W : Nat} {cells x : Sim} (hp : Pr p) (hl : cells.length = R * W) (he : Elems cells p) (h0 : ∀ i,i < R → dotN (fun j => x.getD j 0) (entM cells W i) W % p = 0) : InR p W (kerM p R W cells) x := by
  have hA := entM_in he hl
  obtain ⟨hrf,heq⟩ := elS_rf hp hA W (Nat.le_refl _)
  have hF0 : ∀ i,i < R → dotN (fun j => x.getD j 0) ((elS p R (entM cells W) W).1 i) W % p = 0 := fun i hi => Spn.orth h0 (heq.1 i hi)
  unfold kerM
  generalize elS p R (entM cells W) W = S at hrf hF0
  obtain ⟨F,pv⟩ := S
  simp only at hrf hF0 ⊢
  let K : Ent := fun c j => if c ∈ pv then 0 else (kerX p W pv F c pv.length).getD j 0
  refine (Spn.sum (c := fun j => x.getD j 0) (B := K) (n := W) fun c hc => ?_).congr fun j hj => ?_
  · by_cases h : c ∈ pv
    · rw [show K c = fun _ => 0 by funext j; simp [K,h]]; exact Spn.zero
    · rw [show K c = fun j => (kerX p W pv F c pv.length).getD j 0 by funext j; simp [K,h]]
      exact InR.mem (kerL_in hc h)
  · show dotN (fun j => x.getD j 0) (fun c => K c j) W % p = x.getD j 0 % p
    by_cases hjp : j ∈ pv
    · obtain ⟨i,hi,rfl⟩ := pv_at hjp
      have hiR : i < R := Nat.lt_of_lt_of_le hi hrf.len
      have e : dotN (fun j => x.getD j 0) (fun c => F i c + K c (pv.getD i 0)) W % p = dotN (fun j => x.getD j 0) (fun c => if c = pv.getD i 0 then 1 else 0) W % p := dotN_mod fun c hc => by
        by_cases hcp : c ∈ pv
        · obtain ⟨k,hk,rfl⟩ := pv_at hcp
          have h1 := hrf.one i k hiR hk
          rw [show K (pv.getD k 0) (pv.getD i 0) = 0 from if_pos hcp,Int.add_zero,h1]
          by_cases hik : i = k
          · subst hik; simp
          · rw [if_neg hik,if_neg]
            intro e
            rcases Nat.lt_or_gt_of_ne hik with h | h
            · have := hrf.mono i k h hk; omega
            · have := hrf.mono k i h hi; omega
        · rw [show K c (pv.getD i 0) = (0 - F i c) % p from (if_neg hcp).trans (kerX_pv hrf pv.length (Nat.le_refl _) i hi),if_neg fun e => hcp (by rw [e]; exact getD_mem hi),Int.add_emod,Int.emod_emod_of_dvd _ (Int.dvd_refl p),← Int.add_emod,show F i c + (0 - F i c) = 0 by omega]
      rw [dotN_addR,Int.add_emod,hF0 i hiR,Int.zero_add,Int.emod_emod_of_dvd _ (Int.dvd_refl p),dotN_comm (g := fun c => if c = pv.getD i 0 then 1 else 0),dotN_one (hrf.lt i hi)] at e
      exact e
    · rw [dotN_congr (d := fun j => x.getD j 0) (h := fun c => if c = j then 1 else 0) fun c hc => ⟨rfl,by
        by_cases hcp : c ∈ pv
        · rw [show K c j = 0 from if_pos hcp,if_neg fun (e : c = j) => hjp (by rw [← e]; exact hcp)]
        · rw [show K c j = if j = c then 1 else 0 from (if_neg hcp).trans (kerX_free hrf hj hjp hc pv.length (Nat.le_refl _))]
          by_cases e : j = c
          · rw [if_pos e,if_pos e.symm]
          · rw [if_neg e,if_neg fun e2 => e e2.symm]⟩,dotN_comm,dotN_one hj]

end VeT

open Go Go.Proofs Ve
set_option linter.unusedVariables false
set_option linter.unusedSimpArgs false
namespace VeT

theorem run_GrowSS (n : Nat) (args : List Dv) : run E (n + 1) n_Z122 args = pGrow (.sl (.int .i64)) (mkR (run E n)) args := rfl

theorem GrowSS_ret (s : List Sim) (n : Int) (h0 : 0 ≤ n) (h1 : n ≤ 1048576) (hs : s.length ≤ 1048576) : Ret E n_Z122 [dLL s,dI n] ⟨o_Z122,(s,())⟩ := by
  refine ret_of ?_
  simp only [run_GrowSS]
  refine ev_some ((if_pos (show 0 ≤ n ∧ ((List.length s : Int) + n) * (64 * (Ty.size (Ty.sl (.int .i64)) : Int)) ≤ 70368744177664 from ⟨h0,?_⟩)).trans rfl)
  have : (Ty.size (Ty.sl (.int .i64))) = 1 := rfl
  rw [this]; omega

theorem ConcatSS_ret (ll : List (List Sim)) (hl : ll.length ≤ 1048576) (hf : ll.flatten.length ≤ 1048576) : Ret E n_Z111 [⟨.sl (.sl (.sl (.int .i64))),ll⟩] ⟨o_Z111,(ll.flatten,())⟩ := by
  have hle : ∀ k,(ll.take k).flatten.length ≤ ll.flatten.length := fun k => by
    have := congrArg List.length (congrArg List.flatten (List.take_append_drop k ll))
    rw [List.flatten_append,List.length_append] at this; omega
  have hst : ∀ k (h : k < ll.length),(ll.take (k + 1)).flatten = (ll.take k).flatten ++ ll[k] := fun k h => by
    rw [List.take_succ_eq_append_getElem h,List.flatten_append]; simp
  refine ret_of ?_
  simp only [run_Z111,Z111.ev]
  refine Ev.start (p := fun φ n => Z111.l0 (mkR (run E (φ 0))) (φ 0) n ll 0 ll (ll.length : Int) 0 = _) 1 ?_ (fun _ _ _ h => h)
  refine fold_loop 1 (L := fun φ n k a => Z111.l0 (mkR (run E (φ 0))) (φ 0) n ll a ll (ll.length : Int) k) (len := ll.length) (fun k => (((ll.take k).flatten.length : Nat) : Int)) (fun _ _ _ _ _ => rfl) (fun k r hk ih => ?_) ?_
  · simp only [Z111.l0_succ _ mk_ok]
    have := hle (k + 1)
    have e := hst k hk
    have e2 : w64 (((ll.take k).flatten.length : Nat) + (List.length (ll[k]) : Int)) = (((ll.take (k + 1)).flatten.length : Nat) : Int) := by
      rw [w64_small (by omega) (by rw [e,List.length_append] at this; omega),e,List.length_append]; omega
    refine ev_t (decide_eq_true (by omega)) (ev_bind (idx_lt hk) ?_)
    show Ev fun φ => (bif decide (w64 (((ll.take k).flatten.length : Nat) + (List.length (ll[k]) : Int)) < 0) then none else Z111.l0 (mkR (run E (φ 0))) (φ 0) (φ 1) ll (w64 (((ll.take k).flatten.length : Nat) + (List.length (ll[k]) : Int))) ll (ll.length : Int) (w64 ((k : Int) + 1))) = r
    rw [e2,w64_succ (by omega)]
    exact ev_f (decide_eq_false (by omega)) ih
  · simp only [Z111.l0_succ _ mk_ok]
    refine ev_f (decide_eq_false (by omega)) (ev_call (GrowSS_ret [] _ (by omega) (by have := hle ll.length; omega) (by simp)) ?_)
    refine Ev.start (p := fun φ n => Z111.l1 (mkR (run E (φ 0))) (φ 0) n ll (ll.length : Int) 0 [] = _) 2 ?_ (fun _ _ _ h => h)
    refine fold_loop 2 (L := fun φ n k a => Z111.l1 (mkR (run E (φ 0))) (φ 0) n ll (ll.length : Int) k a) (len := ll.length) (fun k => (ll.take k).flatten) (fun _ _ _ _ _ => rfl) (fun k r hk ih => ?_) ?_
    · simp only [Z111.l1_succ _ mk_ok]
      have := hle (k + 1)
      have e := hst k hk
      rw [e] at ih this
      rw [List.length_append] at this
      refine ev_t (decide_eq_true (by omega)) (ev_bind (idx_lt hk) (ev_chk (decide_eq_true (by show (_ + List.length ll[k]) * 24 ≤ _; omega)) ?_))
      rw [w64_succ (by omega)]
      exact ih
    · simp only [Z111.l1_succ _ mk_ok]
      refine ev_f (decide_eq_false (by omega)) (ev_some ?_)
      rw [List.take_of_length_le (Nat.le_refl _)]

theorem transposeG_ret (q : Int) (K C : Nat) (cb : Sim) (hl : cb.length = K * C) (hK : K ≤ 4096) (hC : C ≤ 64) : Ret E n_Z75 [dI q,dI (K : Int),dI (C : Int),dL cb] ⟨o_Z75,(q,(C : Int),(K : Int),flatF (fun i j => cb.getD (j * C + i) 0) K C,())⟩ := by
  have h1 : K * C ≤ 4096 * 64 := Nat.mul_le_mul hK hC
  have h2 : C * K ≤ 64 * 4096 := Nat.mul_le_mul hC hK
  refine ret_of ?_
  simp only [run_Z75,Z75.ev]
  refine ev_call (filled_impl_transpose_1_ret q C K ((q,(K : Int),(C : Int),cb,()),()) (fun i j => cb.getD (j * C + i) 0) (by omega) (by omega) (by omega) fun i j hi hj => ?_) ev_rfl
  exact transpose_1_ret (q,(K : Int),(C : Int),cb,()) C i j rfl (by show _ < cb.length; rw [hl]; exact lt_rc hj hi) (by show cb.length ≤ _; omega)

/-! rows one after another -/
theorem flatten_getD {W : Nat} : ∀ {rows : List Sim},(∀ x ∈ rows,x.length = W) → ∀ {j i : Nat},j < rows.length → i < W → rows.flatten.getD (j * W + i) 0 = entR rows j i
  | [],_,j,i,hj,_ => by simp at hj
  | r :: rows,h,j,i,hj,hi => by
    have hr : r.length = W := h r List.mem_cons_self
    rw [List.flatten_cons,List.getD_eq_getElem?_getD]
    cases j with
    | zero =>
      rw [List.getElem?_append_left (by omega),← List.getD_eq_getElem?_getD]
      unfold entR
      rw [Nat.zero_mul,Nat.zero_add]; rfl
    | succ j =>
      have e : (j + 1) * W + i = W + (j * W + i) := by rw [Nat.add_mul]; omega
      rw [e,List.getElem?_append_right (by omega),hr,Nat.add_sub_cancel_left,← List.getD_eq_getElem?_getD,flatten_getD (fun x hx => h x (List.mem_cons_of_mem _ hx)) (by simpa using hj) hi]
      rfl

theorem transposed_colR {p : Int} {W : Nat} {rows : List Sim} (h : Rws p W rows) : ColR p W (flatF (fun i j => rows.flatten.getD (j * W + i) 0) rows.length W) rows := by
  have hent : ∀ i j,i < W → j < rows.length → rows.flatten.getD (j * W + i) 0 = entR rows j i := fun i j hi hj => flatten_getD (fun x hx => (h x hx).1) hj hi
  have hin := entR_in h
  refine ⟨⟨flatF_length,fun x hx => ?_⟩,fun i j hi hj => ?_⟩
  · rw [← flatF_flatten] at hx
    obtain ⟨row,hrow,hx⟩ := List.mem_flatten.1 hx
    obtain ⟨i,hi,rfl⟩ := List.mem_map.1 hrow
    obtain ⟨j,hj,rfl⟩ := List.mem_map.1 hx
    show 0 ≤ rows.flatten.getD (j * W + i) 0 ∧ rows.flatten.getD (j * W + i) 0 ≤ p - 1
    rw [hent i j (List.mem_range.1 hi) (List.mem_range.1 hj)]
    exact hin j i (List.mem_range.1 hj) (List.mem_range.1 hi)
  · rw [entM_flatF hi hj,hent i j hi hj]

/-! sums over rows of two kinds -/
theorem dotN_split {c g : Nat → Int} {m : Nat} : ∀ {n : Nat},dotN c g (m + n) = dotN c g m + dotN (fun i => c (m + i)) (fun i => g (m + i)) n
  | 0 => by simp [dotN]
  | n + 1 => by
    rw [← Nat.add_assoc]
    simp only [dotN]
    rw [dotN_split (n := n)]; omega

theorem entR_app_lt {A B : List Sim} {i : Nat} (h : i < A.length) : entR (A ++ B) i = entR A i := by
  funext j
  unfold entR
  rw [List.getD_eq_getElem?_getD (l := A ++ B),List.getElem?_append_left h,← List.getD_eq_getElem?_getD]
theorem entR_app_ge {A B : List Sim} {i : Nat} : entR (A ++ B) (A.length + i) = entR B i := by
  funext j
  unfold entR
  rw [List.getD_eq_getElem?_getD (l := A ++ B),List.getElem?_append_right (by omega),Nat.add_sub_cancel_left,← List.getD_eq_getElem?_getD]

theorem dotN_app {A B : List Sim} {y : Nat → Int} {j : Nat} : dotN y (fun i => entR (A ++ B) i j) (A ++ B).length = dotN y (fun i => entR A i j) A.length + dotN (fun i => y (A.length + i)) (fun i => entR B i j) B.length := by
  rw [List.length_append,dotN_split]
  congr 1
  · exact dotN_congr fun i hi => ⟨rfl,by rw [entR_app_lt hi]⟩
  · exact dotN_congr fun i hi => ⟨rfl,by rw [entR_app_ge]⟩

/-! the numbers of the classes -/
def IsCls (p : Int) (W : Nat) (h cls : List Sim) (x l : Sim) : Prop :=
  (l.length = cls.length ∧ Elems l p) ∧ Spn p h.length W (entR h) (fun j => x.getD j 0 - dotN (fun i => l.getD i 0) (fun i => entR cls i j) cls.length)

theorem IsCls.unique {p : Int} {W : Nat} (hp : Pr p) {h list : List Sim} {x l m : Sim} (hl : IsCls p W h (clsT p W h list) x l) (hm : IsCls p W h (clsT p W h list) x m) : l = m := by
  obtain ⟨⟨l1,l2⟩,l3⟩ := hl
  obtain ⟨⟨m1,m2⟩,m3⟩ := hm
  have hd : Spn p h.length W (entR h) (fun j => dotN (fun i => m.getD i 0 + -1 * l.getD i 0) (fun i => entR (clsT p W h list) i j) (clsT p W h list).length) :=
    (l3.add (m3.smul (-1))).congr fun j _ => by
      rw [dotN_add,dotN_smul]
      congr 1; omega
  have hz := clsT_free hp hd
  apply List.ext_getElem (by omega)
  intro i h1 h2
  have := hz i (by omega)
  rw [getD_lt h1,getD_lt h2] at this
  have a1 := l2 _ (List.getElem_mem h1)
  have a2 := m2 _ (List.getElem_mem h2)
  have hpp := hp.1
  have e : m[i] % p = l[i] % p := Int.emod_eq_emod_iff_emod_sub_eq_zero.2 (by rw [show m[i] - l[i] = m[i] + -1 * l[i] by omega]; exact this)
  rw [Int.emod_eq_of_lt a1.1 (by omega),Int.emod_eq_of_lt a2.1 (by omega)] at e
  exact e.symm

theorem Spn.sub {p : Int} {W : Nat} {A B : List Sim} {x : Nat → Int} (h : ∀ r ∈ A,InR p W B r) (hx : Spn p A.length W (entR A) x) : Spn p B.length W (entR B) x :=
  Spn.trans (fun i hi => by
    have e : entR A i = fun j => (A[i]).getD j 0 := by funext j; unfold entR; rw [getD_lt hi]
    rw [e]; exact h _ (List.getElem_mem hi)) hx

/-- a solution over the classes and vectors of the space -/
theorem cls_left {p : Int} {W : Nat} {h cls bs : List Sim} {x y : Sim} (hb : ∀ r ∈ bs,InR p W h r) (hy : Elems y p) (hl : y.length = (cls ++ bs).length) (hs : ∀ j,j < W → dotN (fun i => y.getD i 0) (fun i => entR (cls ++ bs) i j) (cls ++ bs).length % p = x.getD j 0 % p) :
    IsCls p W h cls x (y.take cls.length) := by
  have hl' := hl
  rw [List.length_append] at hl'
  refine ⟨⟨by rw [List.length_take]; omega,fun z hz => hy z (List.mem_of_mem_take hz)⟩,Spn.sub hb ⟨fun i => y.getD (cls.length + i) 0,fun j hj => ?_⟩⟩
  have := hs j hj
  rw [dotN_app] at this
  have e : dotN (fun i => (y.take cls.length).getD i 0) (fun i => entR cls i j) cls.length = dotN (fun i => y.getD i 0) (fun i => entR cls i j) cls.length := dotN_congr fun i hi => ⟨by
    rw [List.getD_eq_getElem?_getD,List.getElem?_take,if_pos hi,← List.getD_eq_getElem?_getD],rfl⟩
  show dotN (fun i => y.getD (cls.length + i) 0) (fun i => entR bs i j) bs.length % p = (x.getD j 0 - dotN (fun i => (y.take cls.length).getD i 0) (fun i => entR cls i j) cls.length) % p
  rw [e]
  have h2 := Int.emod_eq_emod_iff_emod_sub_eq_zero.1 this
  refine Int.emod_eq_emod_iff_emod_sub_eq_zero.2 (Eq.trans ?_ h2)
  congr 1; omega

theorem cls_right {p : Int} {W : Nat} {h cls : List Sim} {x y : Sim} (hy : Elems y p) (hl : y.length = (h ++ cls).length) (hs : ∀ j,j < W → dotN (fun i => y.getD i 0) (fun i => entR (h ++ cls) i j) (h ++ cls).length % p = x.getD j 0 % p) :
    IsCls p W h cls x (y.drop h.length) := by
  have hl' := hl
  rw [List.length_append] at hl'
  refine ⟨⟨by rw [List.length_drop]; omega,fun z hz => hy z (List.mem_of_mem_drop hz)⟩,⟨fun i => y.getD i 0,fun j hj => ?_⟩⟩
  have := hs j hj
  rw [dotN_app] at this
  have e : dotN (fun i => (y.drop h.length).getD i 0) (fun i => entR cls i j) cls.length = dotN (fun i => y.getD (h.length + i) 0) (fun i => entR cls i j) cls.length := dotN_congr fun i hi => ⟨by
    rw [List.getD_eq_getElem?_getD,List.getElem?_drop,← List.getD_eq_getElem?_getD],rfl⟩
  show dotN (fun i => y.getD i 0) (fun i => entR h i j) h.length % p = (x.getD j 0 - dotN (fun i => (y.drop h.length).getD i 0) (fun i => entR cls i j) cls.length) % p
  rw [e]
  have h2 := Int.emod_eq_emod_iff_emod_sub_eq_zero.1 this
  refine Int.emod_eq_emod_iff_emod_sub_eq_zero.2 (Eq.trans ?_ h2)
  congr 1; omega

theorem solP_elems {p : Int} {F : Ent} {W : Nat} : ∀ {qs : List Nat} {i : Nat} {o y : Sim},(∀ k,i ≤ k → k < i + qs.length → 0 ≤ F k W ∧ F k W ≤ p - 1) → Elems o p → solP F W qs i o = some y → Elems y p
  | [],i,o,y,_,ho,h => by obtain rfl := Option.some.inj h; exact ho
  | q :: qs,i,o,y,hF,ho,h => by
    unfold solP at h
    split at h
    · cases h
    · refine solP_elems (fun k h1 h2 => hF k (by omega) (by simp; omega)) (fun z hz => ?_) h
      rcases List.mem_or_eq_of_mem_set hz with hz | rfl
      · exact ho z hz
      · exact hF i (Nat.le_refl _) (by simp)

theorem solS_elems {p : Int} {R W : Nat} {cells b y : Sim} (hp : Pr p) (hl : cells.length = R * W) (he : Elems cells p) (hbl : b.length = R) (hb : Elems b p) (h : solS p R W cells b = some y) : y.length = W ∧ Elems y p := by
  have hA0 := entM_in he hl
  have hA1 := augE_in hA0 hb hbl
  have hA : EIn p R (W + 1) (entM (augC cells b W R) (W + 1)) := fun i j hi hj => by
    unfold augC; rw [entM_flatF hi hj]; exact hA1 i j hi hj
  obtain ⟨hF,h1,h2,h3⟩ := elS_in hp.1 hA (W + 1)
  have hpp := hp.1
  unfold solS at h
  refine ⟨by rw [solP_length h,List.length_replicate],solP_elems (fun k _ hk => hF k W (by omega) (by omega)) (fun z hz => ?_) h⟩
  have : z = 0 := (List.mem_replicate.1 hz).2
  subst this
  omega

/-- a system with the columns 'all' -/
theorem solS_col {p : Int} {W : Nat} {cells : Sim} {all : List Sim} {x : Sim} (hp : Pr p) (hc : ColR p W cells all) (hx : Elems x p) (hxl : x.length = W) (hin : InR p W all x) :
    ∃ y,solS p W all.length cells x = some y ∧ y.length = all.length ∧ Elems y p ∧ ∀ j,j < W → dotN (fun i => y.getD i 0) (fun i => entR all i j) all.length % p = x.getD j 0 % p := by
  have hi := solS_iff hp hc.1.1 hc.1.2 hxl hx
  have hne := hi.1.2 (hc.slv.2 hin)
  cases hq : solS p W all.length cells x with
  | none => exact absurd hq hne
  | some y =>
    obtain ⟨e1,e2⟩ := solS_elems hp hc.1.1 hc.1.2 hxl hx hq
    refine ⟨y,rfl,e1,e2,fun j hj => ?_⟩
    rw [← hi.2 y hq j hj]
    congr 1
    exact dotN_congr fun i hi => ⟨rfl,(hc.2 j i hj hi).symm⟩

theorem combination_ret (p : Int) (W : Nat) (h cls bs : List Sim) (x : Sim) (hp : Pr p) (hW : W ≤ 64) (hn : (cls ++ bs).length ≤ 4000) (hcls : Rws p W cls) (hbs : Rws p W bs) (hb : ∀ r ∈ bs,InR p W h r) (hx : Elems x p) (hxl : x.length = W) (hin : InR p W (cls ++ bs) x) :
    ∃ l,IsCls p W h cls x l ∧ Ret E n_Z29 [dLL cls,dI p,dI (W : Int),dLL bs,dL x] ⟨o_Z29,(l,())⟩ := by
  have hall : Rws p W (cls ++ bs) := fun r hr => (List.mem_append.1 hr).elim (hcls r) (hbs r)
  obtain ⟨y,y1,y2,y3,y4⟩ := solS_col hp (transposed_colR hall) hx hxl hin
  have hfl := hall.flat
  have hnW : (cls ++ bs).length * W ≤ 4000 * 64 := Nat.mul_le_mul hn hW
  have hWn : W * (cls ++ bs).length ≤ 64 * 4000 := Nat.mul_le_mul hW hn
  have hcr := (transposed_colR hall).1
  have hs := solve_ret p W (cls ++ bs).length _ x ⟨hp.1,hp.2.1⟩ (by omega) (by omega) (by omega) hcr.1 hcr.2 hxl hx
  rw [y1] at hs
  refine ⟨y.take cls.length,cls_left hb y3 y2 y4,ret_of ?_⟩
  simp only [run_Z29,Z29.ev]
  have hcc := ConcatSS_ret [cls,bs] (by simp) (by simpa using Nat.le_trans hn (by omega))
  rw [show [cls,bs].flatten = cls ++ bs by simp] at hcc
  refine ev_call hcc (ev_call (matrixOf_ret p (W : Int) (cls ++ bs) (by omega) (by rw [hfl.1]; omega)) (ev_call (transposeG_ret p (cls ++ bs).length W _ hfl.1 (by omega) hW) (ev_call hs (ev_chk ?_ (ev_some ?_)))))
  · have : cls.length ≤ y.length := by rw [y2,List.length_append]; omega
    simp only [solO,Bool.and_eq_true]
    exact ⟨decide_eq_true (Int.natCast_nonneg _),decide_eq_true (Int.ofNat_le.2 this)⟩
  · simp only [solO,Int.toNat_natCast,List.drop_zero]

theorem l07Coordinates_ret (p : Int) (W : Nat) (cells : Sim) (h cls : List Sim) (x : Sim) (hp : Pr p) (hW : W ≤ 64) (hh : h.length + cls.length ≤ 4096) (hc : ColR p W cells h) (hcls : Rws p W cls) (hx : Elems x p) (hxl : x.length = W) (hin : InR p W (h ++ cls) x) :
    ∃ l,IsCls p W h cls x l ∧ Ret E n_Z163 [dI p,dI (W : Int),dI (h.length : Int),dL cells,dLL cls,dL x] ⟨o_Z163,(l,true,())⟩ := by
  have key : ∀ d k (cells : Sim) (g : List Sim),k + d = cls.length → g = h ++ cls.take k → ColR p W cells g →
      ∃ l,IsCls p W h cls x l ∧ Ev fun φ => Z163.l0 (mkR (run E (φ 0))) (φ 0) (φ 1) cls x (h.length : Int) (k : Int) p (W : Int) (g.length : Int) cells = some ⟨o_Z163,(l,true,())⟩ := by
    intro d
    induction d with
    | zero =>
      intro k cells g hk hg hc
      rw [List.take_of_length_le (by omega)] at hg
      subst hg
      obtain ⟨y,y1,y2,y3,y4⟩ := solS_col hp hc hx hxl hin
      rw [List.length_append] at y2
      have hWn : W * ((h ++ cls).length + 1) ≤ 64 * 4097 := Nat.mul_le_mul hW (by rw [List.length_append]; omega)
      have hs := l03Solve_ret p W (h ++ cls).length cells x ⟨hp.1,hp.2.1⟩ (by omega) (by rw [List.length_append]; omega) (by omega) hc.1.1 hc.1.2 hxl hx
      rw [y1] at hs
      refine ⟨y.drop h.length,cls_right y3 (by rw [y2,List.length_append]) y4,?_⟩
      refine Ev.round 1 (L := fun φ n => Z163.l0 (mkR (run E (φ 0))) (φ 0) n cls x (h.length : Int) (k : Int) p (W : Int) ((h ++ cls).length : Int) cells) ?_ (fun _ _ _ => rfl)
      simp only [Z163.l0_succ _ mk_ok]
      refine ev_f (decide_eq_false (by omega)) (ev_call hs (ev_f rfl (ev_chk ?_ ?_)))
      · have : h.length ≤ y.length := by omega
        simp only [solO,Bool.and_eq_true]
        exact ⟨decide_eq_true (Int.natCast_nonneg _),decide_eq_true (Int.ofNat_le.2 this)⟩
      · simp only [solO,Int.toNat_natCast]
        exact ev_call (l00Own_ret (y.drop h.length) (by rw [List.length_drop]; omega)) ev_rfl
    | succ d ih =>
      intro k cells g hk hg hc
      have hkl : k < cls.length := by omega
      obtain ⟨hx1,hx2⟩ := hcls _ (List.getElem_mem hkl)
      have hgl : g.length = h.length + k := by rw [hg,List.length_append,List.length_take]; omega
      obtain ⟨l,l1,l2⟩ := ih (k + 1) (augC cells cls[k] g.length W) (g ++ [cls[k]]) (by omega) (by rw [hg,List.append_assoc,← List.take_succ_eq_append_getElem hkl]) (hc.next hx2 hx1)
      refine ⟨l,l1,?_⟩
      refine Ev.round 1 (L := fun φ n => Z163.l0 (mkR (run E (φ 0))) (φ 0) n cls x (h.length : Int) (k : Int) p (W : Int) (g.length : Int) cells) ?_ (fun _ _ _ => rfl)
      simp only [Z163.l0_succ _ mk_ok]
      rw [List.length_append,List.length_singleton] at l2
      refine ev_t (decide_eq_true (by omega)) (ev_bind (idx_lt hkl) (ev_call (l07With_ret p W cells g cls[k] hW (by omega) hc hx1) ?_))
      rw [w64_succ (by omega)]
      exact l2
  obtain ⟨l,l1,l2⟩ := key cls.length 0 cells h (by omega) (by simp) hc
  refine ⟨l,l1,ret_of ?_⟩
  simp only [run_Z163,Z163.ev]
  exact Ev.start (p := fun φ n => Z163.l0 (mkR (run E (φ 0))) (φ 0) n cls x (h.length : Int) 0 p (W : Int) (h.length : Int) cells = _) 1 l2 (fun _ _ _ h => h)

end VeT

open Go Go.Proofs Ve
set_option linter.unusedVariables false
set_option linter.unusedSimpArgs false
namespace VeT

open Classical in
noncomputable def clsNum (p : Int) (W : Nat) (h cls : List Sim) (x : Sim) : Sim := if e : ∃ l,IsCls p W h cls x l then Classical.choose e else []

theorem clsNum_eq {p : Int} {W : Nat} (hp : Pr p) {h list : List Sim} {x l : Sim} (hl : IsCls p W h (clsT p W h list) x l) : clsNum p W h (clsT p W h list) x = l := by
  have e : ∃ l,IsCls p W h (clsT p W h list) x l := ⟨l,hl⟩
  unfold clsNum
  rw [dif_pos e]
  exact IsCls.unique hp (Classical.choose_spec e) hl

theorem clsNum_length {p : Int} {W : Nat} {h cls : List Sim} {x : Sim} : (clsNum p W h cls x).length ≤ cls.length := by
  unfold clsNum
  split
  · rename_i e
    exact Nat.le_of_eq (Classical.choose_spec e).1.1
  · simp

/-- what the kernel's vectors span is in the classes and the space -/
theorem span_cls {p : Int} {W : Nat} {h ker : List Sim} {x : Sim} (hx : InR p W ker x) : InR p W (h ++ clsT p W h ker) x := InR.trans (fun r hr => clsT_span hr) hx

theorem span_cls_bas {p : Int} {W : Nat} {h ker : List Sim} {x : Sim} (hp : Pr p) (hh : Rws p W h) (hx : InR p W ker x) : InR p W (clsT p W h ker ++ bas p W h) x :=
  InR.trans (fun r hr => by
    rcases List.mem_append.1 hr with hr | hr
    · exact InR.trans (fun r hr => InR.mem (List.mem_append.2 (.inr hr))) ((bas_same hp hh r).2 (InR.mem hr))
    · exact InR.mem (List.mem_append.2 (.inl hr))) (span_cls hx)

noncomputable abbrev cobCols (x : Shf) (k : Int) : List Sim := colsL (SD x.1 x.2.2.1 k).toNat (SD x.1 x.2.2.1 (k - 1)).toNat (cobX x (k - 1)).2.2.2.1

theorem cocycle_in {x : Shf} {k : Int} {v : Sim} (hh : (ISh x ∧ 0 ≤ k ∧ k ≤ 3) ∧ Coch x k v) (hz : Zs (cobV x k v)) : InR x.2.1 (SD x.1 x.2.2.1 k).toNat (kerC x k) v := by
  have hs := hh.1.1.1
  have hl : (cobX x k).2.2.2.1.length = (SD x.1 x.2.2.1 (k + 1)).toNat * (SD x.1 x.2.2.1 k).toNat := cobC_length
  refine kerM_span hs.2.1 hl (cobC_elems hs k) fun i hi => ?_
  have := hz _ (List.mem_map.2 ⟨i,List.mem_range.2 hi,rfl⟩)
  rw [dotN_comm] at this
  exact this

theorem coboundaries_ret (x : Shf) (k : Int) (hx : Sm (.st cS) x) (hk : 0 ≤ k ∧ k ≤ 3) (hs : VS x.1 x.2.1 x.2.2.1 x.2.2.2.1) :
    Ret E n_Z25 [dLL x.1,dI x.2.1,dL x.2.2.1,dMs x.2.2.2.1,dI k] ⟨o_Z25,(x.2.1,SD x.1 x.2.2.1 k,bas x.2.1 (SD x.1 x.2.2.1 k).toNat (cobCols x k),())⟩ := by
  obtain ⟨W,eW,bW,tW⟩ := SD_nat hs k
  obtain ⟨C,eC,bC,tC⟩ := SD_nat hs (k - 1)
  have hl : (cobX x (k - 1)).2.2.2.1.length = W * C := by show (cobC _ _ _ _ (k - 1)).length = _; rw [cobC_length,tC,show k - 1 + 1 = k by omega,tW]
  have he : Elems (cobX x (k - 1)).2.2.2.1 x.2.1 := cobC_elems hs (k - 1)
  obtain ⟨hcr,hcl,hcw⟩ := colsL_colR hl he
  have e1 : (cobX x (k - 1)).2.1 = (W : Int) := by show SD x.1 x.2.2.1 (k - 1 + 1) = _; rw [show k - 1 + 1 = k by omega,eW]
  have e2 : (cobX x (k - 1)).2.2.1 = (C : Int) := eC
  have hp2 : 2 ≤ x.2.1 ∧ x.2.1 ≤ 251 := ⟨hs.2.1.1,hs.2.1.2.1⟩
  unfold cobCols
  rw [tW,tC,eW]
  have hm := coboundaryMatrix_ret x.1 x.2.1 x.2.2.1 x.2.2.2.1 (k - 1) (by omega) hx.1 hs
  have hcc := columnsOf_ret (cobX x (k - 1)).1 W C (cobX x (k - 1)).2.2.2.1 hl bW bC
  have hso := spaceOf_ret x.2.1 W (colsL W C (cobX x (k - 1)).2.2.2.1) hp2 (by omega) (by omega) hcw
  rw [← e1] at hcc hso
  rw [← e2] at hcc
  refine ret_of ?_
  simp only [run_Z25,Z25.ev,w64_small (n := k - 1) (by omega) (by omega)]
  refine ev_call hm (ev_call hcc (ev_call hso (ev_some ?_)))
  rw [e1]

noncomputable def classV (x : Shf) (k : Int) (v : Sim) : Sim := clsNum x.2.1 (SD x.1 x.2.2.1 k).toNat (cobCols x k) (cohB x k) v

theorem class_rets (x : Shf) (k : Int) (v : Sim) (hx : Sm (.st cS) x) (hh : (ISh x ∧ 0 ≤ k ∧ k ≤ 3) ∧ Coch x k v) (hz : Zs (cobV x k v)) :
    Ret E n_Z29 [dLL (cohB x k),dI x.2.1,dI (SD x.1 x.2.2.1 k),dLL (bas x.2.1 (SD x.1 x.2.2.1 k).toNat (cobCols x k)),dL v] ⟨o_Z29,(classV x k v,())⟩ ∧
    Ret E n_Z163 [dI x.2.1,dI (SD x.1 x.2.2.1 k),dI (SD x.1 x.2.2.1 (k - 1)),dL (cobX x (k - 1)).2.2.2.1,dLL (cohB x k),dL v] ⟨o_Z163,(classV x k v,true,())⟩ := by
  have hs := hh.1.1.1
  obtain ⟨W,eW,bW,tW⟩ := SD_nat hs k
  obtain ⟨C,eC,bC,tC⟩ := SD_nat hs (k - 1)
  have hl : (cobX x (k - 1)).2.2.2.1.length = W * C := by show (cobC _ _ _ _ (k - 1)).length = _; rw [cobC_length,tC,show k - 1 + 1 = k by omega,tW]
  have he : Elems (cobX x (k - 1)).2.2.2.1 x.2.1 := cobC_elems hs (k - 1)
  obtain ⟨hcr,hcl,hcw⟩ := colsL_colR hl he
  obtain ⟨hkr,hkl⟩ := kerC_rws (k := k) hs
  have hin := cocycle_in hh hz
  have hvl : v.length = W := by have := hh.2.2; omega
  have hve := hh.2.1
  unfold classV cohB cobCols
  rw [tW] at hin hkr hkl
  rw [tW,tC,eW,eC]
  have hp := hs.2.1
  generalize hH : colsL W C (cobX x (k - 1)).2.2.2.1 = H at hcr hcl hcw
  have hbr := bas_rws hp.1 hcw
  have hcls : Rws x.2.1 W (clsT x.2.1 W H (kerC x k)) := fun r hr => hkr r (clsT_sub hr)
  have hcll := clsT_length (p := x.2.1) (W := W) (l := kerC x k) (h := H)
  obtain ⟨l,l1,l2⟩ := combination_ret x.2.1 W H (clsT x.2.1 W H (kerC x k)) (bas x.2.1 W H) v hp (by omega) (by rw [List.length_append]; omega) hcls hbr.1 (fun r hr => (bas_same hp hcw r).1 (InR.mem hr)) hve hvl (span_cls_bas hp hcw hin)
  obtain ⟨m,m1,m2⟩ := l07Coordinates_ret x.2.1 W (cobX x (k - 1)).2.2.2.1 H (clsT x.2.1 W H (kerC x k)) v hp (by omega) (by omega) hcr hcls hve hvl (span_cls hin)
  rw [clsNum_eq hp l1]
  refine ⟨l2,?_⟩
  rw [hcl] at m2
  rw [IsCls.unique hp l1 m1]
  exact m2

open Classical in
noncomputable def CocycleClassV (x : Shf) (k : Int) (v : Sim) : Sim × Int × Unit :=
  if CC x k v = 0 then (if Zs (cobV x k v) then (classV x k v,0,()) else ([],6,())) else ([],CC x k v,())

theorem implCocycleClass_ret (x : Shf) (k : Int) (v : Sim) (hx : Sm (.st cS) x) (hv : Sm (.sl (.int .i64)) v) : Ret E n_Z5 [dLL x.1,dI x.2.1,dL x.2.2.1,dMs x.2.2.2.1,dI k,dL v] ⟨o_Z5,CocycleClassV x k v⟩ := by
  refine ret_of ?_
  simp only [run_Z5,Z5.ev]
  unfold CocycleClassV
  refine ev_call (withCochain_ret x k v hx hv) ?_
  by_cases h : CC x k v = 0
  · have hh := CC_zero.1 h
    rw [if_pos h]
    refine ev_f (by simp [h]) (ev_call (isCocycle_ret x k v hx hh) ?_)
    by_cases hz : Zs (cobV x k v)
    · rw [if_pos hz]
      exact ev_f (by rw [pb_true hz]; rfl) (ev_call (cohB_ret x k hx hh.1.2 hh.1.1.1).1 (ev_call (coboundaries_ret x k hx hh.1.2 hh.1.1.1) (ev_call (class_rets x k v hx hh hz).1 ev_rfl)))
    · rw [if_neg hz]
      exact ev_t (by rw [pb_false hz]; rfl) ev_rfl
  · rw [if_neg h]
    exact ev_t (by simpa using h) ev_rfl

theorem specCocycleClass_ret (x : Shf) (k : Int) (v : Sim) (hx : Sm (.st cS) x) (hv : Sm (.sl (.int .i64)) v) : Ret E n_Z134 [dLL x.1,dI x.2.1,dL x.2.2.1,dMs x.2.2.2.1,dI k,dL v] ⟨o_Z134,CocycleClassV x k v⟩ := by
  refine ret_of ?_
  simp only [run_Z134,Z134.ev]
  unfold CocycleClassV
  refine ev_call (l11Cochain_ret x k v hx hv) ?_
  by_cases h : CC x k v = 0
  · have hh := CC_zero.1 h
    rw [if_pos h]
    refine ev_f (by simp [h]) (ev_call (l11Cocycle_ret x k v hx hh) ?_)
    by_cases hz : Zs (cobV x k v)
    · rw [if_pos hz]
      have hk := hh.1.2
      have hcl := (class_rets x k v hx hh hz).2
      have e1 : (cobX x (k - 1)).2.1 = SD x.1 x.2.2.1 k := by show SD x.1 x.2.2.1 (k - 1 + 1) = _; rw [show k - 1 + 1 = k by omega]
      rw [← e1] at hcl
      rw [w64_small (n := k - 1) (by omega) (by omega)]
      exact ev_f (by rw [pb_true hz]; rfl) (ev_call (l11Matrix_ret x (k - 1) (by omega) hx.1 hh.1.1.1) (ev_call (cohB_ret x k hx hh.1.2 hh.1.1.1).2 (ev_call hcl ev_rfl)))
    · rw [if_neg hz]
      exact ev_t (by rw [pb_false hz]; rfl) ev_rfl
  · rw [if_neg h]
    exact ev_t (by simpa using h) ev_rfl

theorem CocycleClassV_sm (x : Shf) (k : Int) (v : Sim) (hx : Sm (.st cS) x) (hv : Sm (.sl (.int .i64)) v) : Sm (.sl (.int .i64)) (CocycleClassV x k v).1 := by
  unfold CocycleClassV
  split
  · rename_i h
    have hs := (CC_zero.1 h).1.1.1
    split
    · obtain ⟨W,eW,bW,tW⟩ := SD_nat hs k
      obtain ⟨_,hkl⟩ := kerC_rws (k := k) hs
      have h1 := clsNum_length (p := x.2.1) (W := (SD x.1 x.2.2.1 k).toNat) (h := cobCols x k) (cls := cohB x k) (x := v)
      have h2 := clsT_length (p := x.2.1) (W := (SD x.1 x.2.2.1 k).toNat) (l := kerC x k) (h := cobCols x k)
      exact sm_ints (Nat.le_trans h1 (Nat.le_trans h2 (by omega)))
    · exact sm_ints (by simp)
  · exact sm_ints (by simp)

end VeT

open Go Go.Proofs Ve
set_option linter.unusedVariables false
set_option linter.unusedSimpArgs false
namespace VeT

theorem law_CocycleClass (x0 : Shf) (x1 : Int) (x2 : Sim) (w0 : Wf (.st cS) x0) (w2 : Wf (.sl (.int .i64)) x2) : Ret E n_Z82 [dLL x0.1,dI x0.2.1,dL x0.2.2.1,dMs x0.2.2.2.1,dI x1,dL x2] ⟨.cons .bool .nil,(true,())⟩ := by
  refine ret_of ?_
  simp only [run_Z82,Z82.ev]
  refine ev_d (fun _ => ev_rfl) fun l2 => ?_
  have m2 : Sm (.sl (.int .i64)) x2 := ⟨by omega,fun _ _ => trivial⟩
  obtain ⟨r0,hs0,s0⟩ := szSheaf_ret x0 1048576 w0 (by omega) (by omega)
  refine ev_call hs0 (ev_d (fun _ => ev_rfl) fun n0 => ?_)
  have n0 := Int.not_lt.1 n0
  obtain ⟨b0,m0⟩ := s0 n0
  have hi := implCocycleClass_ret x0 x1 x2 m0 m2
  have hsp := specCocycleClass_ret x0 x1 x2 m0 m2
  have hsm := CocycleClassV_sm x0 x1 x2 m0 m2
  generalize CocycleClassV x0 x1 x2 = V at hi hsp hsm
  obtain ⟨v0,v1,⟨⟩⟩ := V
  have z0 : Sm (.sl (.int .i64)) v0 := hsm
  obtain ⟨qr0,hqr0,eqr0⟩ := eqInt64S_ret v0 v0 z0
  obtain rfl : qr0 = true := eqr0.2 rfl
  have to0 := toSheaf_ret x0 m0
  obtain ⟨q0,hq0,eq0⟩ := eqSheaf_ret x0 x0 m0
  obtain rfl : q0 = true := eq0.2 rfl
  have to2 := toInt64S_ret x2 m2
  obtain ⟨q2,hq2,eq2⟩ := eqInt64S_ret x2 x2 m2
  obtain rfl : q2 = true := eq2.2 rfl
  obtain ⟨ma0,mb0,mc0,hm0,hmb0⟩ := markSheaf_ret x0 m0
  have hm2 := markInt64S_ret x2 (mkSN x0 1) (by omega) m2.1
  have hk : ¬ (mkSN x0 1 + (x2.length : Int) < 0) := by omega
  have mr0 := markInt64S_ret v0 (1) (by omega) z0.1
  have hl0 := heldInt64S_ret (1) v0.length (by omega) z0.1
  have he0 : ¬ (1 + (v0.length : Int) < 0) := by omega
  repeat (first | with_reducible exact ev_rfl | with_reducible refine ev_call hqr0 ?_ | with_reducible refine ev_call to0 ?_ | with_reducible refine ev_call hq0 ?_ | with_reducible refine ev_call to2 ?_ | with_reducible refine ev_call hq2 ?_ | with_reducible refine ev_call hi ?_ | with_reducible refine ev_call hsp ?_ | with_reducible refine ev_call hm0 ?_ | with_reducible refine ev_call hm2 ?_ | with_reducible refine ev_call mr0 ?_ | with_reducible refine ev_call hl0 ?_ | with_reducible refine ev_both ?_ ?_ | with_reducible refine ev_f (by first | rfl | exact bne_self_eq_false _ | exact decide_eq_false hk | exact decide_eq_false he0 | (simp; done)) ?_ | simp only [bne_self_eq_false,Z82.j0_eq _ mk_ok,Z82.j1_eq _ mk_ok,Z82.j2_eq _ mk_ok,cond_false])

theorem rowCocycleClass (z : ((.cons (.sl (.sl (.int .i64))) (.cons (.int .i64) (.cons (.sl (.int .i64)) (.cons (.sl (.st cM)) (.cons (.int .i64) (.cons (.sl (.int .i64)) .nil)))))) : Ty).T)
    (h : Wf (.cons (.sl (.sl (.int .i64))) (.cons (.int .i64) (.cons (.sl (.int .i64)) (.cons (.sl (.st cM)) (.cons (.int .i64) (.cons (.sl (.int .i64)) .nil)))))) z) :
    Evt fun n => run E n n_Z82 (unpack _ z) = some ⟨.cons .bool .nil,(true,())⟩ :=
  law_CocycleClass (z.1,z.2.1,z.2.2.1,z.2.2.2.1,()) z.2.2.2.2.1 z.2.2.2.2.2.1 ⟨h.1,h.2.1,h.2.2.1,h.2.2.2.1,trivial⟩ h.2.2.2.2.2.1

end VeT
