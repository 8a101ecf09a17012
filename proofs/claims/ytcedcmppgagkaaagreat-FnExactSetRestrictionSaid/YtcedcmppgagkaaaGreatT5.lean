import Derived.Test.YtcedcmppgagkaaaGreatT4
import Derived.Test.YtcedcmppgagkaaaGreatV2
set_option linter.unusedVariables false
set_option linter.unusedSimpArgs false
open Go Go.Proofs Ve
set_option linter.unusedVariables false
set_option linter.unusedSimpArgs false
namespace VeT

theorem EqualP_ret (a b : Sim) (ha : a.length ≤ 1048576) : Ret E n_Z84 [dL a,dL b] ⟨o_Z84,(pb (a = b),())⟩ := by
  refine ret_of ?_
  simp only [run_Z84,Z84.ev]
  refine ev_b (fun h => ev_some ?_) fun h => ?_
  · have h : (a.length : Int) ≠ b.length := by simpa using h
    rw [pb_false fun e => h (by rw [e])]
  · have h : (a.length : Int) = b.length := by simpa using h
    refine Ev.start (p := fun φ n => Z84.l0 (mkR (run E (φ 0))) (φ 0) n a b (a.length : Int) 0 = _) 1 ?_ (fun _ _ _ h => h)
    refine (all_pb 1 (L := fun φ n k => Z84.l0 (mkR (run E (φ 0))) (φ 0) n a b (a.length : Int) k) (len := a.length) 0 (by omega) (fun j => a.getD j 0 = b.getD j 0) (fun b => some ⟨o_Z84,(b,())⟩) (fun _ _ _ _ => rfl) (fun k h1 h2 hP _ => ?_) (fun k r h1 h2 hP _ ih => ?_) (fun _ => ?_)).to ?_
    · simp only [Z84.l0_succ _ mk_ok]
      have hb : k < b.length := by omega
      rw [getD_lt h2,getD_lt hb] at hP
      exact ev_t (decide_eq_true (by omega)) (ev_bind (idx_lt h2) (ev_bind (idx_lt hb) (ev_t (by simpa using hP) ev_rfl)))
    · simp only [Z84.l0_succ _ mk_ok]
      have hb : k < b.length := by omega
      rw [getD_lt h2,getD_lt hb] at hP
      refine ev_t (decide_eq_true (by omega)) (ev_bind (idx_lt h2) (ev_bind (idx_lt hb) (ev_f (by simpa using hP) ?_)))
      rw [w64_succ (by omega)]; exact ih
    · simp only [Z84.l0_succ _ mk_ok]
      exact ev_f (decide_eq_false (by omega)) ev_rfl
    · refine congrArg (fun b : Bool => some (⟨o_Z84,(b,())⟩ : Dv)) (pb_congr ⟨fun hh => List.ext_getElem (by omega) fun j h1 h2 => ?_,fun hh j _ _ => by rw [hh]⟩)
      have := hh j (by omega) h1
      rwa [getD_lt h1,getD_lt h2] at this

/-! the maps of a sheaf -/
noncomputable def mp (c : List Sim) (ms : List Mat) (k i : Nat) : Mat := ms.getD (plc c k + i) mz

noncomputable def fc (c : List Sim) (k i : Nat) : Nat := ((fIdx c k).getD i 0).toNat

theorem findI_get {c : List Sim} {s : Sim} (h : s ∈ c) : c.getD (findI c s).toNat [] = s := by
  have h0 := findI_nonneg.2 h
  unfold findI idxf at h0 ⊢
  cases hf : c.findIdx? (fun x => pb (x = s)) with
  | none => rw [hf] at h0; simp [o2i] at h0
  | some k =>
    rw [List.findIdx?_eq_some_iff_getElem] at hf
    obtain ⟨hk,hp,_⟩ := hf
    simp only [o2i,Int.toNat_natCast]
    rw [getD_lt hk]; exact pb_iff.1 hp

theorem fc_get {c : List Sim} (h : VC c) {k i : Nat} (hk : k < c.length) (hi : i < (fIdx c k).length) : idx? (fIdx c k) (i : Int) = some ((fc c k i : Nat) : Int) ∧ fc c k i < c.length ∧ c.getD (fc c k i) [] = (c.getD k []).eraseIdx i := by
  have hm := fIdx_mem h hk (List.getElem_mem hi)
  have hl := fIdx_length (c := c) (k := k)
  have h1 : 1 < (c.getD k []).length := Classical.byContradiction fun hn => by rw [if_neg hn] at hl; omega
  rw [if_pos h1] at hl
  have hfc : (fIdx c k)[i] = findI c ((c.getD k []).eraseIdx i) := by
    have : (fIdx c k)[i]? = some (findI c ((c.getD k []).eraseIdx i)) := by
      unfold fIdx faces
      rw [if_pos h1,List.map_map,List.getElem?_map,List.getElem?_range (by omega)]; rfl
    rw [List.getElem?_eq_getElem hi] at this
    exact Option.some.inj this
  have hin : (c.getD k []).eraseIdx i ∈ c := h.2.2.2 k hk _ (faces_mem.2 ⟨h1,i,by omega,rfl⟩)
  unfold fc
  rw [getD_lt hi]
  refine ⟨?_,by omega,?_⟩
  · rw [idx_lt hi]; congr 1; omega
  · rw [hfc]; exact findI_get hin

theorem VS.map {c : List Sim} {p : Int} {st : Sim} {ms : List Mat} (h : VS c p st ms) {k i : Nat} (hk : k < c.length) (hi : i < (fIdx c k).length) : plc c k + i < ms.length ∧ Bt (mp c ms k i) p (st.getD (fc c k i) 0) (st.getD k 0) := by
  have hg := arrs_get hk hi
  have hlt := (List.getElem?_eq_some_iff.1 hg).1
  exact ⟨by rw [← h.2.2.2.1]; exact hlt,h.2.2.2.2 k hk i hi⟩

theorem firstMap_ret (c : List Sim) (p : Int) (st : Sim) (ms : List Mat) (k : Nat) (hk : k ≤ c.length) (hv : VC c) : Ret E n_Z25 [dLL c,dI p,dL st,dMs ms,dI (k : Int)] ⟨o_Z25,(((plc c k : Nat) : Int),())⟩ := by
  have h48 := hv.1
  have htl : (c.take k).length = k := by rw [List.length_take]; omega
  refine ret_of ?_
  simp only [run_Z25,Z25.ev,Int.toNat_natCast,htl]
  refine ev_chk (by simp; omega) ?_
  refine Ev.start (p := fun φ n => Z25.l0 (mkR (run E (φ 0))) (φ 0) n 0 (c.take k) (k : Int) 0 = _) 1 ?_ (fun _ _ _ h => h)
  have := fold_loop 1 (L := fun φ n j a => Z25.l0 (mkR (run E (φ 0))) (φ 0) n a (c.take k) (k : Int) j) (len := k) (fun j => ((plc c j : Nat) : Int)) (r := some ⟨o_Z25,(((plc c k : Nat) : Int),())⟩) (fun _ _ _ _ _ => rfl) (fun j r hj ih => ?_) ?_
  · exact this
  · simp only [Z25.l0_succ _ mk_ok]
    have hjc : j < c.length := by omega
    have hpl := hv.plc (k := j) (by omega)
    have h4 := hv.len4 hjc
    have e := plc_succ (c := c) (k := j)
    rw [fIdx_length] at e
    rw [getD_lt hjc] at e h4
    have hjt : j < (c.take k).length := by omega
    have hgt : (c.take k)[j] = c[j] := List.getElem_take
    refine ev_t (decide_eq_true (by omega)) (ev_bind (idx_lt hjt) ?_)
    rw [hgt]
    refine ev_d (fun hl => ev_call (sizeI_ret _) ?_) fun hl => ?_
    · rw [if_pos (by omega)] at e
      rw [w64_succ (by omega),w64_small (by omega) (by omega)]
      rw [e] at ih
      simpa using ih
    · rw [if_neg (by omega)] at e
      rw [w64_succ (by omega)]
      rw [e] at ih; exact ih
  · simp only [Z25.l0_succ _ mk_ok]
    exact ev_f (decide_eq_false (by omega)) ev_rfl

theorem direct_ret (c : List Sim) (p : Int) (st : Sim) (ms : List Mat) (k i : Nat) (hk : k < c.length) (hi : i < (fIdx c k).length) (h : VS c p st ms) : Ret E n_Z22 [dLL c,dI p,dL st,dMs ms,dI (k : Int),dI (i : Int)] ⟨o_Z22,mp c ms k i⟩ := by
  have h48 := h.1.1
  have hpl := h.1.plc (k := k) (by omega)
  have h4 := h.1.fIdx4 hk
  obtain ⟨ht,_⟩ := h.map hk hi
  refine ret_of ?_
  simp only [run_Z22,Z22.ev]
  refine ev_call (firstMap_ret c p st ms k (by omega) h.1) ?_
  simp only
  rw [w64_small (by omega) (by omega),show ((plc c k : Nat) : Int) + (i : Int) = ((plc c k + i : Nat) : Int) by omega]
  refine ev_bind (idx_lt ht) (ev_some ?_)
  rw [mp,getD_lt ht]

structure Sq (c : List Sim) (p : Int) (st : Sim) (ms : List Mat) (k i j : Nat) : Prop where
  kl : k < c.length
  n3 : 3 ≤ (c.getD k []).length
  il : i < (c.getD k []).length
  jl : j + 1 < (c.getD k []).length
  v : VS c p st ms

theorem Sq.hi {c p st ms k i j} (h : Sq c p st ms k i j) : i < (fIdx c k).length := by
  have := h.n3; have := h.il
  rw [fIdx_length,if_pos (by omega)]; exact this

theorem Sq.fk {c p st ms k i j} (h : Sq c p st ms k i j) : fc c k i < c.length := (fc_get h.v.1 h.kl h.hi).2.1

theorem Sq.hj {c p st ms k i j} (h : Sq c p st ms k i j) : j < (fIdx c (fc c k i)).length := by
  have h1 := h.n3; have h2 := h.il; have h3 := h.jl
  have e := (fc_get h.v.1 h.kl h.hi).2.2
  rw [fIdx_length,e,List.length_eraseIdx,if_pos h2,if_pos (by omega)]; omega

theorem Sq.b1 {c p st ms k i j} (h : Sq c p st ms k i j) : VM (mp c ms k i) := ((h.v.map h.kl h.hi).2).1
theorem Sq.b2 {c p st ms k i j} (h : Sq c p st ms k i j) : VM (mp c ms (fc c k i) j) := ((h.v.map h.fk h.hj).2).1
theorem Sq.sh {c p st ms k i j} (h : Sq c p st ms k i j) : (mp c ms k i).2.2.1 = (mp c ms (fc c k i) j).2.1 := by
  rw [((h.v.map h.kl h.hi).2).2.2.2,((h.v.map h.fk h.hj).2).2.2.1]

end VeT

open Go Go.Proofs Ve
set_option linter.unusedVariables false
set_option linter.unusedSimpArgs false
namespace VeT

end VeT

open Go Go.Proofs Ve
set_option linter.unusedVariables false
set_option linter.unusedSimpArgs false
namespace VeT

theorem isPlace_ret (c : List Sim) (p : Int) (st : Sim) (ms : List Mat) (k : Int) (hc : c.length ≤ 1048576) : Ret E n_Z30 [dLL c,dI p,dL st,dMs ms,dI k] ⟨o_Z30,(pb (0 ≤ k ∧ k ≤ (c.length : Int) - 1),())⟩ := by
  refine ret_of ?_
  simp only [run_Z30,Z30.ev]
  refine ev_call (sizeL_ret c) ?_
  simp only
  rw [w64_small (by omega) (by omega)]
  exact ev_call (within_ret _ _ _) ev_rfl

theorem l09Index_ret (x : Shf) (k : Int) (hc : x.1.length ≤ 1048576) : Ret E n_Z112 [dS x,dI k] ⟨o_Z112,(pb (0 ≤ k ∧ k ≤ (x.1.length : Int) - 1),())⟩ := by
  refine ret_of ?_
  simp only [run_Z112,Z112.ev]
  rw [w64_small (by omega) (by omega)]
  exact ev_call (l00In_ret _ _ _) ev_rfl

end VeT

open Go Go.Proofs Ve
set_option linter.unusedVariables false
set_option linter.unusedSimpArgs false
namespace VeT

end VeT

open Go Go.Proofs Ve
set_option linter.unusedVariables false
set_option linter.unusedSimpArgs false
namespace VeT

end VeT

open Go Go.Proofs Ve
set_option linter.unusedVariables false
set_option linter.unusedSimpArgs false
namespace VeT

end VeT

open Go Go.Proofs Ve
set_option linter.unusedVariables false
set_option linter.unusedSimpArgs false
namespace VeT

end VeT

open Go Go.Proofs Ve
set_option linter.unusedVariables false
set_option linter.unusedSimpArgs false
namespace VeT

/-! slices.SortFunc,slices.CompactFunc -/
theorem lexc_lexN : ∀ {a b : Sim},lexc a b = lexN a b
  | [],[] => rfl
  | [],_ :: _ => rfl
  | _ :: _,[] => rfl
  | x :: xs,y :: ys => by rw [lexc,lexN,lexc_lexN]

theorem cmpS_cmpX {a b : Sim} : cmpS a b = cmpX a b := by
  unfold cmpS cmpX
  rw [lexc_lexN]; rfl

theorem run_SortFunc (n : Nat) (args : List Dv) : run E (n + 1) n_Z92 args = pSortF n_Z19 (mkR (run E n)) args := rfl

theorem pSortF_val {m : Nat} {R : Run} {xs : List Sim} (h : xs.length ≤ 1048576 ∧ (⟨.fn m .nil,()⟩ : Dv) = ⟨.fn m .nil,()⟩ ∧ ∀ x ∈ xs,∀ y ∈ xs,R.r m [⟨tL,x⟩,⟨tL,y⟩] = some ⟨.cons tI .nil,(cmpX x y,())⟩) :
    pSortF m R [⟨tLL,xs⟩,⟨.fn m .nil,()⟩] = some ⟨.cons tLL .nil,(sortF xs,())⟩ := by
  unfold pSortF
  simp only [show (⟨tLL,xs⟩ : Dv).to tLL = some xs from rfl,Option.bind_some]
  exact if_pos h

theorem pCompF_val {m : Nat} {R : Run} {xs : List Sim} (h : xs.length ≤ 1048576 ∧ (⟨.fn m .nil,()⟩ : Dv) = ⟨.fn m .nil,()⟩ ∧ ∀ (i : Nat) (h : i + 1 < xs.length),R.r m [⟨tL,xs[i + 1]⟩,⟨tL,xs[i]⟩] = some ⟨.cons .bool .nil,(false,())⟩) :
    pCompF m R [⟨tLL,xs⟩,⟨.fn m .nil,()⟩] = some ⟨.cons tLL .nil,(xs,())⟩ := by
  unfold pCompF
  simp only [show (⟨tLL,xs⟩ : Dv).to tLL = some xs from rfl,Option.bind_some]
  exact if_pos h

theorem evt_mem {α : Type} {p : α → Nat → Prop} {l : List α} (h : ∀ x ∈ l,Evt (p x)) : Evt fun n => ∀ x ∈ l,p x n := by
  induction l with
  | nil => exact Evt.of fun n x hx => by cases hx
  | cons a l ih =>
    refine ((h a List.mem_cons_self).and (ih fun x hx => h x (List.mem_cons_of_mem _ hx))).mono fun n ⟨h1,h2⟩ x hx => ?_
    rcases List.mem_cons.1 hx with rfl | hx
    · exact h1
    · exact h2 x hx

theorem SortFunc_ret (xs : List Sim) (hs : Sm (.sl (.sl (.int .i64))) xs) : Ret E n_Z92 [dLL xs,⟨.fn n_Z19 .nil,()⟩] ⟨o_Z92,(sortF xs,())⟩ := by
  have hl : xs.length ≤ 1048576 := hs.1
  have hall : Evt fun n => ∀ x ∈ xs,∀ y ∈ xs,run E n n_Z19 [dL x,dL y] = some ⟨o_Z19,(cmpX x y,())⟩ :=
    evt_mem fun x hx => evt_mem fun y hy => by
      have := compareSimplices_ret x y (hs.2 x hx)
      rw [cmpS_cmpX] at this
      exact this
  refine Evt.succ (hall.mono fun n h => ?_)
  rw [run_SortFunc]
  exact pSortF_val ⟨hl,rfl,h⟩

theorem run_CompactFunc (n : Nat) (args : List Dv) : run E (n + 1) n_Z75 args = pCompF n_Z84 (mkR (run E n)) args := rfl

theorem CompactFunc_ret (xs : List Sim) (hs : Sm (.sl (.sl (.int .i64))) xs) (hn : ∀ (i : Nat) (h : i + 1 < xs.length),xs[i + 1] ≠ xs[i]) :
    Ret E n_Z75 [dLL xs,⟨.fn n_Z84 .nil,()⟩] ⟨o_Z75,(xs,())⟩ := by
  have hl : xs.length ≤ 1048576 := hs.1
  have hall : Evt fun n => ∀ i,i < xs.length - 1 → ∀ (h : i + 1 < xs.length),run E n n_Z84 [dL xs[i + 1],dL xs[i]] = some ⟨o_Z84,(false,())⟩ :=
    Evt.lt fun i hi => by
      have h : i + 1 < xs.length := by omega
      have h2 := EqualP_ret xs[i + 1] xs[i] (sm_get hs h).1
      rw [pb_false (hn i h)] at h2
      exact Evt.mono h2 fun n h3 _ => h3
  refine Evt.succ (hall.mono fun n h => ?_)
  rw [run_CompactFunc]
  exact pCompF_val ⟨hl,rfl,fun i hi => h i (by omega) hi⟩

theorem sortF_srt {c : List Sim} (h : Srt c) : sortF c = c := by
  refine (sortF_eq (List.Perm.refl c) (List.pairwise_iff_getElem.2 fun i j hi hj hij => ?_)).symm
  have := h i j hj hij
  rw [cmpS_cmpX] at this
  exact decide_eq_true (by omega)

theorem copyLists2_ret (rows : List Sim) (hl : rows.length ≤ 1048576) (hs : ∀ x ∈ rows,x.length ≤ 1048576) : Ret E n_Z20 [dLL rows] ⟨o_Z20,(rows,())⟩ := by
  refine ret_of ?_
  simp only [run_Z20,Z20.ev]
  refine Ev.start (p := fun φ n => Z20.l0 (mkR (run E (φ 0))) (φ 0) n rows (rows.length : Int) 0 [] = _) 1 ?_ (fun _ _ _ h => h)
  refine fold_loop 1 (L := fun φ n k o => Z20.l0 (mkR (run E (φ 0))) (φ 0) n rows (rows.length : Int) k o) (len := rows.length) (fun k => rows.take k) (fun _ _ _ _ _ => rfl) (fun k r hk ih => ?_) ?_
  · simp only [Z20.l0_succ _ mk_ok]
    rw [List.take_succ_eq_append_getElem hk] at ih
    refine ev_t (decide_eq_true (by omega)) (ev_bind (idx_lt hk) (ev_call (Clone_ret _ (hs _ (List.getElem_mem hk))) (ev_chk (by simp only [List.length_take,List.length_singleton,decide_eq_true_eq]; omega) ?_)))
    rw [w64_succ (by omega)]; exact ih
  · simp only [Z20.l0_succ _ mk_ok]
    refine ev_f (decide_eq_false (by omega)) (ev_some ?_)
    rw [List.take_of_length_le (Nat.le_refl _)]

/-- a sorted list stays -/
theorem inOrder_ret (c : List Sim) (hc : Sm (.sl (.sl (.int .i64))) c) (hs : Srt c) : Ret E n_Z26 [dLL c] ⟨o_Z26,(c,())⟩ := by
  have h1 := SortFunc_ret c hc
  rw [sortF_srt hs] at h1
  refine ret_of ?_
  simp only [run_Z26,Z26.ev]
  refine ev_call (copyLists2_ret c hc.1 fun x hx => (hc.2 x hx).1) (ev_call h1 (ev_call (CompactFunc_ret c hc fun i h e => ?_) ev_rfl))
  have := hs i (i + 1) h (by omega)
  rw [e,cmpS_cmpX,cmpX_zero.2 rfl] at this
  omega

theorem l05Skeleton_ret (c : List Sim) (hc : Sm (.sl (.sl (.int .i64))) c) (hv : VC c) : Ret E n_Z110 [dC (c,()),dI 3] ⟨o_Z110,(c,())⟩ := by
  have hl : c.length ≤ 1048576 := hc.1
  refine ret_of ?_
  simp only [run_Z110,Z110.ev]
  refine Ev.start (p := fun φ n => Z110.l0 (mkR (run E (φ 0))) (φ 0) n (c,()) 3 0 [] = _) 1 ?_ (fun _ _ _ h => h)
  refine fold_loop 1 (L := fun φ n k o => Z110.l0 (mkR (run E (φ 0))) (φ 0) n (c,()) 3 k o) (len := c.length) (fun k => c.take k) (fun _ _ _ _ _ => rfl) (fun k r hk ih => ?_) ?_
  · simp only [Z110.l0_succ _ mk_ok]
    rw [List.take_succ_eq_append_getElem hk] at ih
    have h4 := hv.len4 hk
    rw [getD_lt hk] at h4
    have e4 : w64 ((3 : Int) + 1) = 4 := w64_small (by omega) (by omega)
    refine ev_t (decide_eq_true (by show (k : Int) < (c.length : Int); omega)) (ev_bind (idx_lt hk) (ev_t (decide_eq_true (by rw [e4]; show (c[k].length : Int) ≤ 4; omega)) (ev_bind (idx_lt hk) (ev_call (l00Own_ret _ (by show c[k].length ≤ _; omega)) (ev_chk (by simp only [List.length_take,List.length_singleton,decide_eq_true_eq]; omega) ?_)))))
    rw [w64_succ (by omega)]; exact ih
  · simp only [Z110.l0_succ _ mk_ok]
    refine ev_f (decide_eq_false (by show ¬ ((c.length : Int) < (c.length : Int)); omega)) (ev_some ?_)
    rw [List.take_of_length_le (Nat.le_refl _)]

theorem copyMatrix_ret (m : Mat) (hm : m.2.2.2.1.length ≤ 1048576) : Ret E n_Z21 [dI m.1,dI m.2.1,dI m.2.2.1,dL m.2.2.2.1] ⟨o_Z21,(m.1,m.2.1,m.2.2.1,m.2.2.2.1,())⟩ := by
  refine ret_of ?_
  simp only [run_Z21,Z21.ev]
  exact ev_call (Clone_ret _ hm) ev_rfl

/-- the zero matrix at an arrow -/
def zOf (p : Int) (st : Sim) (a : Arw) : Mat := (p,st.getD a.1.toNat 0,st.getD a.2.2.1.toNat 0,List.replicate ((st.getD a.1.toNat 0).toNat * (st.getD a.2.2.1.toNat 0).toNat) 0,())

theorem stN_get {c : List Sim} {st : Sim} (hl : st.length = c.length) (hst : ∀ x ∈ st,0 ≤ x ∧ x ≤ 3) {k : Nat} (hk : k < c.length) : ∃ n : Nat,n ≤ 3 ∧ st.getD k 0 = (n : Int) ∧ ∃ h : k < st.length,st[k] = (n : Int) := by
  have h : k < st.length := by omega
  obtain ⟨h1,h2⟩ := hst _ (List.getElem_mem h)
  exact ⟨(st[k]).toNat,by omega,by rw [getD_lt h]; omega,h,by omega⟩

theorem face_get {c : List Sim} (hs : Srt c) (hv : VC c) {k i : Nat} (hk : k < c.length) (hi : i < (fIdx c k).length) : ∃ f : Nat,f < c.length ∧ (fIdx c k)[i] = (f : Int) ∧ (fIdx c k).getD i 0 = (f : Int) := by
  obtain ⟨h1,h2,_⟩ := fc_get hv hk hi
  have e : (fIdx c k)[i] = ((fc c k i : Nat) : Int) := by rw [idx_lt hi] at h1; exact Option.some.inj h1
  exact ⟨fc c k i,h2,e,by rw [getD_lt hi,e]⟩

end VeT

open Go Go.Proofs Ve
set_option linter.unusedVariables false
set_option linter.unusedSimpArgs false
namespace VeT

/-! sheaves with given stalks -/
theorem arrs_at {c : List Sim} (hs : Srt c) (hv : VC c) {t : Nat} (ht : t < (arrs c c.length).length) :
    ∃ k i f : Nat,k < c.length ∧ i < (fIdx c k).length ∧ f < c.length ∧ (arrs c c.length)[t] = ((k : Int),(i : Int),(f : Int),()) := by
  obtain ⟨k,i,h1,h2,h3⟩ := arrs_ex ht
  obtain ⟨f,f1,f2,f3⟩ := face_get hs hv h1 h2
  refine ⟨k,i,f,h1,h2,f1,?_⟩
  have := arrs_get h1 h2
  rw [← h3,List.getElem?_eq_getElem ht,f3] at this
  exact Option.some.inj this

theorem arrs_len {c : List Sim} (hv : VC c) : (arrs c c.length).length ≤ 192 := by
  have h := hv.plc (k := c.length) (Nat.le_refl _)
  have := hv.1
  unfold plc at h
  omega

theorem l09New_ret (c : List Sim) (p : Int) (st : Sim) (hc : Sm (.sl (.sl (.int .i64))) c) (hv : VC c) (hl : st.length = c.length) (hst : ∀ x ∈ st,0 ≤ x ∧ x ≤ 3) :
    Ret E n_Z114 [dC (c,()),dI p,dL st] ⟨o_Z114,(c,p,st,(arrs c c.length).map (zOf p st),())⟩ := by
  have hs := hv.srt
  have h192 := arrs_len hv
  have h48 := hv.1
  refine ret_of ?_
  simp only [run_Z114,Z114.ev]
  refine ev_call (l05Skeleton_ret c hc hv) (ev_call (l00Own_ret st (by omega)) ?_)
  refine Ev.start (p := fun φ n => Z114.l0 (mkR (run E (φ 0))) (φ 0) n (c,()) p st 0 0 p [] c st = _) 1 ?_ (fun _ _ _ h => h)
  refine fold_loop 1 (L := fun φ n k o => Z114.l0 (mkR (run E (φ 0))) (φ 0) n (c,()) p st k 0 p o c st) (len := c.length) (fun k => (arrs c k).map (zOf p st)) (fun _ _ _ _ _ => rfl) (fun k r hk ih => ?_) ?_
  · simp only [Z114.l0_succ _ mk_ok]
    have hpl := hv.plc (k := k) (by omega)
    unfold plc at hpl
    have hf4 := hv.fIdx4 hk
    refine ev_t (decide_eq_true (by show (k : Int) < (c.length : Int); omega)) (ev_call (l05Faces_ret c k hk hc) ?_)
    refine Ev.start (p := fun φ n => Z114.l1 (mkR (run E (φ 0))) (φ 0) (φ 1) n (c,()) p st (k : Int) (fIdx c k) 0 0 p ((arrs c k).map (zOf p st)) c st = _) 2 ?_ (fun _ _ _ h => h)
    have := fold_loop 2 (L := fun φ n j o => Z114.l1 (mkR (run E (φ 0))) (φ 0) (φ 1) n (c,()) p st (k : Int) (fIdx c k) j 0 p o c st) (len := (fIdx c k).length) (fun j => (arrs c k ++ rowA c k j).map (zOf p st)) (r := r) (fun _ _ _ _ _ => rfl) (fun j r hj ih => ?_) ?_
    · simpa [rowA] using this
    · simp only [Z114.l1_succ _ mk_ok]
      obtain ⟨f,f1,f2,f3⟩ := face_get hs hv hk hj
      obtain ⟨a,ha,ea,hka,eka⟩ := stN_get hl hst hk
      obtain ⟨b,hb,eb,hfb,efb⟩ := stN_get hl hst f1
      have hz := l03Zero_ret p a b (by omega) (by omega)
      have e2 : zOf p st ((k : Int),(j : Int),(fIdx c k).getD j 0,()) = (p,(a : Int),(b : Int),List.replicate (a * b) 0,()) := by
        unfold zOf
        simp only [Int.toNat_natCast,ea,eb,f3]
      have erow : rowA c k (j + 1) = rowA c k j ++ [((k : Int),(j : Int),(fIdx c k).getD j 0,())] := by
        unfold rowA
        rw [List.range_succ,List.map_append,List.map_singleton]
      rw [erow,← List.append_assoc,List.map_append (l₂ := [_]),List.map_singleton,e2] at ih
      refine ev_t (decide_eq_true (by omega)) (ev_bind (idx_lt hka) (ev_bind (idx_lt hj) ?_))
      simp only [eka,f2]
      refine ev_bind (idx_lt hfb) ?_
      simp only [efb]
      refine ev_call hz (ev_chk (by simp only [List.length_map,List.length_append,rowA_length,List.length_singleton,decide_eq_true_eq]; omega) ?_)
      rw [w64_succ (by omega)]; exact ih
    · simp only [Z114.l1_succ _ mk_ok]
      refine ev_f (decide_eq_false (by omega)) ?_
      rw [w64_succ (by omega)]
      have : arrs c (k + 1) = arrs c k ++ rowA c k (fIdx c k).length := rfl
      rw [this] at ih
      exact ih
  · simp only [Z114.l0_succ _ mk_ok]
    exact ev_f (decide_eq_false (by show ¬ ((c.length : Int) < (c.length : Int)); omega)) ev_rfl

end VeT

open Go Go.Proofs Ve
set_option linter.unusedVariables false
set_option linter.unusedSimpArgs false
namespace VeT

/-! marks: what the laws write over arguments and results -/
def mkL (k : Int) (n : Nat) : Sim := (List.range n).map fun (i : Nat) => k + (i : Int)

theorem mkL_length {k : Int} {n : Nat} : (mkL k n).length = n := by simp [mkL]

theorem mkL_get {k : Int} {n i : Nat} (h : i < (mkL k n).length) : (mkL k n)[i] = k + i := by simp [mkL]

theorem markInt64S_ret (s : Sim) (k : Int) (hk : 0 ≤ k ∧ k ≤ 4611686018427387904) (hs : s.length ≤ 1048576) : Ret E n_Z55 [dL s,dI k] ⟨o_Z55,(k + s.length,mkL k s.length,())⟩ := by
  refine ret_of ?_
  simp only [run_Z55,Z55.ev]
  refine Ev.start (p := fun φ n => Z55.l0 (mkR (run E (φ 0))) (φ 0) n k 0 s = _) 1 ?_ (fun _ _ _ h => h)
  have hl : ∀ j,j ≤ s.length → (mkL k j ++ s.drop j).length = s.length := fun j hj => by rw [List.length_append,mkL_length,List.length_drop]; omega
  have := fold_loop 1 (L := fun φ n j (a : Int × Sim) => Z55.l0 (mkR (run E (φ 0))) (φ 0) n a.1 j a.2) (len := s.length) (fun j => (k + (j : Int),mkL k j ++ s.drop j)) (r := some ⟨o_Z55,(k + s.length,mkL k s.length,())⟩) (fun _ _ _ _ _ => rfl) (fun j r hj ih => ?_) ?_
  · simpa [mkL] using this
  · simp only [Z55.l0_succ _ mk_ok,hl j (by omega)]
    refine ev_t (decide_eq_true (by omega)) (ev_chk (by simp; omega) ?_)
    rw [w64_succ (by omega),w64_small (by omega) (by omega),Int.toNat_natCast]
    have e : (mkL k j ++ s.drop j).set j (k + j) = mkL k (j + 1) ++ s.drop (j + 1) := by
      rw [List.drop_eq_getElem_cons hj,List.set_append_right _ _ (by rw [mkL_length]; omega),mkL_length,Nat.sub_self,List.set_cons_zero]
      unfold mkL
      rw [List.range_succ,List.map_append,List.append_assoc]; rfl
    rw [e,show k + (j : Int) + 1 = k + ((j + 1 : Nat) : Int) by omega]
    exact ih
  · simp only [Z55.l0_succ _ mk_ok,hl s.length (Nat.le_refl _)]
    refine ev_f (decide_eq_false (by omega)) (ev_some ?_)
    simp

theorem heldInt64S_ret (k : Int) (n : Nat) (hk : 0 ≤ k ∧ k ≤ 4611686018427387904) (hn : n ≤ 1048576) : Ret E n_Z50 [dL (mkL k n),dI k] ⟨o_Z50,(k + n,())⟩ := by
  refine ret_of ?_
  simp only [run_Z50,Z50.ev]
  refine Ev.start (p := fun φ m => Z50.l0 (mkR (run E (φ 0))) (φ 0) m (mkL k n) k 0 = _) 1 ?_ (fun _ _ _ h => h)
  have := fold_loop 1 (L := fun φ m j a => Z50.l0 (mkR (run E (φ 0))) (φ 0) m (mkL k n) a j) (len := n) (fun j => k + (j : Int)) (r := some ⟨o_Z50,(k + n,())⟩) (fun _ _ _ _ _ => rfl) (fun j r hj ih => ?_) ?_
  · simpa using this
  · simp only [Z50.l0_succ _ mk_ok,mkL_length]
    have hj' : j < (mkL k n).length := by rw [mkL_length]; exact hj
    refine ev_t (decide_eq_true (by omega)) (ev_bind (idx_lt hj') (ev_f (by simp [mkL_get hj']) ?_))
    rw [w64_succ (by omega),w64_small (by omega) (by omega),show k + (j : Int) + 1 = k + ((j + 1 : Nat) : Int) by omega]
    exact ih
  · simp only [Z50.l0_succ _ mk_ok,mkL_length]
    exact ev_f (decide_eq_false (by omega)) ev_rfl

def mkLL : List Sim → Int → List Sim
  | [],_ => []
  | x :: xs,k => mkL k x.length :: mkLL xs (k + x.length)
def mkN : List Sim → Int → Int
  | [],k => k
  | x :: xs,k => mkN xs (k + x.length)

theorem mkLL_length : ∀ {xs : List Sim} {k : Int},(mkLL xs k).length = xs.length
  | [],_ => rfl
  | x :: xs,k => by simp [mkLL,mkLL_length]

theorem mkN_ge : ∀ {xs : List Sim} {k : Int},(∀ x ∈ xs,x.length ≤ 1048576) → k ≤ mkN xs k ∧ mkN xs k ≤ k + 1048576 * xs.length
  | [],k,_ => by simp [mkN]
  | x :: xs,k,h => by
    have h1 := mkN_ge (xs := xs) (k := k + x.length) fun y hy => h y (List.mem_cons_of_mem _ hy)
    have h2 := h x List.mem_cons_self
    simp only [mkN,List.length_cons]; omega

theorem markRows_evt : ∀ (xs : List Sim) (k : Int),0 ≤ k → k + 1048576 * xs.length ≤ 4611686018427387904 → (∀ x ∈ xs,x.length ≤ 1048576) → Evt fun n => markRows n_Z55 (mkR (run E n)) xs k = some (mkN xs k,mkLL xs k)
  | [],k,_,_,_ => Evt.of fun _ => rfl
  | x :: xs,k,h0,hb,hx => by
    have h2 := hx x List.mem_cons_self
    simp only [List.length_cons] at hb
    have h3 := markRows_evt xs (k + x.length) (by omega) (by omega) fun y hy => hx y (List.mem_cons_of_mem _ hy)
    have h4 := markInt64S_ret x k (by omega) h2
    refine (h4.and h3).mono fun n ⟨a,b⟩ => ?_
    have a' : callT (mkR (run E n)) n_Z55 oM [⟨tL,x⟩,⟨tI,k⟩] = some (k + x.length,mkL k x.length,()) := callT_of a
    simp only [markRows,a',Option.bind_some,b,Option.map_some,mkN,mkLL]

theorem run_markSS (n : Nat) (args : List Dv) : run E (n + 1) n_Z56 args = pMarkSS n_Z55 (mkR (run E n)) args := rfl

theorem markInt64SS_ret (xs : List Sim) (k : Int) (hk : 0 ≤ k ∧ k ≤ 1125899906842624) (hs : Sm (.sl (.sl (.int .i64))) xs) : Ret E n_Z56 [dLL xs,dI k] ⟨o_Z56,(mkN xs k,mkLL xs k,())⟩ := by
  have hs1 : xs.length ≤ 1048576 := hs.1
  refine Evt.succ ((markRows_evt xs k hk.1 (by omega) fun x hx => (hs.2 x hx).1).mono fun n h => ?_)
  rw [run_markSS]
  show ((markRows n_Z55 (mkR (run E n)) xs k).map fun q => (⟨.cons tI (.cons (.sl tL) .nil),(q.1,q.2,())⟩ : Dv)) = _
  rw [h]; rfl

theorem heldInt64SS_ret (xs : List Sim) (k : Int) (hk : 0 ≤ k ∧ k ≤ 1125899906842624) (hs : Sm (.sl (.sl (.int .i64))) xs) : Ret E n_Z51 [dLL (mkLL xs k),dI k] ⟨o_Z51,(mkN xs k,())⟩ := by
  have hs1 : xs.length ≤ 1048576 := hs.1
  refine ret_of ?_
  simp only [run_Z51,Z51.ev]
  refine Ev.start (p := fun φ m => Z51.l0 (mkR (run E (φ 0))) (φ 0) m (mkLL xs k) k 0 = _) 1 ?_ (fun _ _ _ h => h)
  -- the rows that are left
  refine loopR 1 (σ := Nat × Int) (L := fun φ m s => Z51.l0 (mkR (run E (φ 0))) (φ 0) m (mkLL xs k) s.2 (s.1 : Int)) (fun _ _ _ _ => rfl) (fun s => s.1 ≤ xs.length ∧ (mkLL xs k).drop s.1 = mkLL (xs.drop s.1) s.2 ∧ mkN xs k = mkN (xs.drop s.1) s.2 ∧ k ≤ s.2 ∧ s.2 ≤ k + 1048576 * s.1) (fun _ => _) (fun s => xs.length - s.1) (fun s hi ih => ?_) (0,k) ⟨Nat.zero_le _,rfl,rfl,Int.le_refl _,by simp⟩
  obtain ⟨j,q⟩ := s
  obtain ⟨h1,h2,h3,h4,h5⟩ := hi
  simp only at h1 h2 h3 h4 h5 ih
  simp only [Z51.l0_succ _ mk_ok,mkLL_length]
  refine ev_d (fun hlt => ?_) fun hlt => ev_some ?_
  · have hj : j < xs.length := by omega
    have hj' : j < (mkLL xs k).length := by rw [mkLL_length]; exact hj
    rw [List.drop_eq_getElem_cons hj,List.drop_eq_getElem_cons hj',mkLL] at h2
    rw [List.drop_eq_getElem_cons hj,mkN] at h3
    obtain ⟨e1,e2⟩ := List.cons.inj h2
    have hx := (sm_get hs hj).1
    have hx : (xs[j]).length ≤ 1048576 := hx
    refine ev_bind (idx_lt hj') ?_
    rw [e1]
    refine ev_call (heldInt64S_ret q (xs[j]).length (by omega) hx) (ev_f (decide_eq_false (Int.not_lt.2 (by show 0 ≤ q + ((xs[j]).length : Int); omega))) ?_)
    rw [w64_succ (by omega)]
    exact ih (j + 1,q + ((xs[j]).length : Int)) ⟨by show j + 1 ≤ _; omega,e2,h3,by show k ≤ q + ((xs[j]).length : Int); omega,by show q + ((xs[j]).length : Int) ≤ k + 1048576 * ((j + 1 : Nat) : Int); omega⟩ (by show xs.length - (j + 1) < xs.length - j; omega)
  · have e : j = xs.length := by omega
    subst e
    rw [List.drop_length,mkN] at h3
    rw [h3]

end VeT

open Go Go.Proofs Ve
set_option linter.unusedVariables false
set_option linter.unusedSimpArgs false
namespace VeT

/-! marks of matrices and sheaves -/
def mkMM : List MatT → Int → List MatT
  | [],_ => []
  | x :: xs,k => (k,k + 1,k + 1 + 1,mkL (k + 1 + 1 + 1) x.2.2.2.1.length,()) :: mkMM xs (k + 1 + 1 + 1 + x.2.2.2.1.length)
def mkMN : List MatT → Int → Int
  | [],k => k
  | x :: xs,k => mkMN xs (k + 1 + 1 + 1 + x.2.2.2.1.length)

theorem mkMN_ge : ∀ {xs : List MatT} {k : Int},(∀ x ∈ xs,x.2.2.2.1.length ≤ 1048576) → k ≤ mkMN xs k ∧ mkMN xs k ≤ k + 1048579 * xs.length
  | [],k,_ => by simp [mkMN]
  | x :: xs,k,h => by
    have h1 := mkMN_ge (xs := xs) (k := k + 1 + 1 + 1 + x.2.2.2.1.length) fun y hy => h y (List.mem_cons_of_mem _ hy)
    have h2 := h x List.mem_cons_self
    simp only [mkMN,List.length_cons]; omega

theorem markRowsM_evt : ∀ (xs : List MatT) (k : Int),0 ≤ k → k + 1048579 * xs.length ≤ 4611686018427387904 → (∀ x ∈ xs,x.2.2.2.1.length ≤ 1048576) → Evt fun n => markRowsM n_Z55 (mkR (run E n)) xs k = some (mkMN xs k,mkMM xs k)
  | [],k,_,_,_ => Evt.of fun _ => rfl
  | x :: xs,k,h0,hb,hx => by
    have h2 := hx x List.mem_cons_self
    simp only [List.length_cons] at hb
    have h3 := markRowsM_evt xs (k + 1 + 1 + 1 + x.2.2.2.1.length) (by omega) (by omega) fun y hy => hx y (List.mem_cons_of_mem _ hy)
    have h4 := markInt64S_ret x.2.2.2.1 (k + 1 + 1 + 1) (by omega) h2
    refine (h4.and h3).mono fun n ⟨a,b⟩ => ?_
    have a' : callT (mkR (run E n)) n_Z55 oM [⟨tL,x.2.2.2.1⟩,⟨tI,k + 1 + 1 + 1⟩] = some (k + 1 + 1 + 1 + x.2.2.2.1.length,mkL (k + 1 + 1 + 1) x.2.2.2.1.length,()) := callT_of a
    rw [markRowsM,if_pos (by omega)]
    simp only [a',Option.bind_some,b,Option.map_some,mkMN,mkMM]

theorem run_markMS (n : Nat) (args : List Dv) : run E (n + 1) n_Z58 args = pMarkMS n_Z55 (mkR (run E n)) args := rfl

theorem markMatrixS_ret (xs : List MatT) (k : Int) (hk : 0 ≤ k ∧ k ≤ 4398046511104) (hs : Sm (.sl tM) xs) : Ret E n_Z58 [⟨.sl tM,xs⟩,⟨.int .i64,k⟩] ⟨o_Z58,(mkMN xs k,mkMM xs k,())⟩ := by
  have hs1 : xs.length ≤ 1048576 := hs.1
  refine Evt.succ ((markRowsM_evt xs k hk.1 (by omega) fun x hx => (hs.2 x hx).2.2.2.1.1).mono fun n h => ?_)
  rw [run_markMS]
  show ((markRowsM n_Z55 (mkR (run E n)) xs k).map fun q => (⟨.cons tI (.cons (.sl tM) .nil),(q.1,q.2,())⟩ : Dv)) = _
  rw [h]; rfl

theorem markMatrix_ret (x : MatT) (k : Int) (hk : 0 ≤ k ∧ k ≤ 4398046511104) (hs : x.2.2.2.1.length ≤ 1048576) : Ret E n_Z57 [dI x.1,dI x.2.1,dI x.2.2.1,dL x.2.2.2.1,dI k] ⟨o_Z57,(k + x.2.2.2.1.length,mkL k x.2.2.2.1.length,())⟩ := by
  refine ret_of ?_
  simp only [run_Z57,Z57.ev]
  exact ev_call (markInt64S_ret _ k (by omega) hs) ev_rfl

theorem markComplexP_ret (xs : List Sim) (k : Int) (hk : 0 ≤ k ∧ k ≤ 1125899906842624) (hs : Sm (.sl (.sl (.int .i64))) xs) : Ret E n_Z54 [dLL xs,dI k] ⟨o_Z54,(mkN xs k,mkLL xs k,())⟩ := by
  refine ret_of ?_
  simp only [run_Z54,Z54.ev]
  exact ev_call (markInt64SS_ret xs k hk hs) ev_rfl

/-- the number behind a sheaf's marks -/
def mkSN (x : Shf) (k : Int) : Int := mkMN x.2.2.2.1 (mkN x.1 k + x.2.2.1.length)

theorem markSheaf_ret (x : Shf) (hx : Sm (.st cS) x) : ∃ a b c,Ret E n_Z59 [dLL x.1,dI x.2.1,dL x.2.2.1,dMs x.2.2.2.1,dI 1] ⟨o_Z59,(mkSN x 1,a,b,c,())⟩ ∧ 1 ≤ mkSN x 1 ∧ mkSN x 1 ≤ 4398046511104 := by
  have h1 : Sm (.sl (.sl (.int .i64))) x.1 := hx.1
  have h2 : x.2.2.1.length ≤ 1048576 := hx.2.2.1.1
  have h3 : Sm (.sl tM) x.2.2.2.1 := hx.2.2.2.1
  have l1 : x.1.length ≤ 1048576 := h1.1
  have l3 : x.2.2.2.1.length ≤ 1048576 := h3.1
  have g1 := mkN_ge (xs := x.1) (k := 1) fun y hy => (h1.2 y hy).1
  have g3 := mkMN_ge (xs := x.2.2.2.1) (k := mkN x.1 1 + x.2.2.1.length) fun y hy => (h3.2 y hy).2.2.2.1.1
  refine ⟨mkLL x.1 1,mkL (mkN x.1 1) x.2.2.1.length,mkMM x.2.2.2.1 (mkN x.1 1 + x.2.2.1.length),ret_of ?_,by unfold mkSN; omega⟩
  · simp only [run_Z59,Z59.ev]
    exact ev_call (markComplexP_ret x.1 1 (by omega) h1) (ev_call (markInt64S_ret x.2.2.1 (mkN x.1 1) (by omega) h2) (ev_call (markMatrixS_ret x.2.2.2.1 (mkN x.1 1 + x.2.2.1.length) (by omega) h3) ev_rfl))

end VeT

open Go Go.Proofs Ve
set_option linter.unusedVariables false
set_option linter.unusedSimpArgs false
namespace VeT

end VeT

open Go Go.Proofs Ve
set_option linter.unusedVariables false
set_option linter.unusedSimpArgs false
namespace VeT

end VeT

open Go Go.Proofs Ve
set_option linter.unusedVariables false
set_option linter.unusedSimpArgs false
namespace VeT

theorem VM.len {m : Mat} (h : VM m) : m.2.2.2.1.length ≤ 1024 := by
  obtain ⟨R,C,_,hR,hC,hl⟩ := h.nat
  have := rc_le hR hC
  omega

end VeT

open Go Go.Proofs Ve
set_option linter.unusedVariables false
set_option linter.unusedSimpArgs false
namespace VeT

theorem Rises.lt {s : Sim} (h : Rises s) : ∀ {i j : Nat} (hj : j < s.length) (hij : i < j),s[i] < s[j] := by
  intro i j
  induction j with
  | zero => intro _ h; omega
  | succ j ih =>
    intro hj hij
    have := h (j + 1) (by omega) hj
    rw [Nat.add_sub_cancel,getD_lt (by omega),getD_lt hj] at this
    by_cases e : i = j
    · subst e; exact this
    · exact Int.lt_trans (ih (by omega) (by omega)) this

end VeT

open Go Go.Proofs Ve
set_option linter.unusedVariables false
set_option linter.unusedSimpArgs false
namespace VeT

end VeT

open Go Go.Proofs Ve
set_option linter.unusedVariables false
set_option linter.unusedSimpArgs false
namespace VeT

theorem heldMatrixS_ret (xs : List Mat) (k : Int) (hk : 0 ≤ k ∧ k ≤ 4398046511104) (hs : Sm (.sl (.st cM)) xs) : Ret E n_Z52 [dMs (mkMM xs k),dI k] ⟨o_Z52,(mkMN xs k,())⟩ := by
  have hs1 : xs.length ≤ 1048576 := hs.1
  have hlen : ∀ {xs : List Mat} {k : Int},(mkMM xs k).length = xs.length := by
    intro xs
    induction xs with
    | nil => intro k; rfl
    | cons x xs ih => intro k; simp [mkMM,ih]
  refine ret_of ?_
  simp only [run_Z52,Z52.ev]
  refine Ev.start (p := fun φ m => Z52.l0 (mkR (run E (φ 0))) (φ 0) m (mkMM xs k) k 0 = _) 1 ?_ (fun _ _ _ h => h)
  refine loopR 1 (σ := Nat × Int) (L := fun φ m s => Z52.l0 (mkR (run E (φ 0))) (φ 0) m (mkMM xs k) s.2 (s.1 : Int)) (fun _ _ _ _ => rfl) (fun s => s.1 ≤ xs.length ∧ (mkMM xs k).drop s.1 = mkMM (xs.drop s.1) s.2 ∧ mkMN xs k = mkMN (xs.drop s.1) s.2 ∧ k ≤ s.2 ∧ s.2 ≤ k + 1048579 * s.1) (fun _ => _) (fun s => xs.length - s.1) (fun s hi ih => ?_) (0,k) ⟨Nat.zero_le _,rfl,rfl,Int.le_refl _,by simp⟩
  obtain ⟨j,q⟩ := s
  obtain ⟨h1,h2,h3,h4,h5⟩ := hi
  simp only at h1 h2 h3 h4 h5 ih
  simp only [Z52.l0_succ _ mk_ok,hlen]
  refine ev_d (fun hlt => ?_) fun hlt => ev_some ?_
  · have hj : j < xs.length := by omega
    have hj' : j < (mkMM xs k).length := by rw [hlen]; exact hj
    rw [List.drop_eq_getElem_cons hj,List.drop_eq_getElem_cons hj',mkMM] at h2
    rw [List.drop_eq_getElem_cons hj,mkMN] at h3
    obtain ⟨e1,e2⟩ := List.cons.inj h2
    have hx := (sm_mat hs hj).2.2.2.1.1
    have hx : (xs[j]).2.2.2.1.length ≤ 1048576 := hx
    have w1 : w64 (q + 1) = q + 1 := w64_small (by omega) (by omega)
    have w2 : w64 (q + 1 + 1) = q + 1 + 1 := w64_small (by omega) (by omega)
    have w3 : w64 (q + 1 + 1 + 1) = q + 1 + 1 + 1 := w64_small (by omega) (by omega)
    have hg : (mkMM xs k)[j]? = some (q,q + 1,q + 1 + 1,mkL (q + 1 + 1 + 1) (xs[j]).2.2.2.1.length,()) := by rw [List.getElem?_eq_getElem hj',e1]
    simp only [w1,w2,w3]
    refine ev_bind (idx_nat.trans hg) (ev_f (by simp) (ev_bind (idx_nat.trans hg) (ev_f (by simp) (ev_bind (idx_nat.trans hg) (ev_f (by simp) (ev_bind (idx_nat.trans hg) (ev_call (heldInt64S_ret (q + 1 + 1 + 1) (xs[j]).2.2.2.1.length (by omega) hx) (ev_f (decide_eq_false (Int.not_lt.2 (by show 0 ≤ q + 1 + 1 + 1 + ((xs[j]).2.2.2.1.length : Int); omega))) ?_))))))))
    rw [w64_succ (by omega)]
    exact ih (j + 1,q + 1 + 1 + 1 + ((xs[j]).2.2.2.1.length : Int)) ⟨by show j + 1 ≤ _; omega,e2,h3,by show k ≤ q + 1 + 1 + 1 + ((xs[j]).2.2.2.1.length : Int); omega,by show q + 1 + 1 + 1 + ((xs[j]).2.2.2.1.length : Int) ≤ k + 1048579 * ((j + 1 : Nat) : Int); omega⟩ (by show xs.length - (j + 1) < xs.length - j; omega)
  · have e : j = xs.length := by omega
    subst e
    rw [List.drop_length,mkMN] at h3
    rw [h3]

end VeT

open Go Go.Proofs Ve
set_option linter.unusedVariables false
set_option linter.unusedSimpArgs false
namespace VeT

/-! marks of a sheaf that is a result -/
theorem heldComplex_ret (xs : List Sim) (k : Int) (hk : 0 ≤ k ∧ k ≤ 1125899906842624) (hs : Sm (.sl (.sl (.int .i64))) xs) : Ret E n_Z49 [dLL (mkLL xs k),dI k] ⟨o_Z49,(mkN xs k,())⟩ := by
  have h1 : xs.length ≤ 1048576 := hs.1
  have g := mkN_ge (xs := xs) (k := k) fun y hy => (hs.2 y hy).1
  refine ret_of ?_
  simp only [run_Z49,Z49.ev]
  exact ev_call (heldInt64SS_ret xs k hk hs) (ev_f (decide_eq_false (Int.not_lt.2 (by show 0 ≤ mkN xs k; omega))) ev_rfl)

theorem markSheafR_ret (x : Shf) (hx : Sm (.st cS) x) : Ret E n_Z59 [dLL x.1,dI x.2.1,dL x.2.2.1,dMs x.2.2.2.1,dI 1] ⟨o_Z59,(mkSN x 1,mkLL x.1 1,mkL (mkN x.1 1) x.2.2.1.length,mkMM x.2.2.2.1 (mkN x.1 1 + x.2.2.1.length),())⟩ := by
  have h1 : Sm (.sl (.sl (.int .i64))) x.1 := hx.1
  have h2 : x.2.2.1.length ≤ 1048576 := hx.2.2.1.1
  have h3 : Sm (.sl tM) x.2.2.2.1 := hx.2.2.2.1
  have l1 : x.1.length ≤ 1048576 := h1.1
  have l3 : x.2.2.2.1.length ≤ 1048576 := h3.1
  have g1 := mkN_ge (xs := x.1) (k := 1) fun y hy => (h1.2 y hy).1
  refine ret_of ?_
  simp only [run_Z59,Z59.ev]
  exact ev_call (markComplexP_ret x.1 1 (by omega) h1) (ev_call (markInt64S_ret x.2.2.1 (mkN x.1 1) (by omega) h2) (ev_call (markMatrixS_ret x.2.2.2.1 (mkN x.1 1 + x.2.2.1.length) (by omega) h3) ev_rfl))

theorem heldSheaf_ret (x : Shf) (hx : Sm (.st cS) x) : Ret E n_Z53 [dLL (mkLL x.1 1),dI x.2.1,dL (mkL (mkN x.1 1) x.2.2.1.length),dMs (mkMM x.2.2.2.1 (mkN x.1 1 + x.2.2.1.length)),dI 1] ⟨o_Z53,(mkSN x 1,())⟩ := by
  have h1 : Sm (.sl (.sl (.int .i64))) x.1 := hx.1
  have h2 : x.2.2.1.length ≤ 1048576 := hx.2.2.1.1
  have h3 : Sm (.sl tM) x.2.2.2.1 := hx.2.2.2.1
  have l1 : x.1.length ≤ 1048576 := h1.1
  have l3 : x.2.2.2.1.length ≤ 1048576 := h3.1
  have g1 := mkN_ge (xs := x.1) (k := 1) fun y hy => (h1.2 y hy).1
  have g3 := mkMN_ge (xs := x.2.2.2.1) (k := mkN x.1 1 + x.2.2.1.length) fun y hy => (h3.2 y hy).2.2.2.1.1
  refine ret_of ?_
  simp only [run_Z53,Z53.ev]
  refine ev_call (heldComplex_ret x.1 1 (by omega) h1) (ev_f (decide_eq_false (Int.not_lt.2 (by show 0 ≤ mkN x.1 1; omega))) ?_)
  refine ev_call (heldInt64S_ret (mkN x.1 1) x.2.2.1.length (by omega) h2) (ev_f (decide_eq_false (Int.not_lt.2 (by show 0 ≤ mkN x.1 1 + (x.2.2.1.length : Int); omega))) ?_)
  refine ev_call (heldMatrixS_ret x.2.2.2.1 (mkN x.1 1 + x.2.2.1.length) (by omega) h3) (ev_f (decide_eq_false (Int.not_lt.2 (by show 0 ≤ mkMN x.2.2.2.1 (mkN x.1 1 + (x.2.2.1.length : Int)); omega))) ev_rfl)

theorem mkSN_ge (x : Shf) (hx : Sm (.st cS) x) : 0 ≤ mkSN x 1 := by
  have h1 : Sm (.sl (.sl (.int .i64))) x.1 := hx.1
  have h3 : Sm (.sl tM) x.2.2.2.1 := hx.2.2.2.1
  have g1 := mkN_ge (xs := x.1) (k := 1) fun y hy => (h1.2 y hy).1
  have g3 := mkMN_ge (xs := x.2.2.2.1) (k := mkN x.1 1 + x.2.2.1.length) fun y hy => (h3.2 y hy).2.2.2.1.1
  unfold mkSN
  omega

noncomputable abbrev nilS (e : Int) : List Sim × Int × Sim × List Mat × Int × Unit := ([],0,[],[],e,())

theorem sm_nilS : Sm (.st cS) ([],0,[],[],()) := ⟨⟨by show (0 : Nat) ≤ 1048576; omega,fun _ h => by cases h⟩,trivial,⟨by show (0 : Nat) ≤ 1048576; omega,fun _ h => by cases h⟩,⟨by show (0 : Nat) ≤ 1048576; omega,fun _ h => by cases h⟩,trivial⟩

end VeT

open Go Go.Proofs Ve
set_option linter.unusedVariables false
set_option linter.unusedSimpArgs false
namespace VeT

/-! one restriction is replaced -/
theorem sameShape_ret (a b : Mat) : Ret E n_Z34 [dI a.1,dI a.2.1,dI a.2.2.1,dL a.2.2.2.1,dI b.1,dI b.2.1,dI b.2.2.1,dL b.2.2.2.1] ⟨o_Z34,(pb (a.1 = b.1 ∧ a.2.1 = b.2.1 ∧ a.2.2.1 = b.2.2.1),())⟩ := by
  refine ret_of ?_
  simp only [run_Z34,Z34.ev]
  refine ev_b (fun h1 => ev_b (fun h2 => ev_some ?_) fun h2 => ev_some ?_) fun h1 => ev_some ?_
  · have h1 : a.1 = b.1 := by simpa using h1
    have h2 : a.2.1 = b.2.1 := by simpa using h2
    have : (a.2.2.1 == b.2.2.1) = pb (a.1 = b.1 ∧ a.2.1 = b.2.1 ∧ a.2.2.1 = b.2.2.1) := eq_pb (by rw [beq_iff_eq]; exact ⟨fun h => ⟨h1,h2,h⟩,fun h => h.2.2⟩)
    rw [this]
  · have h2 : ¬ a.2.1 = b.2.1 := by simpa using h2
    rw [pb_false fun h => h2 h.2.1]
  · have h1 : ¬ a.1 = b.1 := by simpa using h1
    rw [pb_false fun h => h1 h.1]

theorem plc_inj {c : List Sim} {k i k' i' : Nat} (hk : k < c.length) (hi : i < (fIdx c k).length) (hk' : k' < c.length) (hi' : i' < (fIdx c k').length) (h : plc c k + i = plc c k' + i') : k = k' ∧ i = i' := by
  have h1 := arrs_get hk hi
  have h2 := arrs_get hk' hi'
  rw [h,h2] at h1
  have h3 := Option.some.inj h1
  have e1 : (k' : Int) = (k : Int) := congrArg (fun a : Arw => a.1) h3
  have e2 : (i' : Int) = (i : Int) := congrArg (fun a : Arw => a.2.1) h3
  exact ⟨by omega,by omega⟩

theorem setRestriction_1_ret (x : Shf) (k i k' i' f : Nat) (m : Mat) (h : VS x.1 x.2.1 x.2.2.1 x.2.2.2.1) (hk : k' < x.1.length) (hi : i' < (fIdx x.1 k').length) :
    Ret E n_Z6 [dI (k' : Int),dI (i' : Int),dI (f : Int),⟨.ptr (.cons (.int .i64) .nil),((k : Int),())⟩,⟨.ptr (.cons (.int .i64) .nil),((i : Int),())⟩,dM m,dS x] ⟨o_Z6,if k' = k ∧ i' = i then m else mp x.1 x.2.2.2.1 k' i'⟩ := by
  have hd := direct_ret x.1 x.2.1 x.2.2.1 x.2.2.2.1 k' i' hk hi h
  refine ret_of ?_
  simp only [run_Z6,Z6.ev]
  by_cases h1 : k' = k
  · refine ev_t (by simp [h1]) ?_
    simp only [Z6.j0_eq _ mk_ok]
    by_cases h2 : i' = i
    · rw [if_pos ⟨h1,h2⟩]
      exact ev_t (by simp [h2]) ev_rfl
    · rw [if_neg fun h => h2 h.2]
      exact ev_f (by simp; omega) (ev_call hd ev_rfl)
  · rw [if_neg fun h => h1 h.1]
    refine ev_f (by simp; omega) ?_
    simp only [Z6.j0_eq _ mk_ok]
    exact ev_f rfl (ev_call hd ev_rfl)

theorem vs_len {x : Shf} (h : VS x.1 x.2.1 x.2.2.1 x.2.2.2.1) : x.2.2.2.1.length = (arrs x.1 x.1.length).length := h.2.2.2.1.symm

theorem vs_cells {c : List Sim} {p : Int} {st : Sim} {ms : List Mat} (h : VS c p st ms) {t : Nat} (ht : t < ms.length) : (ms[t]).2.2.2.1.length ≤ 1048576 ∧ VM ms[t] := by
  have hl := h.2.2.2.1
  obtain ⟨k,i,hk,hi,e⟩ := arrs_ex (c := c) (n := c.length) (t := t) (by unfold plc at hl; omega)
  have hb := h.2.2.2.2 k hk i hi
  unfold QB at hb
  rw [← e,getD_lt ht] at hb
  have hv : VM ms[t] := hb.1
  obtain ⟨h1,h2,h3,h4,h5⟩ := hv
  have := mul_side h2 h3
  exact ⟨by omega,hb.1⟩

theorem sheafOfSet_ret (x : Shf) (k i : Nat) (m : Mat) (hx : Sm (.st cS) x) (h : VS x.1 x.2.1 x.2.2.1 x.2.2.2.1) (hk : k < x.1.length) (hi : i < (fIdx x.1 k).length) (hm : VM m) :
    Ret E n_Z35 [dLL x.1,dI x.2.1,dL x.2.2.1,⟨.fn n_Z6 (.cons (.ptr (.cons (.int .i64) .nil)) (.cons (.ptr (.cons (.int .i64) .nil)) (.cons (.ptr cM) (.cons (.ptr cS) .nil)))),(((k : Int),()),((i : Int),()),m,x,())⟩]
      ⟨o_Z35,(x.1,x.2.1,x.2.2.1,x.2.2.2.1.set (plc x.1 k + i) m,())⟩ := by
  have hv := h.1
  have hs := hv.srt
  have h192 := arrs_len hv
  have h48 := hv.1
  have hml := vs_len h
  have hmc : m.2.2.2.1.length ≤ 1048576 := by
    obtain ⟨h1,h2,h3,h4,h5⟩ := hm
    have := mul_side h2 h3
    omega
  have hel : ∀ t (ht : t < (arrs x.1 x.1.length).length) (ht2 : t < (x.2.2.2.1.set (plc x.1 k + i) m).length),Ret E n_Z6 [dI (arrs x.1 x.1.length)[t].1,dI (arrs x.1 x.1.length)[t].2.1,dI (arrs x.1 x.1.length)[t].2.2.1,⟨.ptr (.cons (.int .i64) .nil),((k : Int),())⟩,⟨.ptr (.cons (.int .i64) .nil),((i : Int),())⟩,dM m,dS x] ⟨o_Z6,(x.2.2.2.1.set (plc x.1 k + i) m)[t]⟩ ∧ ((x.2.2.2.1.set (plc x.1 k + i) m)[t]).2.2.2.1.length ≤ 1048576 := fun t ht ht2 => by
    obtain ⟨k',i',f,h1,h2,h3,e⟩ := arrs_at hs hv ht
    have hg := arrs_get h1 h2
    have htp : t = plc x.1 k' + i' := by
      obtain ⟨a,b,ha,hb,hab⟩ := arrs_ex ht
      have hga := arrs_get ha hb
      rw [← hab,List.getElem?_eq_getElem ht,e] at hga
      have h4 := Option.some.inj hga
      have e1 : (k' : Int) = (a : Int) := congrArg (fun a : Arw => a.1) h4
      have e2 : (i' : Int) = (b : Int) := congrArg (fun a : Arw => a.2.1) h4
      rw [hab,show k' = a by omega,show i' = b by omega]
    have hr := setRestriction_1_ret x k i k' i' f m h h1 h2
    have hval : (if k' = k ∧ i' = i then m else mp x.1 x.2.2.2.1 k' i') = (x.2.2.2.1.set (plc x.1 k + i) m)[t] := by
      rw [List.getElem_set]
      by_cases hki : k' = k ∧ i' = i
      · rw [if_pos hki,if_pos (by rw [htp,hki.1,hki.2])]
      · rw [if_neg hki,if_neg fun e2 => hki (by
          obtain ⟨e3,e4⟩ := plc_inj hk hi h1 h2 (e2.trans htp)
          exact ⟨e3.symm,e4.symm⟩)]
        unfold mp
        rw [← htp,getD_lt (by omega)]
    rw [hval] at hr
    rw [e]
    refine ⟨hr,?_⟩
    rw [List.getElem_set]
    split
    · exact hmc
    · exact (vs_cells h (by omega)).1
  have hol : x.2.2.1.length ≤ 1048576 := hx.2.2.1.1
  refine ret_of ?_
  simp only [run_Z35,Z36.ev]
  refine ev_call (inOrder_ret x.1 hx.1 hs) (ev_call (Clone_ret x.2.2.1 hol) (ev_call (arrows_ret x.1 hx.1 hv) ?_))
  generalize hM : x.2.2.2.1.set (plc x.1 k + i) m = M at hel ⊢
  have hMl : M.length = (arrs x.1 x.1.length).length := by rw [← hM,List.length_set]; exact hml
  refine Ev.start (p := fun φ n => Z36.l0 (mkR (run E (φ 0))) (φ 0) n (((k : Int),()),((i : Int),()),m,x,()) (arrs x.1 x.1.length) ((arrs x.1 x.1.length).length : Int) 0 0 x.2.1 [] x.1 x.2.2.1 = _) 1 ?_ (fun _ _ _ h => h)
  refine fold_loop 1 (L := fun φ n t o => Z36.l0 (mkR (run E (φ 0))) (φ 0) n (((k : Int),()),((i : Int),()),m,x,()) (arrs x.1 x.1.length) ((arrs x.1 x.1.length).length : Int) t 0 x.2.1 o x.1 x.2.2.1) (len := (arrs x.1 x.1.length).length) (fun t => M.take t) (fun _ _ _ _ _ => rfl) (fun t r ht ih => ?_) ?_
  · simp only [Z36.l0_succ _ mk_ok]
    have ht2 : t < M.length := by omega
    rw [List.take_succ_eq_append_getElem ht2] at ih
    obtain ⟨e1,e2⟩ := hel t ht ht2
    refine ev_t (decide_eq_true (by omega)) (ev_bind (idx_lt ht) (ev_call e1 (ev_call (copyMatrix_ret _ e2) (ev_chk (by simp only [List.length_take,List.length_singleton,decide_eq_true_eq]; omega) ?_))))
    rw [w64_succ (by omega)]; exact ih
  · simp only [Z36.l0_succ _ mk_ok]
    refine ev_f (decide_eq_false (by omega)) (ev_some ?_)
    rw [List.take_of_length_le (by omega)]

end VeT

open Go Go.Proofs Ve
set_option linter.unusedVariables false
set_option linter.unusedSimpArgs false
namespace VeT

theorem zOf_eq {x : Shf} (h : VS x.1 x.2.1 x.2.2.1 x.2.2.2.1) {t : Nat} (ht : t < x.2.2.2.1.length) (hz : t < ((arrs x.1 x.1.length).map (zOf x.2.1 x.2.2.1)).length) :
    ((((arrs x.1 x.1.length).map (zOf x.2.1 x.2.2.1))[t]).1,(((arrs x.1 x.1.length).map (zOf x.2.1 x.2.2.1))[t]).2.1,(((arrs x.1 x.1.length).map (zOf x.2.1 x.2.2.1))[t]).2.2.1,(x.2.2.2.1[t]).2.2.2.1,()) = x.2.2.2.1[t] := by
  have hl := h.2.2.2.1
  obtain ⟨k,i,hk,hi,e⟩ := arrs_ex (c := x.1) (n := x.1.length) (t := t) (by unfold plc at hl; omega)
  have hb := h.2.2.2.2 k hk i hi
  unfold QB at hb
  rw [← e,getD_lt ht] at hb
  obtain ⟨_,b1,b2,b3⟩ := hb
  have hg := arrs_get hk hi
  rw [← e] at hg
  have hta : t < (arrs x.1 x.1.length).length := by rw [List.length_map] at hz; exact hz
  rw [List.getElem?_eq_getElem hta] at hg
  rw [List.getElem_map,Option.some.inj hg]
  unfold zOf
  simp only [Int.toNat_natCast]
  rw [← b1,← b2,← b3]

theorem l09Own_ret (x : Shf) (hx : Sm (.st cS) x) (h : VS x.1 x.2.1 x.2.2.1 x.2.2.2.1) : Ret E n_Z116 [dS x] ⟨o_Z116,(x.1,x.2.1,x.2.2.1,x.2.2.2.1,())⟩ := by
  have hnew := l09New_ret x.1 x.2.1 x.2.2.1 hx.1 h.1 h.2.2.1.1 h.2.2.1.2.1
  have hml := vs_len h
  have h192 := arrs_len h.1
  refine ret_of ?_
  simp only [run_Z116,Z116.ev]
  obtain ⟨Z,hZ⟩ : ∃ Z,Z = (arrs x.1 x.1.length).map (zOf x.2.1 x.2.2.1) := ⟨_,rfl⟩
  have hzo : ∀ t (ht : t < x.2.2.2.1.length) (hz : t < Z.length),((Z[t]).1,(Z[t]).2.1,(Z[t]).2.2.1,(x.2.2.2.1[t]).2.2.2.1,()) = x.2.2.2.1[t] := by
    subst hZ; exact fun t ht hz => zOf_eq h ht hz
  rw [← hZ] at hnew
  have hZl : Z.length = x.2.2.2.1.length := by rw [hZ,List.length_map]; exact hml.symm
  suffices hmain : Ev fun φ => Z116.j0 (mkR (run E (φ 0))) (φ 0) x 0 x.2.1 Z x.1 x.2.2.1 = some ⟨o_Z116,(x.1,x.2.1,x.2.2.1,x.2.2.2.1,())⟩ by
    exact ev_both (ev_call hnew hmain) (ev_call hnew hmain)
  simp only [Z116.j0_eq _ mk_ok]
  refine Ev.start (p := fun φ n => Z116.l1 (mkR (run E (φ 0))) (φ 0) n x 0 0 x.2.1 Z x.1 x.2.2.1 = _) 1 ?_ (fun _ _ _ h => h)
  have := fold_loop 1 (L := fun φ n t o => Z116.l1 (mkR (run E (φ 0))) (φ 0) n x t 0 x.2.1 o x.1 x.2.2.1) (len := x.2.2.2.1.length) (fun t => x.2.2.2.1.take t ++ Z.drop t) (r := some ⟨o_Z116,(x.1,x.2.1,x.2.2.1,x.2.2.2.1,())⟩) (fun _ _ _ _ _ => rfl) (fun t r ht ih => ?_) ?_
  · simpa using this
  · simp only [Z116.l1_succ _ mk_ok]
    have htz : t < Z.length := by omega
    have hlen : (x.2.2.2.1.take t ++ Z.drop t).length = x.2.2.2.1.length := by simp; omega
    have hget : (x.2.2.2.1.take t ++ Z.drop t)[t]? = some Z[t] := by
      rw [List.getElem?_append_right (by simp; omega),List.length_take,Nat.min_eq_left (by omega),Nat.sub_self,List.drop_eq_getElem_cons htz]; rfl
    have hset : (x.2.2.2.1.take t ++ Z.drop t).set t x.2.2.2.1[t] = x.2.2.2.1.take (t + 1) ++ Z.drop (t + 1) := by
      rw [List.set_append_right _ _ (by simp; omega),List.length_take,Nat.min_eq_left (by omega),Nat.sub_self,List.drop_eq_getElem_cons htz,List.set_cons_zero,List.take_succ_eq_append_getElem ht,List.append_assoc,List.singleton_append]
    have hc := (vs_cells h ht).1
    refine ev_t (decide_eq_true (by omega)) (ev_bind (idx_lt ht) (ev_call (l00Own_ret _ hc) (ev_chk (by rw [hlen]; simp only [Bool.and_eq_true,decide_eq_true_eq]; omega) ?_)))
    simp only [Int.toNat_natCast]
    refine ev_bind hget ?_
    rw [w64_succ (by omega)]
    show Ev fun φ => Z116.l1 (mkR (run E (φ 0))) (φ 0) (φ 1) x ((t + 1 : Nat) : Int) 0 x.2.1 (List.set (x.2.2.2.1.take t ++ Z.drop t) t ((Z[t]).1,(Z[t]).2.1,(Z[t]).2.2.1,(x.2.2.2.1[t]).2.2.2.1,())) x.1 x.2.2.1 = r
    rw [hzo t ht htz,hset]
    exact ih
  · simp only [Z116.l1_succ _ mk_ok]
    refine ev_f (decide_eq_false (by omega)) (ev_some ?_)
    rw [List.take_of_length_le (Nat.le_refl _),List.drop_of_length_le (by omega),List.append_nil]

/-! the values -/
open Classical in
noncomputable def SetRestrictionV (x : Shf) (k i : Int) (m : Mat) : List Sim × Int × Sim × List Mat × Int × Unit :=
  if VS x.1 x.2.1 x.2.2.1 x.2.2.2.1 ∧ VM m then
    (if (0 ≤ k ∧ k ≤ (x.1.length : Int) - 1) ∧ (0 ≤ i ∧ i ≤ ((fIdx x.1 k.toNat).length : Int) - 1) then
      (if Bt m x.2.1 (x.2.2.1.getD (fc x.1 k.toNat i.toNat) 0) (x.2.2.1.getD k.toNat 0) then (x.1,x.2.1,x.2.2.1,x.2.2.2.1.set (plc x.1 k.toNat + i.toNat) m,0,()) else nilS 6)
    else nilS 2)
  else nilS 1

theorem implSetRestriction_ret (x : Shf) (k i : Int) (m : Mat) (sx : Sm (.st cS) x) (sm : Sm (.st cM) m) :
    Ret E n_Z5 [dLL x.1,dI x.2.1,dL x.2.2.1,dMs x.2.2.2.1,dI k,dI i,dI m.1,dI m.2.1,dI m.2.2.1,dL m.2.2.2.1] ⟨o_Z5,SetRestrictionV x k i m⟩ := by
  have hl : x.1.length ≤ 1048576 := sx.1.1
  have j0 : ∀ b : Bool,b = true → ¬ (VS x.1 x.2.1 x.2.2.1 x.2.2.2.1 ∧ VM m) → Ev fun φ => Z5.j0 (mkR (run E (φ 0))) (φ 0) b x.1 x.2.1 x.2.2.1 x.2.2.2.1 k i m.1 m.2.1 m.2.2.1 m.2.2.2.1 0 = some ⟨o_Z5,SetRestrictionV x k i m⟩ := fun b hb hn => by
    unfold SetRestrictionV
    rw [if_neg hn,hb]
    simp only [Z5.j0_eq _ mk_ok]
    exact ev_t rfl ev_rfl
  have j1 : ∀ b : Bool,b = true → (VS x.1 x.2.1 x.2.2.1 x.2.2.2.1 ∧ VM m) → ¬ ((0 ≤ k ∧ k ≤ (x.1.length : Int) - 1) ∧ (0 ≤ i ∧ i ≤ ((fIdx x.1 k.toNat).length : Int) - 1)) →
      Ev fun φ => Z5.j1 (mkR (run E (φ 0))) (φ 0) b x.1 x.2.1 x.2.2.1 x.2.2.2.1 k i m.1 m.2.1 m.2.2.1 m.2.2.2.1 0 = some ⟨o_Z5,SetRestrictionV x k i m⟩ := fun b hb hv hn => by
    unfold SetRestrictionV
    rw [if_pos hv,if_neg hn,hb]
    simp only [Z5.j1_eq _ mk_ok]
    exact ev_t rfl ev_rfl
  refine ret_of ?_
  simp only [run_Z5,Z5.ev]
  refine ev_call (implValidSheaf_ret x.1 x.2.1 x.2.2.1 x.2.2.2.1 sx.1 sx.2.2.1.1 sx.2.2.2.1) ?_
  by_cases h1 : VS x.1 x.2.1 x.2.2.1 x.2.2.2.1
  · refine ev_f (by rw [pb_true h1]; rfl) (ev_call (ValidMatrix_ret m sm) ?_)
    by_cases h2 : VM m
    · simp only [Z5.j0_eq _ mk_ok]
      refine ev_f (by rw [pb_true h2]; rfl) (ev_call (isPlace_ret x.1 x.2.1 x.2.2.1 x.2.2.2.1 k hl) ?_)
      by_cases h3 : 0 ≤ k ∧ k ≤ (x.1.length : Int) - 1
      · obtain ⟨q,rfl⟩ := Int.eq_ofNat_of_zero_le h3.1
        have hq : q < x.1.length := by omega
        have hf4 := h1.1.fIdx4 hq
        refine ev_f (by rw [pb_true h3]; rfl) (ev_call (faceIndices_ret x.1 q hq sx.1 h1.1.srt) (ev_call (sizeI_ret _) ?_))
        rw [w64_small (n := ((fIdx x.1 q).length : Int) - 1) (by omega) (by omega)]
        refine ev_call (within_ret i 0 _) ?_
        by_cases h4 : 0 ≤ i ∧ i ≤ ((fIdx x.1 q).length : Int) - 1
        · obtain ⟨j,rfl⟩ := Int.eq_ofNat_of_zero_le h4.1
          have hj : j < (fIdx x.1 q).length := by omega
          obtain ⟨_,hb⟩ := h1.map hq hj
          simp only [Z5.j1_eq _ mk_ok]
          refine ev_f (by rw [pb_true h4]; rfl) (ev_call (direct_ret x.1 x.2.1 x.2.2.1 x.2.2.2.1 q j hq hj h1) (ev_call (sameShape_ret m (mp x.1 x.2.2.2.1 q j)) ?_))
          have hiff : (m.1 = (mp x.1 x.2.2.2.1 q j).1 ∧ m.2.1 = (mp x.1 x.2.2.2.1 q j).2.1 ∧ m.2.2.1 = (mp x.1 x.2.2.2.1 q j).2.2.1) ↔ Bt m x.2.1 (x.2.2.1.getD (fc x.1 q j) 0) (x.2.2.1.getD q 0) := by
            obtain ⟨_,b1,b2,b3⟩ := hb
            rw [b1,b2,b3]
            exact ⟨fun h => ⟨h2,h⟩,fun h => h.2⟩
          rw [pb_congr hiff]
          unfold SetRestrictionV
          rw [if_pos ⟨h1,h2⟩,Int.toNat_natCast,Int.toNat_natCast,if_pos ⟨h3,h4⟩]
          by_cases h5 : Bt m x.2.1 (x.2.2.1.getD (fc x.1 q j) 0) (x.2.2.1.getD q 0)
          · rw [if_pos h5]
            exact ev_f (by rw [pb_true h5]; rfl) (ev_call (sheafOfSet_ret x q j m sx h1 hq hj h2) ev_rfl)
          · rw [if_neg h5]
            exact ev_t (by rw [pb_false h5]; rfl) ev_rfl
        · exact j1 _ (by rw [pb_false h4]; rfl) ⟨h1,h2⟩ fun h => h4 h.2
      · exact ev_t (by rw [pb_false h3]; rfl) (j1 true rfl ⟨h1,h2⟩ fun h => h3 h.1)
    · exact j0 _ (by rw [pb_false h2]; rfl) fun h => h2 h.2
  · exact ev_t (by rw [pb_false h1]; rfl) (j0 true rfl fun h => h1 h.1)

end VeT

open Go Go.Proofs Ve
set_option linter.unusedVariables false
set_option linter.unusedSimpArgs false
namespace VeT

theorem specSetRestriction_ret (x : Shf) (k i : Int) (m : Mat) (sx : Sm (.st cS) x) (sm : Sm (.st cM) m) :
    Ret E n_Z93 [dLL x.1,dI x.2.1,dL x.2.2.1,dMs x.2.2.2.1,dI k,dI i,dI m.1,dI m.2.1,dI m.2.2.1,dL m.2.2.2.1] ⟨o_Z93,SetRestrictionV x k i m⟩ := by
  have hl : x.1.length ≤ 1048576 := sx.1.1
  have j0 : ∀ b : Bool,b = true → ¬ (VS x.1 x.2.1 x.2.2.1 x.2.2.2.1 ∧ VM m) → Ev fun φ => Z93.j0 (mkR (run E (φ 0))) (φ 0) k i b x.1 x.2.1 x.2.2.1 x.2.2.2.1 m.1 m.2.1 m.2.2.1 m.2.2.2.1 0 = some ⟨o_Z93,SetRestrictionV x k i m⟩ := fun b hb hn => by
    unfold SetRestrictionV
    rw [if_neg hn,hb]
    simp only [Z93.j0_eq _ mk_ok]
    exact ev_t rfl ev_rfl
  have j1 : ∀ b : Bool,b = true → (VS x.1 x.2.1 x.2.2.1 x.2.2.2.1 ∧ VM m) → ¬ ((0 ≤ k ∧ k ≤ (x.1.length : Int) - 1) ∧ (0 ≤ i ∧ i ≤ ((fIdx x.1 k.toNat).length : Int) - 1)) →
      Ev fun φ => Z93.j1 (mkR (run E (φ 0))) (φ 0) k i b x.1 x.2.1 x.2.2.1 x.2.2.2.1 m.1 m.2.1 m.2.2.1 m.2.2.2.1 0 = some ⟨o_Z93,SetRestrictionV x k i m⟩ := fun b hb hv hn => by
    unfold SetRestrictionV
    rw [if_pos hv,if_neg hn,hb]
    simp only [Z93.j1_eq _ mk_ok]
    exact ev_t rfl ev_rfl
  refine ret_of ?_
  simp only [run_Z93,Z93.ev]
  refine ev_call (l09Ok_ret x sx) ?_
  by_cases h1 : VS x.1 x.2.1 x.2.2.1 x.2.2.2.1
  · refine ev_f (by rw [pb_true h1]; rfl) (ev_call (l03Ok_ret m sm) ?_)
    by_cases h2 : VM m
    · simp only [Z93.j0_eq _ mk_ok]
      refine ev_f (by rw [pb_true h2]; rfl) (ev_call (l09Index_ret x k hl) ?_)
      by_cases h3 : 0 ≤ k ∧ k ≤ (x.1.length : Int) - 1
      · obtain ⟨q,rfl⟩ := Int.eq_ofNat_of_zero_le h3.1
        have hq : q < x.1.length := by omega
        have hf4 := h1.1.fIdx4 hq
        have hfl := fIdx_length (c := x.1) (k := q)
        have h4q := h1.1.len4 hq
        rw [getD_lt hq] at hfl h4q
        refine ev_f (by rw [pb_true h3]; rfl) (ev_bind (idx_lt hq) (ev_d (fun hlt => ?_) fun hlt => ?_))
        · refine j1 true rfl ⟨h1,h2⟩ fun h => ?_
          have := h.2
          rw [Int.toNat_natCast,hfl,if_neg (by omega)] at this
          omega
        · rw [if_pos (by omega)] at hfl
          refine ev_bind (idx_lt hq) ?_
          show Ev fun φ => Option.bind (callT (mkR (run E (φ 0))) n_Z95 o_Z95 [dI i,dI 0,dI (w64 ((x.1[q].length : Int) - 1))]) _ = _
          rw [w64_small (n := (x.1[q].length : Int) - 1) (by omega) (by omega),← hfl]
          refine ev_call (l00In_ret i 0 _) ?_
          by_cases h4 : 0 ≤ i ∧ i ≤ ((fIdx x.1 q).length : Int) - 1
          · obtain ⟨j,rfl⟩ := Int.eq_ofNat_of_zero_le h4.1
            have hj : j < (fIdx x.1 q).length := by omega
            obtain ⟨hpm,hb⟩ := h1.map hq hj
            simp only [Z93.j1_eq _ mk_ok]
            have hmap := l09Map_ret x q j m h1.1 h1.2.2.1 hq hj sx.1 sm
            refine ev_f (by rw [pb_true h4]; rfl) (ev_call hmap ?_)
            unfold SetRestrictionV
            rw [if_pos ⟨h1,h2⟩,Int.toNat_natCast,Int.toNat_natCast,if_pos ⟨h3,h4⟩]
            by_cases h5 : Bt m x.2.1 (x.2.2.1.getD (fc x.1 q j) 0) (x.2.2.1.getD q 0)
            · rw [if_pos h5]
              have hmc : m.2.2.2.1.length ≤ 1048576 := sm.2.2.2.1.1
              have hpl := l09Place_ret x.1 q j (by omega) (by omega) h1.1
              have hy : x.2.2.2.1[plc x.1 q + j]? = some (mp x.1 x.2.2.2.1 q j) := by
                unfold mp
                rw [getD_lt hpm,List.getElem?_eq_getElem hpm]
              obtain ⟨_,b1,b2,b3⟩ := hb
              obtain ⟨_,c1,c2,c3⟩ := h5
              have e : ((mp x.1 x.2.2.2.1 q j).1,(mp x.1 x.2.2.2.1 q j).2.1,(mp x.1 x.2.2.2.1 q j).2.2.1,m.2.2.2.1,()) = m := by
                rw [b1,b2,b3,← c1,← c2,← c3]
              have h5' : Bt m x.2.1 (x.2.2.1.getD (fc x.1 q j) 0) (x.2.2.1.getD q 0) := ⟨h2,c1,c2,c3⟩
              refine ev_f (by rw [show pb (Bt m x.2.1 (x.2.2.1.getD ((fIdx x.1 q).getD j 0).toNat 0) (x.2.2.1.getD q 0)) = true from pb_true h5']; rfl) (ev_call (l09Own_ret x sx h1) (ev_call hpl (ev_call (l00Own_ret _ hmc) (ev_chk (by show (decide (0 ≤ ((plc x.1 q + j : Nat) : Int)) && decide (((plc x.1 q + j : Nat) : Int) < (x.2.2.2.1.length : Int))) = true; simp only [Bool.and_eq_true,decide_eq_true_eq]; omega) ?_))))
              simp only [Int.toNat_natCast]
              refine ev_bind hy (ev_some ?_)
              simp only [e]
            · rw [if_neg h5]
              exact ev_t (by rw [show pb (Bt m x.2.1 (x.2.2.1.getD ((fIdx x.1 q).getD j 0).toNat 0) (x.2.2.1.getD q 0)) = false from pb_false h5]; rfl) ev_rfl
          · exact j1 _ (by rw [pb_false h4]; rfl) ⟨h1,h2⟩ fun h => h4 h.2
      · exact ev_t (by rw [pb_false h3]; rfl) (j1 true rfl ⟨h1,h2⟩ fun h => h3 h.1)
    · exact j0 _ (by rw [pb_false h2]; rfl) fun h => h2 h.2
  · exact ev_t (by rw [pb_false h1]; rfl) (j0 true rfl fun h => h1 h.1)

theorem SetRestrictionV_sm (x : Shf) (k i : Int) (m : Mat) (sx : Sm (.st cS) x) (sm : Sm (.st cM) m) : Sm (.st cS) ((SetRestrictionV x k i m).1,(SetRestrictionV x k i m).2.1,(SetRestrictionV x k i m).2.2.1,(SetRestrictionV x k i m).2.2.2.1,()) := by
  unfold SetRestrictionV
  split
  · split
    · split
      · refine ⟨sx.1,trivial,sx.2.2.1,⟨by show (List.set _ _ _).length ≤ 1048576; rw [List.length_set]; exact sx.2.2.2.1.1,fun y hy => ?_⟩,trivial⟩
        rcases List.mem_or_eq_of_mem_set hy with hy | rfl
        · exact sx.2.2.2.1.2 y hy
        · exact sm
      · exact sm_nilS
    · exact sm_nilS
  · exact sm_nilS

end VeT

open Go Go.Proofs Ve
set_option linter.unusedVariables false
set_option linter.unusedSimpArgs false
namespace VeT

theorem law_SetRestriction (x0 : Shf) (x1 : Int) (x2 : Int) (x3 : Mat) (w0 : Wf (.st cS) x0) (w3 : Wf (.st cM) x3) : Ret E n_Z42 [dLL x0.1,dI x0.2.1,dL x0.2.2.1,dMs x0.2.2.2.1,dI x1,dI x2,dI x3.1,dI x3.2.1,dI x3.2.2.1,dL x3.2.2.2.1] ⟨.cons .bool .nil,(true,())⟩ := by
  refine ret_of ?_
  simp only [run_Z42,Z42.ev]
  obtain ⟨r0,hs0,s0⟩ := szSheaf_ret x0 1048576 w0 (by omega) (by omega)
  refine ev_call hs0 (ev_d (fun _ => ev_rfl) fun n0 => ?_)
  have n0 := Int.not_lt.1 n0
  obtain ⟨b0,m0⟩ := s0 n0
  obtain ⟨r3,hs3,s3⟩ := szMatrix_ret x3 r0 w3 (by omega) (by omega)
  refine ev_call hs3 (ev_d (fun _ => ev_rfl) fun n3 => ?_)
  have n3 := Int.not_lt.1 n3
  obtain ⟨b3,m3⟩ := s3 n3
  have hi := implSetRestriction_ret x0 x1 x2 x3 m0 m3
  have hsp := specSetRestriction_ret x0 x1 x2 x3 m0 m3
  have hsm := SetRestrictionV_sm x0 x1 x2 x3 m0 m3
  generalize SetRestrictionV x0 x1 x2 x3 = V at hi hsp hsm
  obtain ⟨v0_0,v0_1,v0_2,v0_3,v1,⟨⟩⟩ := V
  have z0 : Sm (.st cS) (v0_0,v0_1,v0_2,v0_3,()) := hsm
  obtain ⟨qr0,hqr0,eqr0⟩ := eqSheaf_ret (v0_0,v0_1,v0_2,v0_3,()) (v0_0,v0_1,v0_2,v0_3,()) z0
  obtain rfl : qr0 = true := eqr0.2 rfl
  have to0 := toSheaf_ret x0 m0
  obtain ⟨q0,hq0,eq0⟩ := eqSheaf_ret x0 x0 m0
  obtain rfl : q0 = true := eq0.2 rfl
  have to3 := toMatrix_ret x3 m3
  obtain ⟨q3,hq3,eq3⟩ := eqMatrix_ret x3 x3 m3
  obtain rfl : q3 = true := eq3.2 rfl
  obtain ⟨ma0,mb0,mc0,hm0,hmb0⟩ := markSheaf_ret x0 m0
  have hm3 := markMatrix_ret x3 (mkSN x0 1) (by omega) m3.2.2.2.1.1
  have hml3 : x3.2.2.2.1.length ≤ 1048576 := m3.2.2.2.1.1
  have hk : ¬ (mkSN x0 1 + (x3.2.2.2.1.length : Int) < 0) := by omega
  have mr0 := markSheafR_ret (v0_0,v0_1,v0_2,v0_3,()) z0
  have hl0 := heldSheaf_ret (v0_0,v0_1,v0_2,v0_3,()) z0
  have hb0 := mkSN_ge (v0_0,v0_1,v0_2,v0_3,()) z0
  have he0 : ¬ (mkSN (v0_0,v0_1,v0_2,v0_3,()) 1 < 0) := by omega
  repeat (first | with_reducible exact ev_rfl | with_reducible refine ev_call hqr0 ?_ | with_reducible refine ev_call to0 ?_ | with_reducible refine ev_call hq0 ?_ | with_reducible refine ev_call to3 ?_ | with_reducible refine ev_call hq3 ?_ | with_reducible refine ev_call hi ?_ | with_reducible refine ev_call hsp ?_ | with_reducible refine ev_call hm0 ?_ | with_reducible refine ev_call hm3 ?_ | with_reducible refine ev_call mr0 ?_ | with_reducible refine ev_call hl0 ?_ | with_reducible refine ev_both ?_ ?_ | with_reducible refine ev_f (by first | rfl | exact bne_self_eq_false _ | exact decide_eq_false hk | exact decide_eq_false he0 | (simp; done)) ?_ | simp only [bne_self_eq_false,Z42.j0_eq _ mk_ok,Z42.j1_eq _ mk_ok,Z42.j2_eq _ mk_ok,Z42.j3_eq _ mk_ok,Z42.j4_eq _ mk_ok,cond_false])

theorem rowSetRestriction (z : ((.cons (.sl (.sl (.int .i64))) (.cons (.int .i64) (.cons (.sl (.int .i64)) (.cons (.sl (.st cM)) (.cons (.int .i64) (.cons (.int .i64) (.cons (.int .i64) (.cons (.int .i64) (.cons (.int .i64) (.cons (.sl (.int .i64)) .nil)))))))))) : Ty).T)
    (h : Wf (.cons (.sl (.sl (.int .i64))) (.cons (.int .i64) (.cons (.sl (.int .i64)) (.cons (.sl (.st cM)) (.cons (.int .i64) (.cons (.int .i64) (.cons (.int .i64) (.cons (.int .i64) (.cons (.int .i64) (.cons (.sl (.int .i64)) .nil)))))))))) z) :
    Evt fun n => run E n n_Z42 (unpack _ z) = some ⟨.cons .bool .nil,(true,())⟩ :=
  law_SetRestriction (z.1,z.2.1,z.2.2.1,z.2.2.2.1,()) z.2.2.2.2.1 z.2.2.2.2.2.1 (z.2.2.2.2.2.2.1,z.2.2.2.2.2.2.2.1,z.2.2.2.2.2.2.2.2.1,z.2.2.2.2.2.2.2.2.2.1,()) ⟨h.1,h.2.1,h.2.2.1,h.2.2.2.1,trivial⟩ ⟨h.2.2.2.2.2.2.1,h.2.2.2.2.2.2.2.1,h.2.2.2.2.2.2.2.2.1,h.2.2.2.2.2.2.2.2.2.1,trivial⟩


end VeT
