import Derived.Test.YtcedcmppgagkaaaT3
import Derived.Test.YtcedcmppgagkaaaV2
set_option linter.unusedVariables false
set_option linter.unusedSimpArgs false
open Go Go.Proofs Ve
set_option linter.unusedVariables false
set_option linter.unusedSimpArgs false
namespace VeT

theorem Index_ret (s : Sim) (v : Int) (hs : s.length ≤ 1048576) : Ret E n_Z60 [dL s,dI v] ⟨o_Z60,(idxf (fun x => pb (x = v)) s,())⟩ := by
  obtain ⟨o,h1,h2,h3⟩ := find_loop 1 (L := fun φ n k => Z60.l0 (mkR (run E (φ 0))) (φ 0) n s v (s.length : Int) k) (len := s.length) (fun k => ∃ h : k < s.length,pb (s[k] = v) = true) (fun o => some ⟨o_Z60,(o2i o,())⟩) (fun _ _ _ _ => rfl) (fun k hk hP => by
      obtain ⟨_,hP⟩ := hP
      have hP := pb_iff.1 hP
      simp only [Z60.l0_succ _ mk_ok]
      exact ev_t (decide_eq_true (by omega)) (ev_bind (idx_lt hk) (ev_t (by simp [hP]) ev_rfl))) (fun k q hk hP ih => by
      simp only [Z60.l0_succ _ mk_ok]
      refine ev_t (decide_eq_true (by omega)) (ev_bind (idx_lt hk) (ev_f (by simp only [beq_eq_false_iff_ne]; exact fun e => hP ⟨hk,pb_true e.symm⟩) ?_))
      rw [w64_succ (by omega)]; exact ih) (by
      simp only [Z60.l0_succ _ mk_ok]
      exact ev_f (decide_eq_false (by omega)) ev_rfl)
  rw [idxf_of (p := fun x => pb (x = v)) h1 h2] at h3
  refine ret_of ?_
  simp only [run_Z60,Z60.ev]
  exact Ev.start (p := fun φ n => Z60.l0 (mkR (run E (φ 0))) (φ 0) n s v (s.length : Int) 0 = _) 1 h3 (fun _ _ _ h => h)

theorem Contains_ret (s : Sim) (v : Int) (hs : s.length ≤ 1048576) : Ret E n_Z52 [dL s,dI v] ⟨o_Z52,(pb (v ∈ s),())⟩ := by
  refine ret_of ?_
  simp only [run_Z52,Z52.ev]
  refine ev_call (Index_ret s v hs) (ev_some ?_)
  have : decide (idxf (fun x => pb (x = v)) s ≥ 0) = pb (v ∈ s) := eq_pb (by
    rw [decide_eq_true_iff,ge_iff_le,idxf_nonneg]
    exact ⟨fun ⟨x,h,e⟩ => pb_iff.1 e ▸ h,fun h => ⟨v,h,pb_true rfl⟩⟩)
  simp only [this]

theorem l00Has_ret (s : Sim) (v : Int) (hs : s.length ≤ 1048576) : Ret E n_Z63 [dL s,dI v] ⟨o_Z63,(pb (v ∈ s),())⟩ := by
  obtain ⟨o,h1,h2,h3⟩ := find_loop 1 (L := fun φ n k => Z63.l0 (mkR (run E (φ 0))) (φ 0) n s v k) (len := s.length) (fun k => ∃ h : k < s.length,s[k] = v) (fun o => some ⟨o_Z63,(o.isSome,())⟩) (fun _ _ _ _ => rfl) (fun k hk hP => by
      obtain ⟨_,hP⟩ := hP
      simp only [Z63.l0_succ _ mk_ok]
      exact ev_t (decide_eq_true (by omega)) (ev_bind (idx_lt hk) (ev_t (by simp [hP]) ev_rfl))) (fun k q hk hP ih => by
      simp only [Z63.l0_succ _ mk_ok]
      refine ev_t (decide_eq_true (by omega)) (ev_bind (idx_lt hk) (ev_f (by simp only [beq_eq_false_iff_ne]; exact fun e => hP ⟨hk,e⟩) ?_))
      rw [w64_succ (by omega)]; exact ih) (by
      simp only [Z63.l0_succ _ mk_ok]
      exact ev_f (decide_eq_false (by omega)) ev_rfl)
  have : o.isSome = pb (v ∈ s) := eq_pb (by
    cases o with
    | none =>
      simp only [Option.isSome_none,Bool.false_eq_true,false_iff]
      intro hm
      obtain ⟨j,hj,e⟩ := List.mem_iff_getElem.1 hm
      exact h2 rfl j hj ⟨hj,e⟩
    | some k =>
      obtain ⟨_,⟨hk,e⟩,_⟩ := h1 k rfl
      simp only [Option.isSome_some,true_iff]
      exact e ▸ List.getElem_mem hk)
  rw [this] at h3
  refine ret_of ?_
  simp only [run_Z63,Z63.ev]
  exact Ev.start (p := fun φ n => Z63.l0 (mkR (run E (φ 0))) (φ 0) n s v 0 = _) 1 h3 (fun _ _ _ h => h)

/-- a part of a simplex -/
def Part (a b : Sim) : Prop := ∀ x ∈ a,x ∈ b

theorem isFace_1_ret (x : Int) (b : Sim) (hb : b.length ≤ 1048576) : Ret E n_Z19 [dI x,⟨.ptr (.cons (.sl (.int .i64)) .nil),(b,())⟩] ⟨o_Z19,(!pb (x ∈ b),())⟩ := by
  refine ret_of ?_
  simp only [run_Z19,Z19.ev]
  exact ev_call (Contains_ret b x hb) ev_rfl

theorem isFace_ret (a b : Sim) (ha : a.length ≤ 1048576) (hb : b.length ≤ 1048576) : Ret E n_Z18 [dL a,dL b] ⟨o_Z18,(pb (Part a b),())⟩ := by
  refine ret_of ?_
  simp only [run_Z18,Z18.ev]
  refine ev_call (ContainsFunc_Sint64_int64_impl_isFace_1_ret a ((b,()),()) _ ha fun x _ => isFace_1_ret x b hb) (ev_some ?_)
  simp only [none_bad]; rfl

theorem l05Part_ret (a b : Sim) (ha : a.length ≤ 1048576) (hb : b.length ≤ 1048576) : Ret E n_Z73 [dL a,dL b] ⟨o_Z73,(pb (Part a b),())⟩ := by
  refine ret_of ?_
  simp only [run_Z73,Z73.ev]
  refine Ev.start (p := fun φ n => Z73.l0 (mkR (run E (φ 0))) (φ 0) n a b 0 = _) 1 ?_ (fun _ _ _ h => h)
  refine (all_pb 1 (L := fun φ n k => Z73.l0 (mkR (run E (φ 0))) (φ 0) n a b k) (len := a.length) 0 (by omega) (fun j => a.getD j 0 ∈ b) (fun b => some ⟨o_Z73,(b,())⟩) (fun _ _ _ _ => rfl) (fun k h1 h2 hP _ => ?_) (fun k r h1 h2 hP _ ih => ?_) (fun _ => ?_)).to ?_
  · simp only [Z73.l0_succ _ mk_ok]
    rw [getD_lt h2] at hP
    exact ev_t (decide_eq_true (by omega)) (ev_bind (idx_lt h2) (ev_call (l00Has_ret b _ hb) (ev_t (by rw [pb_false hP]; rfl) ev_rfl)))
  · simp only [Z73.l0_succ _ mk_ok]
    rw [getD_lt h2] at hP
    refine ev_t (decide_eq_true (by omega)) (ev_bind (idx_lt h2) (ev_call (l00Has_ret b _ hb) (ev_f (by rw [pb_true hP]; rfl) ?_)))
    rw [w64_succ (by omega)]; exact ih
  · simp only [Z73.l0_succ _ mk_ok]
    exact ev_f (decide_eq_false (by omega)) ev_rfl
  · refine congrArg (fun b : Bool => some (⟨o_Z73,(b,())⟩ : Dv)) (pb_congr ⟨fun h x hx => ?_,fun h j _ hj => by rw [getD_lt hj]; exact h _ (List.getElem_mem hj)⟩)
    obtain ⟨j,hj,rfl⟩ := List.mem_iff_getElem.1 hx
    have := h j (by omega) hj
    rwa [getD_lt hj] at this

open Classical in
/-- the star's indices below k -/
noncomputable def star (c : List Sim) (s : Sim) : Nat → List Int
  | 0 => []
  | k + 1 => star c s k ++ if Part s (c.getD k []) then [(k : Int)] else []

theorem star_length {c : List Sim} {s : Sim} : ∀ {k : Nat},(star c s k).length ≤ k
  | 0 => by simp [star]
  | k + 1 => by
    have := star_length (c := c) (s := s) (k := k)
    rw [star,List.length_append]; split <;> simp <;> omega

theorem starOf_ret (c : List Sim) (k : Nat) (hk : k < c.length) (hc : Sm (.sl (.sl (.int .i64))) c) : Ret E n_Z23 [dLL c,dI (k : Int)] ⟨o_Z23,(star c c[k] c.length,())⟩ := by
  have hc1 : c.length ≤ 1048576 := hc.1
  refine ret_of ?_
  simp only [run_Z23,Z23.ev]
  refine Ev.start (p := fun φ n => Z23.l0 (mkR (run E (φ 0))) (φ 0) n (k : Int) c (c.length : Int) 0 c [] = _) 1 ?_ (fun _ _ _ h => h)
  refine fold_loop 1 (L := fun φ n j a => Z23.l0 (mkR (run E (φ 0))) (φ 0) n (k : Int) c (c.length : Int) j c a) (len := c.length) (fun j => star c c[k] j) (fun _ _ _ _ _ => rfl) (fun j r hj ih => ?_) ?_
  · simp only [Z23.l0_succ _ mk_ok]
    have hl := star_length (c := c) (s := c[k]) (k := j)
    rw [star,getD_lt hj] at ih
    rw [w64_succ (by omega)]
    refine ev_t (decide_eq_true (by omega)) (ev_bind (idx_lt hj) (ev_bind (idx_lt hk) (ev_call (isFace_ret _ _ (sm_get hc hk).1 (sm_get hc hj).1) (ev_b (fun h => ev_chk (decide_eq_true (by simp only [List.length_cons,List.length_nil]; omega)) ?_) fun h => ?_))))
    · rw [if_pos (pb_iff.1 h)] at ih; exact ih
    · rw [if_neg (pb_not.1 h),List.append_nil] at ih; exact ih
  · simp only [Z23.l0_succ _ mk_ok]
    exact ev_f (decide_eq_false (by omega)) ev_rfl

theorem l05Star_ret (c : Cpx) (s : Sim) (hs : s.length ≤ 1048576) (hc : Sm (.sl (.sl (.int .i64))) c.1) : Ret E n_Z75 [dC c,dL s] ⟨o_Z75,(star c.1 s c.1.length,())⟩ := by
  have hc1 : c.1.length ≤ 1048576 := hc.1
  refine ret_of ?_
  simp only [run_Z75,Z75.ev]
  refine Ev.start (p := fun φ n => Z75.l0 (mkR (run E (φ 0))) (φ 0) n c s 0 [] = _) 1 ?_ (fun _ _ _ h => h)
  refine fold_loop 1 (L := fun φ n j a => Z75.l0 (mkR (run E (φ 0))) (φ 0) n c s j a) (len := c.1.length) (fun j => star c.1 s j) (fun _ _ _ _ _ => rfl) (fun j r hj ih => ?_) ?_
  · simp only [Z75.l0_succ _ mk_ok]
    have hl := star_length (c := c.1) (s := s) (k := j)
    rw [star,getD_lt hj] at ih
    rw [w64_succ (by omega)]
    refine ev_t (decide_eq_true (by omega)) (ev_bind (idx_lt hj) (ev_call (l05Part_ret _ _ hs (sm_get hc hj).1) (ev_b (fun h => ev_chk (decide_eq_true (by simp only [List.length_cons,List.length_nil]; omega)) ?_) fun h => ?_)))
    · rw [if_pos (pb_iff.1 h)] at ih; exact ih
    · rw [if_neg (pb_not.1 h),List.append_nil] at ih; exact ih
  · simp only [Z75.l0_succ _ mk_ok]
    exact ev_f (decide_eq_false (by omega)) ev_rfl

/-- the free pairs below k -/
noncomputable def frees (c : List Sim) : Nat → List Sim
  | 0 => []
  | k + 1 => frees c k ++ if (star c (c.getD k []) c.length).length = 2 then [[(k : Int),(star c (c.getD k []) c.length).getD 1 0]] else []

theorem frees_length {c : List Sim} : ∀ {k : Nat},(frees c k).length ≤ k
  | 0 => by simp [frees]
  | k + 1 => by
    have := frees_length (c := c) (k := k)
    rw [frees,List.length_append]; split <;> simp <;> omega

theorem freePairs_ret (c : List Sim) (hc : Sm (.sl (.sl (.int .i64))) c) : Ret E n_Z14 [dLL c] ⟨o_Z14,(frees c c.length,())⟩ := by
  have hc1 : c.length ≤ 1048576 := hc.1
  refine ret_of ?_
  simp only [run_Z14,Z14.ev]
  refine ev_call (sizeL_ret _) ?_
  refine Ev.start (p := fun φ n => Z14.l0 (mkR (run E (φ 0))) (φ 0) n (c.length : Int) 0 c [] = _) 1 ?_ (fun _ _ _ h => h)
  refine fold_loop 1 (L := fun φ n j a => Z14.l0 (mkR (run E (φ 0))) (φ 0) n (c.length : Int) j c a) (len := c.length) (fun j => frees c j) (fun _ _ _ _ _ => rfl) (fun j r hj ih => ?_) ?_
  · simp only [Z14.l0_succ _ mk_ok]
    have hl := frees_length (c := c) (k := j)
    rw [frees,getD_lt hj] at ih
    rw [w64_succ (by omega)]
    refine ev_t (decide_eq_true (by omega)) (ev_call (starOf_ret c j hj hc) (ev_b (fun h => ?_) fun h => ?_))
    · have h : (star c c[j] c.length).length = 2 := by have : ((star c c[j] c.length).length : Int) = 2 := by simpa using h
                                                       omega
      have h1 : 1 < (star c c[j] c.length).length := by omega
      rw [if_pos h,getD_lt h1] at ih
      exact ev_bind (idx_lt (k := 1) h1) (ev_chk (decide_eq_true (by simp only [List.length_cons,List.length_nil]; omega)) ih)
    · rw [if_neg (fun e => by simp [e] at h),List.append_nil] at ih; exact ih
  · simp only [Z14.l0_succ _ mk_ok]
    exact ev_f (decide_eq_false (by omega)) ev_rfl

end VeT

open Go Go.Proofs Ve
set_option linter.unusedVariables false
set_option linter.unusedSimpArgs false
namespace VeT

end VeT

open Go Go.Proofs Ve
set_option linter.unusedVariables false
set_option linter.unusedSimpArgs false
namespace VeT

end VeT

open Go Go.Proofs Ve
set_option linter.unusedVariables false
set_option linter.unusedSimpArgs false
namespace VeT

end VeT

open Go Go.Proofs Ve
set_option linter.unusedVariables false
set_option linter.unusedSimpArgs false
namespace VeT

end VeT

open Go Go.Proofs Ve
set_option linter.unusedVariables false
set_option linter.unusedSimpArgs false
namespace VeT

end VeT

open Go Go.Proofs Ve
set_option linter.unusedVariables false
set_option linter.unusedSimpArgs false
namespace VeT

/-! slices.SortFunc,slices.CompactFunc -/
theorem lexc_lexN : ∀ {a b : Sim},lexc a b = lexN a b
  | [],[] => rfl
  | [],_ :: _ => rfl
  | _ :: _,[] => rfl
  | x :: xs,y :: ys => by rw [lexc,lexN,lexc_lexN]

theorem cmpS_cmpX {a b : Sim} : cmpS a b = cmpX a b := by
  unfold cmpS cmpX
  rw [lexc_lexN]; rfl

theorem run_SortFunc (n : Nat) (args : List Dv) : run E (n + 1) n_Z61 args = pSortF n_Z11 (mkR (run E n)) args := rfl

theorem pSortF_val {m : Nat} {R : Run} {xs : List Sim} (h : xs.length ≤ 1048576 ∧ (⟨.fn m .nil,()⟩ : Dv) = ⟨.fn m .nil,()⟩ ∧ ∀ x ∈ xs,∀ y ∈ xs,R.r m [⟨tL,x⟩,⟨tL,y⟩] = some ⟨.cons tI .nil,(cmpX x y,())⟩) :
    pSortF m R [⟨tLL,xs⟩,⟨.fn m .nil,()⟩] = some ⟨.cons tLL .nil,(sortF xs,())⟩ := by
  unfold pSortF
  simp only [show (⟨tLL,xs⟩ : Dv).to tLL = some xs from rfl,Option.bind_some]
  exact if_pos h

theorem pCompF_val {m : Nat} {R : Run} {xs : List Sim} (h : xs.length ≤ 1048576 ∧ (⟨.fn m .nil,()⟩ : Dv) = ⟨.fn m .nil,()⟩ ∧ ∀ (i : Nat) (h : i + 1 < xs.length),R.r m [⟨tL,xs[i + 1]⟩,⟨tL,xs[i]⟩] = some ⟨.cons .bool .nil,(false,())⟩) :
    pCompF m R [⟨tLL,xs⟩,⟨.fn m .nil,()⟩] = some ⟨.cons tLL .nil,(xs,())⟩ := by
  unfold pCompF
  simp only [show (⟨tLL,xs⟩ : Dv).to tLL = some xs from rfl,Option.bind_some]
  exact if_pos h

theorem evt_mem {α : Type} {p : α → Nat → Prop} {l : List α} (h : ∀ x ∈ l,Evt (p x)) : Evt fun n => ∀ x ∈ l,p x n := by
  induction l with
  | nil => exact Evt.of fun n x hx => by cases hx
  | cons a l ih =>
    refine ((h a List.mem_cons_self).and (ih fun x hx => h x (List.mem_cons_of_mem _ hx))).mono fun n ⟨h1,h2⟩ x hx => ?_
    rcases List.mem_cons.1 hx with rfl | hx
    · exact h1
    · exact h2 x hx

theorem SortFunc_ret (xs : List Sim) (hs : Sm (.sl (.sl (.int .i64))) xs) : Ret E n_Z61 [dLL xs,⟨.fn n_Z11 .nil,()⟩] ⟨o_Z61,(sortF xs,())⟩ := by
  have hl : xs.length ≤ 1048576 := hs.1
  have hall : Evt fun n => ∀ x ∈ xs,∀ y ∈ xs,run E n n_Z11 [dL x,dL y] = some ⟨o_Z11,(cmpX x y,())⟩ :=
    evt_mem fun x hx => evt_mem fun y hy => by
      have := compareSimplices_ret x y (hs.2 x hx)
      rw [cmpS_cmpX] at this
      exact this
  refine Evt.succ (hall.mono fun n h => ?_)
  rw [run_SortFunc]
  exact pSortF_val ⟨hl,rfl,h⟩

theorem run_CompactFunc (n : Nat) (args : List Dv) : run E (n + 1) n_Z44 args = pCompF n_Z53 (mkR (run E n)) args := rfl

theorem CompactFunc_ret (xs : List Sim) (hs : Sm (.sl (.sl (.int .i64))) xs) (hn : ∀ (i : Nat) (h : i + 1 < xs.length),xs[i + 1] ≠ xs[i]) :
    Ret E n_Z44 [dLL xs,⟨.fn n_Z53 .nil,()⟩] ⟨o_Z44,(xs,())⟩ := by
  have hl : xs.length ≤ 1048576 := hs.1
  have hall : Evt fun n => ∀ i,i < xs.length - 1 → ∀ (h : i + 1 < xs.length),run E n n_Z53 [dL xs[i + 1],dL xs[i]] = some ⟨o_Z53,(false,())⟩ :=
    Evt.lt fun i hi => by
      have h : i + 1 < xs.length := by omega
      have h2 := EqualP_ret xs[i + 1] xs[i] (sm_get hs h).1
      rw [pb_false (hn i h)] at h2
      exact Evt.mono h2 fun n h3 _ => h3
  refine Evt.succ (hall.mono fun n h => ?_)
  rw [run_CompactFunc]
  exact pCompF_val ⟨hl,rfl,fun i hi => h i (by omega) hi⟩

theorem sortF_srt {c : List Sim} (h : Srt c) : sortF c = c := by
  refine (sortF_eq (List.Perm.refl c) (List.pairwise_iff_getElem.2 fun i j hi hj hij => ?_)).symm
  have := h i j hj hij
  rw [cmpS_cmpX] at this
  exact decide_eq_true (by omega)

theorem copyLists2_ret (rows : List Sim) (hl : rows.length ≤ 1048576) (hs : ∀ x ∈ rows,x.length ≤ 1048576) : Ret E n_Z12 [dLL rows] ⟨o_Z12,(rows,())⟩ := by
  refine ret_of ?_
  simp only [run_Z12,Z12.ev]
  refine Ev.start (p := fun φ n => Z12.l0 (mkR (run E (φ 0))) (φ 0) n rows (rows.length : Int) 0 [] = _) 1 ?_ (fun _ _ _ h => h)
  refine fold_loop 1 (L := fun φ n k o => Z12.l0 (mkR (run E (φ 0))) (φ 0) n rows (rows.length : Int) k o) (len := rows.length) (fun k => rows.take k) (fun _ _ _ _ _ => rfl) (fun k r hk ih => ?_) ?_
  · simp only [Z12.l0_succ _ mk_ok]
    rw [List.take_succ_eq_append_getElem hk] at ih
    refine ev_t (decide_eq_true (by omega)) (ev_bind (idx_lt hk) (ev_call (Clone_ret _ (hs _ (List.getElem_mem hk))) (ev_chk (by simp only [List.length_take,List.length_singleton,decide_eq_true_eq]; omega) ?_)))
    rw [w64_succ (by omega)]; exact ih
  · simp only [Z12.l0_succ _ mk_ok]
    refine ev_f (decide_eq_false (by omega)) (ev_some ?_)
    rw [List.take_of_length_le (Nat.le_refl _)]

/-- a sorted list stays -/
theorem inOrder_ret (c : List Sim) (hc : Sm (.sl (.sl (.int .i64))) c) (hs : Srt c) : Ret E n_Z16 [dLL c] ⟨o_Z16,(c,())⟩ := by
  have h1 := SortFunc_ret c hc
  rw [sortF_srt hs] at h1
  refine ret_of ?_
  simp only [run_Z16,Z16.ev]
  refine ev_call (copyLists2_ret c hc.1 fun x hx => (hc.2 x hx).1) (ev_call h1 (ev_call (CompactFunc_ret c hc fun i h e => ?_) ev_rfl))
  have := hs i (i + 1) h (by omega)
  rw [e,cmpS_cmpX,cmpX_zero.2 rfl] at this
  omega

end VeT

open Go Go.Proofs Ve
set_option linter.unusedVariables false
set_option linter.unusedSimpArgs false
namespace VeT

theorem Rises.lt {s : Sim} (h : Rises s) : ∀ {i j : Nat} (hj : j < s.length) (hij : i < j),s[i] < s[j] := by
  intro i j
  induction j with
  | zero => intro _ h; omega
  | succ j ih =>
    intro hj hij
    have := h (j + 1) (by omega) hj
    rw [Nat.add_sub_cancel,getD_lt (by omega),getD_lt hj] at this
    by_cases e : i = j
    · subst e; exact this
    · exact Int.lt_trans (ih (by omega) (by omega)) this

theorem Rises.pairwise {s : Sim} (h : Rises s) : s.Pairwise (· < ·) := by
  rw [List.pairwise_iff_getElem]
  intro i j hi hj hij
  exact h.lt hj hij

end VeT

open Go Go.Proofs Ve
set_option linter.unusedVariables false
set_option linter.unusedSimpArgs false
namespace VeT

end VeT

open Go Go.Proofs Ve
set_option linter.unusedVariables false
set_option linter.unusedSimpArgs false
namespace VeT

/-! marks: what the laws write over arguments and results -/
def mkL (k : Int) (n : Nat) : Sim := (List.range n).map fun (i : Nat) => k + (i : Int)

theorem mkL_length {k : Int} {n : Nat} : (mkL k n).length = n := by simp [mkL]

theorem mkL_get {k : Int} {n i : Nat} (h : i < (mkL k n).length) : (mkL k n)[i] = k + i := by simp [mkL]

theorem markInt64S_ret (s : Sim) (k : Int) (hk : 0 ≤ k ∧ k ≤ 4611686018427387904) (hs : s.length ≤ 1048576) : Ret E n_Z33 [dL s,dI k] ⟨o_Z33,(k + s.length,mkL k s.length,())⟩ := by
  refine ret_of ?_
  simp only [run_Z33,Z33.ev]
  refine Ev.start (p := fun φ n => Z33.l0 (mkR (run E (φ 0))) (φ 0) n k 0 s = _) 1 ?_ (fun _ _ _ h => h)
  have hl : ∀ j,j ≤ s.length → (mkL k j ++ s.drop j).length = s.length := fun j hj => by rw [List.length_append,mkL_length,List.length_drop]; omega
  have := fold_loop 1 (L := fun φ n j (a : Int × Sim) => Z33.l0 (mkR (run E (φ 0))) (φ 0) n a.1 j a.2) (len := s.length) (fun j => (k + (j : Int),mkL k j ++ s.drop j)) (r := some ⟨o_Z33,(k + s.length,mkL k s.length,())⟩) (fun _ _ _ _ _ => rfl) (fun j r hj ih => ?_) ?_
  · simpa [mkL] using this
  · simp only [Z33.l0_succ _ mk_ok,hl j (by omega)]
    refine ev_t (decide_eq_true (by omega)) (ev_chk (by simp; omega) ?_)
    rw [w64_succ (by omega),w64_small (by omega) (by omega),Int.toNat_natCast]
    have e : (mkL k j ++ s.drop j).set j (k + j) = mkL k (j + 1) ++ s.drop (j + 1) := by
      rw [List.drop_eq_getElem_cons hj,List.set_append_right _ _ (by rw [mkL_length]; omega),mkL_length,Nat.sub_self,List.set_cons_zero]
      unfold mkL
      rw [List.range_succ,List.map_append,List.append_assoc]; rfl
    rw [e,show k + (j : Int) + 1 = k + ((j + 1 : Nat) : Int) by omega]
    exact ih
  · simp only [Z33.l0_succ _ mk_ok,hl s.length (Nat.le_refl _)]
    refine ev_f (decide_eq_false (by omega)) (ev_some ?_)
    simp

theorem heldInt64S_ret (k : Int) (n : Nat) (hk : 0 ≤ k ∧ k ≤ 4611686018427387904) (hn : n ≤ 1048576) : Ret E n_Z30 [dL (mkL k n),dI k] ⟨o_Z30,(k + n,())⟩ := by
  refine ret_of ?_
  simp only [run_Z30,Z30.ev]
  refine Ev.start (p := fun φ m => Z30.l0 (mkR (run E (φ 0))) (φ 0) m (mkL k n) k 0 = _) 1 ?_ (fun _ _ _ h => h)
  have := fold_loop 1 (L := fun φ m j a => Z30.l0 (mkR (run E (φ 0))) (φ 0) m (mkL k n) a j) (len := n) (fun j => k + (j : Int)) (r := some ⟨o_Z30,(k + n,())⟩) (fun _ _ _ _ _ => rfl) (fun j r hj ih => ?_) ?_
  · simpa using this
  · simp only [Z30.l0_succ _ mk_ok,mkL_length]
    have hj' : j < (mkL k n).length := by rw [mkL_length]; exact hj
    refine ev_t (decide_eq_true (by omega)) (ev_bind (idx_lt hj') (ev_f (by simp [mkL_get hj']) ?_))
    rw [w64_succ (by omega),w64_small (by omega) (by omega),show k + (j : Int) + 1 = k + ((j + 1 : Nat) : Int) by omega]
    exact ih
  · simp only [Z30.l0_succ _ mk_ok,mkL_length]
    exact ev_f (decide_eq_false (by omega)) ev_rfl

def mkLL : List Sim → Int → List Sim
  | [],_ => []
  | x :: xs,k => mkL k x.length :: mkLL xs (k + x.length)
def mkN : List Sim → Int → Int
  | [],k => k
  | x :: xs,k => mkN xs (k + x.length)

theorem mkLL_length : ∀ {xs : List Sim} {k : Int},(mkLL xs k).length = xs.length
  | [],_ => rfl
  | x :: xs,k => by simp [mkLL,mkLL_length]

theorem mkN_ge : ∀ {xs : List Sim} {k : Int},(∀ x ∈ xs,x.length ≤ 1048576) → k ≤ mkN xs k ∧ mkN xs k ≤ k + 1048576 * xs.length
  | [],k,_ => by simp [mkN]
  | x :: xs,k,h => by
    have h1 := mkN_ge (xs := xs) (k := k + x.length) fun y hy => h y (List.mem_cons_of_mem _ hy)
    have h2 := h x List.mem_cons_self
    simp only [mkN,List.length_cons]; omega

theorem markRows_evt : ∀ (xs : List Sim) (k : Int),0 ≤ k → k + 1048576 * xs.length ≤ 4611686018427387904 → (∀ x ∈ xs,x.length ≤ 1048576) → Evt fun n => markRows n_Z33 (mkR (run E n)) xs k = some (mkN xs k,mkLL xs k)
  | [],k,_,_,_ => Evt.of fun _ => rfl
  | x :: xs,k,h0,hb,hx => by
    have h2 := hx x List.mem_cons_self
    simp only [List.length_cons] at hb
    have h3 := markRows_evt xs (k + x.length) (by omega) (by omega) fun y hy => hx y (List.mem_cons_of_mem _ hy)
    have h4 := markInt64S_ret x k (by omega) h2
    refine (h4.and h3).mono fun n ⟨a,b⟩ => ?_
    have a' : callT (mkR (run E n)) n_Z33 oM [⟨tL,x⟩,⟨tI,k⟩] = some (k + x.length,mkL k x.length,()) := callT_of a
    simp only [markRows,a',Option.bind_some,b,Option.map_some,mkN,mkLL]

theorem run_markSS (n : Nat) (args : List Dv) : run E (n + 1) n_Z34 args = pMarkSS n_Z33 (mkR (run E n)) args := rfl

theorem markInt64SS_ret (xs : List Sim) (k : Int) (hk : 0 ≤ k ∧ k ≤ 1125899906842624) (hs : Sm (.sl (.sl (.int .i64))) xs) : Ret E n_Z34 [dLL xs,dI k] ⟨o_Z34,(mkN xs k,mkLL xs k,())⟩ := by
  have hs1 : xs.length ≤ 1048576 := hs.1
  refine Evt.succ ((markRows_evt xs k hk.1 (by omega) fun x hx => (hs.2 x hx).1).mono fun n h => ?_)
  rw [run_markSS]
  show ((markRows n_Z33 (mkR (run E n)) xs k).map fun q => (⟨.cons tI (.cons (.sl tL) .nil),(q.1,q.2,())⟩ : Dv)) = _
  rw [h]; rfl

theorem heldInt64SS_ret (xs : List Sim) (k : Int) (hk : 0 ≤ k ∧ k ≤ 1125899906842624) (hs : Sm (.sl (.sl (.int .i64))) xs) : Ret E n_Z31 [dLL (mkLL xs k),dI k] ⟨o_Z31,(mkN xs k,())⟩ := by
  have hs1 : xs.length ≤ 1048576 := hs.1
  refine ret_of ?_
  simp only [run_Z31,Z31.ev]
  refine Ev.start (p := fun φ m => Z31.l0 (mkR (run E (φ 0))) (φ 0) m (mkLL xs k) k 0 = _) 1 ?_ (fun _ _ _ h => h)
  -- the rows that are left
  refine loopR 1 (σ := Nat × Int) (L := fun φ m s => Z31.l0 (mkR (run E (φ 0))) (φ 0) m (mkLL xs k) s.2 (s.1 : Int)) (fun _ _ _ _ => rfl) (fun s => s.1 ≤ xs.length ∧ (mkLL xs k).drop s.1 = mkLL (xs.drop s.1) s.2 ∧ mkN xs k = mkN (xs.drop s.1) s.2 ∧ k ≤ s.2 ∧ s.2 ≤ k + 1048576 * s.1) (fun _ => _) (fun s => xs.length - s.1) (fun s hi ih => ?_) (0,k) ⟨Nat.zero_le _,rfl,rfl,Int.le_refl _,by simp⟩
  obtain ⟨j,q⟩ := s
  obtain ⟨h1,h2,h3,h4,h5⟩ := hi
  simp only at h1 h2 h3 h4 h5 ih
  simp only [Z31.l0_succ _ mk_ok,mkLL_length]
  refine ev_d (fun hlt => ?_) fun hlt => ev_some ?_
  · have hj : j < xs.length := by omega
    have hj' : j < (mkLL xs k).length := by rw [mkLL_length]; exact hj
    rw [List.drop_eq_getElem_cons hj,List.drop_eq_getElem_cons hj',mkLL] at h2
    rw [List.drop_eq_getElem_cons hj,mkN] at h3
    obtain ⟨e1,e2⟩ := List.cons.inj h2
    have hx := (sm_get hs hj).1
    have hx : (xs[j]).length ≤ 1048576 := hx
    refine ev_bind (idx_lt hj') ?_
    rw [e1]
    refine ev_call (heldInt64S_ret q (xs[j]).length (by omega) hx) (ev_f (decide_eq_false (Int.not_lt.2 (by show 0 ≤ q + ((xs[j]).length : Int); omega))) ?_)
    rw [w64_succ (by omega)]
    exact ih (j + 1,q + ((xs[j]).length : Int)) ⟨by show j + 1 ≤ _; omega,e2,h3,by show k ≤ q + ((xs[j]).length : Int); omega,by show q + ((xs[j]).length : Int) ≤ k + 1048576 * ((j + 1 : Nat) : Int); omega⟩ (by show xs.length - (j + 1) < xs.length - j; omega)
  · have e : j = xs.length := by omega
    subst e
    rw [List.drop_length,mkN] at h3
    rw [h3]

end VeT

open Go Go.Proofs Ve
set_option linter.unusedVariables false
set_option linter.unusedSimpArgs false
namespace VeT

theorem markComplexP_ret (xs : List Sim) (k : Int) (hk : 0 ≤ k ∧ k ≤ 1125899906842624) (hs : Sm (.sl (.sl (.int .i64))) xs) : Ret E n_Z32 [dLL xs,dI k] ⟨o_Z32,(mkN xs k,mkLL xs k,())⟩ := by
  refine ret_of ?_
  simp only [run_Z32,Z32.ev]
  exact ev_call (markInt64SS_ret xs k hk hs) ev_rfl

end VeT

open Go Go.Proofs Ve
set_option linter.unusedVariables false
set_option linter.unusedSimpArgs false
namespace VeT

end VeT

open Go Go.Proofs Ve
set_option linter.unusedVariables false
set_option linter.unusedSimpArgs false
namespace VeT

end VeT

open Go Go.Proofs Ve
set_option linter.unusedVariables false
set_option linter.unusedSimpArgs false
namespace VeT

theorem VM.len {m : Mat} (h : VM m) : m.2.2.2.1.length ≤ 1024 := by
  obtain ⟨R,C,_,hR,hC,hl⟩ := h.nat
  have := rc_le hR hC
  omega

end VeT

open Go Go.Proofs Ve
set_option linter.unusedVariables false
set_option linter.unusedSimpArgs false
namespace VeT

end VeT

open Go Go.Proofs Ve
set_option linter.unusedVariables false
set_option linter.unusedSimpArgs false
namespace VeT

end VeT

open Go Go.Proofs Ve
set_option linter.unusedVariables false
set_option linter.unusedSimpArgs false
namespace VeT

/-! marks of a sheaf that is a result -/
theorem heldComplex_ret (xs : List Sim) (k : Int) (hk : 0 ≤ k ∧ k ≤ 1125899906842624) (hs : Sm (.sl (.sl (.int .i64))) xs) : Ret E n_Z29 [dLL (mkLL xs k),dI k] ⟨o_Z29,(mkN xs k,())⟩ := by
  have h1 : xs.length ≤ 1048576 := hs.1
  have g := mkN_ge (xs := xs) (k := k) fun y hy => (hs.2 y hy).1
  refine ret_of ?_
  simp only [run_Z29,Z29.ev]
  exact ev_call (heldInt64SS_ret xs k hk hs) (ev_f (decide_eq_false (Int.not_lt.2 (by show 0 ≤ mkN xs k; omega))) ev_rfl)

end VeT

open Go Go.Proofs Ve
set_option linter.unusedVariables false
set_option linter.unusedSimpArgs false
namespace VeT

/-! the star of a simplex begins with it -/
theorem part_sub : ∀ {a b : Sim},a.Pairwise (· < ·) → b.Pairwise (· < ·) → (∀ x ∈ a,x ∈ b) → a.Sublist b
  | [],b,_,_,_ => List.nil_sublist b
  | x :: xs,[],_,_,h => absurd (h x List.mem_cons_self) (by simp)
  | x :: xs,y :: ys,ha,hb,h => by
    have ha' := List.pairwise_cons.1 ha
    have hb' := List.pairwise_cons.1 hb
    by_cases e : x = y
    · subst e
      refine List.Sublist.cons_cons _ (part_sub ha'.2 hb'.2 fun z hz => ?_)
      rcases List.mem_cons.1 (h z (List.mem_cons_of_mem _ hz)) with rfl | hz'
      · have := ha'.1 z hz; omega
      · exact hz'
    · have hxy : x ∈ ys := by
        rcases List.mem_cons.1 (h x List.mem_cons_self) with h1 | h1
        · exact absurd h1 e
        · exact h1
      have hlt := hb'.1 x hxy
      refine List.Sublist.cons _ (part_sub ha hb'.2 fun z hz => ?_)
      rcases List.mem_cons.1 (h z hz) with rfl | hz'
      · rcases List.mem_cons.1 hz with rfl | hz2
        · exact absurd rfl e
        · have := ha'.1 z hz2; omega
      · exact hz'

theorem part_first {c : List Sim} (hv : VC c) {i k : Nat} (hi : i < c.length) (hk : k < c.length) (h : Part (c.getD k []) (c.getD i [])) : k ≤ i := by
  refine Classical.byContradiction fun hn => ?_
  have hs := hv.srt i k hk (by omega)
  rw [getD_lt hk,getD_lt hi] at h
  have r1 := (hv.2.1 k hk).2.2.1
  have r2 := (hv.2.1 i hi).2.2.1
  rw [getD_lt hk] at r1
  rw [getD_lt hi] at r2
  have sub := part_sub r1.pairwise r2.pairwise h
  have hl := sub.length_le
  rcases cmpS_lt.1 hs with h1 | ⟨h1,h2⟩
  · omega
  · have e := sub.eq_of_length h1.symm
    rw [e,cmpS_cmpX,cmpX_zero.2 rfl] at hs
    omega

theorem star_mem {c : List Sim} {s : Sim} : ∀ {n : Nat} {x : Int},x ∈ star c s n ↔ ∃ i : Nat,x = (i : Int) ∧ i < n ∧ Part s (c.getD i [])
  | 0,x => by simp [star]
  | n + 1,x => by
    rw [star,List.mem_append,star_mem]
    constructor
    · rintro (⟨i,h1,h2,h3⟩ | h)
      · exact ⟨i,h1,by omega,h3⟩
      · split at h
        · rename_i hp
          rw [List.mem_singleton] at h
          exact ⟨n,h,by omega,hp⟩
        · simp at h
    · rintro ⟨i,h1,h2,h3⟩
      by_cases e : i = n
      · subst e
        right
        rw [if_pos h3,h1]; simp
      · exact .inl ⟨i,h1,by omega,h3⟩

theorem star_rises {c : List Sim} {s : Sim} : ∀ {n : Nat},(star c s n).Pairwise (· < ·)
  | 0 => by simp [star]
  | n + 1 => by
    rw [star,List.pairwise_append]
    refine ⟨star_rises,by split <;> simp,fun x hx y hy => ?_⟩
    obtain ⟨i,rfl,hi,_⟩ := star_mem.1 hx
    split at hy
    · rw [List.mem_singleton] at hy; omega
    · simp at hy

theorem star_two {c : List Sim} (hv : VC c) {k : Nat} (hk : k < c.length) (h2 : (star c (c.getD k []) c.length).length = 2) : star c (c.getD k []) c.length = [(k : Int),(star c (c.getD k []) c.length).getD 1 0] := by
  have hm : (k : Int) ∈ star c (c.getD k []) c.length := star_mem.2 ⟨k,rfl,hk,fun _ h => h⟩
  have hr := star_rises (c := c) (s := c.getD k []) (n := c.length)
  have hf : ∀ x ∈ star c (c.getD k []) c.length,(k : Int) ≤ x := fun x hx => by
    obtain ⟨i,rfl,hi,hp⟩ := star_mem.1 hx
    have := part_first hv hi hk hp
    omega
  generalize star c (c.getD k []) c.length = l at hm hr hf h2
  match l,h2 with
  | [a,b],_ =>
    have hab : a < b := by simpa using hr
    have ha := hf a (by simp)
    rcases List.mem_cons.1 hm with e | e
    · rw [e]; rfl
    · rw [List.mem_singleton] at e; omega

/-! a complex without some of its simplices -/
open Classical in
noncomputable def woN (c : List Sim) (pr : Sim) : Nat → List Sim
  | 0 => []
  | n + 1 => woN c pr n ++ if (n : Int) ∈ pr then [] else [c.getD n []]

theorem woN_sub {c : List Sim} {pr : Sim} : ∀ {n : Nat},n ≤ c.length → (woN c pr n).Sublist (c.take n)
  | 0,_ => by simp [woN]
  | n + 1,h => by
    have ih := woN_sub (c := c) (pr := pr) (n := n) (by omega)
    have hn : n < c.length := by omega
    rw [woN,List.take_succ_eq_append_getElem hn]
    split
    · rw [List.append_nil]
      exact ih.trans (List.sublist_append_left _ _)
    · rw [getD_lt hn]
      exact ih.append (List.Sublist.refl _)

theorem woN_len {c : List Sim} {pr : Sim} : ∀ {n : Nat},(woN c pr n).length ≤ n
  | 0 => by simp [woN]
  | n + 1 => by
    have := woN_len (c := c) (pr := pr) (n := n)
    rw [woN,List.length_append]; split <;> simp <;> omega

theorem srt_sub {c d : List Sim} (h : Srt c) (hd : d.Sublist c) : Srt d := by
  have hp : c.Pairwise (fun a b => cmpS a b < 0) := List.pairwise_iff_getElem.2 fun i j hi hj hij => h i j hj hij
  have hp2 := hp.sublist hd
  intro i j hj hij
  exact List.pairwise_iff_getElem.1 hp2 i j (by omega) hj hij

theorem sm_sub {c d : List Sim} (h : Sm (.sl (.sl (.int .i64))) c) (hd : d.Sublist c) : Sm (.sl (.sl (.int .i64))) d := ⟨Nat.le_trans hd.length_le h.1,fun x hx => h.2 x (hd.subset hx)⟩

theorem collapsed_ret (c : List Sim) (pr : Sim) (hp : pr.length ≤ 1048576) (hc : Sm (.sl (.sl (.int .i64))) c) (hs : Srt c) : Ret E n_Z10 [dLL c,dL pr] ⟨o_Z10,(woN c pr c.length,())⟩ := by
  have hl : c.length ≤ 1048576 := hc.1
  have hsub : (woN c pr c.length).Sublist c := by have := woN_sub (c := c) (pr := pr) (Nat.le_refl _); rwa [List.take_length] at this
  refine ret_of ?_
  simp only [run_Z10,Z10.ev]
  refine Ev.start (p := fun φ n => Z10.l0 (mkR (run E (φ 0))) (φ 0) n pr c (c.length : Int) 0 [] = _) 1 ?_ (fun _ _ _ h => h)
  refine fold_loop 1 (L := fun φ n k o => Z10.l0 (mkR (run E (φ 0))) (φ 0) n pr c (c.length : Int) k o) (len := c.length) (fun k => woN c pr k) (fun _ _ _ _ _ => rfl) (fun k r hk ih => ?_) ?_
  · simp only [Z10.l0_succ _ mk_ok]
    have hw := woN_len (c := c) (pr := pr) (n := k)
    rw [woN,getD_lt hk] at ih
    refine ev_t (decide_eq_true (by omega)) (ev_bind (idx_lt hk) (ev_call (Contains_ret pr k hp) ?_))
    rw [w64_succ (by omega)]
    by_cases hm : (k : Int) ∈ pr
    · rw [if_pos hm,List.append_nil] at ih
      exact ev_f (by rw [pb_true hm]; rfl) ih
    · rw [if_neg hm] at ih
      exact ev_t (by rw [pb_false hm]; rfl) (ev_chk (by simp only [List.length_singleton,decide_eq_true_eq]; omega) ih)
  · simp only [Z10.l0_succ _ mk_ok]
    exact ev_f (decide_eq_false (by omega)) (ev_call (inOrder_ret _ (sm_sub hc hsub) (srt_sub hs hsub)) ev_rfl)

theorem l08Without_ret (c : List Sim) (pr : Sim) (hp : pr.length ≤ 1048576) (hc : Sm (.sl (.sl (.int .i64))) c) : Ret E n_Z76 [dC (c,()),dL pr] ⟨o_Z76,(woN c pr c.length,())⟩ := by
  have hl : c.length ≤ 1048576 := hc.1
  refine ret_of ?_
  simp only [run_Z76,Z76.ev]
  refine Ev.start (p := fun φ n => Z76.l0 (mkR (run E (φ 0))) (φ 0) n (c,()) pr 0 [] = _) 1 ?_ (fun _ _ _ h => h)
  refine fold_loop 1 (L := fun φ n k o => Z76.l0 (mkR (run E (φ 0))) (φ 0) n (c,()) pr k o) (len := c.length) (fun k => woN c pr k) (fun _ _ _ _ _ => rfl) (fun k r hk ih => ?_) ?_
  · simp only [Z76.l0_succ _ mk_ok]
    have hw := woN_len (c := c) (pr := pr) (n := k)
    rw [woN,getD_lt hk] at ih
    refine ev_t (decide_eq_true (by show (k : Int) < (c.length : Int); omega)) (ev_call (l00Has_ret pr k hp) ?_)
    rw [w64_succ (by omega)]
    by_cases hm : (k : Int) ∈ pr
    · rw [if_pos hm,List.append_nil] at ih
      exact ev_f (by rw [pb_true hm]; rfl) ih
    · rw [if_neg hm] at ih
      exact ev_t (by rw [pb_false hm]; rfl) (ev_bind (idx_lt hk) (ev_call (l00Own_ret _ (sm_get hc hk).1) (ev_chk (by simp only [List.length_singleton,decide_eq_true_eq]; omega) ih)))
  · simp only [Z76.l0_succ _ mk_ok]
    exact ev_f (decide_eq_false (by show ¬ ((c.length : Int) < (c.length : Int)); omega)) ev_rfl

/-! codes -/
open Classical in
noncomputable def AskC (c : List Sim) (k : Int) : Int := if VC c then (if 0 ≤ k ∧ k ≤ (c.length : Int) - 1 then 0 else 2) else 1

theorem hasSimplex_ret (c : List Sim) (k : Int) (hc : Sm (.sl (.sl (.int .i64))) c) : Ret E n_Z15 [dLL c,dI k] ⟨o_Z15,(AskC c k,())⟩ := by
  have hl : c.length ≤ 1048576 := hc.1
  refine ret_of ?_
  simp only [run_Z15,Z15.ev]
  unfold AskC
  refine ev_call (ValidComplex_ret c hc) ?_
  by_cases h1 : VC c
  · rw [if_pos h1]
    refine ev_f (by rw [pb_true h1]; rfl) (ev_call (sizeL_ret c) ?_)
    rw [w64_small (n := (c.length : Int) - 1) (by omega) (by omega)]
    refine ev_call (within_ret _ _ _) ?_
    by_cases h2 : 0 ≤ k ∧ k ≤ (c.length : Int) - 1
    · rw [if_pos h2]; exact ev_f (by rw [pb_true h2]; rfl) ev_rfl
    · rw [if_neg h2]; exact ev_t (by rw [pb_false h2]; rfl) ev_rfl
  · rw [if_neg h1]
    exact ev_t (by rw [pb_false h1]; rfl) ev_rfl

theorem l05Ask_ret (c : List Sim) (k : Int) (hc : Sm (.sl (.sl (.int .i64))) c) : Ret E n_Z68 [dC (c,()),dI k] ⟨o_Z68,(AskC c k,())⟩ := by
  have hl : c.length ≤ 1048576 := hc.1
  refine ret_of ?_
  simp only [run_Z68,Z68.ev]
  unfold AskC
  refine ev_call (l05Ok_ret (c,()) hc) ?_
  by_cases h1 : VC c
  · rw [if_pos h1]
    refine ev_f (by rw [pb_true h1]; rfl) ?_
    rw [w64_small (n := (c.length : Int) - 1) (by omega) (by omega)]
    refine ev_call (l00In_ret _ _ _) ?_
    by_cases h2 : 0 ≤ k ∧ k ≤ (c.length : Int) - 1
    · rw [if_pos h2]; exact ev_f (by rw [pb_true h2]; rfl) ev_rfl
    · rw [if_neg h2]; exact ev_t (by rw [pb_false h2]; rfl) ev_rfl
  · rw [if_neg h1]
    exact ev_t (by rw [pb_false h1]; rfl) ev_rfl

/-! one pair is taken away -/
open Classical in
noncomputable def CollapsePairV (c : Cpx) (k : Int) : List Sim × Int × Unit :=
  if AskC c.1 k = 0 then (if (star c.1 (c.1.getD k.toNat []) c.1.length).length = 2 then (woN c.1 (star c.1 (c.1.getD k.toNat []) c.1.length) c.1.length,0,()) else ([],6,())) else ([],AskC c.1 k,())

theorem AskC_zero {c : List Sim} {k : Int} (h : AskC c k = 0) : VC c ∧ ∃ q : Nat,k = (q : Int) ∧ q < c.length := by
  unfold AskC at h
  by_cases h1 : VC c
  · rw [if_pos h1] at h
    by_cases h2 : 0 ≤ k ∧ k ≤ (c.length : Int) - 1
    · exact ⟨h1,k.toNat,by omega,by omega⟩
    · rw [if_neg h2] at h; exact absurd h (by decide)
  · rw [if_neg h1] at h; exact absurd h (by decide)

theorem frees_at {c : List Sim} : ∀ {n : Nat} {x : Sim},x ∈ frees c n ↔ ∃ k,k < n ∧ (star c (c.getD k []) c.length).length = 2 ∧ x = [(k : Int),(star c (c.getD k []) c.length).getD 1 0]
  | 0,x => by simp [frees]
  | n + 1,x => by
    rw [frees,List.mem_append,frees_at]
    constructor
    · rintro (⟨k,h1,h2,h3⟩ | h)
      · exact ⟨k,by omega,h2,h3⟩
      · split at h
        · rename_i hp
          rw [List.mem_singleton] at h
          exact ⟨n,by omega,hp,h⟩
        · simp at h
    · rintro ⟨k,h1,h2,h3⟩
      by_cases e : k = n
      · subst e
        right
        rw [if_pos h2,h3]; simp
      · exact .inl ⟨k,by omega,h2,h3⟩

theorem implCollapsePair_ret (c : Cpx) (k : Int) (sc : Sm (.st cC) c) : Ret E n_Z5 [dLL c.1,dI k] ⟨o_Z5,CollapsePairV c k⟩ := by
  have hl : c.1.length ≤ 1048576 := sc.1.1
  refine ret_of ?_
  simp only [run_Z5,Z5.ev]
  refine ev_call (hasSimplex_ret c.1 k sc.1) ?_
  by_cases h : AskC c.1 k = 0
  · obtain ⟨hv,q,rfl,hq⟩ := AskC_zero h
    have hfl := frees_length (c := c.1) (k := c.1.length)
    refine ev_f (by simp [h]) (ev_call (freePairs_ret c.1 sc.1) ?_)
    unfold CollapsePairV
    rw [if_pos h,Int.toNat_natCast]
    refine Ev.start (p := fun φ n => Z5.l0 (mkR (run E (φ 0))) (φ 0) n (q : Int) (frees c.1 c.1.length) ((frees c.1 c.1.length).length : Int) 0 c.1 = _) 1 ?_ (fun _ _ _ h => h)
    have key : ∀ d j,j + d = (frees c.1 c.1.length).length → (∀ i (hi : i < (frees c.1 c.1.length).length),i < j → (frees c.1 c.1.length)[i].getD 0 0 ≠ (q : Int)) →
        Ev fun φ => Z5.l0 (mkR (run E (φ 0))) (φ 0) (φ 1) (q : Int) (frees c.1 c.1.length) ((frees c.1 c.1.length).length : Int) (j : Int) c.1 = some ⟨o_Z5,(if (star c.1 (c.1.getD q []) c.1.length).length = 2 then (woN c.1 (star c.1 (c.1.getD q []) c.1.length) c.1.length,0,()) else ([],6,()) : List Sim × Int × Unit)⟩ := by
      intro d
      induction d with
      | zero =>
        intro j hj hno
        have h2 : ¬ (star c.1 (c.1.getD q []) c.1.length).length = 2 := fun h2 => by
          obtain ⟨i,hi,e⟩ := List.mem_iff_getElem.1 (frees_at.2 ⟨q,hq,h2,rfl⟩)
          refine hno i hi (by omega) ?_
          rw [e]; rfl
        rw [if_neg h2]
        refine Ev.round 1 (L := fun φ n => Z5.l0 (mkR (run E (φ 0))) (φ 0) n (q : Int) (frees c.1 c.1.length) ((frees c.1 c.1.length).length : Int) (j : Int) c.1) ?_ (fun _ _ _ => rfl)
        simp only [Z5.l0_succ _ mk_ok]
        exact ev_f (decide_eq_false (by omega)) ev_rfl
      | succ d ih =>
        intro j hj hno
        have hjl : j < (frees c.1 c.1.length).length := by omega
        obtain ⟨i,hi,hs2,e⟩ := frees_at.1 (List.getElem_mem hjl)
        have e0 : idx? (frees c.1 c.1.length)[j] 0 = some (i : Int) := by rw [e]; rfl
        have eg : (frees c.1 c.1.length)[j].getD 0 0 = (i : Int) := by rw [e]; rfl
        refine Ev.round 1 (L := fun φ n => Z5.l0 (mkR (run E (φ 0))) (φ 0) n (q : Int) (frees c.1 c.1.length) ((frees c.1 c.1.length).length : Int) (j : Int) c.1) ?_ (fun _ _ _ => rfl)
        simp only [Z5.l0_succ _ mk_ok]
        refine ev_t (decide_eq_true (by omega)) (ev_bind (idx_lt hjl) (ev_bind e0 ?_))
        by_cases hiq : i = q
        · subst hiq
          rw [if_pos hs2]
          refine ev_t (by simp) ?_
          have hcol := collapsed_ret c.1 (star c.1 (c.1.getD i []) c.1.length) (by omega) sc.1 hv.srt
          show Ev fun φ => Option.bind (callT (mkR (run E (φ 0))) n_Z10 o_Z10 [dLL c.1,dL (frees c.1 c.1.length)[j]]) _ = _
          rw [e,← star_two hv hq hs2]
          exact ev_call hcol ev_rfl
        · refine ev_f (by simp; omega) ?_
          rw [w64_succ (by omega)]
          refine ih (j + 1) (by omega) fun a ha haj => ?_
          by_cases ea : a = j
          · subst ea; rw [eg]; omega
          · exact hno a ha (by omega)
    exact key (frees c.1 c.1.length).length 0 (by omega) fun i hi h0 => by omega
  · unfold CollapsePairV
    rw [if_neg h]
    exact ev_t (by simpa using h) ev_rfl

theorem specCollapsePair_ret (c : Cpx) (k : Int) (sc : Sm (.st cC) c) : Ret E n_Z62 [dLL c.1,dI k] ⟨o_Z62,CollapsePairV c k⟩ := by
  refine ret_of ?_
  simp only [run_Z62,Z62.ev]
  refine ev_call (l05Ask_ret c.1 k sc.1) ?_
  by_cases h : AskC c.1 k = 0
  · obtain ⟨hv,q,rfl,hq⟩ := AskC_zero h
    unfold CollapsePairV
    rw [if_pos h,Int.toNat_natCast,getD_lt hq]
    have hst : Ret E n_Z75 [dC (c.1,()),dL c.1[q]] ⟨o_Z75,(star c.1 c.1[q] c.1.length,())⟩ := l05Star_ret (c.1,()) c.1[q] (sm_get sc.1 hq).1 sc.1
    have hsl := star_length (c := c.1) (s := c.1[q]) (k := c.1.length)
    have h48 := hv.1
    refine ev_f (by simp [h]) (ev_bind (idx_lt hq) (ev_call hst ?_))
    by_cases h2 : (star c.1 c.1[q] c.1.length).length = 2
    · rw [if_pos h2]
      exact ev_f (by simp [h2]) (ev_call (l08Without_ret c.1 (star c.1 c.1[q] c.1.length) (by omega) sc.1) ev_rfl)
    · rw [if_neg h2]
      exact ev_t (by simp; omega) ev_rfl
  · unfold CollapsePairV
    rw [if_neg h]
    exact ev_t (by simpa using h) ev_rfl

theorem CollapsePairV_sm (c : Cpx) (k : Int) (sc : Sm (.st cC) c) : Sm (.st cC) ((CollapsePairV c k).1,()) := by
  have h0 : Sm (.sl (.sl (.int .i64))) ([] : List Sim) := ⟨by show (0 : Nat) ≤ 1048576; omega,fun _ h => by cases h⟩
  unfold CollapsePairV
  split
  · split
    · have hsub : (woN c.1 (star c.1 (c.1.getD k.toNat []) c.1.length) c.1.length).Sublist c.1 := by
        have := woN_sub (c := c.1) (pr := star c.1 (c.1.getD k.toNat []) c.1.length) (Nat.le_refl _); rwa [List.take_length] at this
      exact ⟨sm_sub sc.1 hsub,trivial⟩
    · exact ⟨h0,trivial⟩
  · exact ⟨h0,trivial⟩

end VeT

open Go Go.Proofs Ve
set_option linter.unusedVariables false
set_option linter.unusedSimpArgs false
namespace VeT

theorem law_CollapsePair (x0 : Cpx) (x1 : Int) (w0 : Wf (.st cC) x0) : Ret E n_Z25 [dLL x0.1,dI x1] ⟨.cons .bool .nil,(true,())⟩ := by
  refine ret_of ?_
  simp only [run_Z25,Z25.ev]
  obtain ⟨r0,hs0,s0⟩ := szComplex_ret x0 1048576 w0 (by omega) (by omega)
  refine ev_call hs0 (ev_d (fun _ => ev_rfl) fun n0 => ?_)
  have n0 := Int.not_lt.1 n0
  obtain ⟨b0,m0⟩ := s0 n0
  have hi := implCollapsePair_ret x0 x1 m0
  have hsp := specCollapsePair_ret x0 x1 m0
  have hsm := CollapsePairV_sm x0 x1 m0
  generalize CollapsePairV x0 x1 = V at hi hsp hsm
  obtain ⟨v0_0,v1,⟨⟩⟩ := V
  have z0 : Sm (.st cC) (v0_0,()) := hsm
  obtain ⟨qr0,hqr0,eqr0⟩ := eqComplex_ret (v0_0,()) (v0_0,()) z0
  obtain rfl : qr0 = true := eqr0.2 rfl
  have to0 := toComplex_ret x0 m0
  obtain ⟨q0,hq0,eq0⟩ := eqComplex_ret x0 x0 m0
  obtain rfl : q0 = true := eq0.2 rfl
  have hm0 := markComplexP_ret x0.1 (1) (by omega) m0.1
  have hmb0 := mkN_ge (xs := x0.1) (k := 1) fun y hy => (m0.1.2 y hy).1
  have hml0 : x0.1.length ≤ 1048576 := m0.1.1
  have hk : ¬ (mkN x0.1 (1) < 0) := by omega
  have mr0 := markComplexP_ret v0_0 1 (by omega) z0.1
  have hl0 := heldComplex_ret v0_0 1 (by omega) z0.1
  have hb0 := mkN_ge (xs := v0_0) (k := 1) fun y hy => (z0.1.2 y hy).1
  have he0 : ¬ (mkN v0_0 1 < 0) := by omega
  repeat (first | with_reducible exact ev_rfl | with_reducible refine ev_call hqr0 ?_ | with_reducible refine ev_call to0 ?_ | with_reducible refine ev_call hq0 ?_ | with_reducible refine ev_call hi ?_ | with_reducible refine ev_call hsp ?_ | with_reducible refine ev_call hm0 ?_ | with_reducible refine ev_call mr0 ?_ | with_reducible refine ev_call hl0 ?_ | with_reducible refine ev_both ?_ ?_ | with_reducible refine ev_f (by first | rfl | exact bne_self_eq_false _ | exact decide_eq_false hk | exact decide_eq_false he0 | (simp; done)) ?_ | simp only [bne_self_eq_false,Z25.j0_eq _ mk_ok,Z25.j1_eq _ mk_ok,Z25.j2_eq _ mk_ok,cond_false])

theorem rowCollapsePair (z : ((.cons (.sl (.sl (.int .i64))) (.cons (.int .i64) .nil)) : Ty).T)
    (h : Wf (.cons (.sl (.sl (.int .i64))) (.cons (.int .i64) .nil)) z) :
    Evt fun n => run E n n_Z25 (unpack _ z) = some ⟨.cons .bool .nil,(true,())⟩ :=
  law_CollapsePair (z.1,()) z.2.1 ⟨h.1,trivial⟩


end VeT
