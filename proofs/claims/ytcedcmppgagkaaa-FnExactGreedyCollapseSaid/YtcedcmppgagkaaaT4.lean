import Derived.Test.YtcedcmppgagkaaaT3
import Derived.Test.YtcedcmppgagkaaaV2
set_option linter.unusedVariables false
set_option linter.unusedSimpArgs false
open Go Go.Proofs Ve
set_option linter.unusedVariables false
set_option linter.unusedSimpArgs false
namespace VeT

theorem Index_ret (s : Sim) (v : Int) (hs : s.length ≤ 1048576) : Ret E n_Z59 [dL s,dI v] ⟨o_Z59,(idxf (fun x => pb (x = v)) s,())⟩ := by
  obtain ⟨o,h1,h2,h3⟩ := find_loop 1 (L := fun φ n k => Z59.l0 (mkR (run E (φ 0))) (φ 0) n s v (s.length : Int) k) (len := s.length) (fun k => ∃ h : k < s.length,pb (s[k] = v) = true) (fun o => some ⟨o_Z59,(o2i o,())⟩) (fun _ _ _ _ => rfl) (fun k hk hP => by
      obtain ⟨_,hP⟩ := hP
      have hP := pb_iff.1 hP
      simp only [Z59.l0_succ _ mk_ok]
      exact ev_t (decide_eq_true (by omega)) (ev_bind (idx_lt hk) (ev_t (by simp [hP]) ev_rfl))) (fun k q hk hP ih => by
      simp only [Z59.l0_succ _ mk_ok]
      refine ev_t (decide_eq_true (by omega)) (ev_bind (idx_lt hk) (ev_f (by simp only [beq_eq_false_iff_ne]; exact fun e => hP ⟨hk,pb_true e.symm⟩) ?_))
      rw [w64_succ (by omega)]; exact ih) (by
      simp only [Z59.l0_succ _ mk_ok]
      exact ev_f (decide_eq_false (by omega)) ev_rfl)
  rw [idxf_of (p := fun x => pb (x = v)) h1 h2] at h3
  refine ret_of ?_
  simp only [run_Z59,Z59.ev]
  exact Ev.start (p := fun φ n => Z59.l0 (mkR (run E (φ 0))) (φ 0) n s v (s.length : Int) 0 = _) 1 h3 (fun _ _ _ h => h)

theorem Contains_ret (s : Sim) (v : Int) (hs : s.length ≤ 1048576) : Ret E n_Z51 [dL s,dI v] ⟨o_Z51,(pb (v ∈ s),())⟩ := by
  refine ret_of ?_
  simp only [run_Z51,Z51.ev]
  refine ev_call (Index_ret s v hs) (ev_some ?_)
  have : decide (idxf (fun x => pb (x = v)) s ≥ 0) = pb (v ∈ s) := eq_pb (by
    rw [decide_eq_true_iff,ge_iff_le,idxf_nonneg]
    exact ⟨fun ⟨x,h,e⟩ => pb_iff.1 e ▸ h,fun h => ⟨v,h,pb_true rfl⟩⟩)
  simp only [this]

theorem l00Has_ret (s : Sim) (v : Int) (hs : s.length ≤ 1048576) : Ret E n_Z62 [dL s,dI v] ⟨o_Z62,(pb (v ∈ s),())⟩ := by
  obtain ⟨o,h1,h2,h3⟩ := find_loop 1 (L := fun φ n k => Z62.l0 (mkR (run E (φ 0))) (φ 0) n s v k) (len := s.length) (fun k => ∃ h : k < s.length,s[k] = v) (fun o => some ⟨o_Z62,(o.isSome,())⟩) (fun _ _ _ _ => rfl) (fun k hk hP => by
      obtain ⟨_,hP⟩ := hP
      simp only [Z62.l0_succ _ mk_ok]
      exact ev_t (decide_eq_true (by omega)) (ev_bind (idx_lt hk) (ev_t (by simp [hP]) ev_rfl))) (fun k q hk hP ih => by
      simp only [Z62.l0_succ _ mk_ok]
      refine ev_t (decide_eq_true (by omega)) (ev_bind (idx_lt hk) (ev_f (by simp only [beq_eq_false_iff_ne]; exact fun e => hP ⟨hk,e⟩) ?_))
      rw [w64_succ (by omega)]; exact ih) (by
      simp only [Z62.l0_succ _ mk_ok]
      exact ev_f (decide_eq_false (by omega)) ev_rfl)
  have : o.isSome = pb (v ∈ s) := eq_pb (by
    cases o with
    | none =>
      simp only [Option.isSome_none,Bool.false_eq_true,false_iff]
      intro hm
      obtain ⟨j,hj,e⟩ := List.mem_iff_getElem.1 hm
      exact h2 rfl j hj ⟨hj,e⟩
    | some k =>
      obtain ⟨_,⟨hk,e⟩,_⟩ := h1 k rfl
      simp only [Option.isSome_some,true_iff]
      exact e ▸ List.getElem_mem hk)
  rw [this] at h3
  refine ret_of ?_
  simp only [run_Z62,Z62.ev]
  exact Ev.start (p := fun φ n => Z62.l0 (mkR (run E (φ 0))) (φ 0) n s v 0 = _) 1 h3 (fun _ _ _ h => h)

/-- a part of a simplex -/
def Part (a b : Sim) : Prop := ∀ x ∈ a,x ∈ b

theorem isFace_1_ret (x : Int) (b : Sim) (hb : b.length ≤ 1048576) : Ret E n_Z18 [dI x,⟨.ptr (.cons (.sl (.int .i64)) .nil),(b,())⟩] ⟨o_Z18,(!pb (x ∈ b),())⟩ := by
  refine ret_of ?_
  simp only [run_Z18,Z18.ev]
  exact ev_call (Contains_ret b x hb) ev_rfl

theorem isFace_ret (a b : Sim) (ha : a.length ≤ 1048576) (hb : b.length ≤ 1048576) : Ret E n_Z17 [dL a,dL b] ⟨o_Z17,(pb (Part a b),())⟩ := by
  refine ret_of ?_
  simp only [run_Z17,Z17.ev]
  refine ev_call (ContainsFunc_Sint64_int64_impl_isFace_1_ret a ((b,()),()) _ ha fun x _ => isFace_1_ret x b hb) (ev_some ?_)
  simp only [none_bad]; rfl

theorem l05Part_ret (a b : Sim) (ha : a.length ≤ 1048576) (hb : b.length ≤ 1048576) : Ret E n_Z71 [dL a,dL b] ⟨o_Z71,(pb (Part a b),())⟩ := by
  refine ret_of ?_
  simp only [run_Z71,Z71.ev]
  refine Ev.start (p := fun φ n => Z71.l0 (mkR (run E (φ 0))) (φ 0) n a b 0 = _) 1 ?_ (fun _ _ _ h => h)
  refine (all_pb 1 (L := fun φ n k => Z71.l0 (mkR (run E (φ 0))) (φ 0) n a b k) (len := a.length) 0 (by omega) (fun j => a.getD j 0 ∈ b) (fun b => some ⟨o_Z71,(b,())⟩) (fun _ _ _ _ => rfl) (fun k h1 h2 hP _ => ?_) (fun k r h1 h2 hP _ ih => ?_) (fun _ => ?_)).to ?_
  · simp only [Z71.l0_succ _ mk_ok]
    rw [getD_lt h2] at hP
    exact ev_t (decide_eq_true (by omega)) (ev_bind (idx_lt h2) (ev_call (l00Has_ret b _ hb) (ev_t (by rw [pb_false hP]; rfl) ev_rfl)))
  · simp only [Z71.l0_succ _ mk_ok]
    rw [getD_lt h2] at hP
    refine ev_t (decide_eq_true (by omega)) (ev_bind (idx_lt h2) (ev_call (l00Has_ret b _ hb) (ev_f (by rw [pb_true hP]; rfl) ?_)))
    rw [w64_succ (by omega)]; exact ih
  · simp only [Z71.l0_succ _ mk_ok]
    exact ev_f (decide_eq_false (by omega)) ev_rfl
  · refine congrArg (fun b : Bool => some (⟨o_Z71,(b,())⟩ : Dv)) (pb_congr ⟨fun h x hx => ?_,fun h j _ hj => by rw [getD_lt hj]; exact h _ (List.getElem_mem hj)⟩)
    obtain ⟨j,hj,rfl⟩ := List.mem_iff_getElem.1 hx
    have := h j (by omega) hj
    rwa [getD_lt hj] at this

open Classical in
/-- the star's indices below k -/
noncomputable def star (c : List Sim) (s : Sim) : Nat → List Int
  | 0 => []
  | k + 1 => star c s k ++ if Part s (c.getD k []) then [(k : Int)] else []

theorem star_length {c : List Sim} {s : Sim} : ∀ {k : Nat},(star c s k).length ≤ k
  | 0 => by simp [star]
  | k + 1 => by
    have := star_length (c := c) (s := s) (k := k)
    rw [star,List.length_append]; split <;> simp <;> omega

theorem starOf_ret (c : List Sim) (k : Nat) (hk : k < c.length) (hc : Sm (.sl (.sl (.int .i64))) c) : Ret E n_Z22 [dLL c,dI (k : Int)] ⟨o_Z22,(star c c[k] c.length,())⟩ := by
  have hc1 : c.length ≤ 1048576 := hc.1
  refine ret_of ?_
  simp only [run_Z22,Z22.ev]
  refine Ev.start (p := fun φ n => Z22.l0 (mkR (run E (φ 0))) (φ 0) n (k : Int) c (c.length : Int) 0 c [] = _) 1 ?_ (fun _ _ _ h => h)
  refine fold_loop 1 (L := fun φ n j a => Z22.l0 (mkR (run E (φ 0))) (φ 0) n (k : Int) c (c.length : Int) j c a) (len := c.length) (fun j => star c c[k] j) (fun _ _ _ _ _ => rfl) (fun j r hj ih => ?_) ?_
  · simp only [Z22.l0_succ _ mk_ok]
    have hl := star_length (c := c) (s := c[k]) (k := j)
    rw [star,getD_lt hj] at ih
    rw [w64_succ (by omega)]
    refine ev_t (decide_eq_true (by omega)) (ev_bind (idx_lt hj) (ev_bind (idx_lt hk) (ev_call (isFace_ret _ _ (sm_get hc hk).1 (sm_get hc hj).1) (ev_b (fun h => ev_chk (decide_eq_true (by simp only [List.length_cons,List.length_nil]; omega)) ?_) fun h => ?_))))
    · rw [if_pos (pb_iff.1 h)] at ih; exact ih
    · rw [if_neg (pb_not.1 h),List.append_nil] at ih; exact ih
  · simp only [Z22.l0_succ _ mk_ok]
    exact ev_f (decide_eq_false (by omega)) ev_rfl

theorem l05Star_ret (c : Cpx) (s : Sim) (hs : s.length ≤ 1048576) (hc : Sm (.sl (.sl (.int .i64))) c.1) : Ret E n_Z73 [dC c,dL s] ⟨o_Z73,(star c.1 s c.1.length,())⟩ := by
  have hc1 : c.1.length ≤ 1048576 := hc.1
  refine ret_of ?_
  simp only [run_Z73,Z73.ev]
  refine Ev.start (p := fun φ n => Z73.l0 (mkR (run E (φ 0))) (φ 0) n c s 0 [] = _) 1 ?_ (fun _ _ _ h => h)
  refine fold_loop 1 (L := fun φ n j a => Z73.l0 (mkR (run E (φ 0))) (φ 0) n c s j a) (len := c.1.length) (fun j => star c.1 s j) (fun _ _ _ _ _ => rfl) (fun j r hj ih => ?_) ?_
  · simp only [Z73.l0_succ _ mk_ok]
    have hl := star_length (c := c.1) (s := s) (k := j)
    rw [star,getD_lt hj] at ih
    rw [w64_succ (by omega)]
    refine ev_t (decide_eq_true (by omega)) (ev_bind (idx_lt hj) (ev_call (l05Part_ret _ _ hs (sm_get hc hj).1) (ev_b (fun h => ev_chk (decide_eq_true (by simp only [List.length_cons,List.length_nil]; omega)) ?_) fun h => ?_)))
    · rw [if_pos (pb_iff.1 h)] at ih; exact ih
    · rw [if_neg (pb_not.1 h),List.append_nil] at ih; exact ih
  · simp only [Z73.l0_succ _ mk_ok]
    exact ev_f (decide_eq_false (by omega)) ev_rfl

/-- the free pairs below k -/
noncomputable def frees (c : List Sim) : Nat → List Sim
  | 0 => []
  | k + 1 => frees c k ++ if (star c (c.getD k []) c.length).length = 2 then [[(k : Int),(star c (c.getD k []) c.length).getD 1 0]] else []

theorem frees_length {c : List Sim} : ∀ {k : Nat},(frees c k).length ≤ k
  | 0 => by simp [frees]
  | k + 1 => by
    have := frees_length (c := c) (k := k)
    rw [frees,List.length_append]; split <;> simp <;> omega

theorem freePairs_ret (c : List Sim) (hc : Sm (.sl (.sl (.int .i64))) c) : Ret E n_Z14 [dLL c] ⟨o_Z14,(frees c c.length,())⟩ := by
  have hc1 : c.length ≤ 1048576 := hc.1
  refine ret_of ?_
  simp only [run_Z14,Z14.ev]
  refine ev_call (sizeL_ret _) ?_
  refine Ev.start (p := fun φ n => Z14.l0 (mkR (run E (φ 0))) (φ 0) n (c.length : Int) 0 c [] = _) 1 ?_ (fun _ _ _ h => h)
  refine fold_loop 1 (L := fun φ n j a => Z14.l0 (mkR (run E (φ 0))) (φ 0) n (c.length : Int) j c a) (len := c.length) (fun j => frees c j) (fun _ _ _ _ _ => rfl) (fun j r hj ih => ?_) ?_
  · simp only [Z14.l0_succ _ mk_ok]
    have hl := frees_length (c := c) (k := j)
    rw [frees,getD_lt hj] at ih
    rw [w64_succ (by omega)]
    refine ev_t (decide_eq_true (by omega)) (ev_call (starOf_ret c j hj hc) (ev_b (fun h => ?_) fun h => ?_))
    · have h : (star c c[j] c.length).length = 2 := by have : ((star c c[j] c.length).length : Int) = 2 := by simpa using h
                                                       omega
      have h1 : 1 < (star c c[j] c.length).length := by omega
      rw [if_pos h,getD_lt h1] at ih
      exact ev_bind (idx_lt (k := 1) h1) (ev_chk (decide_eq_true (by simp only [List.length_cons,List.length_nil]; omega)) ih)
    · rw [if_neg (fun e => by simp [e] at h),List.append_nil] at ih; exact ih
  · simp only [Z14.l0_succ _ mk_ok]
    exact ev_f (decide_eq_false (by omega)) ev_rfl

theorem l08Free_ret (c : Cpx) (hc : Sm (.sl (.sl (.int .i64))) c.1) : Ret E n_Z74 [dC c] ⟨o_Z74,(frees c.1 c.1.length,())⟩ := by
  have hc1 : c.1.length ≤ 1048576 := hc.1
  refine ret_of ?_
  simp only [run_Z74,Z74.ev]
  refine Ev.start (p := fun φ n => Z74.l0 (mkR (run E (φ 0))) (φ 0) n c 0 [] = _) 1 ?_ (fun _ _ _ h => h)
  refine fold_loop 1 (L := fun φ n j a => Z74.l0 (mkR (run E (φ 0))) (φ 0) n c j a) (len := c.1.length) (fun j => frees c.1 j) (fun _ _ _ _ _ => rfl) (fun j r hj ih => ?_) ?_
  · simp only [Z74.l0_succ _ mk_ok]
    have hl := frees_length (c := c.1) (k := j)
    rw [frees,getD_lt hj] at ih
    rw [w64_succ (by omega)]
    refine ev_t (decide_eq_true (by omega)) (ev_bind (idx_lt hj) (ev_call (l05Star_ret c _ (sm_get hc hj).1 hc) (ev_b (fun h => ?_) fun h => ?_)))
    · have h : (star c.1 c.1[j] c.1.length).length = 2 := by have : ((star c.1 c.1[j] c.1.length).length : Int) = 2 := by simpa using h
                                                             omega
      have h1 : 1 < (star c.1 c.1[j] c.1.length).length := by omega
      rw [if_pos h,getD_lt h1] at ih
      exact ev_bind (idx_lt (k := 1) h1) (ev_chk (decide_eq_true (by simp only [List.length_cons,List.length_nil]; omega)) ih)
    · rw [if_neg (fun e => by simp [e] at h),List.append_nil] at ih; exact ih
  · simp only [Z74.l0_succ _ mk_ok]
    exact ev_f (decide_eq_false (by omega)) ev_rfl

end VeT

open Go Go.Proofs Ve
set_option linter.unusedVariables false
set_option linter.unusedSimpArgs false
namespace VeT

end VeT

open Go Go.Proofs Ve
set_option linter.unusedVariables false
set_option linter.unusedSimpArgs false
namespace VeT

end VeT

open Go Go.Proofs Ve
set_option linter.unusedVariables false
set_option linter.unusedSimpArgs false
namespace VeT

end VeT

open Go Go.Proofs Ve
set_option linter.unusedVariables false
set_option linter.unusedSimpArgs false
namespace VeT

end VeT

open Go Go.Proofs Ve
set_option linter.unusedVariables false
set_option linter.unusedSimpArgs false
namespace VeT

end VeT

open Go Go.Proofs Ve
set_option linter.unusedVariables false
set_option linter.unusedSimpArgs false
namespace VeT

/-! slices.SortFunc,slices.CompactFunc -/
theorem lexc_lexN : ∀ {a b : Sim},lexc a b = lexN a b
  | [],[] => rfl
  | [],_ :: _ => rfl
  | _ :: _,[] => rfl
  | x :: xs,y :: ys => by rw [lexc,lexN,lexc_lexN]

theorem cmpS_cmpX {a b : Sim} : cmpS a b = cmpX a b := by
  unfold cmpS cmpX
  rw [lexc_lexN]; rfl

theorem run_SortFunc (n : Nat) (args : List Dv) : run E (n + 1) n_Z60 args = pSortF n_Z11 (mkR (run E n)) args := rfl

theorem pSortF_val {m : Nat} {R : Run} {xs : List Sim} (h : xs.length ≤ 1048576 ∧ (⟨.fn m .nil,()⟩ : Dv) = ⟨.fn m .nil,()⟩ ∧ ∀ x ∈ xs,∀ y ∈ xs,R.r m [⟨tL,x⟩,⟨tL,y⟩] = some ⟨.cons tI .nil,(cmpX x y,())⟩) :
    pSortF m R [⟨tLL,xs⟩,⟨.fn m .nil,()⟩] = some ⟨.cons tLL .nil,(sortF xs,())⟩ := by
  unfold pSortF
  simp only [show (⟨tLL,xs⟩ : Dv).to tLL = some xs from rfl,Option.bind_some]
  exact if_pos h

theorem pCompF_val {m : Nat} {R : Run} {xs : List Sim} (h : xs.length ≤ 1048576 ∧ (⟨.fn m .nil,()⟩ : Dv) = ⟨.fn m .nil,()⟩ ∧ ∀ (i : Nat) (h : i + 1 < xs.length),R.r m [⟨tL,xs[i + 1]⟩,⟨tL,xs[i]⟩] = some ⟨.cons .bool .nil,(false,())⟩) :
    pCompF m R [⟨tLL,xs⟩,⟨.fn m .nil,()⟩] = some ⟨.cons tLL .nil,(xs,())⟩ := by
  unfold pCompF
  simp only [show (⟨tLL,xs⟩ : Dv).to tLL = some xs from rfl,Option.bind_some]
  exact if_pos h

theorem evt_mem {α : Type} {p : α → Nat → Prop} {l : List α} (h : ∀ x ∈ l,Evt (p x)) : Evt fun n => ∀ x ∈ l,p x n := by
  induction l with
  | nil => exact Evt.of fun n x hx => by cases hx
  | cons a l ih =>
    refine ((h a List.mem_cons_self).and (ih fun x hx => h x (List.mem_cons_of_mem _ hx))).mono fun n ⟨h1,h2⟩ x hx => ?_
    rcases List.mem_cons.1 hx with rfl | hx
    · exact h1
    · exact h2 x hx

theorem SortFunc_ret (xs : List Sim) (hs : Sm (.sl (.sl (.int .i64))) xs) : Ret E n_Z60 [dLL xs,⟨.fn n_Z11 .nil,()⟩] ⟨o_Z60,(sortF xs,())⟩ := by
  have hl : xs.length ≤ 1048576 := hs.1
  have hall : Evt fun n => ∀ x ∈ xs,∀ y ∈ xs,run E n n_Z11 [dL x,dL y] = some ⟨o_Z11,(cmpX x y,())⟩ :=
    evt_mem fun x hx => evt_mem fun y hy => by
      have := compareSimplices_ret x y (hs.2 x hx)
      rw [cmpS_cmpX] at this
      exact this
  refine Evt.succ (hall.mono fun n h => ?_)
  rw [run_SortFunc]
  exact pSortF_val ⟨hl,rfl,h⟩

theorem run_CompactFunc (n : Nat) (args : List Dv) : run E (n + 1) n_Z43 args = pCompF n_Z52 (mkR (run E n)) args := rfl

theorem CompactFunc_ret (xs : List Sim) (hs : Sm (.sl (.sl (.int .i64))) xs) (hn : ∀ (i : Nat) (h : i + 1 < xs.length),xs[i + 1] ≠ xs[i]) :
    Ret E n_Z43 [dLL xs,⟨.fn n_Z52 .nil,()⟩] ⟨o_Z43,(xs,())⟩ := by
  have hl : xs.length ≤ 1048576 := hs.1
  have hall : Evt fun n => ∀ i,i < xs.length - 1 → ∀ (h : i + 1 < xs.length),run E n n_Z52 [dL xs[i + 1],dL xs[i]] = some ⟨o_Z52,(false,())⟩ :=
    Evt.lt fun i hi => by
      have h : i + 1 < xs.length := by omega
      have h2 := EqualP_ret xs[i + 1] xs[i] (sm_get hs h).1
      rw [pb_false (hn i h)] at h2
      exact Evt.mono h2 fun n h3 _ => h3
  refine Evt.succ (hall.mono fun n h => ?_)
  rw [run_CompactFunc]
  exact pCompF_val ⟨hl,rfl,fun i hi => h i (by omega) hi⟩

theorem sortF_srt {c : List Sim} (h : Srt c) : sortF c = c := by
  refine (sortF_eq (List.Perm.refl c) (List.pairwise_iff_getElem.2 fun i j hi hj hij => ?_)).symm
  have := h i j hj hij
  rw [cmpS_cmpX] at this
  exact decide_eq_true (by omega)

theorem copyLists2_ret (rows : List Sim) (hl : rows.length ≤ 1048576) (hs : ∀ x ∈ rows,x.length ≤ 1048576) : Ret E n_Z12 [dLL rows] ⟨o_Z12,(rows,())⟩ := by
  refine ret_of ?_
  simp only [run_Z12,Z12.ev]
  refine Ev.start (p := fun φ n => Z12.l0 (mkR (run E (φ 0))) (φ 0) n rows (rows.length : Int) 0 [] = _) 1 ?_ (fun _ _ _ h => h)
  refine fold_loop 1 (L := fun φ n k o => Z12.l0 (mkR (run E (φ 0))) (φ 0) n rows (rows.length : Int) k o) (len := rows.length) (fun k => rows.take k) (fun _ _ _ _ _ => rfl) (fun k r hk ih => ?_) ?_
  · simp only [Z12.l0_succ _ mk_ok]
    rw [List.take_succ_eq_append_getElem hk] at ih
    refine ev_t (decide_eq_true (by omega)) (ev_bind (idx_lt hk) (ev_call (Clone_ret _ (hs _ (List.getElem_mem hk))) (ev_chk (by simp only [List.length_take,List.length_singleton,decide_eq_true_eq]; omega) ?_)))
    rw [w64_succ (by omega)]; exact ih
  · simp only [Z12.l0_succ _ mk_ok]
    refine ev_f (decide_eq_false (by omega)) (ev_some ?_)
    rw [List.take_of_length_le (Nat.le_refl _)]

/-- a sorted list stays -/
theorem inOrder_ret (c : List Sim) (hc : Sm (.sl (.sl (.int .i64))) c) (hs : Srt c) : Ret E n_Z15 [dLL c] ⟨o_Z15,(c,())⟩ := by
  have h1 := SortFunc_ret c hc
  rw [sortF_srt hs] at h1
  refine ret_of ?_
  simp only [run_Z15,Z15.ev]
  refine ev_call (copyLists2_ret c hc.1 fun x hx => (hc.2 x hx).1) (ev_call h1 (ev_call (CompactFunc_ret c hc fun i h e => ?_) ev_rfl))
  have := hs i (i + 1) h (by omega)
  rw [e,cmpS_cmpX,cmpX_zero.2 rfl] at this
  omega

end VeT

open Go Go.Proofs Ve
set_option linter.unusedVariables false
set_option linter.unusedSimpArgs false
namespace VeT

theorem Rises.lt {s : Sim} (h : Rises s) : ∀ {i j : Nat} (hj : j < s.length) (hij : i < j),s[i] < s[j] := by
  intro i j
  induction j with
  | zero => intro _ h; omega
  | succ j ih =>
    intro hj hij
    have := h (j + 1) (by omega) hj
    rw [Nat.add_sub_cancel,getD_lt (by omega),getD_lt hj] at this
    by_cases e : i = j
    · subst e; exact this
    · exact Int.lt_trans (ih (by omega) (by omega)) this

end VeT

open Go Go.Proofs Ve
set_option linter.unusedVariables false
set_option linter.unusedSimpArgs false
namespace VeT

end VeT

open Go Go.Proofs Ve
set_option linter.unusedVariables false
set_option linter.unusedSimpArgs false
namespace VeT

/-! marks: what the laws write over arguments and results -/
def mkL (k : Int) (n : Nat) : Sim := (List.range n).map fun (i : Nat) => k + (i : Int)

theorem mkL_length {k : Int} {n : Nat} : (mkL k n).length = n := by simp [mkL]

theorem mkL_get {k : Int} {n i : Nat} (h : i < (mkL k n).length) : (mkL k n)[i] = k + i := by simp [mkL]

theorem markInt64S_ret (s : Sim) (k : Int) (hk : 0 ≤ k ∧ k ≤ 4611686018427387904) (hs : s.length ≤ 1048576) : Ret E n_Z32 [dL s,dI k] ⟨o_Z32,(k + s.length,mkL k s.length,())⟩ := by
  refine ret_of ?_
  simp only [run_Z32,Z32.ev]
  refine Ev.start (p := fun φ n => Z32.l0 (mkR (run E (φ 0))) (φ 0) n k 0 s = _) 1 ?_ (fun _ _ _ h => h)
  have hl : ∀ j,j ≤ s.length → (mkL k j ++ s.drop j).length = s.length := fun j hj => by rw [List.length_append,mkL_length,List.length_drop]; omega
  have := fold_loop 1 (L := fun φ n j (a : Int × Sim) => Z32.l0 (mkR (run E (φ 0))) (φ 0) n a.1 j a.2) (len := s.length) (fun j => (k + (j : Int),mkL k j ++ s.drop j)) (r := some ⟨o_Z32,(k + s.length,mkL k s.length,())⟩) (fun _ _ _ _ _ => rfl) (fun j r hj ih => ?_) ?_
  · simpa [mkL] using this
  · simp only [Z32.l0_succ _ mk_ok,hl j (by omega)]
    refine ev_t (decide_eq_true (by omega)) (ev_chk (by simp; omega) ?_)
    rw [w64_succ (by omega),w64_small (by omega) (by omega),Int.toNat_natCast]
    have e : (mkL k j ++ s.drop j).set j (k + j) = mkL k (j + 1) ++ s.drop (j + 1) := by
      rw [List.drop_eq_getElem_cons hj,List.set_append_right _ _ (by rw [mkL_length]; omega),mkL_length,Nat.sub_self,List.set_cons_zero]
      unfold mkL
      rw [List.range_succ,List.map_append,List.append_assoc]; rfl
    rw [e,show k + (j : Int) + 1 = k + ((j + 1 : Nat) : Int) by omega]
    exact ih
  · simp only [Z32.l0_succ _ mk_ok,hl s.length (Nat.le_refl _)]
    refine ev_f (decide_eq_false (by omega)) (ev_some ?_)
    simp

theorem heldInt64S_ret (k : Int) (n : Nat) (hk : 0 ≤ k ∧ k ≤ 4611686018427387904) (hn : n ≤ 1048576) : Ret E n_Z29 [dL (mkL k n),dI k] ⟨o_Z29,(k + n,())⟩ := by
  refine ret_of ?_
  simp only [run_Z29,Z29.ev]
  refine Ev.start (p := fun φ m => Z29.l0 (mkR (run E (φ 0))) (φ 0) m (mkL k n) k 0 = _) 1 ?_ (fun _ _ _ h => h)
  have := fold_loop 1 (L := fun φ m j a => Z29.l0 (mkR (run E (φ 0))) (φ 0) m (mkL k n) a j) (len := n) (fun j => k + (j : Int)) (r := some ⟨o_Z29,(k + n,())⟩) (fun _ _ _ _ _ => rfl) (fun j r hj ih => ?_) ?_
  · simpa using this
  · simp only [Z29.l0_succ _ mk_ok,mkL_length]
    have hj' : j < (mkL k n).length := by rw [mkL_length]; exact hj
    refine ev_t (decide_eq_true (by omega)) (ev_bind (idx_lt hj') (ev_f (by simp [mkL_get hj']) ?_))
    rw [w64_succ (by omega),w64_small (by omega) (by omega),show k + (j : Int) + 1 = k + ((j + 1 : Nat) : Int) by omega]
    exact ih
  · simp only [Z29.l0_succ _ mk_ok,mkL_length]
    exact ev_f (decide_eq_false (by omega)) ev_rfl

def mkLL : List Sim → Int → List Sim
  | [],_ => []
  | x :: xs,k => mkL k x.length :: mkLL xs (k + x.length)
def mkN : List Sim → Int → Int
  | [],k => k
  | x :: xs,k => mkN xs (k + x.length)

theorem mkLL_length : ∀ {xs : List Sim} {k : Int},(mkLL xs k).length = xs.length
  | [],_ => rfl
  | x :: xs,k => by simp [mkLL,mkLL_length]

theorem mkN_ge : ∀ {xs : List Sim} {k : Int},(∀ x ∈ xs,x.length ≤ 1048576) → k ≤ mkN xs k ∧ mkN xs k ≤ k + 1048576 * xs.length
  | [],k,_ => by simp [mkN]
  | x :: xs,k,h => by
    have h1 := mkN_ge (xs := xs) (k := k + x.length) fun y hy => h y (List.mem_cons_of_mem _ hy)
    have h2 := h x List.mem_cons_self
    simp only [mkN,List.length_cons]; omega

theorem markRows_evt : ∀ (xs : List Sim) (k : Int),0 ≤ k → k + 1048576 * xs.length ≤ 4611686018427387904 → (∀ x ∈ xs,x.length ≤ 1048576) → Evt fun n => markRows n_Z32 (mkR (run E n)) xs k = some (mkN xs k,mkLL xs k)
  | [],k,_,_,_ => Evt.of fun _ => rfl
  | x :: xs,k,h0,hb,hx => by
    have h2 := hx x List.mem_cons_self
    simp only [List.length_cons] at hb
    have h3 := markRows_evt xs (k + x.length) (by omega) (by omega) fun y hy => hx y (List.mem_cons_of_mem _ hy)
    have h4 := markInt64S_ret x k (by omega) h2
    refine (h4.and h3).mono fun n ⟨a,b⟩ => ?_
    have a' : callT (mkR (run E n)) n_Z32 oM [⟨tL,x⟩,⟨tI,k⟩] = some (k + x.length,mkL k x.length,()) := callT_of a
    simp only [markRows,a',Option.bind_some,b,Option.map_some,mkN,mkLL]

theorem run_markSS (n : Nat) (args : List Dv) : run E (n + 1) n_Z33 args = pMarkSS n_Z32 (mkR (run E n)) args := rfl

theorem markInt64SS_ret (xs : List Sim) (k : Int) (hk : 0 ≤ k ∧ k ≤ 1125899906842624) (hs : Sm (.sl (.sl (.int .i64))) xs) : Ret E n_Z33 [dLL xs,dI k] ⟨o_Z33,(mkN xs k,mkLL xs k,())⟩ := by
  have hs1 : xs.length ≤ 1048576 := hs.1
  refine Evt.succ ((markRows_evt xs k hk.1 (by omega) fun x hx => (hs.2 x hx).1).mono fun n h => ?_)
  rw [run_markSS]
  show ((markRows n_Z32 (mkR (run E n)) xs k).map fun q => (⟨.cons tI (.cons (.sl tL) .nil),(q.1,q.2,())⟩ : Dv)) = _
  rw [h]; rfl

theorem heldInt64SS_ret (xs : List Sim) (k : Int) (hk : 0 ≤ k ∧ k ≤ 1125899906842624) (hs : Sm (.sl (.sl (.int .i64))) xs) : Ret E n_Z30 [dLL (mkLL xs k),dI k] ⟨o_Z30,(mkN xs k,())⟩ := by
  have hs1 : xs.length ≤ 1048576 := hs.1
  refine ret_of ?_
  simp only [run_Z30,Z30.ev]
  refine Ev.start (p := fun φ m => Z30.l0 (mkR (run E (φ 0))) (φ 0) m (mkLL xs k) k 0 = _) 1 ?_ (fun _ _ _ h => h)
  -- the rows that are left
  refine loopR 1 (σ := Nat × Int) (L := fun φ m s => Z30.l0 (mkR (run E (φ 0))) (φ 0) m (mkLL xs k) s.2 (s.1 : Int)) (fun _ _ _ _ => rfl) (fun s => s.1 ≤ xs.length ∧ (mkLL xs k).drop s.1 = mkLL (xs.drop s.1) s.2 ∧ mkN xs k = mkN (xs.drop s.1) s.2 ∧ k ≤ s.2 ∧ s.2 ≤ k + 1048576 * s.1) (fun _ => _) (fun s => xs.length - s.1) (fun s hi ih => ?_) (0,k) ⟨Nat.zero_le _,rfl,rfl,Int.le_refl _,by simp⟩
  obtain ⟨j,q⟩ := s
  obtain ⟨h1,h2,h3,h4,h5⟩ := hi
  simp only at h1 h2 h3 h4 h5 ih
  simp only [Z30.l0_succ _ mk_ok,mkLL_length]
  refine ev_d (fun hlt => ?_) fun hlt => ev_some ?_
  · have hj : j < xs.length := by omega
    have hj' : j < (mkLL xs k).length := by rw [mkLL_length]; exact hj
    rw [List.drop_eq_getElem_cons hj,List.drop_eq_getElem_cons hj',mkLL] at h2
    rw [List.drop_eq_getElem_cons hj,mkN] at h3
    obtain ⟨e1,e2⟩ := List.cons.inj h2
    have hx := (sm_get hs hj).1
    have hx : (xs[j]).length ≤ 1048576 := hx
    refine ev_bind (idx_lt hj') ?_
    rw [e1]
    refine ev_call (heldInt64S_ret q (xs[j]).length (by omega) hx) (ev_f (decide_eq_false (Int.not_lt.2 (by show 0 ≤ q + ((xs[j]).length : Int); omega))) ?_)
    rw [w64_succ (by omega)]
    exact ih (j + 1,q + ((xs[j]).length : Int)) ⟨by show j + 1 ≤ _; omega,e2,h3,by show k ≤ q + ((xs[j]).length : Int); omega,by show q + ((xs[j]).length : Int) ≤ k + 1048576 * ((j + 1 : Nat) : Int); omega⟩ (by show xs.length - (j + 1) < xs.length - j; omega)
  · have e : j = xs.length := by omega
    subst e
    rw [List.drop_length,mkN] at h3
    rw [h3]

end VeT

open Go Go.Proofs Ve
set_option linter.unusedVariables false
set_option linter.unusedSimpArgs false
namespace VeT

theorem markComplexP_ret (xs : List Sim) (k : Int) (hk : 0 ≤ k ∧ k ≤ 1125899906842624) (hs : Sm (.sl (.sl (.int .i64))) xs) : Ret E n_Z31 [dLL xs,dI k] ⟨o_Z31,(mkN xs k,mkLL xs k,())⟩ := by
  refine ret_of ?_
  simp only [run_Z31,Z31.ev]
  exact ev_call (markInt64SS_ret xs k hk hs) ev_rfl

end VeT

open Go Go.Proofs Ve
set_option linter.unusedVariables false
set_option linter.unusedSimpArgs false
namespace VeT

end VeT

open Go Go.Proofs Ve
set_option linter.unusedVariables false
set_option linter.unusedSimpArgs false
namespace VeT

end VeT

open Go Go.Proofs Ve
set_option linter.unusedVariables false
set_option linter.unusedSimpArgs false
namespace VeT

theorem VM.len {m : Mat} (h : VM m) : m.2.2.2.1.length ≤ 1024 := by
  obtain ⟨R,C,_,hR,hC,hl⟩ := h.nat
  have := rc_le hR hC
  omega

end VeT

open Go Go.Proofs Ve
set_option linter.unusedVariables false
set_option linter.unusedSimpArgs false
namespace VeT

end VeT

open Go Go.Proofs Ve
set_option linter.unusedVariables false
set_option linter.unusedSimpArgs false
namespace VeT

end VeT

open Go Go.Proofs Ve
set_option linter.unusedVariables false
set_option linter.unusedSimpArgs false
namespace VeT

/-! marks of a sheaf that is a result -/
theorem heldComplex_ret (xs : List Sim) (k : Int) (hk : 0 ≤ k ∧ k ≤ 1125899906842624) (hs : Sm (.sl (.sl (.int .i64))) xs) : Ret E n_Z28 [dLL (mkLL xs k),dI k] ⟨o_Z28,(mkN xs k,())⟩ := by
  have h1 : xs.length ≤ 1048576 := hs.1
  have g := mkN_ge (xs := xs) (k := k) fun y hy => (hs.2 y hy).1
  refine ret_of ?_
  simp only [run_Z28,Z28.ev]
  exact ev_call (heldInt64SS_ret xs k hk hs) (ev_f (decide_eq_false (Int.not_lt.2 (by show 0 ≤ mkN xs k; omega))) ev_rfl)

end VeT

open Go Go.Proofs Ve
set_option linter.unusedVariables false
set_option linter.unusedSimpArgs false
namespace VeT

/-! a complex without some of its simplices -/
open Classical in
noncomputable def woN (c : List Sim) (pr : Sim) : Nat → List Sim
  | 0 => []
  | n + 1 => woN c pr n ++ if (n : Int) ∈ pr then [] else [c.getD n []]

theorem woN_sub {c : List Sim} {pr : Sim} : ∀ {n : Nat},n ≤ c.length → (woN c pr n).Sublist (c.take n)
  | 0,_ => by simp [woN]
  | n + 1,h => by
    have ih := woN_sub (c := c) (pr := pr) (n := n) (by omega)
    have hn : n < c.length := by omega
    rw [woN,List.take_succ_eq_append_getElem hn]
    split
    · rw [List.append_nil]
      exact ih.trans (List.sublist_append_left _ _)
    · rw [getD_lt hn]
      exact ih.append (List.Sublist.refl _)

theorem woN_len {c : List Sim} {pr : Sim} : ∀ {n : Nat},(woN c pr n).length ≤ n
  | 0 => by simp [woN]
  | n + 1 => by
    have := woN_len (c := c) (pr := pr) (n := n)
    rw [woN,List.length_append]; split <;> simp <;> omega

theorem srt_sub {c d : List Sim} (h : Srt c) (hd : d.Sublist c) : Srt d := by
  have hp : c.Pairwise (fun a b => cmpS a b < 0) := List.pairwise_iff_getElem.2 fun i j hi hj hij => h i j hj hij
  have hp2 := hp.sublist hd
  intro i j hj hij
  exact List.pairwise_iff_getElem.1 hp2 i j (by omega) hj hij

theorem sm_sub {c d : List Sim} (h : Sm (.sl (.sl (.int .i64))) c) (hd : d.Sublist c) : Sm (.sl (.sl (.int .i64))) d := ⟨Nat.le_trans hd.length_le h.1,fun x hx => h.2 x (hd.subset hx)⟩

theorem collapsed_ret (c : List Sim) (pr : Sim) (hp : pr.length ≤ 1048576) (hc : Sm (.sl (.sl (.int .i64))) c) (hs : Srt c) : Ret E n_Z10 [dLL c,dL pr] ⟨o_Z10,(woN c pr c.length,())⟩ := by
  have hl : c.length ≤ 1048576 := hc.1
  have hsub : (woN c pr c.length).Sublist c := by have := woN_sub (c := c) (pr := pr) (Nat.le_refl _); rwa [List.take_length] at this
  refine ret_of ?_
  simp only [run_Z10,Z10.ev]
  refine Ev.start (p := fun φ n => Z10.l0 (mkR (run E (φ 0))) (φ 0) n pr c (c.length : Int) 0 [] = _) 1 ?_ (fun _ _ _ h => h)
  refine fold_loop 1 (L := fun φ n k o => Z10.l0 (mkR (run E (φ 0))) (φ 0) n pr c (c.length : Int) k o) (len := c.length) (fun k => woN c pr k) (fun _ _ _ _ _ => rfl) (fun k r hk ih => ?_) ?_
  · simp only [Z10.l0_succ _ mk_ok]
    have hw := woN_len (c := c) (pr := pr) (n := k)
    rw [woN,getD_lt hk] at ih
    refine ev_t (decide_eq_true (by omega)) (ev_bind (idx_lt hk) (ev_call (Contains_ret pr k hp) ?_))
    rw [w64_succ (by omega)]
    by_cases hm : (k : Int) ∈ pr
    · rw [if_pos hm,List.append_nil] at ih
      exact ev_f (by rw [pb_true hm]; rfl) ih
    · rw [if_neg hm] at ih
      exact ev_t (by rw [pb_false hm]; rfl) (ev_chk (by simp only [List.length_singleton,decide_eq_true_eq]; omega) ih)
  · simp only [Z10.l0_succ _ mk_ok]
    exact ev_f (decide_eq_false (by omega)) (ev_call (inOrder_ret _ (sm_sub hc hsub) (srt_sub hs hsub)) ev_rfl)

theorem l08Without_ret (c : List Sim) (pr : Sim) (hp : pr.length ≤ 1048576) (hc : Sm (.sl (.sl (.int .i64))) c) : Ret E n_Z75 [dC (c,()),dL pr] ⟨o_Z75,(woN c pr c.length,())⟩ := by
  have hl : c.length ≤ 1048576 := hc.1
  refine ret_of ?_
  simp only [run_Z75,Z75.ev]
  refine Ev.start (p := fun φ n => Z75.l0 (mkR (run E (φ 0))) (φ 0) n (c,()) pr 0 [] = _) 1 ?_ (fun _ _ _ h => h)
  refine fold_loop 1 (L := fun φ n k o => Z75.l0 (mkR (run E (φ 0))) (φ 0) n (c,()) pr k o) (len := c.length) (fun k => woN c pr k) (fun _ _ _ _ _ => rfl) (fun k r hk ih => ?_) ?_
  · simp only [Z75.l0_succ _ mk_ok]
    have hw := woN_len (c := c) (pr := pr) (n := k)
    rw [woN,getD_lt hk] at ih
    refine ev_t (decide_eq_true (by show (k : Int) < (c.length : Int); omega)) (ev_call (l00Has_ret pr k hp) ?_)
    rw [w64_succ (by omega)]
    by_cases hm : (k : Int) ∈ pr
    · rw [if_pos hm,List.append_nil] at ih
      exact ev_f (by rw [pb_true hm]; rfl) ih
    · rw [if_neg hm] at ih
      exact ev_t (by rw [pb_false hm]; rfl) (ev_bind (idx_lt hk) (ev_call (l00Own_ret _ (sm_get hc hk).1) (ev_chk (by simp only [List.length_singleton,decide_eq_true_eq]; omega) ih)))
  · simp only [Z75.l0_succ _ mk_ok]
    exact ev_f (decide_eq_false (by show ¬ ((c.length : Int) < (c.length : Int)); omega)) ev_rfl

theorem frees_at {c : List Sim} : ∀ {n : Nat} {x : Sim},x ∈ frees c n ↔ ∃ k,k < n ∧ (star c (c.getD k []) c.length).length = 2 ∧ x = [(k : Int),(star c (c.getD k []) c.length).getD 1 0]
  | 0,x => by simp [frees]
  | n + 1,x => by
    rw [frees,List.mem_append,frees_at]
    constructor
    · rintro (⟨k,h1,h2,h3⟩ | h)
      · exact ⟨k,by omega,h2,h3⟩
      · split at h
        · rename_i hp
          rw [List.mem_singleton] at h
          exact ⟨n,by omega,hp,h⟩
        · simp at h
    · rintro ⟨k,h1,h2,h3⟩
      by_cases e : k = n
      · subst e
        right
        rw [if_pos h2,h3]; simp
      · exact .inl ⟨k,by omega,h2,h3⟩

end VeT

open Go Go.Proofs Ve
set_option linter.unusedVariables false
set_option linter.unusedSimpArgs false
namespace VeT

/-! free pairs are taken away until there is none -/
noncomputable def greedy : Nat → List Sim → Int → List Sim × Int × Int × Unit
  | 0,c,m => (c,m,0,())
  | n + 1,c,m => match frees c c.length with
    | [] => (c,m,0,())
    | pr :: _ => greedy n (woN c pr c.length) (m + 1)

theorem woN_less {c : List Sim} {pr : Sim} {k : Nat} (hk : (k : Int) ∈ pr) : ∀ {n : Nat},k < n → (woN c pr n).length < n
  | 0,h => by omega
  | n + 1,h => by
    rw [woN,List.length_append]
    by_cases e : k = n
    · subst e
      have := woN_len (c := c) (pr := pr) (n := k)
      rw [if_pos hk]; simp; omega
    · have := woN_less (c := c) hk (n := n) (by omega)
      split <;> simp <;> omega

theorem woN_none {c : List Sim} : ∀ {n : Nat},n ≤ c.length → woN c [] n = c.take n
  | 0,_ => by simp [woN]
  | n + 1,h => by
    have hn : n < c.length := by omega
    rw [woN,woN_none (by omega),if_neg (by simp),List.take_succ_eq_append_getElem hn,getD_lt hn]

theorem frees_pair {c : List Sim} {pr : Sim} {l : List Sim} (h : frees c c.length = pr :: l) : pr.length ≤ 1048576 ∧ (woN c pr c.length).length < c.length := by
  obtain ⟨k,hk,_,e⟩ := frees_at.1 (show pr ∈ frees c c.length by rw [h]; exact List.mem_cons_self)
  refine ⟨by rw [e]; simp,woN_less (k := k) (by rw [e]; exact List.mem_cons_self) hk⟩

theorem wo_sub {c : List Sim} {pr : Sim} : (woN c pr c.length).Sublist c := by have := woN_sub (c := c) (pr := pr) (Nat.le_refl _); rwa [List.take_length] at this

theorem greedyI (n : Nat) : ∀ (c : List Sim) (m : Nat),c.length ≤ n → m + c.length ≤ 1048576 → Sm (.sl (.sl (.int .i64))) c → Srt c →
    Ev fun φ => Z5.l0 (mkR (run E (φ 0))) (φ 0) (φ 1) (m : Int) (frees c c.length) c = some ⟨o_Z5,greedy n c m⟩ := by
  induction n with
  | zero =>
    intro c m hn hm hc hs
    have e : frees c c.length = [] := List.length_eq_zero_iff.1 (by have := frees_length (c := c) (k := c.length); omega)
    refine Ev.round 1 (L := fun φ n => Z5.l0 (mkR (run E (φ 0))) (φ 0) n (m : Int) (frees c c.length) c) ?_ (fun _ _ _ => rfl)
    simp only [Z5.l0_succ _ mk_ok]
    rw [e]
    exact ev_f rfl ev_rfl
  | succ n ih =>
    intro c m hn hm hc hs
    refine Ev.round 1 (L := fun φ n => Z5.l0 (mkR (run E (φ 0))) (φ 0) n (m : Int) (frees c c.length) c) ?_ (fun _ _ _ => rfl)
    simp only [Z5.l0_succ _ mk_ok]
    unfold greedy
    cases e : frees c c.length with
    | nil => exact ev_f rfl ev_rfl
    | cons pr l =>
      obtain ⟨h1,h2⟩ := frees_pair e
      have hc2 := sm_sub hc (wo_sub (c := c) (pr := pr))
      have hs2 := srt_sub hs (wo_sub (c := c) (pr := pr))
      refine ev_t (decide_eq_true (by simp)) (ev_bind (show idx? (pr :: l) 0 = some pr from rfl) (ev_call (collapsed_ret c pr h1 hc hs) (ev_call (freePairs_ret _ hc2) ?_)))
      rw [w64_succ (by omega)]
      exact ih (woN c pr c.length) (m + 1) (by omega) (by omega) hc2 hs2

theorem greedyS (n : Nat) : ∀ (c : List Sim) (m : Nat),c.length ≤ n → m + c.length ≤ 1048576 → Sm (.sl (.sl (.int .i64))) c →
    Ev fun φ => Z61.l0 (mkR (run E (φ 0))) (φ 0) (φ 1) (m : Int) c = some ⟨o_Z61,greedy n c m⟩ := by
  induction n with
  | zero =>
    intro c m hn hm hc
    have e : frees c c.length = [] := List.length_eq_zero_iff.1 (by have := frees_length (c := c) (k := c.length); omega)
    refine Ev.round 1 (L := fun φ n => Z61.l0 (mkR (run E (φ 0))) (φ 0) n (m : Int) c) ?_ (fun _ _ _ => rfl)
    simp only [Z61.l0_succ _ mk_ok]
    refine ev_call (l08Free_ret (c,()) hc) ?_
    show Ev fun φ => (bif (((frees c c.length).length : Int) == 0) then _ else _) = _
    rw [e]
    exact ev_t rfl ev_rfl
  | succ n ih =>
    intro c m hn hm hc
    refine Ev.round 1 (L := fun φ n => Z61.l0 (mkR (run E (φ 0))) (φ 0) n (m : Int) c) ?_ (fun _ _ _ => rfl)
    simp only [Z61.l0_succ _ mk_ok]
    unfold greedy
    have hf := l08Free_ret (c,()) hc
    simp only at hf
    refine ev_call hf ?_
    cases e : frees c c.length with
    | nil => exact ev_t rfl ev_rfl
    | cons pr l =>
      obtain ⟨h1,h2⟩ := frees_pair e
      have hc2 := sm_sub hc (wo_sub (c := c) (pr := pr))
      refine ev_f (by simp; omega) (ev_bind (show idx? (pr :: l) 0 = some pr from rfl) (ev_call (l08Without_ret c pr h1 hc) ?_))
      rw [w64_succ (by omega)]
      exact ih (woN c pr c.length) (m + 1) (by omega) (by omega) hc2

open Classical in
noncomputable def GreedyCollapseV (c : Cpx) : List Sim × Int × Int × Unit := if VC c.1 then greedy c.1.length c.1 0 else ([],0,1,())

theorem implGreedyCollapse_ret (c : Cpx) (sc : Sm (.st cC) c) : Ret E n_Z5 [dLL c.1] ⟨o_Z5,GreedyCollapseV c⟩ := by
  have hl : c.1.length ≤ 1048576 := sc.1.1
  refine ret_of ?_
  simp only [run_Z5,Z5.ev]
  refine ev_call (ValidComplex_ret c.1 sc.1) ?_
  unfold GreedyCollapseV
  by_cases h : VC c.1
  · rw [if_pos h]
    refine ev_f (by rw [pb_true h]; rfl) (ev_call (inOrder_ret c.1 sc.1 h.srt) (ev_call (freePairs_ret c.1 sc.1) ?_))
    exact Ev.start (p := fun φ n => Z5.l0 (mkR (run E (φ 0))) (φ 0) n 0 (frees c.1 c.1.length) c.1 = _) 1 (greedyI _ c.1 0 (Nat.le_refl _) (by omega) sc.1 h.srt) (fun _ _ _ h => h)
  · rw [if_neg h]
    exact ev_t (by rw [pb_false h]; rfl) ev_rfl

theorem specGreedyCollapse_ret (c : Cpx) (sc : Sm (.st cC) c) : Ret E n_Z61 [dLL c.1] ⟨o_Z61,GreedyCollapseV c⟩ := by
  have hl : c.1.length ≤ 1048576 := sc.1.1
  refine ret_of ?_
  simp only [run_Z61,Z61.ev]
  refine ev_call (l05Ok_ret (c.1,()) sc.1) ?_
  unfold GreedyCollapseV
  by_cases h : VC c.1
  · rw [if_pos h]
    have hw := l08Without_ret c.1 [] (by simp) sc.1
    rw [woN_none (Nat.le_refl _),List.take_length] at hw
    refine ev_f (by rw [pb_true h]; rfl) (ev_call hw ?_)
    exact Ev.start (p := fun φ n => Z61.l0 (mkR (run E (φ 0))) (φ 0) n 0 c.1 = _) 1 (greedyS _ c.1 0 (Nat.le_refl _) (by omega) sc.1) (fun _ _ _ h => h)
  · rw [if_neg h]
    exact ev_t (by rw [pb_false h]; rfl) ev_rfl

theorem greedy_sub : ∀ {n : Nat} {c : List Sim} {m : Int},((greedy n c m).1).Sublist c
  | 0,c,m => List.Sublist.refl _
  | n + 1,c,m => by
    unfold greedy
    cases e : frees c c.length with
    | nil => exact List.Sublist.refl _
    | cons pr l => exact greedy_sub.trans wo_sub

theorem GreedyCollapseV_sm (c : Cpx) (sc : Sm (.st cC) c) : Sm (.st cC) ((GreedyCollapseV c).1,()) := by
  have h0 : Sm (.sl (.sl (.int .i64))) ([] : List Sim) := ⟨by show (0 : Nat) ≤ 1048576; omega,fun _ h => by cases h⟩
  unfold GreedyCollapseV
  split
  · exact ⟨sm_sub sc.1 greedy_sub,trivial⟩
  · exact ⟨h0,trivial⟩

end VeT

open Go Go.Proofs Ve
set_option linter.unusedVariables false
set_option linter.unusedSimpArgs false
namespace VeT

theorem law_GreedyCollapse (x0 : Cpx) (w0 : Wf (.st cC) x0) : Ret E n_Z24 [dLL x0.1] ⟨.cons .bool .nil,(true,())⟩ := by
  refine ret_of ?_
  simp only [run_Z24,Z24.ev]
  obtain ⟨r0,hs0,s0⟩ := szComplex_ret x0 1048576 w0 (by omega) (by omega)
  refine ev_call hs0 (ev_d (fun _ => ev_rfl) fun n0 => ?_)
  have n0 := Int.not_lt.1 n0
  obtain ⟨b0,m0⟩ := s0 n0
  have hi := implGreedyCollapse_ret x0 m0
  have hsp := specGreedyCollapse_ret x0 m0
  have hsm := GreedyCollapseV_sm x0 m0
  generalize GreedyCollapseV x0 = V at hi hsp hsm
  obtain ⟨v0_0,v1,v2,⟨⟩⟩ := V
  have z0 : Sm (.st cC) (v0_0,()) := hsm
  obtain ⟨qr0,hqr0,eqr0⟩ := eqComplex_ret (v0_0,()) (v0_0,()) z0
  obtain rfl : qr0 = true := eqr0.2 rfl
  have to0 := toComplex_ret x0 m0
  obtain ⟨q0,hq0,eq0⟩ := eqComplex_ret x0 x0 m0
  obtain rfl : q0 = true := eq0.2 rfl
  have hm0 := markComplexP_ret x0.1 (1) (by omega) m0.1
  have hmb0 := mkN_ge (xs := x0.1) (k := 1) fun y hy => (m0.1.2 y hy).1
  have hml0 : x0.1.length ≤ 1048576 := m0.1.1
  have hk : ¬ (mkN x0.1 (1) < 0) := by omega
  have mr0 := markComplexP_ret v0_0 1 (by omega) z0.1
  have hl0 := heldComplex_ret v0_0 1 (by omega) z0.1
  have hb0 := mkN_ge (xs := v0_0) (k := 1) fun y hy => (z0.1.2 y hy).1
  have he0 : ¬ (mkN v0_0 1 < 0) := by omega
  repeat (first | with_reducible exact ev_rfl | with_reducible refine ev_call hqr0 ?_ | with_reducible refine ev_call to0 ?_ | with_reducible refine ev_call hq0 ?_ | with_reducible refine ev_call hi ?_ | with_reducible refine ev_call hsp ?_ | with_reducible refine ev_call hm0 ?_ | with_reducible refine ev_call mr0 ?_ | with_reducible refine ev_call hl0 ?_ | with_reducible refine ev_both ?_ ?_ | with_reducible refine ev_f (by first | rfl | exact bne_self_eq_false _ | exact decide_eq_false hk | exact decide_eq_false he0 | (simp; done)) ?_ | simp only [bne_self_eq_false,Z24.j0_eq _ mk_ok,Z24.j1_eq _ mk_ok,Z24.j2_eq _ mk_ok,cond_false])

theorem rowGreedyCollapse (z : ((.cons (.sl (.sl (.int .i64))) .nil) : Ty).T)
    (h : Wf (.cons (.sl (.sl (.int .i64))) .nil) z) :
    Evt fun n => run E n n_Z24 (unpack _ z) = some ⟨.cons .bool .nil,(true,())⟩ :=
  law_GreedyCollapse (z.1,()) ⟨h.1,trivial⟩

end VeT
