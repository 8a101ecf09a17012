import Derived.Test.YtonfceapakgcjaaGreatT5
import Derived.Test.YtonfceapakgcjaaGreatV2
import Derived.Test.YtonfceapakgcjaaGreatT4
set_option linter.unusedVariables false
set_option linter.unusedSimpArgs false
open Go Go.Proofs Ve
set_option linter.unusedVariables false
set_option linter.unusedSimpArgs false
namespace VeT

/-! rising lists -/
def putR : List Int → Int → List Int
  | [],n => [n]
  | x :: r,n => if x < n then x :: putR r n else if n < x then n :: x :: r else x :: r

theorem putR_mem : ∀ {l : List Int} {n y : Int},y ∈ putR l n ↔ y = n ∨ y ∈ l
  | [],n,y => by simp [putR]
  | x :: r,n,y => by
    unfold putR
    split
    · rw [List.mem_cons,putR_mem,List.mem_cons]
      constructor
      · rintro (h | h | h)
        · exact .inr (.inl h)
        · exact .inl h
        · exact .inr (.inr h)
      · rintro (h | h | h)
        · exact .inr (.inl h)
        · exact .inl h
        · exact .inr (.inr h)
    · split
      · rw [List.mem_cons]
      · have : x = n := by omega
        subst this
        rw [List.mem_cons]
        exact ⟨fun h => .inr h,fun h => h.elim (fun h => .inl h) id⟩

theorem putR_rise : ∀ {l : List Int} {n : Int},l.Pairwise (· < ·) → (putR l n).Pairwise (· < ·)
  | [],n,_ => by simp [putR]
  | x :: r,n,h => by
    rw [List.pairwise_cons] at h
    unfold putR
    split
    · rw [List.pairwise_cons]
      refine ⟨fun y hy => ?_,putR_rise h.2⟩
      rcases putR_mem.1 hy with rfl | hy
      · assumption
      · exact h.1 y hy
    · split
      · rw [List.pairwise_cons]
        refine ⟨fun y hy => ?_,List.pairwise_cons.2 h⟩
        rcases List.mem_cons.1 hy with rfl | hy
        · assumption
        · have := h.1 y hy; omega
      · exact List.pairwise_cons.2 h

theorem putR_length : ∀ {l : List Int} {n : Int},(putR l n).length ≤ l.length + 1
  | [],n => by simp [putR]
  | x :: r,n => by
    unfold putR
    split
    · have := putR_length (l := r) (n := n); simp; exact this
    · split <;> simp

theorem putsR : ∀ {xs acc : List Int},acc.Pairwise (· < ·) → (xs.foldl putR acc).Pairwise (· < ·) ∧ ∀ y,y ∈ xs.foldl putR acc ↔ y ∈ acc ∨ y ∈ xs
  | [],acc,h => ⟨h,fun y => by simp⟩
  | x :: xs,acc,h => by
    obtain ⟨h1,h2⟩ := putsR (xs := xs) (putR_rise (n := x) h)
    refine ⟨h1,fun y => ?_⟩
    rw [List.foldl_cons,h2,putR_mem,List.mem_cons]
    constructor
    · rintro ((h | h) | h)
      · exact .inr (.inl h)
      · exact .inl h
      · exact .inr (.inr h)
    · rintro (h | h | h)
      · exact .inl (.inr h)
      · exact .inl (.inl h)
      · exact .inr h

theorem compF_rise : ∀ {xs acc : List Int},acc.Pairwise (· < ·) → (∀ a ∈ acc,∀ x ∈ xs,a ≤ x) → xs.Pairwise (· ≤ ·) → (xs.foldl compF acc).Pairwise (· < ·) ∧ ∀ y,y ∈ xs.foldl compF acc ↔ y ∈ acc ∨ y ∈ xs
  | [],acc,h,_,_ => ⟨h,fun y => by simp⟩
  | x :: xs,acc,h,hle,hx => by
    rw [List.pairwise_cons] at hx
    rw [List.foldl_cons]
    by_cases hl : acc.getLast? = some x
    · have e : compF acc x = acc := by unfold compF; rw [if_pos hl]
      rw [e]
      obtain ⟨h1,h2⟩ := compF_rise h (fun a ha y hy => hle a ha y (List.mem_cons_of_mem _ hy)) hx.2
      refine ⟨h1,fun y => ?_⟩
      rw [h2,List.mem_cons]
      have hm : x ∈ acc := List.mem_of_getLast? hl
      constructor
      · rintro (h | h)
        · exact .inl h
        · exact .inr (.inr h)
      · rintro (h | rfl | h)
        · exact .inl h
        · exact .inl hm
        · exact .inr h
    · have e : compF acc x = acc ++ [x] := by unfold compF; rw [if_neg hl]
      rw [e]
      have hlt : ∀ a ∈ acc,a < x := by
        rcases List.eq_nil_or_concat acc with rfl | ⟨i,l,rfl⟩
        · simp
        · rw [List.concat_eq_append] at *
          rw [List.getLast?_append] at hl
          have hl' : l ≠ x := by simpa using hl
          have hlx := hle l (by simp) x List.mem_cons_self
          intro a ha
          rw [List.mem_append] at ha
          rcases ha with ha | ha
          · have := (List.pairwise_append.1 h).2.2 a ha l (by simp)
            omega
          · have : a = l := by simpa using ha
            omega
      obtain ⟨h1,h2⟩ := compF_rise (xs := xs) (acc := acc ++ [x]) (List.pairwise_append.2 ⟨h,by simp,fun a ha b hb => by
          have : b = x := by simpa using hb
          subst this; exact hlt a ha⟩) (fun a ha y hy => by
        rw [List.mem_append] at ha
        rcases ha with ha | ha
        · exact hle a ha y (List.mem_cons_of_mem _ hy)
        · have : a = x := by simpa using ha
          subst this; exact hx.1 y hy) hx.2
      refine ⟨h1,fun y => ?_⟩
      rw [h2,List.mem_append,List.mem_cons (a := y) (b := x) (l := xs),List.mem_singleton]
      constructor
      · rintro ((h | h) | h)
        · exact .inl h
        · exact .inr (.inl h)
        · exact .inr (.inr h)
      · rintro (h | h | h)
        · exact .inl (.inl h)
        · exact .inl (.inr h)
        · exact .inr h

theorem sortI_le (xs : List Int) : (sortI xs).Pairwise (· ≤ ·) := by
  have := List.pairwise_mergeSort (le := fun x y : Int => decide (x ≤ y)) (fun a b c h1 h2 => by simp at *; omega) (fun a b => by simp; omega) xs
  exact this.imp fun h => by simpa using h

/-- sorting and leaving out what stands twice: putting one after another -/
theorem comp_sort (xs : List Int) : compI (sortI xs) = xs.foldl putR [] := by
  obtain ⟨h1,h2⟩ := compF_rise (xs := sortI xs) (acc := []) List.Pairwise.nil (by simp) (sortI_le xs)
  obtain ⟨h3,h4⟩ := putsR (xs := xs) (acc := []) List.Pairwise.nil
  refine sorted_eq h1 h3 fun y => ?_
  unfold compI
  rw [h2,h4]
  unfold sortI
  rw [List.mem_mergeSort]

theorem puts_length : ∀ {xs acc : List Int},(xs.foldl putR acc).length ≤ acc.length + xs.length
  | [],acc => by simp
  | x :: xs,acc => by
    have h1 := puts_length (xs := xs) (acc := putR acc x)
    have h2 := putR_length (l := acc) (n := x)
    rw [List.foldl_cons,List.length_cons]
    omega

theorem run_Sort (n : Nat) (args : List Dv) : run E (n + 1) n_Z96 args = pSortI (mkR (run E n)) args := rfl

theorem Sort_ret (s : Sim) (hs : s.length ≤ 1048576) : Ret E n_Z96 [dL s] ⟨o_Z96,(sortI s,())⟩ := by
  refine ret_of ?_
  simp only [run_Sort]
  refine ev_some ?_
  have hc : chk (decide (s.length ≤ 1048576)) = some () := by rw [decide_eq_true hs]; rfl
  show ((some s).bind fun xs => (chk (decide (List.length xs ≤ 1048576))).map fun _ => (⟨.cons tL .nil,(sortI xs,())⟩ : Dv)) = _
  simp only [Option.bind_some,hc]
  rfl

theorem run_Compact (n : Nat) (args : List Dv) : run E (n + 1) n_Z76 args = pCompI (mkR (run E n)) args := rfl

theorem Compact_ret (s : Sim) (hs : s.length ≤ 1048576) : Ret E n_Z76 [dL s] ⟨o_Z76,(compI s,())⟩ := by
  refine ret_of ?_
  simp only [run_Compact]
  refine ev_some ?_
  have hc : chk (decide (s.length ≤ 1048576)) = some () := by rw [decide_eq_true hs]; rfl
  show ((some s).bind fun xs => (chk (decide (List.length xs ≤ 1048576))).map fun _ => (⟨.cons tL .nil,(compI xs,())⟩ : Dv)) = _
  simp only [Option.bind_some,hc]
  rfl

/-! the vertices -/
def vxN (c : List Sim) : Nat → List Int
  | 0 => []
  | k + 1 => if (c.getD k []).length = 1 then vxN c k ++ [(c.getD k []).getD 0 0] else vxN c k

abbrev vxs (c : List Sim) : List Int := vxN c c.length

theorem vxN_mem {c : List Sim} : ∀ {k : Nat} {v : Int},v ∈ vxN c k ↔ ∃ j,j < k ∧ c.getD j [] = [v]
  | 0,v => by simp [vxN]
  | k + 1,v => by
    have key : (c.getD k []).length = 1 → ((c.getD k []).getD 0 0 = v ↔ c.getD k [] = [v]) := fun h => by
      obtain ⟨u,hu⟩ := List.length_eq_one_iff.1 h
      rw [hu]; simp
    unfold vxN
    split
    · rename_i h1
      rw [List.mem_append,vxN_mem,List.mem_singleton]
      constructor
      · rintro (⟨j,h,e⟩ | h)
        · exact ⟨j,by omega,e⟩
        · exact ⟨k,by omega,(key h1).1 h.symm⟩
      · rintro ⟨j,h,e⟩
        by_cases hj : j = k
        · subst hj; exact .inr ((key h1).2 e).symm
        · exact .inl ⟨j,by omega,e⟩
    · rename_i h1
      rw [vxN_mem]
      constructor
      · rintro ⟨j,h,e⟩; exact ⟨j,by omega,e⟩
      · rintro ⟨j,h,e⟩
        by_cases hj : j = k
        · subst hj; rw [e] at h1; simp at h1
        · exact ⟨j,by omega,e⟩

theorem vxs_mem {c : List Sim} {v : Int} : v ∈ vxs c ↔ [v] ∈ c := by
  rw [vxN_mem,List.mem_iff_getElem]
  constructor
  · rintro ⟨j,h,e⟩; exact ⟨j,h,by rw [← e,getD_lt h]⟩
  · rintro ⟨j,h,e⟩; exact ⟨j,h,by rw [← e,getD_lt h]⟩

theorem vxN_length {c : List Sim} : ∀ {k : Nat},(vxN c k).length ≤ k
  | 0 => by simp [vxN]
  | k + 1 => by
    have := vxN_length (c := c) (k := k)
    unfold vxN
    split
    · simp; exact this
    · omega

theorem vxN_rise {c : List Sim} (h : Srt c) : ∀ {k : Nat},k ≤ c.length → (vxN c k).Pairwise (· < ·)
  | 0,_ => by simp [vxN]
  | k + 1,hk => by
    have ih := vxN_rise h (k := k) (by omega)
    unfold vxN
    split
    · rename_i h1
      refine List.pairwise_append.2 ⟨ih,by simp,fun a ha b hb => ?_⟩
      obtain ⟨j,hj,e⟩ := vxN_mem.1 ha
      have hb : b = (c.getD k []).getD 0 0 := by simpa using hb
      obtain ⟨u,hu⟩ := List.length_eq_one_iff.1 h1
      rw [hu] at hb
      have hb : b = u := by simpa using hb
      subst hb
      have := h j k (by omega) hj
      rw [getD_lt (by omega)] at e hu
      rw [e,hu] at this
      have h3 : cmpS [a] [b] = if a < b then -1 else if b < a then 1 else 0 := by
        simp [cmpS,cmp3,lexc]
      rw [h3] at this
      split at this
      · assumption
      · split at this <;> omega
    · exact ih

theorem verticesOf_ret (c : List Sim) (hc : Sm (.sl (.sl (.int .i64))) c) : Ret E n_Z59 [dLL c] ⟨o_Z59,(vxs c,())⟩ := by
  have hc1 : c.length ≤ 1048576 := hc.1
  refine ret_of ?_
  simp only [run_Z59,Z59.ev]
  refine Ev.start (p := fun φ n => Z59.l0 (mkR (run E (φ 0))) (φ 0) n c (c.length : Int) 0 [] = _) 1 ?_ (fun _ _ _ h => h)
  refine fold_loop 1 (L := fun φ n k a => Z59.l0 (mkR (run E (φ 0))) (φ 0) n c (c.length : Int) k a) (len := c.length) (fun k => vxN c k) (fun _ _ _ _ _ => rfl) (fun k r hk ih => ?_) ?_
  · simp only [Z59.l0_succ _ mk_ok]
    rw [w64_succ (by omega)]
    refine ev_t (decide_eq_true (by omega)) (ev_bind (idx_lt hk) ?_)
    have hl := vxN_length (c := c) (k := k)
    rw [vxN,getD_lt hk] at ih
    by_cases h1 : (c[k]).length = 1
    · rw [if_pos h1,getD_lt (by omega)] at ih
      refine ev_t (by simp [h1]) (ev_bind (idx_lt (k := 0) (by show 0 < (c[k]).length; omega)) (ev_chk (by simp; omega) ?_))
      exact ih
    · rw [if_neg h1] at ih
      exact ev_f (by simp; omega) ih
  · simp only [Z59.l0_succ _ mk_ok]
    exact ev_f (decide_eq_false (by omega)) ev_rfl

theorem l08Vertices_ret (c : Cpx) (hc : Sm (.sl (.sl (.int .i64))) c.1) : Ret E n_Z140 [dC c] ⟨o_Z140,(vxs c.1,())⟩ := by
  have hc1 : c.1.length ≤ 1048576 := hc.1
  refine ret_of ?_
  simp only [run_Z140,Z140.ev]
  refine Ev.start (p := fun φ n => Z140.l0 (mkR (run E (φ 0))) (φ 0) n c 0 [] = _) 1 ?_ (fun _ _ _ h => h)
  refine fold_loop 1 (L := fun φ n k a => Z140.l0 (mkR (run E (φ 0))) (φ 0) n c k a) (len := c.1.length) (fun k => vxN c.1 k) (fun _ _ _ _ _ => rfl) (fun k r hk ih => ?_) ?_
  · simp only [Z140.l0_succ _ mk_ok]
    rw [w64_succ (by omega)]
    refine ev_t (decide_eq_true (by omega)) (ev_bind (idx_lt hk) ?_)
    have hl := vxN_length (c := c.1) (k := k)
    rw [vxN,getD_lt hk] at ih
    by_cases h1 : (c.1[k]).length = 1
    · rw [if_pos h1,getD_lt (by omega)] at ih
      refine ev_t (by simp [h1]) (ev_bind (idx_lt hk) (ev_bind (idx_lt (k := 0) (by show 0 < (c.1[k]).length; omega)) (ev_chk (by simp; omega) ?_)))
      exact ih
    · rw [if_neg h1] at ih
      exact ev_f (by simp; omega) ih
  · simp only [Z140.l0_succ _ mk_ok]
    exact ev_f (decide_eq_false (by omega)) ev_rfl

theorem vert_mem {c : List Sim} (h : VC c) : ∀ (n : Nat) {s : Sim},s ∈ c → s.length = n + 1 → ∀ x ∈ s,[x] ∈ c
  | 0,s,hs,hl,x,hx => by
    obtain ⟨u,rfl⟩ := List.length_eq_one_iff.1 hl
    have : x = u := by simpa using hx
    subst this; exact hs
  | n + 1,s,hs,hl,x,hx => by
    obtain ⟨j,hj,rfl⟩ := List.mem_iff_getElem.1 hx
    obtain ⟨k,hk,hks⟩ := List.mem_iff_getElem.1 hs
    obtain ⟨i,hi,hij⟩ : ∃ i,i < s.length ∧ i ≠ j := by
      by_cases h0 : j = 0
      · exact ⟨1,by omega,by omega⟩
      · exact ⟨0,by omega,by omega⟩
    have hf : s.eraseIdx i ∈ c := h.2.2.2 k hk _ (by rw [getD_lt hk,hks]; exact faces_mem.2 ⟨by omega,i,hi,rfl⟩)
    refine vert_mem h n hf (by rw [List.length_eraseIdx,if_pos hi]; omega) _ ?_
    rw [List.mem_eraseIdx_iff_getElem]
    exact ⟨j,hj,fun e => hij e.symm,rfl⟩

theorem VC.vert {c : List Sim} (h : VC c) {s : Sim} (hs : s ∈ c) {x : Int} (hx : x ∈ s) : x ∈ vxs c := by
  have hl : 0 < s.length := List.length_pos_of_mem hx
  exact vxs_mem.2 (vert_mem h (s.length - 1) hs (by omega) x hx)

theorem VC.get {c : List Sim} (h : VC c) {s : Sim} (hs : s ∈ c) : Vx s := by
  obtain ⟨k,hk,rfl⟩ := List.mem_iff_getElem.1 hs
  have := h.2.1 k hk
  rwa [getD_lt hk] at this

/-! what is told -/
noncomputable def told (vs im : List Int) (v : Int) : Int := match vs.findIdx? (fun x => pb (x = v)) with
  | some i => im.getD i (-1)
  | none => -1

theorem told_of {vs im : List Int} {v : Int} (hv : v ∈ vs) (hl : im.length = vs.length) : ∃ i,∃ h : i < vs.length,∃ h' : i < im.length,vs[i] = v ∧ (∀ j (hj : j < i),vs[j] ≠ v) ∧ told vs im v = im[i] ∧ idxf (fun x => pb (x = v)) vs = (i : Int) := by
  unfold told idxf
  cases h : vs.findIdx? (fun x => pb (x = v)) with
  | none =>
    rw [List.findIdx?_eq_none_iff] at h
    have := h v hv
    rw [pb_true rfl] at this; cases this
  | some i =>
    rw [List.findIdx?_eq_some_iff_getElem] at h
    obtain ⟨h1,h2,h3⟩ := h
    refine ⟨i,h1,by omega,pb_iff.1 h2,fun j hj e => h3 j hj (pb_true e),?_,rfl⟩
    exact getD_lt (by omega)

noncomputable def img (vs im s : List Int) : List Int := (s.map (told vs im)).foldl putR []

theorem img_rise (vs im s : List Int) : (img vs im s).Pairwise (· < ·) := (putsR (xs := s.map (told vs im)) (acc := []) List.Pairwise.nil).1
theorem img_length (vs im s : List Int) : (img vs im s).length ≤ s.length := by
  have := puts_length (xs := s.map (told vs im)) (acc := [])
  simpa [img] using this

theorem imageOf_ret (c : List Sim) (im s : Sim) (hc : Sm (.sl (.sl (.int .i64))) c) (hl : im.length = (vxs c).length) (hs : ∀ x ∈ s,x ∈ vxs c) (hs1 : s.length ≤ 1048576) :
    Ret E n_Z34 [dLL c,dL im,dL s] ⟨o_Z34,(img (vxs c) im s,())⟩ := by
  have hvl := vxN_length (c := c) (k := c.length)
  have hc1 : c.length ≤ 1048576 := hc.1
  refine ret_of ?_
  simp only [run_Z34,Z34.ev]
  refine ev_call (verticesOf_ret c hc) ?_
  refine Ev.start (p := fun φ n => Z34.l0 (mkR (run E (φ 0))) (φ 0) n im (vxs c) s (s.length : Int) 0 [] = _) 1 ?_ (fun _ _ _ h => h)
  refine fold_loop 1 (L := fun φ n k a => Z34.l0 (mkR (run E (φ 0))) (φ 0) n im (vxs c) s (s.length : Int) k a) (len := s.length) (fun k => (s.take k).map (told (vxs c) im)) (fun _ _ _ _ _ => rfl) (fun k r hk ih => ?_) ?_
  · simp only [Z34.l0_succ _ mk_ok]
    rw [w64_succ (by omega)]
    obtain ⟨i,h1,h2,h3,h4,h5,h6⟩ := told_of (im := im) (hs s[k] (List.getElem_mem hk)) hl
    have hix := Index_ret (vxs c) s[k] (Nat.le_trans hvl hc1)
    rw [h6] at hix
    refine ev_t (decide_eq_true (by omega)) (ev_bind (idx_lt hk) (ev_call hix (ev_bind (idx_lt h2) (ev_chk (by simp; omega) ?_))))
    rw [List.take_succ_eq_append_getElem hk,List.map_append,List.map_singleton,h5] at ih
    exact ih
  · simp only [Z34.l0_succ _ mk_ok]
    rw [List.take_of_length_le (Nat.le_refl _)]
    have hsl : (sortI (s.map (told (vxs c) im))).length ≤ 1048576 := by unfold sortI; rw [List.length_mergeSort,List.length_map]; exact hs1
    refine ev_f (decide_eq_false (by omega)) (ev_call (Sort_ret _ (by rw [List.length_map]; exact hs1)) (ev_call (Compact_ret _ hsl) (ev_some ?_)))
    rw [comp_sort]; rfl

theorem l00Put_ret (l : Sim) (n : Int) (hl : l.length ≤ 1048576) : Ret E n_Z102 [dL l,dI n] ⟨o_Z102,(putR l n,())⟩ := by
  refine ret_of ?_
  simp only [run_Z102,Z102.ev]
  refine Ev.start (p := fun φ N => Z102.l0 (mkR (run E (φ 0))) (φ 0) N l n false 0 [] = _) 1 ?_ (fun _ _ _ h => h)
  refine (loopR 1 (σ := Bool × Nat × List Int) (L := fun φ N st => Z102.l0 (mkR (run E (φ 0))) (φ 0) N l n st.1 (st.2.1 : Int) st.2.2) (fun _ _ _ _ => rfl) (fun st => st.2.1 ≤ l.length ∧ st.2.2.length ≤ st.2.1 + (bif st.1 then 1 else 0))
    (fun st => some ⟨o_Z102,(st.2.2 ++ (bif st.1 then l.drop st.2.1 else putR (l.drop st.2.1) n),())⟩) (fun st => l.length - st.2.1) (fun st hi ih => ?_) (false,0,[]) ⟨Nat.zero_le _,Nat.zero_le _⟩).to (by simp only [List.nil_append,cond_false,List.drop_zero])
  obtain ⟨d,i,o⟩ := st
  obtain ⟨h1,h2⟩ := hi
  simp only at h1 h2 ih ⊢
  by_cases hlt : i < l.length
  · have ol : o.length ≤ i + 1 := by cases d <;> simp at h2 <;> omega
    have hd : l.drop i = l[i] :: l.drop (i + 1) := List.drop_eq_getElem_cons hlt
    -- what follows
    have step : ∀ (d' : Bool) (o' X : List Int),o'.length ≤ i + (bif d' then 1 else 0) → (o' ++ [l[i]]) ++ (bif d' then l.drop (i + 1) else putR (l.drop (i + 1)) n) = X →
        Ev fun φ => Z102.j2 (mkR (run E (φ 0))) (φ 0) (φ 1) l n d' (i : Int) o' = some ⟨o_Z102,(X,())⟩ := fun d' o' X hol hX => by
      have ho2 : o'.length ≤ i + 1 := by cases d' <;> simp at hol <;> omega
      have := ih (d',i + 1,o' ++ [l[i]]) ⟨by show i + 1 ≤ _; omega,by
        simp only [List.length_append,List.length_singleton]
        cases d' <;> simp at hol ⊢ <;> omega⟩ (by simp only; omega)
      simp only at this
      rw [hX] at this
      simp only [Z102.j2_eq _ mk_ok]
      rw [w64_succ (by omega)]
      exact ev_bind (idx_lt hlt) (ev_chk (by simp; omega) this)
    simp only [Z102.l0_succ _ mk_ok]
    refine ev_t (decide_eq_true (by omega)) ?_
    cases d with
    | true =>
      refine ev_f rfl ?_
      have e : o ++ List.drop i l = (o ++ [l[i]]) ++ l.drop (i + 1) := by rw [hd]; simp
      simp only [cond_true] at h2 ⊢
      rw [e]
      simp only [Z102.j1_eq _ mk_ok]
      refine ev_f rfl ?_
      exact step true o _ h2 (by simp only [cond_true])
    | false =>
      refine ev_t rfl (ev_bind (idx_lt hlt) ?_)
      simp only [cond_false,Nat.add_zero] at h2 ⊢
      simp only [Z102.j1_eq _ mk_ok]
      refine ev_d (fun hge => ?_) fun hge => ?_
      · have hge : l[i] ≥ n := hge
        refine ev_bind (idx_lt hlt) (ev_d (fun hgt => ?_) fun hgt => ?_)
        · have e : o ++ putR (List.drop i l) n = ((o ++ [n]) ++ [l[i]]) ++ l.drop (i + 1) := by
            rw [hd,putR,if_neg (by omega),if_pos (show n < l[i] from hgt)]; simp
          rw [e]
          exact ev_chk (by simp; omega) (step true (o ++ [n]) _ (by simp; omega) (by simp only [cond_true]))
        · have hgt : ¬ l[i] > n := hgt
          have e : o ++ putR (List.drop i l) n = (o ++ [l[i]]) ++ l.drop (i + 1) := by
            rw [hd,putR,if_neg (by omega),if_neg (by omega)]; simp
          rw [e]
          exact step true o _ (by simp; omega) (by simp only [cond_true])
      · have hge : ¬ l[i] ≥ n := hge
        have e : o ++ putR (List.drop i l) n = (o ++ [l[i]]) ++ putR (l.drop (i + 1)) n := by
          rw [hd,putR,if_pos (by omega)]; simp
        rw [e]
        exact step false o _ (by simp; omega) (by simp only [cond_false])
  · have hi : i = l.length := by omega
    subst hi
    simp only [Z102.l0_succ _ mk_ok,List.drop_length]
    refine ev_f (decide_eq_false (by omega)) ?_
    cases d with
    | true => exact ev_f rfl (ev_some (by simp only [cond_true,List.append_nil]))
    | false =>
      simp only [cond_false,Nat.add_zero] at h2 ⊢
      exact ev_t rfl (ev_chk (by simp; omega) ev_rfl)

theorem o2i_inj {a b : Option Nat} (h : o2i a = o2i b) : a = b := by
  cases a <;> cases b <;> simp [o2i] at h ⊢ <;> omega

theorem l08Told_ret (vs im : Sim) (v : Int) (hl : im.length = vs.length) (h1 : vs.length ≤ 1048576) : Ret E n_Z139 [dL vs,dL im,dI v] ⟨o_Z139,(told vs im v,())⟩ := by
  obtain ⟨o,h1,h2,h3⟩ := find_loop 1 (L := fun φ n k => Z139.l0 (mkR (run E (φ 0))) (φ 0) n vs im v k) (len := im.length) (fun k => ∃ h : k < vs.length,pb (vs[k] = v) = true) (fun o => some ⟨o_Z139,((match o with | some i => im.getD i (-1) | none => -1),())⟩) (fun _ _ _ _ => rfl) (fun k hk hP => by
      obtain ⟨h,hP⟩ := hP
      simp only [Z139.l0_succ _ mk_ok]
      refine ev_t (decide_eq_true (by omega)) (ev_bind (idx_lt h) (ev_t (by simpa using pb_iff.1 hP) (ev_bind (idx_lt hk) (ev_some ?_))))
      rw [getD_lt hk]) (fun k q hk hP ih => by
      have h : k < vs.length := by omega
      simp only [Z139.l0_succ _ mk_ok]
      refine ev_t (decide_eq_true (by omega)) (ev_bind (idx_lt h) (ev_f ?_ ?_))
      · have : ¬ vs[k] = v := fun e => hP ⟨h,pb_true e⟩
        simpa using this
      · rw [w64_succ (by omega)]; exact ih) (by
      simp only [Z139.l0_succ _ mk_ok]
      exact ev_f (decide_eq_false (by omega)) ev_rfl)
  rw [hl] at h1 h2
  have e : vs.findIdx? (fun x => pb (x = v)) = o := o2i_inj (idxf_of (p := fun x => pb (x = v)) h1 h2).symm
  refine ret_of ?_
  simp only [run_Z139,Z139.ev]
  unfold told
  rw [e]
  exact Ev.start (p := fun φ n => Z139.l0 (mkR (run E (φ 0))) (φ 0) n vs im v 0 = _) 1 h3 (fun _ _ _ h => h)

theorem l08Image_ret (vs im s : Sim) (hl : im.length = vs.length) (h1 : vs.length ≤ 1048576) (hs : ∀ x ∈ s,x ∈ vs) (hp : ∀ x ∈ im,0 ≤ x) (hs1 : s.length ≤ 1048576) :
    Ret E n_Z137 [dL vs,dL im,dL s] ⟨o_Z137,(img vs im s,true,())⟩ := by
  refine ret_of ?_
  simp only [run_Z137,Z137.ev]
  refine Ev.start (p := fun φ n => Z137.l0 (mkR (run E (φ 0))) (φ 0) n vs im s [] 0 = _) 1 ?_ (fun _ _ _ h => h)
  refine fold_loop 1 (L := fun φ n k a => Z137.l0 (mkR (run E (φ 0))) (φ 0) n vs im s a k) (len := s.length) (fun k => img vs im (s.take k)) (fun _ _ _ _ _ => rfl) (fun k r hk ih => ?_) ?_
  · simp only [Z137.l0_succ _ mk_ok]
    rw [w64_succ (by omega)]
    obtain ⟨i,h1',h2,h3,h4,h5,h6⟩ := told_of (im := im) (hs s[k] (List.getElem_mem hk)) hl
    have hpos : 0 ≤ told vs im s[k] := by rw [h5]; exact hp _ (List.getElem_mem h2)
    have hil := img_length vs im (s.take k)
    rw [List.length_take] at hil
    refine ev_t (decide_eq_true (by omega)) (ev_bind (idx_lt hk) (ev_call (l08Told_ret vs im s[k] hl h1) (ev_f (decide_eq_false (by show ¬ told vs im s[k] < 0; omega)) (ev_call (l00Put_ret _ _ (by omega)) ?_))))
    have e : img vs im (s.take (k + 1)) = putR (img vs im (s.take k)) (told vs im s[k]) := by
      unfold img
      rw [List.take_succ_eq_append_getElem hk,List.map_append,List.foldl_append]; rfl
    rw [e] at ih
    exact ih
  · simp only [Z137.l0_succ _ mk_ok]
    rw [List.take_of_length_le (Nat.le_refl _)]
    exact ev_f (decide_eq_false (by omega)) ev_rfl

end VeT

open Go Go.Proofs Ve
set_option linter.unusedVariables false
set_option linter.unusedSimpArgs false
namespace VeT

theorem findI_eq {c : List Sim} (hc : Srt c) {s : Sim} {m : Nat} (hm : m < c.length) : findI c s = (m : Int) ↔ s = c[m] := by
  have hs : findI c c[m] = (m : Int) := by
    unfold findI idxf
    have : c.findIdx? (fun x => pb (x = c[m])) = some m := by
      rw [List.findIdx?_eq_some_iff_getElem]
      refine ⟨hm,pb_true rfl,fun j hj h => ?_⟩
      have e := pb_iff.1 h
      have := hc j m hm hj
      rw [cmpS_zero.2 e] at this; omega
    rw [this]; rfl
  constructor
  · intro h
    have h0 : 0 ≤ findI c s := by omega
    obtain ⟨j,hj,e⟩ := List.mem_iff_getElem.1 (findI_nonneg.1 h0)
    subst e
    have hj2 : findI c c[j] = (j : Int) := by
      unfold findI idxf
      have : c.findIdx? (fun x => pb (x = c[j])) = some j := by
        rw [List.findIdx?_eq_some_iff_getElem]
        refine ⟨hj,pb_true rfl,fun i hi h => ?_⟩
        have e := pb_iff.1 h
        have := hc i j hj hi
        rw [cmpS_zero.2 e] at this; omega
      rw [this]; rfl
    have : j = m := by omega
    subst this; rfl
  · rintro rfl; exact hs

/-! the simplices of a dimension stand beside each other -/
theorem len_mono {c : List Sim} (h : Srt c) {i j : Nat} (hij : i ≤ j) (hj : j < c.length) : (c.getD i []).length ≤ (c.getD j []).length := by
  rw [getD_lt (by omega),getD_lt hj]
  by_cases e : i = j
  · subst e; exact Nat.le_refl _
  · have := h i j hj (by omega)
    rw [cmpS_lt] at this
    omega

theorem ofDim_run {c : List Sim} (h : Srt c) {d x : Int} (hx : x ∈ ofDim c d c.length) :
    ∃ s f0 : Nat,x = (s : Int) ∧ s < c.length ∧ f0 ≤ s ∧ (ofDim c d c.length).head? = some (f0 : Int) ∧ idxf (fun y => pb (y = x)) (ofDim c d c.length) = ((s - f0 : Nat) : Int) ∧ s - f0 < (ofDim c d c.length).length := by
  obtain ⟨s,rfl,hs,hd⟩ := ofDim_iff.1 hx
  obtain ⟨tl,hL⟩ := ofDim_pre hs hd
  have hne : ofDim c d c.length ≠ [] := by rw [hL]; simp
  obtain ⟨y,hy⟩ : ∃ y,(ofDim c d c.length).head? = some y := by
    cases hh : ofDim c d c.length with
    | nil => exact absurd hh hne
    | cons y l => exact ⟨y,rfl⟩
  have hym : y ∈ ofDim c d c.length := List.mem_of_head? hy
  obtain ⟨f0,rfl,hf,hfd⟩ := ofDim_iff.1 hym
  obtain ⟨tl2,hL2⟩ := ofDim_pre hf hfd
  have hz : ofDim c d f0 = [] := by
    cases hh : ofDim c d f0 with
    | nil => rfl
    | cons z l =>
      have hz : z ∈ ofDim c d f0 := by rw [hh]; exact List.mem_cons_self
      obtain ⟨i,rfl,hi⟩ := ofDim_mem hz
      rw [hL2,hh] at hy
      have : ((i : Nat) : Int) = f0 := by simpa using hy
      omega
  have hfs : f0 ≤ s := by
    refine Classical.byContradiction fun hn => ?_
    have : ((s : Nat) : Int) ∈ ofDim c d f0 := ofDim_iff.2 ⟨s,rfl,by omega,hd⟩
    rw [hz] at this; cases this
  have hlen : ∀ t,f0 + t ≤ s → (ofDim c d (f0 + t)).length = t := by
    intro t
    induction t with
    | zero => intro _; rw [Nat.add_zero,hz]; rfl
    | succ t ih =>
      intro ht
      have h1 := len_mono h (show f0 ≤ f0 + t by omega) (by omega)
      have h2 := len_mono h (show f0 + t ≤ s by omega) hs
      rw [← Nat.add_assoc,ofDim_succ,if_pos (by omega),List.length_append,ih (by omega)]; rfl
  have hls := hlen (s - f0) (by omega)
  rw [show f0 + (s - f0) = s by omega] at hls
  refine ⟨s,f0,rfl,hs,hfs,hy,?_,by rw [hL,List.length_append,hls]; simp⟩
  unfold idxf
  have : (ofDim c d c.length).findIdx? (fun y => pb (y = (s : Int))) = some (s - f0) := by
    rw [List.findIdx?_eq_some_iff_getElem]
    refine ⟨by rw [hL,List.length_append,hls]; simp,?_,fun j hj => ?_⟩
    · refine pb_true ?_
      have : (ofDim c d c.length)[s - f0]? = some (s : Int) := by
        rw [hL,List.getElem?_append_right (by omega),hls,Nat.sub_self]; rfl
      exact (List.getElem?_eq_some_iff.1 this).2
    · rw [pb_iff]
      intro e
      have hj' : j < (ofDim c d s).length := by omega
      have : (ofDim c d c.length)[j]? = some (ofDim c d s)[j] := by
        rw [hL,List.getElem?_append_left hj',List.getElem?_eq_getElem hj']
      have e2 := (List.getElem?_eq_some_iff.1 this).2
      rw [e] at e2
      obtain ⟨i,hi,hi2⟩ := ofDim_mem (List.getElem_mem hj')
      rw [← e2] at hi
      omega
  rw [this]; rfl

end VeT

open Go Go.Proofs Ve
set_option linter.unusedVariables false
set_option linter.unusedSimpArgs false
namespace VeT

/-- the list is a map of valid complexes -/
def Mp (a b : List Sim) (im : Sim) : Prop := im.length = (vxs a).length ∧ ∀ s ∈ a,img (vxs a) im s ∈ b

theorem sm_mem {t : Ty} {s : List t.T} (h : Sm (.sl t) s) {x : t.T} (hx : x ∈ s) : Sm t x := h.2 x hx

theorem told_at {vs im : List Int} (hr : vs.Pairwise (· < ·)) (hl : im.length = vs.length) {i : Nat} (hi : i < vs.length) : told vs im vs[i] = im[i]'(by omega) := by
  obtain ⟨j,h1,h2,h3,h4,h5,_⟩ := told_of (im := im) (List.getElem_mem hi) hl
  rw [List.pairwise_iff_getElem] at hr
  have : j = i := by
    rcases Nat.lt_trichotomy j i with h | h | h
    · have := hr j i h1 hi h; omega
    · exact h
    · have := hr i j hi h1 h; omega
  subst this
  exact h5

theorem img_one {vs im : List Int} {v : Int} : img vs im [v] = [told vs im v] := rfl

theorem Mp.vert {a b : List Sim} {im : Sim} (ha : VC a) (h : Mp a b im) : ∀ x ∈ im,[x] ∈ b := by
  intro x hx
  obtain ⟨i,hi,rfl⟩ := List.mem_iff_getElem.1 hx
  have hi' : i < (vxs a).length := by rw [← h.1]; exact hi
  have hv := vxs_mem.1 (List.getElem_mem hi')
  have := h.2 _ hv
  rw [img_one,told_at (vxN_rise ha.srt (Nat.le_refl _)) h.1 hi'] at this
  exact this

theorem Mp.range {a b : List Sim} {im : Sim} (ha : VC a) (hb : VC b) (h : Mp a b im) : ∀ x ∈ im,0 ≤ x ∧ x ≤ 9 := fun x hx =>
  (hb.get (h.vert ha x hx)).2.2.2 x (List.mem_singleton_self _)

theorem isMap_1_ret (a b : List Sim) (im s : Sim) (ha : VC a) (hb : VC b) (sa : Sm (.sl (.sl (.int .i64))) a) (sb : Sm (.sl (.sl (.int .i64))) b) (hl : im.length = (vxs a).length) (hs : s ∈ a) :
    Ret E n_Z41 [dL s,dC (b,()),dC (a,()),⟨.ptr (.cons (.sl (.int .i64)) .nil),(im,())⟩] ⟨o_Z41,(pb (¬ img (vxs a) im s ∈ b),())⟩ := by
  refine ret_of ?_
  simp only [run_Z41,Z41.ev]
  refine ev_call (imageOf_ret a im s sa hl (fun x hx => ha.vert hs hx) (sm_mem sa hs).1) (ev_call (indexOf_ret b _ sb hb.srt) (ev_some ?_))
  simp only [pb_dec,pb_congr (show findI b (img (vxs a) im s) < 0 ↔ ¬ img (vxs a) im s ∈ b by rw [← findI_nonneg]; omega)]

theorem isMap_ret (a b : List Sim) (im : Sim) (ha : VC a) (hb : VC b) (sa : Sm (.sl (.sl (.int .i64))) a) (sb : Sm (.sl (.sl (.int .i64))) b) :
    Ret E n_Z40 [dLL a,dLL b,dL im] ⟨o_Z40,(pb (Mp a b im),())⟩ := by
  refine ret_of ?_
  simp only [run_Z40,Z40.ev]
  refine ev_call (verticesOf_ret a sa) (ev_b (fun h => ev_some ?_) fun h => ?_)
  · have h : (im.length : Int) ≠ (vxs a).length := by simpa using h
    rw [pb_false fun hm => h (by rw [hm.1])]
  · have h : (im.length : Int) = (vxs a).length := by simpa using h
    have hl : im.length = (vxs a).length := by omega
    refine ev_call (ContainsFunc_SSint64_Sint64_impl_isMap_1_ret a ((b,()),(a,()),(im,()),()) _ sa.1 fun s hs => isMap_1_ret a b im s ha hb sa sb hl hs) (ev_some ?_)
    have : (!pb (∃ x ∈ a,pb (¬ img (vxs a) im x ∈ b) = true)) = pb (Mp a b im) := eq_pb (by
      simp only [Bool.not_eq_true',pb_not,pb_iff]
      exact ⟨fun hn => ⟨hl,fun s hs => Classical.byContradiction fun hb => hn ⟨s,hs,hb⟩⟩,fun hm ⟨s,hs,hb⟩ => hb (hm.2 s hs)⟩)
    rw [this]

theorem l08Fits_ret (a b : Cpx) (vs im : Sim) (sa : Sm (.sl (.sl (.int .i64))) a.1) (sb : Sm (.sl (.sl (.int .i64))) b.1) (hl : im.length = vs.length) (h1 : vs.length ≤ 1048576) (hs : ∀ s ∈ a.1,∀ x ∈ s,x ∈ vs) (hp : ∀ x ∈ im,0 ≤ x) :
    Ret E n_Z136 [dC a,dC b,dL vs,dL im] ⟨o_Z136,(pb (∀ s ∈ a.1,img vs im s ∈ b.1),())⟩ := by
  have sa1 : a.1.length ≤ 1048576 := sa.1
  refine ret_of ?_
  simp only [run_Z136,Z136.ev]
  refine Ev.start (p := fun φ n => Z136.l0 (mkR (run E (φ 0))) (φ 0) n a b vs im 0 = _) 1 ?_ (fun _ _ _ h => h)
  refine (all_pb 1 (L := fun φ n k => Z136.l0 (mkR (run E (φ 0))) (φ 0) n a b vs im k) (len := a.1.length) 0 (by omega) (fun j => img vs im (a.1.getD j []) ∈ b.1) (fun b => some ⟨o_Z136,(b,())⟩) (fun _ _ _ _ => rfl) (fun k _ hk hP _ => ?_) (fun k r _ hk hP _ ih => ?_) (fun _ => ?_)).to ?_
  · simp only [Z136.l0_succ _ mk_ok]
    rw [getD_lt hk] at hP
    refine ev_t (decide_eq_true (by omega)) (ev_bind (idx_lt hk) (ev_call (l08Image_ret vs im _ hl h1 (hs _ (List.getElem_mem hk)) hp (sm_get sa hk).1) (ev_t rfl (ev_call (l05Find_ret b _ sb) ?_))))
    simp only [Z136.j1_eq _ mk_ok]
    exact ev_t (decide_eq_true (Int.not_le.1 (mt (findI_nonneg (c := b.1) (s := img vs im a.1[k])).1 hP))) ev_rfl
  · simp only [Z136.l0_succ _ mk_ok]
    rw [getD_lt hk] at hP
    refine ev_t (decide_eq_true (by omega)) (ev_bind (idx_lt hk) (ev_call (l08Image_ret vs im _ hl h1 (hs _ (List.getElem_mem hk)) hp (sm_get sa hk).1) (ev_t rfl (ev_call (l05Find_ret b _ sb) ?_))))
    simp only [Z136.j1_eq _ mk_ok]
    refine ev_f (decide_eq_false (Int.not_lt.2 ((findI_nonneg (c := b.1) (s := img vs im a.1[k])).2 hP))) ?_
    rw [w64_succ (by omega)]; exact ih
  · simp only [Z136.l0_succ _ mk_ok]
    exact ev_f (decide_eq_false (by omega)) ev_rfl
  · refine congrArg (fun b : Bool => some (⟨o_Z136,(b,())⟩ : Dv)) (pb_congr ⟨fun h s hs => ?_,fun h j _ hj => ?_⟩)
    · obtain ⟨j,hj,rfl⟩ := List.mem_iff_getElem.1 hs
      have := h j (by omega) hj
      rwa [getD_lt hj] at this
    · rw [getD_lt hj]; exact h _ (List.getElem_mem hj)

theorem l08Map_ret (a b : Cpx) (im : Sim) (ha : VC a.1) (hb : VC b.1) (sa : Sm (.sl (.sl (.int .i64))) a.1) (sb : Sm (.sl (.sl (.int .i64))) b.1) (si : im.length ≤ 1048576) :
    Ret E n_Z138 [dC a,dC b,dL im] ⟨o_Z138,(pb (Mp a.1 b.1 im),())⟩ := by
  have hvl := vxN_length (c := a.1) (k := a.1.length)
  have sa1 : a.1.length ≤ 1048576 := sa.1
  refine ret_of ?_
  simp only [run_Z138,Z138.ev]
  refine ev_call (l08Vertices_ret a sa) ?_
  refine Ev.start (p := fun φ n => Z138.l0 (mkR (run E (φ 0))) (φ 0) n a b im (vxs a.1) 0 = _) 1 ?_ (fun _ _ _ h => h)
  obtain ⟨h1,h2⟩ := all_loop 1 (L := fun φ n k => Z138.l0 (mkR (run E (φ 0))) (φ 0) n a b im (vxs a.1) k) (len := im.length) 0 (by omega) (fun j => 0 ≤ im.getD j 0 ∧ im.getD j 0 ≤ 9) (rt := some ⟨o_Z138,(pb (Mp a.1 b.1 im),())⟩) (rf := some ⟨o_Z138,(false,())⟩) (fun _ _ _ _ => rfl) (fun k _ hk hP _ => by
      simp only [Z138.l0_succ _ mk_ok]
      rw [getD_lt hk] at hP
      exact ev_t (decide_eq_true (by omega)) (ev_bind (idx_lt hk) (ev_call (l00In_ret _ _ _) (ev_t (by rw [pb_false hP]; rfl) ev_rfl)))) (fun k r _ hk hP _ ih => by
      simp only [Z138.l0_succ _ mk_ok]
      rw [getD_lt hk] at hP
      refine ev_t (decide_eq_true (by omega)) (ev_bind (idx_lt hk) (ev_call (l00In_ret _ _ _) (ev_f (by rw [pb_true hP]; rfl) ?_)))
      rw [w64_succ (by omega)]; exact ih) (fun hall => by
      simp only [Z138.l0_succ _ mk_ok]
      refine ev_f (decide_eq_false (by omega)) (ev_b (fun h => ?_) fun h => ev_some ?_)
      · have h : (im.length : Int) = (vxs a.1).length := by simpa using h
        have hl : im.length = (vxs a.1).length := by omega
        refine ev_call (l08Fits_ret a b (vxs a.1) im sa sb hl (by omega) (fun s hs x hx => ha.vert hs hx) fun x hx => ?_) (ev_some ?_)
        · obtain ⟨j,hj,rfl⟩ := List.mem_iff_getElem.1 hx
          have := (hall j (by omega) hj).1
          rwa [getD_lt hj] at this
        · rw [pb_congr (show (∀ s ∈ a.1,img (vxs a.1) im s ∈ b.1) ↔ Mp a.1 b.1 im from ⟨fun h => ⟨hl,h⟩,fun h => h.2⟩)]
      · have h : (im.length : Int) ≠ (vxs a.1).length := by simpa using h
        rw [pb_false fun hm => h (by rw [hm.1])])
  by_cases hall : ∀ j,0 ≤ j → j < im.length → 0 ≤ im.getD j 0 ∧ im.getD j 0 ≤ 9
  · exact h1 hall
  · rw [pb_false fun hm => hall fun j _ hj => by rw [getD_lt hj]; exact hm.range ha hb _ (List.getElem_mem hj)]
    exact h2 hall

open Classical in
/-- the code of two complexes and a map -/
noncomputable def MC (a b : List Sim) (im : Sim) : Int := if VC a ∧ VC b then (if Mp a b im then 0 else 7) else 1

theorem MC_zero {a b : List Sim} {im : Sim} : MC a b im = 0 ↔ (VC a ∧ VC b) ∧ Mp a b im := by
  unfold MC
  by_cases h : VC a ∧ VC b
  · rw [if_pos h]
    by_cases hm : Mp a b im
    · rw [if_pos hm]
      exact ⟨fun _ => ⟨h,hm⟩,fun _ => rfl⟩
    · rw [if_neg hm]
      exact ⟨fun e => absurd e (by decide),fun e => absurd e.2 hm⟩
  · rw [if_neg h]
    exact ⟨fun e => absurd e (by decide),fun e => absurd e.1 h⟩

theorem mapped_ret (a b : List Sim) (im : Sim) (sa : Sm (.sl (.sl (.int .i64))) a) (sb : Sm (.sl (.sl (.int .i64))) b) : Ret E n_Z47 [dLL a,dLL b,dL im] ⟨o_Z47,(MC a b im,())⟩ := by
  refine ret_of ?_
  simp only [run_Z47,Z47.ev]
  refine ev_call (ValidComplex_ret a sa) ?_
  by_cases ha : VC a
  · refine ev_f (by rw [pb_true ha]; rfl) (ev_call (ValidComplex_ret b sb) ?_)
    simp only [Z47.j0_eq _ mk_ok]
    by_cases hb : VC b
    · refine ev_f (by rw [pb_true hb]; rfl) (ev_call (isMap_ret a b im ha hb sa sb) ?_)
      unfold MC
      rw [if_pos ⟨ha,hb⟩]
      by_cases hm : Mp a b im
      · rw [if_pos hm]
        exact ev_f (by rw [pb_true hm]; rfl) ev_rfl
      · rw [if_neg hm]
        exact ev_t (by rw [pb_false hm]; rfl) ev_rfl
    · unfold MC
      rw [if_neg fun h => hb h.2]
      exact ev_t (by rw [pb_false hb]; rfl) ev_rfl
  · unfold MC
    rw [if_neg fun h => ha h.1]
    refine ev_t (by rw [pb_false ha]; rfl) ?_
    simp only [Z47.j0_eq _ mk_ok]
    exact ev_t rfl ev_rfl

theorem l08Ask_ret (a b : Cpx) (im : Sim) (sa : Sm (.sl (.sl (.int .i64))) a.1) (sb : Sm (.sl (.sl (.int .i64))) b.1) (si : im.length ≤ 1048576) : Ret E n_Z133 [dC a,dC b,dL im] ⟨o_Z133,(MC a.1 b.1 im,())⟩ := by
  refine ret_of ?_
  simp only [run_Z133,Z133.ev]
  refine ev_call (l05Ok_ret a sa) ?_
  by_cases ha : VC a.1
  · refine ev_f (by rw [pb_true ha]; rfl) (ev_call (l05Ok_ret b sb) ?_)
    simp only [Z133.j0_eq _ mk_ok]
    by_cases hb : VC b.1
    · refine ev_f (by rw [pb_true hb]; rfl) (ev_call (l08Map_ret a b im ha hb sa sb si) ?_)
      unfold MC
      rw [if_pos ⟨ha,hb⟩]
      by_cases hm : Mp a.1 b.1 im
      · rw [if_pos hm]
        exact ev_f (by rw [pb_true hm]; rfl) ev_rfl
      · rw [if_neg hm]
        exact ev_t (by rw [pb_false hm]; rfl) ev_rfl
    · unfold MC
      rw [if_neg fun h => hb h.2]
      exact ev_t (by rw [pb_false hb]; rfl) ev_rfl
  · unfold MC
    rw [if_neg fun h => ha h.1]
    refine ev_t (by rw [pb_false ha]; rfl) ?_
    simp only [Z133.j0_eq _ mk_ok]
    exact ev_t rfl ev_rfl

/-! SimplexImage -/
theorem l08At_ret (a b : Cpx) (im : Sim) (k : Nat) (sa : Sm (.sl (.sl (.int .i64))) a.1) (sb : Sm (.sl (.sl (.int .i64))) b.1) (h : MC a.1 b.1 im = 0) (hk : k < a.1.length) :
    Ret E n_Z134 [dC a,dC b,dL im,dI (k : Int)] ⟨o_Z134,(findI b.1 (img (vxs a.1) im a.1[k]),())⟩ := by
  obtain ⟨⟨ha,hb⟩,hm⟩ := MC_zero.1 h
  have hvl := vxN_length (c := a.1) (k := a.1.length)
  have sa1 : a.1.length ≤ 1048576 := sa.1
  refine ret_of ?_
  simp only [run_Z134,Z134.ev]
  refine ev_bind (idx_lt hk) (ev_call (l08Vertices_ret a sa) (ev_call (l08Image_ret (vxs a.1) im _ hm.1 (Nat.le_trans hvl sa1) (fun x hx => ha.vert (List.getElem_mem hk) hx) (fun x hx => (hm.range ha hb x hx).1) (sm_get sa hk).1) (ev_call (l05Find_ret b _ sb) ev_rfl)))

end VeT

open Go Go.Proofs Ve
set_option linter.unusedVariables false
set_option linter.unusedSimpArgs false
namespace VeT

/-! inversions -/
def cntN (f : Nat → Int) (v : Int) : Nat → Nat
  | 0 => 0
  | x + 1 => cntN f v x + if v < f x then 1 else 0
def invN (f : Nat → Int) : Nat → Nat
  | 0 => 0
  | k + 1 => invN f k + cntN f (f k) k

theorem cntN_le {f : Nat → Int} {v : Int} : ∀ {x : Nat},cntN f v x ≤ x
  | 0 => Nat.le_refl _
  | x + 1 => by have := cntN_le (f := f) (v := v) (x := x); unfold cntN; split <;> omega
theorem invN_le {f : Nat → Int} : ∀ {k : Nat},invN f k ≤ k * k
  | 0 => Nat.le_refl _
  | k + 1 => by
    have h1 := invN_le (f := f) (k := k)
    have h2 := cntN_le (f := f) (v := f k) (x := k)
    have : (k + 1) * (k + 1) = k * k + k + k + 1 := by rw [Nat.add_mul,Nat.mul_add]; omega
    unfold invN; omega

noncomputable abbrev toldF (c : List Sim) (im s : Sim) : Nat → Int := fun x => told (vxs c) im (s.getD x 0)

theorem inversions_ret (c : List Sim) (im s : Sim) (hc : Sm (.sl (.sl (.int .i64))) c) (hl : im.length = (vxs c).length) (hs : ∀ x ∈ s,x ∈ vxs c) (hs4 : s.length ≤ 4) :
    Ret E n_Z38 [dLL c,dL im,dL s] ⟨o_Z38,((invN (toldF c im s) s.length : Nat),())⟩ := by
  refine ret_of ?_
  simp only [run_Z38,Z38.ev]
  refine Ev.start (p := fun φ n => Z38.l0 (mkR (run E (φ 0))) (φ 0) n im s 0 s (s.length : Int) 0 c = _) 1 ?_ (fun _ _ _ h => h)
  refine fold_loop 1 (L := fun φ n k a => Z38.l0 (mkR (run E (φ 0))) (φ 0) n im s a s (s.length : Int) k c) (len := s.length) (fun k => ((invN (toldF c im s) k : Nat) : Int)) (fun _ _ _ _ _ => rfl) (fun k r hk ih => ?_) ?_
  · simp only [Z38.l0_succ _ mk_ok]
    have hik := invN_le (f := toldF c im s) (k := k)
    have hkk : k * k ≤ 16 := Nat.le_trans (Nat.mul_le_mul (show k ≤ 4 by omega) (show k ≤ 4 by omega)) (by omega)
    refine ev_t (decide_eq_true (by omega)) (ev_bind (idx_lt hk) (ev_chk (by simp; omega) ?_))
    rw [Int.toNat_natCast]
    have htl : (s.take k).length = k := by rw [List.length_take]; omega
    rw [htl]
    refine Ev.start (p := fun φ n => Z38.l1 (mkR (run E (φ 0))) (φ 0) (φ 1) n im s ((invN (toldF c im s) k : Nat) : Int) s[k] s (s.length : Int) (k : Int) (s.take k) (k : Int) 0 c = _) 2 ?_ (fun _ _ _ h => h)
    refine fold_loop 2 (L := fun φ n x a => Z38.l1 (mkR (run E (φ 0))) (φ 0) (φ 1) n im s a s[k] s (s.length : Int) (k : Int) (s.take k) (k : Int) x c) (len := k) (fun x => ((invN (toldF c im s) k + cntN (toldF c im s) (toldF c im s k) x : Nat) : Int)) (fun _ _ _ _ _ => rfl) (fun x q hx ihx => ?_) ?_
    · simp only [Z38.l1_succ _ mk_ok]
      have hxl : x < s.length := by omega
      have hxt : x < (s.take k).length := by omega
      have hcx := cntN_le (f := toldF c im s) (v := toldF c im s k) (x := x)
      have e1 : (s.take k)[x] = s[x] := List.getElem_take
      have hw := imageOf_ret c im [s[k]] hc hl (fun y hy => by
        have : y = s[k] := by simpa using hy
        subst this; exact hs _ (List.getElem_mem hk)) (by simp)
      have hv := imageOf_ret c im [s[x]] hc hl (fun y hy => by
        have : y = s[x] := by simpa using hy
        subst this; exact hs _ (List.getElem_mem hxl)) (by simp)
      rw [img_one] at hw hv
      have fk : toldF c im s k = told (vxs c) im s[k] := by unfold toldF; rw [getD_lt hk]
      have fx : toldF c im s x = told (vxs c) im s[x] := by unfold toldF; rw [getD_lt hxl]
      refine ev_t (decide_eq_true (by omega)) (ev_bind (idx_lt hxt) ?_)
      rw [e1]
      have body : Ev fun φ => Z38.j2 (mkR (run E (φ 0))) (φ 0) (φ 1) (φ 2) im s ((invN (toldF c im s) k + cntN (toldF c im s) (toldF c im s k) x : Nat) : Int) s[k] s (s.length : Int) (k : Int) (s.take k) (k : Int) (x : Int) (decide (told (vxs c) im s[k] < told (vxs c) im s[x])) c = q := by
        simp only [Z38.j2_eq _ mk_ok]
        rw [show w64 ((x : Int) + 1) = ((x + 1 : Nat) : Int) from w64_succ (by omega)]
        unfold cntN at ihx
        refine ev_d (fun h => ?_) fun h => ?_
        · rw [fk,fx,if_pos h] at ihx
          rw [w64_succ (by omega),fk]
          exact ihx
        · rw [fk,fx,if_neg h,Nat.add_zero] at ihx
          rw [fk]
          exact ihx
      have step := ev_call (out := o_Z34) (K := fun φ r21 => Option.bind (idx? r21.1 (0 : Int)) fun y22 => Option.bind (callT (mkR (run E (φ 0))) n_Z34 o_Z34 [dLL c,dL im,dL [s[x]]]) fun r23 => Option.bind (idx? r23.1 (0 : Int)) fun y24 =>
        Z38.j2 (mkR (run E (φ 0))) (φ 0) (φ 1) (φ 2) im s ((invN (toldF c im s) k + cntN (toldF c im s) (toldF c im s k) x : Nat) : Int) s[k] s (s.length : Int) (k : Int) (s.take k) (k : Int) (x : Int) (decide (y22 < y24)) c) hw (ev_bind (x := told (vxs c) im s[k]) rfl (ev_call hv (ev_bind (x := told (vxs c) im s[x]) rfl body)))
      exact ev_both (ev_both step step) step
    · simp only [Z38.l1_succ _ mk_ok]
      rw [w64_succ (by omega)]
      exact ev_f (decide_eq_false (by omega)) ih
  · simp only [Z38.l0_succ _ mk_ok]
    exact ev_f (decide_eq_false (by omega)) ev_rfl

/-! the matrix -/
open Classical in
noncomputable def chC (a b : List Sim) (im : Sim) (k p : Int) : Nat → List Int
  | 0 => List.replicate ((ofDim b k b.length).length * (ofDim a k a.length).length) 0
  | j + 1 =>
    let s := a.getD ((ofDim a k a.length).getD j 0).toNat []
    if (img (vxs a) im s).length = s.length then (chC a b im k p j).set ((findI b (img (vxs a) im s) - (ofDim b k b.length).getD 0 0).toNat * (ofDim a k a.length).length + j) (sgn p (invN (toldF a im s) s.length)) else chC a b im k p j

theorem chC_length {a b : List Sim} {im : Sim} {k p : Int} : ∀ {j : Nat},(chC a b im k p j).length = (ofDim b k b.length).length * (ofDim a k a.length).length
  | 0 => by simp [chC]
  | j + 1 => by
    have := chC_length (a := a) (b := b) (im := im) (k := k) (p := p) (j := j)
    unfold chC
    simp only
    split
    · rw [List.length_set,this]
    · exact this

noncomputable def chM (a b : List Sim) (im : Sim) (k p : Int) : Mat := (p,((ofDim b k b.length).length : Int),((ofDim a k a.length).length : Int),chC a b im k p (ofDim a k a.length).length,())

structure ChF (a b : List Sim) (im : Sim) (k p : Int) : Prop where
  sa : Sm (.sl (.sl (.int .i64))) a
  sb : Sm (.sl (.sl (.int .i64))) b
  mc : MC a b im = 0
  hk : 0 ≤ k ∧ k ≤ 3
  hp : 2 ≤ p ∧ p ≤ 251
  la : (ofDim a k a.length).length ≤ 32
  lb : (ofDim b k b.length).length ≤ 32

/-- one column -/
theorem ChF.col {a b : List Sim} {im : Sim} {k p : Int} (F : ChF a b im k p) {j : Nat} (hj : j < (ofDim a k a.length).length) :
    ∃ s : Nat,∃ hs : s < a.length,(ofDim a k a.length)[j] = (s : Int) ∧ ((ofDim a k a.length).getD j 0).toNat = s ∧ a.getD s [] = a[s] ∧ (a[s].length : Int) = k + 1 ∧ a[s].length ≤ 4 ∧ img (vxs a) im a[s] ∈ b ∧
      ((img (vxs a) im a[s]).length = a[s].length → ∃ t f0 : Nat,findI b (img (vxs a) im a[s]) = (t : Int) ∧ f0 ≤ t ∧ (ofDim b k b.length).head? = some (f0 : Int) ∧ (ofDim b k b.length).getD 0 0 = (f0 : Int) ∧
        idxf (fun y => pb (y = (t : Int))) (ofDim b k b.length) = ((t - f0 : Nat) : Int) ∧ t - f0 < (ofDim b k b.length).length) := by
  obtain ⟨⟨ha,hb⟩,hm⟩ := MC_zero.1 F.mc
  obtain ⟨s,e,hs,hd⟩ := ofDim_iff.1 (List.getElem_mem hj)
  have hg : a.getD s [] = a[s] := getD_lt hs
  rw [hg] at hd
  have hin := hm.2 a[s] (List.getElem_mem hs)
  refine ⟨s,hs,e,by rw [getD_lt hj,e]; rfl,hg,hd,by have := F.hk; omega,hin,fun hl => ?_⟩
  have h0 : 0 ≤ findI b (img (vxs a) im a[s]) := findI_nonneg.2 hin
  obtain ⟨t,ht⟩ := Int.eq_ofNat_of_zero_le h0
  have htb : t < b.length ∧ b[t]? = some (img (vxs a) im a[s]) := by
    obtain ⟨q,hq,eq⟩ := List.mem_iff_getElem.1 hin
    have := (findI_eq hb.srt (s := img (vxs a) im a[s]) hq).2 eq.symm
    have : q = t := by omega
    subst this
    exact ⟨hq,by rw [List.getElem?_eq_getElem hq,eq]⟩
  have hmem : ((t : Nat) : Int) ∈ ofDim b k b.length := ofDim_iff.2 ⟨t,rfl,htb.1,by
    have : b.getD t [] = img (vxs a) im a[s] := by rw [List.getD_eq_getElem?_getD,htb.2]; rfl
    rw [this,hl]; exact hd⟩
  obtain ⟨t',f0,e1,e2,e3,e4,e5,e6⟩ := ofDim_run hb.srt hmem
  obtain rfl : t = t' := by omega
  refine ⟨t,f0,ht,e3,e4,?_,e5,e6⟩
  rw [List.getD_eq_getElem?_getD,← List.head?_eq_getElem?,e4]; rfl

theorem chC_succ {a b : List Sim} {im : Sim} {k p : Int} {j s : Nat} (e : ((ofDim a k a.length).getD j 0).toNat = s) (hg : ∀ h : s < a.length,a.getD s [] = a[s]) (hs : s < a.length) :
    ((img (vxs a) im a[s]).length = a[s].length → chC a b im k p (j + 1) = (chC a b im k p j).set ((findI b (img (vxs a) im a[s]) - (ofDim b k b.length).getD 0 0).toNat * (ofDim a k a.length).length + j) (sgn p (invN (toldF a im a[s]) a[s].length))) ∧
    (¬ (img (vxs a) im a[s]).length = a[s].length → chC a b im k p (j + 1) = chC a b im k p j) := by
  constructor
  · intro h
    rw [chC]
    simp only [e,hg hs]
    rw [if_pos h]
  · intro h
    rw [chC]
    simp only [e,hg hs]
    rw [if_neg h]

theorem chainMap_ret (a b : List Sim) (im : Sim) (k p : Int) (F : ChF a b im k p) : Ret E n_Z18 [dLL a,dLL b,dL im,dI k,dI p] ⟨o_Z18,chM a b im k p⟩ := by
  obtain ⟨⟨ha,hb⟩,hm⟩ := MC_zero.1 F.mc
  have hk := F.hk
  have la := F.la
  have lb := F.lb
  have hHW := rc_le lb la
  refine ret_of ?_
  simp only [run_Z18,Z18.ev]
  refine ev_call (simplicesOf_ret a k F.sa (by omega)) (ev_call (simplicesOf_ret b k F.sb (by omega)) (ev_call (sizeI_ret _) (ev_call (sizeI_ret _) (ev_call (zero_ret p _ _ lb la) ?_))))
  refine Ev.start (p := fun φ n => Z18.l0 (mkR (run E (φ 0))) (φ 0) n im p (ofDim a k a.length) (ofDim b k b.length) (ofDim a k a.length) ((ofDim a k a.length).length : Int) 0 a b 0 0 0 p ((ofDim b k b.length).length : Int) ((ofDim a k a.length).length : Int) (List.replicate ((ofDim b k b.length).length * (ofDim a k a.length).length) 0) = _) 1 ?_ (fun _ _ _ h => h)
  refine fold_loop 1 (L := fun φ n j o => Z18.l0 (mkR (run E (φ 0))) (φ 0) n im p (ofDim a k a.length) (ofDim b k b.length) (ofDim a k a.length) ((ofDim a k a.length).length : Int) j a b 0 0 0 p ((ofDim b k b.length).length : Int) ((ofDim a k a.length).length : Int) o) (len := (ofDim a k a.length).length) (fun j => chC a b im k p j) (fun _ _ _ _ _ => rfl) (fun j r hj ih => ?_) ?_
  · obtain ⟨s,hs,e1,e2,hg,e3,e4,e5,e6⟩ := F.col hj
    obtain ⟨c1,c2⟩ := chC_succ (b := b) (im := im) (p := p) e2 (fun _ => hg) hs
    simp only [Z18.l0_succ _ mk_ok]
    rw [w64_succ (by omega)]
    have hv : ∀ x ∈ a[s],x ∈ vxs a := fun x hx => ha.vert (List.getElem_mem hs) hx
    refine ev_t (decide_eq_true (by omega)) (ev_bind (idx_lt hj) ?_)
    rw [e1]
    refine ev_bind (idx_lt hs) (ev_call (imageOf_ret a im _ F.sa hm.1 hv (by omega)) (ev_b (fun h => ?_) fun h => ?_))
    · have h : ((img (vxs a) im a[s]).length : Int) = a[s].length := by simpa using h
      have h : (img (vxs a) im a[s]).length = a[s].length := by omega
      rw [c1 h] at ih
      obtain ⟨t,f0,t1,t2,t3,t4,t5,t6⟩ := e6 h
      have hix := Index_ret (ofDim b k b.length) (t : Int) (by omega)
      rw [t5] at hix
      have hfind := indexOf_ret b (img (vxs a) im a[s]) F.sb hb.srt
      rw [t1] at hfind
      rw [t1,t4,show ((t : Int) - (f0 : Int)).toNat = t - f0 by omega] at ih
      have hinv := inversions_ret a im a[s] F.sa hm.1 hv e4
      have hal := alternating_ret p (invN (toldF a im a[s]) a[s].length) F.hp
      have hlt := lt_rc t6 hj
      have hm2 : w64 (((t - f0 : Nat) : Int) * ((ofDim a k a.length).length : Int)) = (((t - f0) * (ofDim a k a.length).length : Nat) : Int) := by
        rw [cast_mul,w64_small (by omega) (by omega)]
      have hm3 : w64 ((((t - f0) * (ofDim a k a.length).length : Nat) : Int) + (j : Int)) = (((t - f0) * (ofDim a k a.length).length + j : Nat) : Int) := by
        rw [w64_small (by omega) (by omega)]; omega
      refine ev_call hfind (ev_call hix (ev_call hinv (ev_call hal ?_)))
      simp only
      rw [hm2,hm3,Int.toNat_natCast]
      exact ev_chk (by rw [chC_length]; simp; omega) ih
    · have h : ¬ ((img (vxs a) im a[s]).length : Int) = a[s].length := by simpa using h
      have h : ¬ (img (vxs a) im a[s]).length = a[s].length := by omega
      rw [c2 h] at ih
      exact ih
  · simp only [Z18.l0_succ _ mk_ok]
    exact ev_f (decide_eq_false (by omega)) ev_rfl

theorem l08Chain_ret (a b : List Sim) (im : Sim) (k p : Int) (F : ChF a b im k p) : Ret E n_Z135 [dC (a,()),dC (b,()),dL im,dI k,dI p] ⟨o_Z135,chM a b im k p⟩ := by
  obtain ⟨⟨ha,hb⟩,hm⟩ := MC_zero.1 F.mc
  have hk := F.hk
  have la := F.la
  have lb := F.lb
  have hHW := rc_le lb la
  have hvl := vxN_length (c := a) (k := a.length)
  have sa1 : a.length ≤ 1048576 := F.sa.1
  refine ret_of ?_
  simp only [run_Z135,Z135.ev]
  refine ev_call (l05Of_ret a k F.sa (by omega)) (ev_call (l05Of_ret b k F.sb (by omega)) (ev_call (l08Vertices_ret (a,()) F.sa) (ev_call (l03Zero_ret p _ _ lb la) ?_)))
  refine Ev.start (p := fun φ n => Z135.l0 (mkR (run E (φ 0))) (φ 0) n (a,()) (b,()) im p (ofDim a k a.length) (ofDim b k b.length) (vxs a) 0 0 0 0 p ((ofDim b k b.length).length : Int) ((ofDim a k a.length).length : Int) (List.replicate ((ofDim b k b.length).length * (ofDim a k a.length).length) 0) = _) 1 ?_ (fun _ _ _ h => h)
  refine fold_loop 1 (L := fun φ n j o => Z135.l0 (mkR (run E (φ 0))) (φ 0) n (a,()) (b,()) im p (ofDim a k a.length) (ofDim b k b.length) (vxs a) j 0 0 0 p ((ofDim b k b.length).length : Int) ((ofDim a k a.length).length : Int) o) (len := (ofDim a k a.length).length) (fun j => chC a b im k p j) (fun _ _ _ _ _ => rfl) (fun j r hj ih => ?_) ?_
  · obtain ⟨s,hs,e1,e2,hg,e3,e4,e5,e6⟩ := F.col hj
    obtain ⟨c1,c2⟩ := chC_succ (b := b) (im := im) (p := p) e2 (fun _ => hg) hs
    simp only [Z135.l0_succ _ mk_ok]
    refine ev_t (decide_eq_true (by omega)) (ev_bind (idx_lt hj) ?_)
    rw [e1]
    refine ev_bind (idx_lt hs) ?_
    refine Ev.start (p := fun φ n => Z135.l1 (mkR (run E (φ 0))) (φ 0) (φ 1) n (a,()) (b,()) im p (ofDim a k a.length) (ofDim b k b.length) (vxs a) (j : Int) a[s] 0 0 0 0 0 p ((ofDim b k b.length).length : Int) ((ofDim a k a.length).length : Int) [] (chC a b im k p j) = _) 2 ?_ (fun _ _ _ h => h)
    refine fold_loop 2 (α := Int × List Int) (L := fun φ n i o => Z135.l1 (mkR (run E (φ 0))) (φ 0) (φ 1) n (a,()) (b,()) im p (ofDim a k a.length) (ofDim b k b.length) (vxs a) (j : Int) a[s] o.1 i 0 0 0 p ((ofDim b k b.length).length : Int) ((ofDim a k a.length).length : Int) o.2 (chC a b im k p j)) (len := a[s].length) (fun i => (((invN (toldF a im a[s]) i : Nat) : Int),(a[s].take i).map (told (vxs a) im))) (fun _ _ _ _ _ => rfl) (fun i q hi ihi => ?_) ?_
    · simp only [Z135.l1_succ _ mk_ok] at ihi ⊢
      have hil : ((a[s].take i).map (told (vxs a) im)).length = i := by rw [List.length_map,List.length_take]; omega
      have fi : toldF a im a[s] i = told (vxs a) im a[s][i] := by unfold toldF; rw [getD_lt hi]
      have hik := invN_le (f := toldF a im a[s]) (k := i)
      have hkk : i * i ≤ 16 := Nat.le_trans (Nat.mul_le_mul (show i ≤ 4 by omega) (show i ≤ 4 by omega)) (by omega)
      refine ev_t (decide_eq_true (by omega)) (ev_bind (idx_lt hi) (ev_call (l08Told_ret (vxs a) im _ hm.1 (Nat.le_trans hvl sa1)) ?_))
      simp only
      refine Ev.start (p := fun φ n => Z135.l2 (mkR (run E (φ 0))) (φ 0) (φ 1) (φ 2) n (a,()) (b,()) im p (ofDim a k a.length) (ofDim b k b.length) (vxs a) (j : Int) a[s] ((invN (toldF a im a[s]) i : Nat) : Int) (i : Int) (told (vxs a) im a[s][i]) 0 0 0 0 p ((ofDim b k b.length).length : Int) ((ofDim a k a.length).length : Int) ((a[s].take i).map (told (vxs a) im)) (chC a b im k p j) = _) 3 ?_ (fun _ _ _ h => h)
      refine fold_loop 3 (L := fun φ n x o => Z135.l2 (mkR (run E (φ 0))) (φ 0) (φ 1) (φ 2) n (a,()) (b,()) im p (ofDim a k a.length) (ofDim b k b.length) (vxs a) (j : Int) a[s] o (i : Int) (told (vxs a) im a[s][i]) x 0 0 0 p ((ofDim b k b.length).length : Int) ((ofDim a k a.length).length : Int) ((a[s].take i).map (told (vxs a) im)) (chC a b im k p j)) (len := i) (fun x => ((invN (toldF a im a[s]) i + cntN (toldF a im a[s]) (toldF a im a[s] i) x : Nat) : Int)) (fun _ _ _ _ _ => rfl) (fun x q2 hx ihx => ?_) ?_
      · simp only [Z135.l2_succ _ mk_ok]
        have hxs : x < a[s].length := by omega
        have hcx := cntN_le (f := toldF a im a[s]) (v := toldF a im a[s] i) (x := x)
        have fx : toldF a im a[s] x = told (vxs a) im a[s][x] := by unfold toldF; rw [getD_lt hxs]
        have hget : ((a[s].take i).map (told (vxs a) im))[Int.toNat (x : Int)]? = some (told (vxs a) im a[s][x]) := by
          rw [Int.toNat_natCast,List.getElem?_map,List.getElem?_take,if_pos hx,List.getElem?_eq_getElem hxs]; rfl
        rw [hil]
        refine ev_t (decide_eq_true (by omega)) (ev_chk (by simp; omega) (ev_bind hget ?_))
        rw [w64_succ (k := x) (by omega)]
        unfold cntN at ihx
        refine ev_d (fun h => ?_) fun h => ?_
        · rw [fx,if_pos (by rw [fi]; exact h)] at ihx
          rw [w64_succ (by omega)]
          exact ihx
        · rw [fx,if_neg (by rw [fi]; exact h),Nat.add_zero] at ihx
          exact ihx
      · simp only [Z135.l2_succ _ mk_ok]
        rw [hil]
        refine ev_f (decide_eq_false (by omega)) (ev_chk (by simp; omega) ?_)
        rw [w64_succ (by omega)]
        have e : (a[s].take (i + 1)).map (told (vxs a) im) = (a[s].take i).map (told (vxs a) im) ++ [told (vxs a) im a[s][i]] := by
          rw [List.take_succ_eq_append_getElem hi,List.map_append,List.map_singleton]
        simp only [e] at ihi
        exact ihi
    · simp only [Z135.l1_succ _ mk_ok]
      rw [w64_succ (by omega)]
      refine ev_f (decide_eq_false (by omega)) (ev_bind (idx_lt hj) ?_)
      rw [e1]
      have h0 : 0 ≤ findI b (img (vxs a) im a[s]) := findI_nonneg.2 e5
      obtain ⟨t,ht⟩ := Int.eq_ofNat_of_zero_le h0
      obtain ⟨q,hq,eq⟩ := List.mem_iff_getElem.1 e5
      have hqt := (findI_eq hb.srt (s := img (vxs a) im a[s]) hq).2 eq.symm
      obtain rfl : q = t := by omega
      have hat := l08At_ret (a,()) (b,()) im s F.sa F.sb F.mc hs
      rw [hqt] at hat
      refine ev_call hat (ev_bind (idx_lt hq) ?_)
      rw [eq]
      refine ev_b (fun h => ?_) fun h => ?_
      · have h : ((img (vxs a) im a[s]).length : Int) = a[s].length := by simpa using h
        have h : (img (vxs a) im a[s]).length = a[s].length := by omega
        rw [c1 h] at ih
        obtain ⟨t',f0,t1,t2,t3,t4,t5,t6⟩ := e6 h
        obtain rfl : q = t' := by omega
        rw [t1,t4,show ((q : Int) - (f0 : Int)).toNat = q - f0 by omega] at ih
        have hlt := lt_rc t6 hj
        have h0' : 0 < (ofDim b k b.length).length := by omega
        have hget0 : idx? (ofDim b k b.length) (0 : Int) = some (f0 : Int) := by
          have : (ofDim b k b.length)[0] = (f0 : Int) := by rw [getD_lt h0'] at t4; exact t4
          rw [← this]; exact idx_lt (k := 0) h0'
        have ql : q ≤ 48 := Nat.le_trans (Nat.le_of_lt hq) hb.1
        have hm1 : w64 ((q : Int) - (f0 : Int)) = ((q - f0 : Nat) : Int) := by rw [w64_small (by omega) (by omega)]; omega
        have hm2 : w64 (((q - f0 : Nat) : Int) * ((ofDim a k a.length).length : Int)) = (((q - f0) * (ofDim a k a.length).length : Nat) : Int) := by
          rw [cast_mul,w64_small (by omega) (by omega)]
        have hm3 : w64 ((((q - f0) * (ofDim a k a.length).length : Nat) : Int) + (j : Int)) = (((q - f0) * (ofDim a k a.length).length + j : Nat) : Int) := by
          rw [w64_small (by omega) (by omega)]; omega
        refine ev_bind hget0 (ev_call (l07Sign_ret p (invN (toldF a im a[s]) a[s].length) F.hp) ?_)
        simp only
        rw [hm1,hm2,hm3,Int.toNat_natCast]
        exact ev_chk (by rw [chC_length]; simp; omega) ih
      · have h : ¬ ((img (vxs a) im a[s]).length : Int) = a[s].length := by simpa using h
        have h : ¬ (img (vxs a) im a[s]).length = a[s].length := by omega
        rw [c2 h] at ih
        exact ih
  · simp only [Z135.l0_succ _ mk_ok]
    exact ev_f (decide_eq_false (by omega)) ev_rfl

/-! codes -/
def Small (a b : List Sim) (k : Int) (ar : Nat) : Prop := ∀ t : Nat,0 ≤ t → t < 2 * ar + 1 → (ofDim a (k - ar + t) a.length).length ≤ 32 ∧ (ofDim b (k - ar + t) b.length).length ≤ 32

open Classical in
noncomputable def ChC (a b : List Sim) (im : Sim) (k p : Int) (ar : Nat) : Int :=
  if Pr p then (if MC a b im = 0 then (if 0 ≤ k ∧ k ≤ 3 then (if Small a b k ar then 0 else 5) else 2) else MC a b im) else 1

theorem ChC_zero {a b : List Sim} {im : Sim} {k p : Int} {ar : Nat} (h : ChC a b im k p ar = 0) : Pr p ∧ MC a b im = 0 ∧ (0 ≤ k ∧ k ≤ 3) ∧ Small a b k ar := by
  unfold ChC at h
  by_cases h1 : Pr p
  · rw [if_pos h1] at h
    by_cases h2 : MC a b im = 0
    · rw [if_pos h2] at h
      by_cases h3 : 0 ≤ k ∧ k ≤ 3
      · rw [if_pos h3] at h
        by_cases h4 : Small a b k ar
        · exact ⟨h1,h2,h3,h4⟩
        · rw [if_neg h4] at h; exact absurd h (by decide)
      · rw [if_neg h3] at h; exact absurd h (by decide)
    · rw [if_neg h2] at h; exact absurd h h2
  · rw [if_neg h1] at h; exact absurd h (by decide)

theorem chainMapped_ret (a b : List Sim) (im : Sim) (k p : Int) (ar : Nat) (har : ar ≤ 1) (sa : Sm (.sl (.sl (.int .i64))) a) (sb : Sm (.sl (.sl (.int .i64))) b) :
    Ret E n_Z19 [dLL a,dLL b,dL im,dI k,dI p,dI (ar : Int)] ⟨o_Z19,(ChC a b im k p ar,())⟩ := by
  refine ret_of ?_
  simp only [run_Z19,Z19.ev]
  unfold ChC
  refine ev_call (ValidPrime_ret p) ?_
  by_cases h1 : Pr p
  · rw [if_pos h1]
    refine ev_f (by rw [pb_true h1]; rfl) (ev_call (mapped_ret a b im sa sb) ?_)
    by_cases h2 : MC a b im = 0
    · rw [if_pos h2]
      refine ev_f (by simp [h2]) (ev_call (isDimension_ret k) ?_)
      by_cases h3 : 0 ≤ k ∧ k ≤ 3
      · rw [if_pos h3]
        refine ev_f (by rw [pb_true h3]; rfl) ?_
        rw [w64_small (by omega) (by omega)]
        have e0 : k - (ar : Int) = k - ar + ((0 : Nat) : Int) := by omega
        refine Ev.start (p := fun φ n => Z19.l0 (mkR (run E (φ 0))) (φ 0) n k (ar : Int) (k - ar) a b = _) 1 ?_ (fun _ _ _ h => h)
        have key := all_pb 1 (L := fun φ n t => Z19.l0 (mkR (run E (φ 0))) (φ 0) n k (ar : Int) (k - ar + t) a b) (len := 2 * ar + 1) 0 (by omega) (fun t => (ofDim a (k - ar + t) a.length).length ≤ 32 ∧ (ofDim b (k - ar + t) b.length).length ≤ 32) (fun q => some ⟨o_Z19,((bif q then 0 else 5),())⟩) (fun _ _ _ _ => rfl) (fun t _ ht hP _ => by
          simp only [Z19.l0_succ _ mk_ok]
          rw [w64_small (n := k + ar) (by omega) (by omega)]
          refine ev_t (decide_eq_true (by omega)) (ev_call (simplicesOf_ret a _ sa (by omega)) (ev_d (fun h => ?_) fun h => ?_))
          · simp only [Z19.j1_eq _ mk_ok]
            exact ev_t rfl ev_rfl
          · refine ev_call (simplicesOf_ret b _ sb (by omega)) ?_
            simp only [Z19.j1_eq _ mk_ok]
            exact ev_t (decide_eq_true (Classical.byContradiction fun h' => hP ⟨by first | omega | (simp only at h; omega),by first | omega | (simp only at h'; omega)⟩)) ev_rfl) (fun t r _ ht hP _ ih => by
          simp only [Z19.l0_succ _ mk_ok]
          rw [w64_small (n := k + ar) (by omega) (by omega)]
          refine ev_t (decide_eq_true (by omega)) (ev_call (simplicesOf_ret a _ sa (by omega)) (ev_f (decide_eq_false (by have := hP.1; first | omega | (simp only; omega))) (ev_call (simplicesOf_ret b _ sb (by omega)) ?_)))
          simp only [Z19.j1_eq _ mk_ok]
          refine ev_f (decide_eq_false (by have := hP.2; first | omega | (simp only; omega))) ?_
          rw [w64_small (by omega) (by omega),show k - ar + t + 1 = k - ar + ((t + 1 : Nat) : Int) by omega]
          exact ih) (fun _ => by
          simp only [Z19.l0_succ _ mk_ok]
          rw [w64_small (n := k + ar) (by omega) (by omega)]
          exact ev_f (decide_eq_false (by omega)) ev_rfl)
        rw [← e0] at key
        refine key.to ?_
        by_cases h4 : Small a b k ar
        · rw [if_pos h4]
          unfold Small at h4
          rw [pb_true h4]; rfl
        · rw [if_neg h4]
          unfold Small at h4
          rw [pb_false h4]; rfl
      · rw [if_neg h3]
        exact ev_t (by rw [pb_false h3]; rfl) ev_rfl
    · rw [if_neg h2]
      exact ev_t (by simpa using h2) ev_rfl
  · rw [if_neg h1]
    exact ev_t (by rw [pb_false h1]; rfl) ev_rfl

theorem ChF.of {a b : Cpx} {im : Sim} {k p : Int} {ar : Nat} (sa : Sm (.st cC) a) (sb : Sm (.st cC) b) (h : ChC a.1 b.1 im k p ar = 0) : ChF a.1 b.1 im k p := by
  obtain ⟨h1,h2,h3,h4⟩ := ChC_zero h
  have := h4 ar (by omega) (by omega)
  rw [show k - (ar : Int) + (ar : Int) = k by omega] at this
  exact ⟨sa.1,sb.1,h2,h3,⟨h1.1,h1.2.1⟩,this.1,this.2⟩

end VeT

open Go Go.Proofs Ve
set_option linter.unusedVariables false
set_option linter.unusedSimpArgs false
namespace VeT

end VeT

open Go Go.Proofs Ve
set_option linter.unusedVariables false
set_option linter.unusedSimpArgs false
namespace VeT

/-! boundaries -/
theorem fIdx_dim {c : List Sim} (h : VC c) {k : Int} {s : Nat} (hs : s < c.length) (hd : ((c.getD s []).length : Int) = k + 1) {x : Int} (hx : x ∈ fIdx c s) : x ∈ ofDim c (k - 1) c.length := by
  unfold fIdx at hx
  obtain ⟨f,hf,rfl⟩ := List.mem_map.1 hx
  have hfc := h.2.2.2 s hs f hf
  have hfl := faces_len hf
  obtain ⟨q,hq,e⟩ := List.mem_iff_getElem.1 hfc
  have := (findI_eq h.srt (s := f) hq).2 e.symm
  rw [this]
  exact ofDim_iff.2 ⟨q,rfl,hq,by rw [getD_lt hq,e]; omega⟩

noncomputable def bdJ (c : List Sim) (k p : Int) (s j : Nat) (cells : List Int) : Nat → List Int
  | 0 => cells
  | i + 1 => (bdJ c k p s j cells i).set (((fIdx c s).getD i 0 - (ofDim c (k - 1) c.length).getD 0 0).toNat * (ofDim c k c.length).length + j) (sgn p i)

noncomputable def bdC (c : List Sim) (k p : Int) : Nat → List Int
  | 0 => List.replicate ((ofDim c (k - 1) c.length).length * (ofDim c k c.length).length) 0
  | j + 1 => bdJ c k p ((ofDim c k c.length).getD j 0).toNat j (bdC c k p j) (fIdx c ((ofDim c k c.length).getD j 0).toNat).length

theorem bdJ_length {c : List Sim} {k p : Int} {s j : Nat} {cells : List Int} : ∀ {i : Nat},(bdJ c k p s j cells i).length = cells.length
  | 0 => rfl
  | i + 1 => by unfold bdJ; rw [List.length_set,bdJ_length]

theorem bdC_length {c : List Sim} {k p : Int} : ∀ {j : Nat},(bdC c k p j).length = (ofDim c (k - 1) c.length).length * (ofDim c k c.length).length
  | 0 => by simp [bdC]
  | j + 1 => by unfold bdC; rw [bdJ_length,bdC_length]

theorem bdJ_elems {c : List Sim} {k p : Int} (hp : 2 ≤ p ∧ p ≤ 251) {s j : Nat} {cells : List Int} (h : Elems cells p) : ∀ {i : Nat},Elems (bdJ c k p s j cells i) p
  | 0 => h
  | i + 1 => fun x hx => by
    unfold bdJ at hx
    rcases List.mem_or_eq_of_mem_set hx with hx | rfl
    · exact bdJ_elems hp h x hx
    · exact sgn_in hp i

theorem bdC_elems {c : List Sim} {k p : Int} (hp : 2 ≤ p ∧ p ≤ 251) : ∀ {j : Nat},Elems (bdC c k p j) p
  | 0 => rep_elems hp.1
  | j + 1 => by unfold bdC; exact bdJ_elems hp (bdC_elems hp)

theorem bdC_zero {c : List Sim} {p : Int} : ∀ {j : Nat},j ≤ (ofDim c 0 c.length).length → bdC c 0 p j = List.replicate ((ofDim c (0 - 1) c.length).length * (ofDim c 0 c.length).length) 0
  | 0,_ => rfl
  | j + 1,h => by
    unfold bdC
    obtain ⟨s,e,hs,hd⟩ := ofDim_iff.1 (List.getElem_mem (show j < (ofDim c 0 c.length).length by omega))
    have e2 : ((ofDim c 0 c.length).getD j 0).toNat = s := by rw [getD_lt (by omega),e]; rfl
    have hz : (fIdx c s).length = 0 := by rw [fIdx_length,if_neg (by omega)]
    rw [e2,hz,bdJ]
    exact bdC_zero (by omega)

noncomputable def bdM (c : List Sim) (k p : Int) : Mat := (p,((ofDim c (k - 1) c.length).length : Int),((ofDim c k c.length).length : Int),bdC c k p (ofDim c k c.length).length,())

structure BdF (c : List Sim) (k p : Int) : Prop where
  sc : Sm (.sl (.sl (.int .i64))) c
  vc : VC c
  pr : Pr p
  hk : 0 ≤ k ∧ k ≤ 4
  lu : (ofDim c k c.length).length ≤ 32
  ll : (ofDim c (k - 1) c.length).length ≤ 32

theorem BdF.hp {c : List Sim} {k p : Int} (F : BdF c k p) : 2 ≤ p ∧ p ≤ 251 := ⟨F.pr.1,F.pr.2.1⟩

theorem BdF.vm {c : List Sim} {k p : Int} (F : BdF c k p) : VM (bdM c k p) := by
  have := F.lu
  have := F.ll
  refine ⟨F.pr,⟨by show (0 : Int) ≤ ((ofDim c (k - 1) c.length).length : Int); omega,by show ((ofDim c (k - 1) c.length).length : Int) ≤ 32; omega⟩,⟨by show (0 : Int) ≤ ((ofDim c k c.length).length : Int); omega,by show ((ofDim c k c.length).length : Int) ≤ 32; omega⟩,?_,bdC_elems F.hp⟩
  show ((bdC c k p (ofDim c k c.length).length).length : Int) = ((ofDim c (k - 1) c.length).length : Int) * ((ofDim c k c.length).length : Int)
  rw [bdC_length,Int.natCast_mul]

/-- one column -/
theorem BdF.col {c : List Sim} {k p : Int} (F : BdF c k p) {j : Nat} (hj : j < (ofDim c k c.length).length) :
    ∃ s : Nat,s < c.length ∧ (ofDim c k c.length)[j] = (s : Int) ∧ ((ofDim c k c.length).getD j 0).toNat = s ∧ (fIdx c s).length ≤ 4 ∧
      ∀ i (hi : i < (fIdx c s).length),∃ t f0 : Nat,(fIdx c s)[i] = (t : Int) ∧ (fIdx c s).getD i 0 = (t : Int) ∧ t < c.length ∧ f0 ≤ t ∧ (ofDim c (k - 1) c.length).getD 0 0 = (f0 : Int) ∧
        idxf (fun y => pb (y = (t : Int))) (ofDim c (k - 1) c.length) = ((t - f0 : Nat) : Int) ∧ t - f0 < (ofDim c (k - 1) c.length).length := by
  obtain ⟨s,e,hs,hd⟩ := ofDim_iff.1 (List.getElem_mem hj)
  refine ⟨s,hs,e,by rw [getD_lt hj,e]; rfl,F.vc.fIdx4 hs,fun i hi => ?_⟩
  obtain ⟨t,f0,e1,e2,e3,e4,e5,e6⟩ := ofDim_run F.vc.srt (fIdx_dim F.vc hs hd (List.getElem_mem hi))
  refine ⟨t,f0,e1,by rw [getD_lt hi,e1],e2,e3,?_,by rw [← e1]; exact e5,e6⟩
  rw [List.getD_eq_getElem?_getD,← List.head?_eq_getElem?,e4]; rfl

theorem boundaryMatrix_ret (c : List Sim) (k p : Int) (F : BdF c k p) : Ret E n_Z17 [dLL c,dI k,dI p] ⟨o_Z17,bdM c k p⟩ := by
  have hk := F.hk
  have lu := F.lu
  have ll := F.ll
  have hHW := rc_le ll lu
  refine ret_of ?_
  simp only [run_Z17,Z17.ev]
  rw [w64_small (n := k - 1) (by omega) (by omega)]
  refine ev_call (simplicesOf_ret c (k - 1) F.sc (by omega)) (ev_call (simplicesOf_ret c k F.sc (by omega)) (ev_call (sizeI_ret _) (ev_call (sizeI_ret _) (ev_call (zero_ret p _ _ ll lu) ?_))))
  refine Ev.start (p := fun φ n => Z17.l0 (mkR (run E (φ 0))) (φ 0) n p (ofDim c (k - 1) c.length) (ofDim c k c.length) (ofDim c k c.length) ((ofDim c k c.length).length : Int) 0 c 0 0 0 p ((ofDim c (k - 1) c.length).length : Int) ((ofDim c k c.length).length : Int) (List.replicate ((ofDim c (k - 1) c.length).length * (ofDim c k c.length).length) 0) = _) 1 ?_ (fun _ _ _ h => h)
  refine fold_loop 1 (L := fun φ n j o => Z17.l0 (mkR (run E (φ 0))) (φ 0) n p (ofDim c (k - 1) c.length) (ofDim c k c.length) (ofDim c k c.length) ((ofDim c k c.length).length : Int) j c 0 0 0 p ((ofDim c (k - 1) c.length).length : Int) ((ofDim c k c.length).length : Int) o) (len := (ofDim c k c.length).length) (fun j => bdC c k p j) (fun _ _ _ _ _ => rfl) (fun j r hj ih => ?_) ?_
  · obtain ⟨s,hs,e1,e2,e4,e3⟩ := F.col hj
    rw [bdC,e2] at ih
    simp only [Z17.l0_succ _ mk_ok]
    refine ev_t (decide_eq_true (by omega)) (ev_bind (idx_lt hj) ?_)
    rw [e1]
    refine ev_call (faceIndices_ret c s hs F.sc F.vc.srt) ?_
    simp only
    refine Ev.start (p := fun φ n => Z17.l1 (mkR (run E (φ 0))) (φ 0) (φ 1) n p (ofDim c (k - 1) c.length) (ofDim c k c.length) (j : Int) (ofDim c k c.length) ((ofDim c k c.length).length : Int) (j : Int) (fIdx c s) ((fIdx c s).length : Int) 0 c 0 0 0 p ((ofDim c (k - 1) c.length).length : Int) ((ofDim c k c.length).length : Int) (bdC c k p j) = _) 2 ?_ (fun _ _ _ h => h)
    refine fold_loop 2 (L := fun φ n i o => Z17.l1 (mkR (run E (φ 0))) (φ 0) (φ 1) n p (ofDim c (k - 1) c.length) (ofDim c k c.length) (j : Int) (ofDim c k c.length) ((ofDim c k c.length).length : Int) (j : Int) (fIdx c s) ((fIdx c s).length : Int) i c 0 0 0 p ((ofDim c (k - 1) c.length).length : Int) ((ofDim c k c.length).length : Int) o) (len := (fIdx c s).length) (fun i => bdJ c k p s j (bdC c k p j) i) (fun _ _ _ _ _ => rfl) (fun i q hi ihi => ?_) ?_
    · obtain ⟨t,f0,t1,t2,tc,t3,t4,t5,t6⟩ := e3 i hi
      rw [bdJ,t2,t4,show ((t : Int) - (f0 : Int)).toNat = t - f0 by omega] at ihi
      simp only [Z17.l1_succ _ mk_ok]
      have hix := Index_ret (ofDim c (k - 1) c.length) (t : Int) (by omega)
      rw [t5] at hix
      have hlt := lt_rc t6 hj
      have hm2 : w64 (((t - f0 : Nat) : Int) * ((ofDim c k c.length).length : Int)) = (((t - f0) * (ofDim c k c.length).length : Nat) : Int) := by
        rw [cast_mul,w64_small (by omega) (by omega)]
      have hm3 : w64 ((((t - f0) * (ofDim c k c.length).length : Nat) : Int) + (j : Int)) = (((t - f0) * (ofDim c k c.length).length + j : Nat) : Int) := by
        rw [w64_small (by omega) (by omega)]; omega
      refine ev_t (decide_eq_true (by omega)) (ev_bind (idx_lt hi) ?_)
      rw [t1,w64_succ (k := i) (by omega)]
      refine ev_call hix (ev_call (alternating_ret p i F.hp) ?_)
      simp only
      rw [hm2,hm3,Int.toNat_natCast]
      exact ev_chk (by rw [bdJ_length,bdC_length]; simp; omega) ihi
    · simp only [Z17.l1_succ _ mk_ok]
      rw [w64_succ (k := j) (by omega)]
      exact ev_f (decide_eq_false (by omega)) ih
  · simp only [Z17.l0_succ _ mk_ok]
    exact ev_f (decide_eq_false (by omega)) ev_rfl

theorem l07Boundary_ret (c : List Sim) (k p : Int) (F : BdF c k p) : Ret E n_Z128 [dC (c,()),dI k,dI p] ⟨o_Z128,bdM c k p⟩ := by
  have hk := F.hk
  have lu := F.lu
  have ll := F.ll
  have hHW := rc_le ll lu
  refine ret_of ?_
  simp only [run_Z128,Z128.ev]
  rw [w64_small (n := k - 1) (by omega) (by omega)]
  refine ev_call (l05Of_ret c k F.sc (by omega)) (ev_call (l05Of_ret c (k - 1) F.sc (by omega)) (ev_call (l03Zero_ret p _ _ ll lu) ?_))
  refine Ev.start (p := fun φ n => Z128.l0 (mkR (run E (φ 0))) (φ 0) n (c,()) k p (ofDim c k c.length) (ofDim c (k - 1) c.length) 0 0 0 0 p ((ofDim c (k - 1) c.length).length : Int) ((ofDim c k c.length).length : Int) (List.replicate ((ofDim c (k - 1) c.length).length * (ofDim c k c.length).length) 0) = _) 1 ?_ (fun _ _ _ h => h)
  by_cases hk0 : k = 0
  · subst hk0
    have hz := bdC_zero (c := c) (p := p) (Nat.le_refl _)
    unfold bdM
    rw [hz]
    refine Ev.round 1 (L := fun φ n => Z128.l0 (mkR (run E (φ 0))) (φ 0) n (c,()) 0 p (ofDim c 0 c.length) (ofDim c (0 - 1) c.length) 0 0 0 0 p ((ofDim c (0 - 1) c.length).length : Int) ((ofDim c 0 c.length).length : Int) (List.replicate ((ofDim c (0 - 1) c.length).length * (ofDim c 0 c.length).length) 0)) ?_ (fun _ _ _ => rfl)
    simp only [Z128.l0_succ _ mk_ok,Z128.j1_eq _ mk_ok]
    refine ev_d (fun _ => ?_) fun _ => ?_
    · exact ev_f (by decide) ev_rfl
    · exact ev_f rfl ev_rfl
  refine fold_loop 1 (L := fun φ n j o => Z128.l0 (mkR (run E (φ 0))) (φ 0) n (c,()) k p (ofDim c k c.length) (ofDim c (k - 1) c.length) j 0 0 0 p ((ofDim c (k - 1) c.length).length : Int) ((ofDim c k c.length).length : Int) o) (len := (ofDim c k c.length).length) (fun j => bdC c k p j) (fun _ _ _ _ _ => rfl) (fun j r hj ih => ?_) ?_
  · obtain ⟨s,hs,e1,e2,e4,e3⟩ := F.col hj
    rw [bdC,e2] at ih
    simp only [Z128.l0_succ _ mk_ok,Z128.j1_eq _ mk_ok]
    refine ev_t (decide_eq_true (by omega)) (ev_t (decide_eq_true (by omega)) (ev_bind (idx_lt hj) ?_))
    rw [e1]
    refine ev_call (l05Faces_ret c s hs F.sc) ?_
    simp only
    refine Ev.start (p := fun φ n => Z128.l2 (mkR (run E (φ 0))) (φ 0) (φ 1) n (c,()) k p (ofDim c k c.length) (ofDim c (k - 1) c.length) (j : Int) (fIdx c s) 0 0 0 0 p ((ofDim c (k - 1) c.length).length : Int) ((ofDim c k c.length).length : Int) (bdC c k p j) = _) 2 ?_ (fun _ _ _ h => h)
    refine fold_loop 2 (L := fun φ n i o => Z128.l2 (mkR (run E (φ 0))) (φ 0) (φ 1) n (c,()) k p (ofDim c k c.length) (ofDim c (k - 1) c.length) (j : Int) (fIdx c s) i 0 0 0 p ((ofDim c (k - 1) c.length).length : Int) ((ofDim c k c.length).length : Int) o) (len := (fIdx c s).length) (fun i => bdJ c k p s j (bdC c k p j) i) (fun _ _ _ _ _ => rfl) (fun i q hi ihi => ?_) ?_
    · obtain ⟨t,f0,t1,t2,tc,t3,t4,t5,t6⟩ := e3 i hi
      rw [bdJ,t2,t4,show ((t : Int) - (f0 : Int)).toNat = t - f0 by omega] at ihi
      simp only [Z128.l2_succ _ mk_ok]
      have h0' : 0 < (ofDim c (k - 1) c.length).length := by omega
      have hget0 : idx? (ofDim c (k - 1) c.length) (0 : Int) = some (f0 : Int) := by
        have : (ofDim c (k - 1) c.length)[0] = (f0 : Int) := by rw [getD_lt h0'] at t4; exact t4
        rw [← this]; exact idx_lt (k := 0) h0'
      have ql : t ≤ 48 := Nat.le_trans (Nat.le_of_lt tc) F.vc.1
      have hlt := lt_rc t6 hj
      have hm1 : w64 ((t : Int) - (f0 : Int)) = ((t - f0 : Nat) : Int) := by rw [w64_small (by omega) (by omega)]; omega
      have hm2 : w64 (((t - f0 : Nat) : Int) * ((ofDim c k c.length).length : Int)) = (((t - f0) * (ofDim c k c.length).length : Nat) : Int) := by
        rw [cast_mul,w64_small (by omega) (by omega)]
      have hm3 : w64 ((((t - f0) * (ofDim c k c.length).length : Nat) : Int) + (j : Int)) = (((t - f0) * (ofDim c k c.length).length + j : Nat) : Int) := by
        rw [w64_small (by omega) (by omega)]; omega
      refine ev_t (decide_eq_true (by omega)) (ev_bind (idx_lt hi) (ev_bind hget0 ?_))
      rw [t1,w64_succ (k := i) (by omega)]
      refine ev_call (l07Sign_ret p i F.hp) ?_
      simp only
      rw [hm1,hm2,hm3,Int.toNat_natCast]
      exact ev_chk (by rw [bdJ_length,bdC_length]; simp; omega) ihi
    · simp only [Z128.l2_succ _ mk_ok]
      rw [w64_succ (k := j) (by omega)]
      exact ev_f (decide_eq_false (by omega)) ih
  · simp only [Z128.l0_succ _ mk_ok,Z128.j1_eq _ mk_ok]
    exact ev_f (decide_eq_false (by omega)) (ev_f rfl ev_rfl)

/-! codes -/
def Sm3 (c : List Sim) (k : Int) : Prop := ∀ t : Nat,0 ≤ t → t < 3 → (ofDim c (k - 1 + t) c.length).length ≤ 32

open Classical in
noncomputable def HC (c : List Sim) (k p : Int) : Int := if VC c ∧ Pr p then (if 0 ≤ k ∧ k ≤ 3 then (if Sm3 c k then 0 else 5) else 2) else 1

theorem HC_zero {c : List Sim} {k p : Int} (h : HC c k p = 0) : (VC c ∧ Pr p) ∧ (0 ≤ k ∧ k ≤ 3) ∧ Sm3 c k := by
  unfold HC at h
  by_cases h1 : VC c ∧ Pr p
  · rw [if_pos h1] at h
    by_cases h2 : 0 ≤ k ∧ k ≤ 3
    · rw [if_pos h2] at h
      by_cases h3 : Sm3 c k
      · exact ⟨h1,h2,h3⟩
      · rw [if_neg h3] at h; exact absurd h (by decide)
    · rw [if_neg h2] at h; exact absurd h (by decide)
  · rw [if_neg h1] at h; exact absurd h (by decide)

theorem HC_bd {c : List Sim} {k p : Int} (sc : Sm (.sl (.sl (.int .i64))) c) (h : HC c k p = 0) : BdF c k p ∧ BdF c (k + 1) p := by
  obtain ⟨⟨h1,h2⟩,h3,h4⟩ := HC_zero h
  have a := h4 0 (by omega) (by omega)
  have b := h4 1 (by omega) (by omega)
  have d := h4 2 (by omega) (by omega)
  rw [show k - 1 + ((0 : Nat) : Int) = k - 1 by omega] at a
  rw [show k - 1 + ((1 : Nat) : Int) = k by omega] at b
  rw [show k - 1 + ((2 : Nat) : Int) = k + 1 by omega] at d
  exact ⟨⟨sc,h1,h2,by omega,b,a⟩,⟨sc,h1,h2,by omega,d,by rw [show k + 1 - 1 = k by omega]; exact b⟩⟩

open Classical in
theorem l07Ask_ret (c : Cpx) (k p : Int) (sc : Sm (.sl (.sl (.int .i64))) c.1) : Ret E n_Z126 [dC c,dI k,dI p] ⟨o_Z126,(HC c.1 k p,())⟩ := by
  obtain ⟨c,⟨⟩⟩ := c
  have sc : Sm (.sl (.sl (.int .i64))) c := sc
  refine ret_of ?_
  simp only [run_Z126,Z126.ev]
  unfold HC
  refine ev_call (l05Ok_ret (c,()) sc) ?_
  by_cases h1 : VC c
  · refine ev_f (by rw [pb_true h1]; rfl) (ev_call (specValidPrime_ret p) ?_)
    simp only [Z126.j0_eq _ mk_ok]
    by_cases h2 : Pr p
    · rw [if_pos ⟨h1,h2⟩]
      refine ev_f (by rw [pb_true h2]; rfl) (ev_call (l05Dimension_ret k) ?_)
      by_cases h3 : 0 ≤ k ∧ k ≤ 3
      · rw [if_pos h3]
        refine ev_f (by rw [pb_true h3]; rfl) (ev_call (l05Of_ret c k sc (by omega)) ?_)
        rw [w64_small (n := k - 1) (by omega) (by omega),w64_small (n := k + 1) (by omega) (by omega)]
        have hs : Sm3 c k ↔ (ofDim c k c.length).length ≤ 32 ∧ (ofDim c (k - 1) c.length).length ≤ 32 ∧ (ofDim c (k + 1) c.length).length ≤ 32 := by
          unfold Sm3
          constructor
          · intro h
            have a := h 0 (by omega) (by omega)
            have b := h 1 (by omega) (by omega)
            have d := h 2 (by omega) (by omega)
            rw [show k - 1 + ((0 : Nat) : Int) = k - 1 by omega] at a
            rw [show k - 1 + ((1 : Nat) : Int) = k by omega] at b
            rw [show k - 1 + ((2 : Nat) : Int) = k + 1 by omega] at d
            exact ⟨b,a,d⟩
          · rintro ⟨b,a,d⟩ t _ ht
            rcases (show t = 0 ∨ t = 1 ∨ t = 2 by omega) with rfl | rfl | rfl
            · rw [show k - 1 + ((0 : Nat) : Int) = k - 1 by omega]; exact a
            · rw [show k - 1 + ((1 : Nat) : Int) = k by omega]; exact b
            · rw [show k - 1 + ((2 : Nat) : Int) = k + 1 by omega]; exact d
        have bad : ¬ Sm3 c k → Ev fun φ => Z126.j1 (mkR (run E (φ 0))) (φ 0) true = some ⟨o_Z126,((if Sm3 c k then 0 else 5),())⟩ := fun h => by
          rw [if_neg h]
          simp only [Z126.j1_eq _ mk_ok]
          exact ev_t rfl ev_rfl
        by_cases a1 : (ofDim c k c.length).length ≤ 32
        · refine ev_f (decide_eq_false (by first | omega | (simp only; omega))) (ev_call (l05Of_ret c (k - 1) sc (by omega)) ?_)
          by_cases a2 : (ofDim c (k - 1) c.length).length ≤ 32
          · refine ev_f (decide_eq_false (by first | omega | (simp only; omega))) (ev_call (l05Of_ret c (k + 1) sc (by omega)) ?_)
            by_cases a3 : (ofDim c (k + 1) c.length).length ≤ 32
            · rw [if_pos (hs.2 ⟨a1,a2,a3⟩)]
              simp only [Z126.j1_eq _ mk_ok]
              exact ev_f (decide_eq_false (by first | omega | (simp only; omega))) ev_rfl
            · rw [if_neg fun h => a3 (hs.1 h).2.2]
              simp only [Z126.j1_eq _ mk_ok]
              exact ev_t (decide_eq_true (by first | omega | (simp only; omega))) ev_rfl
          · exact ev_t (decide_eq_true (by first | omega | (simp only; omega))) (bad fun h => a2 (hs.1 h).2.1)
        · exact ev_t (decide_eq_true (by first | omega | (simp only; omega))) (bad fun h => a1 (hs.1 h).1)
      · rw [if_neg h3]
        exact ev_t (by rw [pb_false h3]; rfl) ev_rfl
    · rw [if_neg fun h => h2 h.2]
      exact ev_t (by rw [pb_false h2]; rfl) ev_rfl
  · rw [if_neg fun h => h1 h.1]
    refine ev_t (by rw [pb_false h1]; rfl) ?_
    simp only [Z126.j0_eq _ mk_ok]
    exact ev_t rfl ev_rfl

end VeT

open Go Go.Proofs Ve
set_option linter.unusedVariables false
set_option linter.unusedSimpArgs false
namespace VeT

/-! homology -/
noncomputable abbrev dimN (c : List Sim) (k : Int) : Nat := (ofDim c k c.length).length

noncomputable abbrev bdCols (c : List Sim) (k p : Int) : List Sim := colsL (dimN c k) (dimN c (k + 1)) (bdC c (k + 1) p (dimN c (k + 1)))
noncomputable abbrev kerB (c : List Sim) (k p : Int) : List Sim := kerM p (dimN c (k - 1)) (dimN c k) (bdC c k p (dimN c k))
noncomputable def homB (c : List Sim) (k p : Int) : List Sim := clsT p (dimN c k) (bdCols c k p) (kerB c k p)

theorem kerB_rws {c : List Sim} {k p : Int} (hp : 2 ≤ p) : Rws p (dimN c k) (kerB c k p) ∧ (kerB c k p).length ≤ dimN c k := ⟨fun r hr => kerL_mem hp hr,kerL_length⟩

theorem bdCols_facts {c : List Sim} {k p : Int} (F : BdF c (k + 1) p) : ColR p (dimN c k) (bdC c (k + 1) p (dimN c (k + 1))) (bdCols c k p) ∧ (bdCols c k p).length = dimN c (k + 1) ∧ Rws p (dimN c k) (bdCols c k p) := by
  have hl : (bdC c (k + 1) p (dimN c (k + 1))).length = dimN c k * dimN c (k + 1) := by
    rw [bdC_length,show k + 1 - 1 = k by omega]
  exact colsL_colR hl (bdC_elems F.hp)

theorem boundaries_ret (c : List Sim) (k p : Int) (F : BdF c (k + 1) p) : Ret E n_Z16 [dLL c,dI k,dI p] ⟨o_Z16,(p,(dimN c k : Int),bas p (dimN c k) (bdCols c k p),())⟩ := by
  obtain ⟨hcr,hcl,hcw⟩ := bdCols_facts F
  have hk := F.hk
  have lu : dimN c (k + 1) ≤ 32 := F.lu
  have ll := F.ll
  rw [show k + 1 - 1 = k by omega] at ll
  have ll : dimN c k ≤ 32 := ll
  have hm := boundaryMatrix_ret c (k + 1) p F
  unfold bdM at hm
  rw [show k + 1 - 1 = k by omega] at hm
  have hl : (bdC c (k + 1) p (dimN c (k + 1))).length = dimN c k * dimN c (k + 1) := by rw [bdC_length,show k + 1 - 1 = k by omega]
  have hcc := columnsOf_ret p (dimN c k) (dimN c (k + 1)) _ hl ll lu
  have hso := spaceOf_ret p (dimN c k) (bdCols c k p) F.hp (by rw [hcl]; omega) (by omega) hcw
  refine ret_of ?_
  simp only [run_Z16,Z16.ev,w64_small (n := k + 1) (by omega) (by omega)]
  exact ev_call hm (ev_call hcc (ev_call hso ev_rfl))

theorem homB_ret (c : List Sim) (k p : Int) (sc : Sm (.sl (.sl (.int .i64))) c) (h : HC c k p = 0) :
    Ret E n_Z33 [dLL c,dI k,dI p] ⟨o_Z33,(homB c k p,())⟩ ∧ Ret E n_Z127 [dC (c,()),dI k,dI p] ⟨o_Z127,(homB c k p,())⟩ := by
  obtain ⟨F,G⟩ := HC_bd sc h
  obtain ⟨hcr,hcl,hcw⟩ := bdCols_facts G
  have lu : dimN c k ≤ 32 := F.lu
  have ll : dimN c (k - 1) ≤ 32 := F.ll
  have lu2 : dimN c (k + 1) ≤ 32 := G.lu
  have hk := F.hk
  have hgk := G.hk
  obtain ⟨hkr,hkl⟩ := kerB_rws (c := c) (k := k) F.hp.1
  have hRC := rc_le ll lu
  have hlk : (bdC c k p (dimN c k)).length = dimN c (k - 1) * dimN c k := bdC_length
  have hm := boundaryMatrix_ret c k p F
  have hm2 := l07Boundary_ret c k p F
  have hm3 := l07Boundary_ret c (k + 1) p G
  unfold bdM at hm hm2 hm3
  rw [show k + 1 - 1 = k by omega] at hm3
  have hker := kernel_ret p (dimN c (k - 1)) (dimN c k) (bdC c k p (dimN c k)) F.hp (by omega) (by omega) (by omega) hlk (bdC_elems F.hp)
  have hker2 := l03Kernel_ret p (dimN c (k - 1)) (dimN c k) (bdC c k p (dimN c k)) F.hp (by omega) (by omega) (by omega) hlk (bdC_elems F.hp)
  have hi := independent_ret p (dimN c k) (bdCols c k p) (kerB c k p) F.pr (by omega) (by rw [hcl]; omega) hcw (by omega) hkr
  have hsp := l07Classes_ret p (dimN c k) (bdC c (k + 1) p (dimN c (k + 1))) (bdCols c k p) (kerB c k p) F.pr (by omega) (by rw [hcl]; omega) hcr hkr
  rw [hcl] at hsp
  constructor
  · refine ret_of ?_
    simp only [run_Z33,Z33.ev]
    exact ev_call (boundaries_ret c k p G) (ev_call hm (ev_call hker (ev_call hi ev_rfl)))
  · refine ret_of ?_
    simp only [run_Z127,Z127.ev,w64_small (n := k + 1) (by omega) (by omega)]
    exact ev_call hm2 (ev_call hm3 (ev_call hker2 (ev_call hsp ev_rfl)))

end VeT

open Go Go.Proofs Ve
set_option linter.unusedVariables false
set_option linter.unusedSimpArgs false
namespace VeT

/-! spec's reduced bases: how many vectors they hold -/
theorem Spn.cong {p : Int} {R W : Nat} {A B : Ent} (h : ∀ i j,i < R → j < W → A i j = B i j) {x : Nat → Int} : Spn p R W A x ↔ Spn p R W B x := by
  constructor
  · rintro ⟨c,hc⟩
    exact ⟨c,fun j hj => by rw [← hc j hj,dotN_congr (d := c) (h := fun i => A i j) fun i hi => ⟨rfl,(h i j hi hj).symm⟩]⟩
  · rintro ⟨c,hc⟩
    exact ⟨c,fun j hj => by rw [← hc j hj,dotN_congr (d := c) (h := fun i => B i j) fun i hi => ⟨rfl,h i j hi hj⟩]⟩

theorem flat_len {W : Nat} : ∀ {rows : List Sim},(∀ x ∈ rows,x.length = W) → rows.flatten.length = rows.length * W
  | [],_ => by simp
  | r :: rows,h => by
    rw [List.flatten_cons,List.length_append,flat_len fun x hx => h x (List.mem_cons_of_mem _ hx),h r List.mem_cons_self,List.length_cons,Nat.add_mul,Nat.one_mul,Nat.add_comm]

theorem Rws.snoc {p : Int} {W : Nat} {rows : List Sim} {x : Sim} (h : Rws p W rows) (h1 : x.length = W) (h2 : Elems x p) : Rws p W (rows ++ [x]) := fun r hr => by
  rcases List.mem_append.1 hr with hr | hr
  · exact h r hr
  · rw [List.mem_singleton] at hr; subst hr; exact ⟨h1,h2⟩

theorem l04Basis_ret (p : Int) (W : Nat) (rows : List Sim) (hp : Pr p) (hW : W ≤ 64) (hR : rows.length ≤ 4096) (hr : Rws p W rows) :
    ∃ l : List Sim,Ret E n_Z114 [dI p,dI (W : Int),dLL rows] ⟨o_Z114,(l,())⟩ ∧ l.length = rk p W rows := by
  have hfl : rows.flatten.length = rows.length * W := flat_len fun x hx => (hr x hx).1
  have hRW : rows.length * W ≤ 262144 := Nat.le_trans (Nat.mul_le_mul hR hW) (by omega)
  have he : Elems rows.flatten p := fun x hx => by
    obtain ⟨r,hr1,hr2⟩ := List.mem_flatten.1 hx
    exact (hr r hr1).2 x hr2
  obtain ⟨det,hred⟩ := l03Reduced_ret p rows.length W rows.flatten ⟨hp.1,hp.2.1⟩ (by omega) (by omega) (by omega) hfl he
  have hE : EIn p rows.length W (entM rows.flatten W) := entM_in he hfl
  have hrk := elS_rk hp hE
  have hle := (elS_in hp.1 hE W).2.1
  have e : rkV p W (Spn p rows.length W (entM rows.flatten W)) = rk p W rows := rkV_congr fun x => Spn.cong fun i j hi hj => flatten_getD (fun x hx => (hr x hx).1) hi hj
  rw [e] at hrk
  generalize elS p rows.length (entM rows.flatten W) W = S at hred hrk hle
  obtain ⟨F,pv⟩ := S
  simp only at hred hrk hle
  refine ⟨(List.range pv.length).map fun i => List.drop (i * W) (List.take ((i + 1) * W) (flatF F W rows.length)),?_,by simp [hrk]⟩
  refine ret_of ?_
  simp only [run_Z114,Z114.ev]
  refine ev_call (l04Rows_ret p (W : Int) rows (by omega) (by omega)) (ev_call hred ?_)
  refine Ev.start (p := fun φ q => Z114.l0 (mkR (run E (φ 0))) (φ 0) q (W : Int) (pvL pv) 0 p (rows.length : Int) (W : Int) (flatF F W rows.length) [] = _) 1 ?_ (fun _ _ _ h => h)
  refine fold_loop 1 (L := fun φ q k o => Z114.l0 (mkR (run E (φ 0))) (φ 0) q (W : Int) (pvL pv) k p (rows.length : Int) (W : Int) (flatF F W rows.length) o) (len := pv.length) (fun k => (List.range k).map fun i => List.drop (i * W) (List.take ((i + 1) * W) (flatF F W rows.length))) (fun _ _ _ _ _ => rfl) (fun k r hk ih => ?_) ?_
  · simp only [Z114.l0_succ _ mk_ok]
    rw [List.range_succ,List.map_append,List.map_singleton] at ih
    have h1 : (k + 1) * W ≤ rows.length * W := Nat.mul_le_mul_right _ (by omega)
    have h2 : k * W ≤ (k + 1) * W := Nat.mul_le_mul_right _ (by omega)
    have w1 : w64 ((k : Int) + 1) = ((k + 1 : Nat) : Int) := by rw [w64_succ (by omega)]
    have w2 : w64 ((k : Int) * (W : Int)) = ((k * W : Nat) : Int) := by rw [cast_mul,w64_small (by omega) (by omega)]
    have w3 : w64 (((k + 1 : Nat) : Int) * (W : Int)) = (((k + 1) * W : Nat) : Int) := by rw [cast_mul,w64_small (by omega) (by omega)]
    refine ev_t (decide_eq_true (by rw [pvL_length]; omega)) ?_
    simp only [w1,w2,w3,Int.toNat_natCast]
    refine ev_chk (by simp only [Bool.and_eq_true,decide_eq_true_eq,flatF_length]; omega) (ev_call (l00Own_ret _ (by rw [List.length_drop,List.length_take,flatF_length]; omega)) (ev_chk (by simp only [List.length_map,List.length_range,List.length_singleton,decide_eq_true_eq]; omega) ih))
  · simp only [Z114.l0_succ _ mk_ok]
    exact ev_f (decide_eq_false (by rw [pvL_length]; omega)) ev_rfl

theorem l04Columns_ret (p : Int) (K C : Nat) (cb : Sim) (hl : cb.length = K * C) (hK : K ≤ 32) (hC : C ≤ 32) : Ret E n_Z115 [dM (p,(K : Int),(C : Int),cb,())] ⟨o_Z115,(colsL K C cb,())⟩ := by
  have hKC : K * C ≤ 1024 := Nat.mul_le_mul hK hC
  refine ret_of ?_
  simp only [run_Z115,Z115.ev]
  generalize hm : (p,(K : Int),(C : Int),cb,()) = m
  have m2 : m.2.1 = (K : Int) := by rw [← hm]
  have m3 : m.2.2.1 = (C : Int) := by rw [← hm]
  have m4 : m.2.2.2.1 = cb := by rw [← hm]
  refine Ev.start (p := fun φ q => Z115.l0 (mkR (run E (φ 0))) (φ 0) q m 0 [] = _) 1 ?_ (fun _ _ _ h => h)
  refine fold_loop 1 (L := fun φ q k o => Z115.l0 (mkR (run E (φ 0))) (φ 0) q m k o) (len := C) (fun k => (List.range k).map fun i => (List.range K).map fun j => cb.getD (j * C + i) 0) (fun _ _ _ _ _ => rfl) (fun k r hk ih => ?_) ?_
  · simp only [Z115.l0_succ _ mk_ok]
    rw [List.range_succ,List.map_append,List.map_singleton] at ih
    refine ev_t (decide_eq_true (by omega)) ?_
    refine Ev.start (p := fun φ q => Z115.l1 (mkR (run E (φ 0))) (φ 0) (φ 1) q m (k : Int) 0 _ [] = _) 2 ?_ (fun _ _ _ h => h)
    refine fold_loop 2 (L := fun φ q i o => Z115.l1 (mkR (run E (φ 0))) (φ 0) (φ 1) q m (k : Int) i ((List.range k).map fun i => (List.range K).map fun j => cb.getD (j * C + i) 0) o) (len := K) (fun i => (List.range i).map fun j => cb.getD (j * C + k) 0) (fun _ _ _ _ _ => rfl) (fun i r2 hi ih2 => ?_) ?_
    · simp only [Z115.l1_succ _ mk_ok,m3,m4]
      rw [List.range_succ,List.map_append,List.map_singleton] at ih2
      have hlt : i * C + k < cb.length := by rw [hl]; exact lt_rc hi hk
      have hx : w64 (w64 ((i : Int) * (C : Int)) + (k : Int)) = ((i * C + k : Nat) : Int) := ix_eq (by omega)
      rw [hx]
      refine ev_t (decide_eq_true (by omega)) (ev_bind (idx_lt hlt) (ev_chk (by simp only [List.length_map,List.length_range,List.length_singleton,decide_eq_true_eq]; omega) ?_))
      rw [w64_succ (by omega)]
      rw [getD_lt hlt] at ih2
      exact ih2
    · simp only [Z115.l1_succ _ mk_ok]
      refine ev_f (decide_eq_false (by omega)) (ev_chk (by simp only [List.length_map,List.length_range,List.length_singleton,decide_eq_true_eq]; omega) ?_)
      rw [w64_succ (by omega)]; exact ih
  · simp only [Z115.l0_succ _ mk_ok]
    exact ev_f (decide_eq_false (by omega)) ev_rfl

theorem l04Extend_ret (p : Int) (W : Nat) (rows list : List Sim) (hp : Pr p) (hW : W ≤ 64) (hR : rows.length ≤ 2000) (hr : Rws p W rows) (hl : list.length ≤ 2000) (hls : Rws p W list) :
    Ret E n_Z116 [dI p,dI (W : Int),dLL rows,dLL list] ⟨o_Z116,(clsT p W rows list,())⟩ := by
  obtain ⟨b0,hb0,hb1⟩ := l04Basis_ret p W rows hp hW (by omega) hr
  refine ret_of ?_
  simp only [run_Z116,Z116.ev]
  have key : ∀ d k (g taken : List Sim),k + d = list.length → Rws p W g → g.length ≤ 2000 + k → taken.length ≤ k →
      Ev fun φ => Z116.l0 (mkR (run E (φ 0))) (φ 0) (φ 1) p (W : Int) list g ((rk p W g : Nat) : Int) (k : Int) taken = some ⟨o_Z116,(taken ++ clsT p W g (list.drop k),())⟩ := by
    intro d
    induction d with
    | zero =>
      intro k g taken hk hg hgl ht
      refine Ev.round 1 (L := fun φ n => Z116.l0 (mkR (run E (φ 0))) (φ 0) n p (W : Int) list g ((rk p W g : Nat) : Int) (k : Int) taken) ?_ (fun _ _ _ => rfl)
      simp only [Z116.l0_succ _ mk_ok]
      rw [List.drop_of_length_le (by omega),clsT,List.append_nil]
      exact ev_f (decide_eq_false (by omega)) ev_rfl
    | succ d ih =>
      intro k g taken hk hg hgl ht
      have hkl : k < list.length := by omega
      obtain ⟨hx1,hx2⟩ := hls _ (List.getElem_mem hkl)
      have hg2 := hg.snoc hx1 hx2
      obtain ⟨b,hb,hbl⟩ := l04Basis_ret p W (g ++ [list[k]]) hp hW (by rw [List.length_append,List.length_singleton]; omega) hg2
      have hi1 := ih (k + 1) (g ++ [list[k]]) (taken ++ [list[k]]) (by omega) hg2 (by rw [List.length_append,List.length_singleton]; omega) (by rw [List.length_append,List.length_singleton]; omega)
      have hi2 := ih (k + 1) g taken (by omega) hg (by omega) (by omega)
      have hrg := rk_le hp hg
      have hj : Ev fun φ => Z116.j1 (mkR (run E (φ 0))) (φ 0) (φ 1) p (W : Int) list g ((rk p W g : Nat) : Int) (k : Int) taken (g ++ [list[k]]) = some ⟨o_Z116,(taken ++ clsT p W g (list.drop k),())⟩ := by
        simp only [Z116.j1_eq _ mk_ok]
        rw [List.drop_eq_getElem_cons hkl,clsT]
        refine ev_call hb ?_
        rw [hbl]
        by_cases hin : InR p W g list[k]
        · rw [if_pos hin,rk_old hin]
          refine ev_f (decide_eq_false (by omega)) ?_
          rw [w64_succ (by omega)]; exact hi2
        · rw [if_neg hin,rk_new hp hg hin]
          refine ev_t (decide_eq_true (by omega)) (ev_bind (idx_lt hkl) (ev_call (l00Own_ret _ (by show list[k].length ≤ _; omega)) (ev_chk (by simp only [List.length_singleton,decide_eq_true_eq]; omega) ?_)))
          rw [rk_new hp hg hin,List.append_assoc,List.singleton_append] at hi1
          rw [w64_succ (by omega),w64_succ (by omega)]; exact hi1
      refine Ev.round 1 (L := fun φ n => Z116.l0 (mkR (run E (φ 0))) (φ 0) n p (W : Int) list g ((rk p W g : Nat) : Int) (k : Int) taken) ?_ (fun _ _ _ => rfl)
      simp only [Z116.l0_succ _ mk_ok,List.nil_append]
      refine ev_t (decide_eq_true (by omega)) (ev_bind (idx_lt hkl) ?_)
      repeat (first | exact hj | refine ev_both ?_ ?_ | refine ev_chk (by simp only [List.length_singleton,List.length_nil,decide_eq_true_eq]; omega) ?_)
  refine ev_chk (by simp only [List.length_nil,decide_eq_true_eq]; omega) (ev_call hb0 ?_)
  rw [hb1,List.nil_append]
  refine Ev.start (p := fun φ q => Z116.l0 (mkR (run E (φ 0))) (φ 0) q p (W : Int) list rows ((rk p W rows : Nat) : Int) 0 [] = _) 1 ?_ (fun _ _ _ h => h)
  exact key list.length 0 rows [] (by omega) hr (by omega) (by simp)

/-! the rank of a map for homology -/
theorem chC_elems {a b : List Sim} {im : Sim} {k p : Int} (hp : 2 ≤ p ∧ p ≤ 251) : ∀ {j : Nat},Elems (chC a b im k p j) p
  | 0 => rep_elems hp.1
  | j + 1 => fun x hx => by
    unfold chC at hx
    simp only at hx
    split at hx
    · rcases List.mem_or_eq_of_mem_set hx with hx | rfl
      · exact chC_elems hp x hx
      · exact sgn_in hp _
    · exact chC_elems hp x hx

theorem ChF.vm {a b : List Sim} {im : Sim} {k p : Int} (F : ChF a b im k p) (hp : Pr p) : VM (chM a b im k p) := by
  have := F.la
  have := F.lb
  refine ⟨hp,⟨by show (0 : Int) ≤ ((ofDim b k b.length).length : Int); omega,by show ((ofDim b k b.length).length : Int) ≤ 32; omega⟩,⟨by show (0 : Int) ≤ ((ofDim a k a.length).length : Int); omega,by show ((ofDim a k a.length).length : Int) ≤ 32; omega⟩,?_,chC_elems F.hp⟩
  show ((chC a b im k p (ofDim a k a.length).length).length : Int) = ((ofDim b k b.length).length : Int) * ((ofDim a k a.length).length : Int)
  rw [chC_length,Int.natCast_mul]

open Classical in
theorem ChC_HC {a b : List Sim} {im : Sim} {k p : Int} (hp : Pr p) (hm : MC a b im = 0) : HC a k p = (if 0 ≤ k ∧ k ≤ 3 then (if Sm3 a k then 0 else 5) else 2) ∧ HC b k p = (if 0 ≤ k ∧ k ≤ 3 then (if Sm3 b k then 0 else 5) else 2) ∧ (Small a b k 1 ↔ Sm3 a k ∧ Sm3 b k) := by
  obtain ⟨⟨ha,hb⟩,_⟩ := MC_zero.1 hm
  unfold HC
  rw [if_pos (show VC a ∧ Pr p from ⟨ha,hp⟩),if_pos (show VC b ∧ Pr p from ⟨hb,hp⟩)]
  refine ⟨rfl,rfl,?_⟩
  · unfold Small Sm3
    constructor
    · intro h
      exact ⟨fun t h1 h2 => (h t h1 (by omega)).1,fun t h1 h2 => (h t h1 (by omega)).2⟩
    · rintro ⟨h1,h2⟩ t h3 h4
      exact ⟨h1 t h3 (by omega),h2 t h3 (by omega)⟩

noncomputable def mapHom (a b : List Sim) (im : Sim) (k p : Int) : List Sim := (homB a k p).map fun v => appV (chM a b im k p) v (dimN b k)

open Classical in
noncomputable def InducedRankV (a b : Cpx) (im : Sim) (k p : Int) : Int × Int × Unit :=
  if ChC a.1 b.1 im k p 1 = 0 then (((clsT p (dimN b.1 k) (bdCols b.1 k p) (mapHom a.1 b.1 im k p)).length : Int),0,()) else (0,ChC a.1 b.1 im k p 1,())

theorem induced_facts {a b : Cpx} {im : Sim} {k p : Int} (sa : Sm (.st cC) a) (sb : Sm (.st cC) b) (h : ChC a.1 b.1 im k p 1 = 0) :
    ChF a.1 b.1 im k p ∧ Pr p ∧ HC a.1 k p = 0 ∧ HC b.1 k p = 0 ∧ (homB a.1 k p).length ≤ 32 ∧ Rws p (dimN a.1 k) (homB a.1 k p) := by
  obtain ⟨h1,h2,h3,h4⟩ := ChC_zero h
  obtain ⟨e1,e2,e3⟩ := ChC_HC (k := k) h1 h2
  obtain ⟨s1,s2⟩ := e3.1 h4
  have ha : HC a.1 k p = 0 := by rw [e1,if_pos h3,if_pos s1]
  have hb : HC b.1 k p = 0 := by rw [e2,if_pos h3,if_pos s2]
  obtain ⟨F,G⟩ := HC_bd sa.1 ha
  obtain ⟨hkr,hkl⟩ := kerB_rws (c := a.1) (k := k) F.hp.1
  have hcl := clsT_length (p := p) (W := dimN a.1 k) (l := kerB a.1 k p) (h := bdCols a.1 k p)
  have : dimN a.1 k ≤ 32 := F.lu
  exact ⟨ChF.of sa sb h,h1,ha,hb,Nat.le_trans hcl (by omega),fun r hr => hkr r (clsT_sub hr)⟩

theorem implInducedRank_ret (a b : Cpx) (im : Sim) (k p : Int) (sa : Sm (.st cC) a) (sb : Sm (.st cC) b) (si : Sm (.sl (.int .i64)) im) : Ret E n_Z5 [dLL a.1,dLL b.1,dL im,dI k,dI p] ⟨o_Z5,InducedRankV a b im k p⟩ := by
  refine ret_of ?_
  simp only [run_Z5,Z5.ev]
  unfold InducedRankV
  refine ev_call (chainMapped_ret a.1 b.1 im k p 1 (by omega) sa.1 sb.1) ?_
  by_cases h : ChC a.1 b.1 im k p 1 = 0
  · rw [if_pos h]
    obtain ⟨F,hp,ha,hb,hl,hw⟩ := induced_facts sa sb h
    obtain ⟨FA,GA⟩ := HC_bd sa.1 ha
    obtain ⟨FB,GB⟩ := HC_bd sb.1 hb
    obtain ⟨hcr,hcl,hcw⟩ := bdCols_facts GB
    have lb : dimN b.1 k ≤ 32 := FB.lu
    have lb2 : dimN b.1 (k + 1) ≤ 32 := GB.lu
    have hvm := F.vm hp
    have hls : Rws p (dimN b.1 k) (mapHom a.1 b.1 im k p) := fun r hr => by
      obtain ⟨v,_,rfl⟩ := List.mem_map.1 hr
      exact ⟨appV_length,appV_elems hp.1⟩
    have hml : (mapHom a.1 b.1 im k p).length = (homB a.1 k p).length := List.length_map _
    refine ev_f (by simp [h]) (ev_call (chainMap_ret a.1 b.1 im k p F) (ev_call (homB_ret a.1 k p sa.1 ha).1 ?_))
    refine Ev.start (p := fun φ q => Z5.l0 (mkR (run E (φ 0))) (φ 0) q k p (homB a.1 k p) ((homB a.1 k p).length : Int) 0 b.1 (chM a.1 b.1 im k p).1 (chM a.1 b.1 im k p).2.1 (chM a.1 b.1 im k p).2.2.1 (chM a.1 b.1 im k p).2.2.2.1 [] = _) 1 ?_ (fun _ _ _ h => h)
    refine fold_loop 1 (L := fun φ q j o => Z5.l0 (mkR (run E (φ 0))) (φ 0) q k p (homB a.1 k p) ((homB a.1 k p).length : Int) j b.1 (chM a.1 b.1 im k p).1 (chM a.1 b.1 im k p).2.1 (chM a.1 b.1 im k p).2.2.1 (chM a.1 b.1 im k p).2.2.2.1 o) (len := (homB a.1 k p).length) (fun j => ((homB a.1 k p).take j).map fun v => appV (chM a.1 b.1 im k p) v (dimN b.1 k)) (fun _ _ _ _ _ => rfl) (fun j r hj ih => ?_) ?_
    · simp only [Z5.l0_succ _ mk_ok]
      rw [List.take_succ_eq_append_getElem hj,List.map_append,List.map_singleton] at ih
      obtain ⟨v1,v2⟩ := hw _ (List.getElem_mem hj)
      refine ev_t (decide_eq_true (by omega)) (ev_bind (idx_lt hj) (ev_call (apply_ret (chM a.1 b.1 im k p) _ hvm (by show ((ofDim a.1 k a.1.length).length : Int) ≤ (((homB a.1 k p)[j]).length : Int); rw [v1]; exact Int.le_refl _) (v2.mem F.hp)) (ev_chk (by simp only [List.length_map,List.length_take,List.length_singleton,decide_eq_true_eq]; omega) ?_)))
      rw [w64_succ (by omega)]; exact ih
    · simp only [Z5.l0_succ _ mk_ok]
      rw [List.take_of_length_le (Nat.le_refl _)]
      have hind := independent_ret p (dimN b.1 k) (bdCols b.1 k p) (mapHom a.1 b.1 im k p) hp (by omega) (by omega) hcw (by omega) hls
      exact ev_f (decide_eq_false (by omega)) (ev_call (boundaries_ret b.1 k p GB) (ev_call hind (ev_call (sizeL_ret _) ev_rfl)))
  · rw [if_neg h]
    exact ev_t (by simpa using h) ev_rfl

theorem specInducedRank_ret (a b : Cpx) (im : Sim) (k p : Int) (sa : Sm (.st cC) a) (sb : Sm (.st cC) b) (si : Sm (.sl (.int .i64)) im) : Ret E n_Z97 [dLL a.1,dLL b.1,dL im,dI k,dI p] ⟨o_Z97,InducedRankV a b im k p⟩ := by
  have jj : ∀ (code : Int) (h0 : code ≠ 0),ChC a.1 b.1 im k p 1 = code → Ev fun φ => Z97.j1 (mkR (run E (φ 0))) (φ 0) im k p code a.1 b.1 = some ⟨o_Z97,InducedRankV a b im k p⟩ := fun code h0 hc => by
    unfold InducedRankV
    rw [if_neg (by rw [hc]; exact h0),hc]
    simp only [Z97.j1_eq _ mk_ok]
    exact ev_t (by simpa using h0) ev_rfl
  have jk : ∀ (code : Int) (h0 : code ≠ 0),ChC a.1 b.1 im k p 1 = code → Ev fun φ => Z97.j0 (mkR (run E (φ 0))) (φ 0) im k p code a.1 b.1 = some ⟨o_Z97,InducedRankV a b im k p⟩ := fun code h0 hc => by
    simp only [Z97.j0_eq _ mk_ok]
    exact ev_f (by simpa using h0) (jj code h0 hc)
  refine ret_of ?_
  simp only [run_Z97,Z97.ev]
  refine ev_call (l02Prime_ret p) ?_
  by_cases h1 : Pr p
  · refine ev_f (by rw [pb_true h1]; rfl) (ev_call (l08Ask_ret (a.1,()) (b.1,()) im sa.1 sb.1 si.1) ?_)
    by_cases h2 : MC a.1 b.1 im = 0
    · obtain ⟨e1,e2,e3⟩ := ChC_HC (k := k) h1 h2
      refine ev_t (by simp [h2]) (ev_call (l07Ask_ret (a.1,()) k p sa.1) ?_)
      by_cases ha : HC a.1 k p = 0
      · simp only [Z97.j0_eq _ mk_ok]
        refine ev_t (by simp [ha]) (ev_call (l07Ask_ret (b.1,()) k p sb.1) ?_)
        by_cases hb : HC b.1 k p = 0
        · have h : ChC a.1 b.1 im k p 1 = 0 := by
            obtain ⟨_,k3,s1⟩ := HC_zero ha
            obtain ⟨_,_,s2⟩ := HC_zero hb
            unfold ChC
            rw [if_pos h1,if_pos h2,if_pos k3,if_pos (e3.2 ⟨s1,s2⟩)]
          simp only [Z97.j1_eq _ mk_ok]
          unfold InducedRankV
          rw [if_pos h]
          obtain ⟨F,hp,_,_,hl,hw⟩ := induced_facts sa sb h
          obtain ⟨FA,GA⟩ := HC_bd sa.1 ha
          obtain ⟨FB,GB⟩ := HC_bd sb.1 hb
          obtain ⟨hcr,hcl,hcw⟩ := bdCols_facts GB
          have hk := FA.hk
          have lb : dimN b.1 k ≤ 32 := FB.lu
          have lb2 : dimN b.1 (k + 1) ≤ 32 := GB.lu
          have hvm := F.vm hp
          have hls : Rws p (dimN b.1 k) (mapHom a.1 b.1 im k p) := fun r hr => by
            obtain ⟨v,_,rfl⟩ := List.mem_map.1 hr
            exact ⟨appV_length,appV_elems hp.1⟩
          have hml : (mapHom a.1 b.1 im k p).length = (homB a.1 k p).length := List.length_map _
          refine ev_f (by simp [hb]) (ev_call (l08Chain_ret a.1 b.1 im k p F) (ev_call (homB_ret a.1 k p sa.1 ha).2 ?_))
          refine Ev.start (p := fun φ q => Z97.l2 (mkR (run E (φ 0))) (φ 0) q k p (homB a.1 k p) 0 b.1 (chM a.1 b.1 im k p).1 (chM a.1 b.1 im k p).2.1 (chM a.1 b.1 im k p).2.2.1 (chM a.1 b.1 im k p).2.2.2.1 [] = _) 1 ?_ (fun _ _ _ h => h)
          refine fold_loop 1 (L := fun φ q j o => Z97.l2 (mkR (run E (φ 0))) (φ 0) q k p (homB a.1 k p) j b.1 (chM a.1 b.1 im k p).1 (chM a.1 b.1 im k p).2.1 (chM a.1 b.1 im k p).2.2.1 (chM a.1 b.1 im k p).2.2.2.1 o) (len := (homB a.1 k p).length) (fun j => ((homB a.1 k p).take j).map fun v => appV (chM a.1 b.1 im k p) v (dimN b.1 k)) (fun _ _ _ _ _ => rfl) (fun j r hj ih => ?_) ?_
          · simp only [Z97.l2_succ _ mk_ok]
            rw [List.take_succ_eq_append_getElem hj,List.map_append,List.map_singleton] at ih
            obtain ⟨v1,v2⟩ := hw _ (List.getElem_mem hj)
            refine ev_t (decide_eq_true (by omega)) (ev_bind (idx_lt hj) (ev_call (l03Apply_ret (chM a.1 b.1 im k p) _ hvm (by show ((ofDim a.1 k a.1.length).length : Int) ≤ (((homB a.1 k p)[j]).length : Int); rw [v1]; exact Int.le_refl _) (v2.mem F.hp)) (ev_chk (by simp only [List.length_map,List.length_take,List.length_singleton,decide_eq_true_eq]; omega) ?_)))
            rw [w64_succ (by omega)]; exact ih
          · simp only [Z97.l2_succ _ mk_ok]
            rw [List.take_of_length_le (Nat.le_refl _),w64_small (n := k + 1) (by omega) (by omega)]
            have hm := l07Boundary_ret b.1 (k + 1) p GB
            unfold bdM at hm
            rw [show k + 1 - 1 = k by omega] at hm
            have hbl : (bdC b.1 (k + 1) p (dimN b.1 (k + 1))).length = dimN b.1 k * dimN b.1 (k + 1) := by rw [bdC_length,show k + 1 - 1 = k by omega]
            have hco := l04Columns_ret p (dimN b.1 k) (dimN b.1 (k + 1)) _ hbl lb lb2
            have hext := l04Extend_ret p (dimN b.1 k) (bdCols b.1 k p) (mapHom a.1 b.1 im k p) hp (by omega) (by omega) hcw (by omega) hls
            exact ev_f (decide_eq_false (by omega)) (ev_call hm (ev_call hco (ev_call hext ev_rfl)))
        · refine jj _ hb ?_
          rw [e2] at hb ⊢
          obtain ⟨_,k3,s1⟩ := HC_zero ha
          rw [if_pos k3] at hb ⊢
          have hs2 : ¬ Sm3 b.1 k := fun h => hb (if_pos h)
          unfold ChC
          rw [if_pos h1,if_pos h2,if_pos k3,if_neg fun h => hs2 (e3.1 h).2,if_neg hs2]
      · refine jk _ ha ?_
        rw [e1] at ha ⊢
        unfold ChC
        rw [if_pos h1,if_pos h2]
        by_cases k3 : 0 ≤ k ∧ k ≤ 3
        · rw [if_pos k3] at ha ⊢
          have hs : ¬ Sm3 a.1 k := fun h => ha (if_pos h)
          rw [if_pos k3,if_neg fun h => hs (e3.1 h).1,if_neg hs]
        · rw [if_neg k3,if_neg k3]
    · refine ev_f (by simpa using h2) (jk _ h2 ?_)
      unfold ChC; rw [if_pos h1,if_neg h2]
  · refine ev_t (by rw [pb_false h1]; rfl) ?_
    unfold InducedRankV
    have hc : ChC a.1 b.1 im k p 1 = 1 := by unfold ChC; rw [if_neg h1]
    rw [if_neg (by rw [hc]; decide),hc]
    exact ev_rfl

end VeT

open Go Go.Proofs Ve
set_option linter.unusedVariables false
set_option linter.unusedSimpArgs false
namespace VeT

theorem law_InducedRank (x0 : Cpx) (x1 : Cpx) (x2 : Sim) (x3 : Int) (x4 : Int) (w0 : Wf (.st cC) x0) (w1 : Wf (.st cC) x1) (w2 : Wf (.sl (.int .i64)) x2) : Ret E n_Z63 [dLL x0.1,dLL x1.1,dL x2,dI x3,dI x4] ⟨.cons .bool .nil,(true,())⟩ := by
  refine ret_of ?_
  simp only [run_Z63,Z63.ev]
  refine ev_d (fun _ => ev_rfl) fun l2 => ?_
  have m2 : Sm (.sl (.int .i64)) x2 := ⟨by omega,fun _ _ => trivial⟩
  obtain ⟨r0,hs0,s0⟩ := szComplex_ret x0 1048576 w0 (by omega) (by omega)
  refine ev_call hs0 (ev_d (fun _ => ev_rfl) fun n0 => ?_)
  have n0 := Int.not_lt.1 n0
  obtain ⟨b0,m0⟩ := s0 n0
  obtain ⟨r1,hs1,s1⟩ := szComplex_ret x1 r0 w1 (by omega) (by omega)
  refine ev_call hs1 (ev_d (fun _ => ev_rfl) fun n1 => ?_)
  have n1 := Int.not_lt.1 n1
  obtain ⟨b1,m1⟩ := s1 n1
  have hi := implInducedRank_ret x0 x1 x2 x3 x4 m0 m1 m2
  have hsp := specInducedRank_ret x0 x1 x2 x3 x4 m0 m1 m2
  generalize InducedRankV x0 x1 x2 x3 x4 = V at hi hsp
  obtain ⟨v0,v1,⟨⟩⟩ := V
  have to0 := toComplex_ret x0 m0
  obtain ⟨q0,hq0,eq0⟩ := eqComplex_ret x0 x0 m0
  obtain rfl : q0 = true := eq0.2 rfl
  have to1 := toComplex_ret x1 m1
  obtain ⟨q1,hq1,eq1⟩ := eqComplex_ret x1 x1 m1
  obtain rfl : q1 = true := eq1.2 rfl
  have to2 := toInt64S_ret x2 m2
  obtain ⟨q2,hq2,eq2⟩ := eqInt64S_ret x2 x2 m2
  obtain rfl : q2 = true := eq2.2 rfl
  repeat (first | with_reducible exact ev_rfl | with_reducible refine ev_call to0 ?_ | with_reducible refine ev_call hq0 ?_ | with_reducible refine ev_call to1 ?_ | with_reducible refine ev_call hq1 ?_ | with_reducible refine ev_call to2 ?_ | with_reducible refine ev_call hq2 ?_ | with_reducible refine ev_call hi ?_ | with_reducible refine ev_call hsp ?_ | with_reducible refine ev_f (by first | rfl | exact bne_self_eq_false _ | (simp; done)) ?_ | simp only [bne_self_eq_false,Z63.j0_eq _ mk_ok,cond_false])

theorem rowInducedRank (z : ((.cons (.sl (.sl (.int .i64))) (.cons (.sl (.sl (.int .i64))) (.cons (.sl (.int .i64)) (.cons (.int .i64) (.cons (.int .i64) .nil))))) : Ty).T)
    (h : Wf (.cons (.sl (.sl (.int .i64))) (.cons (.sl (.sl (.int .i64))) (.cons (.sl (.int .i64)) (.cons (.int .i64) (.cons (.int .i64) .nil))))) z) :
    Evt fun n => run E n n_Z63 (unpack _ z) = some ⟨.cons .bool .nil,(true,())⟩ :=
  law_InducedRank (z.1,()) (z.2.1,()) z.2.2.1 z.2.2.2.1 z.2.2.2.2.1 ⟨h.1,trivial⟩ ⟨h.2.1,trivial⟩ h.2.2.1


end VeT
