import Derived.Test.YtonfceapakgcjaaGreatT3
import Derived.Test.YtonfceapakgcjaaGreatV2
set_option linter.unusedVariables false
set_option linter.unusedSimpArgs false
open Go Go.Proofs Ve
set_option linter.unusedVariables false
set_option linter.unusedSimpArgs false
namespace VeT

theorem szInt64S_ret (x : (List Int)) (l : Int) (hx : Wf yL x) (h0 : 0 ≤ l) (h1 : l ≤ 1048576) :
    ∃ r : Int, Ret E n_laws_szInt64S [⟨yL, x⟩, ⟨.int .i64, l⟩] ⟨o_laws_szInt64S, (r, ())⟩ ∧ (0 ≤ r → r ≤ l ∧ Sm yL x) := by
  have hx1 : x.length ≤ maxLen := hx.1
  rw [maxLen_eq] at hx1
  have hw : w64 (l - x.length) = l - x.length := w64_small (by omega) (by omega)
  by_cases hc : l - (x.length : Int) < 0
  · refine ⟨-1, Evt.succ (Evt.of fun n => ?_), fun h => by omega⟩
    rw [run_laws_szInt64S, laws_szInt64S.ev, hw, decide_eq_true hc]; rfl
  · refine ⟨l - x.length, Evt.succ (Evt.of fun n => ?_), fun h => ⟨by omega, by omega, fun x _ => trivial⟩⟩
    rw [run_laws_szInt64S, laws_szInt64S.ev, hw, decide_eq_false hc]; rfl

theorem toInt64S_ret (x : (List Int)) (hx : Sm yL x) : Ret E n_laws_toInt64S [⟨yL, x⟩] ⟨o_laws_toInt64S, (x, ())⟩ := by
  have hx1 : x.length ≤ 1048576 := hx.1
  have hl := fill_loop (a := x) (L := fun m n i o => laws_toInt64S.l0 (mkR (run E m)) m n x i o) (z := List.replicate (Int.toNat (List.length x : Int)) (0 : Int)) (r := some ⟨o_laws_toInt64S, (x, ())⟩) (by simp) (fun k o hk ho => by
      refine Evt.of fun m n => ?_
      show laws_toInt64S.l0 _ _ _ _ _ _ = _
      rw [laws_toInt64S.l0_succ _ mk_ok, decide_eq_true (show (k : Int) < x.length by omega), cond_true, idx_lt hk]
      simp only [Option.bind_some]
      rw [chk_true (by simp; omega), w64_succ (by omega), Int.toNat_natCast]) (Evt.of fun m n => by
      show laws_toInt64S.l0 _ _ _ _ _ _ = _
      rw [laws_toInt64S.l0_succ _ mk_ok, decide_eq_false (by omega), cond_false])
  refine Evt.succ (hl.mono fun n h => ?_)
  rw [run_laws_toInt64S, laws_toInt64S.ev, chk_true (by simp; omega)]
  exact h

theorem eqInt64S_ret (x y : (List Int)) (hx : Sm yL x) : ∃ b : Bool, Ret E n_laws_eqInt64S [⟨yL, x⟩, ⟨yL, y⟩] ⟨o_laws_eqInt64S, (b, ())⟩ ∧ (b = true ↔ x = y) := by
  have hx1 : x.length ≤ 1048576 := hx.1
  by_cases hl : x.length = y.length
  · have hd : ((x.length : Int) != (y.length : Int)) = false := by simp [hl]
    obtain ⟨h1, h2⟩ := same_loop (a := x) (b := y) (L := fun m n i (_ : Unit) => laws_eqInt64S.l0 (mkR (run E m)) m n x y i) (fun u v => u = v) (rt := some ⟨o_laws_eqInt64S, (true, ())⟩) (rf := some ⟨o_laws_eqInt64S, (false, ())⟩) hl.symm
      (fun k h h' hne => Evt.of fun m n => by
      show laws_eqInt64S.l0 _ _ _ _ _ _ = _
      rw [laws_eqInt64S.l0_succ _ mk_ok, decide_eq_true (show (k : Int) < x.length by omega), cond_true, idx_lt h, idx_lt h']
      have : (x[k] != y[k]) = true := by simpa using hne
      simp only [Option.bind_some, this, cond_true])
      (fun k h h' he => Evt.of fun m n => by
      show laws_eqInt64S.l0 _ _ _ _ _ _ = _
      rw [laws_eqInt64S.l0_succ _ mk_ok, decide_eq_true (show (k : Int) < x.length by omega), cond_true, idx_lt h, idx_lt h']
      have : (x[k] != y[k]) = false := by simpa using he
      simp only [Option.bind_some, this, cond_false]
      rw [w64_succ (by omega)])
      (Evt.of fun m n => by
      show laws_eqInt64S.l0 _ _ _ _ _ _ = _
      rw [laws_eqInt64S.l0_succ _ mk_ok, decide_eq_false (by omega), cond_false])
    by_cases he : x = y
    · refine ⟨true, Evt.succ ((h1 (by subst he; intros; rfl)).mono fun n h => ?_), by simp [he]⟩
      rw [run_laws_eqInt64S, laws_eqInt64S.ev, hd, cond_false]
      exact h
    · refine ⟨false, Evt.succ ((h2 fun hh => he (List.ext_getElem hl hh)).mono fun n h => ?_), by simp [he]⟩
      rw [run_laws_eqInt64S, laws_eqInt64S.ev, hd, cond_false]
      exact h
  · have hd : ((x.length : Int) != (y.length : Int)) = true := by simp; omega
    refine ⟨false, Evt.succ (Evt.of fun n => ?_), ⟨fun h => (nomatch h), fun h => absurd (congrArg List.length h) hl⟩⟩
    rw [run_laws_eqInt64S, laws_eqInt64S.ev, hd, cond_true]

theorem szInt64SS_ret (x : vK) (l : Int) (hx : Wf yK x) (h0 : 0 ≤ l) (h1 : l ≤ 1048576) :
    ∃ r : Int, Ret E n_laws_szInt64SS [⟨yK, x⟩, ⟨.int .i64, l⟩] ⟨o_laws_szInt64SS, (r, ())⟩ ∧ (0 ≤ r → r ≤ l ∧ Sm yK x) := by
  have hx1 : x.length ≤ maxLen := hx.1
  rw [maxLen_eq] at hx1
  have hw : w64 (l - x.length) = l - x.length := w64_small (by omega) (by omega)
  by_cases hc : l - (x.length : Int) < 0
  · refine ⟨-1, Evt.succ (Evt.of fun n => ?_), fun h => by omega⟩
    rw [run_laws_szInt64SS, laws_szInt64SS.ev, hw, decide_eq_true hc]; rfl
  · obtain ⟨r, hr, hs⟩ := sz_loop (xs := x) (L := fun m n i left => laws_szInt64SS.l0 (mkR (run E m)) m n x left i) (ret := fun r => some ⟨o_laws_szInt64SS, (r, ())⟩) (fun x => Sm yL x) (fun k left hk hl0 hl1 => by
      obtain ⟨r, hr, hs⟩ := szInt64S_ret x[k] left (hx.2 _ (List.getElem_mem hk)) hl0 hl1
      refine ⟨r, hs, hr.mono fun m h n => ?_⟩
      show laws_szInt64SS.l0 _ _ _ _ _ _ = _
      rw [laws_szInt64SS.l0_succ _ mk_ok, decide_eq_true (show (k : Int) < x.length by omega), cond_true, idx_lt hk]
      simp only [Option.bind_some, callT_of h]
      rw [w64_succ (by omega)]) (fun left => Evt.of fun m n => by
      show laws_szInt64SS.l0 _ _ _ _ _ _ = _
      rw [laws_szInt64SS.l0_succ _ mk_ok, decide_eq_false (by omega), cond_false]) (l - x.length) (by omega) (by omega)
    refine ⟨r, Evt.succ (hr.mono fun n h => ?_), fun h => ⟨by have := (hs h).1; omega, by omega, (hs h).2⟩⟩
    rw [run_laws_szInt64SS, laws_szInt64SS.ev, hw, decide_eq_false hc]
    exact h

theorem toInt64SS_ret (x : vK) (hx : Sm yK x) : Ret E n_laws_toInt64SS [⟨yK, x⟩] ⟨o_laws_toInt64SS, (x, ())⟩ := by
  have hx1 : x.length ≤ 1048576 := hx.1
  have hl := fill_loop (a := x) (L := fun m n i o => laws_toInt64SS.l0 (mkR (run E m)) m n x i o) (z := List.replicate (Int.toNat (List.length x : Int)) ([] : List Int)) (r := some ⟨o_laws_toInt64SS, (x, ())⟩) (by simp) (fun k o hk ho => by
      have hr := toInt64S_ret x[k] (hx.2 _ (List.getElem_mem hk))
      refine hr.mono fun m h n => ?_
      show laws_toInt64SS.l0 _ _ _ _ _ _ = _
      rw [laws_toInt64SS.l0_succ _ mk_ok, decide_eq_true (show (k : Int) < x.length by omega), cond_true, idx_lt hk]
      simp only [Option.bind_some, callT_of h]
      rw [chk_true (by simp; omega), w64_succ (by omega), Int.toNat_natCast]) (Evt.of fun m n => by
      show laws_toInt64SS.l0 _ _ _ _ _ _ = _
      rw [laws_toInt64SS.l0_succ _ mk_ok, decide_eq_false (by omega), cond_false])
  refine Evt.succ (hl.mono fun n h => ?_)
  rw [run_laws_toInt64SS, laws_toInt64SS.ev, chk_true (by simp; omega)]
  exact h

theorem eqInt64SS_ret (x y : vK) (hx : Sm yK x) : ∃ b : Bool, Ret E n_laws_eqInt64SS [⟨yK, x⟩, ⟨yK, y⟩] ⟨o_laws_eqInt64SS, (b, ())⟩ ∧ (b = true ↔ x = y) := by
  have hx1 : x.length ≤ 1048576 := hx.1
  by_cases hl : x.length = y.length
  · have hd : ((x.length : Int) != (y.length : Int)) = false := by simp [hl]
    obtain ⟨h1, h2⟩ := same_loop (a := x) (b := y) (L := fun m n i (_ : Unit) => laws_eqInt64SS.l0 (mkR (run E m)) m n x y i) (fun u v => u = v) (rt := some ⟨o_laws_eqInt64SS, (true, ())⟩) (rf := some ⟨o_laws_eqInt64SS, (false, ())⟩) hl.symm
      (fun k h h' hne => by
      obtain ⟨b, hb, hbe⟩ := eqInt64S_ret x[k] y[k] (hx.2 _ (List.getElem_mem h))
      have hb0 : b = false := by cases b <;> simp_all
      subst hb0
      refine hb.mono fun m hm n => ?_
      show laws_eqInt64SS.l0 _ _ _ _ _ _ = _
      rw [laws_eqInt64SS.l0_succ _ mk_ok, decide_eq_true (show (k : Int) < x.length by omega), cond_true, idx_lt h, idx_lt h']
      simp only [Option.bind_some, callT_of hm, Bool.not_false, Bool.not_true, cond_true, cond_false])
      (fun k h h' he => by
      obtain ⟨b, hb, hbe⟩ := eqInt64S_ret x[k] y[k] (hx.2 _ (List.getElem_mem h))
      have hb0 : b = true := by cases b <;> simp_all
      subst hb0
      refine hb.mono fun m hm n => ?_
      show laws_eqInt64SS.l0 _ _ _ _ _ _ = _
      rw [laws_eqInt64SS.l0_succ _ mk_ok, decide_eq_true (show (k : Int) < x.length by omega), cond_true, idx_lt h, idx_lt h']
      simp only [Option.bind_some, callT_of hm, Bool.not_false, Bool.not_true, cond_true, cond_false]
      rw [w64_succ (by omega)])
      (Evt.of fun m n => by
      show laws_eqInt64SS.l0 _ _ _ _ _ _ = _
      rw [laws_eqInt64SS.l0_succ _ mk_ok, decide_eq_false (by omega), cond_false])
    by_cases he : x = y
    · refine ⟨true, Evt.succ ((h1 (by subst he; intros; rfl)).mono fun n h => ?_), by simp [he]⟩
      rw [run_laws_eqInt64SS, laws_eqInt64SS.ev, hd, cond_false]
      exact h
    · refine ⟨false, Evt.succ ((h2 fun hh => he (List.ext_getElem hl hh)).mono fun n h => ?_), by simp [he]⟩
      rw [run_laws_eqInt64SS, laws_eqInt64SS.ev, hd, cond_false]
      exact h
  · have hd : ((x.length : Int) != (y.length : Int)) = true := by simp; omega
    refine ⟨false, Evt.succ (Evt.of fun n => ?_), ⟨fun h => (nomatch h), fun h => absurd (congrArg List.length h) hl⟩⟩
    rw [run_laws_eqInt64SS, laws_eqInt64SS.ev, hd, cond_true]

theorem szComplex_ret (x : (vK × Unit)) (l : Int) (hx : Wf (.st (.cons yK .nil)) x) (h0 : 0 ≤ l) (h1 : l ≤ 1048576) :
    ∃ r : Int, Ret E n_laws_szComplex [⟨yK, x.1⟩, ⟨.int .i64, l⟩] ⟨o_laws_szComplex, (r, ())⟩ ∧ (0 ≤ r → r ≤ l ∧ Sm (.st (.cons yK .nil)) x) := by
  obtain ⟨r0, hr0, hs0⟩ := szInt64SS_ret x.1 l hx.1 (by omega) (by omega)
  by_cases hc0 : r0 < 0
  · refine ⟨-1, Evt.succ (hr0.mono fun n e0 => ?_), fun h => by omega⟩
    rw [run_laws_szComplex, laws_szComplex.ev]
    simp only [Option.bind_some, cond_true, cond_false, callT_of e0, decide_eq_true hc0]
  have hb0 := hs0 (by omega)
  refine ⟨r0, Evt.succ (hr0.mono fun n e0 => ?_), fun h => ⟨by omega, ?_⟩⟩
  · skip
    rw [run_laws_szComplex, laws_szComplex.ev]
    simp only [Option.bind_some, cond_true, cond_false, callT_of e0, decide_eq_false hc0]
  · exact ⟨hb0.2, trivial⟩

theorem toComplex_ret (x : (vK × Unit)) (hx : Sm (.st (.cons yK .nil)) x) : Ret E n_laws_toComplex [⟨yK, x.1⟩] ⟨o_laws_toComplex, x⟩ := by
  have hr0 := toInt64SS_ret x.1 hx.1
  refine Evt.succ (hr0.mono fun n e0 => ?_)
  rw [run_laws_toComplex, laws_toComplex.ev]
  simp only [Option.bind_some, callT_of e0]

theorem eqComplex_ret (x y : (vK × Unit)) (hx : Sm (.st (.cons yK .nil)) x) : ∃ b : Bool, Ret E n_laws_eqComplex [⟨yK, x.1⟩, ⟨yK, y.1⟩] ⟨o_laws_eqComplex, (b, ())⟩ ∧ (b = true ↔ x = y) := by
  obtain ⟨b0, hr0, hb0⟩ := eqInt64SS_ret x.1 y.1 hx.1
  refine ⟨b0, Evt.succ (hr0.mono fun n e0 => ?_), ?_⟩
  · skip
    rw [run_laws_eqComplex, laws_eqComplex.ev]
    simp only [Option.bind_some, callT_of e0]
    clear hx hr0 e0 hb0
    cases b0 <;> rfl
  · obtain ⟨x0, _⟩ := x
    obtain ⟨y0, _⟩ := y
    simp only [Bool.and_eq_true, decide_eq_true_eq, hb0, Prod.mk.injEq, and_true]
    try simp only [and_assoc]

theorem eqMatrix_ret (x y : vM) (hx : Sm (.st yM) x) : ∃ b : Bool, Ret E n_laws_eqMatrix [⟨yI, x.1⟩, ⟨yI, x.2.1⟩, ⟨yI, x.2.2.1⟩, ⟨yL, x.2.2.2.1⟩, ⟨yI, y.1⟩, ⟨yI, y.2.1⟩, ⟨yI, y.2.2.1⟩, ⟨yL, y.2.2.2.1⟩] ⟨o_laws_eqMatrix, (b, ())⟩ ∧ (b = true ↔ x = y) := by
  obtain ⟨b0, hr0, hb0⟩ := eqInt64S_ret x.2.2.2.1 y.2.2.2.1 hx.2.2.2.1
  refine ⟨decide (x.1 = y.1) && decide (x.2.1 = y.2.1) && decide (x.2.2.1 = y.2.2.1) && b0, Evt.succ (hr0.mono fun n e0 => ?_), ?_⟩
  · skip
    rw [run_laws_eqMatrix, laws_eqMatrix.ev]
    simp only [Option.bind_some, callT_of e0]
    simp only [show (x.1 != y.1) = !decide (x.1 = y.1) from rfl]
    generalize decide (x.1 = y.1) = d0
    simp only [show (x.2.1 != y.2.1) = !decide (x.2.1 = y.2.1) from rfl]
    generalize decide (x.2.1 = y.2.1) = d1
    simp only [show (x.2.2.1 != y.2.2.1) = !decide (x.2.2.1 = y.2.2.1) from rfl]
    generalize decide (x.2.2.1 = y.2.2.1) = d2
    clear hx hr0 e0 hb0
    cases d0 <;> cases d1 <;> cases d2 <;> cases b0 <;> rfl
  · obtain ⟨x0, x1, x2, x3, _⟩ := x
    obtain ⟨y0, y1, y2, y3, _⟩ := y
    simp only [Bool.and_eq_true, decide_eq_true_eq, hb0, Prod.mk.injEq, and_true]
    try simp only [and_assoc]

end VeT

open Go Go.Proofs Ve
set_option linter.unusedVariables false
set_option linter.unusedSimpArgs false
namespace VeT

theorem IndexFunc_SSint64_Sint64_impl_ValidComplex_1_ret (s : List (List Int)) (c : ((vK × Unit) × (Int × Unit) × Unit)) (p : (List Int) → Bool) (hs : s.length ≤ 1048576) (hp : ∀ x ∈ s, Ret E n_impl_ValidComplex_1 [⟨yL, x⟩, ⟨(.ptr (.cons yK .nil)), c.1⟩, ⟨(.ptr (.cons yI .nil)), c.2.1⟩] ⟨o_impl_ValidComplex_1, (p x, ())⟩) :
    Ret E n_slices_IndexFunc_SSint64_Sint64 [⟨yK, s⟩, ⟨(.fn n_impl_ValidComplex_1 (.cons (.ptr (.cons yK .nil)) (.cons (.ptr (.cons yI .nil)) .nil))), c⟩] ⟨o_slices_IndexFunc_SSint64_Sint64, (idxf p s, ())⟩ := by
  obtain ⟨o, h1, h2, h3⟩ := find_loop 1 (L := fun φ n k => slices_IndexFunc_SSint64_Sint64_impl_ValidComplex_1.l0 (mkR (run E (φ 0))) (φ 0) n s c (s.length : Int) k) (len := s.length) (fun k => ∃ h : k < s.length, p s[k] = true) (fun o => some ⟨o_slices_IndexFunc_SSint64_Sint64, (o2i o, ())⟩) (fun _ _ _ _ => rfl) (fun k hk hP => by
      obtain ⟨_, hP⟩ := hP
      simp only [slices_IndexFunc_SSint64_Sint64_impl_ValidComplex_1.l0_succ _ mk_ok]
      refine ev_t (decide_eq_true (by omega)) (ev_bind (idx_lt hk) (ev_call (hp _ (List.getElem_mem hk)) (ev_t hP ev_rfl)))) (fun k q hk hP ih => by
      simp only [slices_IndexFunc_SSint64_Sint64_impl_ValidComplex_1.l0_succ _ mk_ok]
      refine ev_t (decide_eq_true (by omega)) (ev_bind (idx_lt hk) (ev_call (hp _ (List.getElem_mem hk)) (ev_f (Bool.eq_false_iff.2 fun h => hP ⟨hk, h⟩) ?_)))
      rw [w64_succ (by omega)]; exact ih) (by
      simp only [slices_IndexFunc_SSint64_Sint64_impl_ValidComplex_1.l0_succ _ mk_ok]
      exact ev_f (decide_eq_false (by omega)) ev_rfl)
  rw [idxf_of h1 h2] at h3
  refine ret_of ?_
  simp only [run_slices_IndexFunc_SSint64_Sint64, slices_IndexFunc_SSint64_Sint64_impl_ValidComplex_1.ev]
  exact Ev.start (p := fun φ n => slices_IndexFunc_SSint64_Sint64_impl_ValidComplex_1.l0 (mkR (run E (φ 0))) (φ 0) n s c (s.length : Int) 0 = _) 1 h3 (fun _ _ _ h => h)

theorem IndexFunc_SSint64_Sint64_impl_isMap_1_ret (s : List (List Int)) (c : ((vK × Unit) × (vK × Unit) × ((List Int) × Unit) × Unit)) (p : (List Int) → Bool) (hs : s.length ≤ 1048576) (hp : ∀ x ∈ s, Ret E n_impl_isMap_1 [⟨yL, x⟩, ⟨(.ptr (.cons yK .nil)), c.1⟩, ⟨(.ptr (.cons yK .nil)), c.2.1⟩, ⟨(.ptr (.cons yL .nil)), c.2.2.1⟩] ⟨o_impl_isMap_1, (p x, ())⟩) :
    Ret E n_slices_IndexFunc_SSint64_Sint64 [⟨yK, s⟩, ⟨(.fn n_impl_isMap_1 (.cons (.ptr (.cons yK .nil)) (.cons (.ptr (.cons yK .nil)) (.cons (.ptr (.cons yL .nil)) .nil)))), c⟩] ⟨o_slices_IndexFunc_SSint64_Sint64, (idxf p s, ())⟩ := by
  obtain ⟨o, h1, h2, h3⟩ := find_loop 1 (L := fun φ n k => slices_IndexFunc_SSint64_Sint64_impl_isMap_1.l0 (mkR (run E (φ 0))) (φ 0) n s c (s.length : Int) k) (len := s.length) (fun k => ∃ h : k < s.length, p s[k] = true) (fun o => some ⟨o_slices_IndexFunc_SSint64_Sint64, (o2i o, ())⟩) (fun _ _ _ _ => rfl) (fun k hk hP => by
      obtain ⟨_, hP⟩ := hP
      simp only [slices_IndexFunc_SSint64_Sint64_impl_isMap_1.l0_succ _ mk_ok]
      refine ev_t (decide_eq_true (by omega)) (ev_bind (idx_lt hk) (ev_call (hp _ (List.getElem_mem hk)) (ev_t hP ev_rfl)))) (fun k q hk hP ih => by
      simp only [slices_IndexFunc_SSint64_Sint64_impl_isMap_1.l0_succ _ mk_ok]
      refine ev_t (decide_eq_true (by omega)) (ev_bind (idx_lt hk) (ev_call (hp _ (List.getElem_mem hk)) (ev_f (Bool.eq_false_iff.2 fun h => hP ⟨hk, h⟩) ?_)))
      rw [w64_succ (by omega)]; exact ih) (by
      simp only [slices_IndexFunc_SSint64_Sint64_impl_isMap_1.l0_succ _ mk_ok]
      exact ev_f (decide_eq_false (by omega)) ev_rfl)
  rw [idxf_of h1 h2] at h3
  refine ret_of ?_
  simp only [run_slices_IndexFunc_SSint64_Sint64, slices_IndexFunc_SSint64_Sint64_impl_isMap_1.ev]
  exact Ev.start (p := fun φ n => slices_IndexFunc_SSint64_Sint64_impl_isMap_1.l0 (mkR (run E (φ 0))) (φ 0) n s c (s.length : Int) 0 = _) 1 h3 (fun _ _ _ h => h)

theorem IndexFunc_Sint64_int64_impl_ValidSimplex_1_ret (s : List Int) (p : Int → Bool) (hs : s.length ≤ 1048576) (hp : ∀ x ∈ s, Ret E n_impl_ValidSimplex_1 [⟨yI, x⟩] ⟨o_impl_ValidSimplex_1, (p x, ())⟩) :
    Ret E n_slices_IndexFunc_Sint64_int64 [⟨yL, s⟩, ⟨(.fn n_impl_ValidSimplex_1 .nil), ()⟩] ⟨o_slices_IndexFunc_Sint64_int64, (idxf p s, ())⟩ := by
  obtain ⟨o, h1, h2, h3⟩ := find_loop 1 (L := fun φ n k => slices_IndexFunc_Sint64_int64_impl_ValidSimplex_1.l0 (mkR (run E (φ 0))) (φ 0) n s (s.length : Int) k) (len := s.length) (fun k => ∃ h : k < s.length, p s[k] = true) (fun o => some ⟨o_slices_IndexFunc_Sint64_int64, (o2i o, ())⟩) (fun _ _ _ _ => rfl) (fun k hk hP => by
      obtain ⟨_, hP⟩ := hP
      simp only [slices_IndexFunc_Sint64_int64_impl_ValidSimplex_1.l0_succ _ mk_ok]
      refine ev_t (decide_eq_true (by omega)) (ev_bind (idx_lt hk) (ev_call (hp _ (List.getElem_mem hk)) (ev_t hP ev_rfl)))) (fun k q hk hP ih => by
      simp only [slices_IndexFunc_Sint64_int64_impl_ValidSimplex_1.l0_succ _ mk_ok]
      refine ev_t (decide_eq_true (by omega)) (ev_bind (idx_lt hk) (ev_call (hp _ (List.getElem_mem hk)) (ev_f (Bool.eq_false_iff.2 fun h => hP ⟨hk, h⟩) ?_)))
      rw [w64_succ (by omega)]; exact ih) (by
      simp only [slices_IndexFunc_Sint64_int64_impl_ValidSimplex_1.l0_succ _ mk_ok]
      exact ev_f (decide_eq_false (by omega)) ev_rfl)
  rw [idxf_of h1 h2] at h3
  refine ret_of ?_
  simp only [run_slices_IndexFunc_Sint64_int64, slices_IndexFunc_Sint64_int64_impl_ValidSimplex_1.ev]
  exact Ev.start (p := fun φ n => slices_IndexFunc_Sint64_int64_impl_ValidSimplex_1.l0 (mkR (run E (φ 0))) (φ 0) n s (s.length : Int) 0 = _) 1 h3 (fun _ _ _ h => h)

theorem ContainsFunc_SSint64_Sint64_impl_ValidComplex_1_ret (s : List (List Int)) (c : ((vK × Unit) × (Int × Unit) × Unit)) (p : (List Int) → Bool) (hs : s.length ≤ 1048576) (hp : ∀ x ∈ s, Ret E n_impl_ValidComplex_1 [⟨yL, x⟩, ⟨(.ptr (.cons yK .nil)), c.1⟩, ⟨(.ptr (.cons yI .nil)), c.2.1⟩] ⟨o_impl_ValidComplex_1, (p x, ())⟩) :
    Ret E n_slices_ContainsFunc_SSint64_Sint64 [⟨yK, s⟩, ⟨(.fn n_impl_ValidComplex_1 (.cons (.ptr (.cons yK .nil)) (.cons (.ptr (.cons yI .nil)) .nil))), c⟩] ⟨o_slices_ContainsFunc_SSint64_Sint64, (pb (∃ x ∈ s, p x = true), ())⟩ := by
  refine ret_of ?_
  simp only [run_slices_ContainsFunc_SSint64_Sint64, slices_ContainsFunc_SSint64_Sint64_impl_ValidComplex_1.ev]
  refine ev_call (IndexFunc_SSint64_Sint64_impl_ValidComplex_1_ret s c p hs hp) (ev_some ?_)
  simp only [ge_iff_le, pb_dec, pb_congr idxf_nonneg]

theorem ContainsFunc_SSint64_Sint64_impl_isMap_1_ret (s : List (List Int)) (c : ((vK × Unit) × (vK × Unit) × ((List Int) × Unit) × Unit)) (p : (List Int) → Bool) (hs : s.length ≤ 1048576) (hp : ∀ x ∈ s, Ret E n_impl_isMap_1 [⟨yL, x⟩, ⟨(.ptr (.cons yK .nil)), c.1⟩, ⟨(.ptr (.cons yK .nil)), c.2.1⟩, ⟨(.ptr (.cons yL .nil)), c.2.2.1⟩] ⟨o_impl_isMap_1, (p x, ())⟩) :
    Ret E n_slices_ContainsFunc_SSint64_Sint64 [⟨yK, s⟩, ⟨(.fn n_impl_isMap_1 (.cons (.ptr (.cons yK .nil)) (.cons (.ptr (.cons yK .nil)) (.cons (.ptr (.cons yL .nil)) .nil)))), c⟩] ⟨o_slices_ContainsFunc_SSint64_Sint64, (pb (∃ x ∈ s, p x = true), ())⟩ := by
  refine ret_of ?_
  simp only [run_slices_ContainsFunc_SSint64_Sint64, slices_ContainsFunc_SSint64_Sint64_impl_isMap_1.ev]
  refine ev_call (IndexFunc_SSint64_Sint64_impl_isMap_1_ret s c p hs hp) (ev_some ?_)
  simp only [ge_iff_le, pb_dec, pb_congr idxf_nonneg]

theorem ContainsFunc_Sint64_int64_impl_ValidSimplex_1_ret (s : List Int) (p : Int → Bool) (hs : s.length ≤ 1048576) (hp : ∀ x ∈ s, Ret E n_impl_ValidSimplex_1 [⟨yI, x⟩] ⟨o_impl_ValidSimplex_1, (p x, ())⟩) :
    Ret E n_slices_ContainsFunc_Sint64_int64 [⟨yL, s⟩, ⟨(.fn n_impl_ValidSimplex_1 .nil), ()⟩] ⟨o_slices_ContainsFunc_Sint64_int64, (pb (∃ x ∈ s, p x = true), ())⟩ := by
  refine ret_of ?_
  simp only [run_slices_ContainsFunc_Sint64_int64, slices_ContainsFunc_Sint64_int64_impl_ValidSimplex_1.ev]
  refine ev_call (IndexFunc_Sint64_int64_impl_ValidSimplex_1_ret s p hs hp) (ev_some ?_)
  simp only [ge_iff_le, pb_dec, pb_congr idxf_nonneg]

theorem filled_impl_zero_1_ret (p : Int) (R C : Nat) (f : Nat → Nat → Int) (hR : R ≤ 1048576) (hC : C ≤ 1048576) (hRC : R * C ≤ 1048576) (hf : ∀ i j : Nat, i < R → j < C → Ret E n_impl_zero_1 [⟨yI, (i : Int)⟩, ⟨yI, (j : Int)⟩] ⟨o_impl_zero_1, (f i j, ())⟩) :
    Ret E n_impl_filled [⟨yI, p⟩, ⟨yI, (R : Int)⟩, ⟨yI, (C : Int)⟩, ⟨(.fn n_impl_zero_1 .nil), ()⟩] ⟨o_impl_filled, (p, (R : Int), (C : Int), flatF f C R, ())⟩ := by
  refine ret_of ?_
  simp only [run_impl_filled, impl_filled_impl_zero_1.ev]
  refine Ev.start (p := fun φ n => impl_filled_impl_zero_1.l0 (mkR (run E (φ 0))) (φ 0) n (C : Int) (R : Int) 0 0 0 0 p (R : Int) (C : Int) [] = _) 1 ?_ (fun _ _ _ h => h)
  refine fold_loop 1 (L := fun φ n k a => impl_filled_impl_zero_1.l0 (mkR (run E (φ 0))) (φ 0) n (C : Int) (R : Int) k 0 0 0 p (R : Int) (C : Int) a) (len := R) (fun k => flatF f C k) (fun _ _ _ _ _ => rfl) (fun k r hk ih => ?_) ?_
  · simp only [impl_filled_impl_zero_1.l0_succ _ mk_ok]
    refine ev_t (decide_eq_true (by omega)) ?_
    refine Ev.start (p := fun φ n => impl_filled_impl_zero_1.l1 (mkR (run E (φ 0))) (φ 0) (φ 1) n (C : Int) (k : Int) (R : Int) (k : Int) (C : Int) 0 0 0 0 p (R : Int) (C : Int) (flatF f C k) = _) 2 ?_ (fun _ _ _ h => h)
    have hle : (k + 1) * C ≤ R * C := Nat.mul_le_mul_right _ hk
    rw [Nat.add_mul] at hle
    have := fold_loop 2 (L := fun φ n j a => impl_filled_impl_zero_1.l1 (mkR (run E (φ 0))) (φ 0) (φ 1) n (C : Int) (k : Int) (R : Int) (k : Int) (C : Int) j 0 0 0 p (R : Int) (C : Int) a) (len := C) (fun j => flatF f C k ++ (List.range j).map (f k)) (r := r) (fun _ _ _ _ _ => rfl) (fun j r hj ih => ?_) ?_
    · simpa using this
    · simp only [impl_filled_impl_zero_1.l1_succ _ mk_ok]
      rw [List.range_succ, List.map_append, ← List.append_assoc] at ih
      refine ev_t (decide_eq_true (by omega)) (ev_call (hf k j hk hj) (ev_chk (by simp [flatF_length]; omega) ?_))
      rw [w64_succ (by omega)]; exact ih
    · simp only [impl_filled_impl_zero_1.l1_succ _ mk_ok]
      refine ev_f (decide_eq_false (by omega)) ?_
      rw [w64_succ (by omega)]; exact ih
  · simp only [impl_filled_impl_zero_1.l0_succ _ mk_ok]
    exact ev_f (decide_eq_false (by omega)) ev_rfl

end VeT

open Go Go.Proofs Ve
set_option linter.unusedVariables false
set_option linter.unusedSimpArgs false
namespace VeT

abbrev cM : Ty := .cons yI (.cons yI (.cons yI (.cons yL .nil)))
abbrev cC : Ty := .cons yK .nil
abbrev cS : Ty := .cons yK (.cons yI (.cons yL (.cons (.sl (.st cM)) .nil)))
abbrev Mat := Int × Int × Int × List Int × Unit
abbrev Cpx := List (List Int) × Unit
abbrev Shf := List (List Int) × Int × List Int × List Mat × Unit
abbrev Sim := List Int
abbrev dI (x : Int) : Dv := ⟨.int .i64,x⟩
abbrev dL (x : List Int) : Dv := ⟨.sl yI,x⟩
abbrev dLL (x : List (List Int)) : Dv := ⟨.sl yL,x⟩
abbrev dC (x : Cpx) : Dv := ⟨.ptr cC,x⟩
abbrev dM (x : Mat) : Dv := ⟨.ptr cM,x⟩
abbrev dS (x : Shf) : Dv := ⟨.ptr cS,x⟩
abbrev dMs (x : List Mat) : Dv := ⟨.sl (.st cM),x⟩

theorem within_ret (n lo hi : Int) : Ret E n_impl_within [dI n,dI lo,dI hi] ⟨o_impl_within,(pb (lo ≤ n ∧ n ≤ hi),())⟩ := by
  refine ret_of ?_
  simp only [run_impl_within,impl_within.ev]
  refine ev_d (fun h => ev_some ?_) fun h => ev_some ?_
  · rw [pb_dec,pb_congr (show n ≤ hi ↔ lo ≤ n ∧ n ≤ hi by omega)]
  · rw [pb_false (by omega)]

theorem l00In_ret (n lo hi : Int) : Ret E n_spec_l00In [dI n,dI lo,dI hi] ⟨o_spec_l00In,(pb (lo ≤ n ∧ n ≤ hi),())⟩ := by
  refine ret_of ?_
  simp only [run_spec_l00In,spec_l00In.ev]
  refine ev_d (fun h => ev_some ?_) fun h => ev_some ?_
  · rw [pb_dec,pb_congr (show n ≤ hi ↔ lo ≤ n ∧ n ≤ hi by omega)]
  · rw [pb_false (by omega)]

theorem isVertex_ret (n : Int) : Ret E n_impl_isVertex [dI n] ⟨o_impl_isVertex,(pb (0 ≤ n ∧ n ≤ 9),())⟩ := by
  refine ret_of ?_
  simp only [run_impl_isVertex,impl_isVertex.ev]
  exact ev_call (within_ret _ _ _) ev_rfl

theorem ValidSimplex_1_ret (n : Int) : Ret E n_impl_ValidSimplex_1 [dI n] ⟨o_impl_ValidSimplex_1,(!pb (0 ≤ n ∧ n ≤ 9),())⟩ := by
  refine ret_of ?_
  simp only [run_impl_ValidSimplex_1,impl_ValidSimplex_1.ev]
  exact ev_call (isVertex_ret _) ev_rfl

/-- the list rises -/
def Rises (s : Sim) : Prop := ∀ j,1 ≤ j → j < s.length → s.getD (j - 1) 0 < s.getD j 0

theorem isRising_ret (s : Sim) (hs : Sm yL s) : Ret E n_impl_isRising [dL s] ⟨o_impl_isRising,(pb (Rises s),())⟩ := by
  have hs1 : s.length ≤ 1048576 := hs.1
  refine ret_of ?_
  simp only [run_impl_isRising,impl_isRising.ev]
  by_cases h0 : s.length = 0
  · refine Ev.start (p := fun φ n => impl_isRising.l0 (mkR (run E (φ 0))) (φ 0) n s 1 = _) 1 ?_ (fun _ _ _ h => h)
    refine loopR 1 (σ := Unit) (L := fun φ n _ => impl_isRising.l0 (mkR (run E (φ 0))) (φ 0) n s 1) (fun _ _ _ _ => rfl) (fun _ => True) (fun _ => _) (fun _ => 0) (fun _ _ _ => ?_) () trivial
    simp only [impl_isRising.l0_succ _ mk_ok]
    refine ev_f (decide_eq_false (by omega)) (ev_some ?_)
    rw [pb_true]
    intro j h1 h2; omega
  · refine Ev.start (p := fun φ n => impl_isRising.l0 (mkR (run E (φ 0))) (φ 0) n s 1 = _) 1 ?_ (fun _ _ _ h => h)
    refine all_pb 1 (L := fun φ n k => impl_isRising.l0 (mkR (run E (φ 0))) (φ 0) n s k) (len := s.length) 1 (by omega) (fun j => s.getD (j - 1) 0 < s.getD j 0) (fun b => some ⟨o_impl_isRising,(b,())⟩) (fun _ _ _ _ => rfl) (fun k h1 h2 hP _ => ?_) (fun k r h1 h2 hP _ ih => ?_) (fun _ => ?_)
    · simp only [impl_isRising.l0_succ _ mk_ok]
      refine ev_t (decide_eq_true (by omega)) ?_
      rw [w64_small (by omega) (by omega),show ((k : Int) - 1) = ((k - 1 : Nat) : Int) by omega]
      refine ev_bind (idx_lt (by omega)) (ev_bind (idx_lt h2) (ev_t (decide_eq_true ?_) ev_rfl))
      simpa [List.getD_eq_getElem?_getD,h2,show k - 1 < s.length by omega] using hP
    · simp only [impl_isRising.l0_succ _ mk_ok]
      refine ev_t (decide_eq_true (by omega)) ?_
      rw [w64_small (by omega) (by omega),show ((k : Int) - 1) = ((k - 1 : Nat) : Int) by omega]
      refine ev_bind (idx_lt (by omega)) (ev_bind (idx_lt h2) (ev_f (decide_eq_false ?_) ?_))
      · simpa [List.getD_eq_getElem?_getD,h2,show k - 1 < s.length by omega] using hP
      · rw [w64_succ (by omega)]; exact ih
    · simp only [impl_isRising.l0_succ _ mk_ok]
      exact ev_f (decide_eq_false (by omega)) ev_rfl

end VeT

open Go Go.Proofs Ve
set_option linter.unusedVariables false
set_option linter.unusedSimpArgs false
namespace VeT

def Vx (s : Sim) : Prop := 1 ≤ s.length ∧ s.length ≤ 4 ∧ Rises s ∧ ∀ x ∈ s,0 ≤ x ∧ x ≤ 9

theorem ValidSimplex_ret (s : Sim) (hs : Sm yL s) : Ret E n_impl_ValidSimplex [dL s] ⟨o_impl_ValidSimplex,(pb (Vx s),())⟩ := by
  refine ret_of ?_
  simp only [run_impl_ValidSimplex,impl_ValidSimplex.ev]
  refine ev_d (fun h1 => ev_d (fun h2 => ev_call (isRising_ret s hs) (ev_b (fun h3 => ev_call (ContainsFunc_Sint64_int64_impl_ValidSimplex_1_ret s _ hs.1 fun x _ => ValidSimplex_1_ret x) (ev_some ?_)) fun h3 => ev_some ?_)) fun h2 => ev_some ?_) fun h1 => ev_some ?_
  · have h3 := pb_iff.1 h3
    have : (!pb (∃ x ∈ s,(!pb (0 ≤ x ∧ x ≤ 9)) = true)) = pb (Vx s) := eq_pb (by
      simp only [Bool.not_eq_true',pb_not]
      exact ⟨fun h => ⟨by omega,by omega,h3,fun x hx => Classical.byContradiction fun hn => h ⟨x,hx,hn⟩⟩,fun h ⟨x,hx,hn⟩ => hn (h.2.2.2 x hx)⟩)
    rw [this]
  · rw [pb_false fun h => pb_not.1 h3 h.2.2.1]
  · rw [pb_false fun h => h2 (by have := h.2.1; omega)]
  · rw [pb_false fun h => h1 (by have := h.1; omega)]

theorem l00Rises_ret (s : Sim) (lo hi : Int) (hs : Sm yL s) : Ret E n_spec_l00Rises [dL s,dI lo,dI hi] ⟨o_spec_l00Rises,(pb (Rises s ∧ ∀ x ∈ s,lo ≤ x ∧ x ≤ hi),())⟩ := by
  have hs1 : s.length ≤ 1048576 := hs.1
  refine ret_of ?_
  simp only [run_spec_l00Rises,spec_l00Rises.ev]
  refine Ev.start (p := fun φ n => spec_l00Rises.l0 (mkR (run E (φ 0))) (φ 0) n s lo hi 0 = _) 1 ?_ (fun _ _ _ h => h)
  refine (all_pb 1 (L := fun φ n k => spec_l00Rises.l0 (mkR (run E (φ 0))) (φ 0) n s lo hi k) (len := s.length) 0 (by omega) (fun j => (lo ≤ s.getD j 0 ∧ s.getD j 0 ≤ hi) ∧ (1 ≤ j → s.getD (j - 1) 0 < s.getD j 0)) (fun b => some ⟨o_spec_l00Rises,(b,())⟩) (fun _ _ _ _ => rfl) (fun k h1 h2 hP _ => ?_) (fun k r h1 h2 hP _ ih => ?_) (fun _ => ?_)).to ?_
  · simp only [spec_l00Rises.l0_succ _ mk_ok]
    refine ev_t (decide_eq_true (by omega)) (ev_bind (idx_lt h2) (ev_call (l00In_ret _ _ _) ?_))
    have e : s.getD k 0 = s[k] := by simp [List.getD_eq_getElem?_getD,h2]
    rw [e] at hP
    refine ev_b (fun _ => ?_) (fun hin => ?_)
    · simp only [spec_l00Rises.j1_eq _ mk_ok,cond_true]; (first | exact ev_rfl | exact Ev.of fun _ => trivial)
    · have hin : lo ≤ s[k] ∧ s[k] ≤ hi := pb_iff.1 (by simpa using hin)
      have hk : 1 ≤ k := Classical.byContradiction fun h => hP ⟨hin,fun h' => absurd h' h⟩
      refine ev_t (decide_eq_true (by omega)) ?_
      rw [w64_small (by omega) (by omega),show ((k : Int) - 1) = ((k - 1 : Nat) : Int) by omega]
      refine ev_bind (idx_lt (by omega)) (ev_bind (idx_lt h2) ?_)
      have e' : s.getD (k - 1) 0 = s[k - 1] := by simp [List.getD_eq_getElem?_getD,show k - 1 < s.length by omega]
      rw [e'] at hP
      have : decide (s[k-1] ≥ s[k]) = true := decide_eq_true (Classical.byContradiction fun h => hP ⟨hin,fun _ => by omega⟩)
      simp only [this,spec_l00Rises.j1_eq _ mk_ok,cond_true]; (first | exact ev_rfl | exact Ev.of fun _ => trivial)
  · simp only [spec_l00Rises.l0_succ _ mk_ok]
    refine ev_t (decide_eq_true (by omega)) (ev_bind (idx_lt h2) (ev_call (l00In_ret _ _ _) ?_))
    have e : s.getD k 0 = s[k] := by simp [List.getD_eq_getElem?_getD,h2]
    rw [e] at hP
    refine ev_f (by rw [pb_true hP.1]; rfl) ?_
    refine ev_d (fun hk => ?_) fun hk => ?_
    · rw [w64_small (by omega) (by omega),show ((k : Int) - 1) = ((k - 1 : Nat) : Int) by omega]
      refine ev_bind (idx_lt (by omega)) (ev_bind (idx_lt h2) ?_)
      have e' : s.getD (k - 1) 0 = s[k - 1] := by simp [List.getD_eq_getElem?_getD,show k - 1 < s.length by omega]
      rw [e'] at hP
      have : decide (s[k-1] ≥ s[k]) = false := decide_eq_false (by have := hP.2 (by omega); omega)
      simp only [this,spec_l00Rises.j1_eq _ mk_ok,cond_false]
      rw [w64_succ (by omega)]; exact ih
    · simp only [spec_l00Rises.j1_eq _ mk_ok,cond_false]
      rw [w64_succ (by omega)]; exact ih
  · simp only [spec_l00Rises.l0_succ _ mk_ok]
    exact ev_f (decide_eq_false (by omega)) ev_rfl
  · refine congrArg (fun b : Bool => some (⟨o_spec_l00Rises,(b,())⟩ : Dv)) (pb_congr ⟨fun h => ⟨fun j h1 h2 => (h j (by omega) h2).2 h1,fun x hx => ?_⟩,fun ⟨h1,h2⟩ j _ hj => ⟨?_,fun h3 => h1 j h3 hj⟩⟩)
    · obtain ⟨j,hj,rfl⟩ := List.mem_iff_getElem.1 hx
      simpa [List.getD_eq_getElem?_getD,hj] using (h j (by omega) hj).1
    · simpa [List.getD_eq_getElem?_getD,hj] using h2 _ (List.getElem_mem hj)

theorem l05Simplex_ret (s : Sim) (hs : Sm yL s) : Ret E n_spec_l05Simplex [dL s] ⟨o_spec_l05Simplex,(pb (Vx s),())⟩ := by
  refine ret_of ?_
  simp only [run_spec_l05Simplex,spec_l05Simplex.ev]
  refine ev_call (l00In_ret _ _ _) (ev_b (fun h1 => ev_call (l00Rises_ret s _ _ hs) (ev_some ?_)) fun h1 => ev_some ?_)
  · have h1 := pb_iff.1 h1
    exact congrArg (fun b : Bool => some (⟨o_spec_l05Simplex,(b,())⟩ : Dv)) (pb_congr ⟨fun h => ⟨by omega,by omega,h.1,h.2⟩,fun h => ⟨h.2.2.1,h.2.2.2⟩⟩)
  · rw [pb_false fun h => pb_not.1 h1 ⟨by have := h.1; omega,by have := h.2.1; omega⟩]

/-! comparing -/
def cmp3 (a b : Int) : Int := if a < b then -1 else if b < a then 1 else 0
def lexc : Sim → Sim → Int
  | [],[] => 0
  | [],_ :: _ => -1
  | _ :: _,[] => 1
  | x :: xs,y :: ys => if x < y then -1 else if y < x then 1 else lexc xs ys
def cmpS (a b : Sim) : Int := if cmp3 a.length b.length ≠ 0 then cmp3 a.length b.length else lexc a b

theorem cmp3_zero {a b : Int} : cmp3 a b = 0 ↔ a = b := by unfold cmp3; split <;> (try split) <;> omega
theorem cmp3_neg {a b : Int} : cmp3 b a = - cmp3 a b := by unfold cmp3; split <;> split <;> (try split) <;> omega
theorem cmp3_lt {a b : Int} : cmp3 a b < 0 ↔ a < b := by unfold cmp3; split <;> (try split) <;> omega
theorem lexc_eq : ∀ {a b : Sim},lexc a b = 0 ↔ a = b
  | [],[] => by simp [lexc]
  | [],_ :: _ => by simp [lexc]
  | _ :: _,[] => by simp [lexc]
  | x :: xs,y :: ys => by
    have := @lexc_eq xs ys
    simp only [lexc,List.cons.injEq]
    split
    · constructor
      · intro h; omega
      · rintro ⟨rfl,_⟩; omega
    · split
      · constructor
        · intro h; omega
        · rintro ⟨rfl,_⟩; omega
      · rw [this]; constructor
        · intro h; exact ⟨by omega,h⟩
        · exact fun h => h.2
theorem lexc_neg : ∀ {a b : Sim},lexc b a = - lexc a b
  | [],[] => by simp [lexc]
  | [],_ :: _ => by simp [lexc]
  | _ :: _,[] => by simp [lexc]
  | x :: xs,y :: ys => by
    have := @lexc_neg xs ys
    simp only [lexc]
    split <;> split <;> (try split) <;> omega
theorem lexc_trans : ∀ {a b c : Sim},lexc a b < 0 → lexc b c < 0 → lexc a c < 0
  | [],[],c,h,_ => by simp [lexc] at h
  | [],_ :: _,[],_,h => by simp [lexc] at h
  | [],_ :: _,_ :: _,_,_ => by simp [lexc]
  | _ :: _,[],_,h,_ => by simp [lexc] at h
  | _ :: _,_ :: _,[],_,h => by simp [lexc] at h
  | x :: xs,y :: ys,z :: zs,h1,h2 => by
    have := @lexc_trans xs ys zs
    simp only [lexc] at h1 h2 ⊢
    split at h1 <;> split at h2 <;> (try split at h1) <;> (try split at h2) <;> (try split) <;> (try split) <;> first | omega | (exact this h1 h2)
theorem cmpS_zero {a b : Sim} : cmpS a b = 0 ↔ a = b := by
  unfold cmpS
  split
  · rename_i h
    exact ⟨fun h' => absurd h' h,fun h' => absurd (cmp3_zero.2 (by rw [h'])) h⟩
  · exact lexc_eq
theorem cmpS_neg {a b : Sim} : cmpS b a = - cmpS a b := by
  unfold cmpS
  rw [@cmp3_neg a.length b.length]
  split <;> split <;> first | omega | exact lexc_neg
theorem cmpS_lt {a b : Sim} : cmpS a b < 0 ↔ a.length < b.length ∨ a.length = b.length ∧ lexc a b < 0 := by
  unfold cmpS
  split
  · rename_i h
    rw [cmp3_lt]
    rw [Ne,cmp3_zero] at h
    omega
  · rename_i h
    rw [Classical.not_not,cmp3_zero] at h
    omega
theorem cmpS_trans {a b c : Sim} (h1 : cmpS a b < 0) (h2 : cmpS b c < 0) : cmpS a c < 0 := by
  rw [cmpS_lt] at *
  rcases h1 with h1 | ⟨h1,h1'⟩ <;> rcases h2 with h2 | ⟨h2,h2'⟩
  · left; omega
  · left; omega
  · left; omega
  · right; exact ⟨by omega,lexc_trans h1' h2'⟩

theorem isNaNi_ret (a : Int) : Ret E n_cmp_isNaN_int [dI a] ⟨o_cmp_isNaN_int,(false,())⟩ := by
  refine ret_of ?_
  simp only [run_cmp_isNaN_int,cmp_isNaN_int.ev]
  exact ev_some (by simp)
theorem isNaN_ret (a : Int) : Ret E n_cmp_isNaN_int64 [dI a] ⟨o_cmp_isNaN_int64,(false,())⟩ := by
  refine ret_of ?_
  simp only [run_cmp_isNaN_int64,cmp_isNaN_int64.ev]
  exact ev_some (by simp)

theorem Comparei_ret (a b : Int) : Ret E n_cmp_Compare_int [dI a,dI b] ⟨o_cmp_Compare_int,(cmp3 a b,())⟩ := by
  refine ret_of ?_
  simp only [run_cmp_Compare_int,cmp_Compare_int.ev]
  refine ev_call (isNaNi_ret _) (ev_call (isNaNi_ret _) (ev_f rfl (ev_f rfl (ev_d (fun h => ev_some ?_) fun h => ev_d (fun h2 => ev_some ?_) fun h2 => ev_some ?_))))
  · rw [cmp3,if_pos h]
  · rw [cmp3,if_neg h,if_pos h2]
  · rw [cmp3,if_neg h,if_neg h2]
theorem Compare_ret (a b : Int) : Ret E n_cmp_Compare_int64 [dI a,dI b] ⟨o_cmp_Compare_int64,(cmp3 a b,())⟩ := by
  refine ret_of ?_
  simp only [run_cmp_Compare_int64,cmp_Compare_int64.ev]
  refine ev_call (isNaN_ret _) (ev_call (isNaN_ret _) (ev_f rfl (ev_f rfl (ev_d (fun h => ev_some ?_) fun h => ev_d (fun h2 => ev_some ?_) fun h2 => ev_some ?_))))
  · rw [cmp3,if_pos h]
  · rw [cmp3,if_neg h,if_pos h2]
  · rw [cmp3,if_neg h,if_neg h2]

theorem lexc_step {a b : Sim} {k : Nat} (h : k < a.length) (h' : k < b.length) : lexc (a.drop k) (b.drop k) = if cmp3 a[k] b[k] ≠ 0 then cmp3 a[k] b[k] else lexc (a.drop (k + 1)) (b.drop (k + 1)) := by
  rw [List.drop_eq_getElem_cons h,List.drop_eq_getElem_cons h',lexc]
  unfold cmp3
  split
  · simp
  · split
    · simp
    · simp

theorem SliceCompare_ret (a b : Sim) (ha : Sm yL a) : Ret E n_slices_Compare_Sint64_int64 [dL a,dL b] ⟨o_slices_Compare_Sint64_int64,(lexc a b,())⟩ := by
  have ha1 : a.length ≤ 1048576 := ha.1
  refine ret_of ?_
  simp only [run_slices_Compare_Sint64_int64,slices_Compare_Sint64_int64.ev]
  refine Ev.start (p := fun φ n => slices_Compare_Sint64_int64.l0 (mkR (run E (φ 0))) (φ 0) n a b a (a.length : Int) 0 = _) 1 ?_ (fun _ _ _ h => h)
  refine loopR 1 (σ := Nat) (L := fun φ n k => slices_Compare_Sint64_int64.l0 (mkR (run E (φ 0))) (φ 0) n a b a (a.length : Int) (k : Int)) (fun _ _ _ _ => rfl) (fun k => k ≤ a.length ∧ k ≤ b.length) (fun k => some ⟨o_slices_Compare_Sint64_int64,(lexc (a.drop k) (b.drop k),())⟩) (fun k => a.length - k) (fun k ⟨hk,hkb⟩ ih => ?_) 0 ⟨Nat.zero_le _,Nat.zero_le _⟩
  simp only [slices_Compare_Sint64_int64.l0_succ _ mk_ok]
  refine ev_d (fun h => ?_) fun h => ?_
  · have hka : k < a.length := by omega
    refine ev_bind (idx_lt hka) (ev_d (fun h2 => ev_some ?_) fun h2 => ?_)
    · rw [List.drop_eq_getElem_cons hka,List.drop_of_length_le (l := b) (by omega),lexc]
    · have hkb : k < b.length := by omega
      refine ev_bind (idx_lt hkb) (ev_call (Compare_ret _ _) (ev_b (fun h3 => ev_some ?_) fun h3 => ?_))
      · rw [lexc_step hka hkb,if_pos (by simpa using h3)]
      · rw [w64_succ (by omega)]
        refine (ih (k + 1) ⟨by omega,by omega⟩ (by omega)).to ?_
        rw [lexc_step hka hkb,if_neg (by simpa using h3)]
  · have e : k = a.length := by omega
    subst e
    refine ev_d (fun h2 => ev_some ?_) fun h2 => ev_some ?_
    · rw [List.drop_of_length_le (l := a) (by omega),List.drop_eq_getElem_cons (l := b) (by omega),lexc]
    · rw [List.drop_of_length_le (l := a) (by omega),List.drop_of_length_le (l := b) (by omega),lexc]

theorem Or2_ret (a b : Int) : Ret E n_cmp_Or_int [dL [a,b]] ⟨o_cmp_Or_int,(if a ≠ 0 then a else b,())⟩ := by
  refine ret_of ?_
  simp only [run_cmp_Or_int,cmp_Or_int.ev]
  refine Ev.start (p := fun φ n => cmp_Or_int.l0 (mkR (run E (φ 0))) (φ 0) n 0 [a,b] ([a,b].length : Int) 0 = _) 1 ?_ (fun _ _ _ h => h)
  refine Ev.round 1 (L := fun φ n => cmp_Or_int.l0 (mkR (run E (φ 0))) (φ 0) n 0 [a,b] ([a,b].length : Int) 0) ?_ (fun _ _ _ => rfl)
  simp only [cmp_Or_int.l0_succ _ mk_ok]
  refine ev_t (by simp) (ev_bind (x := a) rfl (ev_b (fun h => ev_some ?_) fun h => ?_))
  · rw [if_pos (by simpa using h)]
  · rw [if_neg (by simpa using h)]
    rw [show w64 ((0 : Int) + 1) = 1 by decide]
    refine Ev.round 1 (L := fun φ n => cmp_Or_int.l0 (mkR (run E (φ 0))) (φ 0) n 0 [a,b] ([a,b].length : Int) 1) ?_ (fun _ _ _ => rfl)
    simp only [cmp_Or_int.l0_succ _ mk_ok]
    refine ev_t (by simp) (ev_bind (x := b) rfl (ev_b (fun h => ev_rfl) fun h => ?_))
    rw [show w64 ((1 : Int) + 1) = 2 by decide]
    refine Ev.round 1 (L := fun φ n => cmp_Or_int.l0 (mkR (run E (φ 0))) (φ 0) n 0 [a,b] ([a,b].length : Int) 2) ?_ (fun _ _ _ => rfl)
    simp only [cmp_Or_int.l0_succ _ mk_ok]
    refine ev_f (by simp) (ev_some ?_)
    have : b = 0 := by simpa using h
    rw [this]

theorem compareSimplices_ret (a b : Sim) (ha : Sm yL a) : Ret E n_impl_compareSimplices [dL a,dL b] ⟨o_impl_compareSimplices,(cmpS a b,())⟩ := by
  refine ret_of ?_
  simp only [run_impl_compareSimplices,impl_compareSimplices.ev]
  exact ev_call (Comparei_ret _ _) (ev_call (SliceCompare_ret a b ha) (ev_call (Or2_ret _ _) ev_rfl))

theorem l05Before_ret (a b : Sim) (ha : Sm yL a) : Ret E n_spec_l05Before [dL a,dL b] ⟨o_spec_l05Before,(pb (cmpS a b < 0),())⟩ := by
  have ha1 : a.length ≤ 1048576 := ha.1
  refine ret_of ?_
  simp only [run_spec_l05Before,spec_l05Before.ev]
  refine ev_b (fun h => ev_some ?_) fun h => ?_
  · have h : (a.length : Int) ≠ b.length := by simpa using h
    rw [pb_dec,pb_congr (show (a.length : Int) < b.length ↔ cmpS a b < 0 by rw [cmpS_lt]; omega)]
  · have h : a.length = b.length := by have : (a.length : Int) = b.length := by simpa using h
                                       omega
    refine Ev.start (p := fun φ n => spec_l05Before.l0 (mkR (run E (φ 0))) (φ 0) n a b 0 = _) 1 ?_ (fun _ _ _ h => h)
    refine (loopR 1 (σ := Nat) (L := fun φ n k => spec_l05Before.l0 (mkR (run E (φ 0))) (φ 0) n a b (k : Int)) (fun _ _ _ _ => rfl) (fun k => k ≤ a.length) (fun k => some ⟨o_spec_l05Before,(pb (lexc (a.drop k) (b.drop k) < 0),())⟩) (fun k => a.length - k) (fun k hk ih => ?_) 0 (Nat.zero_le _)).to ?_
    · simp only [spec_l05Before.l0_succ _ mk_ok]
      refine ev_d (fun h1 => ?_) fun h1 => ?_
      · have hka : k < a.length := by omega
        have hkb : k < b.length := by omega
        have e := lexc_step hka hkb
        refine ev_bind (idx_lt hka) (ev_bind (idx_lt hkb) (ev_b (fun h3 => ?_) fun h3 => ?_))
        · refine ev_bind (idx_lt hka) (ev_bind (idx_lt hkb) (ev_some ?_))
          have h3 : a[k] ≠ b[k] := by simpa using h3
          rw [if_pos (by rw [Ne,cmp3_zero]; exact h3)] at e
          rw [e,pb_dec,pb_congr cmp3_lt]
        · have h3 : a[k] = b[k] := by simpa using h3
          rw [if_neg (by rw [Classical.not_not,cmp3_zero]; exact h3)] at e
          rw [w64_succ (by omega),e]
          exact ih (k + 1) (by show k + 1 ≤ _; omega) (by show a.length - (k + 1) < _; omega)
      · refine ev_some ?_
        have hk : k ≤ a.length := hk
        have e : k = a.length := by omega
        subst e
        rw [List.drop_of_length_le (l := a) (by omega),List.drop_of_length_le (l := b) (by omega),lexc,pb_false (by omega)]
    · refine congrArg (fun b : Bool => some (⟨o_spec_l05Before,(b,())⟩ : Dv)) (pb_congr ?_)
      simp only [List.drop_zero]; rw [cmpS_lt]; omega

end VeT

open Go Go.Proofs Ve
set_option linter.unusedVariables false
set_option linter.unusedSimpArgs false
namespace VeT

theorem getD_lt {α : Type} {s : List α} {k : Nat} {d : α} (h : k < s.length) : s.getD k d = s[k] := by simp [List.getD_eq_getElem?_getD,h]
theorem sm_get {t : Ty} {s : List t.T} (h : Sm (.sl t) s) {k : Nat} (hk : k < s.length) : Sm t s[k] := h.2 _ (List.getElem_mem hk)
theorem sm_ints {s : Sim} (h : s.length ≤ 1048576) : Sm yL s := ⟨h,fun _ _ => trivial⟩

theorem l00Own_ret (s : Sim) (hs : s.length ≤ 1048576) : Ret E n_spec_l00Own [dL s] ⟨o_spec_l00Own,(s,())⟩ := by
  refine ret_of ?_
  simp only [run_spec_l00Own,spec_l00Own.ev]
  exact ev_chk (by simp; omega) (ev_some rfl)

theorem l05Drop_ret (s : Sim) (k : Nat) (hk : k < s.length) (hs : s.length ≤ 1048576) : Ret E n_spec_l05Drop [dL s,dI (k : Int)] ⟨o_spec_l05Drop,(s.eraseIdx k,())⟩ := by
  refine ret_of ?_
  simp only [run_spec_l05Drop,spec_l05Drop.ev]
  rw [w64_succ (by omega)]
  simp only [Int.toNat_natCast]
  refine ev_chk (by simp; omega) (ev_call (l00Own_ret _ (by simp; omega)) (ev_chk (by simp; omega) (ev_chk (by simp; omega) (ev_some ?_))))
  rw [List.eraseIdx_eq_take_drop_succ]

theorem l00SameP_ret (a b : Sim) (ha : a.length ≤ 1048576) : Ret E n_spec_l00Same [dL a,dL b] ⟨o_spec_l00Same,(pb (a = b),())⟩ := by
  refine ret_of ?_
  simp only [run_spec_l00Same,spec_l00Same.ev]
  refine ev_b (fun h => ev_some ?_) fun h => ?_
  · have h : (a.length : Int) ≠ b.length := by simpa using h
    rw [pb_false fun e => h (by rw [e])]
  · have h : (a.length : Int) = b.length := by simpa using h
    refine Ev.start (p := fun φ n => spec_l00Same.l0 (mkR (run E (φ 0))) (φ 0) n a b 0 = _) 1 ?_ (fun _ _ _ h => h)
    refine (all_pb 1 (L := fun φ n k => spec_l00Same.l0 (mkR (run E (φ 0))) (φ 0) n a b k) (len := a.length) 0 (by omega) (fun j => a.getD j 0 = b.getD j 0) (fun b => some ⟨o_spec_l00Same,(b,())⟩) (fun _ _ _ _ => rfl) (fun k h1 h2 hP _ => ?_) (fun k r h1 h2 hP _ ih => ?_) (fun _ => ?_)).to ?_
    · simp only [spec_l00Same.l0_succ _ mk_ok]
      have hb : k < b.length := by omega
      rw [getD_lt h2,getD_lt hb] at hP
      exact ev_t (decide_eq_true (by omega)) (ev_bind (idx_lt h2) (ev_bind (idx_lt hb) (ev_t (by simpa using hP) ev_rfl)))
    · simp only [spec_l00Same.l0_succ _ mk_ok]
      have hb : k < b.length := by omega
      rw [getD_lt h2,getD_lt hb] at hP
      refine ev_t (decide_eq_true (by omega)) (ev_bind (idx_lt h2) (ev_bind (idx_lt hb) (ev_f (by simpa using hP) ?_)))
      rw [w64_succ (by omega)]; exact ih
    · simp only [spec_l00Same.l0_succ _ mk_ok]
      exact ev_f (decide_eq_false (by omega)) ev_rfl
    · refine congrArg (fun b : Bool => some (⟨o_spec_l00Same,(b,())⟩ : Dv)) (pb_congr ⟨fun hh => List.ext_getElem (by omega) fun j h1 h2 => ?_,fun hh j _ _ => by rw [hh]⟩)
      have := hh j (by omega) h1
      rwa [getD_lt h1,getD_lt h2] at this

noncomputable def findI (c : List Sim) (s : Sim) : Int := idxf (fun x => pb (x = s)) c
theorem findI_nonneg {c : List Sim} {s : Sim} : 0 ≤ findI c s ↔ s ∈ c := by
  unfold findI
  rw [idxf_nonneg]
  simp only [pb_iff]
  exact ⟨fun ⟨x,h,e⟩ => e ▸ h,fun h => ⟨s,h,rfl⟩⟩

theorem l05Find_ret (c : Cpx) (s : Sim) (hc : Sm yK c.1) : Ret E n_spec_l05Find [dC c,dL s] ⟨o_spec_l05Find,(findI c.1 s,())⟩ := by
  have hc1 : c.1.length ≤ 1048576 := hc.1
  obtain ⟨o,h1,h2,h3⟩ := find_loop 1 (L := fun φ n k => spec_l05Find.l0 (mkR (run E (φ 0))) (φ 0) n c s k) (len := c.1.length) (fun k => ∃ h : k < c.1.length,pb (c.1[k] = s) = true) (fun o => some ⟨o_spec_l05Find,(o2i o,())⟩) (fun _ _ _ _ => rfl) (fun k hk hP => by
      obtain ⟨_,hP⟩ := hP
      simp only [spec_l05Find.l0_succ _ mk_ok]
      refine ev_t (decide_eq_true (by omega)) (ev_bind (idx_lt hk) (ev_call (l00SameP_ret _ _ (sm_get hc hk).1) (ev_t hP ev_rfl)))) (fun k q hk hP ih => by
      simp only [spec_l05Find.l0_succ _ mk_ok]
      refine ev_t (decide_eq_true (by omega)) (ev_bind (idx_lt hk) (ev_call (l00SameP_ret _ _ (sm_get hc hk).1) (ev_f (Bool.eq_false_iff.2 fun h => hP ⟨hk,h⟩) ?_)))
      rw [w64_succ (by omega)]; exact ih) (by
      simp only [spec_l05Find.l0_succ _ mk_ok]
      exact ev_f (decide_eq_false (by omega)) ev_rfl)
  rw [idxf_of (p := fun x => pb (x = s)) h1 h2] at h3
  refine ret_of ?_
  simp only [run_spec_l05Find,spec_l05Find.ev]
  exact Ev.start (p := fun φ n => spec_l05Find.l0 (mkR (run E (φ 0))) (φ 0) n c s 0 = _) 1 h3 (fun _ _ _ h => h)

/-! joining,faces -/
theorem run_Grow (n : Nat) (args : List Dv) : run E (n + 1) n_slices_Grow_Sint64_int64 args = pGrow yI (mkR (run E n)) args := rfl

theorem Grow_ret (s : Sim) (n : Int) (h0 : 0 ≤ n) (h1 : n ≤ 1048576) (hs : s.length ≤ 1048576) : Ret E n_slices_Grow_Sint64_int64 [dL s,dI n] ⟨o_slices_Grow_Sint64_int64,(s,())⟩ := by
  refine ret_of ?_
  simp only [run_Grow]
  refine ev_some ((if_pos (show 0 ≤ n ∧ ((List.length s : Int) + n) * (64 * (Ty.size (Ty.int IntKind.i64) : Int)) ≤ 70368744177664 from ⟨h0,?_⟩)).trans rfl)
  have : (Ty.size (Ty.int IntKind.i64)) = 1 := rfl
  rw [this]; omega

theorem Concat_ret (ll : List Sim) (hl : ll.length ≤ 1048576) (hf : ll.flatten.length ≤ 1048576) : Ret E n_slices_Concat_Sint64_int64 [dLL ll] ⟨o_slices_Concat_Sint64_int64,(ll.flatten,())⟩ := by
  have hle : ∀ k,(ll.take k).flatten.length ≤ ll.flatten.length := fun k => by
    have := congrArg List.length (congrArg List.flatten (List.take_append_drop k ll))
    rw [List.flatten_append,List.length_append] at this; omega
  have hst : ∀ k (h : k < ll.length),(ll.take (k + 1)).flatten = (ll.take k).flatten ++ ll[k] := fun k h => by
    rw [List.take_succ_eq_append_getElem h,List.flatten_append]; simp
  refine ret_of ?_
  simp only [run_slices_Concat_Sint64_int64,slices_Concat_Sint64_int64.ev]
  refine Ev.start (p := fun φ n => slices_Concat_Sint64_int64.l0 (mkR (run E (φ 0))) (φ 0) n ll 0 ll (ll.length : Int) 0 = _) 1 ?_ (fun _ _ _ h => h)
  refine fold_loop 1 (L := fun φ n k a => slices_Concat_Sint64_int64.l0 (mkR (run E (φ 0))) (φ 0) n ll a ll (ll.length : Int) k) (len := ll.length) (fun k => (((ll.take k).flatten.length : Nat) : Int)) (fun _ _ _ _ _ => rfl) (fun k r hk ih => ?_) ?_
  · simp only [slices_Concat_Sint64_int64.l0_succ _ mk_ok]
    have := hle (k + 1)
    have e := hst k hk
    have e2 : w64 (((ll.take k).flatten.length : Nat) + (List.length (ll[k]) : Int)) = (((ll.take (k + 1)).flatten.length : Nat) : Int) := by
      rw [w64_small (by omega) (by rw [e,List.length_append] at this; omega),e,List.length_append]; omega
    refine ev_t (decide_eq_true (by omega)) (ev_bind (idx_lt hk) ?_)
    show Ev fun φ => (bif decide (w64 (((ll.take k).flatten.length : Nat) + (List.length (ll[k]) : Int)) < 0) then none else slices_Concat_Sint64_int64.l0 (mkR (run E (φ 0))) (φ 0) (φ 1) ll (w64 (((ll.take k).flatten.length : Nat) + (List.length (ll[k]) : Int))) ll (ll.length : Int) (w64 ((k : Int) + 1))) = r
    rw [e2,w64_succ (by omega)]
    exact ev_f (decide_eq_false (by omega)) ih
  · simp only [slices_Concat_Sint64_int64.l0_succ _ mk_ok]
    refine ev_f (decide_eq_false (by omega)) (ev_call (Grow_ret [] _ (by omega) (by have := hle ll.length; omega) (by simp)) ?_)
    refine Ev.start (p := fun φ n => slices_Concat_Sint64_int64.l1 (mkR (run E (φ 0))) (φ 0) n ll (ll.length : Int) 0 [] = _) 2 ?_ (fun _ _ _ h => h)
    refine fold_loop 2 (L := fun φ n k a => slices_Concat_Sint64_int64.l1 (mkR (run E (φ 0))) (φ 0) n ll (ll.length : Int) k a) (len := ll.length) (fun k => (ll.take k).flatten) (fun _ _ _ _ _ => rfl) (fun k r hk ih => ?_) ?_
    · simp only [slices_Concat_Sint64_int64.l1_succ _ mk_ok]
      have := hle (k + 1)
      have e := hst k hk
      rw [e] at ih this
      rw [List.length_append] at this
      refine ev_t (decide_eq_true (by omega)) (ev_bind (idx_lt hk) (ev_chk (decide_eq_true (by show (_ + List.length ll[k]) * 8 ≤ _; omega)) ?_))
      rw [w64_succ (by omega)]
      exact ih
    · simp only [slices_Concat_Sint64_int64.l1_succ _ mk_ok]
      refine ev_f (decide_eq_false (by omega)) (ev_some ?_)
      rw [List.take_of_length_le (Nat.le_refl _)]

def faces (s : Sim) : List Sim := if 1 < s.length then (List.range s.length).map (s.eraseIdx ·) else []

theorem faces_mem {s f : Sim} : f ∈ faces s ↔ 1 < s.length ∧ ∃ i,i < s.length ∧ f = s.eraseIdx i := by
  unfold faces
  split
  · rename_i h
    simp only [List.mem_map,List.mem_range,h,true_and]
    exact ⟨fun ⟨i,h1,h2⟩ => ⟨i,h1,h2.symm⟩,fun ⟨i,h1,h2⟩ => ⟨i,h1,h2.symm⟩⟩
  · rename_i h
    simp [h]

theorem faces_len {s f : Sim} (h : f ∈ faces s) : f.length + 1 = s.length := by
  obtain ⟨h1,i,h2,rfl⟩ := faces_mem.1 h
  rw [List.length_eraseIdx,if_pos h2]; omega

theorem faces_length {s : Sim} : (faces s).length ≤ s.length := by
  unfold faces; split <;> simp

theorem facesOf_ret (s : Sim) (hs : s.length ≤ 1048576) : Ret E n_impl_facesOf [dL s] ⟨o_impl_facesOf,(faces s,())⟩ := by
  refine ret_of ?_
  simp only [run_impl_facesOf,impl_facesOf.ev]
  refine Ev.start (p := fun φ n => impl_facesOf.l0 (mkR (run E (φ 0))) (φ 0) n s (s.length : Int) 0 [] = _) 1 ?_ (fun _ _ _ h => h)
  by_cases h1 : 1 < s.length
  · refine fold_loop 1 (L := fun φ n k a => impl_facesOf.l0 (mkR (run E (φ 0))) (φ 0) n s (s.length : Int) k a) (len := s.length) (fun k => (List.range k).map (s.eraseIdx ·)) (fun _ _ _ _ _ => rfl) (fun k r hk ih => ?_) ?_
    · simp only [impl_facesOf.l0_succ _ mk_ok]
      rw [List.range_succ,List.map_append] at ih
      rw [w64_succ (by omega)]
      simp only [Int.toNat_natCast]
      refine ev_t (decide_eq_true (by omega)) (ev_t (decide_eq_true (by omega)) (ev_chk (by simp; omega) (ev_chk (by simp; omega) (ev_call (Concat_ret _ (by simp) (by simp; omega)) (ev_chk (by simp; omega) ?_)))))
      rw [show [s.take k,s.drop (k + 1)].flatten = s.eraseIdx k by simp [List.eraseIdx_eq_take_drop_succ]]
      exact ih
    · simp only [impl_facesOf.l0_succ _ mk_ok]
      exact ev_f (decide_eq_false (by omega)) (ev_some (by rw [faces,if_pos h1]))
  · refine fold_loop 1 (L := fun φ n k a => impl_facesOf.l0 (mkR (run E (φ 0))) (φ 0) n s (s.length : Int) k a) (len := s.length) (fun k => []) (fun _ _ _ _ _ => rfl) (fun k r hk ih => ?_) ?_
    · simp only [impl_facesOf.l0_succ _ mk_ok]
      rw [w64_succ (by omega)]
      exact ev_t (decide_eq_true (by omega)) (ev_f (decide_eq_false (by omega)) ih)
    · simp only [impl_facesOf.l0_succ _ mk_ok]
      exact ev_f (decide_eq_false (by omega)) (ev_some (by rw [faces,if_neg h1]))

/-! searching -/
def Srt (c : List Sim) : Prop := ∀ i j (h : j < c.length) (hij : i < j),cmpS c[i] c[j] < 0

theorem srt_of {c : List Sim} (h : ∀ k,1 ≤ k → k < c.length → cmpS (c.getD (k - 1) []) (c.getD k []) < 0) : Srt c := by
  intro i j
  induction j with
  | zero => intro _ h; omega
  | succ j ih =>
    intro hj hij
    have := h (j + 1) (by omega) hj
    rw [Nat.add_sub_cancel,getD_lt (by omega),getD_lt hj] at this
    by_cases e : i = j
    · subst e; exact this
    · exact cmpS_trans (ih (by omega) (by omega)) this

theorem Srt.take {c : List Sim} (h : Srt c) (k : Nat) : Srt (c.take k) := by
  intro i j hj hij
  rw [List.getElem_take,List.getElem_take]
  exact h i j (by rw [List.length_take] at hj; omega) hij

def bs (c : List Sim) (s : Sim) : Nat := c.findIdx (fun x => !decide (cmpS x s < 0))

theorem bs_le {c : List Sim} {s : Sim} : bs c s ≤ c.length := List.findIdx_le_length
theorem bs_lt {c : List Sim} {s : Sim} (hc : Srt c) {t : Nat} (h : t < c.length) : t < bs c s ↔ cmpS c[t] s < 0 := by
  constructor
  · intro ht
    have := List.not_of_lt_findIdx ht
    simpa using this
  · intro ht
    refine Classical.byContradiction fun hn => ?_
    have hb : bs c s < c.length := by omega
    have h1 : cmpS c[bs c s] s < 0 := by
      by_cases e : bs c s = t
      · simp only [e]; exact ht
      · exact cmpS_trans (hc _ _ h (by omega)) ht
    have := List.findIdx_getElem (w := hb)
    simp only [Bool.not_eq_true',decide_eq_false_iff_not] at this
    exact this h1

theorem bs_find {c : List Sim} {s : Sim} (hc : Srt c) : findI c s = if h : bs c s < c.length ∧ c.getD (bs c s) [] = s then (bs c s : Int) else -1 := by
  have e : c.findIdx? (fun x => pb (x = s)) = if bs c s < c.length ∧ c.getD (bs c s) [] = s then some (bs c s) else none := by
    split
    · rename_i h
      obtain ⟨h1,h2⟩ := h
      rw [List.findIdx?_eq_some_iff_getElem]
      rw [getD_lt h1] at h2
      refine ⟨h1,pb_true h2,fun j hj => ?_⟩
      rw [pb_iff]
      intro he
      have := (bs_lt (s := s) hc (show j < c.length by omega)).1 hj
      rw [he,cmpS_zero.2 rfl] at this
      omega
    · rename_i h
      rw [List.findIdx?_eq_none_iff]
      intro x hx
      rw [pb_not]
      rintro rfl
      obtain ⟨j,hj,rfl⟩ := List.mem_iff_getElem.1 hx
      have h0 : ¬ j < bs c c[j] := fun hlt => by
        have := (bs_lt hc hj).1 hlt
        rw [cmpS_zero.2 rfl] at this; omega
      by_cases hjb : bs c c[j] = j
      · exact h ⟨by omega,by rw [hjb,getD_lt hj]⟩
      · have hb : bs c c[j] < c.length := by omega
        have := (bs_lt (s := c[j]) hc hb).2 (hc _ _ hj (by omega))
        omega
  unfold findI idxf
  rw [e]
  split <;> rfl

theorem BinarySearch_ret (c : List Sim) (s : Sim) (hc : Sm yK c) (hs : Srt c) : Ret E n_slices_BinarySearchFunc_SSint64_Sint64_Sint64 [dLL c,dL s,⟨.fn n_impl_compareSimplices .nil,()⟩] ⟨o_slices_BinarySearchFunc_SSint64_Sint64_Sint64,((bs c s : Int),pb (bs c s < c.length ∧ c.getD (bs c s) [] = s),())⟩ := by
  have hc1 : c.length ≤ 1048576 := hc.1
  refine ret_of ?_
  simp only [run_slices_BinarySearchFunc_SSint64_Sint64_Sint64,slices_BinarySearchFunc_SSint64_Sint64_Sint64_impl_compareSimplices.ev]
  refine Ev.start (p := fun φ n => slices_BinarySearchFunc_SSint64_Sint64_Sint64_impl_compareSimplices.l0 (mkR (run E (φ 0))) (φ 0) n c s (c.length : Int) 0 (c.length : Int) = _) 1 ?_ (fun _ _ _ h => h)
  refine loopR 1 (σ := Nat × Nat) (L := fun φ n st => slices_BinarySearchFunc_SSint64_Sint64_Sint64_impl_compareSimplices.l0 (mkR (run E (φ 0))) (φ 0) n c s (c.length : Int) (st.1 : Int) (st.2 : Int)) (fun _ _ _ _ => rfl) (fun st => st.1 ≤ bs c s ∧ bs c s ≤ st.2 ∧ st.2 ≤ c.length) (fun _ => _) (fun st => st.2 - st.1) (fun st hi ih => ?_) (0,c.length) ⟨Nat.zero_le _,bs_le,Nat.le_refl _⟩
  obtain ⟨i,j⟩ := st
  obtain ⟨h1,h2,h3⟩ := hi
  simp only at h1 h2 h3 ih
  simp only [slices_BinarySearchFunc_SSint64_Sint64_Sint64_impl_compareSimplices.l0_succ _ mk_ok]
  rw [half (by omega)]
  refine ev_d (fun hij => ?_) fun hij => ?_
  · have hh : (i + j) / 2 < c.length := by omega
    refine ev_chk (by decide) (ev_bind (idx_lt hh) (ev_call (compareSimplices_ret _ _ (sm_get hc hh)) (ev_d (fun hlt => ?_) fun hlt => ?_)))
    · rw [w64_succ (by omega)]
      have := (bs_lt hs hh).2 hlt
      exact ih ((i + j) / 2 + 1,j) ⟨this,h2,h3⟩ (by simp only; omega)
    · have : ¬ (i + j) / 2 < bs c s := fun h => hlt ((bs_lt hs hh).1 h)
      exact ih (i,(i + j) / 2) ⟨h1,by simp only; omega,by simp only; omega⟩ (by simp only; omega)
  · have e : i = bs c s := by omega
    subst e
    refine ev_d (fun hl => ?_) fun hl => ev_some ?_
    · have hh : bs c s < c.length := by omega
      refine ev_bind (idx_lt hh) (ev_call (compareSimplices_ret _ _ (sm_get hc hh)) (ev_some ?_))
      have : (cmpS c[bs c s] s == 0) = pb (bs c s < c.length ∧ c.getD (bs c s) [] = s) := eq_pb (by
        rw [getD_lt hh,beq_iff_eq,cmpS_zero]; exact ⟨fun h => ⟨hh,h⟩,fun h => h.2⟩)
      rw [this]
    · rw [pb_false fun h => hl (by omega)]

theorem indexOf_ret (c : List Sim) (s : Sim) (hc : Sm yK c) (hs : Srt c) : Ret E n_impl_indexOf [dLL c,dL s] ⟨o_impl_indexOf,(findI c s,())⟩ := by
  refine ret_of ?_
  simp only [run_impl_indexOf,impl_indexOf.ev]
  refine ev_call (BinarySearch_ret c s hc hs) (ev_b (fun h => ev_some ?_) fun h => ev_some ?_)
  · rw [bs_find hs,dif_neg (pb_not.1 (by simpa using h))]
  · rw [bs_find hs,dif_pos (pb_iff.1 (by simpa using h))]

end VeT

open Go Go.Proofs Ve
set_option linter.unusedVariables false
set_option linter.unusedSimpArgs false
namespace VeT

/-- valid complexes -/
def VC (c : List Sim) : Prop := c.length ≤ 48 ∧ (∀ k,k < c.length → Vx (c.getD k [])) ∧ (∀ k,1 ≤ k → k < c.length → cmpS (c.getD (k - 1) []) (c.getD k []) < 0) ∧ ∀ k,k < c.length → ∀ f ∈ faces (c.getD k []),f ∈ c

theorem VC.srt {c : List Sim} (h : VC c) : Srt c := srt_of h.2.2.1

def VCimpl (c : List Sim) (k : Nat) : Prop := (Vx (c.getD k []) ∧ (1 ≤ k → cmpS (c.getD (k - 1) []) (c.getD k []) < 0)) ∧ ∀ f ∈ faces (c.getD k []),f ∈ c.take k

theorem VC_impl {c : List Sim} : ((∀ k,0 ≤ k → k < c.length → VCimpl c k) ∧ c.length ≤ 48) ↔ VC c := by
  constructor
  · rintro ⟨h,hl⟩
    exact ⟨hl,fun k hk => (h k (by omega) hk).1.1,fun k h1 hk => (h k (by omega) hk).1.2 h1,fun k hk f hf => List.mem_of_mem_take ((h k (by omega) hk).2 f hf)⟩
  · intro h
    have hs := h.srt
    obtain ⟨hl,h1,h2,h3⟩ := h
    refine ⟨fun k _ hk => ⟨⟨h1 k hk,fun hk1 => h2 k hk1 hk⟩,fun f hf => ?_⟩,hl⟩
    have hm := h3 k hk f hf
    have hlen := faces_len hf
    rw [getD_lt hk] at hlen
    obtain ⟨i,hi,rfl⟩ := List.mem_iff_getElem.1 hm
    have hlt : cmpS c[i] c[k] < 0 := cmpS_lt.2 (.inl (by omega))
    have hik : i < k := Classical.byContradiction fun hn => by
      by_cases e : i = k
      · subst e; omega
      · have := hs k i hi (by omega)
        rw [cmpS_neg] at this; omega
    exact List.mem_iff_getElem.2 ⟨i,by rw [List.length_take]; omega,by rw [List.getElem_take]⟩

theorem sm_take {t : Ty} {s : List t.T} (h : Sm (.sl t) s) (k : Nat) : Sm (.sl t) (s.take k) := ⟨by have h1 : s.length ≤ 1048576 := h.1; show (s.take k).length ≤ _; rw [List.length_take]; omega,fun x hx => h.2 x (List.mem_of_mem_take hx)⟩

theorem ValidComplex_1_ret (c : List Sim) (f : Sim) (k : Nat) (hk : k ≤ c.length) (hc : Sm yK c) (hs : Srt (c.take k)) :
    Ret E n_impl_ValidComplex_1 [dL f,dC (c,()),⟨.ptr (.cons yI .nil),((k : Int),())⟩] ⟨o_impl_ValidComplex_1,(pb (¬ f ∈ c.take k),())⟩ := by
  refine ret_of ?_
  simp only [run_impl_ValidComplex_1,impl_ValidComplex_1.ev]
  simp only [Int.toNat_natCast]
  refine ev_chk (by simp; omega) (ev_call (indexOf_ret _ f (sm_take hc k) hs) (ev_some ?_))
  simp only [pb_dec,pb_congr (show findI (c.take k) f < 0 ↔ ¬ f ∈ c.take k by rw [← findI_nonneg]; omega)]

theorem ValidComplex_ret (c : List Sim) (hc : Sm yK c) : Ret E n_impl_ValidComplex [dLL c] ⟨o_impl_ValidComplex,(pb (VC c),())⟩ := by
  have hc1 : c.length ≤ 1048576 := hc.1
  refine ret_of ?_
  simp only [run_impl_ValidComplex,impl_ValidComplex.ev]
  refine Ev.start (p := fun φ n => impl_ValidComplex.l0 (mkR (run E (φ 0))) (φ 0) n c (c.length : Int) 0 c = _) 1 ?_ (fun _ _ _ h => h)
  have key : ∀ (n : Nat) (k : Nat) (hk : k < c.length) (hpre : ∀ j,0 ≤ j → j < k → VCimpl c j),Srt (c.take k) := fun n k hk hpre => srt_of fun j h1 h2 => by
    rw [List.length_take] at h2
    have := (hpre j (by omega) (by omega)).1.2 h1
    rw [getD_lt (by omega),getD_lt (by omega)] at this
    rw [getD_lt (by rw [List.length_take]; omega),getD_lt (by rw [List.length_take]; omega),List.getElem_take,List.getElem_take]
    exact this
  have hcon : ∀ (k : Nat) (hk : k < c.length) (hpre : ∀ j,0 ≤ j → j < k → VCimpl c j),Ret E n_slices_ContainsFunc_SSint64_Sint64 [dLL (faces c[k]),⟨.fn n_impl_ValidComplex_1 (.cons (.ptr (.cons yK .nil)) (.cons (.ptr (.cons yI .nil)) .nil)),((c,()),((k : Int),()),())⟩] ⟨o_slices_ContainsFunc_SSint64_Sint64,(pb (∃ x ∈ faces c[k],pb (¬ x ∈ c.take k) = true),())⟩ := fun k hk hpre =>
    ContainsFunc_SSint64_Sint64_impl_ValidComplex_1_ret (faces c[k]) ((c,()),((k : Int),()),()) _ (Nat.le_trans faces_length (sm_get hc hk).1) fun x hx => ValidComplex_1_ret c x k (by omega) hc (key 0 k hk hpre)
  refine (all_pb 1 (L := fun φ n k => impl_ValidComplex.l0 (mkR (run E (φ 0))) (φ 0) n c (c.length : Int) k c) (len := c.length) 0 (by omega) (VCimpl c) (fun b => some ⟨o_impl_ValidComplex,(b && decide ((c.length : Int) ≤ 48),())⟩) (fun _ _ _ _ => rfl) (fun k h1 h2 hP hpre => ?_) (fun k r h1 h2 hP hpre ih => ?_) (fun _ => ?_)).to ?_
  · simp only [impl_ValidComplex.l0_succ _ mk_ok]
    refine ev_t (decide_eq_true (by omega)) (ev_bind (idx_lt h2) (ev_call (ValidSimplex_ret _ (sm_get hc h2)) ?_))
    refine ev_b (fun hv => ?_) fun hv => ?_
    · simp only [impl_ValidComplex.j1_eq _ mk_ok,cond_true]; (first | exact ev_rfl | exact Ev.of fun _ => trivial)
    · have hv : Vx c[k] := pb_iff.1 (by simpa using hv)
      have last : (1 ≤ k → cmpS (c.getD (k - 1) []) (c.getD k []) < 0) → Ev fun φ => impl_ValidComplex.j1 (mkR (run E (φ 0))) (φ 0) (φ 1) c[k] c (c.length : Int) (k : Int) false c (k : Int) = some ⟨o_impl_ValidComplex,(false,())⟩ := fun hcm => by
        simp only [impl_ValidComplex.j1_eq _ mk_ok,cond_false]
        refine ev_call (facesOf_ret _ (sm_get hc h2).1) (ev_call (hcon k h2 hpre) (ev_t ?_ ev_rfl))
        refine pb_true (Classical.byContradiction fun hn => hP ⟨⟨by rw [getD_lt h2]; exact hv,hcm⟩,fun f hf => Classical.byContradiction fun hnf => hn ⟨f,by rw [getD_lt h2] at hf; exact hf,pb_true hnf⟩⟩)
      refine ev_d (fun hk => ?_) fun hk => ?_
      · rw [w64_small (by omega) (by omega),show ((k : Int) - 1) = ((k - 1 : Nat) : Int) by omega]
        have hk1 : k - 1 < c.length := by omega
        refine ev_bind (idx_lt hk1) (ev_call (compareSimplices_ret _ _ (sm_get hc hk1)) ?_)
        by_cases hcm : cmpS c[k - 1] c[k] < 0
        · simp only [show decide (cmpS c[k - 1] c[k] ≥ 0) = false from decide_eq_false (by omega)]
          exact last fun _ => by rw [getD_lt hk1,getD_lt h2]; exact hcm
        · simp only [show decide (cmpS c[k - 1] c[k] ≥ 0) = true from decide_eq_true (by omega),impl_ValidComplex.j1_eq _ mk_ok,cond_true]
          (first | exact ev_rfl | exact Ev.of fun _ => trivial)
      · exact last fun h => absurd h (by omega)
  · simp only [impl_ValidComplex.l0_succ _ mk_ok]
    have hP' := hP
    obtain ⟨⟨hv,hcm⟩,hfc⟩ := hP'
    rw [getD_lt h2] at hv hfc
    refine ev_t (decide_eq_true (by omega)) (ev_bind (idx_lt h2) (ev_call (ValidSimplex_ret _ (sm_get hc h2)) (ev_f (by rw [pb_true hv]; rfl) ?_)))
    have last : Ev fun φ => impl_ValidComplex.j1 (mkR (run E (φ 0))) (φ 0) (φ 1) c[k] c (c.length : Int) (k : Int) false c (k : Int) = r := by
      simp only [impl_ValidComplex.j1_eq _ mk_ok,cond_false]
      refine ev_call (facesOf_ret _ (sm_get hc h2).1) (ev_call (hcon k h2 hpre) (ev_f ?_ ?_))
      · exact pb_false fun ⟨x,hx,hn⟩ => pb_iff.1 hn (hfc x hx)
      · rw [w64_succ (by omega)]; exact ih
    refine ev_d (fun hk => ?_) fun hk => last
    rw [w64_small (by omega) (by omega),show ((k : Int) - 1) = ((k - 1 : Nat) : Int) by omega]
    have hk1 : k - 1 < c.length := by omega
    have hcm := hcm (by omega)
    rw [getD_lt hk1,getD_lt h2] at hcm
    refine ev_bind (idx_lt hk1) (ev_call (compareSimplices_ret _ _ (sm_get hc hk1)) ?_)
    simp only [show decide (cmpS c[k - 1] c[k] ≥ 0) = false from decide_eq_false (by omega)]
    exact last
  · simp only [impl_ValidComplex.l0_succ _ mk_ok]
    exact ev_f (decide_eq_false (by omega)) (ev_some (by rw [Bool.true_and]))
  · have : (pb (∀ j,0 ≤ j → j < c.length → VCimpl c j) && decide ((c.length : Int) ≤ 48)) = pb (VC c) := eq_pb (by
      rw [Bool.and_eq_true,pb_iff,decide_eq_true_iff,← VC_impl]
      exact ⟨fun h => ⟨h.1,by omega⟩,fun h => ⟨h.1,by omega⟩⟩)
    rw [this]

def VCspec (c : List Sim) (k : Nat) : Prop := (Vx (c.getD k []) ∧ (1 ≤ k → cmpS (c.getD (k - 1) []) (c.getD k []) < 0)) ∧ ∀ f ∈ faces (c.getD k []),f ∈ c

theorem l05Ok_ret (c : Cpx) (hc : Sm yK c.1) : Ret E n_spec_l05Ok [dC c] ⟨o_spec_l05Ok,(pb (VC c.1),())⟩ := by
  have hc1 : c.1.length ≤ 1048576 := hc.1
  refine ret_of ?_
  simp only [run_spec_l05Ok,spec_l05Ok.ev]
  refine ev_d (fun h => ev_some ?_) fun h48 => ?_
  · rw [pb_false fun hv => by have := hv.1; omega]
  refine Ev.start (p := fun φ n => spec_l05Ok.l0 (mkR (run E (φ 0))) (φ 0) n c 0 = _) 1 ?_ (fun _ _ _ h => h)
  -- the inner loop
  have inner : ∀ (k : Nat) (h2 : k < c.1.length) (r : Option Dv),((∀ f ∈ faces c.1[k],f ∈ c.1) → Ev fun φ => spec_l05Ok.l0 (mkR (run E (φ 0))) (φ 0) (φ 1) c ((k + 1 : Nat) : Int) = r) → (¬ (∀ f ∈ faces c.1[k],f ∈ c.1) → r = some ⟨o_spec_l05Ok,(false,())⟩) → Ev fun φ => spec_l05Ok.l2 (mkR (run E (φ 0))) (φ 0) (φ 1) (φ 0) c (k : Int) c.1[k] 0 = r := fun k h2 r hgo hstop => by
    have hks : (c.1[k]).length ≤ 1048576 := (sm_get hc h2).1
    refine Ev.start (p := fun φ n => spec_l05Ok.l2 (mkR (run E (φ 0))) (φ 0) (φ 1) n c (k : Int) c.1[k] 0 = _) 2 ?_ (fun _ _ _ h => h)
    by_cases hlen : 1 < (c.1[k]).length
    · obtain ⟨t,f⟩ := all_loop 2 (L := fun φ n i => spec_l05Ok.l2 (mkR (run E (φ 0))) (φ 0) (φ 1) n c (k : Int) c.1[k] i) (len := (c.1[k]).length) 0 (by omega) (fun i => (c.1[k]).eraseIdx i ∈ c.1) (rt := r) (rf := some ⟨o_spec_l05Ok,(false,())⟩) (fun _ _ _ _ => rfl) (fun i _ hi hP _ => by
        simp only [spec_l05Ok.l2_succ _ mk_ok]
        refine ev_t (decide_eq_true (by omega)) ?_
        simp only [show decide (((c.1[k]).length : Int) > 1) = true from decide_eq_true (by omega),spec_l05Ok.j3_eq _ mk_ok,cond_true]
        refine ev_call (l05Drop_ret _ i hi hks) (ev_call (l05Find_ret c _ hc) (ev_t (decide_eq_true ?_) ev_rfl))
        have hq := mt (findI_nonneg (c := c.1) (s := (c.1[k]).eraseIdx i)).1 hP; simp only; exact Int.not_le.1 hq) (fun i q _ hi hP _ ih => by
        simp only [spec_l05Ok.l2_succ _ mk_ok]
        refine ev_t (decide_eq_true (by omega)) ?_
        simp only [show decide (((c.1[k]).length : Int) > 1) = true from decide_eq_true (by omega),spec_l05Ok.j3_eq _ mk_ok,cond_true]
        refine ev_call (l05Drop_ret _ i hi hks) (ev_call (l05Find_ret c _ hc) (ev_f (decide_eq_false ?_) ?_))
        · have hq := (findI_nonneg (c := c.1) (s := (c.1[k]).eraseIdx i)).2 hP; simp only; exact Int.not_lt.2 hq
        · rw [w64_succ (by omega)]; exact ih) (fun hall => by
        simp only [spec_l05Ok.l2_succ _ mk_ok]
        refine ev_f (decide_eq_false (by omega)) ?_
        simp only [spec_l05Ok.j3_eq _ mk_ok,cond_false]
        rw [w64_succ (by omega)]
        exact hgo fun f hf => by
          obtain ⟨_,i,hi,rfl⟩ := faces_mem.1 hf
          exact hall i (by omega) hi)
      by_cases hall : ∀ i,0 ≤ i → i < (c.1[k]).length → (c.1[k]).eraseIdx i ∈ c.1
      · exact t hall
      · rw [hstop fun hf => hall fun i _ hi => hf _ (faces_mem.2 ⟨hlen,i,hi,rfl⟩)]
        exact f hall
    · refine Ev.round 2 (L := fun φ n => spec_l05Ok.l2 (mkR (run E (φ 0))) (φ 0) (φ 1) n c (k : Int) c.1[k] 0) ?_ (fun _ _ _ => rfl)
      have hgo := hgo fun f hf => absurd (faces_mem.1 hf).1 hlen
      have hj : Ev fun φ => spec_l05Ok.j3 (mkR (run E (φ 0))) (φ 0) (φ 1) (φ 2) c (k : Int) c.1[k] 0 false = r := by
        simp only [spec_l05Ok.j3_eq _ mk_ok,cond_false]
        rw [w64_succ (by omega)]; exact hgo
      simp only [spec_l05Ok.l2_succ _ mk_ok]
      refine ev_d (fun _ => ?_) fun _ => hj
      simp only [show decide (((c.1[k]).length : Int) > 1) = false from decide_eq_false (by omega)]
      exact hj
  refine (all_pb 1 (L := fun φ n k => spec_l05Ok.l0 (mkR (run E (φ 0))) (φ 0) n c k) (len := c.1.length) 0 (by omega) (VCspec c.1) (fun b => some ⟨o_spec_l05Ok,(b,())⟩) (fun _ _ _ _ => rfl) (fun k h1 h2 hP hpre => ?_) (fun k r h1 h2 hP hpre ih => ?_) (fun _ => ?_)).to ?_
  · simp only [spec_l05Ok.l0_succ _ mk_ok]
    refine ev_t (decide_eq_true (by omega)) (ev_bind (idx_lt h2) (ev_call (l05Simplex_ret _ (sm_get hc h2)) ?_))
    refine ev_b (fun hv => ?_) fun hv => ?_
    · simp only [spec_l05Ok.j1_eq _ mk_ok,cond_true]; (first | exact ev_rfl | exact Ev.of fun _ => trivial)
    · have hv : Vx c.1[k] := pb_iff.1 (by simpa using hv)
      have last : (1 ≤ k → cmpS (c.1.getD (k - 1) []) (c.1.getD k []) < 0) → Ev fun φ => spec_l05Ok.j1 (mkR (run E (φ 0))) (φ 0) (φ 1) c (k : Int) c.1[k] false = some ⟨o_spec_l05Ok,(false,())⟩ := fun hcm => by
        simp only [spec_l05Ok.j1_eq _ mk_ok,cond_false]
        refine inner k h2 _ (fun hf => absurd ⟨⟨by rw [getD_lt h2]; exact hv,hcm⟩,by rw [getD_lt h2]; exact hf⟩ hP) fun _ => rfl
      refine ev_d (fun hk => ?_) fun hk => ?_
      · rw [w64_small (by omega) (by omega),show ((k : Int) - 1) = ((k - 1 : Nat) : Int) by omega]
        have hk1 : k - 1 < c.1.length := by omega
        refine ev_bind (idx_lt hk1) (ev_call (l05Before_ret _ _ (sm_get hc hk1)) ?_)
        by_cases hcm : cmpS c.1[k - 1] c.1[k] < 0
        · simp only [pb_true hcm]
          exact last fun _ => by rw [getD_lt hk1,getD_lt h2]; exact hcm
        · simp only [pb_false hcm,spec_l05Ok.j1_eq _ mk_ok,cond_true,Bool.not_false]
          (first | exact ev_rfl | exact Ev.of fun _ => trivial)
      · exact last fun h => absurd h (by omega)
  · simp only [spec_l05Ok.l0_succ _ mk_ok]
    obtain ⟨⟨hv,hcm⟩,hfc⟩ := hP
    rw [getD_lt h2] at hv hfc
    refine ev_t (decide_eq_true (by omega)) (ev_bind (idx_lt h2) (ev_call (l05Simplex_ret _ (sm_get hc h2)) (ev_f (by rw [pb_true hv]; rfl) ?_)))
    have last : Ev fun φ => spec_l05Ok.j1 (mkR (run E (φ 0))) (φ 0) (φ 1) c (k : Int) c.1[k] false = r := by
      simp only [spec_l05Ok.j1_eq _ mk_ok,cond_false]
      exact inner k h2 _ (fun _ => ih) fun hn => absurd hfc hn
    refine ev_d (fun hk => ?_) fun hk => last
    rw [w64_small (by omega) (by omega),show ((k : Int) - 1) = ((k - 1 : Nat) : Int) by omega]
    have hk1 : k - 1 < c.1.length := by omega
    have hcm := hcm (by omega)
    rw [getD_lt hk1,getD_lt h2] at hcm
    refine ev_bind (idx_lt hk1) (ev_call (l05Before_ret _ _ (sm_get hc hk1)) ?_)
    simp only [pb_true hcm,Bool.not_true]
    exact last
  · simp only [spec_l05Ok.l0_succ _ mk_ok]
    exact ev_f (decide_eq_false (by omega)) ev_rfl
  · have : pb (∀ j,0 ≤ j → j < c.1.length → VCspec c.1 j) = pb (VC c.1) := pb_congr
      ⟨fun h => ⟨by omega,fun k hk => (h k (by omega) hk).1.1,fun k h1 hk => (h k (by omega) hk).1.2 h1,fun k hk => (h k (by omega) hk).2⟩,
       fun h k _ hk => ⟨⟨h.2.1 k hk,fun h1 => h.2.2.1 k h1 hk⟩,h.2.2.2 k hk⟩⟩
    rw [this]

end VeT

open Go Go.Proofs Ve
set_option linter.unusedVariables false
set_option linter.unusedSimpArgs false
namespace VeT

/-- primes up to 251 -/
def Pr (p : Int) : Prop := 2 ≤ p ∧ p ≤ 251 ∧ ∀ k : Nat,2 ≤ k → (k : Int) * k ≤ p → p % k ≠ 0

theorem ValidPrime_ret (p : Int) : Ret E n_impl_ValidPrime [dI p] ⟨o_impl_ValidPrime,(pb (Pr p),())⟩ := by
  refine ret_of ?_
  simp only [run_impl_ValidPrime,impl_ValidPrime.ev]
  refine ev_call (within_ret _ _ _) (ev_b (fun h => ev_some ?_) fun h => ?_)
  · have h : ¬ (2 ≤ p ∧ p ≤ 251) := pb_not.1 (by simpa using h)
    rw [pb_false fun hp => h ⟨hp.1,hp.2.1⟩]
  have hr : 2 ≤ p ∧ p ≤ 251 := pb_iff.1 (by simpa using h)
  refine Ev.start (p := fun φ n => impl_ValidPrime.l0 (mkR (run E (φ 0))) (φ 0) n p 2 = _) 1 ?_ (fun _ _ _ h => h)
  refine loopR 1 (σ := Nat) (L := fun φ n k => impl_ValidPrime.l0 (mkR (run E (φ 0))) (φ 0) n p (k : Int)) (fun _ _ _ _ => rfl) (fun k => 2 ≤ k ∧ k ≤ 17 ∧ ∀ j : Nat,2 ≤ j → j < k → (j : Int) * j ≤ p → p % j ≠ 0) (fun _ => _) (fun k => 17 - k) (fun k ⟨h1,h2,h3⟩ ih => ?_) 2 ⟨by omega,by omega,fun j _ _ => by omega⟩
  simp only [impl_ValidPrime.l0_succ _ mk_ok]
  have hkk : 0 ≤ (k : Int) * k ∧ (k : Int) * k ≤ 289 := ⟨Int.mul_nonneg (by omega) (by omega),by have := Nat.mul_le_mul h2 h2; omega⟩
  have e : w64 ((k : Int) * k) = (k : Int) * k := w64_small (by omega) (by omega)
  simp only [e]
  refine ev_d (fun hle => ?_) fun hle => ev_some ?_
  · have hk16 : k < 16 := Classical.byContradiction fun hn => by
      have := Nat.mul_le_mul (show 16 ≤ k by omega) (show 16 ≤ k by omega); omega
    refine ev_chk (by simp; omega) ?_
    rw [Int.tmod_eq_emod_of_nonneg (by omega)]
    refine ev_b (fun h0 => ev_some ?_) fun h0 => ?_
    · rw [pb_false fun hp => hp.2.2 k h1 hle (by simpa using h0)]
    · rw [w64_succ (by omega)]
      refine ih (k + 1) ⟨by omega,by omega,fun j hj1 hj2 hj3 => ?_⟩ (by show 17 - (k + 1) < 17 - k; omega)
      by_cases hjk : j = k
      · subst hjk; simpa using h0
      · exact h3 j hj1 (by omega) hj3
  · rw [pb_true]
    refine ⟨hr.1,hr.2,fun j hj1 hj2 => ?_⟩
    by_cases hjk : j < k
    · exact h3 j hj1 hjk hj2
    · exfalso
      have := Nat.mul_le_mul (show k ≤ j by omega) (show k ≤ j by omega); omega

theorem l02Prime_ret (p : Int) : Ret E n_spec_l02Prime [dI p] ⟨o_spec_l02Prime,(pb (Pr p),())⟩ := by
  refine ret_of ?_
  simp only [run_spec_l02Prime,spec_l02Prime.ev]
  refine ev_call (l00In_ret _ _ _) (ev_b (fun h => ev_some ?_) fun h => ?_)
  · have h : ¬ (2 ≤ p ∧ p ≤ 251) := pb_not.1 (by simpa using h)
    rw [pb_false fun hp => h ⟨hp.1,hp.2.1⟩]
  have hr : 2 ≤ p ∧ p ≤ 251 := pb_iff.1 (by simpa using h)
  refine Ev.start (p := fun φ n => spec_l02Prime.l0 (mkR (run E (φ 0))) (φ 0) n p 2 = _) 1 ?_ (fun _ _ _ h => h)
  refine loopR 1 (σ := Nat) (L := fun φ n k => spec_l02Prime.l0 (mkR (run E (φ 0))) (φ 0) n p (k : Int)) (fun _ _ _ _ => rfl) (fun k => 2 ≤ k ∧ k ≤ 17 ∧ ∀ j : Nat,2 ≤ j → j < k → (j : Int) * j ≤ p → p % j ≠ 0) (fun _ => _) (fun k => 17 - k) (fun k ⟨h1,h2,h3⟩ ih => ?_) 2 ⟨by omega,by omega,fun j _ _ => by omega⟩
  simp only [spec_l02Prime.l0_succ _ mk_ok]
  have hkk : 0 ≤ (k : Int) * k ∧ (k : Int) * k ≤ 289 := ⟨Int.mul_nonneg (by omega) (by omega),by have := Nat.mul_le_mul h2 h2; omega⟩
  have e : w64 ((k : Int) * k) = (k : Int) * k := w64_small (by omega) (by omega)
  simp only [e]
  refine ev_d (fun hle => ?_) fun hle => ev_some ?_
  · have hk16 : k < 16 := Classical.byContradiction fun hn => by
      have := Nat.mul_le_mul (show 16 ≤ k by omega) (show 16 ≤ k by omega); omega
    refine ev_chk (by simp; omega) ?_
    rw [Int.tmod_eq_emod_of_nonneg (by omega)]
    refine ev_b (fun h0 => ev_some ?_) fun h0 => ?_
    · rw [pb_false fun hp => hp.2.2 k h1 hle (by simpa using h0)]
    · rw [w64_succ (by omega)]
      refine ih (k + 1) ⟨by omega,by omega,fun j hj1 hj2 hj3 => ?_⟩ (by show 17 - (k + 1) < 17 - k; omega)
      by_cases hjk : j = k
      · subst hjk; simpa using h0
      · exact h3 j hj1 (by omega) hj3
  · rw [pb_true]
    refine ⟨hr.1,hr.2,fun j hj1 hj2 => ?_⟩
    by_cases hjk : j < k
    · exact h3 j hj1 hjk hj2
    · exfalso
      have := Nat.mul_le_mul (show k ≤ j by omega) (show k ≤ j by omega); omega

/-! matrices -/
def Elems (v : Sim) (p : Int) : Prop := ∀ x ∈ v,0 ≤ x ∧ x ≤ p - 1

theorem sizeI_ret (s : Sim) : Ret E n_impl_size_int64 [dL s] ⟨o_impl_size_int64,((s.length : Int),())⟩ := by
  refine ret_of ?_
  simp only [run_impl_size_int64,impl_size_int64.ev]
  (first | exact ev_rfl | exact Ev.of fun _ => trivial)

/-- valid matrices -/
def VM (m : Mat) : Prop := Pr m.1 ∧ (0 ≤ m.2.1 ∧ m.2.1 ≤ 32) ∧ (0 ≤ m.2.2.1 ∧ m.2.2.1 ≤ 32) ∧ (m.2.2.2.1.length : Int) = m.2.1 * m.2.2.1 ∧ Elems m.2.2.2.1 m.1

def Bt (m : Mat) (p f t : Int) : Prop := VM m ∧ m.1 = p ∧ m.2.1 = t ∧ m.2.2.1 = f

/-! stalks -/
def ofDim (c : List Sim) (d : Int) (k : Nat) : List Int := ((List.range k).filter fun i => decide (((c.getD i []).length : Int) = d + 1)).map Int.ofNat

theorem ofDim_succ (c : List Sim) (d : Int) (k : Nat) : ofDim c d (k + 1) = ofDim c d k ++ if ((c.getD k []).length : Int) = d + 1 then [(k : Int)] else [] := by
  unfold ofDim
  rw [List.range_succ,List.filter_append,List.map_append]
  congr 1
  by_cases h : ((c.getD k []).length : Int) = d + 1
  · rw [if_pos h,List.filter_cons_of_pos (by simpa using h)]; rfl
  · rw [if_neg h,List.filter_cons_of_neg (by simpa using h)]; rfl

theorem ofDim_length (c : List Sim) (d : Int) (k : Nat) : (ofDim c d k).length ≤ k := by
  unfold ofDim
  rw [List.length_map]
  exact Nat.le_trans (List.length_filter_le _ _) (by simp)

theorem ofDim_mem {c : List Sim} {d : Int} {k : Nat} {x : Int} (h : x ∈ ofDim c d k) : ∃ i : Nat,x = i ∧ i < k := by
  unfold ofDim at h
  rw [List.mem_map] at h
  obtain ⟨i,hi,rfl⟩ := h
  exact ⟨i,rfl,by have := (List.mem_filter.1 hi).1; simpa using this⟩

theorem simplicesOf_ret (c : List Sim) (d : Int) (hc : Sm yK c) (hd : -1 ≤ d ∧ d ≤ 1048576) : Ret E n_impl_simplicesOf [dLL c,dI d] ⟨o_impl_simplicesOf,(ofDim c d c.length,())⟩ := by
  have hc1 : c.length ≤ 1048576 := hc.1
  have hd1 : w64 (d + 1) = d + 1 := w64_small (by omega) (by omega)
  refine ret_of ?_
  simp only [run_impl_simplicesOf,impl_simplicesOf.ev]
  refine Ev.start (p := fun φ n => impl_simplicesOf.l0 (mkR (run E (φ 0))) (φ 0) n d c (c.length : Int) 0 [] = _) 1 ?_ (fun _ _ _ h => h)
  refine fold_loop 1 (L := fun φ n k a => impl_simplicesOf.l0 (mkR (run E (φ 0))) (φ 0) n d c (c.length : Int) k a) (len := c.length) (fun k => ofDim c d k) (fun _ _ _ _ _ => rfl) (fun k r hk ih => ?_) ?_
  · simp only [impl_simplicesOf.l0_succ _ mk_ok,hd1]
    rw [ofDim_succ,getD_lt hk] at ih
    have hlen := ofDim_length c d k
    refine ev_t (decide_eq_true (by omega)) (ev_bind (idx_lt hk) (ev_call (sizeI_ret _) ?_))
    rw [w64_succ (by omega)]
    refine ev_b (fun he => ev_chk (decide_eq_true (by simp only [List.length_cons,List.length_nil]; omega)) ?_) fun he => ?_
    · rw [if_pos (by simpa using he)] at ih; exact ih
    · rw [if_neg (by simpa using he),List.append_nil] at ih; exact ih
  · simp only [impl_simplicesOf.l0_succ _ mk_ok]
    exact ev_f (decide_eq_false (by omega)) ev_rfl

theorem l05Of_ret (c : List Sim) (d : Int) (hc : Sm yK c) (hd : -1 ≤ d ∧ d ≤ 1048576) : Ret E n_spec_l05Of [dC (c,()),dI d] ⟨o_spec_l05Of,(ofDim c d c.length,())⟩ := by
  have hc1 : c.length ≤ 1048576 := hc.1
  have hd1 : w64 (d + 1) = d + 1 := w64_small (by omega) (by omega)
  refine ret_of ?_
  simp only [run_spec_l05Of,spec_l05Of.ev]
  refine Ev.start (p := fun φ n => spec_l05Of.l0 (mkR (run E (φ 0))) (φ 0) n (c,()) d 0 [] = _) 1 ?_ (fun _ _ _ h => h)
  refine fold_loop 1 (L := fun φ n k a => spec_l05Of.l0 (mkR (run E (φ 0))) (φ 0) n (c,()) d k a) (len := c.length) (fun k => ofDim c d k) (fun _ _ _ _ _ => rfl) (fun k r hk ih => ?_) ?_
  · simp only [spec_l05Of.l0_succ _ mk_ok,hd1]
    rw [ofDim_succ,getD_lt hk] at ih
    have hlen := ofDim_length c d k
    refine ev_t (decide_eq_true (by omega)) (ev_bind (idx_lt hk) ?_)
    rw [w64_succ (by omega)]
    refine ev_b (fun he => ev_chk (decide_eq_true (by simp only [List.length_cons,List.length_nil]; omega)) ?_) fun he => ?_
    · rw [if_pos (by simpa using he)] at ih; exact ih
    · rw [if_neg (by simpa using he),List.append_nil] at ih; exact ih
  · simp only [spec_l05Of.l0_succ _ mk_ok]
    exact ev_f (decide_eq_false (by omega)) ev_rfl

/-- the sum of the stalks of a dimension -/
def sumD (c : List Sim) (st : Sim) (d : Int) (k : Nat) : Int := (((ofDim c d c.length).take k).map fun i => st.getD i.toNat 0).sum

end VeT

open Go Go.Proofs Ve
set_option linter.unusedVariables false
set_option linter.unusedSimpArgs false
namespace VeT

theorem Index_ret (s : Sim) (v : Int) (hs : s.length ≤ 1048576) : Ret E n_slices_Index_Sint64_int64 [dL s,dI v] ⟨o_slices_Index_Sint64_int64,(idxf (fun x => pb (x = v)) s,())⟩ := by
  obtain ⟨o,h1,h2,h3⟩ := find_loop 1 (L := fun φ n k => slices_Index_Sint64_int64.l0 (mkR (run E (φ 0))) (φ 0) n s v (s.length : Int) k) (len := s.length) (fun k => ∃ h : k < s.length,pb (s[k] = v) = true) (fun o => some ⟨o_slices_Index_Sint64_int64,(o2i o,())⟩) (fun _ _ _ _ => rfl) (fun k hk hP => by
      obtain ⟨_,hP⟩ := hP
      have hP := pb_iff.1 hP
      simp only [slices_Index_Sint64_int64.l0_succ _ mk_ok]
      exact ev_t (decide_eq_true (by omega)) (ev_bind (idx_lt hk) (ev_t (by simp [hP]) ev_rfl))) (fun k q hk hP ih => by
      simp only [slices_Index_Sint64_int64.l0_succ _ mk_ok]
      refine ev_t (decide_eq_true (by omega)) (ev_bind (idx_lt hk) (ev_f (by simp only [beq_eq_false_iff_ne]; exact fun e => hP ⟨hk,pb_true e.symm⟩) ?_))
      rw [w64_succ (by omega)]; exact ih) (by
      simp only [slices_Index_Sint64_int64.l0_succ _ mk_ok]
      exact ev_f (decide_eq_false (by omega)) ev_rfl)
  rw [idxf_of (p := fun x => pb (x = v)) h1 h2] at h3
  refine ret_of ?_
  simp only [run_slices_Index_Sint64_int64,slices_Index_Sint64_int64.ev]
  exact Ev.start (p := fun φ n => slices_Index_Sint64_int64.l0 (mkR (run E (φ 0))) (φ 0) n s v (s.length : Int) 0 = _) 1 h3 (fun _ _ _ h => h)

end VeT

open Go Go.Proofs Ve
set_option linter.unusedVariables false
set_option linter.unusedSimpArgs false
namespace VeT

/-- the sum of a dimension's stalks -/
def SD (c : List Sim) (st : Sim) (d : Int) : Int := sumD c st d (ofDim c d c.length).length

/-- stalks -/
def SK (c : List Sim) (st : Sim) : Prop := st.length = c.length ∧ (∀ x ∈ st,0 ≤ x ∧ x ≤ 3) ∧ ∀ d : Nat,d < 4 → SD c st (d : Int) ≤ 32

/-! faces' indices -/
noncomputable def fIdx (c : List Sim) (k : Nat) : List Int := (faces (c.getD k [])).map (findI c)

theorem findI_lt {c : List Sim} {s : Sim} : findI c s < c.length ∧ -1 ≤ findI c s := by
  unfold findI idxf
  cases h : c.findIdx? (fun x => pb (x = s)) with
  | none => simp only [o2i]; omega
  | some k =>
    rw [List.findIdx?_eq_some_iff_getElem] at h
    obtain ⟨h,_⟩ := h
    simp only [o2i]; omega

theorem fIdx_length {c : List Sim} {k : Nat} : (fIdx c k).length = if 1 < (c.getD k []).length then (c.getD k []).length else 0 := by
  unfold fIdx faces
  rw [List.length_map]
  split <;> simp

theorem fIdx_mem {c : List Sim} (h : VC c) {k : Nat} (hk : k < c.length) {x : Int} (hx : x ∈ fIdx c k) : 0 ≤ x ∧ x < c.length := by
  unfold fIdx at hx
  rw [List.mem_map] at hx
  obtain ⟨f,hf,rfl⟩ := hx
  exact ⟨findI_nonneg.2 (h.2.2.2 k hk f hf),findI_lt.1⟩

/-! arrows -/
abbrev Arw := Int × Int × Int × Unit
noncomputable def rowA (c : List Sim) (k i : Nat) : List Arw := (List.range i).map fun (j : Nat) => ((k : Int),(j : Int),(fIdx c k).getD j 0,())
noncomputable def arrs (c : List Sim) : Nat → List Arw
  | 0 => []
  | k + 1 => arrs c k ++ rowA c k (fIdx c k).length
noncomputable def plc (c : List Sim) (k : Nat) : Nat := (arrs c k).length

theorem rowA_length {c : List Sim} {k i : Nat} : (rowA c k i).length = i := by simp [rowA]

theorem plc_succ {c : List Sim} {k : Nat} : plc c (k + 1) = plc c k + (fIdx c k).length := by
  unfold plc; rw [arrs,List.length_append,rowA_length]

theorem VC.len4 {c : List Sim} (h : VC c) {k : Nat} (hk : k < c.length) : (c.getD k []).length ≤ 4 := (h.2.1 k hk).2.1

theorem VC.fIdx4 {c : List Sim} (h : VC c) {k : Nat} (hk : k < c.length) : (fIdx c k).length ≤ 4 := by
  have := h.len4 hk
  rw [fIdx_length]; split <;> omega

theorem VC.plc {c : List Sim} (h : VC c) : ∀ {k : Nat},k ≤ c.length → plc c k ≤ 4 * k
  | 0,_ => by simp [VeT.plc,arrs]
  | k + 1,hk => by
    have h1 := h.plc (k := k) (by omega)
    have h2 := h.fIdx4 (k := k) (by omega)
    rw [plc_succ]; omega

theorem arrs_get {c : List Sim} : ∀ {n k i : Nat},k < n → i < (fIdx c k).length → (arrs c n)[plc c k + i]? = some ((k : Int),(i : Int),(fIdx c k).getD i 0,())
  | 0,_,_,h,_ => by omega
  | n + 1,k,i,h,hi => by
    rw [arrs]
    by_cases hk : k < n
    · have := arrs_get hk hi
      have hl := (List.getElem?_eq_some_iff.1 this).1
      rw [List.getElem?_append_left hl]; exact this
    · obtain rfl : k = n := by omega
      rw [List.getElem?_append_right (by unfold plc; omega)]
      rw [show plc c k + i - (arrs c k).length = i by unfold plc; omega]
      simp [rowA,hi]

end VeT

open Go Go.Proofs Ve
set_option linter.unusedVariables false
set_option linter.unusedSimpArgs false
namespace VeT

def mz : Mat := (0,0,0,[],())
/-- the map at a face -/
def QB (p : Int) (st : Sim) (ms : List Mat) (t k : Nat) (f : Int) : Prop := Bt (ms.getD t mz) p (st.getD f.toNat 0) (st.getD k 0)

/-- valid sheaves -/
def VS (c : List Sim) (p : Int) (st : Sim) (ms : List Mat) : Prop := VC c ∧ Pr p ∧ SK c st ∧ plc c c.length = ms.length ∧ ∀ k,k < c.length → ∀ i,i < (fIdx c k).length → QB p st ms (plc c k + i) k ((fIdx c k).getD i 0)

end VeT

open Go Go.Proofs Ve
set_option linter.unusedVariables false
set_option linter.unusedSimpArgs false
namespace VeT

theorem isDimension_ret (n : Int) : Ret E n_impl_isDimension [dI n] ⟨o_impl_isDimension,(pb (0 ≤ n ∧ n ≤ 3),())⟩ := by
  refine ret_of ?_
  simp only [run_impl_isDimension,impl_isDimension.ev]
  exact ev_call (within_ret _ _ _) ev_rfl

theorem l05Dimension_ret (n : Int) : Ret E n_spec_l05Dimension [dI n] ⟨o_spec_l05Dimension,(pb (0 ≤ n ∧ n ≤ 3),())⟩ := by
  refine ret_of ?_
  simp only [run_spec_l05Dimension,spec_l05Dimension.ev]
  exact ev_call (l00In_ret _ _ _) ev_rfl

end VeT

open Go Go.Proofs Ve
set_option linter.unusedVariables false
set_option linter.unusedSimpArgs false
namespace VeT

end VeT

open Go Go.Proofs Ve
set_option linter.unusedVariables false
set_option linter.unusedSimpArgs false
namespace VeT

theorem Elems.get {v : Sim} {p : Int} (h : Elems v p) (hp : 2 ≤ p ∧ p ≤ 251) (i : Nat) : 0 ≤ v.getD i 0 ∧ v.getD i 0 ≤ 250 := by
  by_cases hi : i < v.length
  · rw [getD_lt hi]
    have := h _ (List.getElem_mem hi)
    omega
  · rw [List.getD_eq_getElem?_getD,List.getElem?_eq_none (by omega)]; simp

/-- an entry of a product -/
def mulE (p : Int) (ca cb : Sim) (K C i j : Nat) : Int := dotN (fun l => ca.getD (i * K + l) 0) (fun l => cb.getD (l * C + j) 0) K % p

/-- a product -/
def mulM (a b : Mat) : Mat := (a.1,a.2.1,b.2.2.1,flatF (mulE a.1 a.2.2.2.1 b.2.2.2.1 a.2.2.1.toNat b.2.2.1.toNat) b.2.2.1.toNat a.2.1.toNat,())

theorem l03Zero_ret (p : Int) (R C : Nat) (hR : R ≤ 32) (hC : C ≤ 32) : Ret E n_spec_l03Zero [dI p,dI (R : Int),dI (C : Int)] ⟨o_spec_l03Zero,(p,(R : Int),(C : Int),List.replicate (R * C) 0,())⟩ := by
  have h1 := rc_le hR hC
  have e1 : w64 ((R : Int) * (C : Int)) = ((R * C : Nat) : Int) := by rw [cast_mul]; exact w64_small (by omega) (by omega)
  refine ret_of ?_
  simp only [run_spec_l03Zero,spec_l03Zero.ev,e1,Int.toNat_natCast]
  exact ev_chk (by simp only [Bool.and_eq_true,decide_eq_true_eq]; omega) ev_rfl

end VeT

open Go Go.Proofs Ve
set_option linter.unusedVariables false
set_option linter.unusedSimpArgs false
namespace VeT

/-! the maps of a sheaf -/
noncomputable def mp (c : List Sim) (ms : List Mat) (k i : Nat) : Mat := ms.getD (plc c k + i) mz

noncomputable def fc (c : List Sim) (k i : Nat) : Nat := ((fIdx c k).getD i 0).toNat

theorem findI_get {c : List Sim} {s : Sim} (h : s ∈ c) : c.getD (findI c s).toNat [] = s := by
  have h0 := findI_nonneg.2 h
  unfold findI idxf at h0 ⊢
  cases hf : c.findIdx? (fun x => pb (x = s)) with
  | none => rw [hf] at h0; simp [o2i] at h0
  | some k =>
    rw [List.findIdx?_eq_some_iff_getElem] at hf
    obtain ⟨hk,hp,_⟩ := hf
    simp only [o2i,Int.toNat_natCast]
    rw [getD_lt hk]; exact pb_iff.1 hp

theorem fc_get {c : List Sim} (h : VC c) {k i : Nat} (hk : k < c.length) (hi : i < (fIdx c k).length) : idx? (fIdx c k) (i : Int) = some ((fc c k i : Nat) : Int) ∧ fc c k i < c.length ∧ c.getD (fc c k i) [] = (c.getD k []).eraseIdx i := by
  have hm := fIdx_mem h hk (List.getElem_mem hi)
  have hl := fIdx_length (c := c) (k := k)
  have h1 : 1 < (c.getD k []).length := Classical.byContradiction fun hn => by rw [if_neg hn] at hl; omega
  rw [if_pos h1] at hl
  have hfc : (fIdx c k)[i] = findI c ((c.getD k []).eraseIdx i) := by
    have : (fIdx c k)[i]? = some (findI c ((c.getD k []).eraseIdx i)) := by
      unfold fIdx faces
      rw [if_pos h1,List.map_map,List.getElem?_map,List.getElem?_range (by omega)]; rfl
    rw [List.getElem?_eq_getElem hi] at this
    exact Option.some.inj this
  have hin : (c.getD k []).eraseIdx i ∈ c := h.2.2.2 k hk _ (faces_mem.2 ⟨h1,i,by omega,rfl⟩)
  unfold fc
  rw [getD_lt hi]
  refine ⟨?_,by omega,?_⟩
  · rw [idx_lt hi]; congr 1; omega
  · rw [hfc]; exact findI_get hin

theorem VS.map {c : List Sim} {p : Int} {st : Sim} {ms : List Mat} (h : VS c p st ms) {k i : Nat} (hk : k < c.length) (hi : i < (fIdx c k).length) : plc c k + i < ms.length ∧ Bt (mp c ms k i) p (st.getD (fc c k i) 0) (st.getD k 0) := by
  have hg := arrs_get hk hi
  have hlt := (List.getElem?_eq_some_iff.1 hg).1
  exact ⟨by rw [← h.2.2.2.1]; exact hlt,h.2.2.2.2 k hk i hi⟩

/-- a way over two faces -/
noncomputable def two (c : List Sim) (ms : List Mat) (k i j : Nat) : Mat := mulM (mp c ms k i) (mp c ms (fc c k i) j)

structure Sq (c : List Sim) (p : Int) (st : Sim) (ms : List Mat) (k i j : Nat) : Prop where
  kl : k < c.length
  n3 : 3 ≤ (c.getD k []).length
  il : i < (c.getD k []).length
  jl : j + 1 < (c.getD k []).length
  v : VS c p st ms

theorem Sq.hi {c p st ms k i j} (h : Sq c p st ms k i j) : i < (fIdx c k).length := by
  have := h.n3; have := h.il
  rw [fIdx_length,if_pos (by omega)]; exact this

theorem Sq.fk {c p st ms k i j} (h : Sq c p st ms k i j) : fc c k i < c.length := (fc_get h.v.1 h.kl h.hi).2.1

theorem Sq.hj {c p st ms k i j} (h : Sq c p st ms k i j) : j < (fIdx c (fc c k i)).length := by
  have h1 := h.n3; have h2 := h.il; have h3 := h.jl
  have e := (fc_get h.v.1 h.kl h.hi).2.2
  rw [fIdx_length,e,List.length_eraseIdx,if_pos h2,if_pos (by omega)]; omega

theorem Sq.b1 {c p st ms k i j} (h : Sq c p st ms k i j) : VM (mp c ms k i) := ((h.v.map h.kl h.hi).2).1
theorem Sq.b2 {c p st ms k i j} (h : Sq c p st ms k i j) : VM (mp c ms (fc c k i) j) := ((h.v.map h.fk h.hj).2).1
theorem Sq.sh {c p st ms k i j} (h : Sq c p st ms k i j) : (mp c ms k i).2.2.1 = (mp c ms (fc c k i) j).2.1 := by
  rw [((h.v.map h.kl h.hi).2).2.2.2,((h.v.map h.fk h.hj).2).2.2.1]

end VeT

open Go Go.Proofs Ve
set_option linter.unusedVariables false
set_option linter.unusedSimpArgs false
namespace VeT

end VeT

open Go Go.Proofs Ve
set_option linter.unusedVariables false
set_option linter.unusedSimpArgs false
namespace VeT

theorem sorted_eq : ∀ {a b : Sim},a.Pairwise (· < ·) → b.Pairwise (· < ·) → (∀ x,x ∈ a ↔ x ∈ b) → a = b
  | [],[],_,_,_ => rfl
  | [],y :: ys,_,_,h => absurd ((h y).2 List.mem_cons_self) (by simp)
  | x :: xs,[],_,_,h => absurd ((h x).1 List.mem_cons_self) (by simp)
  | x :: xs,y :: ys,ha,hb,h => by
    rw [List.pairwise_cons] at ha hb
    have exy : x = y := by
      have h1 := (h x).1 List.mem_cons_self
      have h2 := (h y).2 List.mem_cons_self
      rw [List.mem_cons] at h1 h2
      rcases h1 with h1 | h1
      · exact h1
      · rcases h2 with h2 | h2
        · exact h2.symm
        · have := hb.1 x h1
          have := ha.1 y h2
          omega
    subst exy
    congr 1
    refine sorted_eq ha.2 hb.2 fun z => ⟨fun hz => ?_,fun hz => ?_⟩
    · have := (h z).1 (List.mem_cons_of_mem _ hz)
      rw [List.mem_cons] at this
      rcases this with e | e
      · have := ha.1 z hz; omega
      · exact e
    · have := (h z).2 (List.mem_cons_of_mem _ hz)
      rw [List.mem_cons] at this
      rcases this with e | e
      · have := hb.1 z hz; omega
      · exact e

end VeT

open Go Go.Proofs Ve
set_option linter.unusedVariables false
set_option linter.unusedSimpArgs false
namespace VeT

/-! rising lists -/
def putR : List Int → Int → List Int
  | [],n => [n]
  | x :: r,n => if x < n then x :: putR r n else if n < x then n :: x :: r else x :: r

theorem putR_mem : ∀ {l : List Int} {n y : Int},y ∈ putR l n ↔ y = n ∨ y ∈ l
  | [],n,y => by simp [putR]
  | x :: r,n,y => by
    unfold putR
    split
    · rw [List.mem_cons,putR_mem,List.mem_cons]
      constructor
      · rintro (h | h | h)
        · exact .inr (.inl h)
        · exact .inl h
        · exact .inr (.inr h)
      · rintro (h | h | h)
        · exact .inr (.inl h)
        · exact .inl h
        · exact .inr (.inr h)
    · split
      · rw [List.mem_cons]
      · have : x = n := by omega
        subst this
        rw [List.mem_cons]
        exact ⟨fun h => .inr h,fun h => h.elim (fun h => .inl h) id⟩

theorem putR_rise : ∀ {l : List Int} {n : Int},l.Pairwise (· < ·) → (putR l n).Pairwise (· < ·)
  | [],n,_ => by simp [putR]
  | x :: r,n,h => by
    rw [List.pairwise_cons] at h
    unfold putR
    split
    · rw [List.pairwise_cons]
      refine ⟨fun y hy => ?_,putR_rise h.2⟩
      rcases putR_mem.1 hy with rfl | hy
      · assumption
      · exact h.1 y hy
    · split
      · rw [List.pairwise_cons]
        refine ⟨fun y hy => ?_,List.pairwise_cons.2 h⟩
        rcases List.mem_cons.1 hy with rfl | hy
        · assumption
        · have := h.1 y hy; omega
      · exact List.pairwise_cons.2 h

theorem putR_length : ∀ {l : List Int} {n : Int},(putR l n).length ≤ l.length + 1
  | [],n => by simp [putR]
  | x :: r,n => by
    unfold putR
    split
    · have := putR_length (l := r) (n := n); simp; exact this
    · split <;> simp

theorem putsR : ∀ {xs acc : List Int},acc.Pairwise (· < ·) → (xs.foldl putR acc).Pairwise (· < ·) ∧ ∀ y,y ∈ xs.foldl putR acc ↔ y ∈ acc ∨ y ∈ xs
  | [],acc,h => ⟨h,fun y => by simp⟩
  | x :: xs,acc,h => by
    obtain ⟨h1,h2⟩ := putsR (xs := xs) (putR_rise (n := x) h)
    refine ⟨h1,fun y => ?_⟩
    rw [List.foldl_cons,h2,putR_mem,List.mem_cons]
    constructor
    · rintro ((h | h) | h)
      · exact .inr (.inl h)
      · exact .inl h
      · exact .inr (.inr h)
    · rintro (h | h | h)
      · exact .inl (.inr h)
      · exact .inl (.inl h)
      · exact .inr h

theorem compF_rise : ∀ {xs acc : List Int},acc.Pairwise (· < ·) → (∀ a ∈ acc,∀ x ∈ xs,a ≤ x) → xs.Pairwise (· ≤ ·) → (xs.foldl compF acc).Pairwise (· < ·) ∧ ∀ y,y ∈ xs.foldl compF acc ↔ y ∈ acc ∨ y ∈ xs
  | [],acc,h,_,_ => ⟨h,fun y => by simp⟩
  | x :: xs,acc,h,hle,hx => by
    rw [List.pairwise_cons] at hx
    rw [List.foldl_cons]
    by_cases hl : acc.getLast? = some x
    · have e : compF acc x = acc := by unfold compF; rw [if_pos hl]
      rw [e]
      obtain ⟨h1,h2⟩ := compF_rise h (fun a ha y hy => hle a ha y (List.mem_cons_of_mem _ hy)) hx.2
      refine ⟨h1,fun y => ?_⟩
      rw [h2,List.mem_cons]
      have hm : x ∈ acc := List.mem_of_getLast? hl
      constructor
      · rintro (h | h)
        · exact .inl h
        · exact .inr (.inr h)
      · rintro (h | rfl | h)
        · exact .inl h
        · exact .inl hm
        · exact .inr h
    · have e : compF acc x = acc ++ [x] := by unfold compF; rw [if_neg hl]
      rw [e]
      have hlt : ∀ a ∈ acc,a < x := by
        rcases List.eq_nil_or_concat acc with rfl | ⟨i,l,rfl⟩
        · simp
        · rw [List.concat_eq_append] at *
          rw [List.getLast?_append] at hl
          have hl' : l ≠ x := by simpa using hl
          have hlx := hle l (by simp) x List.mem_cons_self
          intro a ha
          rw [List.mem_append] at ha
          rcases ha with ha | ha
          · have := (List.pairwise_append.1 h).2.2 a ha l (by simp)
            omega
          · have : a = l := by simpa using ha
            omega
      obtain ⟨h1,h2⟩ := compF_rise (xs := xs) (acc := acc ++ [x]) (List.pairwise_append.2 ⟨h,by simp,fun a ha b hb => by
          have : b = x := by simpa using hb
          subst this; exact hlt a ha⟩) (fun a ha y hy => by
        rw [List.mem_append] at ha
        rcases ha with ha | ha
        · exact hle a ha y (List.mem_cons_of_mem _ hy)
        · have : a = x := by simpa using ha
          subst this; exact hx.1 y hy) hx.2
      refine ⟨h1,fun y => ?_⟩
      rw [h2,List.mem_append,List.mem_cons (a := y) (b := x) (l := xs),List.mem_singleton]
      constructor
      · rintro ((h | h) | h)
        · exact .inl h
        · exact .inr (.inl h)
        · exact .inr (.inr h)
      · rintro (h | h | h)
        · exact .inl (.inl h)
        · exact .inl (.inr h)
        · exact .inr h

theorem sortI_le (xs : List Int) : (sortI xs).Pairwise (· ≤ ·) := by
  have := List.pairwise_mergeSort (le := fun x y : Int => decide (x ≤ y)) (fun a b c h1 h2 => by simp at *; omega) (fun a b => by simp; omega) xs
  exact this.imp fun h => by simpa using h

/-- sorting and leaving out what stands twice: putting one after another -/
theorem comp_sort (xs : List Int) : compI (sortI xs) = xs.foldl putR [] := by
  obtain ⟨h1,h2⟩ := compF_rise (xs := sortI xs) (acc := []) List.Pairwise.nil (by simp) (sortI_le xs)
  obtain ⟨h3,h4⟩ := putsR (xs := xs) (acc := []) List.Pairwise.nil
  refine sorted_eq h1 h3 fun y => ?_
  unfold compI
  rw [h2,h4]
  unfold sortI
  rw [List.mem_mergeSort]

theorem puts_length : ∀ {xs acc : List Int},(xs.foldl putR acc).length ≤ acc.length + xs.length
  | [],acc => by simp
  | x :: xs,acc => by
    have h1 := puts_length (xs := xs) (acc := putR acc x)
    have h2 := putR_length (l := acc) (n := x)
    rw [List.foldl_cons,List.length_cons]
    omega

theorem run_Sort (n : Nat) (args : List Dv) : run E (n + 1) n_slices_Sort_Sint64_int64 args = pSortI (mkR (run E n)) args := rfl

theorem Sort_ret (s : Sim) (hs : s.length ≤ 1048576) : Ret E n_slices_Sort_Sint64_int64 [dL s] ⟨o_slices_Sort_Sint64_int64,(sortI s,())⟩ := by
  refine ret_of ?_
  simp only [run_Sort]
  refine ev_some ?_
  have hc : chk (decide (s.length ≤ 1048576)) = some () := by rw [decide_eq_true hs]; rfl
  show ((some s).bind fun xs => (chk (decide (List.length xs ≤ 1048576))).map fun _ => (⟨.cons tL .nil,(sortI xs,())⟩ : Dv)) = _
  simp only [Option.bind_some,hc]
  rfl

theorem run_Compact (n : Nat) (args : List Dv) : run E (n + 1) n_slices_Compact_Sint64_int64 args = pCompI (mkR (run E n)) args := rfl

theorem Compact_ret (s : Sim) (hs : s.length ≤ 1048576) : Ret E n_slices_Compact_Sint64_int64 [dL s] ⟨o_slices_Compact_Sint64_int64,(compI s,())⟩ := by
  refine ret_of ?_
  simp only [run_Compact]
  refine ev_some ?_
  have hc : chk (decide (s.length ≤ 1048576)) = some () := by rw [decide_eq_true hs]; rfl
  show ((some s).bind fun xs => (chk (decide (List.length xs ≤ 1048576))).map fun _ => (⟨.cons tL .nil,(compI xs,())⟩ : Dv)) = _
  simp only [Option.bind_some,hc]
  rfl

/-! the vertices -/
def vxN (c : List Sim) : Nat → List Int
  | 0 => []
  | k + 1 => if (c.getD k []).length = 1 then vxN c k ++ [(c.getD k []).getD 0 0] else vxN c k

abbrev vxs (c : List Sim) : List Int := vxN c c.length

theorem vxN_mem {c : List Sim} : ∀ {k : Nat} {v : Int},v ∈ vxN c k ↔ ∃ j,j < k ∧ c.getD j [] = [v]
  | 0,v => by simp [vxN]
  | k + 1,v => by
    have key : (c.getD k []).length = 1 → ((c.getD k []).getD 0 0 = v ↔ c.getD k [] = [v]) := fun h => by
      obtain ⟨u,hu⟩ := List.length_eq_one_iff.1 h
      rw [hu]; simp
    unfold vxN
    split
    · rename_i h1
      rw [List.mem_append,vxN_mem,List.mem_singleton]
      constructor
      · rintro (⟨j,h,e⟩ | h)
        · exact ⟨j,by omega,e⟩
        · exact ⟨k,by omega,(key h1).1 h.symm⟩
      · rintro ⟨j,h,e⟩
        by_cases hj : j = k
        · subst hj; exact .inr ((key h1).2 e).symm
        · exact .inl ⟨j,by omega,e⟩
    · rename_i h1
      rw [vxN_mem]
      constructor
      · rintro ⟨j,h,e⟩; exact ⟨j,by omega,e⟩
      · rintro ⟨j,h,e⟩
        by_cases hj : j = k
        · subst hj; rw [e] at h1; simp at h1
        · exact ⟨j,by omega,e⟩

theorem vxs_mem {c : List Sim} {v : Int} : v ∈ vxs c ↔ [v] ∈ c := by
  rw [vxN_mem,List.mem_iff_getElem]
  constructor
  · rintro ⟨j,h,e⟩; exact ⟨j,h,by rw [← e,getD_lt h]⟩
  · rintro ⟨j,h,e⟩; exact ⟨j,h,by rw [← e,getD_lt h]⟩

theorem vxN_length {c : List Sim} : ∀ {k : Nat},(vxN c k).length ≤ k
  | 0 => by simp [vxN]
  | k + 1 => by
    have := vxN_length (c := c) (k := k)
    unfold vxN
    split
    · simp; exact this
    · omega

theorem vxN_rise {c : List Sim} (h : Srt c) : ∀ {k : Nat},k ≤ c.length → (vxN c k).Pairwise (· < ·)
  | 0,_ => by simp [vxN]
  | k + 1,hk => by
    have ih := vxN_rise h (k := k) (by omega)
    unfold vxN
    split
    · rename_i h1
      refine List.pairwise_append.2 ⟨ih,by simp,fun a ha b hb => ?_⟩
      obtain ⟨j,hj,e⟩ := vxN_mem.1 ha
      have hb : b = (c.getD k []).getD 0 0 := by simpa using hb
      obtain ⟨u,hu⟩ := List.length_eq_one_iff.1 h1
      rw [hu] at hb
      have hb : b = u := by simpa using hb
      subst hb
      have := h j k (by omega) hj
      rw [getD_lt (by omega)] at e hu
      rw [e,hu] at this
      have h3 : cmpS [a] [b] = if a < b then -1 else if b < a then 1 else 0 := by
        simp [cmpS,cmp3,lexc]
      rw [h3] at this
      split at this
      · assumption
      · split at this <;> omega
    · exact ih

theorem verticesOf_ret (c : List Sim) (hc : Sm yK c) : Ret E n_impl_verticesOf [dLL c] ⟨o_impl_verticesOf,(vxs c,())⟩ := by
  have hc1 : c.length ≤ 1048576 := hc.1
  refine ret_of ?_
  simp only [run_impl_verticesOf,impl_verticesOf.ev]
  refine Ev.start (p := fun φ n => impl_verticesOf.l0 (mkR (run E (φ 0))) (φ 0) n c (c.length : Int) 0 [] = _) 1 ?_ (fun _ _ _ h => h)
  refine fold_loop 1 (L := fun φ n k a => impl_verticesOf.l0 (mkR (run E (φ 0))) (φ 0) n c (c.length : Int) k a) (len := c.length) (fun k => vxN c k) (fun _ _ _ _ _ => rfl) (fun k r hk ih => ?_) ?_
  · simp only [impl_verticesOf.l0_succ _ mk_ok]
    rw [w64_succ (by omega)]
    refine ev_t (decide_eq_true (by omega)) (ev_bind (idx_lt hk) ?_)
    have hl := vxN_length (c := c) (k := k)
    rw [vxN,getD_lt hk] at ih
    by_cases h1 : (c[k]).length = 1
    · rw [if_pos h1,getD_lt (by omega)] at ih
      refine ev_t (by simp [h1]) (ev_bind (idx_lt (k := 0) (by show 0 < (c[k]).length; omega)) (ev_chk (by simp; omega) ?_))
      exact ih
    · rw [if_neg h1] at ih
      exact ev_f (by simp; omega) ih
  · simp only [impl_verticesOf.l0_succ _ mk_ok]
    exact ev_f (decide_eq_false (by omega)) ev_rfl

theorem l08Vertices_ret (c : Cpx) (hc : Sm yK c.1) : Ret E n_spec_l08Vertices [dC c] ⟨o_spec_l08Vertices,(vxs c.1,())⟩ := by
  have hc1 : c.1.length ≤ 1048576 := hc.1
  refine ret_of ?_
  simp only [run_spec_l08Vertices,spec_l08Vertices.ev]
  refine Ev.start (p := fun φ n => spec_l08Vertices.l0 (mkR (run E (φ 0))) (φ 0) n c 0 [] = _) 1 ?_ (fun _ _ _ h => h)
  refine fold_loop 1 (L := fun φ n k a => spec_l08Vertices.l0 (mkR (run E (φ 0))) (φ 0) n c k a) (len := c.1.length) (fun k => vxN c.1 k) (fun _ _ _ _ _ => rfl) (fun k r hk ih => ?_) ?_
  · simp only [spec_l08Vertices.l0_succ _ mk_ok]
    rw [w64_succ (by omega)]
    refine ev_t (decide_eq_true (by omega)) (ev_bind (idx_lt hk) ?_)
    have hl := vxN_length (c := c.1) (k := k)
    rw [vxN,getD_lt hk] at ih
    by_cases h1 : (c.1[k]).length = 1
    · rw [if_pos h1,getD_lt (by omega)] at ih
      refine ev_t (by simp [h1]) (ev_bind (idx_lt hk) (ev_bind (idx_lt (k := 0) (by show 0 < (c.1[k]).length; omega)) (ev_chk (by simp; omega) ?_)))
      exact ih
    · rw [if_neg h1] at ih
      exact ev_f (by simp; omega) ih
  · simp only [spec_l08Vertices.l0_succ _ mk_ok]
    exact ev_f (decide_eq_false (by omega)) ev_rfl

theorem vert_mem {c : List Sim} (h : VC c) : ∀ (n : Nat) {s : Sim},s ∈ c → s.length = n + 1 → ∀ x ∈ s,[x] ∈ c
  | 0,s,hs,hl,x,hx => by
    obtain ⟨u,rfl⟩ := List.length_eq_one_iff.1 hl
    have : x = u := by simpa using hx
    subst this; exact hs
  | n + 1,s,hs,hl,x,hx => by
    obtain ⟨j,hj,rfl⟩ := List.mem_iff_getElem.1 hx
    obtain ⟨k,hk,hks⟩ := List.mem_iff_getElem.1 hs
    obtain ⟨i,hi,hij⟩ : ∃ i,i < s.length ∧ i ≠ j := by
      by_cases h0 : j = 0
      · exact ⟨1,by omega,by omega⟩
      · exact ⟨0,by omega,by omega⟩
    have hf : s.eraseIdx i ∈ c := h.2.2.2 k hk _ (by rw [getD_lt hk,hks]; exact faces_mem.2 ⟨by omega,i,hi,rfl⟩)
    refine vert_mem h n hf (by rw [List.length_eraseIdx,if_pos hi]; omega) _ ?_
    rw [List.mem_eraseIdx_iff_getElem]
    exact ⟨j,hj,fun e => hij e.symm,rfl⟩

theorem VC.vert {c : List Sim} (h : VC c) {s : Sim} (hs : s ∈ c) {x : Int} (hx : x ∈ s) : x ∈ vxs c := by
  have hl : 0 < s.length := List.length_pos_of_mem hx
  exact vxs_mem.2 (vert_mem h (s.length - 1) hs (by omega) x hx)

theorem VC.get {c : List Sim} (h : VC c) {s : Sim} (hs : s ∈ c) : Vx s := by
  obtain ⟨k,hk,rfl⟩ := List.mem_iff_getElem.1 hs
  have := h.2.1 k hk
  rwa [getD_lt hk] at this

/-! what is told -/
noncomputable def told (vs im : List Int) (v : Int) : Int := match vs.findIdx? (fun x => pb (x = v)) with
  | some i => im.getD i (-1)
  | none => -1

theorem told_of {vs im : List Int} {v : Int} (hv : v ∈ vs) (hl : im.length = vs.length) : ∃ i,∃ h : i < vs.length,∃ h' : i < im.length,vs[i] = v ∧ (∀ j (hj : j < i),vs[j] ≠ v) ∧ told vs im v = im[i] ∧ idxf (fun x => pb (x = v)) vs = (i : Int) := by
  unfold told idxf
  cases h : vs.findIdx? (fun x => pb (x = v)) with
  | none =>
    rw [List.findIdx?_eq_none_iff] at h
    have := h v hv
    rw [pb_true rfl] at this; cases this
  | some i =>
    rw [List.findIdx?_eq_some_iff_getElem] at h
    obtain ⟨h1,h2,h3⟩ := h
    refine ⟨i,h1,by omega,pb_iff.1 h2,fun j hj e => h3 j hj (pb_true e),?_,rfl⟩
    exact getD_lt (by omega)

noncomputable def img (vs im s : List Int) : List Int := (s.map (told vs im)).foldl putR []

theorem img_rise (vs im s : List Int) : (img vs im s).Pairwise (· < ·) := (putsR (xs := s.map (told vs im)) (acc := []) List.Pairwise.nil).1
theorem img_length (vs im s : List Int) : (img vs im s).length ≤ s.length := by
  have := puts_length (xs := s.map (told vs im)) (acc := [])
  simpa [img] using this

theorem imageOf_ret (c : List Sim) (im s : Sim) (hc : Sm yK c) (hl : im.length = (vxs c).length) (hs : ∀ x ∈ s,x ∈ vxs c) (hs1 : s.length ≤ 1048576) :
    Ret E n_impl_imageOf [dLL c,dL im,dL s] ⟨o_impl_imageOf,(img (vxs c) im s,())⟩ := by
  have hvl := vxN_length (c := c) (k := c.length)
  have hc1 : c.length ≤ 1048576 := hc.1
  refine ret_of ?_
  simp only [run_impl_imageOf,impl_imageOf.ev]
  refine ev_call (verticesOf_ret c hc) ?_
  refine Ev.start (p := fun φ n => impl_imageOf.l0 (mkR (run E (φ 0))) (φ 0) n im (vxs c) s (s.length : Int) 0 [] = _) 1 ?_ (fun _ _ _ h => h)
  refine fold_loop 1 (L := fun φ n k a => impl_imageOf.l0 (mkR (run E (φ 0))) (φ 0) n im (vxs c) s (s.length : Int) k a) (len := s.length) (fun k => (s.take k).map (told (vxs c) im)) (fun _ _ _ _ _ => rfl) (fun k r hk ih => ?_) ?_
  · simp only [impl_imageOf.l0_succ _ mk_ok]
    rw [w64_succ (by omega)]
    obtain ⟨i,h1,h2,h3,h4,h5,h6⟩ := told_of (im := im) (hs s[k] (List.getElem_mem hk)) hl
    have hix := Index_ret (vxs c) s[k] (Nat.le_trans hvl hc1)
    rw [h6] at hix
    refine ev_t (decide_eq_true (by omega)) (ev_bind (idx_lt hk) (ev_call hix (ev_bind (idx_lt h2) (ev_chk (by simp; omega) ?_))))
    rw [List.take_succ_eq_append_getElem hk,List.map_append,List.map_singleton,h5] at ih
    exact ih
  · simp only [impl_imageOf.l0_succ _ mk_ok]
    rw [List.take_of_length_le (Nat.le_refl _)]
    have hsl : (sortI (s.map (told (vxs c) im))).length ≤ 1048576 := by unfold sortI; rw [List.length_mergeSort,List.length_map]; exact hs1
    refine ev_f (decide_eq_false (by omega)) (ev_call (Sort_ret _ (by rw [List.length_map]; exact hs1)) (ev_call (Compact_ret _ hsl) (ev_some ?_)))
    rw [comp_sort]; rfl

theorem l00Put_ret (l : Sim) (n : Int) (hl : l.length ≤ 1048576) : Ret E n_spec_l00Put [dL l,dI n] ⟨o_spec_l00Put,(putR l n,())⟩ := by
  refine ret_of ?_
  simp only [run_spec_l00Put,spec_l00Put.ev]
  refine Ev.start (p := fun φ N => spec_l00Put.l0 (mkR (run E (φ 0))) (φ 0) N l n false 0 [] = _) 1 ?_ (fun _ _ _ h => h)
  refine (loopR 1 (σ := Bool × Nat × List Int) (L := fun φ N st => spec_l00Put.l0 (mkR (run E (φ 0))) (φ 0) N l n st.1 (st.2.1 : Int) st.2.2) (fun _ _ _ _ => rfl) (fun st => st.2.1 ≤ l.length ∧ st.2.2.length ≤ st.2.1 + (bif st.1 then 1 else 0))
    (fun st => some ⟨o_spec_l00Put,(st.2.2 ++ (bif st.1 then l.drop st.2.1 else putR (l.drop st.2.1) n),())⟩) (fun st => l.length - st.2.1) (fun st hi ih => ?_) (false,0,[]) ⟨Nat.zero_le _,Nat.zero_le _⟩).to (by simp only [List.nil_append,cond_false,List.drop_zero])
  obtain ⟨d,i,o⟩ := st
  obtain ⟨h1,h2⟩ := hi
  simp only at h1 h2 ih ⊢
  by_cases hlt : i < l.length
  · have ol : o.length ≤ i + 1 := by cases d <;> simp at h2 <;> omega
    have hd : l.drop i = l[i] :: l.drop (i + 1) := List.drop_eq_getElem_cons hlt
    -- what follows
    have step : ∀ (d' : Bool) (o' X : List Int),o'.length ≤ i + (bif d' then 1 else 0) → (o' ++ [l[i]]) ++ (bif d' then l.drop (i + 1) else putR (l.drop (i + 1)) n) = X →
        Ev fun φ => spec_l00Put.j2 (mkR (run E (φ 0))) (φ 0) (φ 1) l n d' (i : Int) o' = some ⟨o_spec_l00Put,(X,())⟩ := fun d' o' X hol hX => by
      have ho2 : o'.length ≤ i + 1 := by cases d' <;> simp at hol <;> omega
      have := ih (d',i + 1,o' ++ [l[i]]) ⟨by show i + 1 ≤ _; omega,by
        simp only [List.length_append,List.length_singleton]
        cases d' <;> simp at hol ⊢ <;> omega⟩ (by simp only; omega)
      simp only at this
      rw [hX] at this
      simp only [spec_l00Put.j2_eq _ mk_ok]
      rw [w64_succ (by omega)]
      exact ev_bind (idx_lt hlt) (ev_chk (by simp; omega) this)
    simp only [spec_l00Put.l0_succ _ mk_ok]
    refine ev_t (decide_eq_true (by omega)) ?_
    cases d with
    | true =>
      refine ev_f rfl ?_
      have e : o ++ List.drop i l = (o ++ [l[i]]) ++ l.drop (i + 1) := by rw [hd]; simp
      simp only [cond_true] at h2 ⊢
      rw [e]
      simp only [spec_l00Put.j1_eq _ mk_ok]
      refine ev_f rfl ?_
      exact step true o _ h2 (by simp only [cond_true])
    | false =>
      refine ev_t rfl (ev_bind (idx_lt hlt) ?_)
      simp only [cond_false,Nat.add_zero] at h2 ⊢
      simp only [spec_l00Put.j1_eq _ mk_ok]
      refine ev_d (fun hge => ?_) fun hge => ?_
      · have hge : l[i] ≥ n := hge
        refine ev_bind (idx_lt hlt) (ev_d (fun hgt => ?_) fun hgt => ?_)
        · have e : o ++ putR (List.drop i l) n = ((o ++ [n]) ++ [l[i]]) ++ l.drop (i + 1) := by
            rw [hd,putR,if_neg (by omega),if_pos (show n < l[i] from hgt)]; simp
          rw [e]
          exact ev_chk (by simp; omega) (step true (o ++ [n]) _ (by simp; omega) (by simp only [cond_true]))
        · have hgt : ¬ l[i] > n := hgt
          have e : o ++ putR (List.drop i l) n = (o ++ [l[i]]) ++ l.drop (i + 1) := by
            rw [hd,putR,if_neg (by omega),if_neg (by omega)]; simp
          rw [e]
          exact step true o _ (by simp; omega) (by simp only [cond_true])
      · have hge : ¬ l[i] ≥ n := hge
        have e : o ++ putR (List.drop i l) n = (o ++ [l[i]]) ++ putR (l.drop (i + 1)) n := by
          rw [hd,putR,if_pos (by omega)]; simp
        rw [e]
        exact step false o _ (by simp; omega) (by simp only [cond_false])
  · have hi : i = l.length := by omega
    subst hi
    simp only [spec_l00Put.l0_succ _ mk_ok,List.drop_length]
    refine ev_f (decide_eq_false (by omega)) ?_
    cases d with
    | true => exact ev_f rfl (ev_some (by simp only [cond_true,List.append_nil]))
    | false =>
      simp only [cond_false,Nat.add_zero] at h2 ⊢
      exact ev_t rfl (ev_chk (by simp; omega) ev_rfl)

theorem o2i_inj {a b : Option Nat} (h : o2i a = o2i b) : a = b := by
  cases a <;> cases b <;> simp [o2i] at h ⊢ <;> omega

theorem l08Told_ret (vs im : Sim) (v : Int) (hl : im.length = vs.length) (h1 : vs.length ≤ 1048576) : Ret E n_spec_l08Told [dL vs,dL im,dI v] ⟨o_spec_l08Told,(told vs im v,())⟩ := by
  obtain ⟨o,h1,h2,h3⟩ := find_loop 1 (L := fun φ n k => spec_l08Told.l0 (mkR (run E (φ 0))) (φ 0) n vs im v k) (len := im.length) (fun k => ∃ h : k < vs.length,pb (vs[k] = v) = true) (fun o => some ⟨o_spec_l08Told,((match o with | some i => im.getD i (-1) | none => -1),())⟩) (fun _ _ _ _ => rfl) (fun k hk hP => by
      obtain ⟨h,hP⟩ := hP
      simp only [spec_l08Told.l0_succ _ mk_ok]
      refine ev_t (decide_eq_true (by omega)) (ev_bind (idx_lt h) (ev_t (by simpa using pb_iff.1 hP) (ev_bind (idx_lt hk) (ev_some ?_))))
      rw [getD_lt hk]) (fun k q hk hP ih => by
      have h : k < vs.length := by omega
      simp only [spec_l08Told.l0_succ _ mk_ok]
      refine ev_t (decide_eq_true (by omega)) (ev_bind (idx_lt h) (ev_f ?_ ?_))
      · have : ¬ vs[k] = v := fun e => hP ⟨h,pb_true e⟩
        simpa using this
      · rw [w64_succ (by omega)]; exact ih) (by
      simp only [spec_l08Told.l0_succ _ mk_ok]
      exact ev_f (decide_eq_false (by omega)) ev_rfl)
  rw [hl] at h1 h2
  have e : vs.findIdx? (fun x => pb (x = v)) = o := o2i_inj (idxf_of (p := fun x => pb (x = v)) h1 h2).symm
  refine ret_of ?_
  simp only [run_spec_l08Told,spec_l08Told.ev]
  unfold told
  rw [e]
  exact Ev.start (p := fun φ n => spec_l08Told.l0 (mkR (run E (φ 0))) (φ 0) n vs im v 0 = _) 1 h3 (fun _ _ _ h => h)

theorem l08Image_ret (vs im s : Sim) (hl : im.length = vs.length) (h1 : vs.length ≤ 1048576) (hs : ∀ x ∈ s,x ∈ vs) (hp : ∀ x ∈ im,0 ≤ x) (hs1 : s.length ≤ 1048576) :
    Ret E n_spec_l08Image [dL vs,dL im,dL s] ⟨o_spec_l08Image,(img vs im s,true,())⟩ := by
  refine ret_of ?_
  simp only [run_spec_l08Image,spec_l08Image.ev]
  refine Ev.start (p := fun φ n => spec_l08Image.l0 (mkR (run E (φ 0))) (φ 0) n vs im s [] 0 = _) 1 ?_ (fun _ _ _ h => h)
  refine fold_loop 1 (L := fun φ n k a => spec_l08Image.l0 (mkR (run E (φ 0))) (φ 0) n vs im s a k) (len := s.length) (fun k => img vs im (s.take k)) (fun _ _ _ _ _ => rfl) (fun k r hk ih => ?_) ?_
  · simp only [spec_l08Image.l0_succ _ mk_ok]
    rw [w64_succ (by omega)]
    obtain ⟨i,h1',h2,h3,h4,h5,h6⟩ := told_of (im := im) (hs s[k] (List.getElem_mem hk)) hl
    have hpos : 0 ≤ told vs im s[k] := by rw [h5]; exact hp _ (List.getElem_mem h2)
    have hil := img_length vs im (s.take k)
    rw [List.length_take] at hil
    refine ev_t (decide_eq_true (by omega)) (ev_bind (idx_lt hk) (ev_call (l08Told_ret vs im s[k] hl h1) (ev_f (decide_eq_false (by show ¬ told vs im s[k] < 0; omega)) (ev_call (l00Put_ret _ _ (by omega)) ?_))))
    have e : img vs im (s.take (k + 1)) = putR (img vs im (s.take k)) (told vs im s[k]) := by
      unfold img
      rw [List.take_succ_eq_append_getElem hk,List.map_append,List.foldl_append]; rfl
    rw [e] at ih
    exact ih
  · simp only [spec_l08Image.l0_succ _ mk_ok]
    rw [List.take_of_length_le (Nat.le_refl _)]
    exact ev_f (decide_eq_false (by omega)) ev_rfl

end VeT

open Go Go.Proofs Ve
set_option linter.unusedVariables false
set_option linter.unusedSimpArgs false
namespace VeT

/-- the list is a map of valid complexes -/
def Mp (a b : List Sim) (im : Sim) : Prop := im.length = (vxs a).length ∧ ∀ s ∈ a,img (vxs a) im s ∈ b

theorem sm_mem {t : Ty} {s : List t.T} (h : Sm (.sl t) s) {x : t.T} (hx : x ∈ s) : Sm t x := h.2 x hx

theorem told_at {vs im : List Int} (hr : vs.Pairwise (· < ·)) (hl : im.length = vs.length) {i : Nat} (hi : i < vs.length) : told vs im vs[i] = im[i]'(by omega) := by
  obtain ⟨j,h1,h2,h3,h4,h5,_⟩ := told_of (im := im) (List.getElem_mem hi) hl
  rw [List.pairwise_iff_getElem] at hr
  have : j = i := by
    rcases Nat.lt_trichotomy j i with h | h | h
    · have := hr j i h1 hi h; omega
    · exact h
    · have := hr i j hi h1 h; omega
  subst this
  exact h5

theorem img_one {vs im : List Int} {v : Int} : img vs im [v] = [told vs im v] := rfl

theorem Mp.vert {a b : List Sim} {im : Sim} (ha : VC a) (h : Mp a b im) : ∀ x ∈ im,[x] ∈ b := by
  intro x hx
  obtain ⟨i,hi,rfl⟩ := List.mem_iff_getElem.1 hx
  have hi' : i < (vxs a).length := by rw [← h.1]; exact hi
  have hv := vxs_mem.1 (List.getElem_mem hi')
  have := h.2 _ hv
  rw [img_one,told_at (vxN_rise ha.srt (Nat.le_refl _)) h.1 hi'] at this
  exact this

theorem Mp.range {a b : List Sim} {im : Sim} (ha : VC a) (hb : VC b) (h : Mp a b im) : ∀ x ∈ im,0 ≤ x ∧ x ≤ 9 := fun x hx =>
  (hb.get (h.vert ha x hx)).2.2.2 x (List.mem_singleton_self _)

theorem isMap_1_ret (a b : List Sim) (im s : Sim) (ha : VC a) (hb : VC b) (sa : Sm yK a) (sb : Sm yK b) (hl : im.length = (vxs a).length) (hs : s ∈ a) :
    Ret E n_impl_isMap_1 [dL s,dC (b,()),dC (a,()),⟨.ptr (.cons yL .nil),(im,())⟩] ⟨o_impl_isMap_1,(pb (¬ img (vxs a) im s ∈ b),())⟩ := by
  refine ret_of ?_
  simp only [run_impl_isMap_1,impl_isMap_1.ev]
  refine ev_call (imageOf_ret a im s sa hl (fun x hx => ha.vert hs hx) (sm_mem sa hs).1) (ev_call (indexOf_ret b _ sb hb.srt) (ev_some ?_))
  simp only [pb_dec,pb_congr (show findI b (img (vxs a) im s) < 0 ↔ ¬ img (vxs a) im s ∈ b by rw [← findI_nonneg]; omega)]

theorem isMap_ret (a b : List Sim) (im : Sim) (ha : VC a) (hb : VC b) (sa : Sm yK a) (sb : Sm yK b) :
    Ret E n_impl_isMap [dLL a,dLL b,dL im] ⟨o_impl_isMap,(pb (Mp a b im),())⟩ := by
  refine ret_of ?_
  simp only [run_impl_isMap,impl_isMap.ev]
  refine ev_call (verticesOf_ret a sa) (ev_b (fun h => ev_some ?_) fun h => ?_)
  · have h : (im.length : Int) ≠ (vxs a).length := by simpa using h
    rw [pb_false fun hm => h (by rw [hm.1])]
  · have h : (im.length : Int) = (vxs a).length := by simpa using h
    have hl : im.length = (vxs a).length := by omega
    refine ev_call (ContainsFunc_SSint64_Sint64_impl_isMap_1_ret a ((b,()),(a,()),(im,()),()) _ sa.1 fun s hs => isMap_1_ret a b im s ha hb sa sb hl hs) (ev_some ?_)
    have : (!pb (∃ x ∈ a,pb (¬ img (vxs a) im x ∈ b) = true)) = pb (Mp a b im) := eq_pb (by
      simp only [Bool.not_eq_true',pb_not,pb_iff]
      exact ⟨fun hn => ⟨hl,fun s hs => Classical.byContradiction fun hb => hn ⟨s,hs,hb⟩⟩,fun hm ⟨s,hs,hb⟩ => hb (hm.2 s hs)⟩)
    rw [this]

theorem l08Fits_ret (a b : Cpx) (vs im : Sim) (sa : Sm yK a.1) (sb : Sm yK b.1) (hl : im.length = vs.length) (h1 : vs.length ≤ 1048576) (hs : ∀ s ∈ a.1,∀ x ∈ s,x ∈ vs) (hp : ∀ x ∈ im,0 ≤ x) :
    Ret E n_spec_l08Fits [dC a,dC b,dL vs,dL im] ⟨o_spec_l08Fits,(pb (∀ s ∈ a.1,img vs im s ∈ b.1),())⟩ := by
  have sa1 : a.1.length ≤ 1048576 := sa.1
  refine ret_of ?_
  simp only [run_spec_l08Fits,spec_l08Fits.ev]
  refine Ev.start (p := fun φ n => spec_l08Fits.l0 (mkR (run E (φ 0))) (φ 0) n a b vs im 0 = _) 1 ?_ (fun _ _ _ h => h)
  refine (all_pb 1 (L := fun φ n k => spec_l08Fits.l0 (mkR (run E (φ 0))) (φ 0) n a b vs im k) (len := a.1.length) 0 (by omega) (fun j => img vs im (a.1.getD j []) ∈ b.1) (fun b => some ⟨o_spec_l08Fits,(b,())⟩) (fun _ _ _ _ => rfl) (fun k _ hk hP _ => ?_) (fun k r _ hk hP _ ih => ?_) (fun _ => ?_)).to ?_
  · simp only [spec_l08Fits.l0_succ _ mk_ok]
    rw [getD_lt hk] at hP
    refine ev_t (decide_eq_true (by omega)) (ev_bind (idx_lt hk) (ev_call (l08Image_ret vs im _ hl h1 (hs _ (List.getElem_mem hk)) hp (sm_get sa hk).1) (ev_t rfl (ev_call (l05Find_ret b _ sb) ?_))))
    simp only [spec_l08Fits.j1_eq _ mk_ok]
    exact ev_t (decide_eq_true (Int.not_le.1 (mt (findI_nonneg (c := b.1) (s := img vs im a.1[k])).1 hP))) ev_rfl
  · simp only [spec_l08Fits.l0_succ _ mk_ok]
    rw [getD_lt hk] at hP
    refine ev_t (decide_eq_true (by omega)) (ev_bind (idx_lt hk) (ev_call (l08Image_ret vs im _ hl h1 (hs _ (List.getElem_mem hk)) hp (sm_get sa hk).1) (ev_t rfl (ev_call (l05Find_ret b _ sb) ?_))))
    simp only [spec_l08Fits.j1_eq _ mk_ok]
    refine ev_f (decide_eq_false (Int.not_lt.2 ((findI_nonneg (c := b.1) (s := img vs im a.1[k])).2 hP))) ?_
    rw [w64_succ (by omega)]; exact ih
  · simp only [spec_l08Fits.l0_succ _ mk_ok]
    exact ev_f (decide_eq_false (by omega)) ev_rfl
  · refine congrArg (fun b : Bool => some (⟨o_spec_l08Fits,(b,())⟩ : Dv)) (pb_congr ⟨fun h s hs => ?_,fun h j _ hj => ?_⟩)
    · obtain ⟨j,hj,rfl⟩ := List.mem_iff_getElem.1 hs
      have := h j (by omega) hj
      rwa [getD_lt hj] at this
    · rw [getD_lt hj]; exact h _ (List.getElem_mem hj)

theorem l08Map_ret (a b : Cpx) (im : Sim) (ha : VC a.1) (hb : VC b.1) (sa : Sm yK a.1) (sb : Sm yK b.1) (si : im.length ≤ 1048576) :
    Ret E n_spec_l08Map [dC a,dC b,dL im] ⟨o_spec_l08Map,(pb (Mp a.1 b.1 im),())⟩ := by
  have hvl := vxN_length (c := a.1) (k := a.1.length)
  have sa1 : a.1.length ≤ 1048576 := sa.1
  refine ret_of ?_
  simp only [run_spec_l08Map,spec_l08Map.ev]
  refine ev_call (l08Vertices_ret a sa) ?_
  refine Ev.start (p := fun φ n => spec_l08Map.l0 (mkR (run E (φ 0))) (φ 0) n a b im (vxs a.1) 0 = _) 1 ?_ (fun _ _ _ h => h)
  obtain ⟨h1,h2⟩ := all_loop 1 (L := fun φ n k => spec_l08Map.l0 (mkR (run E (φ 0))) (φ 0) n a b im (vxs a.1) k) (len := im.length) 0 (by omega) (fun j => 0 ≤ im.getD j 0 ∧ im.getD j 0 ≤ 9) (rt := some ⟨o_spec_l08Map,(pb (Mp a.1 b.1 im),())⟩) (rf := some ⟨o_spec_l08Map,(false,())⟩) (fun _ _ _ _ => rfl) (fun k _ hk hP _ => by
      simp only [spec_l08Map.l0_succ _ mk_ok]
      rw [getD_lt hk] at hP
      exact ev_t (decide_eq_true (by omega)) (ev_bind (idx_lt hk) (ev_call (l00In_ret _ _ _) (ev_t (by rw [pb_false hP]; rfl) ev_rfl)))) (fun k r _ hk hP _ ih => by
      simp only [spec_l08Map.l0_succ _ mk_ok]
      rw [getD_lt hk] at hP
      refine ev_t (decide_eq_true (by omega)) (ev_bind (idx_lt hk) (ev_call (l00In_ret _ _ _) (ev_f (by rw [pb_true hP]; rfl) ?_)))
      rw [w64_succ (by omega)]; exact ih) (fun hall => by
      simp only [spec_l08Map.l0_succ _ mk_ok]
      refine ev_f (decide_eq_false (by omega)) (ev_b (fun h => ?_) fun h => ev_some ?_)
      · have h : (im.length : Int) = (vxs a.1).length := by simpa using h
        have hl : im.length = (vxs a.1).length := by omega
        refine ev_call (l08Fits_ret a b (vxs a.1) im sa sb hl (by omega) (fun s hs x hx => ha.vert hs hx) fun x hx => ?_) (ev_some ?_)
        · obtain ⟨j,hj,rfl⟩ := List.mem_iff_getElem.1 hx
          have := (hall j (by omega) hj).1
          rwa [getD_lt hj] at this
        · rw [pb_congr (show (∀ s ∈ a.1,img (vxs a.1) im s ∈ b.1) ↔ Mp a.1 b.1 im from ⟨fun h => ⟨hl,h⟩,fun h => h.2⟩)]
      · have h : (im.length : Int) ≠ (vxs a.1).length := by simpa using h
        rw [pb_false fun hm => h (by rw [hm.1])])
  by_cases hall : ∀ j,0 ≤ j → j < im.length → 0 ≤ im.getD j 0 ∧ im.getD j 0 ≤ 9
  · exact h1 hall
  · rw [pb_false fun hm => hall fun j _ hj => by rw [getD_lt hj]; exact hm.range ha hb _ (List.getElem_mem hj)]
    exact h2 hall

open Classical in
/-- the code of two complexes and a map -/
noncomputable def MC (a b : List Sim) (im : Sim) : Int := if VC a ∧ VC b then (if Mp a b im then 0 else 7) else 1

theorem MC_zero {a b : List Sim} {im : Sim} : MC a b im = 0 ↔ (VC a ∧ VC b) ∧ Mp a b im := by
  unfold MC
  by_cases h : VC a ∧ VC b
  · rw [if_pos h]
    by_cases hm : Mp a b im
    · rw [if_pos hm]
      exact ⟨fun _ => ⟨h,hm⟩,fun _ => rfl⟩
    · rw [if_neg hm]
      exact ⟨fun e => absurd e (by decide),fun e => absurd e.2 hm⟩
  · rw [if_neg h]
    exact ⟨fun e => absurd e (by decide),fun e => absurd e.1 h⟩

theorem mapped_ret (a b : List Sim) (im : Sim) (sa : Sm yK a) (sb : Sm yK b) : Ret E n_impl_mapped [dLL a,dLL b,dL im] ⟨o_impl_mapped,(MC a b im,())⟩ := by
  refine ret_of ?_
  simp only [run_impl_mapped,impl_mapped.ev]
  refine ev_call (ValidComplex_ret a sa) ?_
  by_cases ha : VC a
  · refine ev_f (by rw [pb_true ha]; rfl) (ev_call (ValidComplex_ret b sb) ?_)
    simp only [impl_mapped.j0_eq _ mk_ok]
    by_cases hb : VC b
    · refine ev_f (by rw [pb_true hb]; rfl) (ev_call (isMap_ret a b im ha hb sa sb) ?_)
      unfold MC
      rw [if_pos ⟨ha,hb⟩]
      by_cases hm : Mp a b im
      · rw [if_pos hm]
        exact ev_f (by rw [pb_true hm]; rfl) ev_rfl
      · rw [if_neg hm]
        exact ev_t (by rw [pb_false hm]; rfl) ev_rfl
    · unfold MC
      rw [if_neg fun h => hb h.2]
      exact ev_t (by rw [pb_false hb]; rfl) ev_rfl
  · unfold MC
    rw [if_neg fun h => ha h.1]
    refine ev_t (by rw [pb_false ha]; rfl) ?_
    simp only [impl_mapped.j0_eq _ mk_ok]
    exact ev_t rfl ev_rfl

theorem l08Ask_ret (a b : Cpx) (im : Sim) (sa : Sm yK a.1) (sb : Sm yK b.1) (si : im.length ≤ 1048576) : Ret E n_spec_l08Ask [dC a,dC b,dL im] ⟨o_spec_l08Ask,(MC a.1 b.1 im,())⟩ := by
  refine ret_of ?_
  simp only [run_spec_l08Ask,spec_l08Ask.ev]
  refine ev_call (l05Ok_ret a sa) ?_
  by_cases ha : VC a.1
  · refine ev_f (by rw [pb_true ha]; rfl) (ev_call (l05Ok_ret b sb) ?_)
    simp only [spec_l08Ask.j0_eq _ mk_ok]
    by_cases hb : VC b.1
    · refine ev_f (by rw [pb_true hb]; rfl) (ev_call (l08Map_ret a b im ha hb sa sb si) ?_)
      unfold MC
      rw [if_pos ⟨ha,hb⟩]
      by_cases hm : Mp a.1 b.1 im
      · rw [if_pos hm]
        exact ev_f (by rw [pb_true hm]; rfl) ev_rfl
      · rw [if_neg hm]
        exact ev_t (by rw [pb_false hm]; rfl) ev_rfl
    · unfold MC
      rw [if_neg fun h => hb h.2]
      exact ev_t (by rw [pb_false hb]; rfl) ev_rfl
  · unfold MC
    rw [if_neg fun h => ha h.1]
    refine ev_t (by rw [pb_false ha]; rfl) ?_
    simp only [spec_l08Ask.j0_eq _ mk_ok]
    exact ev_t rfl ev_rfl

/-! SimplexImage -/
theorem l08At_ret (a b : Cpx) (im : Sim) (k : Nat) (sa : Sm yK a.1) (sb : Sm yK b.1) (h : MC a.1 b.1 im = 0) (hk : k < a.1.length) :
    Ret E n_spec_l08At [dC a,dC b,dL im,dI (k : Int)] ⟨o_spec_l08At,(findI b.1 (img (vxs a.1) im a.1[k]),())⟩ := by
  obtain ⟨⟨ha,hb⟩,hm⟩ := MC_zero.1 h
  have hvl := vxN_length (c := a.1) (k := a.1.length)
  have sa1 : a.1.length ≤ 1048576 := sa.1
  refine ret_of ?_
  simp only [run_spec_l08At,spec_l08At.ev]
  refine ev_bind (idx_lt hk) (ev_call (l08Vertices_ret a sa) (ev_call (l08Image_ret (vxs a.1) im _ hm.1 (Nat.le_trans hvl sa1) (fun x hx => ha.vert (List.getElem_mem hk) hx) (fun x hx => (hm.range ha hb x hx).1) (sm_get sa hk).1) (ev_call (l05Find_ret b _ sb) ev_rfl)))

/-! FibreOf -/
theorem findI_eq {c : List Sim} (hc : Srt c) {s : Sim} {m : Nat} (hm : m < c.length) : findI c s = (m : Int) ↔ s = c[m] := by
  have hs : findI c c[m] = (m : Int) := by
    unfold findI idxf
    have : c.findIdx? (fun x => pb (x = c[m])) = some m := by
      rw [List.findIdx?_eq_some_iff_getElem]
      refine ⟨hm,pb_true rfl,fun j hj h => ?_⟩
      have e := pb_iff.1 h
      have := hc j m hm hj
      rw [cmpS_zero.2 e] at this; omega
    rw [this]; rfl
  constructor
  · intro h
    have h0 : 0 ≤ findI c s := by omega
    obtain ⟨j,hj,e⟩ := List.mem_iff_getElem.1 (findI_nonneg.1 h0)
    subst e
    have hj2 : findI c c[j] = (j : Int) := by
      unfold findI idxf
      have : c.findIdx? (fun x => pb (x = c[j])) = some j := by
        rw [List.findIdx?_eq_some_iff_getElem]
        refine ⟨hj,pb_true rfl,fun i hi h => ?_⟩
        have e := pb_iff.1 h
        have := hc i j hj hi
        rw [cmpS_zero.2 e] at this; omega
      rw [this]; rfl
    have : j = m := by omega
    subst this; rfl
  · rintro rfl; exact hs

end VeT

open Go Go.Proofs Ve
set_option linter.unusedVariables false
set_option linter.unusedSimpArgs false
namespace VeT

end VeT

open Go Go.Proofs Ve
set_option linter.unusedVariables false
set_option linter.unusedSimpArgs false
namespace VeT

end VeT

open Go Go.Proofs Ve
set_option linter.unusedVariables false
set_option linter.unusedSimpArgs false
namespace VeT

theorem ofDim_pre {c : List Sim} {d : Int} {s n : Nat} (hs : s < n) (hd : ((c.getD s []).length : Int) = d + 1) : ∃ tl,ofDim c d n = ofDim c d s ++ (s : Int) :: tl := by
  induction n with
  | zero => omega
  | succ n ih =>
    rw [ofDim_succ]
    by_cases h : s = n
    · subst h; exact ⟨[],by rw [if_pos hd]⟩
    · obtain ⟨tl,e⟩ := ih (by omega)
      exact ⟨tl ++ _,by rw [e,List.append_assoc]; rfl⟩

theorem ofDim_iff {c : List Sim} {d : Int} {k : Nat} {x : Int} : x ∈ ofDim c d k ↔ ∃ i : Nat,x = i ∧ i < k ∧ ((c.getD i []).length : Int) = d + 1 := by
  unfold ofDim
  rw [List.mem_map]
  constructor
  · rintro ⟨i,hi,rfl⟩
    have := List.mem_filter.1 hi
    exact ⟨i,rfl,by simpa using this.1,by simpa using this.2⟩
  · rintro ⟨i,rfl,h1,h2⟩
    exact ⟨i,List.mem_filter.2 ⟨by simpa using h1,by simpa using h2⟩,rfl⟩

def sgn (p : Int) (a : Nat) : Int := if a % 2 = 0 then 1 else p - 1

end VeT

open Go Go.Proofs Ve
set_option linter.unusedVariables false
set_option linter.unusedSimpArgs false
namespace VeT

theorem zero_1_ret (i j : Nat) : Ret E n_impl_zero_1 [dI (i : Int),dI (j : Int)] ⟨o_impl_zero_1,((0 : Int),())⟩ := by
  refine ret_of ?_
  simp only [run_impl_zero_1,impl_zero_1.ev]
  (first | exact ev_rfl | exact Ev.of fun _ => trivial)

theorem flatF_zero {C : Nat} : ∀ {n : Nat},flatF (fun _ _ => 0) C n = List.replicate (n * C) 0
  | 0 => by simp [flatF]
  | n + 1 => by
    rw [flatF,flatF_zero,Nat.add_mul,Nat.one_mul,← List.replicate_append_replicate]
    congr 1
    rw [List.map_const',List.length_range]

theorem zero_ret (p : Int) (R C : Nat) (hR : R ≤ 32) (hC : C ≤ 32) : Ret E n_impl_zero [dI p,dI (R : Int),dI (C : Int)] ⟨o_impl_zero,(p,(R : Int),(C : Int),List.replicate (R * C) 0,())⟩ := by
  have h1 := rc_le hR hC
  refine ret_of ?_
  simp only [run_impl_zero,impl_zero.ev]
  rw [← flatF_zero]
  exact ev_call (filled_impl_zero_1_ret p R C (fun _ _ => 0) (by omega) (by omega) (by omega) fun i j _ _ => zero_1_ret i j) ev_rfl

theorem alternating_ret (p : Int) (i : Nat) (hp : 2 ≤ p ∧ p ≤ 251) : Ret E n_impl_alternating [dI (i : Int),dI p] ⟨o_impl_alternating,(sgn p i,())⟩ := by
  refine ret_of ?_
  simp only [run_impl_alternating,impl_alternating.ev]
  rw [Int.tmod_eq_emod_of_nonneg (by omega),w64_small (by omega) (by omega)]
  refine ev_b (fun h => ev_some ?_) fun h => ev_some ?_
  · have h : (i : Int) % 2 = 0 := by simpa using h
    rw [sgn,if_pos (by omega)]
  · have h : ¬ (i : Int) % 2 = 0 := by simpa using h
    rw [sgn,if_neg (by omega)]

theorem l07Sign_ret (p : Int) (i : Nat) (hp : 2 ≤ p ∧ p ≤ 251) : Ret E n_spec_l07Sign [dI (i : Int),dI p] ⟨o_spec_l07Sign,(sgn p i,())⟩ := by
  refine ret_of ?_
  simp only [run_spec_l07Sign,spec_l07Sign.ev]
  rw [Int.tmod_eq_emod_of_nonneg (by omega),w64_small (by omega) (by omega)]
  refine ev_b (fun h => ev_chk (by simp; omega) (ev_some ?_)) fun h => ev_some ?_
  · have h : (i : Int) % 2 = 0 := by simpa using h
    rw [sgn,if_pos (by omega),Int.tmod_eq_emod_of_nonneg (by omega),Int.emod_eq_of_lt (by omega) (by omega)]
  · have h : ¬ (i : Int) % 2 = 0 := by simpa using h
    rw [sgn,if_neg (by omega)]

end VeT

open Go Go.Proofs Ve
set_option linter.unusedVariables false
set_option linter.unusedSimpArgs false
namespace VeT

/-! the simplices of a dimension stand beside each other -/
theorem len_mono {c : List Sim} (h : Srt c) {i j : Nat} (hij : i ≤ j) (hj : j < c.length) : (c.getD i []).length ≤ (c.getD j []).length := by
  rw [getD_lt (by omega),getD_lt hj]
  by_cases e : i = j
  · subst e; exact Nat.le_refl _
  · have := h i j hj (by omega)
    rw [cmpS_lt] at this
    omega

theorem ofDim_run {c : List Sim} (h : Srt c) {d x : Int} (hx : x ∈ ofDim c d c.length) :
    ∃ s f0 : Nat,x = (s : Int) ∧ s < c.length ∧ f0 ≤ s ∧ (ofDim c d c.length).head? = some (f0 : Int) ∧ idxf (fun y => pb (y = x)) (ofDim c d c.length) = ((s - f0 : Nat) : Int) ∧ s - f0 < (ofDim c d c.length).length := by
  obtain ⟨s,rfl,hs,hd⟩ := ofDim_iff.1 hx
  obtain ⟨tl,hL⟩ := ofDim_pre hs hd
  have hne : ofDim c d c.length ≠ [] := by rw [hL]; simp
  obtain ⟨y,hy⟩ : ∃ y,(ofDim c d c.length).head? = some y := by
    cases hh : ofDim c d c.length with
    | nil => exact absurd hh hne
    | cons y l => exact ⟨y,rfl⟩
  have hym : y ∈ ofDim c d c.length := List.mem_of_head? hy
  obtain ⟨f0,rfl,hf,hfd⟩ := ofDim_iff.1 hym
  obtain ⟨tl2,hL2⟩ := ofDim_pre hf hfd
  have hz : ofDim c d f0 = [] := by
    cases hh : ofDim c d f0 with
    | nil => rfl
    | cons z l =>
      have hz : z ∈ ofDim c d f0 := by rw [hh]; exact List.mem_cons_self
      obtain ⟨i,rfl,hi⟩ := ofDim_mem hz
      rw [hL2,hh] at hy
      have : ((i : Nat) : Int) = f0 := by simpa using hy
      omega
  have hfs : f0 ≤ s := by
    refine Classical.byContradiction fun hn => ?_
    have : ((s : Nat) : Int) ∈ ofDim c d f0 := ofDim_iff.2 ⟨s,rfl,by omega,hd⟩
    rw [hz] at this; cases this
  have hlen : ∀ t,f0 + t ≤ s → (ofDim c d (f0 + t)).length = t := by
    intro t
    induction t with
    | zero => intro _; rw [Nat.add_zero,hz]; rfl
    | succ t ih =>
      intro ht
      have h1 := len_mono h (show f0 ≤ f0 + t by omega) (by omega)
      have h2 := len_mono h (show f0 + t ≤ s by omega) hs
      rw [← Nat.add_assoc,ofDim_succ,if_pos (by omega),List.length_append,ih (by omega)]; rfl
  have hls := hlen (s - f0) (by omega)
  rw [show f0 + (s - f0) = s by omega] at hls
  refine ⟨s,f0,rfl,hs,hfs,hy,?_,by rw [hL,List.length_append,hls]; simp⟩
  unfold idxf
  have : (ofDim c d c.length).findIdx? (fun y => pb (y = (s : Int))) = some (s - f0) := by
    rw [List.findIdx?_eq_some_iff_getElem]
    refine ⟨by rw [hL,List.length_append,hls]; simp,?_,fun j hj => ?_⟩
    · refine pb_true ?_
      have : (ofDim c d c.length)[s - f0]? = some (s : Int) := by
        rw [hL,List.getElem?_append_right (by omega),hls,Nat.sub_self]; rfl
      exact (List.getElem?_eq_some_iff.1 this).2
    · rw [pb_iff]
      intro e
      have hj' : j < (ofDim c d s).length := by omega
      have : (ofDim c d c.length)[j]? = some (ofDim c d s)[j] := by
        rw [hL,List.getElem?_append_left hj',List.getElem?_eq_getElem hj']
      have e2 := (List.getElem?_eq_some_iff.1 this).2
      rw [e] at e2
      obtain ⟨i,hi,hi2⟩ := ofDim_mem (List.getElem_mem hj')
      rw [← e2] at hi
      omega
  rw [this]; rfl

/-! inversions -/
def cntN (f : Nat → Int) (v : Int) : Nat → Nat
  | 0 => 0
  | x + 1 => cntN f v x + if v < f x then 1 else 0
def invN (f : Nat → Int) : Nat → Nat
  | 0 => 0
  | k + 1 => invN f k + cntN f (f k) k

theorem cntN_le {f : Nat → Int} {v : Int} : ∀ {x : Nat},cntN f v x ≤ x
  | 0 => Nat.le_refl _
  | x + 1 => by have := cntN_le (f := f) (v := v) (x := x); unfold cntN; split <;> omega
theorem invN_le {f : Nat → Int} : ∀ {k : Nat},invN f k ≤ k * k
  | 0 => Nat.le_refl _
  | k + 1 => by
    have h1 := invN_le (f := f) (k := k)
    have h2 := cntN_le (f := f) (v := f k) (x := k)
    have : (k + 1) * (k + 1) = k * k + k + k + 1 := by rw [Nat.add_mul,Nat.mul_add]; omega
    unfold invN; omega

noncomputable abbrev toldF (c : List Sim) (im s : Sim) : Nat → Int := fun x => told (vxs c) im (s.getD x 0)

theorem inversions_ret (c : List Sim) (im s : Sim) (hc : Sm yK c) (hl : im.length = (vxs c).length) (hs : ∀ x ∈ s,x ∈ vxs c) (hs4 : s.length ≤ 4) :
    Ret E n_impl_inversions [dLL c,dL im,dL s] ⟨o_impl_inversions,((invN (toldF c im s) s.length : Nat),())⟩ := by
  refine ret_of ?_
  simp only [run_impl_inversions,impl_inversions.ev]
  refine Ev.start (p := fun φ n => impl_inversions.l0 (mkR (run E (φ 0))) (φ 0) n im s 0 s (s.length : Int) 0 c = _) 1 ?_ (fun _ _ _ h => h)
  refine fold_loop 1 (L := fun φ n k a => impl_inversions.l0 (mkR (run E (φ 0))) (φ 0) n im s a s (s.length : Int) k c) (len := s.length) (fun k => ((invN (toldF c im s) k : Nat) : Int)) (fun _ _ _ _ _ => rfl) (fun k r hk ih => ?_) ?_
  · simp only [impl_inversions.l0_succ _ mk_ok]
    have hik := invN_le (f := toldF c im s) (k := k)
    have hkk : k * k ≤ 16 := Nat.le_trans (Nat.mul_le_mul (show k ≤ 4 by omega) (show k ≤ 4 by omega)) (by omega)
    refine ev_t (decide_eq_true (by omega)) (ev_bind (idx_lt hk) (ev_chk (by simp; omega) ?_))
    rw [Int.toNat_natCast]
    have htl : (s.take k).length = k := by rw [List.length_take]; omega
    rw [htl]
    refine Ev.start (p := fun φ n => impl_inversions.l1 (mkR (run E (φ 0))) (φ 0) (φ 1) n im s ((invN (toldF c im s) k : Nat) : Int) s[k] s (s.length : Int) (k : Int) (s.take k) (k : Int) 0 c = _) 2 ?_ (fun _ _ _ h => h)
    refine fold_loop 2 (L := fun φ n x a => impl_inversions.l1 (mkR (run E (φ 0))) (φ 0) (φ 1) n im s a s[k] s (s.length : Int) (k : Int) (s.take k) (k : Int) x c) (len := k) (fun x => ((invN (toldF c im s) k + cntN (toldF c im s) (toldF c im s k) x : Nat) : Int)) (fun _ _ _ _ _ => rfl) (fun x q hx ihx => ?_) ?_
    · simp only [impl_inversions.l1_succ _ mk_ok]
      have hxl : x < s.length := by omega
      have hxt : x < (s.take k).length := by omega
      have hcx := cntN_le (f := toldF c im s) (v := toldF c im s k) (x := x)
      have e1 : (s.take k)[x] = s[x] := List.getElem_take
      have hw := imageOf_ret c im [s[k]] hc hl (fun y hy => by
        have : y = s[k] := by simpa using hy
        subst this; exact hs _ (List.getElem_mem hk)) (by simp)
      have hv := imageOf_ret c im [s[x]] hc hl (fun y hy => by
        have : y = s[x] := by simpa using hy
        subst this; exact hs _ (List.getElem_mem hxl)) (by simp)
      rw [img_one] at hw hv
      have fk : toldF c im s k = told (vxs c) im s[k] := by unfold toldF; rw [getD_lt hk]
      have fx : toldF c im s x = told (vxs c) im s[x] := by unfold toldF; rw [getD_lt hxl]
      refine ev_t (decide_eq_true (by omega)) (ev_bind (idx_lt hxt) ?_)
      rw [e1]
      have body : Ev fun φ => impl_inversions.j2 (mkR (run E (φ 0))) (φ 0) (φ 1) (φ 2) im s ((invN (toldF c im s) k + cntN (toldF c im s) (toldF c im s k) x : Nat) : Int) s[k] s (s.length : Int) (k : Int) (s.take k) (k : Int) (x : Int) (decide (told (vxs c) im s[k] < told (vxs c) im s[x])) c = q := by
        simp only [impl_inversions.j2_eq _ mk_ok]
        rw [show w64 ((x : Int) + 1) = ((x + 1 : Nat) : Int) from w64_succ (by omega)]
        unfold cntN at ihx
        refine ev_d (fun h => ?_) fun h => ?_
        · rw [fk,fx,if_pos h] at ihx
          rw [w64_succ (by omega),fk]
          exact ihx
        · rw [fk,fx,if_neg h,Nat.add_zero] at ihx
          rw [fk]
          exact ihx
      have step := ev_call (out := o_impl_imageOf) (K := fun φ r21 => Option.bind (idx? r21.1 (0 : Int)) fun y22 => Option.bind (callT (mkR (run E (φ 0))) n_impl_imageOf o_impl_imageOf [dLL c,dL im,dL [s[x]]]) fun r23 => Option.bind (idx? r23.1 (0 : Int)) fun y24 =>
        impl_inversions.j2 (mkR (run E (φ 0))) (φ 0) (φ 1) (φ 2) im s ((invN (toldF c im s) k + cntN (toldF c im s) (toldF c im s k) x : Nat) : Int) s[k] s (s.length : Int) (k : Int) (s.take k) (k : Int) (x : Int) (decide (y22 < y24)) c) hw (ev_bind (x := told (vxs c) im s[k]) rfl (ev_call hv (ev_bind (x := told (vxs c) im s[x]) rfl body)))
      exact ev_both (ev_both step step) step
    · simp only [impl_inversions.l1_succ _ mk_ok]
      rw [w64_succ (by omega)]
      exact ev_f (decide_eq_false (by omega)) ih
  · simp only [impl_inversions.l0_succ _ mk_ok]
    exact ev_f (decide_eq_false (by omega)) ev_rfl

/-! the matrix -/
open Classical in
noncomputable def chC (a b : List Sim) (im : Sim) (k p : Int) : Nat → List Int
  | 0 => List.replicate ((ofDim b k b.length).length * (ofDim a k a.length).length) 0
  | j + 1 =>
    let s := a.getD ((ofDim a k a.length).getD j 0).toNat []
    if (img (vxs a) im s).length = s.length then (chC a b im k p j).set ((findI b (img (vxs a) im s) - (ofDim b k b.length).getD 0 0).toNat * (ofDim a k a.length).length + j) (sgn p (invN (toldF a im s) s.length)) else chC a b im k p j

theorem chC_length {a b : List Sim} {im : Sim} {k p : Int} : ∀ {j : Nat},(chC a b im k p j).length = (ofDim b k b.length).length * (ofDim a k a.length).length
  | 0 => by simp [chC]
  | j + 1 => by
    have := chC_length (a := a) (b := b) (im := im) (k := k) (p := p) (j := j)
    unfold chC
    simp only
    split
    · rw [List.length_set,this]
    · exact this

noncomputable def chM (a b : List Sim) (im : Sim) (k p : Int) : Mat := (p,((ofDim b k b.length).length : Int),((ofDim a k a.length).length : Int),chC a b im k p (ofDim a k a.length).length,())

structure ChF (a b : List Sim) (im : Sim) (k p : Int) : Prop where
  sa : Sm yK a
  sb : Sm yK b
  mc : MC a b im = 0
  hk : 0 ≤ k ∧ k ≤ 3
  hp : 2 ≤ p ∧ p ≤ 251
  la : (ofDim a k a.length).length ≤ 32
  lb : (ofDim b k b.length).length ≤ 32

/-- one column -/
theorem ChF.col {a b : List Sim} {im : Sim} {k p : Int} (F : ChF a b im k p) {j : Nat} (hj : j < (ofDim a k a.length).length) :
    ∃ s : Nat,∃ hs : s < a.length,(ofDim a k a.length)[j] = (s : Int) ∧ ((ofDim a k a.length).getD j 0).toNat = s ∧ a.getD s [] = a[s] ∧ (a[s].length : Int) = k + 1 ∧ a[s].length ≤ 4 ∧ img (vxs a) im a[s] ∈ b ∧
      ((img (vxs a) im a[s]).length = a[s].length → ∃ t f0 : Nat,findI b (img (vxs a) im a[s]) = (t : Int) ∧ f0 ≤ t ∧ (ofDim b k b.length).head? = some (f0 : Int) ∧ (ofDim b k b.length).getD 0 0 = (f0 : Int) ∧
        idxf (fun y => pb (y = (t : Int))) (ofDim b k b.length) = ((t - f0 : Nat) : Int) ∧ t - f0 < (ofDim b k b.length).length) := by
  obtain ⟨⟨ha,hb⟩,hm⟩ := MC_zero.1 F.mc
  obtain ⟨s,e,hs,hd⟩ := ofDim_iff.1 (List.getElem_mem hj)
  have hg : a.getD s [] = a[s] := getD_lt hs
  rw [hg] at hd
  have hin := hm.2 a[s] (List.getElem_mem hs)
  refine ⟨s,hs,e,by rw [getD_lt hj,e]; rfl,hg,hd,by have := F.hk; omega,hin,fun hl => ?_⟩
  have h0 : 0 ≤ findI b (img (vxs a) im a[s]) := findI_nonneg.2 hin
  obtain ⟨t,ht⟩ := Int.eq_ofNat_of_zero_le h0
  have htb : t < b.length ∧ b[t]? = some (img (vxs a) im a[s]) := by
    obtain ⟨q,hq,eq⟩ := List.mem_iff_getElem.1 hin
    have := (findI_eq hb.srt (s := img (vxs a) im a[s]) hq).2 eq.symm
    have : q = t := by omega
    subst this
    exact ⟨hq,by rw [List.getElem?_eq_getElem hq,eq]⟩
  have hmem : ((t : Nat) : Int) ∈ ofDim b k b.length := ofDim_iff.2 ⟨t,rfl,htb.1,by
    have : b.getD t [] = img (vxs a) im a[s] := by rw [List.getD_eq_getElem?_getD,htb.2]; rfl
    rw [this,hl]; exact hd⟩
  obtain ⟨t',f0,e1,e2,e3,e4,e5,e6⟩ := ofDim_run hb.srt hmem
  obtain rfl : t = t' := by omega
  refine ⟨t,f0,ht,e3,e4,?_,e5,e6⟩
  rw [List.getD_eq_getElem?_getD,← List.head?_eq_getElem?,e4]; rfl

theorem chC_succ {a b : List Sim} {im : Sim} {k p : Int} {j s : Nat} (e : ((ofDim a k a.length).getD j 0).toNat = s) (hg : ∀ h : s < a.length,a.getD s [] = a[s]) (hs : s < a.length) :
    ((img (vxs a) im a[s]).length = a[s].length → chC a b im k p (j + 1) = (chC a b im k p j).set ((findI b (img (vxs a) im a[s]) - (ofDim b k b.length).getD 0 0).toNat * (ofDim a k a.length).length + j) (sgn p (invN (toldF a im a[s]) a[s].length))) ∧
    (¬ (img (vxs a) im a[s]).length = a[s].length → chC a b im k p (j + 1) = chC a b im k p j) := by
  constructor
  · intro h
    rw [chC]
    simp only [e,hg hs]
    rw [if_pos h]
  · intro h
    rw [chC]
    simp only [e,hg hs]
    rw [if_neg h]

theorem chainMap_ret (a b : List Sim) (im : Sim) (k p : Int) (F : ChF a b im k p) : Ret E n_impl_chainMap [dLL a,dLL b,dL im,dI k,dI p] ⟨o_impl_chainMap,chM a b im k p⟩ := by
  obtain ⟨⟨ha,hb⟩,hm⟩ := MC_zero.1 F.mc
  have hk := F.hk
  have la := F.la
  have lb := F.lb
  have hHW := rc_le lb la
  refine ret_of ?_
  simp only [run_impl_chainMap,impl_chainMap.ev]
  refine ev_call (simplicesOf_ret a k F.sa (by omega)) (ev_call (simplicesOf_ret b k F.sb (by omega)) (ev_call (sizeI_ret _) (ev_call (sizeI_ret _) (ev_call (zero_ret p _ _ lb la) ?_))))
  refine Ev.start (p := fun φ n => impl_chainMap.l0 (mkR (run E (φ 0))) (φ 0) n im p (ofDim a k a.length) (ofDim b k b.length) (ofDim a k a.length) ((ofDim a k a.length).length : Int) 0 a b 0 0 0 p ((ofDim b k b.length).length : Int) ((ofDim a k a.length).length : Int) (List.replicate ((ofDim b k b.length).length * (ofDim a k a.length).length) 0) = _) 1 ?_ (fun _ _ _ h => h)
  refine fold_loop 1 (L := fun φ n j o => impl_chainMap.l0 (mkR (run E (φ 0))) (φ 0) n im p (ofDim a k a.length) (ofDim b k b.length) (ofDim a k a.length) ((ofDim a k a.length).length : Int) j a b 0 0 0 p ((ofDim b k b.length).length : Int) ((ofDim a k a.length).length : Int) o) (len := (ofDim a k a.length).length) (fun j => chC a b im k p j) (fun _ _ _ _ _ => rfl) (fun j r hj ih => ?_) ?_
  · obtain ⟨s,hs,e1,e2,hg,e3,e4,e5,e6⟩ := F.col hj
    obtain ⟨c1,c2⟩ := chC_succ (b := b) (im := im) (p := p) e2 (fun _ => hg) hs
    simp only [impl_chainMap.l0_succ _ mk_ok]
    rw [w64_succ (by omega)]
    have hv : ∀ x ∈ a[s],x ∈ vxs a := fun x hx => ha.vert (List.getElem_mem hs) hx
    refine ev_t (decide_eq_true (by omega)) (ev_bind (idx_lt hj) ?_)
    rw [e1]
    refine ev_bind (idx_lt hs) (ev_call (imageOf_ret a im _ F.sa hm.1 hv (by omega)) (ev_b (fun h => ?_) fun h => ?_))
    · have h : ((img (vxs a) im a[s]).length : Int) = a[s].length := by simpa using h
      have h : (img (vxs a) im a[s]).length = a[s].length := by omega
      rw [c1 h] at ih
      obtain ⟨t,f0,t1,t2,t3,t4,t5,t6⟩ := e6 h
      have hix := Index_ret (ofDim b k b.length) (t : Int) (by omega)
      rw [t5] at hix
      have hfind := indexOf_ret b (img (vxs a) im a[s]) F.sb hb.srt
      rw [t1] at hfind
      rw [t1,t4,show ((t : Int) - (f0 : Int)).toNat = t - f0 by omega] at ih
      have hinv := inversions_ret a im a[s] F.sa hm.1 hv e4
      have hal := alternating_ret p (invN (toldF a im a[s]) a[s].length) F.hp
      have hlt := lt_rc t6 hj
      have hm2 : w64 (((t - f0 : Nat) : Int) * ((ofDim a k a.length).length : Int)) = (((t - f0) * (ofDim a k a.length).length : Nat) : Int) := by
        rw [cast_mul,w64_small (by omega) (by omega)]
      have hm3 : w64 ((((t - f0) * (ofDim a k a.length).length : Nat) : Int) + (j : Int)) = (((t - f0) * (ofDim a k a.length).length + j : Nat) : Int) := by
        rw [w64_small (by omega) (by omega)]; omega
      refine ev_call hfind (ev_call hix (ev_call hinv (ev_call hal ?_)))
      simp only
      rw [hm2,hm3,Int.toNat_natCast]
      exact ev_chk (by rw [chC_length]; simp; omega) ih
    · have h : ¬ ((img (vxs a) im a[s]).length : Int) = a[s].length := by simpa using h
      have h : ¬ (img (vxs a) im a[s]).length = a[s].length := by omega
      rw [c2 h] at ih
      exact ih
  · simp only [impl_chainMap.l0_succ _ mk_ok]
    exact ev_f (decide_eq_false (by omega)) ev_rfl

theorem l08Chain_ret (a b : List Sim) (im : Sim) (k p : Int) (F : ChF a b im k p) : Ret E n_spec_l08Chain [dC (a,()),dC (b,()),dL im,dI k,dI p] ⟨o_spec_l08Chain,chM a b im k p⟩ := by
  obtain ⟨⟨ha,hb⟩,hm⟩ := MC_zero.1 F.mc
  have hk := F.hk
  have la := F.la
  have lb := F.lb
  have hHW := rc_le lb la
  have hvl := vxN_length (c := a) (k := a.length)
  have sa1 : a.length ≤ 1048576 := F.sa.1
  refine ret_of ?_
  simp only [run_spec_l08Chain,spec_l08Chain.ev]
  refine ev_call (l05Of_ret a k F.sa (by omega)) (ev_call (l05Of_ret b k F.sb (by omega)) (ev_call (l08Vertices_ret (a,()) F.sa) (ev_call (l03Zero_ret p _ _ lb la) ?_)))
  refine Ev.start (p := fun φ n => spec_l08Chain.l0 (mkR (run E (φ 0))) (φ 0) n (a,()) (b,()) im p (ofDim a k a.length) (ofDim b k b.length) (vxs a) 0 0 0 0 p ((ofDim b k b.length).length : Int) ((ofDim a k a.length).length : Int) (List.replicate ((ofDim b k b.length).length * (ofDim a k a.length).length) 0) = _) 1 ?_ (fun _ _ _ h => h)
  refine fold_loop 1 (L := fun φ n j o => spec_l08Chain.l0 (mkR (run E (φ 0))) (φ 0) n (a,()) (b,()) im p (ofDim a k a.length) (ofDim b k b.length) (vxs a) j 0 0 0 p ((ofDim b k b.length).length : Int) ((ofDim a k a.length).length : Int) o) (len := (ofDim a k a.length).length) (fun j => chC a b im k p j) (fun _ _ _ _ _ => rfl) (fun j r hj ih => ?_) ?_
  · obtain ⟨s,hs,e1,e2,hg,e3,e4,e5,e6⟩ := F.col hj
    obtain ⟨c1,c2⟩ := chC_succ (b := b) (im := im) (p := p) e2 (fun _ => hg) hs
    simp only [spec_l08Chain.l0_succ _ mk_ok]
    refine ev_t (decide_eq_true (by omega)) (ev_bind (idx_lt hj) ?_)
    rw [e1]
    refine ev_bind (idx_lt hs) ?_
    refine Ev.start (p := fun φ n => spec_l08Chain.l1 (mkR (run E (φ 0))) (φ 0) (φ 1) n (a,()) (b,()) im p (ofDim a k a.length) (ofDim b k b.length) (vxs a) (j : Int) a[s] 0 0 0 0 0 p ((ofDim b k b.length).length : Int) ((ofDim a k a.length).length : Int) [] (chC a b im k p j) = _) 2 ?_ (fun _ _ _ h => h)
    refine fold_loop 2 (α := Int × List Int) (L := fun φ n i o => spec_l08Chain.l1 (mkR (run E (φ 0))) (φ 0) (φ 1) n (a,()) (b,()) im p (ofDim a k a.length) (ofDim b k b.length) (vxs a) (j : Int) a[s] o.1 i 0 0 0 p ((ofDim b k b.length).length : Int) ((ofDim a k a.length).length : Int) o.2 (chC a b im k p j)) (len := a[s].length) (fun i => (((invN (toldF a im a[s]) i : Nat) : Int),(a[s].take i).map (told (vxs a) im))) (fun _ _ _ _ _ => rfl) (fun i q hi ihi => ?_) ?_
    · simp only [spec_l08Chain.l1_succ _ mk_ok] at ihi ⊢
      have hil : ((a[s].take i).map (told (vxs a) im)).length = i := by rw [List.length_map,List.length_take]; omega
      have fi : toldF a im a[s] i = told (vxs a) im a[s][i] := by unfold toldF; rw [getD_lt hi]
      have hik := invN_le (f := toldF a im a[s]) (k := i)
      have hkk : i * i ≤ 16 := Nat.le_trans (Nat.mul_le_mul (show i ≤ 4 by omega) (show i ≤ 4 by omega)) (by omega)
      refine ev_t (decide_eq_true (by omega)) (ev_bind (idx_lt hi) (ev_call (l08Told_ret (vxs a) im _ hm.1 (Nat.le_trans hvl sa1)) ?_))
      simp only
      refine Ev.start (p := fun φ n => spec_l08Chain.l2 (mkR (run E (φ 0))) (φ 0) (φ 1) (φ 2) n (a,()) (b,()) im p (ofDim a k a.length) (ofDim b k b.length) (vxs a) (j : Int) a[s] ((invN (toldF a im a[s]) i : Nat) : Int) (i : Int) (told (vxs a) im a[s][i]) 0 0 0 0 p ((ofDim b k b.length).length : Int) ((ofDim a k a.length).length : Int) ((a[s].take i).map (told (vxs a) im)) (chC a b im k p j) = _) 3 ?_ (fun _ _ _ h => h)
      refine fold_loop 3 (L := fun φ n x o => spec_l08Chain.l2 (mkR (run E (φ 0))) (φ 0) (φ 1) (φ 2) n (a,()) (b,()) im p (ofDim a k a.length) (ofDim b k b.length) (vxs a) (j : Int) a[s] o (i : Int) (told (vxs a) im a[s][i]) x 0 0 0 p ((ofDim b k b.length).length : Int) ((ofDim a k a.length).length : Int) ((a[s].take i).map (told (vxs a) im)) (chC a b im k p j)) (len := i) (fun x => ((invN (toldF a im a[s]) i + cntN (toldF a im a[s]) (toldF a im a[s] i) x : Nat) : Int)) (fun _ _ _ _ _ => rfl) (fun x q2 hx ihx => ?_) ?_
      · simp only [spec_l08Chain.l2_succ _ mk_ok]
        have hxs : x < a[s].length := by omega
        have hcx := cntN_le (f := toldF a im a[s]) (v := toldF a im a[s] i) (x := x)
        have fx : toldF a im a[s] x = told (vxs a) im a[s][x] := by unfold toldF; rw [getD_lt hxs]
        have hget : ((a[s].take i).map (told (vxs a) im))[Int.toNat (x : Int)]? = some (told (vxs a) im a[s][x]) := by
          rw [Int.toNat_natCast,List.getElem?_map,List.getElem?_take,if_pos hx,List.getElem?_eq_getElem hxs]; rfl
        rw [hil]
        refine ev_t (decide_eq_true (by omega)) (ev_chk (by simp; omega) (ev_bind hget ?_))
        rw [w64_succ (k := x) (by omega)]
        unfold cntN at ihx
        refine ev_d (fun h => ?_) fun h => ?_
        · rw [fx,if_pos (by rw [fi]; exact h)] at ihx
          rw [w64_succ (by omega)]
          exact ihx
        · rw [fx,if_neg (by rw [fi]; exact h),Nat.add_zero] at ihx
          exact ihx
      · simp only [spec_l08Chain.l2_succ _ mk_ok]
        rw [hil]
        refine ev_f (decide_eq_false (by omega)) (ev_chk (by simp; omega) ?_)
        rw [w64_succ (by omega)]
        have e : (a[s].take (i + 1)).map (told (vxs a) im) = (a[s].take i).map (told (vxs a) im) ++ [told (vxs a) im a[s][i]] := by
          rw [List.take_succ_eq_append_getElem hi,List.map_append,List.map_singleton]
        simp only [e] at ihi
        exact ihi
    · simp only [spec_l08Chain.l1_succ _ mk_ok]
      rw [w64_succ (by omega)]
      refine ev_f (decide_eq_false (by omega)) (ev_bind (idx_lt hj) ?_)
      rw [e1]
      have h0 : 0 ≤ findI b (img (vxs a) im a[s]) := findI_nonneg.2 e5
      obtain ⟨t,ht⟩ := Int.eq_ofNat_of_zero_le h0
      obtain ⟨q,hq,eq⟩ := List.mem_iff_getElem.1 e5
      have hqt := (findI_eq hb.srt (s := img (vxs a) im a[s]) hq).2 eq.symm
      obtain rfl : q = t := by omega
      have hat := l08At_ret (a,()) (b,()) im s F.sa F.sb F.mc hs
      rw [hqt] at hat
      refine ev_call hat (ev_bind (idx_lt hq) ?_)
      rw [eq]
      refine ev_b (fun h => ?_) fun h => ?_
      · have h : ((img (vxs a) im a[s]).length : Int) = a[s].length := by simpa using h
        have h : (img (vxs a) im a[s]).length = a[s].length := by omega
        rw [c1 h] at ih
        obtain ⟨t',f0,t1,t2,t3,t4,t5,t6⟩ := e6 h
        obtain rfl : q = t' := by omega
        rw [t1,t4,show ((q : Int) - (f0 : Int)).toNat = q - f0 by omega] at ih
        have hlt := lt_rc t6 hj
        have h0' : 0 < (ofDim b k b.length).length := by omega
        have hget0 : idx? (ofDim b k b.length) (0 : Int) = some (f0 : Int) := by
          have : (ofDim b k b.length)[0] = (f0 : Int) := by rw [getD_lt h0'] at t4; exact t4
          rw [← this]; exact idx_lt (k := 0) h0'
        have ql : q ≤ 48 := Nat.le_trans (Nat.le_of_lt hq) hb.1
        have hm1 : w64 ((q : Int) - (f0 : Int)) = ((q - f0 : Nat) : Int) := by rw [w64_small (by omega) (by omega)]; omega
        have hm2 : w64 (((q - f0 : Nat) : Int) * ((ofDim a k a.length).length : Int)) = (((q - f0) * (ofDim a k a.length).length : Nat) : Int) := by
          rw [cast_mul,w64_small (by omega) (by omega)]
        have hm3 : w64 ((((q - f0) * (ofDim a k a.length).length : Nat) : Int) + (j : Int)) = (((q - f0) * (ofDim a k a.length).length + j : Nat) : Int) := by
          rw [w64_small (by omega) (by omega)]; omega
        refine ev_bind hget0 (ev_call (l07Sign_ret p (invN (toldF a im a[s]) a[s].length) F.hp) ?_)
        simp only
        rw [hm1,hm2,hm3,Int.toNat_natCast]
        exact ev_chk (by rw [chC_length]; simp; omega) ih
      · have h : ¬ ((img (vxs a) im a[s]).length : Int) = a[s].length := by simpa using h
        have h : ¬ (img (vxs a) im a[s]).length = a[s].length := by omega
        rw [c2 h] at ih
        exact ih
  · simp only [spec_l08Chain.l0_succ _ mk_ok]
    exact ev_f (decide_eq_false (by omega)) ev_rfl

/-! codes -/
def Small (a b : List Sim) (k : Int) (ar : Nat) : Prop := ∀ t : Nat,0 ≤ t → t < 2 * ar + 1 → (ofDim a (k - ar + t) a.length).length ≤ 32 ∧ (ofDim b (k - ar + t) b.length).length ≤ 32

open Classical in
noncomputable def ChC (a b : List Sim) (im : Sim) (k p : Int) (ar : Nat) : Int :=
  if Pr p then (if MC a b im = 0 then (if 0 ≤ k ∧ k ≤ 3 then (if Small a b k ar then 0 else 5) else 2) else MC a b im) else 1

theorem ChC_zero {a b : List Sim} {im : Sim} {k p : Int} {ar : Nat} (h : ChC a b im k p ar = 0) : Pr p ∧ MC a b im = 0 ∧ (0 ≤ k ∧ k ≤ 3) ∧ Small a b k ar := by
  unfold ChC at h
  by_cases h1 : Pr p
  · rw [if_pos h1] at h
    by_cases h2 : MC a b im = 0
    · rw [if_pos h2] at h
      by_cases h3 : 0 ≤ k ∧ k ≤ 3
      · rw [if_pos h3] at h
        by_cases h4 : Small a b k ar
        · exact ⟨h1,h2,h3,h4⟩
        · rw [if_neg h4] at h; exact absurd h (by decide)
      · rw [if_neg h3] at h; exact absurd h (by decide)
    · rw [if_neg h2] at h; exact absurd h h2
  · rw [if_neg h1] at h; exact absurd h (by decide)

theorem chainMapped_ret (a b : List Sim) (im : Sim) (k p : Int) (ar : Nat) (har : ar ≤ 1) (sa : Sm yK a) (sb : Sm yK b) :
    Ret E n_impl_chainMapped [dLL a,dLL b,dL im,dI k,dI p,dI (ar : Int)] ⟨o_impl_chainMapped,(ChC a b im k p ar,())⟩ := by
  refine ret_of ?_
  simp only [run_impl_chainMapped,impl_chainMapped.ev]
  unfold ChC
  refine ev_call (ValidPrime_ret p) ?_
  by_cases h1 : Pr p
  · rw [if_pos h1]
    refine ev_f (by rw [pb_true h1]; rfl) (ev_call (mapped_ret a b im sa sb) ?_)
    by_cases h2 : MC a b im = 0
    · rw [if_pos h2]
      refine ev_f (by simp [h2]) (ev_call (isDimension_ret k) ?_)
      by_cases h3 : 0 ≤ k ∧ k ≤ 3
      · rw [if_pos h3]
        refine ev_f (by rw [pb_true h3]; rfl) ?_
        rw [w64_small (by omega) (by omega)]
        have e0 : k - (ar : Int) = k - ar + ((0 : Nat) : Int) := by omega
        refine Ev.start (p := fun φ n => impl_chainMapped.l0 (mkR (run E (φ 0))) (φ 0) n k (ar : Int) (k - ar) a b = _) 1 ?_ (fun _ _ _ h => h)
        have key := all_pb 1 (L := fun φ n t => impl_chainMapped.l0 (mkR (run E (φ 0))) (φ 0) n k (ar : Int) (k - ar + t) a b) (len := 2 * ar + 1) 0 (by omega) (fun t => (ofDim a (k - ar + t) a.length).length ≤ 32 ∧ (ofDim b (k - ar + t) b.length).length ≤ 32) (fun q => some ⟨o_impl_chainMapped,((bif q then 0 else 5),())⟩) (fun _ _ _ _ => rfl) (fun t _ ht hP _ => by
          simp only [impl_chainMapped.l0_succ _ mk_ok]
          rw [w64_small (n := k + ar) (by omega) (by omega)]
          refine ev_t (decide_eq_true (by omega)) (ev_call (simplicesOf_ret a _ sa (by omega)) (ev_d (fun h => ?_) fun h => ?_))
          · simp only [impl_chainMapped.j1_eq _ mk_ok]
            exact ev_t rfl ev_rfl
          · refine ev_call (simplicesOf_ret b _ sb (by omega)) ?_
            simp only [impl_chainMapped.j1_eq _ mk_ok]
            exact ev_t (decide_eq_true (Classical.byContradiction fun h' => hP ⟨by first | omega | (simp only at h; omega),by first | omega | (simp only at h'; omega)⟩)) ev_rfl) (fun t r _ ht hP _ ih => by
          simp only [impl_chainMapped.l0_succ _ mk_ok]
          rw [w64_small (n := k + ar) (by omega) (by omega)]
          refine ev_t (decide_eq_true (by omega)) (ev_call (simplicesOf_ret a _ sa (by omega)) (ev_f (decide_eq_false (by have := hP.1; first | omega | (simp only; omega))) (ev_call (simplicesOf_ret b _ sb (by omega)) ?_)))
          simp only [impl_chainMapped.j1_eq _ mk_ok]
          refine ev_f (decide_eq_false (by have := hP.2; first | omega | (simp only; omega))) ?_
          rw [w64_small (by omega) (by omega),show k - ar + t + 1 = k - ar + ((t + 1 : Nat) : Int) by omega]
          exact ih) (fun _ => by
          simp only [impl_chainMapped.l0_succ _ mk_ok]
          rw [w64_small (n := k + ar) (by omega) (by omega)]
          exact ev_f (decide_eq_false (by omega)) ev_rfl)
        rw [← e0] at key
        refine key.to ?_
        by_cases h4 : Small a b k ar
        · rw [if_pos h4]
          unfold Small at h4
          rw [pb_true h4]; rfl
        · rw [if_neg h4]
          unfold Small at h4
          rw [pb_false h4]; rfl
      · rw [if_neg h3]
        exact ev_t (by rw [pb_false h3]; rfl) ev_rfl
    · rw [if_neg h2]
      exact ev_t (by simpa using h2) ev_rfl
  · rw [if_neg h1]
    exact ev_t (by rw [pb_false h1]; rfl) ev_rfl

theorem ChF.of {a b : Cpx} {im : Sim} {k p : Int} {ar : Nat} (sa : Sm (.st cC) a) (sb : Sm (.st cC) b) (h : ChC a.1 b.1 im k p ar = 0) : ChF a.1 b.1 im k p := by
  obtain ⟨h1,h2,h3,h4⟩ := ChC_zero h
  have := h4 ar (by omega) (by omega)
  rw [show k - (ar : Int) + (ar : Int) = k by omega] at this
  exact ⟨sa.1,sb.1,h2,h3,⟨h1.1,h1.2.1⟩,this.1,this.2⟩

open Classical in
noncomputable def ChainMapV (a b : Cpx) (im : Sim) (k p : Int) : Int × Int × Int × List Int × Int × Unit :=
  if ChC a.1 b.1 im k p 0 = 0 then (p,((ofDim b.1 k b.1.length).length : Int),((ofDim a.1 k a.1.length).length : Int),chC a.1 b.1 im k p (ofDim a.1 k a.1.length).length,0,()) else (0,0,0,[],ChC a.1 b.1 im k p 0,())

theorem implChainMap_ret (a b : Cpx) (im : Sim) (k p : Int) (sa : Sm (.st cC) a) (sb : Sm (.st cC) b) (si : Sm yL im) : Ret E n_impl_ChainMap [dLL a.1,dLL b.1,dL im,dI k,dI p] ⟨o_impl_ChainMap,ChainMapV a b im k p⟩ := by
  refine ret_of ?_
  simp only [run_impl_ChainMap,impl_ChainMap.ev]
  unfold ChainMapV
  refine ev_call (chainMapped_ret a.1 b.1 im k p 0 (by omega) sa.1 sb.1) ?_
  by_cases h : ChC a.1 b.1 im k p 0 = 0
  · rw [if_pos h]
    exact ev_f (by simp [h]) (ev_call (chainMap_ret a.1 b.1 im k p (ChF.of sa sb h)) ev_rfl)
  · rw [if_neg h]
    exact ev_t (by simpa using h) ev_rfl

theorem specChainMap_ret (a b : Cpx) (im : Sim) (k p : Int) (sa : Sm (.st cC) a) (sb : Sm (.st cC) b) (si : Sm yL im) : Ret E n_spec_ChainMap [dLL a.1,dLL b.1,dL im,dI k,dI p] ⟨o_spec_ChainMap,ChainMapV a b im k p⟩ := by
  have jj : ∀ (code : Int) (h0 : code ≠ 0) ,ChC a.1 b.1 im k p 0 = code → Ev fun φ => spec_ChainMap.j3 (mkR (run E (φ 0))) (φ 0) im k p code a.1 b.1 0 0 0 = some ⟨o_spec_ChainMap,ChainMapV a b im k p⟩ := fun code h0 hc => by
    unfold ChainMapV
    rw [if_neg (by rw [hc]; exact h0),hc]
    simp only [spec_ChainMap.j3_eq _ mk_ok]
    exact ev_t (by simpa using h0) ev_rfl
  refine ret_of ?_
  simp only [run_spec_ChainMap,spec_ChainMap.ev]
  refine ev_call (l02Prime_ret p) ?_
  by_cases h1 : Pr p
  · refine ev_f (by rw [pb_true h1]; rfl) (ev_call (l08Ask_ret (a.1,()) (b.1,()) im sa.1 sb.1 si.1) ?_)
    by_cases h2 : MC a.1 b.1 im = 0
    · refine ev_t (by simp [h2]) (ev_call (l05Dimension_ret k) ?_)
      simp only [spec_ChainMap.j0_eq _ mk_ok]
      by_cases h3 : 0 ≤ k ∧ k ≤ 3
      · refine ev_f (by rw [pb_true h3]; rfl) ?_
        simp only [spec_ChainMap.j1_eq _ mk_ok]
        refine ev_t (by simp [h2]) (ev_call (l05Of_ret a.1 k sa.1 (by omega)) ?_)
        have hsm : Small a.1 b.1 k 0 ↔ (ofDim a.1 k a.1.length).length ≤ 32 ∧ (ofDim b.1 k b.1.length).length ≤ 32 := by
          unfold Small
          constructor
          · intro h
            have := h 0 (by omega) (by omega)
            simpa using this
          · intro h t h1 h2
            obtain rfl : t = 0 := by omega
            simpa using h
        by_cases h4 : (ofDim a.1 k a.1.length).length ≤ 32
        · refine ev_f (decide_eq_false (by first | omega | (simp only; omega))) (ev_call (l05Of_ret b.1 k sb.1 (by omega)) ?_)
          simp only [spec_ChainMap.j2_eq _ mk_ok]
          by_cases h5 : (ofDim b.1 k b.1.length).length ≤ 32
          · have hc : ChC a.1 b.1 im k p 0 = 0 := by unfold ChC; rw [if_pos h1,if_pos h2,if_pos h3,if_pos (hsm.2 ⟨h4,h5⟩)]
            refine ev_f (decide_eq_false (by first | omega | (simp only; omega))) ?_
            simp only [spec_ChainMap.j3_eq _ mk_ok]
            unfold ChainMapV
            rw [if_pos hc]
            exact ev_f (by simp [h2]) (ev_call (l08Chain_ret a.1 b.1 im k p (ChF.of sa sb hc)) ev_rfl)
          · refine ev_t (decide_eq_true (by first | omega | (simp only; omega))) (jj 5 (by decide) ?_)
            unfold ChC; rw [if_pos h1,if_pos h2,if_pos h3,if_neg fun h => h5 (hsm.1 h).2]
        · refine ev_t (decide_eq_true (by first | omega | (simp only; omega))) ?_
          simp only [spec_ChainMap.j2_eq _ mk_ok]
          refine ev_t rfl (jj 5 (by decide) ?_)
          unfold ChC; rw [if_pos h1,if_pos h2,if_pos h3,if_neg fun h => h4 (hsm.1 h).1]
      · refine ev_t (by rw [pb_false h3]; rfl) ?_
        simp only [spec_ChainMap.j1_eq _ mk_ok]
        refine ev_f rfl ?_
        simp only [spec_ChainMap.j2_eq _ mk_ok]
        refine ev_f rfl (jj 2 (by decide) ?_)
        unfold ChC; rw [if_pos h1,if_pos h2,if_neg h3]
    · refine ev_f (by simpa using h2) ?_
      simp only [spec_ChainMap.j0_eq _ mk_ok]
      refine ev_f rfl ?_
      simp only [spec_ChainMap.j1_eq _ mk_ok]
      refine ev_f (by simpa using h2) ?_
      simp only [spec_ChainMap.j2_eq _ mk_ok]
      refine ev_f rfl (jj _ h2 ?_)
      unfold ChC; rw [if_pos h1,if_neg h2]
  · refine ev_t (by rw [pb_false h1]; rfl) ?_
    unfold ChainMapV
    have hc : ChC a.1 b.1 im k p 0 = 1 := by unfold ChC; rw [if_neg h1]
    rw [if_neg (by rw [hc]; decide),hc]
    exact ev_rfl

theorem ChainMapV_sm (a b : Cpx) (im : Sim) (k p : Int) (sa : Sm (.st cC) a) (sb : Sm (.st cC) b) (si : Sm yL im) : Sm (.st cM) ((ChainMapV a b im k p).1,(ChainMapV a b im k p).2.1,(ChainMapV a b im k p).2.2.1,(ChainMapV a b im k p).2.2.2.1,()) := by
  unfold ChainMapV
  split
  · rename_i h
    have F := ChF.of sa sb h
    have := rc_le F.lb F.la
    exact ⟨trivial,trivial,trivial,sm_ints (by simp only; rw [chC_length]; omega),trivial⟩
  · exact ⟨trivial,trivial,trivial,sm_ints (by simp),trivial⟩

end VeT

open Go Go.Proofs Ve
set_option linter.unusedVariables false
set_option linter.unusedSimpArgs false
namespace VeT

/-! marks: what the laws write over arguments and results -/
def mkL (k : Int) (n : Nat) : Sim := (List.range n).map fun (i : Nat) => k + (i : Int)

theorem mkL_length {k : Int} {n : Nat} : (mkL k n).length = n := by simp [mkL]

theorem mkL_get {k : Int} {n i : Nat} (h : i < (mkL k n).length) : (mkL k n)[i] = k + i := by simp [mkL]

theorem markInt64S_ret (s : Sim) (k : Int) (hk : 0 ≤ k ∧ k ≤ 4611686018427387904) (hs : s.length ≤ 1048576) : Ret E n_laws_markInt64S [dL s,dI k] ⟨o_laws_markInt64S,(k + s.length,mkL k s.length,())⟩ := by
  refine ret_of ?_
  simp only [run_laws_markInt64S,laws_markInt64S.ev]
  refine Ev.start (p := fun φ n => laws_markInt64S.l0 (mkR (run E (φ 0))) (φ 0) n k 0 s = _) 1 ?_ (fun _ _ _ h => h)
  have hl : ∀ j,j ≤ s.length → (mkL k j ++ s.drop j).length = s.length := fun j hj => by rw [List.length_append,mkL_length,List.length_drop]; omega
  have := fold_loop 1 (L := fun φ n j (a : Int × Sim) => laws_markInt64S.l0 (mkR (run E (φ 0))) (φ 0) n a.1 j a.2) (len := s.length) (fun j => (k + (j : Int),mkL k j ++ s.drop j)) (r := some ⟨o_laws_markInt64S,(k + s.length,mkL k s.length,())⟩) (fun _ _ _ _ _ => rfl) (fun j r hj ih => ?_) ?_
  · simpa [mkL] using this
  · simp only [laws_markInt64S.l0_succ _ mk_ok,hl j (by omega)]
    refine ev_t (decide_eq_true (by omega)) (ev_chk (by simp; omega) ?_)
    rw [w64_succ (by omega),w64_small (by omega) (by omega),Int.toNat_natCast]
    have e : (mkL k j ++ s.drop j).set j (k + j) = mkL k (j + 1) ++ s.drop (j + 1) := by
      rw [List.drop_eq_getElem_cons hj,List.set_append_right _ _ (by rw [mkL_length]; omega),mkL_length,Nat.sub_self,List.set_cons_zero]
      unfold mkL
      rw [List.range_succ,List.map_append,List.append_assoc]; rfl
    rw [e,show k + (j : Int) + 1 = k + ((j + 1 : Nat) : Int) by omega]
    exact ih
  · simp only [laws_markInt64S.l0_succ _ mk_ok,hl s.length (Nat.le_refl _)]
    refine ev_f (decide_eq_false (by omega)) (ev_some ?_)
    simp

theorem heldInt64S_ret (k : Int) (n : Nat) (hk : 0 ≤ k ∧ k ≤ 4611686018427387904) (hn : n ≤ 1048576) : Ret E n_laws_heldInt64S [dL (mkL k n),dI k] ⟨o_laws_heldInt64S,(k + n,())⟩ := by
  refine ret_of ?_
  simp only [run_laws_heldInt64S,laws_heldInt64S.ev]
  refine Ev.start (p := fun φ m => laws_heldInt64S.l0 (mkR (run E (φ 0))) (φ 0) m (mkL k n) k 0 = _) 1 ?_ (fun _ _ _ h => h)
  have := fold_loop 1 (L := fun φ m j a => laws_heldInt64S.l0 (mkR (run E (φ 0))) (φ 0) m (mkL k n) a j) (len := n) (fun j => k + (j : Int)) (r := some ⟨o_laws_heldInt64S,(k + n,())⟩) (fun _ _ _ _ _ => rfl) (fun j r hj ih => ?_) ?_
  · simpa using this
  · simp only [laws_heldInt64S.l0_succ _ mk_ok,mkL_length]
    have hj' : j < (mkL k n).length := by rw [mkL_length]; exact hj
    refine ev_t (decide_eq_true (by omega)) (ev_bind (idx_lt hj') (ev_f (by simp [mkL_get hj']) ?_))
    rw [w64_succ (by omega),w64_small (by omega) (by omega),show k + (j : Int) + 1 = k + ((j + 1 : Nat) : Int) by omega]
    exact ih
  · simp only [laws_heldInt64S.l0_succ _ mk_ok,mkL_length]
    exact ev_f (decide_eq_false (by omega)) ev_rfl

def mkLL : List Sim → Int → List Sim
  | [],_ => []
  | x :: xs,k => mkL k x.length :: mkLL xs (k + x.length)
def mkN : List Sim → Int → Int
  | [],k => k
  | x :: xs,k => mkN xs (k + x.length)

theorem mkN_ge : ∀ {xs : List Sim} {k : Int},(∀ x ∈ xs,x.length ≤ 1048576) → k ≤ mkN xs k ∧ mkN xs k ≤ k + 1048576 * xs.length
  | [],k,_ => by simp [mkN]
  | x :: xs,k,h => by
    have h1 := mkN_ge (xs := xs) (k := k + x.length) fun y hy => h y (List.mem_cons_of_mem _ hy)
    have h2 := h x List.mem_cons_self
    simp only [mkN,List.length_cons]; omega

theorem markRows_evt : ∀ (xs : List Sim) (k : Int),0 ≤ k → k + 1048576 * xs.length ≤ 4611686018427387904 → (∀ x ∈ xs,x.length ≤ 1048576) → Evt fun n => markRows n_laws_markInt64S (mkR (run E n)) xs k = some (mkN xs k,mkLL xs k)
  | [],k,_,_,_ => Evt.of fun _ => rfl
  | x :: xs,k,h0,hb,hx => by
    have h2 := hx x List.mem_cons_self
    simp only [List.length_cons] at hb
    have h3 := markRows_evt xs (k + x.length) (by omega) (by omega) fun y hy => hx y (List.mem_cons_of_mem _ hy)
    have h4 := markInt64S_ret x k (by omega) h2
    refine (h4.and h3).mono fun n ⟨a,b⟩ => ?_
    have a' : callT (mkR (run E n)) n_laws_markInt64S oM [⟨tL,x⟩,⟨tI,k⟩] = some (k + x.length,mkL k x.length,()) := callT_of a
    simp only [markRows,a',Option.bind_some,b,Option.map_some,mkN,mkLL]

theorem run_markSS (n : Nat) (args : List Dv) : run E (n + 1) n_laws_markInt64SS args = pMarkSS n_laws_markInt64S (mkR (run E n)) args := rfl

theorem markInt64SS_ret (xs : List Sim) (k : Int) (hk : 0 ≤ k ∧ k ≤ 1125899906842624) (hs : Sm yK xs) : Ret E n_laws_markInt64SS [dLL xs,dI k] ⟨o_laws_markInt64SS,(mkN xs k,mkLL xs k,())⟩ := by
  have hs1 : xs.length ≤ 1048576 := hs.1
  refine Evt.succ ((markRows_evt xs k hk.1 (by omega) fun x hx => (hs.2 x hx).1).mono fun n h => ?_)
  rw [run_markSS]
  show ((markRows n_laws_markInt64S (mkR (run E n)) xs k).map fun q => (⟨.cons tI (.cons (.sl tL) .nil),(q.1,q.2,())⟩ : Dv)) = _
  rw [h]; rfl

end VeT

open Go Go.Proofs Ve
set_option linter.unusedVariables false
set_option linter.unusedSimpArgs false
namespace VeT

theorem markMatrix_ret (x : MatT) (k : Int) (hk : 0 ≤ k ∧ k ≤ 4398046511104) (hs : x.2.2.2.1.length ≤ 1048576) : Ret E n_laws_markMatrix [dI x.1,dI x.2.1,dI x.2.2.1,dL x.2.2.2.1,dI k] ⟨o_laws_markMatrix,(k + x.2.2.2.1.length,mkL k x.2.2.2.1.length,())⟩ := by
  refine ret_of ?_
  simp only [run_laws_markMatrix,laws_markMatrix.ev]
  exact ev_call (markInt64S_ret _ k (by omega) hs) ev_rfl

theorem heldMatrix_ret (p r c k : Int) (n : Nat) (hk : 0 ≤ k ∧ k ≤ 4398046511104) (hn : n ≤ 1048576) : Ret E n_laws_heldMatrix [dI p,dI r,dI c,dL (mkL k n),dI k] ⟨o_laws_heldMatrix,(k + n,())⟩ := by
  refine ret_of ?_
  simp only [run_laws_heldMatrix,laws_heldMatrix.ev]
  exact ev_call (heldInt64S_ret k n (by omega) hn) (ev_f (decide_eq_false (Int.not_lt.2 (by show 0 ≤ k + (n : Int); omega))) ev_rfl)

theorem markComplexP_ret (xs : List Sim) (k : Int) (hk : 0 ≤ k ∧ k ≤ 1125899906842624) (hs : Sm yK xs) : Ret E n_laws_markComplex [dLL xs,dI k] ⟨o_laws_markComplex,(mkN xs k,mkLL xs k,())⟩ := by
  refine ret_of ?_
  simp only [run_laws_markComplex,laws_markComplex.ev]
  exact ev_call (markInt64SS_ret xs k hk hs) ev_rfl

end VeT

open Go Go.Proofs Ve
set_option linter.unusedVariables false
set_option linter.unusedSimpArgs false
namespace VeT

theorem law_ChainMap (x0 : Cpx) (x1 : Cpx) (x2 : Sim) (x3 : Int) (x4 : Int) (w0 : Wf (.st cC) x0) (w1 : Wf (.st cC) x1) (w2 : Wf yL x2) : Ret E n_laws_FnExactChainMap [dLL x0.1,dLL x1.1,dL x2,dI x3,dI x4] ⟨.cons .bool .nil,(true,())⟩ := by
  refine ret_of ?_
  simp only [run_laws_FnExactChainMap,laws_FnExactChainMap.ev]
  refine ev_d (fun _ => ev_rfl) fun l2 => ?_
  have m2 : Sm yL x2 := ⟨by omega,fun _ _ => trivial⟩
  obtain ⟨r0,hs0,s0⟩ := szComplex_ret x0 1048576 w0 (by omega) (by omega)
  refine ev_call hs0 (ev_d (fun _ => ev_rfl) fun n0 => ?_)
  have n0 := Int.not_lt.1 n0
  obtain ⟨b0,m0⟩ := s0 n0
  obtain ⟨r1,hs1,s1⟩ := szComplex_ret x1 r0 w1 (by omega) (by omega)
  refine ev_call hs1 (ev_d (fun _ => ev_rfl) fun n1 => ?_)
  have n1 := Int.not_lt.1 n1
  obtain ⟨b1,m1⟩ := s1 n1
  have hi := implChainMap_ret x0 x1 x2 x3 x4 m0 m1 m2
  have hsp := specChainMap_ret x0 x1 x2 x3 x4 m0 m1 m2
  have hsm := ChainMapV_sm x0 x1 x2 x3 x4 m0 m1 m2
  generalize ChainMapV x0 x1 x2 x3 x4 = V at hi hsp hsm
  obtain ⟨v0_0,v0_1,v0_2,v0_3,v1,⟨⟩⟩ := V
  have z0 : Sm (.st cM) (v0_0,v0_1,v0_2,v0_3,()) := hsm
  obtain ⟨qr0,hqr0,eqr0⟩ := eqMatrix_ret (v0_0,v0_1,v0_2,v0_3,()) (v0_0,v0_1,v0_2,v0_3,()) z0
  obtain rfl : qr0 = true := eqr0.2 rfl
  have to0 := toComplex_ret x0 m0
  obtain ⟨q0,hq0,eq0⟩ := eqComplex_ret x0 x0 m0
  obtain rfl : q0 = true := eq0.2 rfl
  have to1 := toComplex_ret x1 m1
  obtain ⟨q1,hq1,eq1⟩ := eqComplex_ret x1 x1 m1
  obtain rfl : q1 = true := eq1.2 rfl
  have to2 := toInt64S_ret x2 m2
  obtain ⟨q2,hq2,eq2⟩ := eqInt64S_ret x2 x2 m2
  obtain rfl : q2 = true := eq2.2 rfl
  have hm0 := markComplexP_ret x0.1 (1) (by omega) m0.1
  have hmb0 := mkN_ge (xs := x0.1) (k := 1) fun y hy => (m0.1.2 y hy).1
  have hml0 : x0.1.length ≤ 1048576 := m0.1.1
  have hm1 := markComplexP_ret x1.1 (mkN x0.1 (1)) (by omega) m1.1
  have hmb1 := mkN_ge (xs := x1.1) (k := mkN x0.1 (1)) fun y hy => (m1.1.2 y hy).1
  have hml1 : x1.1.length ≤ 1048576 := m1.1.1
  have hm2 := markInt64S_ret x2 (mkN x1.1 (mkN x0.1 (1))) (by omega) m2.1
  have hk : ¬ (mkN x1.1 (mkN x0.1 (1)) + (x2.length : Int) < 0) := by omega
  have mr0 := markMatrix_ret (v0_0,v0_1,v0_2,v0_3,()) (1) (by omega) z0.2.2.2.1.1
  have hl0 := heldMatrix_ret v0_0 v0_1 v0_2 (1) v0_3.length (by omega) z0.2.2.2.1.1
  have he0 : ¬ (1 + (v0_3.length : Int) < 0) := by omega
  repeat (first | with_reducible exact ev_rfl | with_reducible refine ev_call hqr0 ?_ | with_reducible refine ev_call to0 ?_ | with_reducible refine ev_call hq0 ?_ | with_reducible refine ev_call to1 ?_ | with_reducible refine ev_call hq1 ?_ | with_reducible refine ev_call to2 ?_ | with_reducible refine ev_call hq2 ?_ | with_reducible refine ev_call hi ?_ | with_reducible refine ev_call hsp ?_ | with_reducible refine ev_call hm0 ?_ | with_reducible refine ev_call hm1 ?_ | with_reducible refine ev_call hm2 ?_ | with_reducible refine ev_call mr0 ?_ | with_reducible refine ev_call hl0 ?_ | with_reducible refine ev_both ?_ ?_ | with_reducible refine ev_f (by first | rfl | exact bne_self_eq_false _ | exact decide_eq_false hk | exact decide_eq_false he0 | (simp; done)) ?_ | simp only [bne_self_eq_false,laws_FnExactChainMap.j0_eq _ mk_ok,laws_FnExactChainMap.j1_eq _ mk_ok,laws_FnExactChainMap.j2_eq _ mk_ok,laws_FnExactChainMap.j3_eq _ mk_ok,laws_FnExactChainMap.j4_eq _ mk_ok,cond_false])

theorem rowChainMap (z : ((.cons yK (.cons yK (.cons yL (.cons yI (.cons yI .nil))))) : Ty).T)
    (h : Wf (.cons yK (.cons yK (.cons yL (.cons yI (.cons yI .nil))))) z) :
    Evt fun n => run E n n_laws_FnExactChainMap (unpack _ z) = some ⟨.cons .bool .nil,(true,())⟩ :=
  law_ChainMap (z.1,()) (z.2.1,()) z.2.2.1 z.2.2.2.1 z.2.2.2.2.1 ⟨h.1,trivial⟩ ⟨h.2.1,trivial⟩ h.2.2.1

end VeT
