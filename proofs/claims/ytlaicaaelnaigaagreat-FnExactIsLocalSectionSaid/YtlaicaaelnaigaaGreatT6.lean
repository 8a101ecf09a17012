import Derived.Test.YtlaicaaelnaigaaGreatT5
import Derived.Test.YtlaicaaelnaigaaGreatT4
set_option linter.unusedVariables false
set_option linter.unusedSimpArgs false
open Go Go.Proofs Ve
set_option linter.unusedVariables false
set_option linter.unusedSimpArgs false
namespace VeT

/-! conflicts -/
/-- the place as a number -/
def wN (w : Sim) (i : Nat) : Nat := (w.getD i 0).toNat

theorem Plcs.wN {c : List Sim} {w : Sim} (h : Plcs c w) {i : Nat} (hi : i < w.length) : w[i]? = some ((wN w i : Nat) : Int) ∧ wN w i < c.length := by
  obtain ⟨n, hn, hl⟩ := h.get hi
  have e : VeT.wN w i = n := by unfold VeT.wN; rw [getD_lt hi, hn, Int.toNat_natCast]
  rw [e, List.getElem?_eq_getElem hi, hn]
  exact ⟨rfl, hl⟩

theorem Plcs.wN_lt {c : List Sim} {w : Sim} (h : Plcs c w) {i j : Nat} (hj : j < w.length) (hij : i < j) : VeT.wN w i < VeT.wN w j := by
  have hi : i < w.length := by omega
  have := h.1.lt hj hij
  have h0 := (h.2 _ (List.getElem_mem hi)).1
  unfold VeT.wN
  rw [getD_lt hi, getD_lt hj]
  omega

/-- the column of a place -/
def colV (st w v : Sim) (i : Nat) : Sim := (v.take (off st w i + st.getD (wN w i) 0).toNat).drop (off st w i).toNat

/-- the image at b of the column at a -/
noncomputable def imgV (x : Shf) (w v : Sim) (b a : Nat) : Sim := appV (restX x (wN w a) (wN w b)) (colV x.2.2.1 w v a) (x.2.2.1.getD (wN w b) 0).toNat

def Cf (x : Shf) (w v : Sim) (b a : Nat) : Prop := Part (x.1.getD (wN w a) []) (x.1.getD (wN w b) []) ∧ imgV x w v b a ≠ colV x.2.2.1 w v b

def CfB (x : Shf) (w v : Sim) (b : Nat) : Prop := ∃ a, 0 ≤ a ∧ a < 0 + b ∧ Cf x w v b a

noncomputable def confI (x : Shf) (w v : Sim) (out : Nat → Nat → Option Dv) (b : Nat) (rn : Option Dv) : Option Dv := orN (fun a => out a b) rn (firstN (Cf x w v b) 0 b)
noncomputable def confR (x : Shf) (w v : Sim) (out : Nat → Nat → Option Dv) (rn : Option Dv) : Option Dv := orN (fun b => confI x w v out b none) rn (firstN (CfB x w v) 0 w.length)

theorem confI_hit {x w v b} {out : Nat → Nat → Option Dv} {rn rn' : Option Dv} (h : CfB x w v b) : confI x w v out b rn = confI x w v out b rn' := by
  obtain ⟨j, hj⟩ := firstN_ex h
  unfold confI; rw [hj]; rfl

theorem confI_go {x w v b} {out : Nat → Nat → Option Dv} {rn : Option Dv} (h : ¬ CfB x w v b) : confI x w v out b rn = rn := by
  unfold confI
  cases hf : firstN (Cf x w v b) 0 b with
  | none => rfl
  | some a =>
    have := firstN_some hf
    exact absurd ⟨a, this⟩ h

/-- the first conflict -/
noncomputable def confV (x : Shf) (w v : Sim) : Option (Nat × Nat) :=
  match firstN (CfB x w v) 0 w.length with
  | some b => (firstN (Cf x w v b) 0 b).map fun a => (a, b)
  | none => none

theorem confV_some {x w v a b} (h : confV x w v = some (a, b)) : a < b ∧ b < w.length ∧ ∀ out rn, confR x w v out rn = out a b := by
  unfold confV at h
  cases hb : firstN (CfB x w v) 0 w.length with
  | none => rw [hb] at h; cases h
  | some b' =>
    rw [hb] at h
    simp only at h
    cases ha : firstN (Cf x w v b') 0 b' with
    | none => rw [ha] at h; cases h
    | some a' =>
      rw [ha] at h
      have e := Option.some.inj h
      obtain ⟨rfl, rfl⟩ := Prod.mk.inj e
      have h1 := firstN_some hb
      have h2 := firstN_some ha
      refine ⟨by omega, by omega, fun out rn => ?_⟩
      unfold confR
      rw [hb]
      show confI x w v out b' none = _
      unfold confI
      rw [ha]; rfl

theorem confV_none {x w v} (h : confV x w v = none) : ∀ out rn, confR x w v out rn = rn := by
  intro out rn
  unfold confV at h
  cases hb : firstN (CfB x w v) 0 w.length with
  | none => unfold confR; rw [hb]; rfl
  | some b' =>
    rw [hb] at h
    simp only at h
    have h1 := firstN_some hb
    obtain ⟨a, ha⟩ := firstN_ex h1.2.2
    rw [ha] at h; cases h

/-- what a step of the search needs -/
structure CfS (x : Shf) (w v : Sim) (b a : Nat) : Prop where
  hs : ISh x
  hp : Plcs x.1 w
  hd : Dat x w v
  hb : b < w.length
  ha : a < b
  pt : Part (x.1.getD (wN w a) []) (x.1.getD (wN w b) [])

theorem col_facts {x : Shf} {w v : Sim} (hs : ISh x) (hp : Plcs x.1 w) (hd : Dat x w v) {i : Nat} (hi : i < w.length) : 0 ≤ off x.2.2.1 w i ∧ off x.2.2.1 w i ≤ off x.2.2.1 w i + x.2.2.1.getD (wN w i) 0 ∧ off x.2.2.1 w i + x.2.2.1.getD (wN w i) 0 ≤ v.length ∧ wN w i < x.2.2.1.length ∧ x.2.2.1.getD (wN w i) 0 ≤ 3 := by
  have hst := hs.1.2.2.1.2.1
  have h1 := hp.wN hi
  have h2 := st_nn hst (wN w i)
  have h3 := off_in (w := w) hst (n := i)
  have hw : w[i] = ((wN w i : Nat) : Int) := by have := h1.1; rw [List.getElem?_eq_getElem hi] at this; exact Option.some.inj this
  have h4 := off_mono (w := w) hst (show i + 1 ≤ w.length by omega)
  rw [off_succ hi hw, ← hd.2] at h4
  exact ⟨h3.1, by omega, h4, by rw [hs.1.2.2.1.1]; exact h1.2, by omega⟩

theorem colV_length {x : Shf} {w v : Sim} (hs : ISh x) (hp : Plcs x.1 w) (hd : Dat x w v) {i : Nat} (hi : i < w.length) : ((colV x.2.2.1 w v i).length : Int) = x.2.2.1.getD (wN w i) 0 := by
  obtain ⟨h1, h2, h3, _⟩ := col_facts hs hp hd hi
  unfold colV
  rw [List.length_drop, List.length_take]; omega

theorem conflict_1_ret (x : Shf) (w v : Sim) (i : Nat) (hi : i < w.length) (hs : ISh x) (hp : Plcs x.1 w) (hd : Dat x w v) (hv : v.length ≤ 1048576) :
    Ret E n_impl_conflict_1 [dI (i : Int), ⟨.ptr (.cons (.sl (.int .i64)) .nil), (v, ())⟩, ⟨.ptr (.cons (.sl (.int .i64)) .nil), (starts x.2.2.1 w w.length, ())⟩, dS x, ⟨.ptr (.cons (.sl (.int .i64)) .nil), (w, ())⟩] ⟨o_impl_conflict_1, (colV x.2.2.1 w v i, ())⟩ := by
  obtain ⟨h1, h2, h3, h4, h5⟩ := col_facts hs hp hd hi
  have hg := (hp.wN hi).1
  have hsg : (starts x.2.2.1 w w.length)[i]? = some (off x.2.2.1 w i) := by
    unfold starts; rw [List.getElem?_map, List.getElem?_range hi]; rfl
  have e : w64 (off x.2.2.1 w i + x.2.2.1.getD (wN w i) 0) = off x.2.2.1 w i + x.2.2.1.getD (wN w i) 0 := w64_small (by omega) (by omega)
  rw [getD_lt h4] at e h2 h3
  refine ret_of ?_
  simp only [run_impl_conflict_1, impl_conflict_1.ev]
  refine ev_bind (idx_nat.trans hsg) (ev_bind (idx_nat.trans hsg) (ev_bind (idx_nat.trans hg) (ev_bind (idx_lt h4) ?_)))
  simp only [e]
  refine ev_chk (by simp only [Bool.and_eq_true, decide_eq_true_eq]; exact ⟨⟨h1, h2⟩, h3⟩) (ev_some ?_)
  rw [colV, getD_lt h4]

theorem CfS.img {x : Shf} {w v : Sim} {b a : Nat} (h : CfS x w v b a) (hx : Sm (.st cS) x) :
    Ret E n_impl_restriction [dLL x.1, dI x.2.1, dL x.2.2.1, dMs x.2.2.2.1, dI ((wN w a : Nat) : Int), dI ((wN w b : Nat) : Int)] ⟨o_impl_restriction, restX x (wN w a) (wN w b)⟩ ∧
    Ret E n_spec_l09Restrict [dS x, dI ((wN w a : Nat) : Int), dI ((wN w b : Nat) : Int)] ⟨o_spec_l09Restrict, restX x (wN w a) (wN w b)⟩ ∧
    Ret E n_impl_apply [dI (restX x (wN w a) (wN w b)).1, dI (restX x (wN w a) (wN w b)).2.1, dI (restX x (wN w a) (wN w b)).2.2.1, dL (restX x (wN w a) (wN w b)).2.2.2.1, dL (colV x.2.2.1 w v a)] ⟨o_impl_apply, (imgV x w v b a, ())⟩ ∧
    Ret E n_spec_l03Apply [dM (restX x (wN w a) (wN w b)), dL (colV x.2.2.1 w v a)] ⟨o_spec_l03Apply, (imgV x w v b a, ())⟩ := by
  have ha : a < w.length := by have := h.ha; have := h.hb; omega
  have hst := h.hs.1.2.2.1.2.1
  have hp2 : 2 ≤ x.2.1 ∧ x.2.1 ≤ 251 := ⟨h.hs.1.2.1.1, h.hs.1.2.1.2.1⟩
  obtain ⟨⟨hVM, hR⟩, r1, r2⟩ := rest_ret x.1 x.2.1 x.2.2.1 x.2.2.2.1 hx.1 h.hs.1 (wN w a) (h.hp.wN ha).2 _ (wN w b) (h.hp.wN h.hb).2 (Nat.le_refl _) h.pt
  have hc : (restX x (wN w a) (wN w b)).2.2.1 ≤ (colV x.2.2.1 w v a).length := by
    unfold restX; rw [restV_cols hst, colV_length h.hs h.hp h.hd ha]; exact Int.le_refl _
  have he : ∀ y ∈ colV x.2.2.1 w v a, 0 ≤ y ∧ y ≤ 250 := fun y hy => h.hd.1.mem hp2 y (List.mem_of_mem_take (List.mem_of_mem_drop hy))
  have a1 := apply_ret (restX x (wN w a) (wN w b)) (colV x.2.2.1 w v a) hVM hc he
  have a2 := l03Apply_ret (restX x (wN w a) (wN w b)) (colV x.2.2.1 w v a) hVM hc he
  rw [show (restX x (wN w a) (wN w b)).2.1 = x.2.2.1.getD (wN w b) 0 from hR] at a1 a2
  refine ⟨r1, r2, ?_, a2⟩
  rw [show (restX x (wN w a) (wN w b)).2.1 = x.2.2.1.getD (wN w b) 0 from hR]
  exact a1

theorem imgV_length {x : Shf} {w v : Sim} {b a : Nat} (hs : ISh x) : (imgV x w v b a).length ≤ 3 := by
  have := st_nn hs.1.2.2.1.2.1 (wN w b)
  unfold imgV; rw [appV_length]; omega

noncomputable def outC (w : Sim) (a b : Nat) : Option Dv := some ⟨o_impl_conflict, (((wN w a : Nat) : Int), ((wN w b : Nat) : Int), true, ())⟩

theorem conflict_ret' (x : Shf) (w v : Sim) (hx : Sm (.st cS) x) (hw : Sm (.sl (.int .i64)) w) (hv : Sm (.sl (.int .i64)) v) (hs : ISh x) (hp : Plcs x.1 w) (hd : Dat x w v) :
    Ev fun φ => run E (φ 0 + 1) n_impl_conflict [dLL x.1, dI x.2.1, dL x.2.2.1, dMs x.2.2.2.1, dL w, dL v] = confR x w v (outC w) (some ⟨o_impl_conflict, (0, 0, false, ())⟩) := by
  have hw1 : w.length ≤ 1048576 := hw.1
  have hc : Sm (.sl (.sl (.int .i64))) x.1 := hx.1
  have of := offsets_ret x w hs.1.2.2.1.1 hs.1.2.2.1.2.1 hw.1 fun i hi => hp.get hi
  have ec := fun i hi => conflict_1_ret x w v i hi hs hp hd hv.1
  simp only [run_impl_conflict, impl_conflict.ev]
  refine ev_call of ?_
  generalize starts x.2.2.1 w w.length = S at ec
  refine Ev.start (p := fun φ n => impl_conflict.l0 (mkR (run E (φ 0))) (φ 0) n ((v, ()), (S, ()), x, (w, ()), ()) w (w.length : Int) 0 x.1 x.2.1 x.2.2.1 x.2.2.2.1 w = _) 1 ?_ (fun _ _ _ h => h)
  have inner : ∀ (b : Nat) (hb : b < w.length) (rn : Option Dv), (¬ CfB x w v b → Ev fun φ => impl_conflict.l0 (mkR (run E (φ 0))) (φ 0) (φ 1) ((v, ()), (S, ()), x, (w, ()), ()) w (w.length : Int) ((b + 1 : Nat) : Int) x.1 x.2.1 x.2.2.1 x.2.2.2.1 w = rn) →
      Ev fun φ => impl_conflict.l1 (mkR (run E (φ 0))) (φ 0) (φ 1) (φ 0) ((v, ()), (S, ()), x, (w, ()), ()) (b : Int) ((wN w b : Nat) : Int) w (w.length : Int) (b : Int) w (w.length : Int) 0 x.1 x.2.1 x.2.2.1 x.2.2.2.1 w = confI x w v (outC w) b rn := fun b hb rn hrn => by
    refine Ev.start (p := fun φ n => impl_conflict.l1 (mkR (run E (φ 0))) (φ 0) (φ 1) n ((v, ()), (S, ()), x, (w, ()), ()) (b : Int) ((wN w b : Nat) : Int) w (w.length : Int) (b : Int) w (w.length : Int) 0 x.1 x.2.1 x.2.2.1 x.2.2.2.1 w = _) 2 ?_ (fun _ _ _ h => h)
    have hwb := hp.wN hb
    have hbl : wN w b < x.1.length := hwb.2
    refine (first_loop 2 (L := fun φ n i => impl_conflict.l1 (mkR (run E (φ 0))) (φ 0) (φ 1) n ((v, ()), (S, ()), x, (w, ()), ()) (b : Int) ((wN w b : Nat) : Int) w (w.length : Int) (b : Int) w (w.length : Int) i x.1 x.2.1 x.2.2.1 x.2.2.2.1 w) (len := w.length) (fun i => i < b ∧ Cf x w v b i) (fun a => outC w a b) rn (fun _ _ _ _ => rfl) 0 (fun i h1 h2 hP => ?_) (fun i q h1 h2 hP ih => ?_) (fun hno => ?_) w.length (by omega)).to ?_
    · obtain ⟨hib, hC⟩ := hP
      have hwi := hp.wN h2
      have hil : wN w i < x.1.length := hwi.2
      have hlt := hp.wN_lt hb hib
      have C : CfS x w v b i := ⟨hs, hp, hd, hb, hib, hC.1⟩
      obtain ⟨i1, _, i3, _⟩ := C.img hx
      have hpt := hC.1
      rw [getD_lt hil, getD_lt hbl] at hpt
      simp only [impl_conflict.l1_succ _ mk_ok]
      refine ev_t (decide_eq_true (by omega)) (ev_bind (idx_nat.trans hwi.1) (ev_f (by simp; omega) (ev_bind (idx_lt hil) (ev_bind (idx_lt hbl) (ev_call (isFace_ret _ _ (sm_get hc hil).1 (sm_get hc hbl).1) ?_)))))
      simp only [pb_true hpt, Bool.not_true, impl_conflict.j2_eq _ mk_ok, cond_false]
      refine ev_call i1 (ev_call (ec i h2) (ev_call i3 (ev_call (ec b hb) (ev_call (EqualP_ret (imgV x w v b i) (colV x.2.2.1 w v b) (by have := imgV_length (w := w) (v := v) (b := b) (a := i) hs; omega)) (ev_t ?_ ev_rfl)))))
      rw [pb_false hC.2]; rfl
    · have hwi := hp.wN h2
      have hil : wN w i < x.1.length := hwi.2
      simp only [impl_conflict.l1_succ _ mk_ok]
      refine ev_t (decide_eq_true (by omega)) (ev_bind (idx_nat.trans hwi.1) ?_)
      by_cases he : wN w i = wN w b
      · refine ev_t (by simp [he]) ?_
        simp only [impl_conflict.j2_eq _ mk_ok, cond_true]
        rw [w64_succ (by omega)]; exact ih
      · refine ev_f (by simp; omega) (ev_bind (idx_lt hil) (ev_bind (idx_lt hbl) (ev_call (isFace_ret _ _ (sm_get hc hil).1 (sm_get hc hbl).1) ?_)))
        by_cases hpt : Part x.1[wN w i] x.1[wN w b]
        · have hpt' : Part (x.1.getD (wN w i) []) (x.1.getD (wN w b) []) := by rw [getD_lt hil, getD_lt hbl]; exact hpt
          have hlt := part_index hs.1.1 hil hbl hpt' he
          have hib : i < b := by
            rcases Nat.lt_trichotomy i b with h | h | h
            · exact h
            · exact absurd (by rw [h]) he
            · have := hp.wN_lt h2 h; omega
          have C : CfS x w v b i := ⟨hs, hp, hd, hb, hib, hpt'⟩
          obtain ⟨i1, _, i3, _⟩ := C.img hx
          have heq : imgV x w v b i = colV x.2.2.1 w v b := Classical.byContradiction fun hne => hP ⟨hib, hpt', hne⟩
          simp only [pb_true hpt, Bool.not_true, impl_conflict.j2_eq _ mk_ok, cond_false]
          refine ev_call i1 (ev_call (ec i h2) (ev_call i3 (ev_call (ec b hb) (ev_call (EqualP_ret (imgV x w v b i) (colV x.2.2.1 w v b) (by have := imgV_length (w := w) (v := v) (b := b) (a := i) hs; omega)) (ev_f ?_ ?_)))))
          · rw [pb_true heq]; rfl
          · rw [w64_succ (by omega)]; exact ih
        · simp only [pb_false hpt, Bool.not_false, impl_conflict.j2_eq _ mk_ok, cond_true]
          rw [w64_succ (by omega)]; exact ih
    · simp only [impl_conflict.l1_succ _ mk_ok]
      refine ev_f (decide_eq_false (by omega)) ?_
      rw [w64_succ (by omega)]
      exact hrn fun ⟨a, _, h2, h3⟩ => hno a (by omega) (by omega) ⟨by omega, h3⟩
    · rw [firstN_cut (by omega)]; rfl
  refine first_loop 1 (L := fun φ n k => impl_conflict.l0 (mkR (run E (φ 0))) (φ 0) n ((v, ()), (S, ()), x, (w, ()), ()) w (w.length : Int) k x.1 x.2.1 x.2.2.1 x.2.2.2.1 w) (len := w.length) (CfB x w v) (fun b => confI x w v (outC w) b none) _ (fun _ _ _ _ => rfl) 0 (fun b h1 h2 hP => ?_) (fun b q h1 h2 hP ih => ?_) (fun hno => ?_) w.length (by omega)
  · simp only [impl_conflict.l0_succ _ mk_ok]
    exact ev_t (decide_eq_true (by omega)) (ev_bind (idx_nat.trans (hp.wN h2).1) (inner b h2 none fun hn => absurd hP hn))
  · simp only [impl_conflict.l0_succ _ mk_ok]
    exact ev_t (decide_eq_true (by omega)) (ev_bind (idx_nat.trans (hp.wN h2).1) ((inner b h2 q fun _ => ih).to (confI_go hP)))
  · simp only [impl_conflict.l0_succ _ mk_ok]
    exact ev_f (decide_eq_false (by omega)) ev_rfl

noncomputable def outD (a b : Nat) : Option Dv := some ⟨o_spec_l10Conflict, ((a : Int), (b : Int), ())⟩

theorem l10Conflict_ret' (x : Shf) (w v : Sim) (hx : Sm (.st cS) x) (hw : Sm (.sl (.int .i64)) w) (hv : Sm (.sl (.int .i64)) v) (hs : ISh x) (hp : Plcs x.1 w) (hd : Dat x w v) :
    Ev fun φ => run E (φ 0 + 1) n_spec_l10Conflict [dS x, dL w, dL v] = confR x w v outD (some ⟨o_spec_l10Conflict, (-1, -1, ())⟩) := by
  have hw1 : w.length ≤ 1048576 := hw.1
  have hc : Sm (.sl (.sl (.int .i64))) x.1 := hx.1
  have hst := hs.1.2.2.1.2.1
  have many : ∀ i, i ≤ w.length → Ret E n_spec_l10Many [dS x, dL (w.take i)] ⟨o_spec_l10Many, (off x.2.2.1 w i, ())⟩ := fun i hi => by
    have := l10Many_ret x (w.take i) hs.1.2.2.1.1 hst (by rw [List.length_take]; omega) fun j hj => by
      have hj' : j < w.length := by rw [List.length_take] at hj; omega
      obtain ⟨n, hn, hl⟩ := hp.get hj'
      exact ⟨n, by rw [List.getElem_take]; exact hn, hl⟩
    rw [off_take] at this
    exact this
  simp only [run_spec_l10Conflict, spec_l10Conflict.ev]
  refine Ev.start (p := fun φ n => spec_l10Conflict.l0 (mkR (run E (φ 0))) (φ 0) n x w v 0 = _) 1 ?_ (fun _ _ _ h => h)
  have step : ∀ (b a : Nat) (C : CfS x w v b a) (q : Option Dv), (Ev fun φ => (bif (!pb (imgV x w v b a = colV x.2.2.1 w v b)) then some ⟨o_spec_l10Conflict, ((a : Int), (b : Int), ())⟩ else spec_l10Conflict.l1 (mkR (run E (φ 0))) (φ 0) (φ 1) (φ 2) x w v (b : Int) (w64 ((a : Int) + 1))) = q) → Ev fun φ => spec_l10Conflict.l1 (mkR (run E (φ 0))) (φ 0) (φ 1) (φ 2 + 1) x w v (b : Int) (a : Int) = q := fun b a C q hq => by
    have hb := C.hb
    have hab := C.ha
    have ha : a < w.length := by omega
    obtain ⟨_, i2, _, i4⟩ := C.img hx
    have hwa := hp.wN ha
    have hwb := hp.wN hb
    have hal : wN w a < x.1.length := hwa.2
    have hbl : wN w b < x.1.length := hwb.2
    have hpt := C.pt
    rw [getD_lt hal, getD_lt hbl] at hpt
    obtain ⟨a1, a2, a3, a4, a5⟩ := col_facts hs hp hd ha
    obtain ⟨b1, b2, b3, b4, b5⟩ := col_facts hs hp hd hb
    have hvl : v.length ≤ 1048576 := hv.1
    have ea : w64 (off x.2.2.1 w a + x.2.2.1.getD (wN w a) 0) = off x.2.2.1 w a + x.2.2.1.getD (wN w a) 0 := w64_small (by omega) (by omega)
    have eb : w64 (off x.2.2.1 w b + x.2.2.1.getD (wN w b) 0) = off x.2.2.1 w b + x.2.2.1.getD (wN w b) 0 := w64_small (by omega) (by omega)
    have hsame := l00SameP_ret (imgV x w v b a) (colV x.2.2.1 w v b) (by have := imgV_length (w := w) (v := v) (b := b) (a := a) hs; omega)
    have hcb : colV x.2.2.1 w v b = (v.take (off x.2.2.1 w b + x.2.2.1[wN w b]).toNat).drop (off x.2.2.1 w b).toNat := by rw [colV, getD_lt b4]
    have hca : colV x.2.2.1 w v a = (v.take (off x.2.2.1 w a + x.2.2.1[wN w a]).toNat).drop (off x.2.2.1 w a).toNat := by rw [colV, getD_lt a4]
    rw [getD_lt a4] at ea a2 a3
    rw [getD_lt b4] at eb b2 b3
    rw [hca] at i4
    rw [hcb] at hsame hq
    simp only [spec_l10Conflict.l1_succ _ mk_ok]
    refine ev_t (decide_eq_true (by omega)) (ev_bind (idx_nat.trans hwa.1) (ev_bind (idx_lt hal) (ev_bind (idx_nat.trans hwb.1) (ev_bind (idx_lt hbl) (ev_call (l05Part_ret _ _ (sm_get hc hal).1 (sm_get hc hbl).1) (ev_f (by rw [pb_true hpt]; rfl) ?_))))))
    simp only [Int.toNat_natCast]
    refine ev_chk (by simp only [Bool.and_eq_true, decide_eq_true_eq]; omega) (ev_call (many a (by omega)) (ev_chk (by simp only [Bool.and_eq_true, decide_eq_true_eq]; omega) (ev_call (many b (by omega)) (ev_bind (idx_nat.trans hwa.1) (ev_bind (idx_nat.trans hwb.1) ?_)))))
    have fin : Ev fun φ => spec_l10Conflict.j2 (mkR (run E (φ 0))) (φ 0) (φ 1) (φ 2) x w v (b : Int) (a : Int) (off x.2.2.1 w a) (off x.2.2.1 w b) (restX x (wN w a) (wN w b)).1 (restX x (wN w a) (wN w b)).2.1 (restX x (wN w a) (wN w b)).2.2.1 (restX x (wN w a) (wN w b)).2.2.2.1 = q := by
      simp only [spec_l10Conflict.j2_eq _ mk_ok]
      refine ev_bind (idx_nat.trans hwa.1) (ev_bind (idx_lt a4) ?_)
      simp only [ea]
      refine ev_chk (by simp only [Bool.and_eq_true, decide_eq_true_eq]; exact ⟨⟨a1, a2⟩, a3⟩) (ev_call i4 (ev_bind (idx_nat.trans hwb.1) (ev_bind (idx_lt b4) ?_)))
      simp only [eb]
      exact ev_chk (by simp only [Bool.and_eq_true, decide_eq_true_eq]; exact ⟨⟨b1, b2⟩, b3⟩) (ev_call hsame hq)
    exact ev_both (ev_call i2 fin) (ev_call i2 fin)
  have inner : ∀ (b : Nat) (hb : b < w.length) (rn : Option Dv), (¬ CfB x w v b → Ev fun φ => spec_l10Conflict.l0 (mkR (run E (φ 0))) (φ 0) (φ 1) x w v ((b + 1 : Nat) : Int) = rn) →
      Ev fun φ => spec_l10Conflict.l1 (mkR (run E (φ 0))) (φ 0) (φ 1) (φ 0) x w v (b : Int) 0 = confI x w v outD b rn := fun b hb rn hrn => by
    refine Ev.start (p := fun φ n => spec_l10Conflict.l1 (mkR (run E (φ 0))) (φ 0) (φ 1) n x w v (b : Int) 0 = _) 2 ?_ (fun _ _ _ h => h)
    refine first_loop 2 (L := fun φ n i => spec_l10Conflict.l1 (mkR (run E (φ 0))) (φ 0) (φ 1) n x w v (b : Int) i) (len := b) (Cf x w v b) (fun a => outD a b) rn (fun _ _ _ _ => rfl) 0 (fun i h1 h2 hP => ?_) (fun i q h1 h2 hP ih => ?_) (fun hno => ?_) b (by omega)
    · refine step b i ⟨hs, hp, hd, hb, h2, hP.1⟩ _ ?_
      rw [pb_false hP.2]; exact ev_rfl
    · by_cases hpt : Part (x.1.getD (wN w i) []) (x.1.getD (wN w b) [])
      · refine step b i ⟨hs, hp, hd, hb, h2, hpt⟩ _ ?_
        have heq : imgV x w v b i = colV x.2.2.1 w v b := Classical.byContradiction fun hne => hP ⟨hpt, hne⟩
        rw [pb_true heq, w64_succ (by omega)]; exact ih
      · have hi : i < w.length := by omega
        have hwa := hp.wN hi
        have hwb := hp.wN hb
        have hal : wN w i < x.1.length := hwa.2
        have hbl : wN w b < x.1.length := hwb.2
        rw [getD_lt hal, getD_lt hbl] at hpt
        simp only [spec_l10Conflict.l1_succ _ mk_ok]
        refine ev_t (decide_eq_true (by omega)) (ev_bind (idx_nat.trans hwa.1) (ev_bind (idx_lt hal) (ev_bind (idx_nat.trans hwb.1) (ev_bind (idx_lt hbl) (ev_call (l05Part_ret _ _ (sm_get hc hal).1 (sm_get hc hbl).1) (ev_t (by rw [pb_false hpt]; rfl) ?_))))))
        rw [w64_succ (by omega)]; exact ih
    · simp only [spec_l10Conflict.l1_succ _ mk_ok]
      refine ev_f (decide_eq_false (by omega)) ?_
      rw [w64_succ (by omega)]
      exact hrn fun ⟨a, _, h2, h3⟩ => hno a (by omega) (by omega) h3
  refine first_loop 1 (L := fun φ n k => spec_l10Conflict.l0 (mkR (run E (φ 0))) (φ 0) n x w v k) (len := w.length) (CfB x w v) (fun b => confI x w v outD b none) _ (fun _ _ _ _ => rfl) 0 (fun b h1 h2 hP => ?_) (fun b q h1 h2 hP ih => ?_) (fun hno => ?_) w.length (by omega)
  · simp only [spec_l10Conflict.l0_succ _ mk_ok]
    exact ev_t (decide_eq_true (by omega)) (inner b h2 none fun hn => absurd hP hn)
  · simp only [spec_l10Conflict.l0_succ _ mk_ok]
    exact ev_t (decide_eq_true (by omega)) ((inner b h2 q fun _ => ih).to (confI_go hP))
  · simp only [spec_l10Conflict.l0_succ _ mk_ok]
    exact ev_f (decide_eq_false (by omega)) ev_rfl

noncomputable def cfI (x : Shf) (w v : Sim) : Int × Int × Bool × Unit := match confV x w v with
  | some (a, b) => (((wN w a : Nat) : Int), ((wN w b : Nat) : Int), true, ())
  | none => (0, 0, false, ())
noncomputable def cfS (x : Shf) (w v : Sim) : Int × Int × Unit := match confV x w v with
  | some (a, b) => ((a : Int), (b : Int), ())
  | none => (-1, -1, ())

theorem conflict_ret (x : Shf) (w v : Sim) (hx : Sm (.st cS) x) (hw : Sm (.sl (.int .i64)) w) (hv : Sm (.sl (.int .i64)) v) (hs : ISh x) (hp : Plcs x.1 w) (hd : Dat x w v) :
    Ret E n_impl_conflict [dLL x.1, dI x.2.1, dL x.2.2.1, dMs x.2.2.2.1, dL w, dL v] ⟨o_impl_conflict, cfI x w v⟩ := by
  refine ret_of ((conflict_ret' x w v hx hw hv hs hp hd).to ?_)
  cases hc : confV x w v with
  | none => rw [confV_none hc, cfI, hc]
  | some t =>
    obtain ⟨a, b⟩ := t
    rw [(confV_some hc).2.2, cfI, hc]; rfl

theorem l10Conflict_ret (x : Shf) (w v : Sim) (hx : Sm (.st cS) x) (hw : Sm (.sl (.int .i64)) w) (hv : Sm (.sl (.int .i64)) v) (hs : ISh x) (hp : Plcs x.1 w) (hd : Dat x w v) :
    Ret E n_spec_l10Conflict [dS x, dL w, dL v] ⟨o_spec_l10Conflict, cfS x w v⟩ := by
  refine ret_of ((l10Conflict_ret' x w v hx hw hv hs hp hd).to ?_)
  cases hc : confV x w v with
  | none => rw [confV_none hc, cfS, hc]
  | some t =>
    obtain ⟨a, b⟩ := t
    rw [(confV_some hc).2.2, cfS, hc]; rfl

noncomputable def IsLocalSectionV (x : Shf) (w v : Sim) : Bool × Unit := (pb (LC x w v = 0 ∧ confV x w v = none), ())

theorem implIsLocalSection_ret (x : Shf) (w v : Sim) (hx : Sm (.st cS) x) (hw : Sm (.sl (.int .i64)) w) (hv : Sm (.sl (.int .i64)) v) : Ret E n_impl_IsLocalSection [dLL x.1, dI x.2.1, dL x.2.2.1, dMs x.2.2.2.1, dL w, dL v] ⟨o_impl_IsLocalSection, IsLocalSectionV x w v⟩ := by
  refine ret_of ?_
  simp only [run_impl_IsLocalSection, impl_IsLocalSection.ev]
  refine ev_call (localized_ret x w v hx hw hv) (ev_b (fun h => ev_some ?_) fun h => ?_)
  · have h : ¬ LC x w v = 0 := by simpa using h
    rw [IsLocalSectionV, pb_false fun e => h e.1]
  · have h : LC x w v = 0 := by simpa using h
    obtain ⟨⟨hs, hp⟩, hd⟩ := LC_zero.1 h
    refine ev_call (conflict_ret x w v hx hw hv hs hp hd) (ev_some ?_)
    have : (!(cfI x w v).2.2.1) = pb (LC x w v = 0 ∧ confV x w v = none) := eq_pb (by
      unfold cfI
      cases hc : confV x w v with
      | none => simp [h]
      | some t => simp)
    rw [this]; rfl

theorem specIsLocalSection_ret (x : Shf) (w v : Sim) (hx : Sm (.st cS) x) (hw : Sm (.sl (.int .i64)) w) (hv : Sm (.sl (.int .i64)) v) : Ret E n_spec_IsLocalSection [dLL x.1, dI x.2.1, dL x.2.2.1, dMs x.2.2.2.1, dL w, dL v] ⟨o_spec_IsLocalSection, IsLocalSectionV x w v⟩ := by
  refine ret_of ?_
  simp only [run_spec_IsLocalSection, spec_IsLocalSection.ev]
  refine ev_call (l10Ask_ret x w v hx hw hv) (ev_b (fun h => ev_some ?_) fun h => ?_)
  · have h : ¬ LC x w v = 0 := by simpa using h
    rw [IsLocalSectionV, pb_false fun e => h e.1]
  · have h : LC x w v = 0 := by simpa using h
    obtain ⟨⟨hs, hp⟩, hd⟩ := LC_zero.1 h
    refine ev_call (l10Conflict_ret x w v hx hw hv hs hp hd) (ev_some ?_)
    have : decide ((cfS x w v).1 < 0) = pb (LC x w v = 0 ∧ confV x w v = none) := eq_pb (by
      rw [decide_eq_true_iff]
      unfold cfS
      cases hc : confV x w v with
      | none => simp [h]
      | some t => simp only [reduceCtorEq, and_false, iff_false]; omega)
    rw [this]; rfl

open Classical in
noncomputable def FirstConflictV (x : Shf) (w v : Sim) : Int × Int × Int × Unit := if LC x w v = 0 then (match confV x w v with
  | some (a, b) => (((wN w a : Nat) : Int), ((wN w b : Nat) : Int), 0, ())
  | none => (0, 0, 3, ())) else (0, 0, LC x w v, ())

theorem implFirstConflict_ret (x : Shf) (w v : Sim) (hx : Sm (.st cS) x) (hw : Sm (.sl (.int .i64)) w) (hv : Sm (.sl (.int .i64)) v) : Ret E n_impl_FirstConflict [dLL x.1, dI x.2.1, dL x.2.2.1, dMs x.2.2.2.1, dL w, dL v] ⟨o_impl_FirstConflict, FirstConflictV x w v⟩ := by
  refine ret_of ?_
  simp only [run_impl_FirstConflict, impl_FirstConflict.ev]
  refine ev_call (localized_ret x w v hx hw hv) (ev_b (fun h => ev_some ?_) fun h => ?_)
  · have h : ¬ LC x w v = 0 := by simpa using h
    rw [FirstConflictV, if_neg h]
  · have h : LC x w v = 0 := by simpa using h
    obtain ⟨⟨hs, hp⟩, hd⟩ := LC_zero.1 h
    refine ev_call (conflict_ret x w v hx hw hv hs hp hd) ?_
    rw [FirstConflictV, if_pos h]
    cases hc : confV x w v with
    | none => rw [cfI, hc]; exact ev_t rfl ev_rfl
    | some t => rw [cfI, hc]; exact ev_f rfl ev_rfl

theorem specFirstConflict_ret (x : Shf) (w v : Sim) (hx : Sm (.st cS) x) (hw : Sm (.sl (.int .i64)) w) (hv : Sm (.sl (.int .i64)) v) : Ret E n_spec_FirstConflict [dLL x.1, dI x.2.1, dL x.2.2.1, dMs x.2.2.2.1, dL w, dL v] ⟨o_spec_FirstConflict, FirstConflictV x w v⟩ := by
  refine ret_of ?_
  simp only [run_spec_FirstConflict, spec_FirstConflict.ev]
  refine ev_call (l10Ask_ret x w v hx hw hv) (ev_b (fun h => ev_some ?_) fun h => ?_)
  · have h : ¬ LC x w v = 0 := by simpa using h
    rw [FirstConflictV, if_neg h]
  · have h : LC x w v = 0 := by simpa using h
    obtain ⟨⟨hs, hp⟩, hd⟩ := LC_zero.1 h
    refine ev_call (l10Conflict_ret x w v hx hw hv hs hp hd) ?_
    rw [FirstConflictV, if_pos h]
    cases hc : confV x w v with
    | none => rw [cfS, hc]; exact ev_t rfl ev_rfl
    | some t =>
      obtain ⟨a, b⟩ := t
      obtain ⟨hab, hb, _⟩ := confV_some hc
      rw [cfS, hc]
      exact ev_f (decide_eq_false (Int.not_lt.2 (Int.natCast_nonneg a))) (ev_bind (idx_nat.trans (hp.wN (show a < w.length by omega)).1) (ev_bind (idx_nat.trans (hp.wN hb).1) ev_rfl))

end VeT

open Go Go.Proofs Ve
set_option linter.unusedVariables false
set_option linter.unusedSimpArgs false
namespace VeT

theorem law_IsLocalSection (x0 : Shf) (x1 : Sim) (x2 : Sim) (w0 : Wf (.st cS) x0) (w1 : Wf (.sl (.int .i64)) x1) (w2 : Wf (.sl (.int .i64)) x2) : Ret E n_laws_FnExactIsLocalSection [dLL x0.1, dI x0.2.1, dL x0.2.2.1, dMs x0.2.2.2.1, dL x1, dL x2] ⟨.cons .bool .nil, (true, ())⟩ := by
  refine ret_of ?_
  simp only [run_laws_FnExactIsLocalSection, laws_FnExactIsLocalSection.ev]
  refine ev_d (fun _ => ev_rfl) fun l1 => ?_
  have m1 : Sm (.sl (.int .i64)) x1 := ⟨by omega, fun _ _ => trivial⟩
  refine ev_d (fun _ => ev_rfl) fun l2 => ?_
  have m2 : Sm (.sl (.int .i64)) x2 := ⟨by omega, fun _ _ => trivial⟩
  obtain ⟨r0, hs0, s0⟩ := szSheaf_ret x0 1048576 w0 (by omega) (by omega)
  refine ev_call hs0 (ev_d (fun _ => ev_rfl) fun n0 => ?_)
  have n0 := Int.not_lt.1 n0
  obtain ⟨b0, m0⟩ := s0 n0
  have hi := implIsLocalSection_ret x0 x1 x2 m0 m1 m2
  have hsp := specIsLocalSection_ret x0 x1 x2 m0 m1 m2
  generalize IsLocalSectionV x0 x1 x2 = V at hi hsp
  obtain ⟨v0, ⟨⟩⟩ := V
  have to0 := toSheaf_ret x0 m0
  obtain ⟨q0, hq0, eq0⟩ := eqSheaf_ret x0 x0 m0
  obtain rfl : q0 = true := eq0.2 rfl
  have to1 := toInt64S_ret x1 m1
  obtain ⟨q1, hq1, eq1⟩ := eqInt64S_ret x1 x1 m1
  obtain rfl : q1 = true := eq1.2 rfl
  have to2 := toInt64S_ret x2 m2
  obtain ⟨q2, hq2, eq2⟩ := eqInt64S_ret x2 x2 m2
  obtain rfl : q2 = true := eq2.2 rfl
  repeat (first | with_reducible exact ev_rfl | with_reducible refine ev_call to0 ?_ | with_reducible refine ev_call hq0 ?_ | with_reducible refine ev_call to1 ?_ | with_reducible refine ev_call hq1 ?_ | with_reducible refine ev_call to2 ?_ | with_reducible refine ev_call hq2 ?_ | with_reducible refine ev_call hi ?_ | with_reducible refine ev_call hsp ?_ | with_reducible refine ev_f (by first | rfl | exact bne_self_eq_false _ | (simp; done)) ?_ | simp only [bne_self_eq_false, cond_false, cond_false])

theorem rowIsLocalSection (z : ((.cons (.sl (.sl (.int .i64))) (.cons (.int .i64) (.cons (.sl (.int .i64)) (.cons (.sl (.st cM)) (.cons (.sl (.int .i64)) (.cons (.sl (.int .i64)) .nil)))))) : Ty).T)
    (h : Wf (.cons (.sl (.sl (.int .i64))) (.cons (.int .i64) (.cons (.sl (.int .i64)) (.cons (.sl (.st cM)) (.cons (.sl (.int .i64)) (.cons (.sl (.int .i64)) .nil)))))) z) :
    Evt fun n => run E n n_laws_FnExactIsLocalSection (unpack _ z) = some ⟨.cons .bool .nil, (true, ())⟩ :=
  law_IsLocalSection (z.1, z.2.1, z.2.2.1, z.2.2.2.1, ()) z.2.2.2.2.1 z.2.2.2.2.2.1 ⟨h.1, h.2.1, h.2.2.1, h.2.2.2.1, trivial⟩ h.2.2.2.2.1 h.2.2.2.2.2.1

theorem law_FirstConflict (x0 : Shf) (x1 : Sim) (x2 : Sim) (w0 : Wf (.st cS) x0) (w1 : Wf (.sl (.int .i64)) x1) (w2 : Wf (.sl (.int .i64)) x2) : Ret E n_laws_FnExactFirstConflict [dLL x0.1, dI x0.2.1, dL x0.2.2.1, dMs x0.2.2.2.1, dL x1, dL x2] ⟨.cons .bool .nil, (true, ())⟩ := by
  refine ret_of ?_
  simp only [run_laws_FnExactFirstConflict, laws_FnExactFirstConflict.ev]
  refine ev_d (fun _ => ev_rfl) fun l1 => ?_
  have m1 : Sm (.sl (.int .i64)) x1 := ⟨by omega, fun _ _ => trivial⟩
  refine ev_d (fun _ => ev_rfl) fun l2 => ?_
  have m2 : Sm (.sl (.int .i64)) x2 := ⟨by omega, fun _ _ => trivial⟩
  obtain ⟨r0, hs0, s0⟩ := szSheaf_ret x0 1048576 w0 (by omega) (by omega)
  refine ev_call hs0 (ev_d (fun _ => ev_rfl) fun n0 => ?_)
  have n0 := Int.not_lt.1 n0
  obtain ⟨b0, m0⟩ := s0 n0
  have hi := implFirstConflict_ret x0 x1 x2 m0 m1 m2
  have hsp := specFirstConflict_ret x0 x1 x2 m0 m1 m2
  generalize FirstConflictV x0 x1 x2 = V at hi hsp
  obtain ⟨v0, v1, v2, ⟨⟩⟩ := V
  have to0 := toSheaf_ret x0 m0
  obtain ⟨q0, hq0, eq0⟩ := eqSheaf_ret x0 x0 m0
  obtain rfl : q0 = true := eq0.2 rfl
  have to1 := toInt64S_ret x1 m1
  obtain ⟨q1, hq1, eq1⟩ := eqInt64S_ret x1 x1 m1
  obtain rfl : q1 = true := eq1.2 rfl
  have to2 := toInt64S_ret x2 m2
  obtain ⟨q2, hq2, eq2⟩ := eqInt64S_ret x2 x2 m2
  obtain rfl : q2 = true := eq2.2 rfl
  repeat (first | with_reducible exact ev_rfl | with_reducible refine ev_call to0 ?_ | with_reducible refine ev_call hq0 ?_ | with_reducible refine ev_call to1 ?_ | with_reducible refine ev_call hq1 ?_ | with_reducible refine ev_call to2 ?_ | with_reducible refine ev_call hq2 ?_ | with_reducible refine ev_call hi ?_ | with_reducible refine ev_call hsp ?_ | with_reducible refine ev_f (by first | rfl | exact bne_self_eq_false _ | (simp; done)) ?_ | simp only [bne_self_eq_false, laws_FnExactFirstConflict.j0_eq _ mk_ok, cond_false])

theorem rowFirstConflict (z : ((.cons (.sl (.sl (.int .i64))) (.cons (.int .i64) (.cons (.sl (.int .i64)) (.cons (.sl (.st cM)) (.cons (.sl (.int .i64)) (.cons (.sl (.int .i64)) .nil)))))) : Ty).T)
    (h : Wf (.cons (.sl (.sl (.int .i64))) (.cons (.int .i64) (.cons (.sl (.int .i64)) (.cons (.sl (.st cM)) (.cons (.sl (.int .i64)) (.cons (.sl (.int .i64)) .nil)))))) z) :
    Evt fun n => run E n n_laws_FnExactFirstConflict (unpack _ z) = some ⟨.cons .bool .nil, (true, ())⟩ :=
  law_FirstConflict (z.1, z.2.1, z.2.2.1, z.2.2.2.1, ()) z.2.2.2.2.1 z.2.2.2.2.2.1 ⟨h.1, h.2.1, h.2.2.1, h.2.2.2.1, trivial⟩ h.2.2.2.2.1 h.2.2.2.2.2.1

end VeT
