import Derived.Test.YtmedfcilbiogmaaGreatT5
import Derived.Test.YtmedfcilbiogmaaGreatT4
set_option linter.unusedVariables false
set_option linter.unusedSimpArgs false
open Go Go.Proofs Ve
set_option linter.unusedVariables false
set_option linter.unusedSimpArgs false
namespace VeT

theorem Down.idx {c p st ms f k} (h : Down c p st ms f k) : idxf (fun v => !pb (v ∈ c.getD f [])) (c.getD k []) = (fv c f k : Nat) := by
  obtain ⟨h1, _, h3, h4, _⟩ := h.facts
  have : (c.getD k []).findIdx? (fun v => !pb (v ∈ c.getD f [])) = some (fv c f k) := by
    rw [List.findIdx?_eq_some_iff_getElem]
    exact ⟨h1, by rw [pb_false (h4 h1)]; rfl, fun j hj => by rw [pb_true (h3 j hj (by omega))]; simp⟩
  unfold idxf
  rw [this]; rfl

theorem st_le {c p st ms} (h : VS c p st ms) (f : Nat) (hf : f < c.length) : ∃ hl : f < st.length, ∃ n : Nat, st[f] = (n : Int) ∧ n ≤ 3 ∧ (st.getD f 0).toNat = n ∧ st.getD f 0 = (n : Int) := by
  have hl : f < st.length := by rw [h.2.2.1.1]; exact hf
  have hb := h.2.2.1.2.1 _ (List.getElem_mem hl)
  obtain ⟨n, hn⟩ := Int.eq_ofNat_of_zero_le hb.1
  exact ⟨hl, n, hn, by omega, by rw [getD_lt hl]; omega, by rw [getD_lt hl, hn]⟩

theorem rest_ret (c : List Sim) (p : Int) (st : Sim) (ms : List Mat) (hc : Sm (.sl (.sl (.int .i64))) c) (h : VS c p st ms) (f : Nat) (hf : f < c.length) : ∀ (d k : Nat), k < c.length → (c.getD k []).length ≤ d → Part (c.getD f []) (c.getD k []) →
    (VM (restV c p st ms f d k) ∧ (restV c p st ms f d k).2.1 = st.getD k 0) ∧
    Ret E n_impl_restriction [dLL c, dI p, dL st, dMs ms, dI (f : Int), dI (k : Int)] ⟨o_impl_restriction, restV c p st ms f d k⟩ ∧
    Ret E n_spec_l09Restrict [dS (c, p, st, ms, ()), dI (f : Int), dI (k : Int)] ⟨o_spec_l09Restrict, restV c p st ms f d k⟩ := by
  intro d
  obtain ⟨hfl, n, hn, hn3, hnt, hng⟩ := st_le h f hf
  induction d with
  | zero =>
    intro k hk hd
    have := (h.1.2.1 k hk).1
    omega
  | succ d ih =>
    intro k hk hd hpt
    have h4f := h.1.len4 hf
    rw [restV]
    by_cases hfk : f = k
    · subst hfk
      rw [if_pos rfl, hnt]
      refine ⟨⟨unitM_VM h.2.1 (by omega), by rw [hng]; rfl⟩, ret_of ?_, ret_of ?_⟩
      · simp only [run_impl_restriction, impl_restriction.ev]
        refine ev_t (by simp) (ev_bind (idx_lt hfl) ?_)
        rw [hn]
        exact ev_call (unit_ret p n (by omega)) ev_rfl
      · simp only [run_spec_l09Restrict, spec_l09Restrict.ev]
        refine ev_t (by simp) (ev_bind (idx_lt (xs := st) hfl) ?_)
        rw [hn]
        exact ev_call (l03Unit_ret p n (by omega)) ev_rfl
    · rw [if_neg hfk]
      have D : Down c p st ms f k := ⟨h, hf, hk, hfk, hpt⟩
      obtain ⟨f1, f2, f3, f4, f5, f6, f7⟩ := D.facts
      obtain ⟨⟨v1, v2⟩, r1, r2⟩ := ih (fc c k (fv c f k)) f7 (by omega) f5
      obtain ⟨ix, _, hFg⟩ := fc_get h.1 hk f2
      obtain ⟨_, hB⟩ := h.map hk f2
      have hsh : (mp c ms k (fv c f k)).2.2.1 = (restV c p st ms f d (fc c k (fv c f k))).2.1 := by rw [hB.2.2.2, v2]
      have gf : c.getD f [] = c[f] := getD_lt hf
      have gk : c.getD k [] = c[k] := getD_lt hk
      have hlf : (c[f]).length ≤ 1048576 := (sm_get (t := .sl (.int .i64)) (s := c) hc hf).1
      have hlk : (c[k]).length ≤ 1048576 := (sm_get (t := .sl (.int .i64)) (s := c) hc hk).1
      refine ⟨⟨mulM_VM hB.1 v1, hB.2.2.1⟩, ret_of ?_, ret_of ?_⟩
      · simp only [run_impl_restriction, impl_restriction.ev]
        refine ev_f (by simp; omega) (ev_bind (idx_lt hf) (ev_bind (idx_lt hk) ?_))
        have hI := IndexFunc_Sint64_int64_impl_restriction_1_ret c[k] ((c[f], ()), ()) (fun v => !pb (v ∈ c[f])) hlk fun v _ => restriction_1_ret v c[f] hlf
        have hD := D.idx
        rw [gf, gk] at hD
        rw [hD] at hI
        exact ev_call hI (ev_call (faceIndices_ret c k hk hc h.1.srt) (ev_bind ix (ev_call (direct_ret c p st ms k (fv c f k) hk f2 h) (ev_call r1 (ev_call (product_ret _ _ hB.1 v1 hsh) ev_rfl)))))
      · simp only [run_spec_l09Restrict, spec_l09Restrict.ev]
        refine ev_f (by simp; omega) (ev_bind (idx_lt (xs := c) hk) ?_)
        refine Ev.start (p := fun φ m => spec_l09Restrict.l0 (mkR (run E (φ 0))) (φ 0) m (c, p, st, ms, ()) (f : Int) (k : Int) c[k] 0 0 0 0 = _) 1 ?_ (fun _ _ _ h => h)
        rw [gk] at f1
        refine loopR 1 (σ := Nat) (L := fun φ m i => spec_l09Restrict.l0 (mkR (run E (φ 0))) (φ 0) m (c, p, st, ms, ()) (f : Int) (k : Int) c[k] (i : Int) 0 0 0) (fun _ _ _ _ => rfl) (fun i => i ≤ fv c f k) (fun _ => _) (fun i => fv c f k - i) (fun i hi ihi => ?_) 0 (Nat.zero_le _)
        have hi : i ≤ fv c f k := hi
        have hil : i < (c[k]).length := by omega
        simp only [spec_l09Restrict.l0_succ _ mk_ok]
        refine ev_bind (idx_lt (xs := c) hf) (ev_bind (idx_lt hil) (ev_call (l00Has_ret c[f] c[k][i] hlf) ?_))
        by_cases he : i = fv c f k
        · subst he
          have hno : ¬ c[k][fv c f k] ∈ c[f] := by
            have := f4 (by rw [gk]; exact f1)
            simpa only [gk, gf] using this
          exact ev_f (pb_false hno) (ev_call (l05Faces_ret c k hk hc) (ev_bind ix (ev_call r2 (ev_call (l09Get_ret (c, p, st, ms, ()) k (fv c f k) hk f2 h) (ev_call (l03Times_ret _ _ hB.1 v1 hsh) ev_rfl)))))
        · have hin : c[k][i] ∈ c[f] := by
            have := f3 i (by omega) (by rw [gk]; exact hil)
            simpa only [gk, gf] using this
          refine ev_t (pb_true hin) ?_
          have h4k := h.1.len4 hk
          rw [gk] at h4k
          rw [w64_succ (by omega)]
          exact ihi (i + 1) (by show i + 1 ≤ _; omega) (by show fv c f k - (i + 1) < fv c f k - i; omega)

end VeT

open Go Go.Proofs Ve
set_option linter.unusedVariables false
set_option linter.unusedSimpArgs false
namespace VeT

/-! vertices come first -/
theorem VC.len1 {c : List Sim} (h : VC c) {k : Nat} (hk : k < c.length) : 1 ≤ (c.getD k []).length := (h.2.1 k hk).1

theorem vert_low {c : List Sim} (h : VC c) {v k : Nat} (hv : v < c.length) (h1 : (c.getD v []).length = 1) (hk : k < v) : (c.getD k []).length = 1 := by
  have hkc : k < c.length := by omega
  have := h.srt k v hv hk
  rw [cmpS_lt] at this
  have h2 := h.len1 hkc
  rw [getD_lt hv] at h1
  rw [getD_lt hkc] at h2 ⊢
  omega

theorem FC_vert {c : List Sim} {st : Sim} {v : Nat} (h1 : (c.getD v []).length = 1) : FC c st v = SDn c st 0 v := by
  unfold FC; rw [h1]; rfl

theorem l10Start_ret (x : Shf) (v : Nat) (hv : v < x.1.length) (h1 : (x.1.getD v []).length = 1) (h : VS x.1 x.2.1 x.2.2.1 x.2.2.2.1) : Ret E n_spec_l10Start [dS x, dI (v : Int)] ⟨o_spec_l10Start, (FC x.1 x.2.2.1 v, ())⟩ := by
  have h48 := h.1.1
  have hst := h.2.2.1.2.1
  have hl := h.2.2.1.1
  rw [FC_vert h1]
  refine ret_of ?_
  simp only [run_spec_l10Start, spec_l10Start.ev]
  refine Ev.start (p := fun φ n => spec_l10Start.l0 (mkR (run E (φ 0))) (φ 0) n x (v : Int) 0 0 = _) 1 ?_ (fun _ _ _ h => h)
  refine fold_loop 1 (L := fun φ n k a => spec_l10Start.l0 (mkR (run E (φ 0))) (φ 0) n x (v : Int) a k) (len := v) (fun k => SDn x.1 x.2.2.1 0 k) (fun _ _ _ _ _ => rfl) (fun k r hk ih => ?_) ?_
  · have hks : k < x.2.2.1.length := by omega
    simp only [spec_l10Start.l0_succ _ mk_ok]
    have hb := SDn_nn (c := x.1) (d := 0) hst (n := k)
    have hb2 := hst _ (List.getElem_mem hks)
    have hl1 := vert_low h.1 hv h1 hk
    rw [SDn_succ, if_pos (by omega), getD_lt hks] at ih
    refine ev_t (decide_eq_true (by omega)) (ev_bind (idx_lt hks) ?_)
    rw [w64_succ (by omega), w64_small (by omega) (by omega)]; exact ih
  · simp only [spec_l10Start.l0_succ _ mk_ok]
    exact ev_f (decide_eq_false (by omega)) ev_rfl

theorem l10All_ret (x : Shf) (hc : Sm (.sl (.sl (.int .i64))) x.1) (h : VS x.1 x.2.1 x.2.2.1 x.2.2.2.1) : Ret E n_spec_l10All [dS x] ⟨o_spec_l10All, (SD x.1 x.2.2.1 0, ())⟩ := by
  refine ret_of ?_
  simp only [run_spec_l10All, spec_l10All.ev]
  exact ev_call (l09Sum_ret x.1 x.2.2.1 0 hc h.2.2.1.1 h.2.2.1.2.1 (by omega)) ev_rfl

/-! sums of rows -/
def addV (a b : Sim) (c p : Int) : Sim := (List.range a.length).map fun i => (a.getD i 0 + c * b.getD i 0) % p

theorem addV_length {a b : Sim} {c p : Int} : (addV a b c p).length = a.length := by simp [addV]

theorem addV_get {a b : Sim} {c p : Int} {i : Nat} (h : i < a.length) : (addV a b c p).getD i 0 = (a.getD i 0 + c * b.getD i 0) % p := by
  simp [addV, List.getD_eq_getElem?_getD, h]

theorem addV_elems {a b : Sim} {c p : Int} (hp : 2 ≤ p) : Elems (addV a b c p) p := fun x hx => by
  unfold addV at hx
  obtain ⟨i, _, rfl⟩ := List.mem_map.1 hx
  have h0 := Int.emod_nonneg (a.getD i 0 + c * b.getD i 0) (show p ≠ 0 by omega)
  have h1 := Int.emod_lt_of_pos (a.getD i 0 + c * b.getD i 0) (show 0 < p by omega)
  omega

theorem l02Add_ret (a b : Sim) (c p : Int) (hp : 2 ≤ p ∧ p ≤ 251) (hc : 0 ≤ c ∧ c ≤ 250) (hl : a.length ≤ b.length) (ha1 : a.length ≤ 1048576) (ea : ∀ x ∈ a, 0 ≤ x ∧ x ≤ 250) (eb : ∀ x ∈ b, 0 ≤ x ∧ x ≤ 250) :
    Ret E n_spec_l02Add [dL a, dL b, dI c, dI p] ⟨o_spec_l02Add, (addV a b c p, ())⟩ := by
  refine ret_of ?_
  simp only [run_spec_l02Add, spec_l02Add.ev]
  refine Ev.start (p := fun φ n => spec_l02Add.l0 (mkR (run E (φ 0))) (φ 0) n a b c p 0 [] = _) 1 ?_ (fun _ _ _ h => h)
  refine fold_loop 1 (L := fun φ n k o => spec_l02Add.l0 (mkR (run E (φ 0))) (φ 0) n a b c p k o) (len := a.length) (fun k => (List.range k).map fun i => (a.getD i 0 + c * b.getD i 0) % p) (fun _ _ _ _ _ => rfl) (fun k r hk ih => ?_) ?_
  · simp only [spec_l02Add.l0_succ _ mk_ok]
    have hkb : k < b.length := by omega
    have h1 := ea _ (List.getElem_mem hk)
    have h2 := mul_in hc (eb _ (List.getElem_mem hkb))
    rw [List.range_succ, List.map_append, List.map_singleton, getD_lt hk, getD_lt hkb] at ih
    refine ev_t (decide_eq_true (by omega)) (ev_bind (idx_lt hk) (ev_bind (idx_lt hkb) (ev_chk (by simp; omega) ?_)))
    rw [w64_small (n := c * b[k]) (by omega) (by omega), w64_small (by omega) (by omega), Int.tmod_eq_emod_of_nonneg (by omega), w64_succ (by omega)]
    exact ev_chk (by simp; omega) ih
  · simp only [spec_l02Add.l0_succ _ mk_ok]
    exact ev_f (decide_eq_false (by omega)) ev_rfl

theorem l02Dot_ret (a b : Sim) (p : Int) (hp : 2 ≤ p ∧ p ≤ 251) (ha : a.length ≤ 32) (hb : a.length ≤ b.length) (ea : ∀ x ∈ a, 0 ≤ x ∧ x ≤ 250) (eb : ∀ x ∈ b, 0 ≤ x ∧ x ≤ 250) :
    Ret E n_spec_l02Dot [dL a, dL b, dI p] ⟨o_spec_l02Dot, (dotN (fun l => a.getD l 0) (fun l => b.getD l 0) a.length % p, ())⟩ := by
  refine ret_of ?_
  simp only [run_spec_l02Dot, spec_l02Dot.ev]
  refine Ev.start (p := fun φ n => spec_l02Dot.l0 (mkR (run E (φ 0))) (φ 0) n a b p 0 0 = _) 1 ?_ (fun _ _ _ h => h)
  have := fold_loop 1 (L := fun φ n k s => spec_l02Dot.l0 (mkR (run E (φ 0))) (φ 0) n a b p s k) (len := a.length) (fun k => dotN (fun l => a.getD l 0) (fun l => b.getD l 0) k % p) (r := some ⟨o_spec_l02Dot, (dotN (fun l => a.getD l 0) (fun l => b.getD l 0) a.length % p, ())⟩) (fun _ _ _ _ _ => rfl) (fun k r hk ih => ?_) ?_
  · simpa [dotN] using this
  · simp only [spec_l02Dot.l0_succ _ mk_ok]
    have hkb : k < b.length := by omega
    have hm := mul_in (ea _ (List.getElem_mem hk)) (eb _ (List.getElem_mem hkb))
    have h0 := Int.emod_nonneg (dotN (fun l => a.getD l 0) (fun l => b.getD l 0) k) (show p ≠ 0 by omega)
    have h1 := Int.emod_lt_of_pos (dotN (fun l => a.getD l 0) (fun l => b.getD l 0) k) (show 0 < p by omega)
    refine ev_t (decide_eq_true (by omega)) (ev_bind (idx_lt hk) (ev_bind (idx_lt hkb) (ev_chk (by simp; omega) ?_)))
    rw [w64_small (n := a[k] * b[k]) (by omega) (by omega), w64_small (by omega) (by omega), Int.tmod_eq_emod_of_nonneg (by omega), Int.emod_add_emod, w64_succ (by omega)]
    simp only [dotN] at ih
    rw [getD_lt hk, getD_lt hkb] at ih
    exact ih
  · simp only [spec_l02Dot.l0_succ _ mk_ok]
    exact ev_f (decide_eq_false (by omega)) ev_rfl

/-! rows in a wider matrix -/
def rowSt (m : Mat) (a : Nat) (t : Int) (i n : Nat) : St := (List.range n).map fun j => (a + j, m.2.2.2.1.getD (i * m.2.2.1.toNat + j) 0 * t % m.1)
def rowW (m : Mat) (a n : Nat) (t : Int) (i : Nat) : Sim := upds (rowSt m a t i m.2.2.1.toNat) (List.replicate n 0)

theorem rowSt_succ {m : Mat} {a : Nat} {t : Int} {i n : Nat} {cs : Sim} : upds (rowSt m a t i (n + 1)) cs = (upds (rowSt m a t i n) cs).set (a + n) (m.2.2.2.1.getD (i * m.2.2.1.toNat + n) 0 * t % m.1) := by
  unfold rowSt
  rw [List.range_succ, List.map_append, upds_append]; rfl

theorem rowW_length {m : Mat} {a n : Nat} {t : Int} {i : Nat} : (rowW m a n t i).length = n := by rw [rowW, upds_length, List.length_replicate]

theorem rowW_hit {m : Mat} {a n : Nat} {t : Int} {i j : Nat} (hj : j < m.2.2.1.toNat) (hn : a + j < n) : (rowW m a n t i).getD (a + j) 0 = m.2.2.2.1.getD (i * m.2.2.1.toNat + j) 0 * t % m.1 := by
  unfold rowW
  refine upds_hit (by rw [List.length_replicate]; exact hn) (fun x hx e => ?_) ⟨_, List.mem_map.2 ⟨j, List.mem_range.2 hj, rfl⟩, rfl⟩
  obtain ⟨j', _, rfl⟩ := List.mem_map.1 hx
  simp only at e ⊢
  obtain rfl : j' = j := by omega
  rfl

theorem rowW_miss {m : Mat} {a n : Nat} {t : Int} {i g : Nat} (h : ¬ (a ≤ g ∧ g < a + m.2.2.1.toNat)) : (rowW m a n t i).getD g 0 = 0 := by
  unfold rowW
  rw [upds_miss fun x hx e => ?_]
  · rw [List.getD_eq_getElem?_getD, List.getElem?_replicate]; split <;> rfl
  · obtain ⟨j', hj', rfl⟩ := List.mem_map.1 hx
    have := List.mem_range.1 hj'
    simp only at e
    omega

theorem rowW_elems {m : Mat} {a n : Nat} {t : Int} {i : Nat} (hp : 2 ≤ m.1) : Elems (rowW m a n t i) m.1 := by
  refine upds_elems (rep_elems hp) fun q hq => ?_
  obtain ⟨j, _, rfl⟩ := List.mem_map.1 hq
  have h0 := Int.emod_nonneg (m.2.2.2.1.getD (i * m.2.2.1.toNat + j) 0 * t) (show m.1 ≠ 0 by omega)
  have h1 := Int.emod_lt_of_pos (m.2.2.2.1.getD (i * m.2.2.1.toNat + j) 0 * t) (show 0 < m.1 by omega)
  simp only; omega

theorem l10Rows_ret (m : Mat) (a n : Nat) (t : Int) (hm : VM m) (ha : (a : Int) + m.2.2.1 ≤ n) (hn : n ≤ 64) (ht : 0 ≤ t ∧ t ≤ 250) : Ret E n_spec_l10Rows [dM m, dI (a : Int), dI (n : Int), dI t] ⟨o_spec_l10Rows, ((List.range m.2.1.toNat).map (rowW m a n t), ())⟩ := by
  obtain ⟨R, C, em, hR, hC, hlen⟩ := hm.nat
  have hp : 2 ≤ m.1 ∧ m.1 ≤ 251 := ⟨hm.1.1, hm.1.2.1⟩
  have el := hm.2.2.2.2
  have eR : m.2.1 = (R : Int) := congrArg (fun m : Mat => m.2.1) em
  have eC : m.2.2.1 = (C : Int) := congrArg (fun m : Mat => m.2.2.1) em
  have hRC := rc_le hR hC
  rw [eC] at ha
  rw [eR, Int.toNat_natCast]
  refine ret_of ?_
  simp only [run_spec_l10Rows, spec_l10Rows.ev]
  refine Ev.start (p := fun φ q => spec_l10Rows.l0 (mkR (run E (φ 0))) (φ 0) q m (a : Int) (n : Int) t 0 [] = _) 1 ?_ (fun _ _ _ h => h)
  refine fold_loop 1 (L := fun φ q i o => spec_l10Rows.l0 (mkR (run E (φ 0))) (φ 0) q m (a : Int) (n : Int) t i o) (len := R) (fun i => (List.range i).map (rowW m a n t)) (fun _ _ _ _ _ => rfl) (fun i r hi ih => ?_) ?_
  · simp only [spec_l10Rows.l0_succ _ mk_ok, eR, Int.toNat_natCast]
    rw [List.range_succ, List.map_append, List.map_singleton] at ih
    refine ev_t (decide_eq_true (by omega)) (ev_chk (by simp only [Bool.and_eq_true, decide_eq_true_eq]; omega) ?_)
    refine Ev.start (p := fun φ q => spec_l10Rows.l1 (mkR (run E (φ 0))) (φ 0) (φ 1) q m (a : Int) (n : Int) t (i : Int) 0 ((List.range i).map (rowW m a n t)) (List.replicate n 0) = _) 2 ?_ (fun _ _ _ h => h)
    refine fold_loop 2 (L := fun φ q j o => spec_l10Rows.l1 (mkR (run E (φ 0))) (φ 0) (φ 1) q m (a : Int) (n : Int) t (i : Int) j ((List.range i).map (rowW m a n t)) o) (len := C) (fun j => upds (rowSt m a t i j) (List.replicate n 0)) (fun _ _ _ _ _ => rfl) (fun j q hj ih2 => ?_) ?_
    · simp only [spec_l10Rows.l1_succ _ mk_ok]
      have hij : i * C + j < m.2.2.2.1.length := by rw [hlen]; exact lt_rc hi hj
      have hx := el.get hp (i * C + j)
      rw [rowSt_succ, eC, Int.toNat_natCast, getD_lt hij] at ih2
      rw [getD_lt hij] at hx
      have hol' : (upds (rowSt m a t i j) (List.replicate n 0)).length = n := by rw [upds_length, List.length_replicate]
      have ev := val_eq hx ht hp
      have e1 : w64 (w64 ((i : Int) * (C : Int)) + (j : Int)) = ((i * C + j : Nat) : Int) := by
        rw [cast_mul, w64_small (n := ((i * C : Nat) : Int)) (by omega) (by omega), w64_small (by omega) (by omega)]; omega
      have e2 : w64 ((a : Int) + (j : Int)) = ((a + j : Nat) : Int) := by rw [w64_small (by omega) (by omega)]; omega
      simp only [eC, e1, e2, hol', Int.toNat_natCast]
      refine ev_t (decide_eq_true (by omega)) (ev_bind (idx_lt hij) (ev_chk (by simp; omega) ?_))
      simp only [ev]
      refine ev_chk (by simp only [Bool.and_eq_true, decide_eq_true_eq]; omega) ?_
      rw [w64_succ (by omega)]
      exact ih2
    · simp only [spec_l10Rows.l1_succ _ mk_ok, eC]
      refine ev_f (decide_eq_false (by omega)) (ev_chk (by simp; omega) ?_)
      rw [w64_succ (by omega)]
      rw [rowW, eC, Int.toNat_natCast] at ih
      exact ih
  · simp only [spec_l10Rows.l0_succ _ mk_ok, eR]
    exact ev_f (decide_eq_false (by omega)) ev_rfl

theorem l10Sum_ret (a b : List Sim) (p : Int) (hp : 2 ≤ p ∧ p ≤ 251) (hl : b.length = a.length) (ha : a.length ≤ 1048576) (hr : ∀ i (h : i < a.length) (h' : i < b.length), a[i].length ≤ b[i].length ∧ a[i].length ≤ 1048576 ∧ (∀ x ∈ a[i], 0 ≤ x ∧ x ≤ 250) ∧ ∀ x ∈ b[i], 0 ≤ x ∧ x ≤ 250) :
    Ret E n_spec_l10Sum [dLL a, dLL b, dI p] ⟨o_spec_l10Sum, ((List.range a.length).map fun i => addV (a.getD i []) (b.getD i []) 1 p, ())⟩ := by
  refine ret_of ?_
  simp only [run_spec_l10Sum, spec_l10Sum.ev]
  refine Ev.start (p := fun φ n => spec_l10Sum.l0 (mkR (run E (φ 0))) (φ 0) n a b p 0 [] = _) 1 ?_ (fun _ _ _ h => h)
  refine fold_loop 1 (L := fun φ n k o => spec_l10Sum.l0 (mkR (run E (φ 0))) (φ 0) n a b p k o) (len := a.length) (fun k => (List.range k).map fun i => addV (a.getD i []) (b.getD i []) 1 p) (fun _ _ _ _ _ => rfl) (fun k r hk ih => ?_) ?_
  · simp only [spec_l10Sum.l0_succ _ mk_ok]
    have hkb : k < b.length := by omega
    obtain ⟨h1, h2, h3, h4⟩ := hr k hk hkb
    rw [List.range_succ, List.map_append, List.map_singleton, getD_lt hk, getD_lt hkb] at ih
    refine ev_t (decide_eq_true (by omega)) (ev_bind (idx_lt hk) (ev_bind (idx_lt hkb) (ev_call (l02Add_ret a[k] b[k] 1 p hp (by omega) h1 h2 h3 h4) (ev_chk (by simp; omega) ?_))))
    rw [w64_succ (by omega)]; exact ih
  · simp only [spec_l10Sum.l0_succ _ mk_ok]
    exact ev_f (decide_eq_false (by omega)) ev_rfl

end VeT

open Go Go.Proofs Ve
set_option linter.unusedVariables false
set_option linter.unusedSimpArgs false
namespace VeT

/-- a row of the coboundary matrix -/
noncomputable def rowC (c : List Sim) (p : Int) (st : Sim) (ms : List Mat) (k : Int) (r : Nat) : Sim := (List.range (SD c st k).toNat).map fun g => (cobC c p st ms k).getD (r * (SD c st k).toNat + g) 0

theorem rowC_length {c : List Sim} {p : Int} {st : Sim} {ms : List Mat} {k : Int} {r : Nat} : (rowC c p st ms k r).length = (SD c st k).toNat := by simp [rowC]

theorem rowC_get {c : List Sim} {p : Int} {st : Sim} {ms : List Mat} {k : Int} {r g : Nat} (h : g < (SD c st k).toNat) : (rowC c p st ms k r).getD g 0 = (cobC c p st ms k).getD (r * (SD c st k).toNat + g) 0 := by
  simp [rowC, List.getD_eq_getElem?_getD, h]

theorem rowC_in {c : List Sim} {p : Int} {st : Sim} {ms : List Mat} (h : VS c p st ms) {k : Int} {r : Nat} : ∀ x ∈ rowC c p st ms k r, 0 ≤ x ∧ x ≤ 250 := fun x hx => by
  unfold rowC at hx
  obtain ⟨g, _, rfl⟩ := List.mem_map.1 hx
  exact (cobC_elems h k).get ⟨h.2.1.1, h.2.1.2.1⟩ _

theorem getD_ext {a b : Sim} (hl : a.length = b.length) (h : ∀ i, i < a.length → a.getD i 0 = b.getD i 0) : a = b := by
  refine List.ext_getElem hl fun i h1 h2 => ?_
  have := h i h1
  rwa [getD_lt h1, getD_lt h2] at this

theorem fIdx_edge {c : List Sim} {s : Nat} (h2 : (c.getD s []).length = 2) : (fIdx c s).length = 2 := by
  rw [fIdx_length, if_pos (by omega)]; exact h2

/-- an edge's row: both its vertices' columns -/
theorem edge_row {c : List Sim} {p : Int} {st : Sim} {ms : List Mat} (h : VS c p st ms) {s i : Nat} (hs : s < c.length) (h2 : (c.getD s []).length = 2) (hi : i < (st.getD s 0).toNat) :
    addV (rowW (mp c ms s 0) (FC c st (fc c s 0)).toNat (SD c st 0).toNat 1 i) (rowW (mp c ms s 1) (FC c st (fc c s 1)).toNat (SD c st 0).toNat (p - 1) i) 1 p = rowC c p st ms 0 ((FC c st s).toNat + i) := by
  have hst := h.2.2.1.2.1
  have hp : 2 ≤ p ∧ p ≤ 251 := ⟨h.2.1.1, h.2.1.2.1⟩
  have hfl := fIdx_edge h2
  have hd : ((c.getD s []).length : Int) = 0 + 2 := by omega
  obtain ⟨a1, a2, a3, a4, a5, a6, a7⟩ := cob_geo h hs hd (a := 0) (by omega)
  obtain ⟨b1, b2, b3, b4, b5, b6, b7⟩ := cob_geo h hs hd (a := 1) (by omega)
  obtain ⟨_, A⟩ := h.map hs (i := 0) (by omega)
  obtain ⟨_, B⟩ := h.map hs (i := 1) (by omega)
  have hne : fc c s 0 ≠ fc c s 1 := fun e => by have := fc_inj h.1 hs (a := 0) (b := 1) (by omega) (by omega) e; omega
  have na := st_nn hst (fc c s 0)
  have nb := st_nn hst (fc c s 1)
  refine getD_ext (by rw [addV_length, rowW_length, rowC_length]) fun g hg => ?_
  rw [addV_length, rowW_length] at hg
  rw [addV_get (by rw [rowW_length]; exact hg), rowC_get hg]
  have one : ∀ x : Int, (x % p + 1 * 0) % p = x % p := fun x => by rw [Int.mul_zero, Int.add_zero, Int.emod_emod_of_dvd _ (Int.dvd_refl p)]
  have two : ∀ x : Int, (0 + 1 * (x % p)) % p = x % p := fun x => by rw [Int.one_mul, Int.zero_add, Int.emod_emod_of_dvd _ (Int.dvd_refl p)]
  have A1 : (mp c ms s 0).1 = p := A.2.1
  have B1 : (mp c ms s 1).1 = p := B.2.1
  by_cases hA : (FC c st (fc c s 0)).toNat ≤ g ∧ g < (FC c st (fc c s 0)).toNat + (st.getD (fc c s 0) 0).toNat
  · obtain ⟨j, rfl⟩ : ∃ j, g = (FC c st (fc c s 0)).toNat + j := ⟨g - (FC c st (fc c s 0)).toNat, by omega⟩
    have hj : j < (st.getD (fc c s 0) 0).toNat := by omega
    rw [rowW_hit (by rw [a2]; exact hj) hg, rowW_miss (m := mp c ms s 1), A1, one]
    · rw [cob_hit h (by omega) hs hd (a := 0) (by omega) hi hj]; rfl
    · rw [b2]
      intro hh
      obtain ⟨q, hq⟩ : ∃ q, (FC c st (fc c s 0)).toNat + j = (FC c st (fc c s 1)).toNat + q := ⟨(FC c st (fc c s 0)).toNat + j - (FC c st (fc c s 1)).toNat, by omega⟩
      exact hne (FC_uniq hst (by omega) hj (i' := q) (by omega) hq).1
  · by_cases hB : (FC c st (fc c s 1)).toNat ≤ g ∧ g < (FC c st (fc c s 1)).toNat + (st.getD (fc c s 1) 0).toNat
    · obtain ⟨j, rfl⟩ : ∃ j, g = (FC c st (fc c s 1)).toNat + j := ⟨g - (FC c st (fc c s 1)).toNat, by omega⟩
      have hj : j < (st.getD (fc c s 1) 0).toNat := by omega
      rw [rowW_miss (m := mp c ms s 0) (by rw [a2]; exact hA), rowW_hit (by rw [b2]; exact hj) hg, B1, two]
      rw [cob_hit h (by omega) hs hd (a := 1) (by omega) hi hj]; rfl
    · rw [rowW_miss (m := mp c ms s 0) (by rw [a2]; exact hA), rowW_miss (m := mp c ms s 1) (by rw [b2]; exact hB)]
      rw [cob_miss h hs hd hi hg fun a ha => ?_]
      · simp
      · have : a = 0 ∨ a = 1 := by omega
        rcases this with rfl | rfl
        · exact hA
        · exact hB

/-- the conditions of a section -/
noncomputable def conds (c : List Sim) (p : Int) (st : Sim) (ms : List Mat) (n : Nat) : List Sim := (List.range n).map (rowC c p st ms 0)

theorem conds_add {c : List Sim} {p : Int} {st : Sim} {ms : List Mat} {a b : Nat} : conds c p st ms (a + b) = conds c p st ms a ++ (List.range b).map fun i => rowC c p st ms 0 (a + i) := by
  induction b with
  | zero => simp
  | succ b ih =>
    unfold conds at ih ⊢
    rw [← Nat.add_assoc, List.range_succ, List.map_append, ih, List.range_succ, List.map_append, List.append_assoc]; rfl

theorem conds_length {c : List Sim} {p : Int} {st : Sim} {ms : List Mat} {n : Nat} : (conds c p st ms n).length = n := by simp [conds]

theorem sumD_FC {c : List Sim} {st : Sim} {d : Int} {t s : Nat} (ht : t < (ofDim c d c.length).length) (hs : (ofDim c d c.length)[t] = (s : Int)) (hd : ((c.getD s []).length : Int) = d + 1) (hsl : s < c.length) : sumD c st d t = FC c st s := by
  obtain ⟨tl, e⟩ := ofDim_pre (c := c) (d := d) hsl hd
  have hu : t = (ofDim c d s).length := by
    rcases Nat.lt_trichotomy t (ofDim c d s).length with h | h | h
    · have h1 : (ofDim c d c.length)[t]? = (ofDim c d s)[t]? := by rw [e, List.getElem?_append_left h]
      rw [List.getElem?_eq_getElem ht, List.getElem?_eq_getElem h, hs] at h1
      obtain ⟨i, hi, his⟩ := ofDim_mem (List.getElem_mem h)
      have := Option.some.inj h1
      omega
    · exact h
    · -- behind s only greater ones
      exfalso
      have hmono : ∀ n m i j, i < (ofDim c d n).length → j < (ofDim c d n).length → i < j → m = n → (ofDim c d n).getD i 0 < (ofDim c d n).getD j 0 := by
        intro n
        induction n with
        | zero => intro m i j hi; simp [ofDim] at hi
        | succ n ih =>
          intro m i j hi hj hij hm
          rw [ofDim_succ] at hi hj ⊢
          by_cases hl : ((c.getD n []).length : Int) = d + 1
          · rw [if_pos hl] at hi hj ⊢
            rw [List.length_append, List.length_singleton] at hi hj
            by_cases hjn : j < (ofDim c d n).length
            · have := ih n i j (by omega) hjn hij rfl
              rw [List.getD_eq_getElem?_getD, List.getD_eq_getElem?_getD, List.getElem?_append_left (by omega), List.getElem?_append_left hjn]
              rw [List.getD_eq_getElem?_getD, List.getD_eq_getElem?_getD] at this
              exact this
            · have hin : i < (ofDim c d n).length := by omega
              obtain ⟨q, hq, hqn⟩ := ofDim_mem (List.getElem_mem hin)
              rw [List.getD_eq_getElem?_getD, List.getD_eq_getElem?_getD, List.getElem?_append_left hin, List.getElem?_append_right (by omega), List.getElem?_eq_getElem hin, hq, show j - (ofDim c d n).length = 0 by omega]
              simp; omega
          · rw [if_neg hl, List.append_nil] at hi hj ⊢
            exact ih n i j hi hj hij rfl
      have hlt : (ofDim c d s).length < (ofDim c d c.length).length := by rw [e]; simp
      have := hmono c.length c.length _ t hlt ht h rfl
      rw [getD_lt ht, hs, List.getD_eq_getElem?_getD, e, List.getElem?_append_right (Nat.le_refl _), Nat.sub_self] at this
      simp at this
  have hdd : ((c.getD s []).length : Int) - 1 = d := by omega
  unfold FC
  rw [hdd]
  unfold sumD SDn
  rw [hu, e, List.take_left' rfl]

theorem l10Conditions_ret (x : Shf) (hc : Sm (.sl (.sl (.int .i64))) x.1) (h : VS x.1 x.2.1 x.2.2.1 x.2.2.2.1) : Ret E n_spec_l10Conditions [dS x] ⟨o_spec_l10Conditions, (conds x.1 x.2.1 x.2.2.1 x.2.2.2.1 (SD x.1 x.2.2.1 1).toNat, ())⟩ := by
  obtain ⟨c, p, st, ms, ⟨⟩⟩ := x
  have hc : Sm (.sl (.sl (.int .i64))) c := hc
  have h : VS c p st ms := h
  show Ret E n_spec_l10Conditions [dS (c, p, st, ms, ())] ⟨o_spec_l10Conditions, (conds c p st ms (SD c st 1).toNat, ())⟩
  obtain ⟨W, eW, bW, tW⟩ := SD_nat h 0
  obtain ⟨H, eH, bH, tH⟩ := SD_nat h 1
  have hst := h.2.2.1.2.1
  have h48 := h.1.1
  have hp : 2 ≤ p ∧ p ≤ 251 := ⟨h.2.1.1, h.2.1.2.1⟩
  have hol := ofDim_length c 1 c.length
  have ep : w64 (p - 1) = p - 1 := w64_small (by omega) (by omega)
  have all := l10All_ret (c, p, st, ms, ()) hc h
  rw [show SD (c, p, st, ms, ()).1 (c, p, st, ms, ()).2.2.1 0 = (W : Int) from eW] at all
  refine ret_of ?_
  simp only [run_spec_l10Conditions, spec_l10Conditions.ev]
  refine ev_call all (ev_call (l05Of_ret c 1 hc (by omega)) ?_)
  refine Ev.start (p := fun φ n => spec_l10Conditions.l0 (mkR (run E (φ 0))) (φ 0) n (c, p, st, ms, ()) (W : Int) (ofDim c 1 c.length) 0 [] = _) 1 ?_ (fun _ _ _ h => h)
  have := fold_loop 1 (L := fun φ n t o => spec_l10Conditions.l0 (mkR (run E (φ 0))) (φ 0) n (c, p, st, ms, ()) (W : Int) (ofDim c 1 c.length) t o) (len := (ofDim c 1 c.length).length) (fun t => conds c p st ms (sumD c st 1 t).toNat) (r := some ⟨o_spec_l10Conditions, (conds c p st ms (SD c st 1).toNat, ())⟩) (fun _ _ _ _ _ => rfl) (fun t q ht ih => ?_) ?_
  · exact this
  · simp only [spec_l10Conditions.l0_succ _ mk_ok]
    obtain ⟨s, hse, hs, hd⟩ := ofDim_iff.1 (List.getElem_mem ht)
    have hg : (ofDim c 1 c.length)[t]? = some (s : Int) := by rw [List.getElem?_eq_getElem ht, hse]
    have h2 : (c.getD s []).length = 2 := by omega
    have hfl := fIdx_edge h2
    have hd0 : ((c.getD s []).length : Int) = 0 + 2 := by omega
    obtain ⟨a1, a2, a3, a4, a5, a6, a7⟩ := cob_geo h hs hd0 (a := 0) (by omega)
    obtain ⟨b1, b2, b3, b4, b5, b6, b7⟩ := cob_geo h hs hd0 (a := 1) (by omega)
    obtain ⟨_, A⟩ := h.map hs (i := 0) (by omega)
    obtain ⟨_, B⟩ := h.map hs (i := 1) (by omega)
    obtain ⟨ix0, _, _⟩ := fc_get h.1 hs (i := 0) (by omega)
    obtain ⟨ix1, _, _⟩ := fc_get h.1 hs (i := 1) (by omega)
    have na := st_nn hst (fc c s 0)
    have nb := st_nn hst (fc c s 1)
    have ns := st_nn hst s
    have f0 := l10Start_ret (c, p, st, ms, ()) (fc c s 0) a3 (by show (c.getD (fc c s 0) []).length = 1; omega) h
    have f1 := l10Start_ret (c, p, st, ms, ()) (fc c s 1) b3 (by show (c.getD (fc c s 1) []).length = 1; omega) h
    obtain ⟨T0, e0⟩ := Int.eq_ofNat_of_zero_le a6
    obtain ⟨T1, e1⟩ := Int.eq_ofNat_of_zero_le b6
    rw [show FC (c, p, st, ms, ()).1 (c, p, st, ms, ()).2.2.1 (fc c s 0) = (T0 : Int) from e0] at f0
    rw [show FC (c, p, st, ms, ()).1 (c, p, st, ms, ()).2.2.1 (fc c s 1) = (T1 : Int) from e1] at f1
    have r0 := l10Rows_ret (mp c ms s 0) T0 W 1 A.1 (by omega) (by omega) (by omega)
    have r1 := l10Rows_ret (mp c ms s 1) T1 W (p - 1) B.1 (by omega) (by omega) (by omega)
    have A1 : (mp c ms s 0).1 = p := A.2.1
    have B1 : (mp c ms s 1).1 = p := B.2.1
    have hR0 : (mp c ms s 0).2.1.toNat = (st.getD s 0).toNat := by rw [a1]
    have hR1 : (mp c ms s 1).2.1.toNat = (st.getD s 0).toNat := by rw [b1]
    rw [hR0] at r0
    rw [hR1] at r1
    have hin : ∀ m : Mat, m.1 = p → ∀ a t i, ∀ x ∈ rowW m a W t i, 0 ≤ x ∧ x ≤ 250 := fun m hm a t i x hx => by
      have := rowW_elems (m := m) (a := a) (n := W) (t := t) (i := i) (by omega)
      rw [hm] at this
      exact this.mem hp x hx
    have sm := l10Sum_ret ((List.range (st.getD s 0).toNat).map (rowW (mp c ms s 0) T0 W 1)) ((List.range (st.getD s 0).toNat).map (rowW (mp c ms s 1) T1 W (p - 1))) p hp (by simp) (by rw [List.length_map, List.length_range]; omega) (fun i hi hi' => by
      simp only [List.getElem_map, List.getElem_range, rowW_length]
      exact ⟨Nat.le_refl _, by omega, hin _ A1 _ _ _, hin _ B1 _ _ _⟩)
    rw [List.length_map, List.length_range] at sm
    have hbk := sumD_le hst 1 t (c := c)
    have hFC := sumD_FC ht hse hd hs (st := st)
    have hrow : ((List.range (st.getD s 0).toNat).map fun i => addV (((List.range (st.getD s 0).toNat).map (rowW (mp c ms s 0) T0 W 1)).getD i []) (((List.range (st.getD s 0).toNat).map (rowW (mp c ms s 1) T1 W (p - 1))).getD i []) 1 p) = (List.range (st.getD s 0).toNat).map fun i => rowC c p st ms 0 ((sumD c st 1 t).toNat + i) := List.map_congr_left fun i hi => by
      have hi := List.mem_range.1 hi
      have hE := edge_row h hs h2 hi
      rw [e0, e1, Int.toNat_natCast, Int.toNat_natCast, tW] at hE
      rw [hFC, ← hE]
      generalize (st.getD s 0).toNat = n at hi ⊢
      simp [List.getD_eq_getElem?_getD, hi]
    rw [hrow] at sm
    rw [sumD_succ _ _ _ _ ht, hse, Int.toNat_natCast, show (sumD c st 1 t + st.getD s 0).toNat = (sumD c st 1 t).toNat + (st.getD s 0).toNat by omega, conds_add] at ih
    refine ev_t (decide_eq_true (by omega)) (ev_bind (idx_nat.trans hg) (ev_call (l05Faces_ret c s hs hc) (ev_bind (idx_nat.trans hg) (ev_bind ix0 (ev_call (l09Get_ret (c, p, st, ms, ()) s 0 hs (by show 0 < (fIdx c s).length; omega) h) (ev_call f0 (ev_call r0 (ev_bind (idx_nat.trans hg) (ev_bind ix1 (ev_call (l09Get_ret (c, p, st, ms, ()) s 1 hs (by show 1 < (fIdx c s).length; omega) h) (ev_call f1 ?_)))))))))))
    simp only [ep]
    refine ev_call r1 (ev_call sm (ev_chk (by simp only [conds_length, List.length_map, List.length_range, decide_eq_true_eq]; omega) ?_))
    rw [w64_succ (by omega)]
    exact ih
  · simp only [spec_l10Conditions.l0_succ _ mk_ok]
    exact ev_f (decide_eq_false (by omega)) ev_rfl

end VeT

open Go Go.Proofs Ve
set_option linter.unusedVariables false
set_option linter.unusedSimpArgs false
namespace VeT

/-! sections -/
def Sec (x : Shf) (v : Sim) : Prop := Coch x 0 v ∧ Zs (cobV x 0 v)

theorem sec_coch {x : Shf} {v : Sim} (hs : ISh x) (h : Coch x 0 v) : (ISh x ∧ (0 : Int) ≤ 0 ∧ (0 : Int) ≤ 3) ∧ Coch x 0 v := ⟨⟨hs, by omega, by omega⟩, h⟩

theorem isSection_ret (x : Shf) (v : Sim) (hx : Sm (.st cS) x) (hv : Sm (.sl (.int .i64)) v) (hs : ISh x) : Ret E n_impl_isSection [dLL x.1, dI x.2.1, dL x.2.2.1, dMs x.2.2.2.1, dL v] ⟨o_impl_isSection, (pb (Sec x v), ())⟩ := by
  have hp := hs.1.2.1
  refine ret_of ?_
  simp only [run_impl_isSection, impl_isSection.ev]
  refine ev_call (stalkSum_ret _ _ _ _ _ hx.1 hs.1.2.2.1.1 hs.1.2.2.1.2.1 (by omega)) (ev_call (isVector_ret v (SD x.1 x.2.2.1 0) x.2.1 hv.1 ⟨by have := hp.1; omega, by have := hp.2.1; omega⟩) (ev_b (fun h => ?_) fun h => ev_some ?_))
  · have h : Coch x 0 v := pb_iff.1 (show pb (Coch x 0 v) = true by simpa [Coch] using h)
    have hl := cobV_length (k := 0) (v := v) hs
    refine ev_call (coboundaryMatrix_ret x.1 x.2.1 x.2.2.1 x.2.2.2.1 0 (by omega) hx.1 hs.1) (ev_call (cob_apply (sec_coch hs h)) (ev_call (isZero_ret (cobV x 0 v) (by omega)) (ev_some ?_)))
    exact congrArg (fun b : Bool => some (⟨o_impl_isSection, (b, ())⟩ : Dv)) (pb_congr ⟨fun e => ⟨h, e⟩, fun e => e.2⟩)
  · have h : ¬ Coch x 0 v := pb_not.1 (show pb (Coch x 0 v) = false by simpa [Coch] using h)
    rw [pb_false fun e => h e.1]

theorem l02Numbers_ret (v : Sim) (p : Int) (hv : v.length ≤ 1048576) (hp : 0 ≤ p ∧ p ≤ 1048576) : Ret E n_spec_l02Numbers [dL v, dI p] ⟨o_spec_l02Numbers, (pb (Elems v p ∧ v.length ≤ 64), ())⟩ := by
  have e : w64 (p - 1) = p - 1 := w64_small (by omega) (by omega)
  refine ret_of ?_
  simp only [run_spec_l02Numbers, spec_l02Numbers.ev]
  refine Ev.start (p := fun φ n' => spec_l02Numbers.l0 (mkR (run E (φ 0))) (φ 0) n' v p 0 = _) 1 ?_ (fun _ _ _ h => h)
  refine (all_pb 1 (L := fun φ n' k => spec_l02Numbers.l0 (mkR (run E (φ 0))) (φ 0) n' v p k) (len := v.length) 0 (by omega) (fun j => 0 ≤ v.getD j 0 ∧ v.getD j 0 ≤ p - 1) (fun b => some ⟨o_spec_l02Numbers, (b && decide ((v.length : Int) ≤ 64), ())⟩) (fun _ _ _ _ => rfl) (fun k h1 h2 hP _ => ?_) (fun k r h1 h2 hP _ ih => ?_) (fun _ => ?_)).to ?_
  · simp only [spec_l02Numbers.l0_succ _ mk_ok, e]
    rw [getD_lt h2] at hP
    exact ev_t (decide_eq_true (by omega)) (ev_bind (idx_lt h2) (ev_call (l00In_ret _ _ _) (ev_t (by rw [pb_false hP]; rfl) ev_rfl)))
  · simp only [spec_l02Numbers.l0_succ _ mk_ok, e]
    rw [getD_lt h2] at hP
    refine ev_t (decide_eq_true (by omega)) (ev_bind (idx_lt h2) (ev_call (l00In_ret _ _ _) (ev_f (by rw [pb_true hP]; rfl) ?_)))
    rw [w64_succ (by omega)]; exact ih
  · simp only [spec_l02Numbers.l0_succ _ mk_ok]
    exact ev_f (decide_eq_false (by omega)) (ev_some (by rw [Bool.true_and]))
  · have : (pb (∀ j, 0 ≤ j → j < v.length → 0 ≤ v.getD j 0 ∧ v.getD j 0 ≤ p - 1) && decide ((v.length : Int) ≤ 64)) = pb (Elems v p ∧ v.length ≤ 64) := eq_pb (by
      rw [Bool.and_eq_true, pb_iff, decide_eq_true_iff]
      refine ⟨fun ⟨h, h2⟩ => ⟨fun x hx => ?_, by omega⟩, fun ⟨h, h2⟩ => ⟨fun j _ hj => ?_, by omega⟩⟩
      · obtain ⟨j, hj, rfl⟩ := List.mem_iff_getElem.1 hx
        have := h j (by omega) hj
        rwa [getD_lt hj] at this
      · rw [getD_lt hj]; exact h _ (List.getElem_mem hj))
    rw [this]

theorem l04Vector_ret (p n : Int) (v : Sim) (hv : v.length ≤ 1048576) (hp : 0 ≤ p ∧ p ≤ 1048576) (hn : n ≤ 64) : Ret E n_spec_l04Vector [dI p, dI n, dL v] ⟨o_spec_l04Vector, (pb (Elems v p ∧ (v.length : Int) = n), ())⟩ := by
  refine ret_of ?_
  simp only [run_spec_l04Vector, spec_l04Vector.ev]
  refine ev_call (l02Numbers_ret v p hv hp) (ev_b (fun h => ev_some ?_) fun h => ev_some ?_)
  · have h := pb_iff.1 (show pb (Elems v p ∧ v.length ≤ 64) = true by simpa using h)
    have : ((v.length : Int) == n) = pb (Elems v p ∧ (v.length : Int) = n) := eq_pb (by
      rw [beq_iff_eq]; exact ⟨fun e => ⟨h.1, e⟩, fun e => e.2⟩)
    rw [this]
  · have h := pb_not.1 (show pb (Elems v p ∧ v.length ≤ 64) = false by simpa using h)
    rw [pb_false fun e => h ⟨e.1, by omega⟩]

theorem l10Is_ret (x : Shf) (v : Sim) (hx : Sm (.st cS) x) (hv : Sm (.sl (.int .i64)) v) (hs : ISh x) : Ret E n_spec_l10Is [dS x, dL v] ⟨o_spec_l10Is, (pb (Sec x v), ())⟩ := by
  have hp := hs.1.2.1
  have hp2 : 2 ≤ x.2.1 ∧ x.2.1 ≤ 251 := ⟨hp.1, hp.2.1⟩
  obtain ⟨W, eW, bW, tW⟩ := SD_nat hs.1 0
  obtain ⟨H, eH, bH, tH⟩ := SD_nat hs.1 1
  refine ret_of ?_
  simp only [run_spec_l10Is, spec_l10Is.ev]
  refine ev_call (l10All_ret x hx.1 hs.1) (ev_call (l04Vector_ret x.2.1 (SD x.1 x.2.2.1 0) v hv.1 (by omega) (by omega)) (ev_b (fun h => ev_some ?_) fun h => ?_))
  · have h : ¬ Coch x 0 v := pb_not.1 (show pb (Coch x 0 v) = false by simpa [Coch] using h)
    rw [pb_false fun e => h e.1]
  have h : Coch x 0 v := pb_iff.1 (show pb (Coch x 0 v) = true by simpa [Coch] using h)
  have hvl : v.length = W := by have := h.2; omega
  have hin := h.1.mem hp2
  refine ev_call (l10Conditions_ret x hx.1 hs.1) ?_
  rw [tH]
  refine Ev.start (p := fun φ n' => spec_l10Is.l0 (mkR (run E (φ 0))) (φ 0) n' x v (conds x.1 x.2.1 x.2.2.1 x.2.2.2.1 H) 0 = _) 1 ?_ (fun _ _ _ h => h)
  have hval : ∀ k, k < H → (dotN (fun l => (rowC x.1 x.2.1 x.2.2.1 x.2.2.2.1 0 k).getD l 0) (fun l => v.getD l 0) (rowC x.1 x.2.1 x.2.2.1 x.2.2.2.1 0 k).length % x.2.1) = (cobV x 0 v).getD k 0 := fun k hk => by
    have e : (cobV x 0 v).getD k 0 = dotN (fun l => (cobX x 0).2.2.2.1.getD (k * W + l) 0) (fun l => v.getD l 0) W % x.2.1 := by
      have e1 : (cobX x 0).2.2.1.toNat = W := tW
      have e2 : (SD x.1 x.2.2.1 (0 + 1)).toNat = H := tH
      unfold cobV appV
      rw [e2, List.getD_eq_getElem?_getD, List.getElem?_map, List.getElem?_range hk, e1]
      rfl
    rw [e, rowC_length, tW, dotN_congr fun l hl => ⟨(rowC_get (by rw [tW]; exact hl)), rfl⟩, tW]
    rfl
  have hdot : ∀ k (hk : k < H), Ret E n_spec_l02Dot [dL (rowC x.1 x.2.1 x.2.2.1 x.2.2.2.1 0 k), dL v, dI x.2.1] ⟨o_spec_l02Dot, ((cobV x 0 v).getD k 0, ())⟩ := fun k hk => by
    rw [← hval k hk]
    exact l02Dot_ret _ v x.2.1 hp2 (by rw [rowC_length]; omega) (by rw [rowC_length]; omega) (rowC_in hs.1) hin
  have hg : ∀ k, k < H → (conds x.1 x.2.1 x.2.2.1 x.2.2.2.1 H)[k]? = some (rowC x.1 x.2.1 x.2.2.1 x.2.2.2.1 0 k) := fun k hk => by
    unfold conds
    rw [List.getElem?_map, List.getElem?_range hk]; rfl
  have hcl : (cobV x 0 v).length = H := by unfold cobV; rw [appV_length]; exact tH
  refine (all_pb 1 (L := fun φ n' k => spec_l10Is.l0 (mkR (run E (φ 0))) (φ 0) n' x v (conds x.1 x.2.1 x.2.2.1 x.2.2.2.1 H) k) (len := H) 0 (by omega) (fun j => (cobV x 0 v).getD j 0 = 0) (fun b => some ⟨o_spec_l10Is, (b, ())⟩) (fun _ _ _ _ => rfl) (fun k h1 h2 hP _ => ?_) (fun k r h1 h2 hP _ ih => ?_) (fun _ => ?_)).to ?_
  · simp only [spec_l10Is.l0_succ _ mk_ok, conds_length]
    exact ev_t (decide_eq_true (by omega)) (ev_bind (idx_nat.trans (hg k h2)) (ev_call (hdot k h2) (ev_t (by simpa using hP) ev_rfl)))
  · simp only [spec_l10Is.l0_succ _ mk_ok, conds_length]
    refine ev_t (decide_eq_true (by omega)) (ev_bind (idx_nat.trans (hg k h2)) (ev_call (hdot k h2) (ev_f (by simpa using hP) ?_)))
    rw [w64_succ (by omega)]; exact ih
  · simp only [spec_l10Is.l0_succ _ mk_ok, conds_length]
    exact ev_f (decide_eq_false (by omega)) ev_rfl
  · rw [← hcl, zs_pb]
    exact congrArg (fun b : Bool => some (⟨o_spec_l10Is, (b, ())⟩ : Dv)) (pb_congr ⟨fun e => ⟨h, e⟩, fun e => e.2⟩)

noncomputable def IsSectionV (x : Shf) (v : Sim) : Bool × Unit := (pb (ISh x ∧ Sec x v), ())

/-! the first vertex -/
noncomputable def fvx (c : List Sim) (s : Nat) : Nat := (findI c ((c.getD s []).take 1)).toNat

theorem take_mem {c : List Sim} (h : VC c) {s : Nat} (hs : s < c.length) : ∀ d n, n + d = (c.getD s []).length → 1 ≤ n → (c.getD s []).take n ∈ c
  | 0, n, e, _ => by
    rw [List.take_of_length_le (by omega), getD_lt hs]; exact List.getElem_mem hs
  | d + 1, n, e, h1 => by
    have hm := take_mem h hs d (n + 1) (by omega) (by omega)
    obtain ⟨k, hk, ek⟩ := List.mem_iff_getElem.1 hm
    have hf := h.2.2.2 k hk ((c.getD s []).take n) (faces_mem.2 ⟨?_, n, ?_, ?_⟩)
    · exact hf
    · rw [getD_lt hk, ek, List.length_take]; omega
    · rw [getD_lt hk, ek, List.length_take]; omega
    · rw [getD_lt hk, ek]
      apply List.ext_getElem?
      intro j
      rw [List.getElem?_eraseIdx, List.getElem?_take, List.getElem?_take, List.getElem?_take]
      by_cases hj : j < n
      · rw [if_pos hj, if_pos hj, if_pos (by omega)]
      · rw [if_neg hj, if_neg hj, if_neg (by omega)]

theorem fvx_get {c : List Sim} (h : VC c) {s : Nat} (hs : s < c.length) : findI c ((c.getD s []).take 1) = ((fvx c s : Nat) : Int) ∧ fvx c s < c.length ∧ c.getD (fvx c s) [] = (c.getD s []).take 1 ∧ (c.getD (fvx c s) []).length = 1 ∧ Part (c.getD (fvx c s) []) (c.getD s []) := by
  have h1 := h.len1 hs
  have hm := take_mem h hs ((c.getD s []).length - 1) 1 (by omega) (by omega)
  have h0 := findI_nonneg.2 hm
  have hlt := findI_lt (c := c) (s := (c.getD s []).take 1)
  have hg := findI_get hm
  refine ⟨by unfold fvx; omega, by unfold fvx; omega, hg, ?_, fun y hy => ?_⟩
  · show (c.getD (findI c ((c.getD s []).take 1)).toNat []).length = 1
    rw [hg, List.length_take]; omega
  · have hy : y ∈ c.getD (findI c ((c.getD s []).take 1)).toNat [] := hy
    rw [hg] at hy
    exact List.mem_of_mem_take hy

theorem firstVertex_ret (x : Shf) (s : Nat) (hs : s < x.1.length) (hc : Sm (.sl (.sl (.int .i64))) x.1) (h : VC x.1) : Ret E n_impl_firstVertex [dLL x.1, dI x.2.1, dL x.2.2.1, dMs x.2.2.2.1, dI (s : Int)] ⟨o_impl_firstVertex, ((fvx x.1 s : Nat), ())⟩ := by
  have h1 := h.len1 hs
  have hg := (fvx_get h hs).1
  rw [getD_lt hs] at h1 hg
  refine ret_of ?_
  simp only [run_impl_firstVertex, impl_firstVertex.ev]
  refine ev_bind (idx_lt hs) (ev_chk (by simp only [Bool.and_eq_true, decide_eq_true_eq]; omega) (ev_call (indexOf_ret x.1 _ hc h.srt) (ev_some ?_)))
  rw [← hg]; rfl

theorem l10First_ret (x : Shf) (s : Nat) (hs : s < x.1.length) (hc : Sm (.sl (.sl (.int .i64))) x.1) (h : VC x.1) : Ret E n_spec_l10First [dS x, dI (s : Int)] ⟨o_spec_l10First, ((fvx x.1 s : Nat), ())⟩ := by
  have h1 := h.len1 hs
  have hg := (fvx_get h hs).1
  rw [getD_lt hs] at h1 hg
  refine ret_of ?_
  simp only [run_spec_l10First, spec_l10First.ev]
  refine ev_bind (idx_lt hs) (ev_chk (by simp only [Bool.and_eq_true, decide_eq_true_eq]; omega) (ev_call (l05Find_ret (x.1, ()) _ hc) (ev_some ?_)))
  rw [← hg]; rfl

/-! the column of a section at a simplex -/
theorem restV_cols {c : List Sim} {p : Int} {st : Sim} {ms : List Mat} {f : Nat} (hst : ∀ x ∈ st, 0 ≤ x ∧ x ≤ 3) : ∀ {d k : Nat}, (restV c p st ms f d k).2.2.1 = st.getD f 0
  | 0, k => by
    have := st_nn hst f
    show (((st.getD f 0).toNat : Nat) : Int) = _; omega
  | d + 1, k => by
    have := st_nn hst f
    rw [restV]; split
    · show (((st.getD f 0).toNat : Nat) : Int) = _; omega
    · exact restV_cols hst (d := d)

noncomputable def restX (x : Shf) (f k : Nat) : Mat := restV x.1 x.2.1 x.2.2.1 x.2.2.2.1 f (x.1.getD k []).length k

theorem partV_length {c : List Sim} {st v : Sim} {s : Nat} (hst : ∀ x ∈ st, 0 ≤ x ∧ x ≤ 3) (h : FC c st s + st.getD s 0 ≤ v.length) : ((partV c st v s).length : Int) = st.getD s 0 := by
  have h0 : 0 ≤ FC c st s := (SDn_nn hst).1
  have h1 := st_nn hst s
  unfold partV
  rw [List.length_drop, List.length_take]; omega

noncomputable def atV (x : Shf) (v : Sim) (s : Nat) : Sim := appV (restX x (fvx x.1 s) s) (partV x.1 x.2.2.1 v (fvx x.1 s)) (x.2.2.1.getD s 0).toNat

theorem atV_length {x : Shf} {v : Sim} {s : Nat} (h : VS x.1 x.2.1 x.2.2.1 x.2.2.2.1) : (atV x v s).length ≤ 3 := by
  have := st_nn h.2.2.1.2.1 s
  unfold atV; rw [appV_length]; omega

theorem vert_part {x : Shf} {v : Sim} (h : VS x.1 x.2.1 x.2.2.1 x.2.2.2.1) (hv : Coch x 0 v) {f : Nat} (hf : f < x.1.length) (h1 : (x.1.getD f []).length = 1) : FC x.1 x.2.2.1 f + x.2.2.1.getD f 0 ≤ v.length := by
  have hb := (FC_bound h.2.2.1.2.1 hf).2
  rw [show ((x.1.getD f []).length : Int) - 1 = 0 by omega, ← hv.2] at hb
  exact hb

theorem sectionAt_ret (x : Shf) (v : Sim) (s : Nat) (hs : s < x.1.length) (hx : Sm (.st cS) x) (hv1 : Sm (.sl (.int .i64)) v) (h : VS x.1 x.2.1 x.2.2.1 x.2.2.2.1) (hv : Coch x 0 v) :
    Ret E n_impl_sectionAt [dLL x.1, dI x.2.1, dL x.2.2.1, dMs x.2.2.2.1, dL v, dI (s : Int)] ⟨o_impl_sectionAt, (atV x v s, ())⟩ := by
  obtain ⟨_, hf, _, hf1, hpt⟩ := fvx_get h.1 hs
  have hst := h.2.2.1.2.1
  have hp2 : 2 ≤ x.2.1 ∧ x.2.1 ≤ 251 := ⟨h.2.1.1, h.2.1.2.1⟩
  have hpl := vert_part h hv hf hf1
  obtain ⟨⟨hVM, hR⟩, r1, _⟩ := rest_ret x.1 x.2.1 x.2.2.1 x.2.2.2.1 hx.1 h (fvx x.1 s) hf _ s hs (Nat.le_refl _) hpt
  refine ret_of ?_
  simp only [run_impl_sectionAt, impl_sectionAt.ev]
  refine ev_call (firstVertex_ret x s hs hx.1 h.1) (ev_call r1 (ev_call (part_ret x.1 x.2.1 x.2.2.1 x.2.2.2.1 v (fvx x.1 s) hf hx.1 h.2.2.1.1 hst hpl hv1.1) (ev_call (apply_ret (restX x (fvx x.1 s) s) (partV x.1 x.2.2.1 v (fvx x.1 s)) hVM (by unfold restX; rw [restV_cols hst, partV_length hst hpl]; exact Int.le_refl _) fun y hy => hv.1.mem hp2 y (List.mem_of_mem_take (List.mem_of_mem_drop hy))) (ev_some ?_))))
  have : (restX x (fvx x.1 s) s).2.1 = x.2.2.1.getD s 0 := hR
  rw [this]; rfl

theorem l10At_ret (x : Shf) (v : Sim) (s : Nat) (hs : s < x.1.length) (hx : Sm (.st cS) x) (hv1 : Sm (.sl (.int .i64)) v) (h : VS x.1 x.2.1 x.2.2.1 x.2.2.2.1) (hv : Coch x 0 v) :
    Ret E n_spec_l10At [dS x, dL v, dI (s : Int)] ⟨o_spec_l10At, (atV x v s, ())⟩ := by
  obtain ⟨_, hf, _, hf1, hpt⟩ := fvx_get h.1 hs
  have hst := h.2.2.1.2.1
  have hp2 : 2 ≤ x.2.1 ∧ x.2.1 ≤ 251 := ⟨h.2.1.1, h.2.1.2.1⟩
  have hpl := vert_part h hv hf hf1
  have hv2 : v.length ≤ 1048576 := hv1.1
  obtain ⟨⟨hVM, hR⟩, _, r2⟩ := rest_ret x.1 x.2.1 x.2.2.1 x.2.2.2.1 hx.1 h (fvx x.1 s) hf _ s hs (Nat.le_refl _) hpt
  have hlen := partV_length hst hpl
  have hsl : fvx x.1 s < x.2.2.1.length := by rw [h.2.2.1.1]; exact hf
  have hb1 : 0 ≤ FC x.1 x.2.2.1 (fvx x.1 s) := (SDn_nn hst).1
  have hb2 := st_nn hst (fvx x.1 s)
  have e1 : w64 (FC x.1 x.2.2.1 (fvx x.1 s) + x.2.2.1.getD (fvx x.1 s) 0) = FC x.1 x.2.2.1 (fvx x.1 s) + x.2.2.1.getD (fvx x.1 s) 0 := w64_small (by omega) (by omega)
  have ap := l03Apply_ret (restX x (fvx x.1 s) s) (partV x.1 x.2.2.1 v (fvx x.1 s)) hVM (by unfold restX; rw [restV_cols hst, hlen]; exact Int.le_refl _) fun y hy => hv.1.mem hp2 y (List.mem_of_mem_take (List.mem_of_mem_drop hy))
  rw [show (restX x (fvx x.1 s) s).2.1 = x.2.2.1.getD s 0 from hR] at ap
  unfold partV at ap
  rw [getD_lt hsl] at e1 hpl hb2 ap
  have hq : FC x.1 x.2.2.1 (fvx x.1 s) ≤ FC x.1 x.2.2.1 (fvx x.1 s) + x.2.2.1[fvx x.1 s] := by omega
  refine ret_of ?_
  simp only [run_spec_l10At, spec_l10At.ev]
  refine ev_call (l10First_ret x s hs hx.1 h.1) (ev_call r2 (ev_call (l10Start_ret x (fvx x.1 s) hf hf1 h) (ev_bind (idx_lt hsl) ?_)))
  simp only [e1]
  refine ev_chk (by simp only [Bool.and_eq_true, decide_eq_true_eq]; exact ⟨⟨hb1, hq⟩, hpl⟩) (ev_call ap (ev_some ?_))
  rw [atV, partV, getD_lt hsl]

end VeT

open Go Go.Proofs Ve
set_option linter.unusedVariables false
set_option linter.unusedSimpArgs false
namespace VeT

/-! places -/
def Plcs (c : List Sim) (w : Sim) : Prop := Rises w ∧ ∀ y ∈ w, 0 ≤ y ∧ y ≤ (c.length : Int) - 1

theorem arePlaces_ret (x : Shf) (w : Sim) (hc : x.1.length ≤ 1048576) (hw : Sm (.sl (.int .i64)) w) : Ret E n_impl_arePlaces [dLL x.1, dI x.2.1, dL x.2.2.1, dMs x.2.2.2.1, dL w] ⟨o_impl_arePlaces, (pb (Plcs x.1 w), ())⟩ := by
  refine ret_of ?_
  simp only [run_impl_arePlaces, impl_arePlaces.ev]
  refine ev_call (isRising_ret w hw) (ev_b (fun h => ev_call (sizeL_ret x.1) (ev_call (areElements_ret w (x.1.length : Int) hw.1 ⟨by omega, by omega⟩) (ev_some ?_))) fun h => ev_some ?_)
  · have h := pb_iff.1 (show pb (Rises w) = true by simpa using h)
    exact congrArg (fun b : Bool => some (⟨o_impl_arePlaces, (b, ())⟩ : Dv)) (pb_congr ⟨fun e => ⟨h, e⟩, fun e => e.2⟩)
  · have h := pb_not.1 (show pb (Rises w) = false by simpa using h)
    rw [pb_false fun e => h e.1]

theorem l10Places_ret (x : Shf) (w : Sim) (hc : x.1.length ≤ 1048576) (hw : Sm (.sl (.int .i64)) w) : Ret E n_spec_l10Places [dS x, dL w] ⟨o_spec_l10Places, (pb (Plcs x.1 w), ())⟩ := by
  have e : w64 ((x.1.length : Int) - 1) = (x.1.length : Int) - 1 := w64_small (by omega) (by omega)
  refine ret_of ?_
  simp only [run_spec_l10Places, spec_l10Places.ev, e]
  exact ev_call (l00Rises_ret w 0 ((x.1.length : Int) - 1) hw) ev_rfl

theorem Plcs.get {c : List Sim} {w : Sim} (h : Plcs c w) {i : Nat} (hi : i < w.length) : ∃ n : Nat, w[i] = (n : Int) ∧ n < c.length := by
  have := h.2 _ (List.getElem_mem hi)
  exact ⟨(w[i]).toNat, by omega, by omega⟩

open Classical in
noncomputable def PC (x : Shf) (w : Sim) : Int := if ISh x then (if Plcs x.1 w then 0 else 2) else 1

theorem PC_zero {x : Shf} {w : Sim} : PC x w = 0 ↔ ISh x ∧ Plcs x.1 w := by
  unfold PC; split
  · rename_i h
    split
    · rename_i h2; exact ⟨fun _ => ⟨h, h2⟩, fun _ => rfl⟩
    · rename_i h2; exact ⟨fun e => by omega, fun e => absurd e.2 h2⟩
  · rename_i h; exact ⟨fun e => by omega, fun e => absurd e.1 h⟩

theorem placed_ret (x : Shf) (w : Sim) (hx : Sm (.st cS) x) (hw : Sm (.sl (.int .i64)) w) : Ret E n_impl_placed [dLL x.1, dI x.2.1, dL x.2.2.1, dMs x.2.2.2.1, dL w] ⟨o_impl_placed, (PC x w, ())⟩ := by
  refine ret_of ?_
  simp only [run_impl_placed, impl_placed.ev]
  refine ev_call (implIsSheaf_ret x hx) (ev_b (fun h => ev_some ?_) fun h => ev_call (arePlaces_ret x w hx.1.1 hw) (ev_b (fun h2 => ev_some ?_) fun h2 => ev_some ?_))
  · rw [PC, if_neg (pb_not.1 (show pb (ISh x) = false by simpa using h))]
  · rw [PC, if_pos (pb_iff.1 (show pb (ISh x) = true by simpa using h)), if_neg (pb_not.1 (show pb (Plcs x.1 w) = false by simpa using h2))]
  · rw [PC, if_pos (pb_iff.1 (show pb (ISh x) = true by simpa using h)), if_pos (pb_iff.1 (show pb (Plcs x.1 w) = true by simpa using h2))]

/-! values at places -/
noncomputable def valsV (x : Shf) (v w : Sim) (n : Nat) : Sim := ((w.take n).map fun k => atV x v k.toNat).flatten

theorem valsV_succ {x : Shf} {v w : Sim} {n : Nat} (hn : n < w.length) {s : Nat} (hs : w[n] = (s : Int)) : valsV x v w (n + 1) = valsV x v w n ++ atV x v s := by
  unfold valsV
  rw [List.take_succ_eq_append_getElem hn, List.map_append, List.flatten_append, hs]
  simp

theorem valsV_length {x : Shf} {v w : Sim} (h : VS x.1 x.2.1 x.2.2.1 x.2.2.2.1) {n : Nat} : (valsV x v w n).length ≤ 3 * n := by
  induction n with
  | zero => simp [valsV]
  | succ n ih =>
    by_cases hn : n < w.length
    · have h3 := atV_length (s := (w[n]).toNat) (v := v) h
      unfold valsV at ih ⊢
      rw [List.take_succ_eq_append_getElem hn, List.map_append, List.flatten_append, List.length_append]
      simp only [List.map_cons, List.map_nil, List.flatten_cons, List.flatten_nil, List.append_nil]
      omega
    · unfold valsV at ih ⊢
      rw [List.take_of_length_le (by omega)] at ih ⊢
      omega

theorem valuesOn_ret (x : Shf) (v w : Sim) (hx : Sm (.st cS) x) (hv1 : Sm (.sl (.int .i64)) v) (hw : Sm (.sl (.int .i64)) w) (h : VS x.1 x.2.1 x.2.2.1 x.2.2.2.1) (hv : Coch x 0 v) (hp : Plcs x.1 w) :
    Ret E n_impl_valuesOn [dLL x.1, dI x.2.1, dL x.2.2.1, dMs x.2.2.2.1, dL v, dL w] ⟨o_impl_valuesOn, (valsV x v w w.length, ())⟩ := by
  have hw1 : w.length ≤ 1048576 := hw.1
  refine ret_of ?_
  simp only [run_impl_valuesOn, impl_valuesOn.ev]
  refine Ev.start (p := fun φ n => impl_valuesOn.l0 (mkR (run E (φ 0))) (φ 0) n v w (w.length : Int) 0 x.1 x.2.1 x.2.2.1 x.2.2.2.1 [] = _) 1 ?_ (fun _ _ _ h => h)
  refine fold_loop 1 (L := fun φ n k o => impl_valuesOn.l0 (mkR (run E (φ 0))) (φ 0) n v w (w.length : Int) k x.1 x.2.1 x.2.2.1 x.2.2.2.1 o) (len := w.length) (fun k => valsV x v w k) (fun _ _ _ _ _ => rfl) (fun k r hk ih => ?_) ?_
  · simp only [impl_valuesOn.l0_succ _ mk_ok]
    obtain ⟨s, hs, hsl⟩ := hp.get hk
    have hg : w[k]? = some (s : Int) := by rw [List.getElem?_eq_getElem hk, hs]
    rw [valsV_succ hk hs] at ih
    have hl := valsV_length (v := v) (w := w) (n := k) h
    have h3 := atV_length (s := s) (v := v) h
    refine ev_t (decide_eq_true (by omega)) (ev_bind (idx_nat.trans hg) (ev_call (sectionAt_ret x v s hsl hx hv1 h hv) (ev_chk (decide_eq_true (by show (_ + (atV x v s).length) * 8 ≤ _; omega)) ?_)))
    rw [w64_succ (by omega)]; exact ih
  · simp only [impl_valuesOn.l0_succ _ mk_ok]
    exact ev_f (decide_eq_false (by omega)) ev_rfl

open Classical in
noncomputable def ValuesOnV (x : Shf) (v w : Sim) : Sim × Int × Unit := if PC x w = 0 then (if Sec x v then (valsV x v w w.length, 0, ()) else ([], 6, ())) else ([], PC x w, ())

theorem implValuesOn_ret (x : Shf) (v w : Sim) (hx : Sm (.st cS) x) (hv1 : Sm (.sl (.int .i64)) v) (hw : Sm (.sl (.int .i64)) w) : Ret E n_impl_ValuesOn [dLL x.1, dI x.2.1, dL x.2.2.1, dMs x.2.2.2.1, dL v, dL w] ⟨o_impl_ValuesOn, ValuesOnV x v w⟩ := by
  refine ret_of ?_
  simp only [run_impl_ValuesOn, impl_ValuesOn.ev]
  refine ev_call (placed_ret x w hx hw) (ev_b (fun h => ev_some ?_) fun h => ?_)
  · have h : ¬ PC x w = 0 := by simpa using h
    rw [ValuesOnV, if_neg h]
  · have h : PC x w = 0 := by simpa using h
    obtain ⟨hs, hpl⟩ := PC_zero.1 h
    rw [ValuesOnV, if_pos h]
    refine ev_call (isSection_ret x v hx hv1 hs) (ev_b (fun h2 => ev_some ?_) fun h2 => ?_)
    · rw [if_neg (pb_not.1 (show pb (Sec x v) = false by simpa using h2))]
    · have h2 := pb_iff.1 (show pb (Sec x v) = true by simpa using h2)
      rw [if_pos h2]
      exact ev_call (valuesOn_ret x v w hx hv1 hw hs.1 h2.1 hpl) ev_rfl

theorem specValuesOn_ret (x : Shf) (v w : Sim) (hx : Sm (.st cS) x) (hv1 : Sm (.sl (.int .i64)) v) (hw : Sm (.sl (.int .i64)) w) : Ret E n_spec_ValuesOn [dLL x.1, dI x.2.1, dL x.2.2.1, dMs x.2.2.2.1, dL v, dL w] ⟨o_spec_ValuesOn, ValuesOnV x v w⟩ := by
  have hw1 : w.length ≤ 1048576 := hw.1
  refine ret_of ?_
  simp only [run_spec_ValuesOn, spec_ValuesOn.ev]
  refine ev_call (l09Is_ret x hx) (ev_b (fun h => ev_some ?_) fun h => ?_)
  · have h := pb_not.1 (show pb (ISh x) = false by simpa using h)
    have e : PC x w = 1 := by rw [PC, if_neg h]
    rw [ValuesOnV, e, if_neg (by omega)]
  · have h := pb_iff.1 (show pb (ISh x) = true by simpa using h)
    refine ev_call (l10Places_ret x w hx.1.1 hw) (ev_b (fun h2 => ev_some ?_) fun h2 => ?_)
    · have h2 := pb_not.1 (show pb (Plcs x.1 w) = false by simpa using h2)
      have e : PC x w = 2 := by rw [PC, if_pos h, if_neg h2]
      rw [ValuesOnV, e, if_neg (by omega)]
    · have h2 := pb_iff.1 (show pb (Plcs x.1 w) = true by simpa using h2)
      rw [ValuesOnV, if_pos (PC_zero.2 ⟨h, h2⟩)]
      refine ev_call (l10Is_ret x v hx hv1 h) (ev_b (fun h3 => ev_some ?_) fun h3 => ?_)
      · rw [if_neg (pb_not.1 (show pb (Sec x v) = false by simpa using h3))]
      · have h3 := pb_iff.1 (show pb (Sec x v) = true by simpa using h3)
        rw [if_pos h3]
        refine Ev.start (p := fun φ n => spec_ValuesOn.l0 (mkR (run E (φ 0))) (φ 0) n v w 0 x.1 x.2.1 x.2.2.1 x.2.2.2.1 [] = _) 1 ?_ (fun _ _ _ h => h)
        refine fold_loop 1 (L := fun φ n k o => spec_ValuesOn.l0 (mkR (run E (φ 0))) (φ 0) n v w k x.1 x.2.1 x.2.2.1 x.2.2.2.1 o) (len := w.length) (fun k => valsV x v w k) (fun _ _ _ _ _ => rfl) (fun k r hk ih => ?_) ?_
        · simp only [spec_ValuesOn.l0_succ _ mk_ok]
          obtain ⟨s, hs, hsl⟩ := h2.get hk
          have hg : w[k]? = some (s : Int) := by rw [List.getElem?_eq_getElem hk, hs]
          rw [valsV_succ hk hs] at ih
          have hl := valsV_length (v := v) (w := w) (n := k) h.1
          have h3' := atV_length (s := s) (v := v) h.1
          refine ev_t (decide_eq_true (by omega)) (ev_bind (idx_nat.trans hg) (ev_call (l10At_ret x v s hsl hx hv1 h.1 h3.1) (ev_chk (decide_eq_true (by show (_ + (atV x v s).length) * 8 ≤ _; omega)) ?_)))
          rw [w64_succ (by omega)]; exact ih
        · simp only [spec_ValuesOn.l0_succ _ mk_ok]
          exact ev_f (decide_eq_false (by omega)) ev_rfl

theorem ValuesOnV_sm (x : Shf) (v w : Sim) (hx : Sm (.st cS) x) (hv1 : Sm (.sl (.int .i64)) v) (hw : Sm (.sl (.int .i64)) w) : Sm (.sl (.int .i64)) (ValuesOnV x v w).1 := by
  refine ⟨?_, fun _ _ => trivial⟩
  unfold ValuesOnV
  split
  · rename_i h
    obtain ⟨hs, hpl⟩ := PC_zero.1 h
    split
    · have hl := valsV_length (v := v) (w := w) (n := w.length) hs.1
      have : w.length ≤ 48 := by
        -- rising and below 48
        have h48 := hs.1.1.1
        by_cases h0 : w.length = 0
        · omega
        · have hge : ∀ j, ∀ hj : j < w.length, (j : Int) ≤ w[j] := by
            intro j
            induction j with
            | zero => intro hj; exact (hpl.2 _ (List.getElem_mem hj)).1
            | succ j ih =>
              intro hj
              have h1 := ih (by omega)
              have h2 := hpl.1.lt hj (Nat.lt_succ_self j)
              omega
          have h1 := hge (w.length - 1) (by omega)
          have h2 := (hpl.2 _ (List.getElem_mem (show w.length - 1 < w.length by omega))).2
          omega
      show (valsV x v w w.length).length ≤ 1048576
      omega
    · show ([] : List Int).length ≤ 1048576; simp
  · show ([] : List Int).length ≤ 1048576; simp

/-! one place -/
noncomputable def SectionAtV (x : Shf) (v : Sim) (s : Int) : Sim × Int × Unit := ValuesOnV x v [s]

theorem rises_one (s : Int) : Rises [s] := fun j h1 h2 => by simp at h2; omega

theorem SectionAtV_sm (x : Shf) (v : Sim) (s : Int) (hx : Sm (.st cS) x) (hv1 : Sm (.sl (.int .i64)) v) : Sm (.sl (.int .i64)) (SectionAtV x v s).1 := ValuesOnV_sm x v [s] hx hv1 (sm_ints (by simp))

/-! where a section is not 0 -/
open Classical in
noncomputable def suppV (x : Shf) (v : Sim) : Nat → Sim
  | 0 => []
  | k + 1 => suppV x v k ++ if Zs (atV x v k) then [] else [(k : Int)]

theorem suppV_length {x : Shf} {v : Sim} : ∀ {k : Nat}, (suppV x v k).length ≤ k
  | 0 => by simp [suppV]
  | k + 1 => by
    have := suppV_length (x := x) (v := v) (k := k)
    rw [suppV, List.length_append]; split <;> simp <;> omega

open Classical in
noncomputable def SupportOfV (x : Shf) (v : Sim) : Sim × Int × Unit := if ISh x then (if Sec x v then (suppV x v x.1.length, 0, ()) else ([], 6, ())) else ([], 1, ())

theorem SupportOfV_sm (x : Shf) (v : Sim) (hx : Sm (.st cS) x) (hv1 : Sm (.sl (.int .i64)) v) : Sm (.sl (.int .i64)) (SupportOfV x v).1 := by
  have hc1 : x.1.length ≤ 1048576 := hx.1.1
  refine ⟨?_, fun _ _ => trivial⟩
  unfold SupportOfV
  split
  · split
    · have := suppV_length (x := x) (v := v) (k := x.1.length)
      show (suppV x v x.1.length).length ≤ 1048576; omega
    · show ([] : List Int).length ≤ 1048576; simp
  · show ([] : List Int).length ≤ 1048576; simp

end VeT

open Go Go.Proofs Ve
set_option linter.unusedVariables false
set_option linter.unusedSimpArgs false
namespace VeT

theorem law_ValuesOn (x0 : Shf) (x1 : Sim) (x2 : Sim) (w0 : Wf (.st cS) x0) (w1 : Wf (.sl (.int .i64)) x1) (w2 : Wf (.sl (.int .i64)) x2) : Ret E n_laws_FnExactValuesOn [dLL x0.1, dI x0.2.1, dL x0.2.2.1, dMs x0.2.2.2.1, dL x1, dL x2] ⟨.cons .bool .nil, (true, ())⟩ := by
  refine ret_of ?_
  simp only [run_laws_FnExactValuesOn, laws_FnExactValuesOn.ev]
  refine ev_d (fun _ => ev_rfl) fun l1 => ?_
  have m1 : Sm (.sl (.int .i64)) x1 := ⟨by omega, fun _ _ => trivial⟩
  refine ev_d (fun _ => ev_rfl) fun l2 => ?_
  have m2 : Sm (.sl (.int .i64)) x2 := ⟨by omega, fun _ _ => trivial⟩
  obtain ⟨r0, hs0, s0⟩ := szSheaf_ret x0 1048576 w0 (by omega) (by omega)
  refine ev_call hs0 (ev_d (fun _ => ev_rfl) fun n0 => ?_)
  have n0 := Int.not_lt.1 n0
  obtain ⟨b0, m0⟩ := s0 n0
  have hi := implValuesOn_ret x0 x1 x2 m0 m1 m2
  have hsp := specValuesOn_ret x0 x1 x2 m0 m1 m2
  have hsm := ValuesOnV_sm x0 x1 x2 m0 m1 m2
  generalize ValuesOnV x0 x1 x2 = V at hi hsp hsm
  obtain ⟨v0, v1, ⟨⟩⟩ := V
  have z0 : Sm (.sl (.int .i64)) v0 := hsm
  obtain ⟨qr0, hqr0, eqr0⟩ := eqInt64S_ret v0 v0 z0
  obtain rfl : qr0 = true := eqr0.2 rfl
  have to0 := toSheaf_ret x0 m0
  obtain ⟨q0, hq0, eq0⟩ := eqSheaf_ret x0 x0 m0
  obtain rfl : q0 = true := eq0.2 rfl
  have to1 := toInt64S_ret x1 m1
  obtain ⟨q1, hq1, eq1⟩ := eqInt64S_ret x1 x1 m1
  obtain rfl : q1 = true := eq1.2 rfl
  have to2 := toInt64S_ret x2 m2
  obtain ⟨q2, hq2, eq2⟩ := eqInt64S_ret x2 x2 m2
  obtain rfl : q2 = true := eq2.2 rfl
  obtain ⟨ma0, mb0, mc0, hm0, hmb0⟩ := markSheaf_ret x0 m0
  have hm1 := markInt64S_ret x1 (mkSN x0 1) (by omega) m1.1
  have hm2 := markInt64S_ret x2 (mkSN x0 1 + (x1.length : Int)) (by omega) m2.1
  have hk : ¬ (mkSN x0 1 + (x1.length : Int) + (x2.length : Int) < 0) := by omega
  have mr0 := markInt64S_ret v0 (1) (by omega) z0.1
  have hl0 := heldInt64S_ret (1) v0.length (by omega) z0.1
  have he0 : ¬ (1 + (v0.length : Int) < 0) := by omega
  repeat (first | with_reducible exact ev_rfl | with_reducible refine ev_call hqr0 ?_ | with_reducible refine ev_call to0 ?_ | with_reducible refine ev_call hq0 ?_ | with_reducible refine ev_call to1 ?_ | with_reducible refine ev_call hq1 ?_ | with_reducible refine ev_call to2 ?_ | with_reducible refine ev_call hq2 ?_ | with_reducible refine ev_call hi ?_ | with_reducible refine ev_call hsp ?_ | with_reducible refine ev_call hm0 ?_ | with_reducible refine ev_call hm1 ?_ | with_reducible refine ev_call hm2 ?_ | with_reducible refine ev_call mr0 ?_ | with_reducible refine ev_call hl0 ?_ | with_reducible refine ev_f (by first | rfl | exact bne_self_eq_false _ | exact decide_eq_false hk | exact decide_eq_false he0 | (simp; done)) ?_ | simp only [bne_self_eq_false, laws_FnExactValuesOn.j0_eq _ mk_ok, laws_FnExactValuesOn.j1_eq _ mk_ok, laws_FnExactValuesOn.j2_eq _ mk_ok, cond_false])

theorem rowValuesOn (z : ((.cons (.sl (.sl (.int .i64))) (.cons (.int .i64) (.cons (.sl (.int .i64)) (.cons (.sl (.st cM)) (.cons (.sl (.int .i64)) (.cons (.sl (.int .i64)) .nil)))))) : Ty).T)
    (h : Wf (.cons (.sl (.sl (.int .i64))) (.cons (.int .i64) (.cons (.sl (.int .i64)) (.cons (.sl (.st cM)) (.cons (.sl (.int .i64)) (.cons (.sl (.int .i64)) .nil)))))) z) :
    Evt fun n => run E n n_laws_FnExactValuesOn (unpack _ z) = some ⟨.cons .bool .nil, (true, ())⟩ :=
  law_ValuesOn (z.1, z.2.1, z.2.2.1, z.2.2.2.1, ()) z.2.2.2.2.1 z.2.2.2.2.2.1 ⟨h.1, h.2.1, h.2.2.1, h.2.2.2.1, trivial⟩ h.2.2.2.2.1 h.2.2.2.2.2.1

end VeT
