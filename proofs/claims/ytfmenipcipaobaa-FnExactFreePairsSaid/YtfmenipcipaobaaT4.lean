import Derived.Test.YtfmenipcipaobaaT3
import Derived.Test.YtfmenipcipaobaaV2
set_option linter.unusedVariables false
set_option linter.unusedSimpArgs false
open Go Go.Proofs Ve
set_option linter.unusedVariables false
set_option linter.unusedSimpArgs false
namespace VeT

/-! marks: what the laws write over arguments and results -/
def mkL (k : Int) (n : Nat) : Sim := (List.range n).map fun (i : Nat) => k + (i : Int)

theorem mkL_length {k : Int} {n : Nat} : (mkL k n).length = n := by simp [mkL]

theorem mkL_get {k : Int} {n i : Nat} (h : i < (mkL k n).length) : (mkL k n)[i] = k + i := by simp [mkL]

theorem markInt64S_ret (s : Sim) (k : Int) (hk : 0 ≤ k ∧ k ≤ 4611686018427387904) (hs : s.length ≤ 1048576) : Ret E n_laws_markInt64S [dL s, dI k] ⟨o_laws_markInt64S, (k + s.length, mkL k s.length, ())⟩ := by
  refine ret_of ?_
  simp only [run_laws_markInt64S, laws_markInt64S.ev]
  refine Ev.start (p := fun φ n => laws_markInt64S.l0 (mkR (run E (φ 0))) (φ 0) n k 0 s = _) 1 ?_ (fun _ _ _ h => h)
  have hl : ∀ j, j ≤ s.length → (mkL k j ++ s.drop j).length = s.length := fun j hj => by rw [List.length_append, mkL_length, List.length_drop]; omega
  have := fold_loop 1 (L := fun φ n j (a : Int × Sim) => laws_markInt64S.l0 (mkR (run E (φ 0))) (φ 0) n a.1 j a.2) (len := s.length) (fun j => (k + (j : Int), mkL k j ++ s.drop j)) (r := some ⟨o_laws_markInt64S, (k + s.length, mkL k s.length, ())⟩) (fun _ _ _ _ _ => rfl) (fun j r hj ih => ?_) ?_
  · simpa [mkL] using this
  · simp only [laws_markInt64S.l0_succ _ mk_ok, hl j (by omega)]
    refine ev_t (decide_eq_true (by omega)) (ev_chk (by simp; omega) ?_)
    rw [w64_succ (by omega), w64_small (by omega) (by omega), Int.toNat_natCast]
    have e : (mkL k j ++ s.drop j).set j (k + j) = mkL k (j + 1) ++ s.drop (j + 1) := by
      rw [List.drop_eq_getElem_cons hj, List.set_append_right _ _ (by rw [mkL_length]; omega), mkL_length, Nat.sub_self, List.set_cons_zero]
      unfold mkL
      rw [List.range_succ, List.map_append, List.append_assoc]; rfl
    rw [e, show k + (j : Int) + 1 = k + ((j + 1 : Nat) : Int) by omega]
    exact ih
  · simp only [laws_markInt64S.l0_succ _ mk_ok, hl s.length (Nat.le_refl _)]
    refine ev_f (decide_eq_false (by omega)) (ev_some ?_)
    simp

theorem heldInt64S_ret (k : Int) (n : Nat) (hk : 0 ≤ k ∧ k ≤ 4611686018427387904) (hn : n ≤ 1048576) : Ret E n_laws_heldInt64S [dL (mkL k n), dI k] ⟨o_laws_heldInt64S, (k + n, ())⟩ := by
  refine ret_of ?_
  simp only [run_laws_heldInt64S, laws_heldInt64S.ev]
  refine Ev.start (p := fun φ m => laws_heldInt64S.l0 (mkR (run E (φ 0))) (φ 0) m (mkL k n) k 0 = _) 1 ?_ (fun _ _ _ h => h)
  have := fold_loop 1 (L := fun φ m j a => laws_heldInt64S.l0 (mkR (run E (φ 0))) (φ 0) m (mkL k n) a j) (len := n) (fun j => k + (j : Int)) (r := some ⟨o_laws_heldInt64S, (k + n, ())⟩) (fun _ _ _ _ _ => rfl) (fun j r hj ih => ?_) ?_
  · simpa using this
  · simp only [laws_heldInt64S.l0_succ _ mk_ok, mkL_length]
    have hj' : j < (mkL k n).length := by rw [mkL_length]; exact hj
    refine ev_t (decide_eq_true (by omega)) (ev_bind (idx_lt hj') (ev_f (by simp [mkL_get hj']) ?_))
    rw [w64_succ (by omega), w64_small (by omega) (by omega), show k + (j : Int) + 1 = k + ((j + 1 : Nat) : Int) by omega]
    exact ih
  · simp only [laws_heldInt64S.l0_succ _ mk_ok, mkL_length]
    exact ev_f (decide_eq_false (by omega)) ev_rfl

def mkLL : List Sim → Int → List Sim
  | [], _ => []
  | x :: xs, k => mkL k x.length :: mkLL xs (k + x.length)
def mkN : List Sim → Int → Int
  | [], k => k
  | x :: xs, k => mkN xs (k + x.length)

theorem mkLL_length : ∀ {xs : List Sim} {k : Int}, (mkLL xs k).length = xs.length
  | [], _ => rfl
  | x :: xs, k => by simp [mkLL, mkLL_length]

theorem mkN_ge : ∀ {xs : List Sim} {k : Int}, (∀ x ∈ xs, x.length ≤ 1048576) → k ≤ mkN xs k ∧ mkN xs k ≤ k + 1048576 * xs.length
  | [], k, _ => by simp [mkN]
  | x :: xs, k, h => by
    have h1 := mkN_ge (xs := xs) (k := k + x.length) fun y hy => h y (List.mem_cons_of_mem _ hy)
    have h2 := h x List.mem_cons_self
    simp only [mkN, List.length_cons]; omega

theorem markRows_evt : ∀ (xs : List Sim) (k : Int), 0 ≤ k → k + 1048576 * xs.length ≤ 4611686018427387904 → (∀ x ∈ xs, x.length ≤ 1048576) → Evt fun n => markRows n_laws_markInt64S (mkR (run E n)) xs k = some (mkN xs k, mkLL xs k)
  | [], k, _, _, _ => Evt.of fun _ => rfl
  | x :: xs, k, h0, hb, hx => by
    have h2 := hx x List.mem_cons_self
    simp only [List.length_cons] at hb
    have h3 := markRows_evt xs (k + x.length) (by omega) (by omega) fun y hy => hx y (List.mem_cons_of_mem _ hy)
    have h4 := markInt64S_ret x k (by omega) h2
    refine (h4.and h3).mono fun n ⟨a, b⟩ => ?_
    have a' : callT (mkR (run E n)) n_laws_markInt64S oM [⟨tL, x⟩, ⟨tI, k⟩] = some (k + x.length, mkL k x.length, ()) := callT_of a
    simp only [markRows, a', Option.bind_some, b, Option.map_some, mkN, mkLL]

theorem run_markSS (n : Nat) (args : List Dv) : run E (n + 1) n_laws_markInt64SS args = pMarkSS n_laws_markInt64S (mkR (run E n)) args := rfl

theorem markInt64SS_ret (xs : List Sim) (k : Int) (hk : 0 ≤ k ∧ k ≤ 1099511627776) (hs : Sm (.sl (.sl (.int .i64))) xs) : Ret E n_laws_markInt64SS [dLL xs, dI k] ⟨o_laws_markInt64SS, (mkN xs k, mkLL xs k, ())⟩ := by
  have hs1 : xs.length ≤ 1048576 := hs.1
  refine Evt.succ ((markRows_evt xs k hk.1 (by omega) fun x hx => (hs.2 x hx).1).mono fun n h => ?_)
  rw [run_markSS]
  show ((markRows n_laws_markInt64S (mkR (run E n)) xs k).map fun q => (⟨.cons tI (.cons (.sl tL) .nil), (q.1, q.2, ())⟩ : Dv)) = _
  rw [h]; rfl

theorem heldInt64SS_ret (xs : List Sim) (k : Int) (hk : 0 ≤ k ∧ k ≤ 1099511627776) (hs : Sm (.sl (.sl (.int .i64))) xs) : Ret E n_laws_heldInt64SS [dLL (mkLL xs k), dI k] ⟨o_laws_heldInt64SS, (mkN xs k, ())⟩ := by
  have hs1 : xs.length ≤ 1048576 := hs.1
  refine ret_of ?_
  simp only [run_laws_heldInt64SS, laws_heldInt64SS.ev]
  refine Ev.start (p := fun φ m => laws_heldInt64SS.l0 (mkR (run E (φ 0))) (φ 0) m (mkLL xs k) k 0 = _) 1 ?_ (fun _ _ _ h => h)
  -- the rows that are left
  refine loopR 1 (σ := Nat × Int) (L := fun φ m s => laws_heldInt64SS.l0 (mkR (run E (φ 0))) (φ 0) m (mkLL xs k) s.2 (s.1 : Int)) (fun _ _ _ _ => rfl) (fun s => s.1 ≤ xs.length ∧ (mkLL xs k).drop s.1 = mkLL (xs.drop s.1) s.2 ∧ mkN xs k = mkN (xs.drop s.1) s.2 ∧ k ≤ s.2 ∧ s.2 ≤ k + 1048576 * s.1) (fun _ => _) (fun s => xs.length - s.1) (fun s hi ih => ?_) (0, k) ⟨Nat.zero_le _, rfl, rfl, Int.le_refl _, by simp⟩
  obtain ⟨j, q⟩ := s
  obtain ⟨h1, h2, h3, h4, h5⟩ := hi
  simp only at h1 h2 h3 h4 h5 ih
  simp only [laws_heldInt64SS.l0_succ _ mk_ok, mkLL_length]
  refine ev_d (fun hlt => ?_) fun hlt => ev_some ?_
  · have hj : j < xs.length := by omega
    have hj' : j < (mkLL xs k).length := by rw [mkLL_length]; exact hj
    rw [List.drop_eq_getElem_cons hj, List.drop_eq_getElem_cons hj', mkLL] at h2
    rw [List.drop_eq_getElem_cons hj, mkN] at h3
    obtain ⟨e1, e2⟩ := List.cons.inj h2
    have hx := (sm_get hs hj).1
    have hx : (xs[j]).length ≤ 1048576 := hx
    refine ev_bind (idx_lt hj') ?_
    rw [e1]
    refine ev_call (heldInt64S_ret q (xs[j]).length (by omega) hx) (ev_f (decide_eq_false (Int.not_lt.2 (by show 0 ≤ q + ((xs[j]).length : Int); omega))) ?_)
    rw [w64_succ (by omega)]
    exact ih (j + 1, q + ((xs[j]).length : Int)) ⟨by show j + 1 ≤ _; omega, e2, h3, by show k ≤ q + ((xs[j]).length : Int); omega, by show q + ((xs[j]).length : Int) ≤ k + 1048576 * ((j + 1 : Nat) : Int); omega⟩ (by show xs.length - (j + 1) < xs.length - j; omega)
  · have e : j = xs.length := by omega
    subst e
    rw [List.drop_length, mkN] at h3
    rw [h3]

end VeT

open Go Go.Proofs Ve
set_option linter.unusedVariables false
set_option linter.unusedSimpArgs false
namespace VeT

theorem markComplex_ret (xs : List Sim) (k : Int) (hk : 0 ≤ k ∧ k ≤ 1099511627776) (hs : Sm (.sl (.sl (.int .i64))) xs) : Ret E n_laws_markComplex [dLL xs, dI k] ⟨o_laws_markComplex, (mkN xs k, mkLL xs k, ())⟩ := by
  refine ret_of ?_
  simp only [run_laws_markComplex, laws_markComplex.ev]
  exact ev_call (markInt64SS_ret xs k hk hs) ev_rfl

theorem sm_frees {c : List Sim} (hc : c.length ≤ 1048576) : Sm (.sl (.sl (.int .i64))) (FreeV c).1 := by
  unfold FreeV
  split
  · have := frees_length (c := c) (k := c.length)
    exact ⟨Nat.le_trans this hc, fun x hx => ⟨by rw [frees_mem hx]; omega, fun _ _ => trivial⟩⟩
  · exact ⟨by simp, fun x hx => by simp at hx⟩

theorem law_FreePairs (c : List Sim) (hx : Wf (.sl (.sl (.int .i64))) c) : Ret E n_laws_FnExactFreePairs [dLL c] ⟨.cons .bool .nil, (true, ())⟩ := by
  obtain ⟨r1, h1, s1⟩ := szComplex_ret (c, ()) 1048576 ⟨hx, trivial⟩ (by omega) (by omega)
  refine ret_of ?_
  simp only [run_laws_FnExactFreePairs, laws_FnExactFreePairs.ev]
  refine ev_call h1 (ev_d (fun _ => ev_rfl) fun hr => ?_)
  obtain ⟨b1, m1⟩ := s1 (Int.not_lt.1 hr)
  have mc : Sm (.sl (.sl (.int .i64))) c := m1.1
  have mf := sm_frees mc.1
  have to := toComplex_ret (c, ()) m1
  obtain ⟨q1, hq1, eq1⟩ := eqComplex_ret (c, ()) (c, ()) m1
  obtain rfl : q1 = true := eq1.2 rfl
  obtain ⟨q2, hq2, eq2⟩ := eqInt64SS_ret (FreeV c).1 (FreeV c).1 mf
  obtain rfl : q2 = true := eq2.2 rfl
  have g := mkN_ge (xs := (FreeV c).1) (k := 1) fun x hx => (mf.2 x hx).1
  have gc := mkN_ge (xs := c) (k := 1) fun x hx => (mc.2 x hx).1
  have held := heldInt64SS_ret (FreeV c).1 1 (by omega) mf
  refine ev_call to (ev_call (specFree_ret c mc) (ev_call to (ev_call (implFree_ret c mc) (ev_call hq2 (ev_f rfl ?_)))))
  simp only [bne_self_eq_false, laws_FnExactFreePairs.j0_eq _ mk_ok, cond_false]
  refine ev_call to (ev_call hq1 (ev_f rfl (ev_call (markComplex_ret c 1 (by omega) mc) (ev_f (decide_eq_false (Int.not_lt.2 (by show 0 ≤ mkN c 1; omega))) (ev_call hq2 (ev_f rfl ?_))))))
  simp only [laws_FnExactFreePairs.j1_eq _ mk_ok, cond_false]
  refine ev_call (markInt64SS_ret (FreeV c).1 1 (by omega) mf) (ev_call held (ev_f (decide_eq_false (Int.not_lt.2 (by show 0 ≤ mkN (FreeV c).1 1; omega))) (ev_f (by simp) (ev_call to (ev_call (implFree_ret c mc) (ev_call hq2 (ev_f rfl ?_)))))))
  simp only [bne_self_eq_false, laws_FnExactFreePairs.j2_eq _ mk_ok, cond_false]
  exact ev_call held (ev_f (decide_eq_false (Int.not_lt.2 (by show 0 ≤ mkN (FreeV c).1 1; omega))) (ev_f (by simp) ev_rfl))

theorem rowFreePairs (z : (Ty.cons (.sl (.sl (.int .i64))) .nil).T) (h : Wf (.cons (.sl (.sl (.int .i64))) .nil) z) : Evt fun n => run E n n_laws_FnExactFreePairs (unpack _ z) = some ⟨.cons .bool .nil, (true, ())⟩ :=
  law_FreePairs z.1 h.1

end VeT
