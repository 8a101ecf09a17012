import Derived.Test.YtfmenipcipaobaaGreatT4
import Derived.Test.YtfmenipcipaobaaGreatV2
set_option linter.unusedVariables false
set_option linter.unusedSimpArgs false
open Go Go.Proofs Ve
set_option linter.unusedVariables false
set_option linter.unusedSimpArgs false
namespace VeT

/-- valid complexes -/
def VC (c : List Sim) : Prop := c.length ≤ 48 ∧ (∀ k, k < c.length → Vx (c.getD k [])) ∧ (∀ k, 1 ≤ k → k < c.length → cmpS (c.getD (k - 1) []) (c.getD k []) < 0) ∧ ∀ k, k < c.length → ∀ f ∈ faces (c.getD k []), f ∈ c

theorem VC.srt {c : List Sim} (h : VC c) : Srt c := srt_of h.2.2.1

def VCimpl (c : List Sim) (k : Nat) : Prop := (Vx (c.getD k []) ∧ (1 ≤ k → cmpS (c.getD (k - 1) []) (c.getD k []) < 0)) ∧ ∀ f ∈ faces (c.getD k []), f ∈ c.take k

theorem VC_impl {c : List Sim} : ((∀ k, 0 ≤ k → k < c.length → VCimpl c k) ∧ c.length ≤ 48) ↔ VC c := by
  constructor
  · rintro ⟨h, hl⟩
    exact ⟨hl, fun k hk => (h k (by omega) hk).1.1, fun k h1 hk => (h k (by omega) hk).1.2 h1, fun k hk f hf => List.mem_of_mem_take ((h k (by omega) hk).2 f hf)⟩
  · intro h
    have hs := h.srt
    obtain ⟨hl, h1, h2, h3⟩ := h
    refine ⟨fun k _ hk => ⟨⟨h1 k hk, fun hk1 => h2 k hk1 hk⟩, fun f hf => ?_⟩, hl⟩
    have hm := h3 k hk f hf
    have hlen := faces_len hf
    rw [getD_lt hk] at hlen
    obtain ⟨i, hi, rfl⟩ := List.mem_iff_getElem.1 hm
    have hlt : cmpS c[i] c[k] < 0 := cmpS_lt.2 (.inl (by omega))
    have hik : i < k := Classical.byContradiction fun hn => by
      by_cases e : i = k
      · subst e; omega
      · have := hs k i hi (by omega)
        rw [cmpS_neg] at this; omega
    exact List.mem_iff_getElem.2 ⟨i, by rw [List.length_take]; omega, by rw [List.getElem_take]⟩

theorem sm_take {t : Ty} {s : List t.T} (h : Sm (.sl t) s) (k : Nat) : Sm (.sl t) (s.take k) := ⟨by have h1 : s.length ≤ 1048576 := h.1; show (s.take k).length ≤ _; rw [List.length_take]; omega, fun x hx => h.2 x (List.mem_of_mem_take hx)⟩

theorem ValidComplex_1_ret (c : List Sim) (f : Sim) (k : Nat) (hk : k ≤ c.length) (hc : Sm (.sl (.sl (.int .i64))) c) (hs : Srt (c.take k)) :
    Ret E n_impl_ValidComplex_1 [dL f, dC (c, ()), ⟨.ptr (.cons (.int .i64) .nil), ((k : Int), ())⟩] ⟨o_impl_ValidComplex_1, (pb (¬ f ∈ c.take k), ())⟩ := by
  refine ret_of ?_
  simp only [run_impl_ValidComplex_1, impl_ValidComplex_1.ev]
  simp only [Int.toNat_natCast]
  refine ev_chk (by simp; omega) (ev_call (indexOf_ret _ f (sm_take hc k) hs) (ev_some ?_))
  simp only [pb_dec, pb_congr (show findI (c.take k) f < 0 ↔ ¬ f ∈ c.take k by rw [← findI_nonneg]; omega)]

theorem ValidComplex_ret (c : List Sim) (hc : Sm (.sl (.sl (.int .i64))) c) : Ret E n_impl_ValidComplex [dLL c] ⟨o_impl_ValidComplex, (pb (VC c), ())⟩ := by
  have hc1 : c.length ≤ 1048576 := hc.1
  refine ret_of ?_
  simp only [run_impl_ValidComplex, impl_ValidComplex.ev]
  refine Ev.start (p := fun φ n => impl_ValidComplex.l0 (mkR (run E (φ 0))) (φ 0) n c (c.length : Int) 0 c = _) 1 ?_ (fun _ _ _ h => h)
  have key : ∀ (n : Nat) (k : Nat) (hk : k < c.length) (hpre : ∀ j, 0 ≤ j → j < k → VCimpl c j), Srt (c.take k) := fun n k hk hpre => srt_of fun j h1 h2 => by
    rw [List.length_take] at h2
    have := (hpre j (by omega) (by omega)).1.2 h1
    rw [getD_lt (by omega), getD_lt (by omega)] at this
    rw [getD_lt (by rw [List.length_take]; omega), getD_lt (by rw [List.length_take]; omega), List.getElem_take, List.getElem_take]
    exact this
  have hcon : ∀ (k : Nat) (hk : k < c.length) (hpre : ∀ j, 0 ≤ j → j < k → VCimpl c j), Ret E n_slices_ContainsFunc_SSint64_Sint64 [dLL (faces c[k]), ⟨.fn n_impl_ValidComplex_1 (.cons (.ptr (.cons (.sl (.sl (.int .i64))) .nil)) (.cons (.ptr (.cons (.int .i64) .nil)) .nil)), ((c, ()), ((k : Int), ()), ())⟩] ⟨o_slices_ContainsFunc_SSint64_Sint64, (pb (∃ x ∈ faces c[k], pb (¬ x ∈ c.take k) = true), ())⟩ := fun k hk hpre =>
    ContainsFunc_SSint64_Sint64_impl_ValidComplex_1_ret (faces c[k]) ((c, ()), ((k : Int), ()), ()) _ (Nat.le_trans faces_length (sm_get hc hk).1) fun x hx => ValidComplex_1_ret c x k (by omega) hc (key 0 k hk hpre)
  refine (all_pb 1 (L := fun φ n k => impl_ValidComplex.l0 (mkR (run E (φ 0))) (φ 0) n c (c.length : Int) k c) (len := c.length) 0 (by omega) (VCimpl c) (fun b => some ⟨o_impl_ValidComplex, (b && decide ((c.length : Int) ≤ 48), ())⟩) (fun _ _ _ _ => rfl) (fun k h1 h2 hP hpre => ?_) (fun k r h1 h2 hP hpre ih => ?_) (fun _ => ?_)).to ?_
  · simp only [impl_ValidComplex.l0_succ _ mk_ok]
    refine ev_t (decide_eq_true (by omega)) (ev_bind (idx_lt h2) (ev_call (ValidSimplex_ret _ (sm_get hc h2)) ?_))
    refine ev_b (fun hv => ?_) fun hv => ?_
    · simp only [impl_ValidComplex.j1_eq _ mk_ok, cond_true]; (first | exact ev_rfl | exact Ev.of fun _ => trivial)
    · have hv : Vx c[k] := pb_iff.1 (by simpa using hv)
      have last : (1 ≤ k → cmpS (c.getD (k - 1) []) (c.getD k []) < 0) → Ev fun φ => impl_ValidComplex.j1 (mkR (run E (φ 0))) (φ 0) (φ 1) c[k] c (c.length : Int) (k : Int) false c (k : Int) = some ⟨o_impl_ValidComplex, (false, ())⟩ := fun hcm => by
        simp only [impl_ValidComplex.j1_eq _ mk_ok, cond_false]
        refine ev_call (facesOf_ret _ (sm_get hc h2).1) (ev_call (hcon k h2 hpre) (ev_t ?_ ev_rfl))
        refine pb_true (Classical.byContradiction fun hn => hP ⟨⟨by rw [getD_lt h2]; exact hv, hcm⟩, fun f hf => Classical.byContradiction fun hnf => hn ⟨f, by rw [getD_lt h2] at hf; exact hf, pb_true hnf⟩⟩)
      refine ev_d (fun hk => ?_) fun hk => ?_
      · rw [w64_small (by omega) (by omega), show ((k : Int) - 1) = ((k - 1 : Nat) : Int) by omega]
        have hk1 : k - 1 < c.length := by omega
        refine ev_bind (idx_lt hk1) (ev_call (compareSimplices_ret _ _ (sm_get hc hk1)) ?_)
        by_cases hcm : cmpS c[k - 1] c[k] < 0
        · simp only [show decide (cmpS c[k - 1] c[k] ≥ 0) = false from decide_eq_false (by omega)]
          exact last fun _ => by rw [getD_lt hk1, getD_lt h2]; exact hcm
        · simp only [show decide (cmpS c[k - 1] c[k] ≥ 0) = true from decide_eq_true (by omega), impl_ValidComplex.j1_eq _ mk_ok, cond_true]
          (first | exact ev_rfl | exact Ev.of fun _ => trivial)
      · exact last fun h => absurd h (by omega)
  · simp only [impl_ValidComplex.l0_succ _ mk_ok]
    have hP' := hP
    obtain ⟨⟨hv, hcm⟩, hfc⟩ := hP'
    rw [getD_lt h2] at hv hfc
    refine ev_t (decide_eq_true (by omega)) (ev_bind (idx_lt h2) (ev_call (ValidSimplex_ret _ (sm_get hc h2)) (ev_f (by rw [pb_true hv]; rfl) ?_)))
    have last : Ev fun φ => impl_ValidComplex.j1 (mkR (run E (φ 0))) (φ 0) (φ 1) c[k] c (c.length : Int) (k : Int) false c (k : Int) = r := by
      simp only [impl_ValidComplex.j1_eq _ mk_ok, cond_false]
      refine ev_call (facesOf_ret _ (sm_get hc h2).1) (ev_call (hcon k h2 hpre) (ev_f ?_ ?_))
      · exact pb_false fun ⟨x, hx, hn⟩ => pb_iff.1 hn (hfc x hx)
      · rw [w64_succ (by omega)]; exact ih
    refine ev_d (fun hk => ?_) fun hk => last
    rw [w64_small (by omega) (by omega), show ((k : Int) - 1) = ((k - 1 : Nat) : Int) by omega]
    have hk1 : k - 1 < c.length := by omega
    have hcm := hcm (by omega)
    rw [getD_lt hk1, getD_lt h2] at hcm
    refine ev_bind (idx_lt hk1) (ev_call (compareSimplices_ret _ _ (sm_get hc hk1)) ?_)
    simp only [show decide (cmpS c[k - 1] c[k] ≥ 0) = false from decide_eq_false (by omega)]
    exact last
  · simp only [impl_ValidComplex.l0_succ _ mk_ok]
    exact ev_f (decide_eq_false (by omega)) (ev_some (by rw [Bool.true_and]))
  · have : (pb (∀ j, 0 ≤ j → j < c.length → VCimpl c j) && decide ((c.length : Int) ≤ 48)) = pb (VC c) := eq_pb (by
      rw [Bool.and_eq_true, pb_iff, decide_eq_true_iff, ← VC_impl]
      exact ⟨fun h => ⟨h.1, by omega⟩, fun h => ⟨h.1, by omega⟩⟩)
    rw [this]

def VCspec (c : List Sim) (k : Nat) : Prop := (Vx (c.getD k []) ∧ (1 ≤ k → cmpS (c.getD (k - 1) []) (c.getD k []) < 0)) ∧ ∀ f ∈ faces (c.getD k []), f ∈ c

theorem l05Ok_ret (c : Cpx) (hc : Sm (.sl (.sl (.int .i64))) c.1) : Ret E n_spec_l05Ok [dC c] ⟨o_spec_l05Ok, (pb (VC c.1), ())⟩ := by
  have hc1 : c.1.length ≤ 1048576 := hc.1
  refine ret_of ?_
  simp only [run_spec_l05Ok, spec_l05Ok.ev]
  refine ev_d (fun h => ev_some ?_) fun h48 => ?_
  · rw [pb_false fun hv => by have := hv.1; omega]
  refine Ev.start (p := fun φ n => spec_l05Ok.l0 (mkR (run E (φ 0))) (φ 0) n c 0 = _) 1 ?_ (fun _ _ _ h => h)
  -- the inner loop
  have inner : ∀ (k : Nat) (h2 : k < c.1.length) (r : Option Dv), ((∀ f ∈ faces c.1[k], f ∈ c.1) → Ev fun φ => spec_l05Ok.l0 (mkR (run E (φ 0))) (φ 0) (φ 1) c ((k + 1 : Nat) : Int) = r) → (¬ (∀ f ∈ faces c.1[k], f ∈ c.1) → r = some ⟨o_spec_l05Ok, (false, ())⟩) → Ev fun φ => spec_l05Ok.l2 (mkR (run E (φ 0))) (φ 0) (φ 1) (φ 0) c (k : Int) c.1[k] 0 = r := fun k h2 r hgo hstop => by
    have hks : (c.1[k]).length ≤ 1048576 := (sm_get hc h2).1
    refine Ev.start (p := fun φ n => spec_l05Ok.l2 (mkR (run E (φ 0))) (φ 0) (φ 1) n c (k : Int) c.1[k] 0 = _) 2 ?_ (fun _ _ _ h => h)
    by_cases hlen : 1 < (c.1[k]).length
    · obtain ⟨t, f⟩ := all_loop 2 (L := fun φ n i => spec_l05Ok.l2 (mkR (run E (φ 0))) (φ 0) (φ 1) n c (k : Int) c.1[k] i) (len := (c.1[k]).length) 0 (by omega) (fun i => (c.1[k]).eraseIdx i ∈ c.1) (rt := r) (rf := some ⟨o_spec_l05Ok, (false, ())⟩) (fun _ _ _ _ => rfl) (fun i _ hi hP _ => by
        simp only [spec_l05Ok.l2_succ _ mk_ok]
        refine ev_t (decide_eq_true (by omega)) ?_
        simp only [show decide (((c.1[k]).length : Int) > 1) = true from decide_eq_true (by omega), spec_l05Ok.j3_eq _ mk_ok, cond_true]
        refine ev_call (l05Drop_ret _ i hi hks) (ev_call (l05Find_ret c _ hc) (ev_t (decide_eq_true ?_) ev_rfl))
        have hq := mt (findI_nonneg (c := c.1) (s := (c.1[k]).eraseIdx i)).1 hP; simp only; exact Int.not_le.1 hq) (fun i q _ hi hP _ ih => by
        simp only [spec_l05Ok.l2_succ _ mk_ok]
        refine ev_t (decide_eq_true (by omega)) ?_
        simp only [show decide (((c.1[k]).length : Int) > 1) = true from decide_eq_true (by omega), spec_l05Ok.j3_eq _ mk_ok, cond_true]
        refine ev_call (l05Drop_ret _ i hi hks) (ev_call (l05Find_ret c _ hc) (ev_f (decide_eq_false ?_) ?_))
        · have hq := (findI_nonneg (c := c.1) (s := (c.1[k]).eraseIdx i)).2 hP; simp only; exact Int.not_lt.2 hq
        · rw [w64_succ (by omega)]; exact ih) (fun hall => by
        simp only [spec_l05Ok.l2_succ _ mk_ok]
        refine ev_f (decide_eq_false (by omega)) ?_
        simp only [spec_l05Ok.j3_eq _ mk_ok, cond_false]
        rw [w64_succ (by omega)]
        exact hgo fun f hf => by
          obtain ⟨_, i, hi, rfl⟩ := faces_mem.1 hf
          exact hall i (by omega) hi)
      by_cases hall : ∀ i, 0 ≤ i → i < (c.1[k]).length → (c.1[k]).eraseIdx i ∈ c.1
      · exact t hall
      · rw [hstop fun hf => hall fun i _ hi => hf _ (faces_mem.2 ⟨hlen, i, hi, rfl⟩)]
        exact f hall
    · refine Ev.round 2 (L := fun φ n => spec_l05Ok.l2 (mkR (run E (φ 0))) (φ 0) (φ 1) n c (k : Int) c.1[k] 0) ?_ (fun _ _ _ => rfl)
      have hgo := hgo fun f hf => absurd (faces_mem.1 hf).1 hlen
      have hj : Ev fun φ => spec_l05Ok.j3 (mkR (run E (φ 0))) (φ 0) (φ 1) (φ 2) c (k : Int) c.1[k] 0 false = r := by
        simp only [spec_l05Ok.j3_eq _ mk_ok, cond_false]
        rw [w64_succ (by omega)]; exact hgo
      simp only [spec_l05Ok.l2_succ _ mk_ok]
      refine ev_d (fun _ => ?_) fun _ => hj
      simp only [show decide (((c.1[k]).length : Int) > 1) = false from decide_eq_false (by omega)]
      exact hj
  refine (all_pb 1 (L := fun φ n k => spec_l05Ok.l0 (mkR (run E (φ 0))) (φ 0) n c k) (len := c.1.length) 0 (by omega) (VCspec c.1) (fun b => some ⟨o_spec_l05Ok, (b, ())⟩) (fun _ _ _ _ => rfl) (fun k h1 h2 hP hpre => ?_) (fun k r h1 h2 hP hpre ih => ?_) (fun _ => ?_)).to ?_
  · simp only [spec_l05Ok.l0_succ _ mk_ok]
    refine ev_t (decide_eq_true (by omega)) (ev_bind (idx_lt h2) (ev_call (l05Simplex_ret _ (sm_get hc h2)) ?_))
    refine ev_b (fun hv => ?_) fun hv => ?_
    · simp only [spec_l05Ok.j1_eq _ mk_ok, cond_true]; (first | exact ev_rfl | exact Ev.of fun _ => trivial)
    · have hv : Vx c.1[k] := pb_iff.1 (by simpa using hv)
      have last : (1 ≤ k → cmpS (c.1.getD (k - 1) []) (c.1.getD k []) < 0) → Ev fun φ => spec_l05Ok.j1 (mkR (run E (φ 0))) (φ 0) (φ 1) c (k : Int) c.1[k] false = some ⟨o_spec_l05Ok, (false, ())⟩ := fun hcm => by
        simp only [spec_l05Ok.j1_eq _ mk_ok, cond_false]
        refine inner k h2 _ (fun hf => absurd ⟨⟨by rw [getD_lt h2]; exact hv, hcm⟩, by rw [getD_lt h2]; exact hf⟩ hP) fun _ => rfl
      refine ev_d (fun hk => ?_) fun hk => ?_
      · rw [w64_small (by omega) (by omega), show ((k : Int) - 1) = ((k - 1 : Nat) : Int) by omega]
        have hk1 : k - 1 < c.1.length := by omega
        refine ev_bind (idx_lt hk1) (ev_call (l05Before_ret _ _ (sm_get hc hk1)) ?_)
        by_cases hcm : cmpS c.1[k - 1] c.1[k] < 0
        · simp only [pb_true hcm]
          exact last fun _ => by rw [getD_lt hk1, getD_lt h2]; exact hcm
        · simp only [pb_false hcm, spec_l05Ok.j1_eq _ mk_ok, cond_true, Bool.not_false]
          (first | exact ev_rfl | exact Ev.of fun _ => trivial)
      · exact last fun h => absurd h (by omega)
  · simp only [spec_l05Ok.l0_succ _ mk_ok]
    obtain ⟨⟨hv, hcm⟩, hfc⟩ := hP
    rw [getD_lt h2] at hv hfc
    refine ev_t (decide_eq_true (by omega)) (ev_bind (idx_lt h2) (ev_call (l05Simplex_ret _ (sm_get hc h2)) (ev_f (by rw [pb_true hv]; rfl) ?_)))
    have last : Ev fun φ => spec_l05Ok.j1 (mkR (run E (φ 0))) (φ 0) (φ 1) c (k : Int) c.1[k] false = r := by
      simp only [spec_l05Ok.j1_eq _ mk_ok, cond_false]
      exact inner k h2 _ (fun _ => ih) fun hn => absurd hfc hn
    refine ev_d (fun hk => ?_) fun hk => last
    rw [w64_small (by omega) (by omega), show ((k : Int) - 1) = ((k - 1 : Nat) : Int) by omega]
    have hk1 : k - 1 < c.1.length := by omega
    have hcm := hcm (by omega)
    rw [getD_lt hk1, getD_lt h2] at hcm
    refine ev_bind (idx_lt hk1) (ev_call (l05Before_ret _ _ (sm_get hc hk1)) ?_)
    simp only [pb_true hcm, Bool.not_true]
    exact last
  · simp only [spec_l05Ok.l0_succ _ mk_ok]
    exact ev_f (decide_eq_false (by omega)) ev_rfl
  · have : pb (∀ j, 0 ≤ j → j < c.1.length → VCspec c.1 j) = pb (VC c.1) := pb_congr
      ⟨fun h => ⟨by omega, fun k hk => (h k (by omega) hk).1.1, fun k h1 hk => (h k (by omega) hk).1.2 h1, fun k hk => (h k (by omega) hk).2⟩,
       fun h k _ hk => ⟨⟨h.2.1 k hk, fun h1 => h.2.2.1 k h1 hk⟩, h.2.2.2 k hk⟩⟩
    rw [this]

end VeT

open Go Go.Proofs Ve
set_option linter.unusedVariables false
set_option linter.unusedSimpArgs false
namespace VeT

/-- primes up to 251 -/
def Pr (p : Int) : Prop := 2 ≤ p ∧ p ≤ 251 ∧ ∀ k : Nat, 2 ≤ k → (k : Int) * k ≤ p → p % k ≠ 0

theorem ValidPrime_ret (p : Int) : Ret E n_impl_ValidPrime [dI p] ⟨o_impl_ValidPrime, (pb (Pr p), ())⟩ := by
  refine ret_of ?_
  simp only [run_impl_ValidPrime, impl_ValidPrime.ev]
  refine ev_call (within_ret _ _ _) (ev_b (fun h => ev_some ?_) fun h => ?_)
  · have h : ¬ (2 ≤ p ∧ p ≤ 251) := pb_not.1 (by simpa using h)
    rw [pb_false fun hp => h ⟨hp.1, hp.2.1⟩]
  have hr : 2 ≤ p ∧ p ≤ 251 := pb_iff.1 (by simpa using h)
  refine Ev.start (p := fun φ n => impl_ValidPrime.l0 (mkR (run E (φ 0))) (φ 0) n p 2 = _) 1 ?_ (fun _ _ _ h => h)
  refine loopR 1 (σ := Nat) (L := fun φ n k => impl_ValidPrime.l0 (mkR (run E (φ 0))) (φ 0) n p (k : Int)) (fun _ _ _ _ => rfl) (fun k => 2 ≤ k ∧ k ≤ 17 ∧ ∀ j : Nat, 2 ≤ j → j < k → (j : Int) * j ≤ p → p % j ≠ 0) (fun _ => _) (fun k => 17 - k) (fun k ⟨h1, h2, h3⟩ ih => ?_) 2 ⟨by omega, by omega, fun j _ _ => by omega⟩
  simp only [impl_ValidPrime.l0_succ _ mk_ok]
  have hkk : 0 ≤ (k : Int) * k ∧ (k : Int) * k ≤ 289 := ⟨Int.mul_nonneg (by omega) (by omega), by have := Nat.mul_le_mul h2 h2; omega⟩
  have e : w64 ((k : Int) * k) = (k : Int) * k := w64_small (by omega) (by omega)
  simp only [e]
  refine ev_d (fun hle => ?_) fun hle => ev_some ?_
  · have hk16 : k < 16 := Classical.byContradiction fun hn => by
      have := Nat.mul_le_mul (show 16 ≤ k by omega) (show 16 ≤ k by omega); omega
    refine ev_chk (by simp; omega) ?_
    rw [Int.tmod_eq_emod_of_nonneg (by omega)]
    refine ev_b (fun h0 => ev_some ?_) fun h0 => ?_
    · rw [pb_false fun hp => hp.2.2 k h1 hle (by simpa using h0)]
    · rw [w64_succ (by omega)]
      refine ih (k + 1) ⟨by omega, by omega, fun j hj1 hj2 hj3 => ?_⟩ (by show 17 - (k + 1) < 17 - k; omega)
      by_cases hjk : j = k
      · subst hjk; simpa using h0
      · exact h3 j hj1 (by omega) hj3
  · rw [pb_true]
    refine ⟨hr.1, hr.2, fun j hj1 hj2 => ?_⟩
    by_cases hjk : j < k
    · exact h3 j hj1 hjk hj2
    · exfalso
      have := Nat.mul_le_mul (show k ≤ j by omega) (show k ≤ j by omega); omega

theorem l02Prime_ret (p : Int) : Ret E n_spec_l02Prime [dI p] ⟨o_spec_l02Prime, (pb (Pr p), ())⟩ := by
  refine ret_of ?_
  simp only [run_spec_l02Prime, spec_l02Prime.ev]
  refine ev_call (l00In_ret _ _ _) (ev_b (fun h => ev_some ?_) fun h => ?_)
  · have h : ¬ (2 ≤ p ∧ p ≤ 251) := pb_not.1 (by simpa using h)
    rw [pb_false fun hp => h ⟨hp.1, hp.2.1⟩]
  have hr : 2 ≤ p ∧ p ≤ 251 := pb_iff.1 (by simpa using h)
  refine Ev.start (p := fun φ n => spec_l02Prime.l0 (mkR (run E (φ 0))) (φ 0) n p 2 = _) 1 ?_ (fun _ _ _ h => h)
  refine loopR 1 (σ := Nat) (L := fun φ n k => spec_l02Prime.l0 (mkR (run E (φ 0))) (φ 0) n p (k : Int)) (fun _ _ _ _ => rfl) (fun k => 2 ≤ k ∧ k ≤ 17 ∧ ∀ j : Nat, 2 ≤ j → j < k → (j : Int) * j ≤ p → p % j ≠ 0) (fun _ => _) (fun k => 17 - k) (fun k ⟨h1, h2, h3⟩ ih => ?_) 2 ⟨by omega, by omega, fun j _ _ => by omega⟩
  simp only [spec_l02Prime.l0_succ _ mk_ok]
  have hkk : 0 ≤ (k : Int) * k ∧ (k : Int) * k ≤ 289 := ⟨Int.mul_nonneg (by omega) (by omega), by have := Nat.mul_le_mul h2 h2; omega⟩
  have e : w64 ((k : Int) * k) = (k : Int) * k := w64_small (by omega) (by omega)
  simp only [e]
  refine ev_d (fun hle => ?_) fun hle => ev_some ?_
  · have hk16 : k < 16 := Classical.byContradiction fun hn => by
      have := Nat.mul_le_mul (show 16 ≤ k by omega) (show 16 ≤ k by omega); omega
    refine ev_chk (by simp; omega) ?_
    rw [Int.tmod_eq_emod_of_nonneg (by omega)]
    refine ev_b (fun h0 => ev_some ?_) fun h0 => ?_
    · rw [pb_false fun hp => hp.2.2 k h1 hle (by simpa using h0)]
    · rw [w64_succ (by omega)]
      refine ih (k + 1) ⟨by omega, by omega, fun j hj1 hj2 hj3 => ?_⟩ (by show 17 - (k + 1) < 17 - k; omega)
      by_cases hjk : j = k
      · subst hjk; simpa using h0
      · exact h3 j hj1 (by omega) hj3
  · rw [pb_true]
    refine ⟨hr.1, hr.2, fun j hj1 hj2 => ?_⟩
    by_cases hjk : j < k
    · exact h3 j hj1 hjk hj2
    · exfalso
      have := Nat.mul_le_mul (show k ≤ j by omega) (show k ≤ j by omega); omega

theorem specValidPrime_ret (p : Int) : Ret E n_spec_ValidPrime [dI p] ⟨o_spec_ValidPrime, (pb (Pr p), ())⟩ := by
  refine ret_of ?_
  simp only [run_spec_ValidPrime, spec_ValidPrime.ev]
  exact ev_call (l02Prime_ret p) ev_rfl

/-! matrices -/
def Elems (v : Sim) (p : Int) : Prop := ∀ x ∈ v, 0 ≤ x ∧ x ≤ p - 1

theorem isElement_ret (a p : Int) (hp : 0 ≤ p ∧ p ≤ 1048576) : Ret E n_impl_isElement [dI a, dI p] ⟨o_impl_isElement, (pb (0 ≤ a ∧ a ≤ p - 1), ())⟩ := by
  refine ret_of ?_
  simp only [run_impl_isElement, impl_isElement.ev]
  rw [w64_small (by omega) (by omega)]
  exact ev_call (within_ret _ _ _) ev_rfl

theorem areElements_1_ret (a p : Int) (hp : 0 ≤ p ∧ p ≤ 1048576) : Ret E n_impl_areElements_1 [dI a, ⟨.ptr (.cons (.int .i64) .nil), (p, ())⟩] ⟨o_impl_areElements_1, (!pb (0 ≤ a ∧ a ≤ p - 1), ())⟩ := by
  refine ret_of ?_
  simp only [run_impl_areElements_1, impl_areElements_1.ev]
  exact ev_call (isElement_ret _ _ hp) ev_rfl

theorem none_bad {α : Type} {s : List α} {P : α → Prop} : (!pb (∃ x ∈ s, (!pb (P x)) = true)) = pb (∀ x ∈ s, P x) := eq_pb (by
  simp only [Bool.not_eq_true', pb_not]
  exact ⟨fun h x hx => Classical.byContradiction fun hn => h ⟨x, hx, hn⟩, fun h ⟨x, hx, hn⟩ => hn (h x hx)⟩)

theorem areElements_ret (v : Sim) (p : Int) (hv : v.length ≤ 1048576) (hp : 0 ≤ p ∧ p ≤ 1048576) : Ret E n_impl_areElements [dL v, dI p] ⟨o_impl_areElements, (pb (Elems v p), ())⟩ := by
  refine ret_of ?_
  simp only [run_impl_areElements, impl_areElements.ev]
  refine ev_call (ContainsFunc_Sint64_int64_impl_areElements_1_ret v ((p, ()), ()) _ hv fun x _ => areElements_1_ret x p hp) (ev_some ?_)
  simp only [none_bad]; rfl

theorem l03Column_ret (v : Sim) (n p : Int) (hv : v.length ≤ 1048576) (hp : 0 ≤ p ∧ p ≤ 1048576) : Ret E n_spec_l03Column [dL v, dI n, dI p] ⟨o_spec_l03Column, (pb (Elems v p ∧ (v.length : Int) = n), ())⟩ := by
  have e : w64 (p - 1) = p - 1 := w64_small (by omega) (by omega)
  refine ret_of ?_
  simp only [run_spec_l03Column, spec_l03Column.ev]
  refine Ev.start (p := fun φ n' => spec_l03Column.l0 (mkR (run E (φ 0))) (φ 0) n' v n p 0 = _) 1 ?_ (fun _ _ _ h => h)
  refine (all_pb 1 (L := fun φ n' k => spec_l03Column.l0 (mkR (run E (φ 0))) (φ 0) n' v n p k) (len := v.length) 0 (by omega) (fun j => 0 ≤ v.getD j 0 ∧ v.getD j 0 ≤ p - 1) (fun b => some ⟨o_spec_l03Column, (b && ((v.length : Int) == n), ())⟩) (fun _ _ _ _ => rfl) (fun k h1 h2 hP _ => ?_) (fun k r h1 h2 hP _ ih => ?_) (fun _ => ?_)).to ?_
  · simp only [spec_l03Column.l0_succ _ mk_ok, e]
    rw [getD_lt h2] at hP
    exact ev_t (decide_eq_true (by omega)) (ev_bind (idx_lt h2) (ev_call (l00In_ret _ _ _) (ev_t (by rw [pb_false hP]; rfl) ev_rfl)))
  · simp only [spec_l03Column.l0_succ _ mk_ok, e]
    rw [getD_lt h2] at hP
    refine ev_t (decide_eq_true (by omega)) (ev_bind (idx_lt h2) (ev_call (l00In_ret _ _ _) (ev_f (by rw [pb_true hP]; rfl) ?_)))
    rw [w64_succ (by omega)]; exact ih
  · simp only [spec_l03Column.l0_succ _ mk_ok]
    exact ev_f (decide_eq_false (by omega)) (ev_some (by rw [Bool.true_and]))
  · have : (pb (∀ j, 0 ≤ j → j < v.length → 0 ≤ v.getD j 0 ∧ v.getD j 0 ≤ p - 1) && ((v.length : Int) == n)) = pb (Elems v p ∧ (v.length : Int) = n) := eq_pb (by
      rw [Bool.and_eq_true, pb_iff, beq_iff_eq]
      refine and_congr_left' ⟨fun h x hx => ?_, fun h j _ hj => ?_⟩
      · obtain ⟨j, hj, rfl⟩ := List.mem_iff_getElem.1 hx
        have := h j (by omega) hj
        rwa [getD_lt hj] at this
      · rw [getD_lt hj]; exact h _ (List.getElem_mem hj))
    rw [this]

theorem isSide_ret (n : Int) : Ret E n_impl_isSide [dI n] ⟨o_impl_isSide, (pb (0 ≤ n ∧ n ≤ 32), ())⟩ := by
  refine ret_of ?_
  simp only [run_impl_isSide, impl_isSide.ev]
  exact ev_call (within_ret _ _ _) ev_rfl

theorem sizeI_ret (s : Sim) : Ret E n_impl_size_int64 [dL s] ⟨o_impl_size_int64, ((s.length : Int), ())⟩ := by
  refine ret_of ?_
  simp only [run_impl_size_int64, impl_size_int64.ev]
  (first | exact ev_rfl | exact Ev.of fun _ => trivial)

theorem sizeL_ret (s : List Sim) : Ret E n_impl_size_Sint64 [dLL s] ⟨o_impl_size_Sint64, ((s.length : Int), ())⟩ := by
  refine ret_of ?_
  simp only [run_impl_size_Sint64, impl_size_Sint64.ev]
  (first | exact ev_rfl | exact Ev.of fun _ => trivial)

/-- valid matrices -/
def VM (m : Mat) : Prop := Pr m.1 ∧ (0 ≤ m.2.1 ∧ m.2.1 ≤ 32) ∧ (0 ≤ m.2.2.1 ∧ m.2.2.1 ≤ 32) ∧ (m.2.2.2.1.length : Int) = m.2.1 * m.2.2.1 ∧ Elems m.2.2.2.1 m.1

theorem mul_side {a b : Int} (ha : 0 ≤ a ∧ a ≤ 32) (hb : 0 ≤ b ∧ b ≤ 32) : 0 ≤ a * b ∧ a * b ≤ 1024 := by
  obtain ⟨x, rfl⟩ := Int.eq_ofNat_of_zero_le ha.1
  obtain ⟨y, rfl⟩ := Int.eq_ofNat_of_zero_le hb.1
  have := Nat.mul_le_mul (show x ≤ 32 by omega) (show y ≤ 32 by omega)
  have e : (x : Int) * y = ((x * y : Nat) : Int) := by simp
  show 0 ≤ (x : Int) * y ∧ (x : Int) * y ≤ 1024
  rw [e]; omega

theorem ValidMatrix_ret (m : Mat) (hm : Sm (.st cM) m) : Ret E n_impl_ValidMatrix [dI m.1, dI m.2.1, dI m.2.2.1, dL m.2.2.2.1] ⟨o_impl_ValidMatrix, (pb (VM m), ())⟩ := by
  have hl : m.2.2.2.1.length ≤ 1048576 := hm.2.2.2.1.1
  refine ret_of ?_
  simp only [run_impl_ValidMatrix, impl_ValidMatrix.ev]
  refine ev_call (ValidPrime_ret _) (ev_b (fun h1 => ev_call (isSide_ret _) (ev_b (fun h2 => ev_call (isSide_ret _) (ev_b (fun h3 => ev_call (sizeI_ret _) (ev_b (fun h4 => ?_) fun h4 => ev_some ?_)) fun h3 => ev_some ?_)) fun h2 => ev_some ?_)) fun h1 => ev_some ?_)
  · have h1 := pb_iff.1 h1; have h2 := pb_iff.1 h2; have h3 := pb_iff.1 h3
    have := mul_side h2 h3
    rw [w64_small (by omega) (by omega)] at h4
    refine ev_call (areElements_ret _ _ hl ⟨by have := h1.1; omega, by have := h1.2.1; omega⟩) (ev_some ?_)
    exact congrArg (fun b : Bool => some (⟨o_impl_ValidMatrix, (b, ())⟩ : Dv)) (pb_congr ⟨fun h => ⟨h1, h2, h3, by simpa using h4, h⟩, fun h => h.2.2.2.2⟩)
  · have h2 := pb_iff.1 h2; have h3 := pb_iff.1 h3
    have := mul_side h2 h3
    rw [w64_small (by omega) (by omega)] at h4
    rw [pb_false fun h => by have := h.2.2.2.1; simp [this] at h4]
  · rw [pb_false fun h => pb_not.1 h3 h.2.2.1]
  · rw [pb_false fun h => pb_not.1 h2 h.2.1]
  · rw [pb_false fun h => pb_not.1 h1 h.1]

theorem l03Ok_ret (m : Mat) (hm : Sm (.st cM) m) : Ret E n_spec_l03Ok [dM m] ⟨o_spec_l03Ok, (pb (VM m), ())⟩ := by
  have hl : m.2.2.2.1.length ≤ 1048576 := hm.2.2.2.1.1
  refine ret_of ?_
  simp only [run_spec_l03Ok, spec_l03Ok.ev]
  refine ev_call (specValidPrime_ret _) (ev_b (fun h1 => ev_call (l00In_ret _ _ _) (ev_b (fun h2 => ev_call (l00In_ret _ _ _) (ev_b (fun h3 => ?_) fun h3 => ev_some ?_)) fun h2 => ev_some ?_)) fun h1 => ev_some ?_)
  · have h1 := pb_iff.1 h1; have h2 := pb_iff.1 h2; have h3 := pb_iff.1 h3
    have := mul_side h2 h3
    rw [w64_small (by omega) (by omega)]
    refine ev_call (l03Column_ret _ _ _ hl ⟨by have := h1.1; omega, by have := h1.2.1; omega⟩) (ev_some ?_)
    exact congrArg (fun b : Bool => some (⟨o_spec_l03Ok, (b, ())⟩ : Dv)) (pb_congr ⟨fun h => ⟨h1, h2, h3, h.2, h.1⟩, fun h => ⟨h.2.2.2.2, h.2.2.2.1⟩⟩)
  · rw [pb_false fun h => pb_not.1 h3 h.2.2.1]
  · rw [pb_false fun h => pb_not.1 h2 h.2.1]
  · rw [pb_false fun h => pb_not.1 h1 h.1]

def Bt (m : Mat) (p f t : Int) : Prop := VM m ∧ m.1 = p ∧ m.2.1 = t ∧ m.2.2.1 = f

theorem isBetween_ret (m : Mat) (p f t : Int) (hm : Sm (.st cM) m) : Ret E n_impl_isBetween [dI m.1, dI m.2.1, dI m.2.2.1, dL m.2.2.2.1, dI p, dI f, dI t] ⟨o_impl_isBetween, (pb (Bt m p f t), ())⟩ := by
  refine ret_of ?_
  simp only [run_impl_isBetween, impl_isBetween.ev]
  refine ev_call (ValidMatrix_ret m hm) (ev_b (fun h1 => ev_b (fun h2 => ev_b (fun h3 => ev_some ?_) fun h3 => ev_some ?_) fun h2 => ev_some ?_) fun h1 => ev_some ?_)
  · have h1 := pb_iff.1 h1
    have : (m.2.2.1 == f) = pb (Bt m p f t) := eq_pb (by
      rw [beq_iff_eq]; exact ⟨fun h => ⟨h1, by simpa using h2, by simpa using h3, h⟩, fun h => h.2.2.2⟩)
    rw [this]
  · rw [pb_false fun h => by have := h.2.2.1; simp [this] at h3]
  · rw [pb_false fun h => by have := h.2.1; simp [this] at h2]
  · rw [pb_false fun h => pb_not.1 h1 h.1]

/-! stalks -/
def ofDim (c : List Sim) (d : Int) (k : Nat) : List Int := ((List.range k).filter fun i => decide (((c.getD i []).length : Int) = d + 1)).map Int.ofNat

theorem ofDim_succ (c : List Sim) (d : Int) (k : Nat) : ofDim c d (k + 1) = ofDim c d k ++ if ((c.getD k []).length : Int) = d + 1 then [(k : Int)] else [] := by
  unfold ofDim
  rw [List.range_succ, List.filter_append, List.map_append]
  congr 1
  by_cases h : ((c.getD k []).length : Int) = d + 1
  · rw [if_pos h, List.filter_cons_of_pos (by simpa using h)]; rfl
  · rw [if_neg h, List.filter_cons_of_neg (by simpa using h)]; rfl

theorem ofDim_length (c : List Sim) (d : Int) (k : Nat) : (ofDim c d k).length ≤ k := by
  unfold ofDim
  rw [List.length_map]
  exact Nat.le_trans (List.length_filter_le _ _) (by simp)

theorem ofDim_mem {c : List Sim} {d : Int} {k : Nat} {x : Int} (h : x ∈ ofDim c d k) : ∃ i : Nat, x = i ∧ i < k := by
  unfold ofDim at h
  rw [List.mem_map] at h
  obtain ⟨i, hi, rfl⟩ := h
  exact ⟨i, rfl, by have := (List.mem_filter.1 hi).1; simpa using this⟩

theorem simplicesOf_ret (c : List Sim) (d : Int) (hc : Sm (.sl (.sl (.int .i64))) c) (hd : 0 ≤ d ∧ d ≤ 1048576) : Ret E n_impl_simplicesOf [dLL c, dI d] ⟨o_impl_simplicesOf, (ofDim c d c.length, ())⟩ := by
  have hc1 : c.length ≤ 1048576 := hc.1
  have hd1 : w64 (d + 1) = d + 1 := w64_small (by omega) (by omega)
  refine ret_of ?_
  simp only [run_impl_simplicesOf, impl_simplicesOf.ev]
  refine Ev.start (p := fun φ n => impl_simplicesOf.l0 (mkR (run E (φ 0))) (φ 0) n d c (c.length : Int) 0 [] = _) 1 ?_ (fun _ _ _ h => h)
  refine fold_loop 1 (L := fun φ n k a => impl_simplicesOf.l0 (mkR (run E (φ 0))) (φ 0) n d c (c.length : Int) k a) (len := c.length) (fun k => ofDim c d k) (fun _ _ _ _ _ => rfl) (fun k r hk ih => ?_) ?_
  · simp only [impl_simplicesOf.l0_succ _ mk_ok, hd1]
    rw [ofDim_succ, getD_lt hk] at ih
    have hlen := ofDim_length c d k
    refine ev_t (decide_eq_true (by omega)) (ev_bind (idx_lt hk) (ev_call (sizeI_ret _) ?_))
    rw [w64_succ (by omega)]
    refine ev_b (fun he => ev_chk (decide_eq_true (by simp only [List.length_cons, List.length_nil]; omega)) ?_) fun he => ?_
    · rw [if_pos (by simpa using he)] at ih; exact ih
    · rw [if_neg (by simpa using he), List.append_nil] at ih; exact ih
  · simp only [impl_simplicesOf.l0_succ _ mk_ok]
    exact ev_f (decide_eq_false (by omega)) ev_rfl

theorem l05Of_ret (c : List Sim) (d : Int) (hc : Sm (.sl (.sl (.int .i64))) c) (hd : 0 ≤ d ∧ d ≤ 1048576) : Ret E n_spec_l05Of [dC (c, ()), dI d] ⟨o_spec_l05Of, (ofDim c d c.length, ())⟩ := by
  have hc1 : c.length ≤ 1048576 := hc.1
  have hd1 : w64 (d + 1) = d + 1 := w64_small (by omega) (by omega)
  refine ret_of ?_
  simp only [run_spec_l05Of, spec_l05Of.ev]
  refine Ev.start (p := fun φ n => spec_l05Of.l0 (mkR (run E (φ 0))) (φ 0) n (c, ()) d 0 [] = _) 1 ?_ (fun _ _ _ h => h)
  refine fold_loop 1 (L := fun φ n k a => spec_l05Of.l0 (mkR (run E (φ 0))) (φ 0) n (c, ()) d k a) (len := c.length) (fun k => ofDim c d k) (fun _ _ _ _ _ => rfl) (fun k r hk ih => ?_) ?_
  · simp only [spec_l05Of.l0_succ _ mk_ok, hd1]
    rw [ofDim_succ, getD_lt hk] at ih
    have hlen := ofDim_length c d k
    refine ev_t (decide_eq_true (by omega)) (ev_bind (idx_lt hk) ?_)
    rw [w64_succ (by omega)]
    refine ev_b (fun he => ev_chk (decide_eq_true (by simp only [List.length_cons, List.length_nil]; omega)) ?_) fun he => ?_
    · rw [if_pos (by simpa using he)] at ih; exact ih
    · rw [if_neg (by simpa using he), List.append_nil] at ih; exact ih
  · simp only [spec_l05Of.l0_succ _ mk_ok]
    exact ev_f (decide_eq_false (by omega)) ev_rfl

/-- the sum of the stalks of a dimension -/
def sumD (c : List Sim) (st : Sim) (d : Int) (k : Nat) : Int := (((ofDim c d c.length).take k).map fun i => st.getD i.toNat 0).sum

theorem sumD_succ (c : List Sim) (st : Sim) (d : Int) (k : Nat) (h : k < (ofDim c d c.length).length) : sumD c st d (k + 1) = sumD c st d k + st.getD ((ofDim c d c.length)[k]).toNat 0 := by
  unfold sumD
  rw [List.take_succ_eq_append_getElem h, List.map_append, List.sum_append]
  simp

theorem sumD_le {c : List Sim} {st : Sim} (hst : ∀ x ∈ st, 0 ≤ x ∧ x ≤ 3) (d : Int) (k : Nat) : 0 ≤ sumD c st d k ∧ sumD c st d k ≤ 3 * k := by
  induction k with
  | zero => simp [sumD]
  | succ k ih =>
    by_cases h : k < (ofDim c d c.length).length
    · rw [sumD_succ _ _ _ _ h]
      have : 0 ≤ st.getD ((ofDim c d c.length)[k]).toNat 0 ∧ st.getD ((ofDim c d c.length)[k]).toNat 0 ≤ 3 := by
        by_cases hl : ((ofDim c d c.length)[k]).toNat < st.length
        · rw [getD_lt hl]; exact hst _ (List.getElem_mem hl)
        · rw [List.getD_eq_getElem?_getD, List.getElem?_eq_none (by omega)]; simp
      omega
    · have : sumD c st d (k + 1) = sumD c st d k := by
        unfold sumD
        rw [List.take_of_length_le (by omega), List.take_of_length_le (by omega)]
      omega

theorem stalkSum_ret (c : List Sim) (st : Sim) (d : Int) (p : Int) (ms : List Mat) (hc : Sm (.sl (.sl (.int .i64))) c) (hl : st.length = c.length) (hst : ∀ x ∈ st, 0 ≤ x ∧ x ≤ 3) (hd : 0 ≤ d ∧ d ≤ 1048576) :
    Ret E n_impl_stalkSum [dLL c, dI p, dL st, dMs ms, dI d] ⟨o_impl_stalkSum, (sumD c st d (ofDim c d c.length).length, ())⟩ := by
  have hc1 : c.length ≤ 1048576 := hc.1
  have hol := ofDim_length c d c.length
  refine ret_of ?_
  simp only [run_impl_stalkSum, impl_stalkSum.ev]
  refine ev_call (simplicesOf_ret c d hc hd) ?_
  refine Ev.start (p := fun φ n => impl_stalkSum.l0 (mkR (run E (φ 0))) (φ 0) n 0 (ofDim c d c.length) ((ofDim c d c.length).length : Int) 0 c p st ms = _) 1 ?_ (fun _ _ _ h => h)
  refine fold_loop 1 (L := fun φ n k a => impl_stalkSum.l0 (mkR (run E (φ 0))) (φ 0) n a (ofDim c d c.length) ((ofDim c d c.length).length : Int) k c p st ms) (len := (ofDim c d c.length).length) (fun k => sumD c st d k) (fun _ _ _ _ _ => rfl) (fun k r hk ih => ?_) ?_
  · simp only [impl_stalkSum.l0_succ _ mk_ok]
    obtain ⟨i, hi, hik⟩ := ofDim_mem (List.getElem_mem hk)
    rw [sumD_succ _ _ _ _ hk, hi, Int.toNat_natCast, getD_lt (by omega)] at ih
    have hb := sumD_le hst d k (c := c)
    have hb2 := hst _ (List.getElem_mem (show i < st.length by omega))
    refine ev_t (decide_eq_true (by omega)) (ev_bind (idx_lt hk) ?_)
    simp only [hi]
    refine ev_bind (idx_lt (by omega)) ?_
    rw [w64_succ (by omega), w64_small (by omega) (by omega)]
    exact ih
  · simp only [impl_stalkSum.l0_succ _ mk_ok]
    exact ev_f (decide_eq_false (by omega)) ev_rfl

theorem l09Sum_ret (c : List Sim) (st : Sim) (d : Int) (hc : Sm (.sl (.sl (.int .i64))) c) (hl : st.length = c.length) (hst : ∀ x ∈ st, 0 ≤ x ∧ x ≤ 3) (hd : 0 ≤ d ∧ d ≤ 1048576) :
    Ret E n_spec_l09Sum [dC (c, ()), dL st, dI d] ⟨o_spec_l09Sum, (sumD c st d (ofDim c d c.length).length, ())⟩ := by
  have hc1 : c.length ≤ 1048576 := hc.1
  have hol := ofDim_length c d c.length
  refine ret_of ?_
  simp only [run_spec_l09Sum, spec_l09Sum.ev]
  refine ev_call (l05Of_ret c d hc hd) ?_
  refine Ev.start (p := fun φ n => spec_l09Sum.l0 (mkR (run E (φ 0))) (φ 0) n st (ofDim c d c.length) 0 0 = _) 1 ?_ (fun _ _ _ h => h)
  refine fold_loop 1 (L := fun φ n k a => spec_l09Sum.l0 (mkR (run E (φ 0))) (φ 0) n st (ofDim c d c.length) a k) (len := (ofDim c d c.length).length) (fun k => sumD c st d k) (fun _ _ _ _ _ => rfl) (fun k r hk ih => ?_) ?_
  · simp only [spec_l09Sum.l0_succ _ mk_ok]
    obtain ⟨i, hi, hik⟩ := ofDim_mem (List.getElem_mem hk)
    rw [sumD_succ _ _ _ _ hk, hi, Int.toNat_natCast, getD_lt (by omega)] at ih
    have hb := sumD_le hst d k (c := c)
    have hb2 := hst _ (List.getElem_mem (show i < st.length by omega))
    refine ev_t (decide_eq_true (by omega)) (ev_bind (idx_lt hk) ?_)
    simp only [hi]
    refine ev_bind (idx_lt (by omega)) ?_
    rw [w64_succ (by omega), w64_small (by omega) (by omega)]
    exact ih
  · simp only [spec_l09Sum.l0_succ _ mk_ok]
    exact ev_f (decide_eq_false (by omega)) ev_rfl

end VeT

open Go Go.Proofs Ve
set_option linter.unusedVariables false
set_option linter.unusedSimpArgs false
namespace VeT

theorem sum_len_le {c : List Sim} {st : Sim} (hst : ∀ x ∈ st, 0 ≤ x ∧ x ≤ 3) (d : Int) : 0 ≤ sumD c st d (ofDim c d c.length).length := (sumD_le hst d _).1

/-- the sum of a dimension's stalks -/
def SD (c : List Sim) (st : Sim) (d : Int) : Int := sumD c st d (ofDim c d c.length).length

/-- stalks -/
def SK (c : List Sim) (st : Sim) : Prop := st.length = c.length ∧ (∀ x ∈ st, 0 ≤ x ∧ x ≤ 3) ∧ ∀ d : Nat, d < 4 → SD c st (d : Int) ≤ 32

theorem areStalks_1_ret (n : Int) : Ret E n_impl_areStalks_1 [dI n] ⟨o_impl_areStalks_1, (!pb (0 ≤ n ∧ n ≤ 3), ())⟩ := by
  refine ret_of ?_
  simp only [run_impl_areStalks_1, impl_areStalks_1.ev]
  exact ev_call (within_ret _ _ _) ev_rfl

theorem areStalks_ret (c : List Sim) (st : Sim) (hc : Sm (.sl (.sl (.int .i64))) c) (hs : st.length ≤ 1048576) : Ret E n_impl_areStalks [dLL c, dL st] ⟨o_impl_areStalks, (pb (SK c st), ())⟩ := by
  refine ret_of ?_
  simp only [run_impl_areStalks, impl_areStalks.ev]
  refine ev_b (fun h => ?_) fun h => ?_
  · simp only [impl_areStalks.j0_eq _ mk_ok, cond_true]
    have h : ¬ (st.length : Int) = c.length := by simpa using h
    rw [pb_false fun hk => h (by rw [hk.1])]; (first | exact ev_rfl | exact Ev.of fun _ => trivial)
  have hl : st.length = c.length := by have : (st.length : Int) = c.length := by simpa using h
                                       omega
  refine ev_call (ContainsFunc_Sint64_int64_impl_areStalks_1_ret st _ hs fun x _ => areStalks_1_ret x) ?_
  simp only [impl_areStalks.j0_eq _ mk_ok]
  have e := none_bad (s := st) (P := fun x => 0 ≤ x ∧ x ≤ 3)
  refine ev_b (fun h => ?_) fun h => ?_
  · simp only [h] at e
    rw [pb_false fun hk => pb_not.1 e.symm hk.2.1]; (first | exact ev_rfl | exact Ev.of fun _ => trivial)
  · simp only [h] at e
    have hst : ∀ x ∈ st, 0 ≤ x ∧ x ≤ 3 := pb_iff.1 e.symm
    refine Ev.start (p := fun φ n => impl_areStalks.l1 (mkR (run E (φ 0))) (φ 0) n st 0 c = _) 1 ?_ (fun _ _ _ h => h)
    refine (all_pb 1 (L := fun φ n k => impl_areStalks.l1 (mkR (run E (φ 0))) (φ 0) n st k c) (len := 4) 0 (by omega) (fun d => SD c st (d : Int) ≤ 32) (fun b => some ⟨o_impl_areStalks, (b, ())⟩) (fun _ _ _ _ => rfl) (fun k h1 h2 hP _ => ?_) (fun k r h1 h2 hP _ ih => ?_) (fun _ => ?_)).to ?_
    · simp only [impl_areStalks.l1_succ _ mk_ok]
      exact ev_t (decide_eq_true (by omega)) (ev_call (stalkSum_ret c st _ _ _ hc hl hst (by omega)) (ev_t (decide_eq_true (Int.not_le.1 hP)) ev_rfl))
    · simp only [impl_areStalks.l1_succ _ mk_ok]
      refine ev_t (decide_eq_true (by omega)) (ev_call (stalkSum_ret c st _ _ _ hc hl hst (by omega)) (ev_f (decide_eq_false (Int.not_lt.2 hP)) ?_))
      rw [w64_succ (by omega)]; exact ih
    · simp only [impl_areStalks.l1_succ _ mk_ok]
      exact ev_f (decide_eq_false (by omega)) ev_rfl
    · exact congrArg (fun b : Bool => some (⟨o_impl_areStalks, (b, ())⟩ : Dv)) (pb_congr ⟨fun h => ⟨hl, hst, fun d hd => h d (by omega) hd⟩, fun h d _ hd => h.2.2 d hd⟩)

theorem l09Stalks_ret (c : List Sim) (st : Sim) (hc : Sm (.sl (.sl (.int .i64))) c) (hs : st.length ≤ 1048576) : Ret E n_spec_l09Stalks [dC (c, ()), dL st] ⟨o_spec_l09Stalks, (pb (SK c st), ())⟩ := by
  refine ret_of ?_
  simp only [run_spec_l09Stalks, spec_l09Stalks.ev]
  refine ev_call (l03Column_ret st _ _ hs (by omega)) (ev_b (fun h => ?_) fun h => ?_)
  · have h := pb_not.1 (show pb (Elems st 4 ∧ (st.length : Int) = c.length) = false by simpa using h)
    rw [pb_false fun hk => h ⟨hk.2.1, by rw [hk.1]⟩]; (first | exact ev_rfl | exact Ev.of fun _ => trivial)
  · have h := pb_iff.1 (show pb (Elems st 4 ∧ (st.length : Int) = c.length) = true by simpa using h)
    have hl : st.length = c.length := by have := h.2; omega
    have hst : ∀ x ∈ st, 0 ≤ x ∧ x ≤ 3 := h.1
    refine Ev.start (p := fun φ n => spec_l09Stalks.l0 (mkR (run E (φ 0))) (φ 0) n (c, ()) st 0 = _) 1 ?_ (fun _ _ _ h => h)
    refine (all_pb 1 (L := fun φ n k => spec_l09Stalks.l0 (mkR (run E (φ 0))) (φ 0) n (c, ()) st k) (len := 4) 0 (by omega) (fun d => SD c st (d : Int) ≤ 32) (fun b => some ⟨o_spec_l09Stalks, (b, ())⟩) (fun _ _ _ _ => rfl) (fun k h1 h2 hP _ => ?_) (fun k r h1 h2 hP _ ih => ?_) (fun _ => ?_)).to ?_
    · simp only [spec_l09Stalks.l0_succ _ mk_ok]
      exact ev_t (decide_eq_true (by omega)) (ev_call (l09Sum_ret c st _ hc hl hst (by omega)) (ev_t (decide_eq_true (Int.not_le.1 hP)) ev_rfl))
    · simp only [spec_l09Stalks.l0_succ _ mk_ok]
      refine ev_t (decide_eq_true (by omega)) (ev_call (l09Sum_ret c st _ hc hl hst (by omega)) (ev_f (decide_eq_false (Int.not_lt.2 hP)) ?_))
      rw [w64_succ (by omega)]; exact ih
    · simp only [spec_l09Stalks.l0_succ _ mk_ok]
      exact ev_f (decide_eq_false (by omega)) ev_rfl
    · exact congrArg (fun b : Bool => some (⟨o_spec_l09Stalks, (b, ())⟩ : Dv)) (pb_congr ⟨fun h => ⟨hl, hst, fun d hd => h d (by omega) hd⟩, fun h d _ hd => h.2.2 d hd⟩)

/-! faces' indices -/
noncomputable def fIdx (c : List Sim) (k : Nat) : List Int := (faces (c.getD k [])).map (findI c)

theorem findI_lt {c : List Sim} {s : Sim} : findI c s < c.length ∧ -1 ≤ findI c s := by
  unfold findI idxf
  cases h : c.findIdx? (fun x => pb (x = s)) with
  | none => simp only [o2i]; omega
  | some k =>
    rw [List.findIdx?_eq_some_iff_getElem] at h
    obtain ⟨h, _⟩ := h
    simp only [o2i]; omega

theorem fIdx_length {c : List Sim} {k : Nat} : (fIdx c k).length = if 1 < (c.getD k []).length then (c.getD k []).length else 0 := by
  unfold fIdx faces
  rw [List.length_map]
  split <;> simp

theorem fIdx_mem {c : List Sim} (h : VC c) {k : Nat} (hk : k < c.length) {x : Int} (hx : x ∈ fIdx c k) : 0 ≤ x ∧ x < c.length := by
  unfold fIdx at hx
  rw [List.mem_map] at hx
  obtain ⟨f, hf, rfl⟩ := hx
  exact ⟨findI_nonneg.2 (h.2.2.2 k hk f hf), findI_lt.1⟩

theorem faceIndices_ret (c : List Sim) (k : Nat) (hk : k < c.length) (hc : Sm (.sl (.sl (.int .i64))) c) (hs : Srt c) : Ret E n_impl_faceIndices [dLL c, dI (k : Int)] ⟨o_impl_faceIndices, (fIdx c k, ())⟩ := by
  have hks : (c[k]).length ≤ 1048576 := (sm_get hc hk).1
  have hfl := faces_length (s := c[k])
  refine ret_of ?_
  simp only [run_impl_faceIndices, impl_faceIndices.ev]
  refine ev_bind (idx_lt hk) (ev_call (facesOf_ret _ hks) ?_)
  refine Ev.start (p := fun φ n => impl_faceIndices.l0 (mkR (run E (φ 0))) (φ 0) n (faces c[k]) ((faces c[k]).length : Int) 0 c [] = _) 1 ?_ (fun _ _ _ h => h)
  refine fold_loop 1 (L := fun φ n j a => impl_faceIndices.l0 (mkR (run E (φ 0))) (φ 0) n (faces c[k]) ((faces c[k]).length : Int) j c a) (len := (faces c[k]).length) (fun j => ((faces c[k]).take j).map (findI c)) (fun _ _ _ _ _ => rfl) (fun j r hj ih => ?_) ?_
  · simp only [impl_faceIndices.l0_succ _ mk_ok]
    rw [List.take_succ_eq_append_getElem hj, List.map_append] at ih
    refine ev_t (decide_eq_true (by omega)) (ev_bind (idx_lt hj) (ev_call (indexOf_ret c _ hc hs) (ev_chk (by simp; omega) ?_)))
    rw [w64_succ (by omega)]; exact ih
  · simp only [impl_faceIndices.l0_succ _ mk_ok]
    refine ev_f (decide_eq_false (by omega)) (ev_some ?_)
    rw [List.take_of_length_le (Nat.le_refl _), fIdx, getD_lt hk]

theorem l05Faces_ret (c : List Sim) (k : Nat) (hk : k < c.length) (hc : Sm (.sl (.sl (.int .i64))) c) : Ret E n_spec_l05Faces [dC (c, ()), dI (k : Int)] ⟨o_spec_l05Faces, (fIdx c k, ())⟩ := by
  have hks : (c[k]).length ≤ 1048576 := (sm_get hc hk).1
  refine ret_of ?_
  simp only [run_spec_l05Faces, spec_l05Faces.ev]
  refine ev_bind (idx_lt hk) ?_
  refine Ev.start (p := fun φ n => spec_l05Faces.l0 (mkR (run E (φ 0))) (φ 0) n (c, ()) c[k] 0 [] = _) 1 ?_ (fun _ _ _ h => h)
  by_cases hlen : 1 < (c[k]).length
  · refine fold_loop 1 (L := fun φ n j a => spec_l05Faces.l0 (mkR (run E (φ 0))) (φ 0) n (c, ()) c[k] j a) (len := (c[k]).length) (fun j => (List.range j).map fun i => findI c ((c[k]).eraseIdx i)) (fun _ _ _ _ _ => rfl) (fun j r hj ih => ?_) ?_
    · simp only [spec_l05Faces.l0_succ _ mk_ok]
      rw [List.range_succ, List.map_append] at ih
      refine ev_t (decide_eq_true (by omega)) ?_
      simp only [show decide (((c[k]).length : Int) > 1) = true from decide_eq_true (by omega), spec_l05Faces.j1_eq _ mk_ok, cond_true]
      refine ev_call (l05Drop_ret _ j hj hks) (ev_call (l05Find_ret (c, ()) _ hc) (ev_chk (by simp; omega) ?_))
      rw [w64_succ (by omega)]; exact ih
    · simp only [spec_l05Faces.l0_succ _ mk_ok]
      refine ev_f (decide_eq_false (by omega)) ?_
      simp only [spec_l05Faces.j1_eq _ mk_ok, cond_false]
      refine ev_some ?_
      rw [fIdx, getD_lt hk, faces, if_pos hlen, List.map_map]; rfl
  · refine Ev.round 1 (L := fun φ n => spec_l05Faces.l0 (mkR (run E (φ 0))) (φ 0) n (c, ()) c[k] 0 []) ?_ (fun _ _ _ => rfl)
    have hj : Ev fun φ => spec_l05Faces.j1 (mkR (run E (φ 0))) (φ 0) (φ 1) (c, ()) c[k] 0 false [] = some ⟨o_spec_l05Faces, (fIdx c k, ())⟩ := by
      simp only [spec_l05Faces.j1_eq _ mk_ok, cond_false]
      refine ev_some ?_
      rw [fIdx, getD_lt hk, faces, if_neg hlen]; rfl
    simp only [spec_l05Faces.l0_succ _ mk_ok]
    refine ev_d (fun _ => ?_) fun _ => hj
    simp only [show decide (((c[k]).length : Int) > 1) = false from decide_eq_false (by omega)]
    exact hj

/-! arrows -/
abbrev Arw := Int × Int × Int × Unit
noncomputable def rowA (c : List Sim) (k i : Nat) : List Arw := (List.range i).map fun (j : Nat) => ((k : Int), (j : Int), (fIdx c k).getD j 0, ())
noncomputable def arrs (c : List Sim) : Nat → List Arw
  | 0 => []
  | k + 1 => arrs c k ++ rowA c k (fIdx c k).length
noncomputable def plc (c : List Sim) (k : Nat) : Nat := (arrs c k).length

theorem rowA_length {c : List Sim} {k i : Nat} : (rowA c k i).length = i := by simp [rowA]

theorem plc_succ {c : List Sim} {k : Nat} : plc c (k + 1) = plc c k + (fIdx c k).length := by
  unfold plc; rw [arrs, List.length_append, rowA_length]

theorem VC.len4 {c : List Sim} (h : VC c) {k : Nat} (hk : k < c.length) : (c.getD k []).length ≤ 4 := (h.2.1 k hk).2.1

theorem VC.fIdx4 {c : List Sim} (h : VC c) {k : Nat} (hk : k < c.length) : (fIdx c k).length ≤ 4 := by
  have := h.len4 hk
  rw [fIdx_length]; split <;> omega

theorem VC.plc {c : List Sim} (h : VC c) : ∀ {k : Nat}, k ≤ c.length → plc c k ≤ 4 * k
  | 0, _ => by simp [VeT.plc, arrs]
  | k + 1, hk => by
    have h1 := h.plc (k := k) (by omega)
    have h2 := h.fIdx4 (k := k) (by omega)
    rw [plc_succ]; omega

theorem arrs_get {c : List Sim} : ∀ {n k i : Nat}, k < n → i < (fIdx c k).length → (arrs c n)[plc c k + i]? = some ((k : Int), (i : Int), (fIdx c k).getD i 0, ())
  | 0, _, _, h, _ => by omega
  | n + 1, k, i, h, hi => by
    rw [arrs]
    by_cases hk : k < n
    · have := arrs_get hk hi
      have hl := (List.getElem?_eq_some_iff.1 this).1
      rw [List.getElem?_append_left hl]; exact this
    · obtain rfl : k = n := by omega
      rw [List.getElem?_append_right (by unfold plc; omega)]
      rw [show plc c k + i - (arrs c k).length = i by unfold plc; omega]
      simp [rowA, hi]

theorem arrs_ex {c : List Sim} : ∀ {n t : Nat}, t < (arrs c n).length → ∃ k i, k < n ∧ i < (fIdx c k).length ∧ t = plc c k + i
  | 0, _, h => by simp [arrs] at h
  | n + 1, t, h => by
    by_cases ht : t < (arrs c n).length
    · obtain ⟨k, i, h1, h2, h3⟩ := arrs_ex ht
      exact ⟨k, i, by omega, h2, h3⟩
    · rw [arrs, List.length_append, rowA_length] at h
      exact ⟨n, t - (arrs c n).length, by omega, by omega, by unfold plc; omega⟩

theorem arrows_ret (c : List Sim) (hc : Sm (.sl (.sl (.int .i64))) c) (hv : VC c) : Ret E n_impl_arrows [dLL c] ⟨o_impl_arrows, (arrs c c.length, ())⟩ := by
  have hs := hv.srt
  have h48 := hv.1
  refine ret_of ?_
  simp only [run_impl_arrows, impl_arrows.ev]
  refine ev_call (sizeL_ret _) ?_
  refine Ev.start (p := fun φ n => impl_arrows.l0 (mkR (run E (φ 0))) (φ 0) n (c.length : Int) 0 c [] = _) 1 ?_ (fun _ _ _ h => h)
  refine fold_loop 1 (L := fun φ n k a => impl_arrows.l0 (mkR (run E (φ 0))) (φ 0) n (c.length : Int) k c a) (len := c.length) (fun k => arrs c k) (fun _ _ _ _ _ => rfl) (fun k r hk ih => ?_) ?_
  · simp only [impl_arrows.l0_succ _ mk_ok]
    have hpl := hv.plc (k := k) (by omega)
    have hf4 := hv.fIdx4 hk
    refine ev_t (decide_eq_true (by omega)) (ev_call (faceIndices_ret c k hk hc hs) ?_)
    refine Ev.start (p := fun φ n => impl_arrows.l1 (mkR (run E (φ 0))) (φ 0) (φ 1) n (k : Int) (c.length : Int) (k : Int) (fIdx c k) ((fIdx c k).length : Int) 0 c (arrs c k) = _) 2 ?_ (fun _ _ _ h => h)
    have := fold_loop 2 (L := fun φ n j a => impl_arrows.l1 (mkR (run E (φ 0))) (φ 0) (φ 1) n (k : Int) (c.length : Int) (k : Int) (fIdx c k) ((fIdx c k).length : Int) j c a) (len := (fIdx c k).length) (fun j => arrs c k ++ rowA c k j) (r := r) (fun _ _ _ _ _ => rfl) (fun j r hj ih => ?_) ?_
    · simpa [rowA] using this
    · simp only [impl_arrows.l1_succ _ mk_ok]
      refine ev_t (decide_eq_true (by omega)) (ev_bind (idx_lt hj) (ev_chk (decide_eq_true ?_) ?_))
      · rw [List.length_append, rowA_length]; show (_ + _ + 1) * 24 ≤ _
        have : (arrs c k).length = plc c k := rfl
        omega
      · rw [w64_succ (by omega)]
        have e : rowA c k (j + 1) = rowA c k j ++ [((k : Int), (j : Int), (fIdx c k)[j], ())] := by
          unfold rowA; rw [List.range_succ, List.map_append]; simp [List.getD_eq_getElem?_getD, hj]
        rw [e, ← List.append_assoc] at ih
        exact ih
    · simp only [impl_arrows.l1_succ _ mk_ok]
      refine ev_f (decide_eq_false (by omega)) ?_
      rw [w64_succ (by omega)]; exact ih
  · simp only [impl_arrows.l0_succ _ mk_ok]
    exact ev_f (decide_eq_false (by omega)) ev_rfl

theorem l09Place_ret (c : List Sim) (k i : Nat) (hk : k ≤ c.length) (hi : i ≤ 1048576) (hv : VC c) : Ret E n_spec_l09Place [dC (c, ()), dI (k : Int), dI (i : Int)] ⟨o_spec_l09Place, (((plc c k + i : Nat) : Int), ())⟩ := by
  have h48 := hv.1
  refine ret_of ?_
  simp only [run_spec_l09Place, spec_l09Place.ev]
  refine Ev.start (p := fun φ n => spec_l09Place.l0 (mkR (run E (φ 0))) (φ 0) n (c, ()) (k : Int) (i : Int) 0 0 = _) 1 ?_ (fun _ _ _ h => h)
  have := fold_loop 1 (L := fun φ n j a => spec_l09Place.l0 (mkR (run E (φ 0))) (φ 0) n (c, ()) (k : Int) (i : Int) a j) (len := k) (fun j => ((plc c j : Nat) : Int)) (r := some ⟨o_spec_l09Place, (((plc c k + i : Nat) : Int), ())⟩) (fun _ _ _ _ _ => rfl) (fun j r hj ih => ?_) ?_
  · exact this
  · simp only [spec_l09Place.l0_succ _ mk_ok]
    have hjc : j < c.length := by omega
    have hpl := hv.plc (k := j) (by omega)
    have h4 := hv.len4 hjc
    have e := plc_succ (c := c) (k := j)
    rw [fIdx_length] at e
    rw [getD_lt hjc] at e h4
    refine ev_t (decide_eq_true (by omega)) (ev_bind (idx_lt hjc) (ev_d (fun hl => ev_bind (idx_lt hjc) ?_) fun hl => ?_))
    · rw [if_pos (by omega)] at e
      rw [w64_succ (by omega), w64_small (by omega) (by omega)]
      rw [e] at ih
      simpa using ih
    · rw [if_neg (by omega)] at e
      rw [w64_succ (by omega)]
      rw [e] at ih; exact ih
  · simp only [spec_l09Place.l0_succ _ mk_ok]
    have hpl := hv.plc hk
    refine ev_f (decide_eq_false (by omega)) (ev_some ?_)
    rw [w64_small (by omega) (by omega)]
    simp

theorem l09Count_ret (c : List Sim) (hv : VC c) : Ret E n_spec_l09Count [dC (c, ())] ⟨o_spec_l09Count, (((plc c c.length : Nat) : Int), ())⟩ := by
  refine ret_of ?_
  simp only [run_spec_l09Count, spec_l09Count.ev]
  exact ev_call (l09Place_ret c c.length 0 (Nat.le_refl _) (by omega) hv) ev_rfl

end VeT

open Go Go.Proofs Ve
set_option linter.unusedVariables false
set_option linter.unusedSimpArgs false
namespace VeT

def mz : Mat := (0, 0, 0, [], ())
/-- the map at a face -/
def QB (p : Int) (st : Sim) (ms : List Mat) (t k : Nat) (f : Int) : Prop := Bt (ms.getD t mz) p (st.getD f.toNat 0) (st.getD k 0)

/-- valid sheaves -/
def VS (c : List Sim) (p : Int) (st : Sim) (ms : List Mat) : Prop := VC c ∧ Pr p ∧ SK c st ∧ plc c c.length = ms.length ∧ ∀ k, k < c.length → ∀ i, i < (fIdx c k).length → QB p st ms (plc c k + i) k ((fIdx c k).getD i 0)

def az : Arw := (0, 0, 0, ())
/-- an arrow's map -/
def QA (p : Int) (st : Sim) (ms : List Mat) (t : Nat) (a : Arw) : Prop := t < ms.length ∧ Bt (ms.getD t mz) p (st.getD a.2.2.1.toNat 0) (st.getD a.1.toNat 0)

theorem VS_impl {c : List Sim} {p : Int} {st : Sim} {ms : List Mat} (hl : plc c c.length = ms.length) :
    (∀ t, 0 ≤ t → t < plc c c.length → QA p st ms t ((arrs c c.length).getD t az)) ↔ ∀ k, k < c.length → ∀ i, i < (fIdx c k).length → QB p st ms (plc c k + i) k ((fIdx c k).getD i 0) := by
  constructor
  · intro h k hk i hi
    have hg := arrs_get hk hi
    have hlt := (List.getElem?_eq_some_iff.1 hg).1
    have := h (plc c k + i) (by omega) hlt
    rw [List.getD_eq_getElem?_getD, hg] at this
    exact this.2
  · intro h t _ ht
    obtain ⟨k, i, hk, hi, rfl⟩ := arrs_ex ht
    have hg := arrs_get hk hi
    have := h k hk i hi
    rw [List.getD_eq_getElem?_getD, hg]
    exact ⟨by omega, this⟩

theorem sm_mat {ms : List Mat} (h : Sm (.sl (.st cM)) ms) {t : Nat} (ht : t < ms.length) : Sm (.st cM) ms[t] := h.2 _ (List.getElem_mem ht)

theorem implValidSheaf_ret (c : List Sim) (p : Int) (st : Sim) (ms : List Mat) (hc : Sm (.sl (.sl (.int .i64))) c) (hst : st.length ≤ 1048576) (hm : Sm (.sl (.st cM)) ms) :
    Ret E n_impl_ValidSheaf [dLL c, dI p, dL st, dMs ms] ⟨o_impl_ValidSheaf, (pb (VS c p st ms), ())⟩ := by
  have hm1 : ms.length ≤ 1048576 := hm.1
  refine ret_of ?_
  simp only [run_impl_ValidSheaf, impl_ValidSheaf.ev]
  have no : ¬ VS c p st ms → Ev fun φ => impl_ValidSheaf.j0 (mkR (run E (φ 0))) (φ 0) true c p st ms = some ⟨o_impl_ValidSheaf, (pb (VS c p st ms), ())⟩ := fun h => by
    simp only [impl_ValidSheaf.j0_eq _ mk_ok, cond_true]
    rw [pb_false h]; (first | exact ev_rfl | exact Ev.of fun _ => trivial)
  refine ev_call (ValidComplex_ret c hc) (ev_b (fun h => no fun hv => pb_not.1 (show pb (VC c) = false by simpa using h) hv.1) fun h => ?_)
  have hv : VC c := pb_iff.1 (by simpa using h)
  refine ev_call (ValidPrime_ret p) (ev_b (fun h => no fun hv => pb_not.1 (show pb (Pr p) = false by simpa using h) hv.2.1) fun h => ?_)
  have hp : Pr p := pb_iff.1 (by simpa using h)
  refine ev_call (areStalks_ret c st hc hst) ?_
  by_cases hk : SK c st
  · simp only [pb_true hk, Bool.not_true, impl_ValidSheaf.j0_eq _ mk_ok, cond_false]
    refine ev_call (arrows_ret c hc hv) ?_
    have hpl := hv.plc (Nat.le_refl _)
    have h48 := hv.1
    refine Ev.start (p := fun φ n => impl_ValidSheaf.l1 (mkR (run E (φ 0))) (φ 0) n (arrs c c.length) (arrs c c.length) ((arrs c c.length).length : Int) 0 c p st ms = _) 1 ?_ (fun _ _ _ h => h)
    have get : ∀ t (ht : t < plc c c.length), ∃ k i, k < c.length ∧ i < (fIdx c k).length ∧ (arrs c c.length)[t]? = some ((k : Int), (i : Int), (fIdx c k).getD i 0, ()) ∧ ((fIdx c k).getD i 0).toNat < st.length ∧ 0 ≤ (fIdx c k).getD i 0 := fun t ht => by
      obtain ⟨k, i, hk', hi, rfl⟩ := arrs_ex ht
      have hb := fIdx_mem hv hk' (List.getElem_mem hi)
      exact ⟨k, i, hk', hi, arrs_get hk' hi, by rw [getD_lt hi, hk.1]; omega, by rw [getD_lt hi]; omega⟩
    refine (all_pb 1 (L := fun φ n t => impl_ValidSheaf.l1 (mkR (run E (φ 0))) (φ 0) n (arrs c c.length) (arrs c c.length) ((arrs c c.length).length : Int) t c p st ms) (len := plc c c.length) 0 (by omega) (fun t => QA p st ms t ((arrs c c.length).getD t az)) (fun b => some ⟨o_impl_ValidSheaf, (b && ((plc c c.length : Int) == (ms.length : Int)), ())⟩) (fun _ _ _ _ => rfl) (fun t h1 h2 hP _ => ?_) (fun t r h1 h2 hP _ ih => ?_) (fun _ => ?_)).to ?_
    · simp only [impl_ValidSheaf.l1_succ _ mk_ok]
      obtain ⟨k, i, hkc, hi, hg, hf, hf0⟩ := get t h2
      have hlt : t < (arrs c c.length).length := h2
      have hgt : (arrs c c.length)[t] = ((k : Int), (i : Int), (fIdx c k).getD i 0, ()) := by
        rw [List.getElem?_eq_getElem hlt] at hg; exact Option.some.inj hg
      refine ev_t (decide_eq_true (by omega)) (ev_bind (idx_lt hlt) ?_)
      rw [getD_lt hlt] at hP
      rw [hgt] at hP ⊢
      refine ev_d (fun hge => ?_) fun hge => ?_
      · simp only [impl_ValidSheaf.j2_eq _ mk_ok, cond_true]; (first | exact ev_rfl | exact Ev.of fun _ => trivial)
      · have htm : t < ms.length := by omega
        refine ev_bind (idx_lt htm) ?_
        simp only
        rw [show (fIdx c k).getD i 0 = ((((fIdx c k).getD i 0).toNat : Nat) : Int) by omega]
        refine ev_bind (idx_lt hf) (ev_bind (idx_lt (show k < st.length by rw [hk.1]; exact hkc)) (ev_call (isBetween_ret _ _ _ _ (sm_mat hm htm)) ?_))
        have : ¬ Bt ms[t] p st[((fIdx c k).getD i 0).toNat] (st[k]'(by rw [hk.1]; exact hkc)) := fun hb => hP ⟨htm, by
          simp only [Int.toNat_natCast]
          rw [getD_lt htm, getD_lt hf, getD_lt (s := st) (k := k) (by rw [hk.1]; exact hkc)]; exact hb⟩
        simp only [pb_false this, Bool.not_false, impl_ValidSheaf.j2_eq _ mk_ok, cond_true]; (first | exact ev_rfl | exact Ev.of fun _ => trivial)
    · simp only [impl_ValidSheaf.l1_succ _ mk_ok]
      obtain ⟨k, i, hkc, hi, hg, hf, hf0⟩ := get t h2
      have hlt : t < (arrs c c.length).length := h2
      have hgt : (arrs c c.length)[t] = ((k : Int), (i : Int), (fIdx c k).getD i 0, ()) := by
        rw [List.getElem?_eq_getElem hlt] at hg; exact Option.some.inj hg
      refine ev_t (decide_eq_true (by omega)) (ev_bind (idx_lt hlt) ?_)
      rw [getD_lt hlt] at hP
      rw [hgt] at hP ⊢
      obtain ⟨htm, hb⟩ := hP
      refine ev_f (decide_eq_false (by omega)) (ev_bind (idx_lt htm) ?_)
      simp only
      rw [show (fIdx c k).getD i 0 = ((((fIdx c k).getD i 0).toNat : Nat) : Int) by omega]
      refine ev_bind (idx_lt hf) (ev_bind (idx_lt (show k < st.length by rw [hk.1]; exact hkc)) (ev_call (isBetween_ret _ _ _ _ (sm_mat hm htm)) ?_))
      simp only [Int.toNat_natCast] at hb
      rw [getD_lt htm, getD_lt hf, getD_lt (s := st) (k := k) (by rw [hk.1]; exact hkc)] at hb
      simp only [pb_true hb, Bool.not_true, impl_ValidSheaf.j2_eq _ mk_ok, cond_false]
      rw [w64_succ (by omega)]; exact ih
    · simp only [impl_ValidSheaf.l1_succ _ mk_ok]
      exact ev_f (decide_eq_false (by show ¬ ((plc c c.length : Nat) : Int) < ((plc c c.length : Nat) : Int); omega)) (ev_some (by rw [Bool.true_and]; rfl))
    · have : (pb (∀ t, 0 ≤ t → t < plc c c.length → QA p st ms t ((arrs c c.length).getD t az)) && ((plc c c.length : Int) == (ms.length : Int))) = pb (VS c p st ms) := eq_pb (by
        rw [Bool.and_eq_true, pb_iff, beq_iff_eq]
        constructor
        · rintro ⟨h1, h2⟩
          have h2 : plc c c.length = ms.length := by omega
          exact ⟨hv, hp, hk, h2, (VS_impl h2).1 h1⟩
        · rintro ⟨_, _, _, h2, h1⟩
          exact ⟨(VS_impl h2).2 h1, by omega⟩)
      rw [this]
  · simp only [pb_false hk, Bool.not_false]
    exact no fun hv => hk hv.2.2.1

theorem l09Map_ret (x : Shf) (k i : Nat) (m : Mat) (hv : VC x.1) (hk : SK x.1 x.2.2.1) (hkc : k < x.1.length) (hi : i < (fIdx x.1 k).length) (hc : Sm (.sl (.sl (.int .i64))) x.1) (hm : Sm (.st cM) m) :
    Ret E n_spec_l09Map [dS x, dI (k : Int), dI (i : Int), dM m] ⟨o_spec_l09Map, (pb (Bt m x.2.1 (x.2.2.1.getD ((fIdx x.1 k).getD i 0).toNat 0) (x.2.2.1.getD k 0)), ())⟩ := by
  have hb := fIdx_mem hv hkc (List.getElem_mem hi)
  have hks : k < x.2.2.1.length := by rw [hk.1]; exact hkc
  have hfs : ((fIdx x.1 k)[i]).toNat < x.2.2.1.length := by rw [hk.1]; omega
  rw [getD_lt hi, getD_lt hks, getD_lt hfs]
  refine ret_of ?_
  simp only [run_spec_l09Map, spec_l09Map.ev]
  refine ev_call (l05Faces_ret x.1 k hkc hc) (ev_bind (idx_lt hi) (ev_call (l03Ok_ret m hm) (ev_b (fun h1 => ev_b (fun h2 => ev_bind (idx_lt hks) (ev_b (fun h3 => ?_) fun h3 => ev_some ?_)) fun h2 => ev_some ?_) fun h1 => ev_some ?_)))
  · have e : (fIdx x.1 k)[i] = ((((fIdx x.1 k)[i]).toNat : Nat) : Int) := by omega
    refine ev_bind ((congrArg (idx? x.2.2.1) e).trans (idx_lt hfs)) (ev_some ?_)
    have : (m.2.2.1 == x.2.2.1[((fIdx x.1 k)[i]).toNat]) = pb (Bt m x.2.1 x.2.2.1[((fIdx x.1 k)[i]).toNat] x.2.2.1[k]) := eq_pb (by
      rw [beq_iff_eq]; exact ⟨fun h => ⟨pb_iff.1 h1, by simpa using h2, by simpa using h3, h⟩, fun h => h.2.2.2⟩)
    simp only [this]
  · rw [pb_false fun h => by have := h.2.2.1; simp [this] at h3]
  · rw [pb_false fun h => by have := h.2.1; simp [this] at h2]
  · rw [pb_false fun h => pb_not.1 h1 h.1]

theorem l09Ok_ret (x : Shf) (hx : Sm (.st cS) x) : Ret E n_spec_l09Ok [dS x] ⟨o_spec_l09Ok, (pb (VS x.1 x.2.1 x.2.2.1 x.2.2.2.1), ())⟩ := by
  have hc : Sm (.sl (.sl (.int .i64))) x.1 := hx.1
  have hm : Sm (.sl (.st cM)) x.2.2.2.1 := hx.2.2.2.1
  have hst : x.2.2.1.length ≤ 1048576 := hx.2.2.1.1
  refine ret_of ?_
  simp only [run_spec_l09Ok, spec_l09Ok.ev]
  have no : ¬ VS x.1 x.2.1 x.2.2.1 x.2.2.2.1 → Ev fun φ => spec_l09Ok.j0 (mkR (run E (φ 0))) (φ 0) x true = some ⟨o_spec_l09Ok, (pb (VS x.1 x.2.1 x.2.2.1 x.2.2.2.1), ())⟩ := fun h => by
    simp only [spec_l09Ok.j0_eq _ mk_ok, cond_true]
    rw [pb_false h]; (first | exact ev_rfl | exact Ev.of fun _ => trivial)
  refine ev_call (l05Ok_ret (x.1, ()) hc) (ev_b (fun h => no fun hv => pb_not.1 (show pb (VC x.1) = false by simpa using h) hv.1) fun h => ?_)
  have hv : VC x.1 := pb_iff.1 (show pb (VC x.1) = true by simpa using h)
  refine ev_call (specValidPrime_ret _) (ev_b (fun h => no fun hv => pb_not.1 (show pb (Pr x.2.1) = false by simpa using h) hv.2.1) fun h => ?_)
  have hp : Pr x.2.1 := pb_iff.1 (by simpa using h)
  refine ev_call (l09Stalks_ret x.1 x.2.2.1 hc hst) (ev_b (fun h => no fun hv => pb_not.1 (show pb (SK x.1 x.2.2.1) = false by simpa using h) hv.2.2.1) fun h => ?_)
  have hk : SK x.1 x.2.2.1 := pb_iff.1 (by simpa using h)
  refine ev_call (l09Count_ret x.1 hv) ?_
  by_cases hl : plc x.1 x.1.length = x.2.2.2.1.length
  · have h48 := hv.1
    simp only [show ((x.2.2.2.1.length : Int) != ((plc x.1 x.1.length : Nat) : Int)) = false by simp [hl], spec_l09Ok.j0_eq _ mk_ok, cond_false]
    refine Ev.start (p := fun φ n => spec_l09Ok.l1 (mkR (run E (φ 0))) (φ 0) n x 0 = _) 1 ?_ (fun _ _ _ h => h)
    let P : Nat → Prop := fun k => ∀ i, i < (fIdx x.1 k).length → QB x.2.1 x.2.2.1 x.2.2.2.1 (plc x.1 k + i) k ((fIdx x.1 k).getD i 0)
    have inner : ∀ (k : Nat) (h2 : k < x.1.length) (r : Option Dv), (P k → Ev fun φ => spec_l09Ok.l1 (mkR (run E (φ 0))) (φ 0) (φ 1) x ((k + 1 : Nat) : Int) = r) → (¬ P k → r = some ⟨o_spec_l09Ok, (false, ())⟩) → Ev fun φ => spec_l09Ok.l2 (mkR (run E (φ 0))) (φ 0) (φ 1) (φ 0) x (k : Int) 0 = r := fun k h2 r hgo hstop => by
      have h4 := hv.len4 h2
      have hfl := fIdx_length (c := x.1) (k := k)
      rw [getD_lt h2] at h4 hfl
      refine Ev.start (p := fun φ n => spec_l09Ok.l2 (mkR (run E (φ 0))) (φ 0) (φ 1) n x (k : Int) 0 = _) 2 ?_ (fun _ _ _ h => h)
      by_cases hlen : 1 < (x.1[k]).length
      · rw [if_pos hlen] at hfl
        have mapAt : ∀ i (hi : i < (fIdx x.1 k).length), ∃ ht : plc x.1 k + i < x.2.2.2.1.length, ∀ R, (Ev fun φ => (bif (!pb (Bt x.2.2.2.1[plc x.1 k + i] x.2.1 (x.2.2.1.getD ((fIdx x.1 k).getD i 0).toNat 0) (x.2.2.1.getD k 0))) then some ⟨o_spec_l09Ok, (false, ())⟩ else spec_l09Ok.l2 (mkR (run E (φ 0))) (φ 0) (φ 1) (φ 2) x (k : Int) (w64 ((i : Int) + 1))) = R) → Ev fun φ => spec_l09Ok.j3 (mkR (run E (φ 0))) (φ 0) (φ 1) (φ 2) x (k : Int) (i : Int) true = R := fun i hi => by
          have hg := arrs_get h2 hi
          have hlt := (List.getElem?_eq_some_iff.1 hg).1
          have ht : plc x.1 k + i < x.2.2.2.1.length := by rw [← hl]; exact hlt
          refine ⟨ht, fun R hR => ?_⟩
          simp only [spec_l09Ok.j3_eq _ mk_ok, cond_true]
          refine ev_call (l09Place_ret x.1 k i (by omega) (by omega) hv) (ev_bind (idx_lt ht) (ev_call (l09Map_ret x k i _ hv hk h2 hi hc (sm_mat hm ht)) hR))
        obtain ⟨t, f⟩ := all_loop 2 (L := fun φ n i => spec_l09Ok.l2 (mkR (run E (φ 0))) (φ 0) (φ 1) n x (k : Int) i) (len := (x.1[k]).length) 0 (by omega) (fun i => QB x.2.1 x.2.2.1 x.2.2.2.1 (plc x.1 k + i) k ((fIdx x.1 k).getD i 0)) (rt := r) (rf := some ⟨o_spec_l09Ok, (false, ())⟩) (fun _ _ _ _ => rfl) (fun i _ hi hP _ => by
          obtain ⟨ht, hm'⟩ := mapAt i (by omega)
          simp only [spec_l09Ok.l2_succ _ mk_ok]
          refine ev_bind (idx_lt h2) (ev_t (decide_eq_true (by omega)) (ev_bind (idx_lt h2) ?_))
          simp only [show decide (((x.1[k]).length : Int) > 1) = true from decide_eq_true (by omega)]
          refine hm' _ (ev_t ?_ ev_rfl)
          rw [pb_false]; · rfl
          intro hb; refine hP ?_
          show Bt _ _ _ _
          rw [getD_lt ht]; exact hb) (fun i q _ hi hP _ ih => by
          obtain ⟨ht, hm'⟩ := mapAt i (by omega)
          simp only [spec_l09Ok.l2_succ _ mk_ok]
          refine ev_bind (idx_lt h2) (ev_t (decide_eq_true (by omega)) (ev_bind (idx_lt h2) ?_))
          simp only [show decide (((x.1[k]).length : Int) > 1) = true from decide_eq_true (by omega)]
          refine hm' _ (ev_f ?_ ?_)
          · have hP : Bt (x.2.2.2.1.getD (plc x.1 k + i) mz) _ _ _ := hP
            rw [getD_lt ht] at hP
            rw [pb_true hP]; rfl
          · rw [w64_succ (by omega)]; exact ih) (fun hall => by
          simp only [spec_l09Ok.l2_succ _ mk_ok]
          refine ev_bind (idx_lt h2) (ev_f (decide_eq_false (by omega)) ?_)
          simp only [spec_l09Ok.j3_eq _ mk_ok, cond_false]
          rw [w64_succ (by omega)]
          exact hgo fun i hi => hall i (by omega) (by omega))
        by_cases hall : ∀ i, 0 ≤ i → i < (x.1[k]).length → QB x.2.1 x.2.2.1 x.2.2.2.1 (plc x.1 k + i) k ((fIdx x.1 k).getD i 0)
        · exact t hall
        · rw [hstop fun hf => hall fun i _ hi => hf i (by omega)]
          exact f hall
      · rw [if_neg hlen] at hfl
        refine Ev.round 2 (L := fun φ n => spec_l09Ok.l2 (mkR (run E (φ 0))) (φ 0) (φ 1) n x (k : Int) 0) ?_ (fun _ _ _ => rfl)
        have hgo := hgo fun i hi => by omega
        have hj : Ev fun φ => spec_l09Ok.j3 (mkR (run E (φ 0))) (φ 0) (φ 1) (φ 2) x (k : Int) 0 false = r := by
          simp only [spec_l09Ok.j3_eq _ mk_ok, cond_false]
          rw [w64_succ (by omega)]; exact hgo
        simp only [spec_l09Ok.l2_succ _ mk_ok]
        refine ev_bind (idx_lt h2) (ev_d (fun _ => ev_bind (idx_lt h2) ?_) fun _ => hj)
        simp only [show decide (((x.1[k]).length : Int) > 1) = false from decide_eq_false (by omega)]
        exact hj
    refine (all_pb 1 (L := fun φ n k => spec_l09Ok.l1 (mkR (run E (φ 0))) (φ 0) n x k) (len := x.1.length) 0 (by omega) P (fun b => some ⟨o_spec_l09Ok, (b, ())⟩) (fun _ _ _ _ => rfl) (fun k h1 h2 hP hpre => ?_) (fun k r h1 h2 hP hpre ih => ?_) (fun _ => ?_)).to ?_
    · simp only [spec_l09Ok.l1_succ _ mk_ok]
      exact ev_t (decide_eq_true (by omega)) (inner k h2 _ (fun h => absurd h hP) fun _ => rfl)
    · simp only [spec_l09Ok.l1_succ _ mk_ok]
      exact ev_t (decide_eq_true (by omega)) (inner k h2 _ (fun _ => ih) fun h => absurd hP h)
    · simp only [spec_l09Ok.l1_succ _ mk_ok]
      exact ev_f (decide_eq_false (by omega)) ev_rfl
    · exact congrArg (fun b : Bool => some (⟨o_spec_l09Ok, (b, ())⟩ : Dv)) (pb_congr ⟨fun h => ⟨hv, hp, hk, hl, fun k hk' => h k (by omega) hk'⟩, fun h k _ hk' => h.2.2.2.2 k hk'⟩)
  · simp only [show ((x.2.2.2.1.length : Int) != ((plc x.1 x.1.length : Nat) : Int)) = true by simp; omega]
    exact no fun h => hl h.2.2.2.1

end VeT

open Go Go.Proofs Ve
set_option linter.unusedVariables false
set_option linter.unusedSimpArgs false
namespace VeT

theorem implValid_ret (x : Shf) (hx : Sm (.st cS) x) : Ret E n_impl_ValidSheaf [dLL x.1, dI x.2.1, dL x.2.2.1, dMs x.2.2.2.1] ⟨o_impl_ValidSheaf, (pb (VS x.1 x.2.1 x.2.2.1 x.2.2.2.1), ())⟩ :=
  implValidSheaf_ret x.1 x.2.1 x.2.2.1 x.2.2.2.1 hx.1 hx.2.2.1.1 hx.2.2.2.1

open Classical in
noncomputable def StalkSumV (x : Shf) (k : Int) : Int × Int × Unit :=
  if VS x.1 x.2.1 x.2.2.1 x.2.2.2.1 then (if 0 ≤ k ∧ k ≤ 3 then (SD x.1 x.2.2.1 k, 0, ()) else (0, 2, ())) else (0, 1, ())

end VeT

open Go Go.Proofs Ve
set_option linter.unusedVariables false
set_option linter.unusedSimpArgs false
namespace VeT

/-! the program's matrices -/
theorem Mat_at_ret (p r : Int) (C : Nat) (cells : Sim) (i j : Nat) (h : i * C + j < cells.length) (hl : cells.length ≤ 1048576) : Ret E n_impl_Matrix_at [dI p, dI r, dI (C : Int), dL cells, dI (i : Int), dI (j : Int)] ⟨o_impl_Matrix_at, (cells[i * C + j], ())⟩ := by
  refine ret_of ?_
  simp only [run_impl_Matrix_at, impl_Matrix_at.ev]
  rw [cast_mul, w64_small (n := ((i * C : Nat) : Int)) (by omega) (by omega), w64_small (by omega) (by omega), show ((i * C : Nat) : Int) + (j : Int) = ((i * C + j : Nat) : Int) by omega]
  exact ev_bind (idx_lt h) ev_rfl

theorem Mat_row_ret (p r : Int) (C : Nat) (cells : Sim) (i : Nat) (h : (i + 1) * C ≤ cells.length) (hi : i ≤ 1048576) (hl : cells.length ≤ 1048576) : Ret E n_impl_Matrix_row [dI p, dI r, dI (C : Int), dL cells, dI (i : Int)] ⟨o_impl_Matrix_row, ((cells.take ((i + 1) * C)).drop (i * C), ())⟩ := by
  refine ret_of ?_
  simp only [run_impl_Matrix_row, impl_Matrix_row.ev]
  have h1 : i * C ≤ (i + 1) * C := Nat.mul_le_mul_right _ (by omega)
  have e1 : w64 ((i : Int) * (C : Int)) = ((i * C : Nat) : Int) := by rw [cast_mul]; exact w64_small (by omega) (by omega)
  have e2 : w64 ((i : Int) + 1) = ((i + 1 : Nat) : Int) := w64_succ (by omega)
  have e3 : w64 (((i + 1 : Nat) : Int) * (C : Int)) = (((i + 1) * C : Nat) : Int) := by rw [cast_mul]; exact w64_small (by omega) (by omega)
  simp only [e1, e2, e3, Int.toNat_natCast]
  exact ev_chk (by simp only [Bool.and_eq_true, decide_eq_true_eq]; omega) ev_rfl

theorem Clone_ret (s : Sim) (hs : s.length ≤ 1048576) : Ret E n_slices_Clone_Sint64_int64 [dL s] ⟨o_slices_Clone_Sint64_int64, (s, ())⟩ := by
  refine ret_of ?_
  simp only [run_slices_Clone_Sint64_int64, slices_Clone_Sint64_int64.ev, slices_Clone_Sint64_int64.j0_eq _ mk_ok, cond_true, cond_false]
  have h : Ev fun φ => (Option.bind (chk (decide ((List.length ([] : List Int) + List.length s) * 8 ≤ 70368744177664))) fun _ => some (⟨o_slices_Clone_Sint64_int64, ((([] : List Int) ++ s), ())⟩ : Dv)) = some ⟨o_slices_Clone_Sint64_int64, (s, ())⟩ :=
    ev_chk (by simp; omega) (ev_some rfl)
  cases s with
  | nil => exact ev_t rfl (ev_both ev_rfl h)
  | cons a s => exact ev_f rfl h

theorem transpose_1_ret (m : Mat) (C : Nat) (i j : Nat) (hC : m.2.2.1 = (C : Int)) (h : j * C + i < m.2.2.2.1.length) (hl : m.2.2.2.1.length ≤ 1048576) : Ret E n_impl_transpose_1 [dI (i : Int), dI (j : Int), dM m] ⟨o_impl_transpose_1, (m.2.2.2.1.getD (j * C + i) 0, ())⟩ := by
  rw [getD_lt h]
  refine ret_of ?_
  simp only [run_impl_transpose_1, impl_transpose_1.ev]
  rw [hC]
  exact ev_call (Mat_at_ret _ _ C _ j i h hl) ev_rfl

theorem dot_ret (a b : Sim) (p : Int) (hp : 2 ≤ p ∧ p ≤ 251) (ha : a.length ≤ 32) (hb : a.length ≤ b.length) (ea : ∀ x ∈ a, 0 ≤ x ∧ x ≤ 250) (eb : ∀ x ∈ b, 0 ≤ x ∧ x ≤ 250) :
    Ret E n_impl_dot [dL a, dL b, dI p] ⟨o_impl_dot, (dotN (fun l => a.getD l 0) (fun l => b.getD l 0) a.length % p, ())⟩ := by
  refine ret_of ?_
  simp only [run_impl_dot, impl_dot.ev]
  refine Ev.start (p := fun φ n => impl_dot.l0 (mkR (run E (φ 0))) (φ 0) n a b p 0 (a.length : Int) 0 = _) 1 ?_ (fun _ _ _ h => h)
  have := fold_loop 1 (L := fun φ n k s => impl_dot.l0 (mkR (run E (φ 0))) (φ 0) n a b p s (a.length : Int) k) (len := a.length) (fun k => dotN (fun l => a.getD l 0) (fun l => b.getD l 0) k % p) (r := some ⟨o_impl_dot, (dotN (fun l => a.getD l 0) (fun l => b.getD l 0) a.length % p, ())⟩) (fun _ _ _ _ _ => rfl) (fun k r hk ih => ?_) ?_
  · simpa [dotN] using this
  · simp only [impl_dot.l0_succ _ mk_ok]
    have hkb : k < b.length := by omega
    have hm := mul_in (ea _ (List.getElem_mem hk)) (eb _ (List.getElem_mem hkb))
    have h0 := Int.emod_nonneg (dotN (fun l => a.getD l 0) (fun l => b.getD l 0) k) (show p ≠ 0 by omega)
    have h1 := Int.emod_lt_of_pos (dotN (fun l => a.getD l 0) (fun l => b.getD l 0) k) (show 0 < p by omega)
    refine ev_t (decide_eq_true (by omega)) (ev_bind (idx_lt hk) (ev_bind (idx_lt hkb) (ev_chk (by simp; omega) ?_)))
    rw [w64_small (n := a[k] * b[k]) (by omega) (by omega), w64_small (by omega) (by omega), Int.tmod_eq_emod_of_nonneg (by omega), Int.emod_add_emod, w64_succ (by omega)]
    simp only [dotN] at ih
    rw [getD_lt hk, getD_lt hkb] at ih
    exact ih
  · simp only [impl_dot.l0_succ _ mk_ok]
    exact ev_f (decide_eq_false (by omega)) ev_rfl

theorem rowsOf_ret (p : Int) (R C : Nat) (cells : Sim) (hl : cells.length = R * C) (hR : R ≤ 32) (hC : C ≤ 32) : Ret E n_impl_rowsOf [dI p, dI (R : Int), dI (C : Int), dL cells] ⟨o_impl_rowsOf, ((List.range R).map fun i => (cells.take ((i + 1) * C)).drop (i * C), ())⟩ := by
  have h1024 := rc_le hR hC
  refine ret_of ?_
  simp only [run_impl_rowsOf, impl_rowsOf.ev]
  refine Ev.start (p := fun φ n => impl_rowsOf.l0 (mkR (run E (φ 0))) (φ 0) n (R : Int) 0 p (R : Int) (C : Int) cells [] = _) 1 ?_ (fun _ _ _ h => h)
  refine fold_loop 1 (L := fun φ n k a => impl_rowsOf.l0 (mkR (run E (φ 0))) (φ 0) n (R : Int) k p (R : Int) (C : Int) cells a) (len := R) (fun k => (List.range k).map fun i => (cells.take ((i + 1) * C)).drop (i * C)) (fun _ _ _ _ _ => rfl) (fun k r hk ih => ?_) ?_
  · simp only [impl_rowsOf.l0_succ _ mk_ok]
    have hle : (k + 1) * C ≤ R * C := Nat.mul_le_mul_right _ hk
    rw [List.range_succ, List.map_append] at ih
    refine ev_t (decide_eq_true (by omega)) (ev_call (Mat_row_ret p _ C cells k (by omega) (by omega) (by omega)) (ev_call (Clone_ret _ (by simp; omega)) (ev_chk (by simp; omega) ?_)))
    rw [w64_succ (by omega)]; exact ih
  · simp only [impl_rowsOf.l0_succ _ mk_ok]
    exact ev_f (decide_eq_false (by omega)) ev_rfl

end VeT

open Go Go.Proofs Ve
set_option linter.unusedVariables false
set_option linter.unusedSimpArgs false
namespace VeT

theorem Elems.get {v : Sim} {p : Int} (h : Elems v p) (hp : 2 ≤ p ∧ p ≤ 251) (i : Nat) : 0 ≤ v.getD i 0 ∧ v.getD i 0 ≤ 250 := by
  by_cases hi : i < v.length
  · rw [getD_lt hi]
    have := h _ (List.getElem_mem hi)
    omega
  · rw [List.getD_eq_getElem?_getD, List.getElem?_eq_none (by omega)]; simp

theorem Elems.mem {v : Sim} {p : Int} (h : Elems v p) (hp : 2 ≤ p ∧ p ≤ 251) : ∀ x ∈ v, 0 ≤ x ∧ x ≤ 250 := fun x hx => by
  have := h x hx; omega

/-- an entry of a product -/
def mulE (p : Int) (ca cb : Sim) (K C i j : Nat) : Int := dotN (fun l => ca.getD (i * K + l) 0) (fun l => cb.getD (l * C + j) 0) K % p

/-- a product -/
def mulM (a b : Mat) : Mat := (a.1, a.2.1, b.2.2.1, flatF (mulE a.1 a.2.2.2.1 b.2.2.2.1 a.2.2.1.toNat b.2.2.1.toNat) b.2.2.1.toNat a.2.1.toNat, ())

def colsL (K C : Nat) (cb : Sim) : List Sim := (List.range C).map fun i => (List.range K).map fun j => cb.getD (j * C + i) 0

theorem transpose_ret (q : Int) (K C : Nat) (cb : Sim) (hl : cb.length = K * C) (hK : K ≤ 32) (hC : C ≤ 32) : Ret E n_impl_transpose [dI q, dI (K : Int), dI (C : Int), dL cb] ⟨o_impl_transpose, (q, (C : Int), (K : Int), flatF (fun i j => cb.getD (j * C + i) 0) K C, ())⟩ := by
  have h1 := rc_le hK hC
  have h2 := rc_le hC hK
  refine ret_of ?_
  simp only [run_impl_transpose, impl_transpose.ev]
  refine ev_call (filled_impl_transpose_1_ret q C K ((q, (K : Int), (C : Int), cb, ()), ()) (fun i j => cb.getD (j * C + i) 0) (by omega) (by omega) (by omega) fun i j hi hj => ?_) ev_rfl
  exact transpose_1_ret (q, (K : Int), (C : Int), cb, ()) C i j rfl (by show _ < cb.length; rw [hl]; exact lt_rc hj hi) (by show cb.length ≤ _; omega)

theorem columnsOf_ret (q : Int) (K C : Nat) (cb : Sim) (hl : cb.length = K * C) (hK : K ≤ 32) (hC : C ≤ 32) : Ret E n_impl_columnsOf [dI q, dI (K : Int), dI (C : Int), dL cb] ⟨o_impl_columnsOf, (colsL K C cb, ())⟩ := by
  refine ret_of ?_
  simp only [run_impl_columnsOf, impl_columnsOf.ev]
  refine ev_call (transpose_ret q K C cb hl hK hC) (ev_call (rowsOf_ret q C K _ flatF_length hC hK) (ev_some ?_))
  have : ((List.range C).map fun i => ((flatF (fun i j => cb.getD (j * C + i) 0) K C).take ((i + 1) * K)).drop (i * K)) = colsL K C cb :=
    List.map_congr_left fun i hi => flatF_row (List.mem_range.1 hi)
  rw [this]

theorem colsL_mem {K C : Nat} {cb : Sim} {q : Int} (hb : Elems cb q) (hq : 2 ≤ q ∧ q ≤ 251) {j : Nat} (hj : j < (colsL K C cb).length) : ∀ x ∈ (colsL K C cb)[j], 0 ≤ x ∧ x ≤ 250 := by
  intro x hx
  have hm := List.getElem_mem hj
  generalize (colsL K C cb)[j] = y at hm hx
  unfold colsL at hm
  rw [List.mem_map] at hm
  obtain ⟨i, _, rfl⟩ := hm
  rw [List.mem_map] at hx
  obtain ⟨l, _, rfl⟩ := hx
  exact hb.get hq _

theorem product_1_ret (p : Int) (R K C : Nat) (ca cb : Sim) (i j : Nat) (hi : i < R) (hj : j < C) (hp : 2 ≤ p ∧ p ≤ 251) (hla : ca.length = R * K) (hR : R ≤ 32) (hK : K ≤ 32) (ea : Elems ca p) {q : Int} (hq : 2 ≤ q ∧ q ≤ 251) (eb : Elems cb q) :
    Ret E n_impl_product_1 [dI (i : Int), dI (j : Int), dM (p, (R : Int), (K : Int), ca, ()), ⟨.ptr (.cons (.sl (.sl (.int .i64))) .nil), (colsL K C cb, ())⟩] ⟨o_impl_product_1, (mulE p ca cb K C i j, ())⟩ := by
  have h1 := rc_le hR hK
  have hle : (i + 1) * K ≤ R * K := Nat.mul_le_mul_right _ hi
  have hjl : j < (colsL K C cb).length := by simp [colsL, hj]
  have hcl : ((colsL K C cb)[j]).length = K := by simp [colsL]
  have hrl : ((ca.take ((i + 1) * K)).drop (i * K)).length = K := by
    rw [List.length_drop, List.length_take, Nat.min_eq_left (by omega), Nat.add_mul]; omega
  refine ret_of ?_
  simp only [run_impl_product_1, impl_product_1.ev]
  refine ev_bind (idx_lt hjl) (ev_call (Mat_row_ret p _ K ca i (by omega) (by omega) (by omega)) (ev_call (dot_ret ((ca.take ((i + 1) * K)).drop (i * K)) ((colsL K C cb)[j]) p hp (by omega) (by omega) (fun x hx => ea.mem hp x (List.mem_of_mem_take (List.mem_of_mem_drop hx))) (colsL_mem eb hq hjl)) (ev_some ?_)))
  rw [hrl]
  have : dotN (fun l => ((ca.take ((i + 1) * K)).drop (i * K)).getD l 0) (fun l => ((colsL K C cb)[j]).getD l 0) K = dotN (fun l => ca.getD (i * K + l) 0) (fun l => cb.getD (l * C + j) 0) K := dotN_congr fun l hl => ⟨by
    rw [List.getD_eq_getElem?_getD, List.getD_eq_getElem?_getD, List.getElem?_drop, List.getElem?_take_of_lt (by rw [Nat.add_mul]; omega)], by
    simp [colsL, List.getD_eq_getElem?_getD, hl]⟩
  rw [this]; rfl

theorem VM.nat {m : Mat} (h : VM m) : ∃ R K : Nat, m = (m.1, (R : Int), (K : Int), m.2.2.2.1, ()) ∧ R ≤ 32 ∧ K ≤ 32 ∧ m.2.2.2.1.length = R * K := by
  obtain ⟨p, r, k, c, ⟨⟩⟩ := m
  obtain ⟨_, h2, h3, h4, _⟩ := h
  simp only at h2 h3 h4
  obtain ⟨R, rfl⟩ := Int.eq_ofNat_of_zero_le h2.1
  obtain ⟨K, rfl⟩ := Int.eq_ofNat_of_zero_le h3.1
  refine ⟨R, K, rfl, by omega, by omega, ?_⟩
  rw [cast_mul] at h4; simp only; omega

theorem product_ret (a b : Mat) (ha : VM a) (hb : VM b) (hab : a.2.2.1 = b.2.1) : Ret E n_impl_product [dI a.1, dI a.2.1, dI a.2.2.1, dL a.2.2.2.1, dI b.1, dI b.2.1, dI b.2.2.1, dL b.2.2.2.1] ⟨o_impl_product, mulM a b⟩ := by
  obtain ⟨R, K, ea, hR, hK, hla⟩ := ha.nat
  obtain ⟨K', C, eb, hK', hC, hlb⟩ := hb.nat
  have pa : 2 ≤ a.1 ∧ a.1 ≤ 251 := ⟨ha.1.1, ha.1.2.1⟩
  have pb' : 2 ≤ b.1 ∧ b.1 ≤ 251 := ⟨hb.1.1, hb.1.2.1⟩
  have ela := ha.2.2.2.2
  have elb := hb.2.2.2.2
  rw [ea, eb] at hab
  obtain rfl : K = K' := by have hab : (K : Int) = (K' : Int) := hab
                            omega
  rw [ea, eb]
  simp only
  refine ret_of ?_
  simp only [run_impl_product, impl_product.ev]
  have hRC := rc_le hR hC
  refine ev_call (columnsOf_ret _ K C _ hlb hK hC) (ev_call (filled_impl_product_1_ret a.1 R C ((a.1, (R : Int), (K : Int), a.2.2.2.1, ()), (colsL K C b.2.2.2.1, ()), ()) (mulE a.1 a.2.2.2.1 b.2.2.2.1 K C) (by omega) (by omega) (by omega) fun i j hi hj => ?_) (ev_some ?_))
  · exact product_1_ret a.1 R K C _ _ i j hi hj pa hla hR hK ela pb' elb
  · simp only [mulM, Int.toNat_natCast]

theorem l03Zero_ret (p : Int) (R C : Nat) (hR : R ≤ 32) (hC : C ≤ 32) : Ret E n_spec_l03Zero [dI p, dI (R : Int), dI (C : Int)] ⟨o_spec_l03Zero, (p, (R : Int), (C : Int), List.replicate (R * C) 0, ())⟩ := by
  have h1 := rc_le hR hC
  have e1 : w64 ((R : Int) * (C : Int)) = ((R * C : Nat) : Int) := by rw [cast_mul]; exact w64_small (by omega) (by omega)
  refine ret_of ?_
  simp only [run_spec_l03Zero, spec_l03Zero.ev, e1, Int.toNat_natCast]
  exact ev_chk (by simp only [Bool.and_eq_true, decide_eq_true_eq]; omega) ev_rfl

theorem l03Times_ret (a b : Mat) (ha : VM a) (hb : VM b) (hab : a.2.2.1 = b.2.1) : Ret E n_spec_l03Times [dM a, dM b] ⟨o_spec_l03Times, mulM a b⟩ := by
  obtain ⟨R, K, ea, hR, hK, hla⟩ := ha.nat
  obtain ⟨K', C, eb, hK', hC, hlb⟩ := hb.nat
  have pa : 2 ≤ a.1 ∧ a.1 ≤ 251 := ⟨ha.1.1, ha.1.2.1⟩
  have pb' : 2 ≤ b.1 ∧ b.1 ≤ 251 := ⟨hb.1.1, hb.1.2.1⟩
  have ela := ha.2.2.2.2
  have elb := hb.2.2.2.2
  rw [ea, eb] at hab
  obtain rfl : K = K' := by have hab : (K : Int) = (K' : Int) := hab
                            omega
  obtain ⟨p, r, k, ca, ⟨⟩⟩ := a
  obtain ⟨q, k', c, cb, ⟨⟩⟩ := b
  simp only [Prod.mk.injEq, true_and, and_true] at ea eb pa pb' ela elb hla hlb
  obtain ⟨rfl, rfl⟩ := ea
  obtain ⟨rfl, rfl⟩ := eb
  have hRC := rc_le hR hC
  have hRK := rc_le hR hK
  have hKC := rc_le hK hC
  have hM : mulM (p, (R : Int), (K : Int), ca, ()) (q, (K : Int), (C : Int), cb, ()) = (p, (R : Int), (C : Int), flatF (mulE p ca cb K C) C R, ()) := by simp [mulM]
  rw [hM]
  refine ret_of ?_
  simp only [run_spec_l03Times, spec_l03Times.ev, spec_l03Times.j0_eq _ mk_ok]
  suffices h : Ev fun φ => spec_l03Times.l1 (mkR (run E (φ 0))) (φ 0) (φ 0) (p, (R : Int), (K : Int), ca, ()) (q, (K : Int), (C : Int), cb, ()) 0 0 0 0 p (R : Int) (C : Int) (List.replicate (R * C) 0) = some ⟨o_spec_l03Times, (p, (R : Int), (C : Int), flatF (mulE p ca cb K C) C R, ())⟩ by
    exact ev_both (ev_call (l03Zero_ret p R C hR hC) h) (ev_call (l03Zero_ret p R C hR hC) h)
  refine Ev.start (p := fun φ n => spec_l03Times.l1 (mkR (run E (φ 0))) (φ 0) n (p, (R : Int), (K : Int), ca, ()) (q, (K : Int), (C : Int), cb, ()) 0 0 0 0 p (R : Int) (C : Int) (List.replicate (R * C) 0) = _) 1 ?_ (fun _ _ _ h => h)
  have := fold_loop 1 (L := fun φ n i o => spec_l03Times.l1 (mkR (run E (φ 0))) (φ 0) n (p, (R : Int), (K : Int), ca, ()) (q, (K : Int), (C : Int), cb, ()) i 0 0 0 p (R : Int) (C : Int) o) (len := R) (fun i => flatF (mulE p ca cb K C) C i ++ List.replicate ((R - i) * C) 0) (r := some ⟨o_spec_l03Times, (p, (R : Int), (C : Int), flatF (mulE p ca cb K C) C R, ())⟩) (fun _ _ _ _ _ => rfl) (fun i r hi ih => ?_) ?_
  · simpa [flatF] using this
  · simp only [spec_l03Times.l1_succ _ mk_ok]
    refine ev_t (decide_eq_true (by omega)) ?_
    refine Ev.start (p := fun φ n => spec_l03Times.l2 (mkR (run E (φ 0))) (φ 0) (φ 1) n (p, (R : Int), (K : Int), ca, ()) (q, (K : Int), (C : Int), cb, ()) (i : Int) 0 0 0 0 p (R : Int) (C : Int) (flatF (mulE p ca cb K C) C i ++ List.replicate ((R - i) * C) 0) = _) 2 ?_ (fun _ _ _ h => h)
    have hRi : (R - i) * C = (R - (i + 1)) * C + C := by
      rw [show R - i = (R - (i + 1)) + 1 by omega, Nat.add_mul]; omega
    have hiC : (i + 1) * C ≤ R * C := Nat.mul_le_mul_right _ hi
    have hiK : (i + 1) * K ≤ R * K := Nat.mul_le_mul_right _ hi
    rw [Nat.add_mul] at hiC hiK
    have := fold_loop 2 (L := fun φ n j o => spec_l03Times.l2 (mkR (run E (φ 0))) (φ 0) (φ 1) n (p, (R : Int), (K : Int), ca, ()) (q, (K : Int), (C : Int), cb, ()) (i : Int) j 0 0 0 p (R : Int) (C : Int) o) (len := C) (fun j => (flatF (mulE p ca cb K C) C i ++ (List.range j).map (mulE p ca cb K C i)) ++ List.replicate ((R - i) * C - j) 0) (r := r) (fun _ _ _ _ _ => rfl) (fun j r hj ih => ?_) ?_
    · simpa using this
    · simp only [spec_l03Times.l2_succ _ mk_ok]
      refine ev_t (decide_eq_true (by omega)) ?_
      have hpl : (flatF (mulE p ca cb K C) C i ++ (List.range j).map (mulE p ca cb K C i)).length = i * C + j := by simp [flatF_length]
      have hsp : (R - i) * C - j = ((R - i) * C - (j + 1)) + 1 := by omega
      generalize hO : (flatF (mulE p ca cb K C) C i ++ (List.range j).map (mulE p ca cb K C i)) ++ List.replicate ((R - i) * C - j) 0 = O
      have hOl : O.length = R * C := by
        rw [← hO, List.length_append, hpl, List.length_replicate, hRi]
        have : R * C = (R - (i + 1)) * C + (i * C + C) := by
          have e : R = (R - (i + 1)) + (i + 1) := by omega
          have := congrArg (· * C) e
          simp only [Nat.add_mul, Nat.one_mul] at this ⊢; omega
        omega
      refine Ev.start (p := fun φ n => spec_l03Times.l3 (mkR (run E (φ 0))) (φ 0) (φ 1) (φ 2) n (p, (R : Int), (K : Int), ca, ()) (q, (K : Int), (C : Int), cb, ()) (i : Int) (j : Int) 0 0 0 0 0 p (R : Int) (C : Int) O = _) 3 ?_ (fun _ _ _ h => h)
      refine fold_loop 3 (L := fun φ n l s => spec_l03Times.l3 (mkR (run E (φ 0))) (φ 0) (φ 1) (φ 2) n (p, (R : Int), (K : Int), ca, ()) (q, (K : Int), (C : Int), cb, ()) (i : Int) (j : Int) s l 0 0 0 p (R : Int) (C : Int) O) (len := K) (fun l => dotN (fun l => ca.getD (i * K + l) 0) (fun l => cb.getD (l * C + j) 0) l) (fun _ _ _ _ _ => rfl) (fun l r hl ih => ?_) ?_
      · simp only [spec_l03Times.l3_succ _ mk_ok]
        have b1 := dotN_le (f := fun l => ca.getD (i * K + l) 0) (g := fun l => cb.getD (l * C + j) 0) (n := l) fun l _ => ⟨ela.get pa _, elb.get pb' _⟩
        have b2 := mul_in (ela.get pa (i * K + l)) (elb.get pb' (l * C + j))
        have hlC : (l + 1) * C ≤ K * C := Nat.mul_le_mul_right _ hl
        rw [Nat.add_mul] at hlC
        have e1 : w64 (w64 ((i : Int) * (K : Int)) + (l : Int)) = ((i * K + l : Nat) : Int) := by
          rw [cast_mul, w64_small (n := ((i * K : Nat) : Int)) (by omega) (by omega), w64_small (by omega) (by omega)]; omega
        have e2 : w64 (w64 ((l : Int) * (C : Int)) + (j : Int)) = ((l * C + j : Nat) : Int) := by
          rw [cast_mul, w64_small (n := ((l * C : Nat) : Int)) (by omega) (by omega), w64_small (by omega) (by omega)]; omega
        simp only [e1, e2]
        have i1 : i * K + l < ca.length := by omega
        have i2 : l * C + j < cb.length := by omega
        refine ev_t (decide_eq_true (by omega)) (ev_bind (idx_lt i1) (ev_bind (idx_lt i2) ?_))
        simp only [dotN] at ih
        rw [getD_lt i1, getD_lt i2] at ih b2
        rw [w64_small (n := ca[i * K + l] * cb[l * C + j]) (by omega) (by omega), w64_small (by omega) (by omega), w64_succ (by omega)]
        exact ih
      · simp only [spec_l03Times.l3_succ _ mk_ok]
        have b1 := dotN_le (f := fun l => ca.getD (i * K + l) 0) (g := fun l => cb.getD (l * C + j) 0) (n := K) fun l _ => ⟨ela.get pa _, elb.get pb' _⟩
        have e1 : w64 (w64 ((i : Int) * (C : Int)) + (j : Int)) = ((i * C + j : Nat) : Int) := by
          rw [cast_mul, w64_small (n := ((i * C : Nat) : Int)) (by omega) (by omega), w64_small (by omega) (by omega)]; omega
        simp only [e1, Int.toNat_natCast]
        refine ev_f (decide_eq_false (by omega)) (ev_chk (by simp; omega) (ev_chk (by simp only [Bool.and_eq_true, decide_eq_true_eq]; omega) ?_))
        rw [Int.tmod_eq_emod_of_nonneg (by omega), w64_succ (by omega), ← hO, hsp, ← hpl, set_mid]
        rw [List.range_succ, List.map_append, ← List.append_assoc] at ih
        exact ih
    · simp only [spec_l03Times.l2_succ _ mk_ok]
      refine ev_f (decide_eq_false (by omega)) ?_
      rw [w64_succ (by omega), hRi, Nat.add_sub_cancel]
      exact ih
  · simp only [spec_l03Times.l1_succ _ mk_ok]
    refine ev_f (decide_eq_false (by omega)) (ev_some ?_)
    simp

end VeT

open Go Go.Proofs Ve
set_option linter.unusedVariables false
set_option linter.unusedSimpArgs false
namespace VeT

theorem mat_eq {a b : Mat} : a = b ↔ a.1 = b.1 ∧ a.2.1 = b.2.1 ∧ a.2.2.1 = b.2.2.1 ∧ a.2.2.2.1 = b.2.2.2.1 := by
  obtain ⟨p, r, k, c, ⟨⟩⟩ := a
  obtain ⟨p', r', k', c', ⟨⟩⟩ := b
  simp only [Prod.mk.injEq, and_true]

/-! the maps of a sheaf -/
noncomputable def mp (c : List Sim) (ms : List Mat) (k i : Nat) : Mat := ms.getD (plc c k + i) mz

noncomputable def fc (c : List Sim) (k i : Nat) : Nat := ((fIdx c k).getD i 0).toNat

theorem findI_get {c : List Sim} {s : Sim} (h : s ∈ c) : c.getD (findI c s).toNat [] = s := by
  have h0 := findI_nonneg.2 h
  unfold findI idxf at h0 ⊢
  cases hf : c.findIdx? (fun x => pb (x = s)) with
  | none => rw [hf] at h0; simp [o2i] at h0
  | some k =>
    rw [List.findIdx?_eq_some_iff_getElem] at hf
    obtain ⟨hk, hp, _⟩ := hf
    simp only [o2i, Int.toNat_natCast]
    rw [getD_lt hk]; exact pb_iff.1 hp

theorem fc_get {c : List Sim} (h : VC c) {k i : Nat} (hk : k < c.length) (hi : i < (fIdx c k).length) : idx? (fIdx c k) (i : Int) = some ((fc c k i : Nat) : Int) ∧ fc c k i < c.length ∧ c.getD (fc c k i) [] = (c.getD k []).eraseIdx i := by
  have hm := fIdx_mem h hk (List.getElem_mem hi)
  have hl := fIdx_length (c := c) (k := k)
  have h1 : 1 < (c.getD k []).length := Classical.byContradiction fun hn => by rw [if_neg hn] at hl; omega
  rw [if_pos h1] at hl
  have hfc : (fIdx c k)[i] = findI c ((c.getD k []).eraseIdx i) := by
    have : (fIdx c k)[i]? = some (findI c ((c.getD k []).eraseIdx i)) := by
      unfold fIdx faces
      rw [if_pos h1, List.map_map, List.getElem?_map, List.getElem?_range (by omega)]; rfl
    rw [List.getElem?_eq_getElem hi] at this
    exact Option.some.inj this
  have hin : (c.getD k []).eraseIdx i ∈ c := h.2.2.2 k hk _ (faces_mem.2 ⟨h1, i, by omega, rfl⟩)
  unfold fc
  rw [getD_lt hi]
  refine ⟨?_, by omega, ?_⟩
  · rw [idx_lt hi]; congr 1; omega
  · rw [hfc]; exact findI_get hin

theorem VS.map {c : List Sim} {p : Int} {st : Sim} {ms : List Mat} (h : VS c p st ms) {k i : Nat} (hk : k < c.length) (hi : i < (fIdx c k).length) : plc c k + i < ms.length ∧ Bt (mp c ms k i) p (st.getD (fc c k i) 0) (st.getD k 0) := by
  have hg := arrs_get hk hi
  have hlt := (List.getElem?_eq_some_iff.1 hg).1
  exact ⟨by rw [← h.2.2.2.1]; exact hlt, h.2.2.2.2 k hk i hi⟩

theorem firstMap_ret (c : List Sim) (p : Int) (st : Sim) (ms : List Mat) (k : Nat) (hk : k ≤ c.length) (hv : VC c) : Ret E n_impl_firstMap [dLL c, dI p, dL st, dMs ms, dI (k : Int)] ⟨o_impl_firstMap, (((plc c k : Nat) : Int), ())⟩ := by
  have h48 := hv.1
  have htl : (c.take k).length = k := by rw [List.length_take]; omega
  refine ret_of ?_
  simp only [run_impl_firstMap, impl_firstMap.ev, Int.toNat_natCast, htl]
  refine ev_chk (by simp; omega) ?_
  refine Ev.start (p := fun φ n => impl_firstMap.l0 (mkR (run E (φ 0))) (φ 0) n 0 (c.take k) (k : Int) 0 = _) 1 ?_ (fun _ _ _ h => h)
  have := fold_loop 1 (L := fun φ n j a => impl_firstMap.l0 (mkR (run E (φ 0))) (φ 0) n a (c.take k) (k : Int) j) (len := k) (fun j => ((plc c j : Nat) : Int)) (r := some ⟨o_impl_firstMap, (((plc c k : Nat) : Int), ())⟩) (fun _ _ _ _ _ => rfl) (fun j r hj ih => ?_) ?_
  · exact this
  · simp only [impl_firstMap.l0_succ _ mk_ok]
    have hjc : j < c.length := by omega
    have hpl := hv.plc (k := j) (by omega)
    have h4 := hv.len4 hjc
    have e := plc_succ (c := c) (k := j)
    rw [fIdx_length] at e
    rw [getD_lt hjc] at e h4
    have hjt : j < (c.take k).length := by omega
    have hgt : (c.take k)[j] = c[j] := List.getElem_take
    refine ev_t (decide_eq_true (by omega)) (ev_bind (idx_lt hjt) ?_)
    rw [hgt]
    refine ev_d (fun hl => ev_call (sizeI_ret _) ?_) fun hl => ?_
    · rw [if_pos (by omega)] at e
      rw [w64_succ (by omega), w64_small (by omega) (by omega)]
      rw [e] at ih
      simpa using ih
    · rw [if_neg (by omega)] at e
      rw [w64_succ (by omega)]
      rw [e] at ih; exact ih
  · simp only [impl_firstMap.l0_succ _ mk_ok]
    exact ev_f (decide_eq_false (by omega)) ev_rfl

theorem direct_ret (c : List Sim) (p : Int) (st : Sim) (ms : List Mat) (k i : Nat) (hk : k < c.length) (hi : i < (fIdx c k).length) (h : VS c p st ms) : Ret E n_impl_direct [dLL c, dI p, dL st, dMs ms, dI (k : Int), dI (i : Int)] ⟨o_impl_direct, mp c ms k i⟩ := by
  have h48 := h.1.1
  have hpl := h.1.plc (k := k) (by omega)
  have h4 := h.1.fIdx4 hk
  obtain ⟨ht, _⟩ := h.map hk hi
  refine ret_of ?_
  simp only [run_impl_direct, impl_direct.ev]
  refine ev_call (firstMap_ret c p st ms k (by omega) h.1) ?_
  simp only
  rw [w64_small (by omega) (by omega), show ((plc c k : Nat) : Int) + (i : Int) = ((plc c k + i : Nat) : Int) by omega]
  refine ev_bind (idx_lt ht) (ev_some ?_)
  rw [mp, getD_lt ht]

theorem l09Get_ret (x : Shf) (k i : Nat) (hk : k < x.1.length) (hi : i < (fIdx x.1 k).length) (h : VS x.1 x.2.1 x.2.2.1 x.2.2.2.1) : Ret E n_spec_l09Get [dS x, dI (k : Int), dI (i : Int)] ⟨o_spec_l09Get, (mp x.1 x.2.2.2.1 k i, ())⟩ := by
  have h4 := h.1.fIdx4 hk
  obtain ⟨ht, _⟩ := h.map hk hi
  refine ret_of ?_
  simp only [run_spec_l09Get, spec_l09Get.ev]
  refine ev_call (l09Place_ret x.1 k i (by omega) (by omega) h.1) (ev_bind (idx_lt ht) (ev_some ?_))
  rw [mp, getD_lt ht]

/-- a way over two faces -/
noncomputable def two (c : List Sim) (ms : List Mat) (k i j : Nat) : Mat := mulM (mp c ms k i) (mp c ms (fc c k i) j)

theorem mulM_len {a b : Mat} (ha : VM a) (hb : VM b) : (mulM a b).2.2.2.1.length ≤ 1048576 := by
  show (flatF _ _ _).length ≤ _
  rw [flatF_length]
  have h1 := ha.2.1
  have h2 := hb.2.2.1
  have := rc_le (R := a.2.1.toNat) (C := b.2.2.1.toNat) (by omega) (by omega)
  omega

structure Sq (c : List Sim) (p : Int) (st : Sim) (ms : List Mat) (k i j : Nat) : Prop where
  kl : k < c.length
  n3 : 3 ≤ (c.getD k []).length
  il : i < (c.getD k []).length
  jl : j + 1 < (c.getD k []).length
  v : VS c p st ms

theorem Sq.hi {c p st ms k i j} (h : Sq c p st ms k i j) : i < (fIdx c k).length := by
  have := h.n3; have := h.il
  rw [fIdx_length, if_pos (by omega)]; exact this

theorem Sq.fk {c p st ms k i j} (h : Sq c p st ms k i j) : fc c k i < c.length := (fc_get h.v.1 h.kl h.hi).2.1

theorem Sq.hj {c p st ms k i j} (h : Sq c p st ms k i j) : j < (fIdx c (fc c k i)).length := by
  have h1 := h.n3; have h2 := h.il; have h3 := h.jl
  have e := (fc_get h.v.1 h.kl h.hi).2.2
  rw [fIdx_length, e, List.length_eraseIdx, if_pos h2, if_pos (by omega)]; omega

theorem Sq.b1 {c p st ms k i j} (h : Sq c p st ms k i j) : VM (mp c ms k i) := ((h.v.map h.kl h.hi).2).1
theorem Sq.b2 {c p st ms k i j} (h : Sq c p st ms k i j) : VM (mp c ms (fc c k i) j) := ((h.v.map h.fk h.hj).2).1
theorem Sq.sh {c p st ms k i j} (h : Sq c p st ms k i j) : (mp c ms k i).2.2.1 = (mp c ms (fc c k i) j).2.1 := by
  rw [((h.v.map h.kl h.hi).2).2.2.2, ((h.v.map h.fk h.hj).2).2.2.1]

theorem Sq.impl {c p st ms k i j} (h : Sq c p st ms k i j) : Ret E n_impl_product [dI (mp c ms k i).1, dI (mp c ms k i).2.1, dI (mp c ms k i).2.2.1, dL (mp c ms k i).2.2.2.1, dI (mp c ms (fc c k i) j).1, dI (mp c ms (fc c k i) j).2.1, dI (mp c ms (fc c k i) j).2.2.1, dL (mp c ms (fc c k i) j).2.2.2.1] ⟨o_impl_product, two c ms k i j⟩ :=
  product_ret _ _ h.b1 h.b2 h.sh

end VeT

open Go Go.Proofs Ve
set_option linter.unusedVariables false
set_option linter.unusedSimpArgs false
namespace VeT

theorem Index_ret (s : Sim) (v : Int) (hs : s.length ≤ 1048576) : Ret E n_slices_Index_Sint64_int64 [dL s, dI v] ⟨o_slices_Index_Sint64_int64, (idxf (fun x => pb (x = v)) s, ())⟩ := by
  obtain ⟨o, h1, h2, h3⟩ := find_loop 1 (L := fun φ n k => slices_Index_Sint64_int64.l0 (mkR (run E (φ 0))) (φ 0) n s v (s.length : Int) k) (len := s.length) (fun k => ∃ h : k < s.length, pb (s[k] = v) = true) (fun o => some ⟨o_slices_Index_Sint64_int64, (o2i o, ())⟩) (fun _ _ _ _ => rfl) (fun k hk hP => by
      obtain ⟨_, hP⟩ := hP
      have hP := pb_iff.1 hP
      simp only [slices_Index_Sint64_int64.l0_succ _ mk_ok]
      exact ev_t (decide_eq_true (by omega)) (ev_bind (idx_lt hk) (ev_t (by simp [hP]) ev_rfl))) (fun k q hk hP ih => by
      simp only [slices_Index_Sint64_int64.l0_succ _ mk_ok]
      refine ev_t (decide_eq_true (by omega)) (ev_bind (idx_lt hk) (ev_f (by simp only [beq_eq_false_iff_ne]; exact fun e => hP ⟨hk, pb_true e.symm⟩) ?_))
      rw [w64_succ (by omega)]; exact ih) (by
      simp only [slices_Index_Sint64_int64.l0_succ _ mk_ok]
      exact ev_f (decide_eq_false (by omega)) ev_rfl)
  rw [idxf_of (p := fun x => pb (x = v)) h1 h2] at h3
  refine ret_of ?_
  simp only [run_slices_Index_Sint64_int64, slices_Index_Sint64_int64.ev]
  exact Ev.start (p := fun φ n => slices_Index_Sint64_int64.l0 (mkR (run E (φ 0))) (φ 0) n s v (s.length : Int) 0 = _) 1 h3 (fun _ _ _ h => h)

theorem Contains_ret (s : Sim) (v : Int) (hs : s.length ≤ 1048576) : Ret E n_slices_Contains_Sint64_int64 [dL s, dI v] ⟨o_slices_Contains_Sint64_int64, (pb (v ∈ s), ())⟩ := by
  refine ret_of ?_
  simp only [run_slices_Contains_Sint64_int64, slices_Contains_Sint64_int64.ev]
  refine ev_call (Index_ret s v hs) (ev_some ?_)
  have : decide (idxf (fun x => pb (x = v)) s ≥ 0) = pb (v ∈ s) := eq_pb (by
    rw [decide_eq_true_iff, ge_iff_le, idxf_nonneg]
    exact ⟨fun ⟨x, h, e⟩ => pb_iff.1 e ▸ h, fun h => ⟨v, h, pb_true rfl⟩⟩)
  simp only [this]

theorem l00Has_ret (s : Sim) (v : Int) (hs : s.length ≤ 1048576) : Ret E n_spec_l00Has [dL s, dI v] ⟨o_spec_l00Has, (pb (v ∈ s), ())⟩ := by
  obtain ⟨o, h1, h2, h3⟩ := find_loop 1 (L := fun φ n k => spec_l00Has.l0 (mkR (run E (φ 0))) (φ 0) n s v k) (len := s.length) (fun k => ∃ h : k < s.length, s[k] = v) (fun o => some ⟨o_spec_l00Has, (o.isSome, ())⟩) (fun _ _ _ _ => rfl) (fun k hk hP => by
      obtain ⟨_, hP⟩ := hP
      simp only [spec_l00Has.l0_succ _ mk_ok]
      exact ev_t (decide_eq_true (by omega)) (ev_bind (idx_lt hk) (ev_t (by simp [hP]) ev_rfl))) (fun k q hk hP ih => by
      simp only [spec_l00Has.l0_succ _ mk_ok]
      refine ev_t (decide_eq_true (by omega)) (ev_bind (idx_lt hk) (ev_f (by simp only [beq_eq_false_iff_ne]; exact fun e => hP ⟨hk, e⟩) ?_))
      rw [w64_succ (by omega)]; exact ih) (by
      simp only [spec_l00Has.l0_succ _ mk_ok]
      exact ev_f (decide_eq_false (by omega)) ev_rfl)
  have : o.isSome = pb (v ∈ s) := eq_pb (by
    cases o with
    | none =>
      simp only [Option.isSome_none, Bool.false_eq_true, false_iff]
      intro hm
      obtain ⟨j, hj, e⟩ := List.mem_iff_getElem.1 hm
      exact h2 rfl j hj ⟨hj, e⟩
    | some k =>
      obtain ⟨_, ⟨hk, e⟩, _⟩ := h1 k rfl
      simp only [Option.isSome_some, true_iff]
      exact e ▸ List.getElem_mem hk)
  rw [this] at h3
  refine ret_of ?_
  simp only [run_spec_l00Has, spec_l00Has.ev]
  exact Ev.start (p := fun φ n => spec_l00Has.l0 (mkR (run E (φ 0))) (φ 0) n s v 0 = _) 1 h3 (fun _ _ _ h => h)

/-- a part of a simplex -/
def Part (a b : Sim) : Prop := ∀ x ∈ a, x ∈ b

theorem isFace_1_ret (x : Int) (b : Sim) (hb : b.length ≤ 1048576) : Ret E n_impl_isFace_1 [dI x, ⟨.ptr (.cons (.sl (.int .i64)) .nil), (b, ())⟩] ⟨o_impl_isFace_1, (!pb (x ∈ b), ())⟩ := by
  refine ret_of ?_
  simp only [run_impl_isFace_1, impl_isFace_1.ev]
  exact ev_call (Contains_ret b x hb) ev_rfl

theorem isFace_ret (a b : Sim) (ha : a.length ≤ 1048576) (hb : b.length ≤ 1048576) : Ret E n_impl_isFace [dL a, dL b] ⟨o_impl_isFace, (pb (Part a b), ())⟩ := by
  refine ret_of ?_
  simp only [run_impl_isFace, impl_isFace.ev]
  refine ev_call (ContainsFunc_Sint64_int64_impl_isFace_1_ret a ((b, ()), ()) _ ha fun x _ => isFace_1_ret x b hb) (ev_some ?_)
  simp only [none_bad]; rfl

theorem l05Part_ret (a b : Sim) (ha : a.length ≤ 1048576) (hb : b.length ≤ 1048576) : Ret E n_spec_l05Part [dL a, dL b] ⟨o_spec_l05Part, (pb (Part a b), ())⟩ := by
  refine ret_of ?_
  simp only [run_spec_l05Part, spec_l05Part.ev]
  refine Ev.start (p := fun φ n => spec_l05Part.l0 (mkR (run E (φ 0))) (φ 0) n a b 0 = _) 1 ?_ (fun _ _ _ h => h)
  refine (all_pb 1 (L := fun φ n k => spec_l05Part.l0 (mkR (run E (φ 0))) (φ 0) n a b k) (len := a.length) 0 (by omega) (fun j => a.getD j 0 ∈ b) (fun b => some ⟨o_spec_l05Part, (b, ())⟩) (fun _ _ _ _ => rfl) (fun k h1 h2 hP _ => ?_) (fun k r h1 h2 hP _ ih => ?_) (fun _ => ?_)).to ?_
  · simp only [spec_l05Part.l0_succ _ mk_ok]
    rw [getD_lt h2] at hP
    exact ev_t (decide_eq_true (by omega)) (ev_bind (idx_lt h2) (ev_call (l00Has_ret b _ hb) (ev_t (by rw [pb_false hP]; rfl) ev_rfl)))
  · simp only [spec_l05Part.l0_succ _ mk_ok]
    rw [getD_lt h2] at hP
    refine ev_t (decide_eq_true (by omega)) (ev_bind (idx_lt h2) (ev_call (l00Has_ret b _ hb) (ev_f (by rw [pb_true hP]; rfl) ?_)))
    rw [w64_succ (by omega)]; exact ih
  · simp only [spec_l05Part.l0_succ _ mk_ok]
    exact ev_f (decide_eq_false (by omega)) ev_rfl
  · refine congrArg (fun b : Bool => some (⟨o_spec_l05Part, (b, ())⟩ : Dv)) (pb_congr ⟨fun h x hx => ?_, fun h j _ hj => by rw [getD_lt hj]; exact h _ (List.getElem_mem hj)⟩)
    obtain ⟨j, hj, rfl⟩ := List.mem_iff_getElem.1 hx
    have := h j (by omega) hj
    rwa [getD_lt hj] at this

open Classical in
/-- the star's indices below k -/
noncomputable def star (c : List Sim) (s : Sim) : Nat → List Int
  | 0 => []
  | k + 1 => star c s k ++ if Part s (c.getD k []) then [(k : Int)] else []

theorem star_length {c : List Sim} {s : Sim} : ∀ {k : Nat}, (star c s k).length ≤ k
  | 0 => by simp [star]
  | k + 1 => by
    have := star_length (c := c) (s := s) (k := k)
    rw [star, List.length_append]; split <;> simp <;> omega

/-- the free pairs below k -/
noncomputable def frees (c : List Sim) : Nat → List Sim
  | 0 => []
  | k + 1 => frees c k ++ if (star c (c.getD k []) c.length).length = 2 then [[(k : Int), (star c (c.getD k []) c.length).getD 1 0]] else []

theorem frees_length {c : List Sim} : ∀ {k : Nat}, (frees c k).length ≤ k
  | 0 => by simp [frees]
  | k + 1 => by
    have := frees_length (c := c) (k := k)
    rw [frees, List.length_append]; split <;> simp <;> omega

theorem frees_mem {c : List Sim} : ∀ {k : Nat} {x : Sim}, x ∈ frees c k → x.length = 2
  | 0, x, h => by simp [frees] at h
  | k + 1, x, h => by
    rw [frees, List.mem_append] at h
    rcases h with h | h
    · exact frees_mem h
    · split at h
      · rw [List.mem_singleton] at h; rw [h]; rfl
      · simp at h

open Classical in
noncomputable def FreeV (c : List Sim) : List Sim × Int × Unit := if VC c then (frees c c.length, 0, ()) else ([], 1, ())

end VeT

open Go Go.Proofs Ve
set_option linter.unusedVariables false
set_option linter.unusedSimpArgs false
namespace VeT

/-! marks: what the laws write over arguments and results -/
def mkL (k : Int) (n : Nat) : Sim := (List.range n).map fun (i : Nat) => k + (i : Int)

theorem mkL_length {k : Int} {n : Nat} : (mkL k n).length = n := by simp [mkL]

theorem mkL_get {k : Int} {n i : Nat} (h : i < (mkL k n).length) : (mkL k n)[i] = k + i := by simp [mkL]

theorem markInt64S_ret (s : Sim) (k : Int) (hk : 0 ≤ k ∧ k ≤ 4611686018427387904) (hs : s.length ≤ 1048576) : Ret E n_laws_markInt64S [dL s, dI k] ⟨o_laws_markInt64S, (k + s.length, mkL k s.length, ())⟩ := by
  refine ret_of ?_
  simp only [run_laws_markInt64S, laws_markInt64S.ev]
  refine Ev.start (p := fun φ n => laws_markInt64S.l0 (mkR (run E (φ 0))) (φ 0) n k 0 s = _) 1 ?_ (fun _ _ _ h => h)
  have hl : ∀ j, j ≤ s.length → (mkL k j ++ s.drop j).length = s.length := fun j hj => by rw [List.length_append, mkL_length, List.length_drop]; omega
  have := fold_loop 1 (L := fun φ n j (a : Int × Sim) => laws_markInt64S.l0 (mkR (run E (φ 0))) (φ 0) n a.1 j a.2) (len := s.length) (fun j => (k + (j : Int), mkL k j ++ s.drop j)) (r := some ⟨o_laws_markInt64S, (k + s.length, mkL k s.length, ())⟩) (fun _ _ _ _ _ => rfl) (fun j r hj ih => ?_) ?_
  · simpa [mkL] using this
  · simp only [laws_markInt64S.l0_succ _ mk_ok, hl j (by omega)]
    refine ev_t (decide_eq_true (by omega)) (ev_chk (by simp; omega) ?_)
    rw [w64_succ (by omega), w64_small (by omega) (by omega), Int.toNat_natCast]
    have e : (mkL k j ++ s.drop j).set j (k + j) = mkL k (j + 1) ++ s.drop (j + 1) := by
      rw [List.drop_eq_getElem_cons hj, List.set_append_right _ _ (by rw [mkL_length]; omega), mkL_length, Nat.sub_self, List.set_cons_zero]
      unfold mkL
      rw [List.range_succ, List.map_append, List.append_assoc]; rfl
    rw [e, show k + (j : Int) + 1 = k + ((j + 1 : Nat) : Int) by omega]
    exact ih
  · simp only [laws_markInt64S.l0_succ _ mk_ok, hl s.length (Nat.le_refl _)]
    refine ev_f (decide_eq_false (by omega)) (ev_some ?_)
    simp

theorem heldInt64S_ret (k : Int) (n : Nat) (hk : 0 ≤ k ∧ k ≤ 4611686018427387904) (hn : n ≤ 1048576) : Ret E n_laws_heldInt64S [dL (mkL k n), dI k] ⟨o_laws_heldInt64S, (k + n, ())⟩ := by
  refine ret_of ?_
  simp only [run_laws_heldInt64S, laws_heldInt64S.ev]
  refine Ev.start (p := fun φ m => laws_heldInt64S.l0 (mkR (run E (φ 0))) (φ 0) m (mkL k n) k 0 = _) 1 ?_ (fun _ _ _ h => h)
  have := fold_loop 1 (L := fun φ m j a => laws_heldInt64S.l0 (mkR (run E (φ 0))) (φ 0) m (mkL k n) a j) (len := n) (fun j => k + (j : Int)) (r := some ⟨o_laws_heldInt64S, (k + n, ())⟩) (fun _ _ _ _ _ => rfl) (fun j r hj ih => ?_) ?_
  · simpa using this
  · simp only [laws_heldInt64S.l0_succ _ mk_ok, mkL_length]
    have hj' : j < (mkL k n).length := by rw [mkL_length]; exact hj
    refine ev_t (decide_eq_true (by omega)) (ev_bind (idx_lt hj') (ev_f (by simp [mkL_get hj']) ?_))
    rw [w64_succ (by omega), w64_small (by omega) (by omega), show k + (j : Int) + 1 = k + ((j + 1 : Nat) : Int) by omega]
    exact ih
  · simp only [laws_heldInt64S.l0_succ _ mk_ok, mkL_length]
    exact ev_f (decide_eq_false (by omega)) ev_rfl

def mkLL : List Sim → Int → List Sim
  | [], _ => []
  | x :: xs, k => mkL k x.length :: mkLL xs (k + x.length)
def mkN : List Sim → Int → Int
  | [], k => k
  | x :: xs, k => mkN xs (k + x.length)

theorem mkLL_length : ∀ {xs : List Sim} {k : Int}, (mkLL xs k).length = xs.length
  | [], _ => rfl
  | x :: xs, k => by simp [mkLL, mkLL_length]

theorem mkN_ge : ∀ {xs : List Sim} {k : Int}, (∀ x ∈ xs, x.length ≤ 1048576) → k ≤ mkN xs k ∧ mkN xs k ≤ k + 1048576 * xs.length
  | [], k, _ => by simp [mkN]
  | x :: xs, k, h => by
    have h1 := mkN_ge (xs := xs) (k := k + x.length) fun y hy => h y (List.mem_cons_of_mem _ hy)
    have h2 := h x List.mem_cons_self
    simp only [mkN, List.length_cons]; omega

theorem markRows_evt : ∀ (xs : List Sim) (k : Int), 0 ≤ k → k + 1048576 * xs.length ≤ 4611686018427387904 → (∀ x ∈ xs, x.length ≤ 1048576) → Evt fun n => markRows n_laws_markInt64S (mkR (run E n)) xs k = some (mkN xs k, mkLL xs k)
  | [], k, _, _, _ => Evt.of fun _ => rfl
  | x :: xs, k, h0, hb, hx => by
    have h2 := hx x List.mem_cons_self
    simp only [List.length_cons] at hb
    have h3 := markRows_evt xs (k + x.length) (by omega) (by omega) fun y hy => hx y (List.mem_cons_of_mem _ hy)
    have h4 := markInt64S_ret x k (by omega) h2
    refine (h4.and h3).mono fun n ⟨a, b⟩ => ?_
    have a' : callT (mkR (run E n)) n_laws_markInt64S oM [⟨tL, x⟩, ⟨tI, k⟩] = some (k + x.length, mkL k x.length, ()) := callT_of a
    simp only [markRows, a', Option.bind_some, b, Option.map_some, mkN, mkLL]

theorem run_markSS (n : Nat) (args : List Dv) : run E (n + 1) n_laws_markInt64SS args = pMarkSS n_laws_markInt64S (mkR (run E n)) args := rfl

theorem markInt64SS_ret (xs : List Sim) (k : Int) (hk : 0 ≤ k ∧ k ≤ 1099511627776) (hs : Sm (.sl (.sl (.int .i64))) xs) : Ret E n_laws_markInt64SS [dLL xs, dI k] ⟨o_laws_markInt64SS, (mkN xs k, mkLL xs k, ())⟩ := by
  have hs1 : xs.length ≤ 1048576 := hs.1
  refine Evt.succ ((markRows_evt xs k hk.1 (by omega) fun x hx => (hs.2 x hx).1).mono fun n h => ?_)
  rw [run_markSS]
  show ((markRows n_laws_markInt64S (mkR (run E n)) xs k).map fun q => (⟨.cons tI (.cons (.sl tL) .nil), (q.1, q.2, ())⟩ : Dv)) = _
  rw [h]; rfl

end VeT

open Go Go.Proofs Ve
set_option linter.unusedVariables false
set_option linter.unusedSimpArgs false
namespace VeT

/-! marks of matrices and sheaves -/
def mkMM : List MatT → Int → List MatT
  | [], _ => []
  | x :: xs, k => (k, k + 1, k + 1 + 1, mkL (k + 1 + 1 + 1) x.2.2.2.1.length, ()) :: mkMM xs (k + 1 + 1 + 1 + x.2.2.2.1.length)
def mkMN : List MatT → Int → Int
  | [], k => k
  | x :: xs, k => mkMN xs (k + 1 + 1 + 1 + x.2.2.2.1.length)

theorem mkMN_ge : ∀ {xs : List MatT} {k : Int}, (∀ x ∈ xs, x.2.2.2.1.length ≤ 1048576) → k ≤ mkMN xs k ∧ mkMN xs k ≤ k + 1048579 * xs.length
  | [], k, _ => by simp [mkMN]
  | x :: xs, k, h => by
    have h1 := mkMN_ge (xs := xs) (k := k + 1 + 1 + 1 + x.2.2.2.1.length) fun y hy => h y (List.mem_cons_of_mem _ hy)
    have h2 := h x List.mem_cons_self
    simp only [mkMN, List.length_cons]; omega

theorem markRowsM_evt : ∀ (xs : List MatT) (k : Int), 0 ≤ k → k + 1048579 * xs.length ≤ 4611686018427387904 → (∀ x ∈ xs, x.2.2.2.1.length ≤ 1048576) → Evt fun n => markRowsM n_laws_markInt64S (mkR (run E n)) xs k = some (mkMN xs k, mkMM xs k)
  | [], k, _, _, _ => Evt.of fun _ => rfl
  | x :: xs, k, h0, hb, hx => by
    have h2 := hx x List.mem_cons_self
    simp only [List.length_cons] at hb
    have h3 := markRowsM_evt xs (k + 1 + 1 + 1 + x.2.2.2.1.length) (by omega) (by omega) fun y hy => hx y (List.mem_cons_of_mem _ hy)
    have h4 := markInt64S_ret x.2.2.2.1 (k + 1 + 1 + 1) (by omega) h2
    refine (h4.and h3).mono fun n ⟨a, b⟩ => ?_
    have a' : callT (mkR (run E n)) n_laws_markInt64S oM [⟨tL, x.2.2.2.1⟩, ⟨tI, k + 1 + 1 + 1⟩] = some (k + 1 + 1 + 1 + x.2.2.2.1.length, mkL (k + 1 + 1 + 1) x.2.2.2.1.length, ()) := callT_of a
    rw [markRowsM, if_pos (by omega)]
    simp only [a', Option.bind_some, b, Option.map_some, mkMN, mkMM]

theorem run_markMS (n : Nat) (args : List Dv) : run E (n + 1) n_laws_markMatrixS args = pMarkMS n_laws_markInt64S (mkR (run E n)) args := rfl

theorem markMatrixS_ret (xs : List MatT) (k : Int) (hk : 0 ≤ k ∧ k ≤ 4398046511104) (hs : Sm (.sl tM) xs) : Ret E n_laws_markMatrixS [⟨.sl tM, xs⟩, ⟨.int .i64, k⟩] ⟨o_laws_markMatrixS, (mkMN xs k, mkMM xs k, ())⟩ := by
  have hs1 : xs.length ≤ 1048576 := hs.1
  refine Evt.succ ((markRowsM_evt xs k hk.1 (by omega) fun x hx => (hs.2 x hx).2.2.2.1.1).mono fun n h => ?_)
  rw [run_markMS]
  show ((markRowsM n_laws_markInt64S (mkR (run E n)) xs k).map fun q => (⟨.cons tI (.cons (.sl tM) .nil), (q.1, q.2, ())⟩ : Dv)) = _
  rw [h]; rfl

theorem markMatrix_ret (x : MatT) (k : Int) (hk : 0 ≤ k ∧ k ≤ 4398046511104) (hs : x.2.2.2.1.length ≤ 1048576) : Ret E n_laws_markMatrix [dI x.1, dI x.2.1, dI x.2.2.1, dL x.2.2.2.1, dI k] ⟨o_laws_markMatrix, (k + x.2.2.2.1.length, mkL k x.2.2.2.1.length, ())⟩ := by
  refine ret_of ?_
  simp only [run_laws_markMatrix, laws_markMatrix.ev]
  exact ev_call (markInt64S_ret _ k (by omega) hs) ev_rfl

theorem heldMatrix_ret (p r c k : Int) (n : Nat) (hk : 0 ≤ k ∧ k ≤ 4398046511104) (hn : n ≤ 1048576) : Ret E n_laws_heldMatrix [dI p, dI r, dI c, dL (mkL k n), dI k] ⟨o_laws_heldMatrix, (k + n, ())⟩ := by
  refine ret_of ?_
  simp only [run_laws_heldMatrix, laws_heldMatrix.ev]
  exact ev_call (heldInt64S_ret k n (by omega) hn) (ev_f (decide_eq_false (Int.not_lt.2 (by show 0 ≤ k + (n : Int); omega))) ev_rfl)

theorem markComplexP_ret (xs : List Sim) (k : Int) (hk : 0 ≤ k ∧ k ≤ 1099511627776) (hs : Sm (.sl (.sl (.int .i64))) xs) : Ret E n_laws_markComplex [dLL xs, dI k] ⟨o_laws_markComplex, (mkN xs k, mkLL xs k, ())⟩ := by
  refine ret_of ?_
  simp only [run_laws_markComplex, laws_markComplex.ev]
  exact ev_call (markInt64SS_ret xs k hk hs) ev_rfl

/-- the number behind a sheaf's marks -/
def mkSN (x : Shf) (k : Int) : Int := mkMN x.2.2.2.1 (mkN x.1 k + x.2.2.1.length)

theorem markSheaf_ret (x : Shf) (hx : Sm (.st cS) x) : ∃ a b c, Ret E n_laws_markSheaf [dLL x.1, dI x.2.1, dL x.2.2.1, dMs x.2.2.2.1, dI 1] ⟨o_laws_markSheaf, (mkSN x 1, a, b, c, ())⟩ ∧ 1 ≤ mkSN x 1 := by
  have h1 : Sm (.sl (.sl (.int .i64))) x.1 := hx.1
  have h2 : x.2.2.1.length ≤ 1048576 := hx.2.2.1.1
  have h3 : Sm (.sl tM) x.2.2.2.1 := hx.2.2.2.1
  have l1 : x.1.length ≤ 1048576 := h1.1
  have l3 : x.2.2.2.1.length ≤ 1048576 := h3.1
  have g1 := mkN_ge (xs := x.1) (k := 1) fun y hy => (h1.2 y hy).1
  have g3 := mkMN_ge (xs := x.2.2.2.1) (k := mkN x.1 1 + x.2.2.1.length) fun y hy => (h3.2 y hy).2.2.2.1.1
  refine ⟨mkLL x.1 1, mkL (mkN x.1 1) x.2.2.1.length, mkMM x.2.2.2.1 (mkN x.1 1 + x.2.2.1.length), ret_of ?_, by unfold mkSN; omega⟩
  · simp only [run_laws_markSheaf, laws_markSheaf.ev]
    exact ev_call (markComplexP_ret x.1 1 (by omega) h1) (ev_call (markInt64S_ret x.2.2.1 (mkN x.1 1) (by omega) h2) (ev_call (markMatrixS_ret x.2.2.2.1 (mkN x.1 1 + x.2.2.1.length) (by omega) h3) ev_rfl))

end VeT

open Go Go.Proofs Ve
set_option linter.unusedVariables false
set_option linter.unusedSimpArgs false
namespace VeT

theorem isPlace_ret (c : List Sim) (p : Int) (st : Sim) (ms : List Mat) (k : Int) (hc : c.length ≤ 1048576) : Ret E n_impl_isPlace [dLL c, dI p, dL st, dMs ms, dI k] ⟨o_impl_isPlace, (pb (0 ≤ k ∧ k ≤ (c.length : Int) - 1), ())⟩ := by
  refine ret_of ?_
  simp only [run_impl_isPlace, impl_isPlace.ev]
  refine ev_call (sizeL_ret c) ?_
  simp only
  rw [w64_small (by omega) (by omega)]
  exact ev_call (within_ret _ _ _) ev_rfl

theorem l09Index_ret (x : Shf) (k : Int) (hc : x.1.length ≤ 1048576) : Ret E n_spec_l09Index [dS x, dI k] ⟨o_spec_l09Index, (pb (0 ≤ k ∧ k ≤ (x.1.length : Int) - 1), ())⟩ := by
  refine ret_of ?_
  simp only [run_spec_l09Index, spec_l09Index.ev]
  rw [w64_small (by omega) (by omega)]
  exact ev_call (l00In_ret _ _ _) ev_rfl

/-- the unit matrix' entries -/
def unitE (i j : Nat) : Int := if i = j then 1 else 0
def unitM (p : Int) (n : Nat) : Mat := (p, (n : Int), (n : Int), flatF unitE n n, ())

theorem unit_1_ret (i j : Nat) : Ret E n_impl_unit_1 [dI (i : Int), dI (j : Int)] ⟨o_impl_unit_1, (unitE i j, ())⟩ := by
  refine ret_of ?_
  simp only [run_impl_unit_1, impl_unit_1.ev]
  refine ev_b (fun h => ev_some ?_) fun h => ev_some ?_
  · have h : (i : Int) = j := by simpa using h
    rw [unitE, if_pos (by omega)]
  · have h : ¬ (i : Int) = j := by simpa using h
    rw [unitE, if_neg (by omega)]

theorem unit_ret (p : Int) (n : Nat) (hn : n ≤ 32) : Ret E n_impl_unit [dI p, dI (n : Int)] ⟨o_impl_unit, unitM p n⟩ := by
  have h := rc_le hn hn
  refine ret_of ?_
  simp only [run_impl_unit, impl_unit.ev]
  exact ev_call (filled_impl_unit_1_ret p n n unitE (by omega) (by omega) (by omega) fun i j _ _ => unit_1_ret i j) ev_rfl

theorem l03Unit_ret (p : Int) (n : Nat) (hn : n ≤ 32) : Ret E n_spec_l03Unit [dI p, dI (n : Int)] ⟨o_spec_l03Unit, unitM p n⟩ := by
  have h := rc_le hn hn
  refine ret_of ?_
  simp only [run_spec_l03Unit, spec_l03Unit.ev]
  refine ev_call (l03Zero_ret p n n hn hn) ?_
  refine Ev.start (p := fun φ m => spec_l03Unit.l0 (mkR (run E (φ 0))) (φ 0) m (n : Int) 0 0 0 0 p (n : Int) (n : Int) (List.replicate (n * n) 0) = _) 1 ?_ (fun _ _ _ h => h)
  have := fold_loop 1 (L := fun φ m i o => spec_l03Unit.l0 (mkR (run E (φ 0))) (φ 0) m (n : Int) i 0 0 0 p (n : Int) (n : Int) o) (len := n) (fun i => flatF unitE n i ++ List.replicate ((n - i) * n) 0) (r := some ⟨o_spec_l03Unit, unitM p n⟩) (fun _ _ _ _ _ => rfl) (fun i r hi ih => ?_) ?_
  · simpa [flatF] using this
  · simp only [spec_l03Unit.l0_succ _ mk_ok]
    have hii := lt_rc hi hi
    have hle : (i + 1) * n ≤ n * n := Nat.mul_le_mul_right _ hi
    rw [Nat.add_mul] at hle
    have hRi : (n - i) * n = n + (n - (i + 1)) * n := by
      rw [show n - i = (n - (i + 1)) + 1 by omega, Nat.add_mul]; omega
    have hol : (flatF unitE n i ++ List.replicate ((n - i) * n) (0 : Int)).length = i * n + (n - i) * n := by simp [flatF_length]
    have e1 : w64 (w64 ((i : Int) * (n : Int)) + (i : Int)) = ((i * n + i : Nat) : Int) := by
      rw [cast_mul, w64_small (n := ((i * n : Nat) : Int)) (by omega) (by omega), w64_small (by omega) (by omega)]; omega
    simp only [e1, Int.toNat_natCast]
    refine ev_t (decide_eq_true (by omega)) (ev_chk (by simp only [Bool.and_eq_true, decide_eq_true_eq, hol]; omega) ?_)
    rw [w64_succ (by omega)]
    have e2 : (flatF unitE n i ++ List.replicate ((n - i) * n) (0 : Int)).set (i * n + i) 1 = flatF unitE n (i + 1) ++ List.replicate ((n - (i + 1)) * n) 0 := by
      rw [List.set_append_right _ _ (by rw [flatF_length]; omega), flatF_length, Nat.add_sub_cancel_left, flatF, List.append_assoc]
      congr 1
      apply List.ext_getElem?
      intro j
      rw [List.getElem?_set, List.length_replicate]
      by_cases hj : j < n
      · rw [List.getElem?_append_left (by simpa using hj)]
        by_cases hij : i = j
        · subst hij
          rw [if_pos rfl, if_pos (by omega)]
          simp [hj, unitE]
        · rw [if_neg hij, List.getElem?_replicate, if_pos (by omega)]
          simp [hj, unitE, hij]
      · rw [if_neg (by omega), List.getElem?_append_right (by simpa using hj)]
        simp only [List.length_map, List.length_range, List.getElem?_replicate]
        by_cases h2 : j < (n - i) * n
        · rw [if_pos h2, if_pos (by omega)]
        · rw [if_neg h2, if_neg (by omega)]
    rw [e2]
    exact ih
  · simp only [spec_l03Unit.l0_succ _ mk_ok]
    refine ev_f (decide_eq_false (by omega)) (ev_some ?_)
    simp [unitM]

end VeT

open Go Go.Proofs Ve
set_option linter.unusedVariables false
set_option linter.unusedSimpArgs false
namespace VeT

theorem Rises.lt {s : Sim} (h : Rises s) : ∀ {i j : Nat} (hj : j < s.length) (hij : i < j), s[i] < s[j] := by
  intro i j
  induction j with
  | zero => intro _ h; omega
  | succ j ih =>
    intro hj hij
    have := h (j + 1) (by omega) hj
    rw [Nat.add_sub_cancel, getD_lt (by omega), getD_lt hj] at this
    by_cases e : i = j
    · subst e; exact this
    · exact Int.lt_trans (ih (by omega) (by omega)) this

theorem Rises.pairwise {s : Sim} (h : Rises s) : s.Pairwise (· < ·) := by
  rw [List.pairwise_iff_getElem]
  intro i j hi hj hij
  exact h.lt hj hij

theorem sorted_eq : ∀ {a b : Sim}, a.Pairwise (· < ·) → b.Pairwise (· < ·) → (∀ x, x ∈ a ↔ x ∈ b) → a = b
  | [], [], _, _, _ => rfl
  | [], y :: ys, _, _, h => absurd ((h y).2 List.mem_cons_self) (by simp)
  | x :: xs, [], _, _, h => absurd ((h x).1 List.mem_cons_self) (by simp)
  | x :: xs, y :: ys, ha, hb, h => by
    rw [List.pairwise_cons] at ha hb
    have exy : x = y := by
      have h1 := (h x).1 List.mem_cons_self
      have h2 := (h y).2 List.mem_cons_self
      rw [List.mem_cons] at h1 h2
      rcases h1 with h1 | h1
      · exact h1
      · rcases h2 with h2 | h2
        · exact h2.symm
        · have := hb.1 x h1
          have := ha.1 y h2
          omega
    subst exy
    congr 1
    refine sorted_eq ha.2 hb.2 fun z => ⟨fun hz => ?_, fun hz => ?_⟩
    · have := (h z).1 (List.mem_cons_of_mem _ hz)
      rw [List.mem_cons] at this
      rcases this with e | e
      · have := ha.1 z hz; omega
      · exact e
    · have := (h z).2 (List.mem_cons_of_mem _ hz)
      rw [List.mem_cons] at this
      rcases this with e | e
      · have := hb.1 z hz; omega
      · exact e

/-- two simplices, one a part of the other and not the same: a vertex is left -/
theorem part_left {a b : Sim} (ha : Rises a) (hb : Rises b) (h : Part a b) (hne : a ≠ b) : ∃ i, ∃ hi : i < b.length, ¬ b[i] ∈ a ∧ ∀ j (hj : j < i), b[j] ∈ a := by
  have hex : ∃ x ∈ b, ¬ x ∈ a := Classical.byContradiction fun hn => hne (sorted_eq ha.pairwise hb.pairwise fun x => ⟨h x, fun hx => Classical.byContradiction fun hxa => hn ⟨x, hx, hxa⟩⟩)
  obtain ⟨x, hx, hxa⟩ := hex
  obtain ⟨j, hj, rfl⟩ := List.mem_iff_getElem.1 hx
  have hf : b.findIdx (fun v => !pb (v ∈ a)) < b.length := List.findIdx_lt_length_of_exists ⟨b[j], hx, by rw [pb_false hxa]; rfl⟩
  refine ⟨b.findIdx (fun v => !pb (v ∈ a)), hf, ?_, fun q hq => ?_⟩
  · have := List.findIdx_getElem (w := hf)
    exact pb_not.1 (by simpa using this)
  · have := List.not_of_lt_findIdx hq
    exact pb_iff.1 (by simpa using this)

theorem part_erase {a b : Sim} (h : Part a b) {i : Nat} (hi : i < b.length) (hn : ¬ b[i] ∈ a) : Part a (b.eraseIdx i) := by
  intro x hx
  obtain ⟨j, hj, rfl⟩ := List.mem_iff_getElem.1 (h x hx)
  have hji : j ≠ i := fun e => hn (by subst e; exact hx)
  rw [List.mem_iff_getElem?]
  by_cases hlt : j < i
  · exact ⟨j, by rw [List.getElem?_eraseIdx, if_pos hlt, List.getElem?_eq_getElem hj]⟩
  · exact ⟨j - 1, by rw [List.getElem?_eraseIdx, if_neg (by omega), show j - 1 + 1 = j by omega, List.getElem?_eq_getElem hj]⟩

end VeT

open Go Go.Proofs Ve
set_option linter.unusedVariables false
set_option linter.unusedSimpArgs false
namespace VeT

/-- the first vertex that is not in the face -/
noncomputable def fv (c : List Sim) (f k : Nat) : Nat := (c.getD k []).findIdx (fun v => !pb (v ∈ c.getD f []))

noncomputable def restV (c : List Sim) (p : Int) (st : Sim) (ms : List Mat) (f : Nat) : Nat → Nat → Mat
  | 0, k => unitM p (st.getD f 0).toNat
  | d + 1, k => if f = k then unitM p (st.getD f 0).toNat else mulM (mp c ms k (fv c f k)) (restV c p st ms f d (fc c k (fv c f k)))

theorem unitM_VM {p : Int} {n : Nat} (hp : Pr p) (hn : n ≤ 32) : VM (unitM p n) := by
  refine ⟨hp, ⟨by show (0 : Int) ≤ n; omega, by show (n : Int) ≤ 32; omega⟩, ⟨by show (0 : Int) ≤ n; omega, by show (n : Int) ≤ 32; omega⟩, ?_, ?_⟩
  · show ((flatF unitE n n).length : Int) = (n : Int) * (n : Int)
    rw [flatF_length, cast_mul]
  · intro x hx
    have hx : x ∈ flatF unitE n n := hx
    have : ∀ m, x ∈ flatF unitE n m → 0 ≤ x ∧ x ≤ 1 := by
      intro m
      induction m with
      | zero => intro h; simp [flatF] at h
      | succ m ih =>
        intro h
        rw [flatF, List.mem_append] at h
        rcases h with h | h
        · exact ih h
        · rw [List.mem_map] at h
          obtain ⟨j, _, rfl⟩ := h
          unfold unitE; split <;> omega
    have := this n hx
    have := hp.1
    show 0 ≤ x ∧ x ≤ p - 1
    omega

theorem mulM_VM {a b : Mat} (ha : VM a) (hb : VM b) : VM (mulM a b) := by
  refine ⟨ha.1, ha.2.1, hb.2.2.1, ?_, ?_⟩
  · show ((flatF _ b.2.2.1.toNat a.2.1.toNat).length : Int) = a.2.1 * b.2.2.1
    rw [flatF_length]
    have h1 := ha.2.1
    have h2 := hb.2.2.1
    obtain ⟨x, hx⟩ := Int.eq_ofNat_of_zero_le h1.1
    obtain ⟨y, hy⟩ := Int.eq_ofNat_of_zero_le h2.1
    rw [hx, hy, cast_mul]; rfl
  · intro x hx
    have hx : x ∈ flatF (mulE a.1 a.2.2.2.1 b.2.2.2.1 a.2.2.1.toNat b.2.2.1.toNat) b.2.2.1.toNat a.2.1.toNat := hx
    have hp := ha.1.1
    have : ∀ m, x ∈ flatF (mulE a.1 a.2.2.2.1 b.2.2.2.1 a.2.2.1.toNat b.2.2.1.toNat) b.2.2.1.toNat m → 0 ≤ x ∧ x ≤ a.1 - 1 := by
      intro m
      induction m with
      | zero => intro h; simp [flatF] at h
      | succ m ih =>
        intro h
        rw [flatF, List.mem_append] at h
        rcases h with h | h
        · exact ih h
        · rw [List.mem_map] at h
          obtain ⟨j, _, rfl⟩ := h
          have h1 := Int.emod_nonneg (dotN (fun l => a.2.2.2.1.getD (m * a.2.2.1.toNat + l) 0) (fun l => b.2.2.2.1.getD (l * b.2.2.1.toNat + j) 0) a.2.2.1.toNat) (show a.1 ≠ 0 by omega)
          have h2 := Int.emod_lt_of_pos (dotN (fun l => a.2.2.2.1.getD (m * a.2.2.1.toNat + l) 0) (fun l => b.2.2.2.1.getD (l * b.2.2.1.toNat + j) 0) a.2.2.1.toNat) (show 0 < a.1 by omega)
          unfold mulE; omega
    exact this _ hx

theorem restriction_1_ret (v : Int) (a : Sim) (ha : a.length ≤ 1048576) : Ret E n_impl_restriction_1 [dI v, ⟨.ptr (.cons (.sl (.int .i64)) .nil), (a, ())⟩] ⟨o_impl_restriction_1, (!pb (v ∈ a), ())⟩ := by
  refine ret_of ?_
  simp only [run_impl_restriction_1, impl_restriction_1.ev]
  exact ev_call (Contains_ret a v ha) ev_rfl

/-- one step down -/
structure Down (c : List Sim) (p : Int) (st : Sim) (ms : List Mat) (f k : Nat) : Prop where
  v : VS c p st ms
  fl : f < c.length
  kl : k < c.length
  ne : f ≠ k
  pt : Part (c.getD f []) (c.getD k [])

theorem Down.facts {c p st ms f k} (h : Down c p st ms f k) : fv c f k < (c.getD k []).length ∧ fv c f k < (fIdx c k).length ∧ (∀ j (hj : j < fv c f k) (hl : j < (c.getD k []).length), (c.getD k [])[j] ∈ c.getD f []) ∧ (∀ hl : fv c f k < (c.getD k []).length, ¬ (c.getD k [])[fv c f k] ∈ c.getD f []) ∧ Part (c.getD f []) (c.getD (fc c k (fv c f k)) []) ∧ (c.getD (fc c k (fv c f k)) []).length < (c.getD k []).length ∧ fc c k (fv c f k) < c.length := by
  have hx := h.v.1.2.1 f h.fl
  have hy := h.v.1.2.1 k h.kl
  have hne : c.getD f [] ≠ c.getD k [] := fun e => by
    have hs := h.v.1.srt
    rw [getD_lt h.fl, getD_lt h.kl] at e
    rcases Nat.lt_or_gt_of_ne h.ne with hlt | hlt
    · have := hs f k h.kl hlt; rw [e, cmpS_zero.2 rfl] at this; omega
    · have := hs k f h.fl hlt; rw [e, cmpS_zero.2 rfl] at this; omega
  obtain ⟨i, hi, hin, hbef⟩ := part_left hx.2.2.1 hy.2.2.1 h.pt hne
  have hfv : fv c f k < (c.getD k []).length := List.findIdx_lt_length_of_exists ⟨_, List.getElem_mem hi, by rw [pb_false hin]; rfl⟩
  have hno : ∀ hl : fv c f k < (c.getD k []).length, ¬ (c.getD k [])[fv c f k] ∈ c.getD f [] := fun hl => by
    have t : (!pb ((c.getD k [])[fv c f k] ∈ c.getD f [])) = true := List.findIdx_getElem (w := hl) (p := fun v => !pb (v ∈ c.getD f []))
    exact pb_not.1 (by simpa only [Bool.not_eq_true'] using t)
  have hbf : ∀ j (hj : j < fv c f k) (hl : j < (c.getD k []).length), (c.getD k [])[j] ∈ c.getD f [] := fun j hj hl => by
    have := List.not_of_lt_findIdx hj
    exact pb_iff.1 (by simpa using this)
  have h2 : 1 < (c.getD k []).length := by
    refine Classical.byContradiction fun hn => ?_
    have h1 : (c.getD k []).length = 1 := by omega
    have hf0 : 0 < (c.getD f []).length := hx.1
    have hm := h.pt _ (List.getElem_mem hf0)
    obtain ⟨q, hq, e⟩ := List.mem_iff_getElem.1 hm
    have hq0 : q = fv c f k := by omega
    subst hq0
    exact hno hfv (e ▸ List.getElem_mem hf0)
  have hil : fv c f k < (fIdx c k).length := by rw [fIdx_length, if_pos h2]; exact hfv
  obtain ⟨_, hF, hFg⟩ := fc_get h.v.1 h.kl hil
  refine ⟨hfv, hil, hbf, hno, ?_, ?_, hF⟩
  · rw [hFg]; exact part_erase h.pt hfv (hno hfv)
  · rw [hFg, List.length_eraseIdx, if_pos hfv]; omega

end VeT

open Go Go.Proofs Ve
set_option linter.unusedVariables false
set_option linter.unusedSimpArgs false
namespace VeT

theorem Down.idx {c p st ms f k} (h : Down c p st ms f k) : idxf (fun v => !pb (v ∈ c.getD f [])) (c.getD k []) = (fv c f k : Nat) := by
  obtain ⟨h1, _, h3, h4, _⟩ := h.facts
  have : (c.getD k []).findIdx? (fun v => !pb (v ∈ c.getD f [])) = some (fv c f k) := by
    rw [List.findIdx?_eq_some_iff_getElem]
    exact ⟨h1, by rw [pb_false (h4 h1)]; rfl, fun j hj => by rw [pb_true (h3 j hj (by omega))]; simp⟩
  unfold idxf
  rw [this]; rfl

theorem st_le {c p st ms} (h : VS c p st ms) (f : Nat) (hf : f < c.length) : ∃ hl : f < st.length, ∃ n : Nat, st[f] = (n : Int) ∧ n ≤ 3 ∧ (st.getD f 0).toNat = n ∧ st.getD f 0 = (n : Int) := by
  have hl : f < st.length := by rw [h.2.2.1.1]; exact hf
  have hb := h.2.2.1.2.1 _ (List.getElem_mem hl)
  obtain ⟨n, hn⟩ := Int.eq_ofNat_of_zero_le hb.1
  exact ⟨hl, n, hn, by omega, by rw [getD_lt hl]; omega, by rw [getD_lt hl, hn]⟩

theorem rest_ret (c : List Sim) (p : Int) (st : Sim) (ms : List Mat) (hc : Sm (.sl (.sl (.int .i64))) c) (h : VS c p st ms) (f : Nat) (hf : f < c.length) : ∀ (d k : Nat), k < c.length → (c.getD k []).length ≤ d → Part (c.getD f []) (c.getD k []) →
    (VM (restV c p st ms f d k) ∧ (restV c p st ms f d k).2.1 = st.getD k 0) ∧
    Ret E n_impl_restriction [dLL c, dI p, dL st, dMs ms, dI (f : Int), dI (k : Int)] ⟨o_impl_restriction, restV c p st ms f d k⟩ ∧
    Ret E n_spec_l09Restrict [dS (c, p, st, ms, ()), dI (f : Int), dI (k : Int)] ⟨o_spec_l09Restrict, restV c p st ms f d k⟩ := by
  intro d
  obtain ⟨hfl, n, hn, hn3, hnt, hng⟩ := st_le h f hf
  induction d with
  | zero =>
    intro k hk hd
    have := (h.1.2.1 k hk).1
    omega
  | succ d ih =>
    intro k hk hd hpt
    have h4f := h.1.len4 hf
    rw [restV]
    by_cases hfk : f = k
    · subst hfk
      rw [if_pos rfl, hnt]
      refine ⟨⟨unitM_VM h.2.1 (by omega), by rw [hng]; rfl⟩, ret_of ?_, ret_of ?_⟩
      · simp only [run_impl_restriction, impl_restriction.ev]
        refine ev_t (by simp) (ev_bind (idx_lt hfl) ?_)
        rw [hn]
        exact ev_call (unit_ret p n (by omega)) ev_rfl
      · simp only [run_spec_l09Restrict, spec_l09Restrict.ev]
        refine ev_t (by simp) (ev_bind (idx_lt (xs := st) hfl) ?_)
        rw [hn]
        exact ev_call (l03Unit_ret p n (by omega)) ev_rfl
    · rw [if_neg hfk]
      have D : Down c p st ms f k := ⟨h, hf, hk, hfk, hpt⟩
      obtain ⟨f1, f2, f3, f4, f5, f6, f7⟩ := D.facts
      obtain ⟨⟨v1, v2⟩, r1, r2⟩ := ih (fc c k (fv c f k)) f7 (by omega) f5
      obtain ⟨ix, _, hFg⟩ := fc_get h.1 hk f2
      obtain ⟨_, hB⟩ := h.map hk f2
      have hsh : (mp c ms k (fv c f k)).2.2.1 = (restV c p st ms f d (fc c k (fv c f k))).2.1 := by rw [hB.2.2.2, v2]
      have gf : c.getD f [] = c[f] := getD_lt hf
      have gk : c.getD k [] = c[k] := getD_lt hk
      have hlf : (c[f]).length ≤ 1048576 := (sm_get (t := .sl (.int .i64)) (s := c) hc hf).1
      have hlk : (c[k]).length ≤ 1048576 := (sm_get (t := .sl (.int .i64)) (s := c) hc hk).1
      refine ⟨⟨mulM_VM hB.1 v1, hB.2.2.1⟩, ret_of ?_, ret_of ?_⟩
      · simp only [run_impl_restriction, impl_restriction.ev]
        refine ev_f (by simp; omega) (ev_bind (idx_lt hf) (ev_bind (idx_lt hk) ?_))
        have hI := IndexFunc_Sint64_int64_impl_restriction_1_ret c[k] ((c[f], ()), ()) (fun v => !pb (v ∈ c[f])) hlk fun v _ => restriction_1_ret v c[f] hlf
        have hD := D.idx
        rw [gf, gk] at hD
        rw [hD] at hI
        exact ev_call hI (ev_call (faceIndices_ret c k hk hc h.1.srt) (ev_bind ix (ev_call (direct_ret c p st ms k (fv c f k) hk f2 h) (ev_call r1 (ev_call (product_ret _ _ hB.1 v1 hsh) ev_rfl)))))
      · simp only [run_spec_l09Restrict, spec_l09Restrict.ev]
        refine ev_f (by simp; omega) (ev_bind (idx_lt (xs := c) hk) ?_)
        refine Ev.start (p := fun φ m => spec_l09Restrict.l0 (mkR (run E (φ 0))) (φ 0) m (c, p, st, ms, ()) (f : Int) (k : Int) c[k] 0 0 0 0 = _) 1 ?_ (fun _ _ _ h => h)
        rw [gk] at f1
        refine loopR 1 (σ := Nat) (L := fun φ m i => spec_l09Restrict.l0 (mkR (run E (φ 0))) (φ 0) m (c, p, st, ms, ()) (f : Int) (k : Int) c[k] (i : Int) 0 0 0) (fun _ _ _ _ => rfl) (fun i => i ≤ fv c f k) (fun _ => _) (fun i => fv c f k - i) (fun i hi ihi => ?_) 0 (Nat.zero_le _)
        have hi : i ≤ fv c f k := hi
        have hil : i < (c[k]).length := by omega
        simp only [spec_l09Restrict.l0_succ _ mk_ok]
        refine ev_bind (idx_lt (xs := c) hf) (ev_bind (idx_lt hil) (ev_call (l00Has_ret c[f] c[k][i] hlf) ?_))
        by_cases he : i = fv c f k
        · subst he
          have hno : ¬ c[k][fv c f k] ∈ c[f] := by
            have := f4 (by rw [gk]; exact f1)
            simpa only [gk, gf] using this
          exact ev_f (pb_false hno) (ev_call (l05Faces_ret c k hk hc) (ev_bind ix (ev_call r2 (ev_call (l09Get_ret (c, p, st, ms, ()) k (fv c f k) hk f2 h) (ev_call (l03Times_ret _ _ hB.1 v1 hsh) ev_rfl)))))
        · have hin : c[k][i] ∈ c[f] := by
            have := f3 i (by omega) (by rw [gk]; exact hil)
            simpa only [gk, gf] using this
          refine ev_t (pb_true hin) ?_
          have h4k := h.1.len4 hk
          rw [gk] at h4k
          rw [w64_succ (by omega)]
          exact ihi (i + 1) (by show i + 1 ≤ _; omega) (by show fv c f k - (i + 1) < fv c f k - i; omega)

end VeT

open Go Go.Proofs Ve
set_option linter.unusedVariables false
set_option linter.unusedSimpArgs false
namespace VeT

def InC (c : List Sim) (k : Int) : Prop := 0 ≤ k ∧ k ≤ (c.length : Int) - 1

open Classical in
noncomputable def RV (x : Shf) (f k : Int) : Int × Int × Int × List Int × Int × Unit :=
  if VS x.1 x.2.1 x.2.2.1 x.2.2.2.1 then (if InC x.1 f ∧ InC x.1 k then (if Part (x.1.getD f.toNat []) (x.1.getD k.toNat []) then
    ((restV x.1 x.2.1 x.2.2.1 x.2.2.2.1 f.toNat (x.1.getD k.toNat []).length k.toNat).1, (restV x.1 x.2.1 x.2.2.1 x.2.2.2.1 f.toNat (x.1.getD k.toNat []).length k.toNat).2.1, (restV x.1 x.2.1 x.2.2.1 x.2.2.2.1 f.toNat (x.1.getD k.toNat []).length k.toNat).2.2.1, (restV x.1 x.2.1 x.2.2.1 x.2.2.2.1 f.toNat (x.1.getD k.toNat []).length k.toNat).2.2.2.1, 0, ())
    else (0, 0, 0, [], 3, ())) else (0, 0, 0, [], 2, ())) else (0, 0, 0, [], 1, ())

theorem implRestrictionOf_ret (x : Shf) (f k : Int) (hx : Sm (.st cS) x) : Ret E n_impl_RestrictionOf [dLL x.1, dI x.2.1, dL x.2.2.1, dMs x.2.2.2.1, dI f, dI k] ⟨o_impl_RestrictionOf, RV x f k⟩ := by
  have hc : Sm (.sl (.sl (.int .i64))) x.1 := hx.1
  have hc1 : x.1.length ≤ 1048576 := hc.1
  refine ret_of ?_
  simp only [run_impl_RestrictionOf, impl_RestrictionOf.ev]
  refine ev_call (implValid_ret x hx) (ev_b (fun h => ev_some ?_) fun h => ?_)
  · rw [RV, if_neg (pb_not.1 (show pb (VS x.1 x.2.1 x.2.2.1 x.2.2.2.1) = false by simpa using h))]
  have h := pb_iff.1 (show pb (VS x.1 x.2.1 x.2.2.1 x.2.2.2.1) = true by simpa using h)
  rw [RV, if_pos h]
  have no : ¬ (InC x.1 f ∧ InC x.1 k) → Ev fun φ => impl_RestrictionOf.j0 (mkR (run E (φ 0))) (φ 0) f k true x.1 x.2.1 x.2.2.1 x.2.2.2.1 0 0 0 = some ⟨o_impl_RestrictionOf, (0, 0, 0, [], 2, ())⟩ := fun hn => by
    simp only [impl_RestrictionOf.j0_eq _ mk_ok, cond_true]; (first | exact ev_rfl | exact Ev.of fun _ => trivial)
  refine ev_call (isPlace_ret x.1 x.2.1 x.2.2.1 x.2.2.2.1 f hc1) (ev_b (fun hf => ?_) fun hf => ev_call (isPlace_ret x.1 x.2.1 x.2.2.1 x.2.2.2.1 k hc1) ?_)
  · have hf : ¬ InC x.1 f := pb_not.1 (show pb (0 ≤ f ∧ f ≤ (x.1.length : Int) - 1) = false by simpa using hf)
    rw [if_neg fun hh => hf hh.1]
    exact no fun hh => hf hh.1
  have hf : InC x.1 f := pb_iff.1 (show pb (0 ≤ f ∧ f ≤ (x.1.length : Int) - 1) = true by simpa using hf)
  by_cases hk : InC x.1 k
  · have e : pb (0 ≤ k ∧ k ≤ (x.1.length : Int) - 1) = true := pb_true hk
    rw [if_pos ⟨hf, hk⟩]
    simp only [e, Bool.not_true, impl_RestrictionOf.j0_eq _ mk_ok, cond_false]
    obtain ⟨F, rfl⟩ := Int.eq_ofNat_of_zero_le hf.1
    obtain ⟨K, rfl⟩ := Int.eq_ofNat_of_zero_le hk.1
    have hF : F < x.1.length := by have := hf.2; omega
    have hK : K < x.1.length := by have := hk.2; omega
    simp only [Int.toNat_natCast]
    refine ev_bind (idx_lt hF) (ev_bind (idx_lt hK) (ev_call (isFace_ret _ _ (sm_get hc hF).1 (sm_get hc hK).1) (ev_b (fun hp => ev_some ?_) fun hp => ?_)))
    · have hp := pb_not.1 (show pb (Part x.1[F] x.1[K]) = false by simpa using hp)
      have hp' : ¬ Part (x.1.getD F []) (x.1.getD K []) := by rw [getD_lt hF, getD_lt hK]; exact hp
      rw [if_neg hp']
    · have hp := pb_iff.1 (show pb (Part x.1[F] x.1[K]) = true by simpa using hp)
      have hp' : Part (x.1.getD F []) (x.1.getD K []) := by rw [getD_lt hF, getD_lt hK]; exact hp
      rw [if_pos hp']
      exact ev_call (rest_ret x.1 x.2.1 x.2.2.1 x.2.2.2.1 hc h F hF _ K hK (Nat.le_refl _) hp').2.1 ev_rfl
  · have e : pb (0 ≤ k ∧ k ≤ (x.1.length : Int) - 1) = false := pb_false hk
    rw [if_neg fun hh => hk hh.2]
    simp only [e, Bool.not_false]
    exact no fun hh => hk hh.2

theorem specRestrictionOf_ret (x : Shf) (f k : Int) (hx : Sm (.st cS) x) : Ret E n_spec_RestrictionOf [dLL x.1, dI x.2.1, dL x.2.2.1, dMs x.2.2.2.1, dI f, dI k] ⟨o_spec_RestrictionOf, RV x f k⟩ := by
  have hc : Sm (.sl (.sl (.int .i64))) x.1 := hx.1
  have hc1 : x.1.length ≤ 1048576 := hc.1
  refine ret_of ?_
  simp only [run_spec_RestrictionOf, spec_RestrictionOf.ev]
  refine ev_call (l09Ok_ret x hx) (ev_b (fun h => ev_some ?_) fun h => ?_)
  · rw [RV, if_neg (pb_not.1 (show pb (VS x.1 x.2.1 x.2.2.1 x.2.2.2.1) = false by simpa using h))]
  have h := pb_iff.1 (show pb (VS x.1 x.2.1 x.2.2.1 x.2.2.2.1) = true by simpa using h)
  rw [RV, if_pos h]
  have no : ¬ (InC x.1 f ∧ InC x.1 k) → Ev fun φ => spec_RestrictionOf.j0 (mkR (run E (φ 0))) (φ 0) f k true x.1 x.2.1 x.2.2.1 x.2.2.2.1 0 0 0 = some ⟨o_spec_RestrictionOf, (0, 0, 0, [], 2, ())⟩ := fun hn => by
    simp only [spec_RestrictionOf.j0_eq _ mk_ok, cond_true]; (first | exact ev_rfl | exact Ev.of fun _ => trivial)
  refine ev_call (l09Index_ret x f hc1) (ev_b (fun hf => ?_) fun hf => ev_call (l09Index_ret x k hc1) ?_)
  · have hf : ¬ InC x.1 f := pb_not.1 (show pb (0 ≤ f ∧ f ≤ (x.1.length : Int) - 1) = false by simpa using hf)
    rw [if_neg fun hh => hf hh.1]
    exact no fun hh => hf hh.1
  have hf : InC x.1 f := pb_iff.1 (show pb (0 ≤ f ∧ f ≤ (x.1.length : Int) - 1) = true by simpa using hf)
  by_cases hk : InC x.1 k
  · have e : pb (0 ≤ k ∧ k ≤ (x.1.length : Int) - 1) = true := pb_true hk
    rw [if_pos ⟨hf, hk⟩]
    simp only [e, Bool.not_true, spec_RestrictionOf.j0_eq _ mk_ok, cond_false]
    obtain ⟨F, rfl⟩ := Int.eq_ofNat_of_zero_le hf.1
    obtain ⟨K, rfl⟩ := Int.eq_ofNat_of_zero_le hk.1
    have hF : F < x.1.length := by have := hf.2; omega
    have hK : K < x.1.length := by have := hk.2; omega
    simp only [Int.toNat_natCast]
    refine ev_bind (idx_lt hF) (ev_bind (idx_lt hK) (ev_call (l05Part_ret _ _ (sm_get hc hF).1 (sm_get hc hK).1) (ev_b (fun hp => ev_some ?_) fun hp => ?_)))
    · have hp := pb_not.1 (show pb (Part x.1[F] x.1[K]) = false by simpa using hp)
      have hp' : ¬ Part (x.1.getD F []) (x.1.getD K []) := by rw [getD_lt hF, getD_lt hK]; exact hp
      rw [if_neg hp']
    · have hp := pb_iff.1 (show pb (Part x.1[F] x.1[K]) = true by simpa using hp)
      have hp' : Part (x.1.getD F []) (x.1.getD K []) := by rw [getD_lt hF, getD_lt hK]; exact hp
      rw [if_pos hp']
      exact ev_call (rest_ret x.1 x.2.1 x.2.2.1 x.2.2.2.1 hc h F hF _ K hK (Nat.le_refl _) hp').2.2 ev_rfl
  · have e : pb (0 ≤ k ∧ k ≤ (x.1.length : Int) - 1) = false := pb_false hk
    rw [if_neg fun hh => hk hh.2]
    simp only [e, Bool.not_false]
    exact no fun hh => hk hh.2

theorem RV_len (x : Shf) (f k : Int) (hc : Sm (.sl (.sl (.int .i64))) x.1) : (RV x f k).2.2.2.1.length ≤ 1048576 := by
  unfold RV
  split
  · rename_i h
    split
    · rename_i hi
      split
      · rename_i hp
        obtain ⟨⟨f0, f1⟩, ⟨k0, k1⟩⟩ := hi
        have hV := (rest_ret x.1 x.2.1 x.2.2.1 x.2.2.2.1 hc h f.toNat (by omega) _ k.toNat (by omega) (Nat.le_refl _) hp).1.1
        have h4 := hV.2.2.2.1
        have := mul_side hV.2.1 hV.2.2.1
        show (restV x.1 x.2.1 x.2.2.1 x.2.2.2.1 f.toNat (x.1.getD k.toNat []).length k.toNat).2.2.2.1.length ≤ 1048576
        omega
      · simp
    · simp
  · simp

theorem law_RestrictionOf (x : Shf) (f k : Int) (hx : Wf (.st cS) x) : Ret E n_laws_FnExactRestrictionOf [dLL x.1, dI x.2.1, dL x.2.2.1, dMs x.2.2.2.1, dI f, dI k] ⟨.cons .bool .nil, (true, ())⟩ := by
  obtain ⟨r1, h1, s1⟩ := szSheaf_ret x 1048576 hx (by omega) (by omega)
  refine ret_of ?_
  simp only [run_laws_FnExactRestrictionOf, laws_FnExactRestrictionOf.ev]
  refine ev_call h1 (ev_d (fun _ => ev_rfl) fun hr => ?_)
  obtain ⟨b1, m1⟩ := s1 (Int.not_lt.1 hr)
  obtain ⟨q1, hq1, eq1⟩ := eqSheaf_ret x x m1
  obtain rfl : q1 = true := eq1.2 rfl
  have to := toSheaf_ret x m1
  have hi := implRestrictionOf_ret x f k m1
  have hs := specRestrictionOf_ret x f k m1
  have hlen := RV_len x f k m1.1
  generalize RV x f k = V at hi hs hlen
  obtain ⟨v1, v2, v3, v4, v5, ⟨⟩⟩ := V
  obtain ⟨q2, hq2, eq2⟩ := eqMatrix_ret (v1, v2, v3, v4, ()) (v1, v2, v3, v4, ()) ⟨trivial, trivial, trivial, ⟨hlen, fun _ _ => trivial⟩, trivial⟩
  obtain rfl : q2 = true := eq2.2 rfl
  obtain ⟨a, b, c, hm, hm1⟩ := markSheaf_ret x m1
  have hmm := markMatrix_ret (v1, v2, v3, v4, ()) 1 (by omega) hlen
  have held := heldMatrix_ret v1 v2 v3 1 v4.length (by omega) hlen
  refine ev_call to (ev_call hs (ev_call to (ev_call hi (ev_call hq2 (ev_f rfl ?_)))))
  simp only [bne_self_eq_false, laws_FnExactRestrictionOf.j0_eq _ mk_ok, cond_false]
  refine ev_call to (ev_call hq1 (ev_f rfl (ev_call hm (ev_f (decide_eq_false (Int.not_lt.2 (by show 0 ≤ mkSN x 1; omega))) (ev_call hq2 (ev_f rfl ?_))))))
  simp only [laws_FnExactRestrictionOf.j1_eq _ mk_ok, cond_false]
  refine ev_call hmm (ev_call held (ev_f (decide_eq_false (Int.not_lt.2 (by show (0 : Int) ≤ 1 + (v4.length : Int); omega))) (ev_f (by simp) (ev_call to (ev_call hi (ev_call hq2 (ev_f rfl ?_)))))))
  simp only [bne_self_eq_false, laws_FnExactRestrictionOf.j2_eq _ mk_ok, cond_false]
  exact ev_call held (ev_f (decide_eq_false (Int.not_lt.2 (by show (0 : Int) ≤ 1 + (v4.length : Int); omega))) (ev_f (by simp) ev_rfl))

theorem rowRestrictionOf (z : (Ty.cons (.sl (.sl (.int .i64))) (.cons (.int .i64) (.cons (.sl (.int .i64)) (.cons (.sl (.st cM)) (.cons (.int .i64) (.cons (.int .i64) .nil)))))).T)
    (h : Wf (.cons (.sl (.sl (.int .i64))) (.cons (.int .i64) (.cons (.sl (.int .i64)) (.cons (.sl (.st cM)) (.cons (.int .i64) (.cons (.int .i64) .nil)))))) z) :
    Evt fun n => run E n n_laws_FnExactRestrictionOf (unpack _ z) = some ⟨.cons .bool .nil, (true, ())⟩ :=
  law_RestrictionOf (z.1, z.2.1, z.2.2.1, z.2.2.2.1, ()) z.2.2.2.2.1 z.2.2.2.2.2.1 ⟨h.1, h.2.1, h.2.2.1, h.2.2.2.1, trivial⟩

end VeT
