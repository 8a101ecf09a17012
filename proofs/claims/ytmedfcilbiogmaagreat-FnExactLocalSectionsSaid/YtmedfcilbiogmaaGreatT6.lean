import Derived.Test.YtmedfcilbiogmaaGreatT5
import Derived.Test.YtmedfcilbiogmaaGreatV2
set_option linter.unusedVariables false
set_option linter.unusedSimpArgs false
open Go Go.Proofs Ve
set_option linter.unusedVariables false
set_option linter.unusedSimpArgs false
namespace VeT

/-! where columns begin -/
theorem st_nn {st : Sim} (hst : ∀ x ∈ st, 0 ≤ x ∧ x ≤ 3) (k : Nat) : 0 ≤ st.getD k 0 ∧ st.getD k 0 ≤ 3 := by
  by_cases hl : k < st.length
  · rw [getD_lt hl]; exact hst _ (List.getElem_mem hl)
  · rw [List.getD_eq_getElem?_getD, List.getElem?_eq_none (by omega)]; simp

/-! stores -/
abbrev St := List (Nat × Int)
def upds (S : St) (cs : Sim) : Sim := S.foldl (fun cs q => cs.set q.1 q.2) cs

theorem upds_append {S T : St} {cs : Sim} : upds (S ++ T) cs = upds T (upds S cs) := by simp [upds]
theorem upds_one {q : Nat} {v : Int} {cs : Sim} : upds [(q, v)] cs = cs.set q v := rfl
theorem upds_length {S : St} : ∀ {cs : Sim}, (upds S cs).length = cs.length := by
  induction S with
  | nil => intro cs; rfl
  | cons q S ih => intro cs; show (upds S (cs.set q.1 q.2)).length = _; rw [ih, List.length_set]

theorem upds_elems {p : Int} {S : St} : ∀ {cs : Sim}, Elems cs p → (∀ q ∈ S, 0 ≤ q.2 ∧ q.2 ≤ p - 1) → Elems (upds S cs) p := by
  induction S with
  | nil => intro cs h _; exact h
  | cons q S ih =>
    intro cs h hS
    refine ih (cs := cs.set q.1 q.2) (fun x hx => ?_) fun y hy => hS y (List.mem_cons_of_mem _ hy)
    rcases List.mem_or_eq_of_mem_set hx with hx | rfl
    · exact h x hx
    · exact hS q List.mem_cons_self

theorem upds_miss {S : St} {q : Nat} : ∀ {cs : Sim}, (∀ x ∈ S, x.1 ≠ q) → (upds S cs).getD q 0 = cs.getD q 0 := by
  induction S with
  | nil => intro cs _; rfl
  | cons y S ih =>
    intro cs h
    have e := ih (cs := cs.set y.1 y.2) fun x hx => h x (List.mem_cons_of_mem _ hx)
    show (upds S (cs.set y.1 y.2)).getD q 0 = _
    rw [e, List.getD_eq_getElem?_getD, List.getD_eq_getElem?_getD, List.getElem?_set_ne (h y List.mem_cons_self)]

theorem upds_hit {S : St} {q : Nat} {v : Int} : ∀ {cs : Sim}, q < cs.length → (∀ x ∈ S, x.1 = q → x.2 = v) → (∃ x ∈ S, x.1 = q) → (upds S cs).getD q 0 = v := by
  induction S with
  | nil => intro cs _ _ ⟨x, hx, _⟩; simp at hx
  | cons y S ih =>
    intro cs hq hall ⟨x, hx, e⟩
    show (upds S (cs.set y.1 y.2)).getD q 0 = _
    by_cases hS : ∃ x ∈ S, x.1 = q
    · exact ih (by rw [List.length_set]; exact hq) (fun x hx => hall x (List.mem_cons_of_mem _ hx)) hS
    · rw [upds_miss fun x hx e => hS ⟨x, hx, e⟩]
      rcases List.mem_cons.1 hx with rfl | hx
      · subst e
        rw [List.getD_eq_getElem?_getD, List.getElem?_set_self hq]
        exact hall x List.mem_cons_self rfl
      · exact absurd ⟨x, hx, e⟩ hS

theorem rep_elems {n : Nat} {p : Int} (hp : 2 ≤ p) : Elems (List.replicate n 0) p := fun x hx => by
  rw [List.mem_replicate] at hx; omega

end VeT

open Go Go.Proofs Ve
set_option linter.unusedVariables false
set_option linter.unusedSimpArgs false
namespace VeT

theorem Index_ret (s : Sim) (v : Int) (hs : s.length ≤ 1048576) : Ret E n_slices_Index_Sint64_int64 [dL s, dI v] ⟨o_slices_Index_Sint64_int64, (idxf (fun x => pb (x = v)) s, ())⟩ := by
  obtain ⟨o, h1, h2, h3⟩ := find_loop 1 (L := fun φ n k => slices_Index_Sint64_int64.l0 (mkR (run E (φ 0))) (φ 0) n s v (s.length : Int) k) (len := s.length) (fun k => ∃ h : k < s.length, pb (s[k] = v) = true) (fun o => some ⟨o_slices_Index_Sint64_int64, (o2i o, ())⟩) (fun _ _ _ _ => rfl) (fun k hk hP => by
      obtain ⟨_, hP⟩ := hP
      have hP := pb_iff.1 hP
      simp only [slices_Index_Sint64_int64.l0_succ _ mk_ok]
      exact ev_t (decide_eq_true (by omega)) (ev_bind (idx_lt hk) (ev_t (by simp [hP]) ev_rfl))) (fun k q hk hP ih => by
      simp only [slices_Index_Sint64_int64.l0_succ _ mk_ok]
      refine ev_t (decide_eq_true (by omega)) (ev_bind (idx_lt hk) (ev_f (by simp only [beq_eq_false_iff_ne]; exact fun e => hP ⟨hk, pb_true e.symm⟩) ?_))
      rw [w64_succ (by omega)]; exact ih) (by
      simp only [slices_Index_Sint64_int64.l0_succ _ mk_ok]
      exact ev_f (decide_eq_false (by omega)) ev_rfl)
  rw [idxf_of (p := fun x => pb (x = v)) h1 h2] at h3
  refine ret_of ?_
  simp only [run_slices_Index_Sint64_int64, slices_Index_Sint64_int64.ev]
  exact Ev.start (p := fun φ n => slices_Index_Sint64_int64.l0 (mkR (run E (φ 0))) (φ 0) n s v (s.length : Int) 0 = _) 1 h3 (fun _ _ _ h => h)

theorem Contains_ret (s : Sim) (v : Int) (hs : s.length ≤ 1048576) : Ret E n_slices_Contains_Sint64_int64 [dL s, dI v] ⟨o_slices_Contains_Sint64_int64, (pb (v ∈ s), ())⟩ := by
  refine ret_of ?_
  simp only [run_slices_Contains_Sint64_int64, slices_Contains_Sint64_int64.ev]
  refine ev_call (Index_ret s v hs) (ev_some ?_)
  have : decide (idxf (fun x => pb (x = v)) s ≥ 0) = pb (v ∈ s) := eq_pb (by
    rw [decide_eq_true_iff, ge_iff_le, idxf_nonneg]
    exact ⟨fun ⟨x, h, e⟩ => pb_iff.1 e ▸ h, fun h => ⟨v, h, pb_true rfl⟩⟩)
  simp only [this]

theorem l00Has_ret (s : Sim) (v : Int) (hs : s.length ≤ 1048576) : Ret E n_spec_l00Has [dL s, dI v] ⟨o_spec_l00Has, (pb (v ∈ s), ())⟩ := by
  obtain ⟨o, h1, h2, h3⟩ := find_loop 1 (L := fun φ n k => spec_l00Has.l0 (mkR (run E (φ 0))) (φ 0) n s v k) (len := s.length) (fun k => ∃ h : k < s.length, s[k] = v) (fun o => some ⟨o_spec_l00Has, (o.isSome, ())⟩) (fun _ _ _ _ => rfl) (fun k hk hP => by
      obtain ⟨_, hP⟩ := hP
      simp only [spec_l00Has.l0_succ _ mk_ok]
      exact ev_t (decide_eq_true (by omega)) (ev_bind (idx_lt hk) (ev_t (by simp [hP]) ev_rfl))) (fun k q hk hP ih => by
      simp only [spec_l00Has.l0_succ _ mk_ok]
      refine ev_t (decide_eq_true (by omega)) (ev_bind (idx_lt hk) (ev_f (by simp only [beq_eq_false_iff_ne]; exact fun e => hP ⟨hk, e⟩) ?_))
      rw [w64_succ (by omega)]; exact ih) (by
      simp only [spec_l00Has.l0_succ _ mk_ok]
      exact ev_f (decide_eq_false (by omega)) ev_rfl)
  have : o.isSome = pb (v ∈ s) := eq_pb (by
    cases o with
    | none =>
      simp only [Option.isSome_none, Bool.false_eq_true, false_iff]
      intro hm
      obtain ⟨j, hj, e⟩ := List.mem_iff_getElem.1 hm
      exact h2 rfl j hj ⟨hj, e⟩
    | some k =>
      obtain ⟨_, ⟨hk, e⟩, _⟩ := h1 k rfl
      simp only [Option.isSome_some, true_iff]
      exact e ▸ List.getElem_mem hk)
  rw [this] at h3
  refine ret_of ?_
  simp only [run_spec_l00Has, spec_l00Has.ev]
  exact Ev.start (p := fun φ n => spec_l00Has.l0 (mkR (run E (φ 0))) (φ 0) n s v 0 = _) 1 h3 (fun _ _ _ h => h)

/-- a part of a simplex -/
def Part (a b : Sim) : Prop := ∀ x ∈ a, x ∈ b

theorem isFace_1_ret (x : Int) (b : Sim) (hb : b.length ≤ 1048576) : Ret E n_impl_isFace_1 [dI x, ⟨.ptr (.cons (.sl (.int .i64)) .nil), (b, ())⟩] ⟨o_impl_isFace_1, (!pb (x ∈ b), ())⟩ := by
  refine ret_of ?_
  simp only [run_impl_isFace_1, impl_isFace_1.ev]
  exact ev_call (Contains_ret b x hb) ev_rfl

theorem isFace_ret (a b : Sim) (ha : a.length ≤ 1048576) (hb : b.length ≤ 1048576) : Ret E n_impl_isFace [dL a, dL b] ⟨o_impl_isFace, (pb (Part a b), ())⟩ := by
  refine ret_of ?_
  simp only [run_impl_isFace, impl_isFace.ev]
  refine ev_call (ContainsFunc_Sint64_int64_impl_isFace_1_ret a ((b, ()), ()) _ ha fun x _ => isFace_1_ret x b hb) (ev_some ?_)
  simp only [none_bad]; rfl

theorem l05Part_ret (a b : Sim) (ha : a.length ≤ 1048576) (hb : b.length ≤ 1048576) : Ret E n_spec_l05Part [dL a, dL b] ⟨o_spec_l05Part, (pb (Part a b), ())⟩ := by
  refine ret_of ?_
  simp only [run_spec_l05Part, spec_l05Part.ev]
  refine Ev.start (p := fun φ n => spec_l05Part.l0 (mkR (run E (φ 0))) (φ 0) n a b 0 = _) 1 ?_ (fun _ _ _ h => h)
  refine (all_pb 1 (L := fun φ n k => spec_l05Part.l0 (mkR (run E (φ 0))) (φ 0) n a b k) (len := a.length) 0 (by omega) (fun j => a.getD j 0 ∈ b) (fun b => some ⟨o_spec_l05Part, (b, ())⟩) (fun _ _ _ _ => rfl) (fun k h1 h2 hP _ => ?_) (fun k r h1 h2 hP _ ih => ?_) (fun _ => ?_)).to ?_
  · simp only [spec_l05Part.l0_succ _ mk_ok]
    rw [getD_lt h2] at hP
    exact ev_t (decide_eq_true (by omega)) (ev_bind (idx_lt h2) (ev_call (l00Has_ret b _ hb) (ev_t (by rw [pb_false hP]; rfl) ev_rfl)))
  · simp only [spec_l05Part.l0_succ _ mk_ok]
    rw [getD_lt h2] at hP
    refine ev_t (decide_eq_true (by omega)) (ev_bind (idx_lt h2) (ev_call (l00Has_ret b _ hb) (ev_f (by rw [pb_true hP]; rfl) ?_)))
    rw [w64_succ (by omega)]; exact ih
  · simp only [spec_l05Part.l0_succ _ mk_ok]
    exact ev_f (decide_eq_false (by omega)) ev_rfl
  · refine congrArg (fun b : Bool => some (⟨o_spec_l05Part, (b, ())⟩ : Dv)) (pb_congr ⟨fun h x hx => ?_, fun h j _ hj => by rw [getD_lt hj]; exact h _ (List.getElem_mem hj)⟩)
    obtain ⟨j, hj, rfl⟩ := List.mem_iff_getElem.1 hx
    have := h j (by omega) hj
    rwa [getD_lt hj] at this

end VeT

open Go Go.Proofs Ve
set_option linter.unusedVariables false
set_option linter.unusedSimpArgs false
namespace VeT

end VeT

open Go Go.Proofs Ve
set_option linter.unusedVariables false
set_option linter.unusedSimpArgs false
namespace VeT

theorem val_eq {x y p : Int} (hx : 0 ≤ x ∧ x ≤ 250) (hy : 0 ≤ y ∧ y ≤ 250) (hp : 2 ≤ p ∧ p ≤ 251) : Int.tmod (w64 (x * y)) p = x * y % p := by
  have := mul_in hx hy
  rw [w64_small (by omega) (by omega), Int.tmod_eq_emod_of_nonneg (by omega)]

end VeT

open Go Go.Proofs Ve
set_option linter.unusedVariables false
set_option linter.unusedSimpArgs false
namespace VeT

end VeT

open Go Go.Proofs Ve
set_option linter.unusedVariables false
set_option linter.unusedSimpArgs false
namespace VeT

/-! powers -/
theorem mul_congr {p x x' y y' : Int} (h1 : x % p = x' % p) (h2 : y % p = y' % p) : x * y % p = x' * y' % p := by
  rw [Int.mul_emod x, h1, h2, ← Int.mul_emod]

theorem pow_congr {p x x' : Int} (h : x % p = x' % p) : ∀ n : Nat, x ^ n % p = x' ^ n % p
  | 0 => by rw [Int.pow_zero, Int.pow_zero]
  | n + 1 => by rw [Int.pow_succ, Int.pow_succ]; exact mul_congr (pow_congr h n) h

/-- the inverse of a number -/
def invF (a p : Int) : Int := a ^ (p - 2).toNat % p

theorem invF_in {a p : Int} (hp : 2 ≤ p) : 0 ≤ invF a p ∧ invF a p ≤ p - 1 := by
  have h0 := Int.emod_nonneg (a ^ (p - 2).toNat) (show p ≠ 0 by omega)
  have h1 := Int.emod_lt_of_pos (a ^ (p - 2).toNat) (show 0 < p by omega)
  unfold invF; omega

/-! elimination -/
abbrev Ent := Nat → Nat → Int

def elSw (top q : Nat) (A : Ent) : Ent := fun i => if i = top then A q else if i = q then A top else A i
def elN (p : Int) (c top : Nat) (B : Ent) : Nat → Int := fun j => B top j * invF (B top c) p % p
def elM (p : Int) (c top : Nat) (B : Ent) : Ent := fun i j => if i = top then elN p c top B j else B i j
def elF (p : Int) (c top : Nat) (B : Ent) : Ent := fun i j => if i = top then elN p c top B j else if B i c ≠ 0 then (B i j + (p - B i c) * elN p c top B j) % p else B i j

noncomputable def elP (p : Int) (R c : Nat) (S : Ent × List Nat) : Ent × List Nat :=
  match firstN (fun i => S.1 i c ≠ 0) S.2.length (R - S.2.length) with
  | none => S
  | some q => (elF p c S.2.length (elSw S.2.length q S.1), S.2 ++ [c])

noncomputable def elS (p : Int) (R : Nat) (A : Ent) : Nat → Ent × List Nat
  | 0 => (A, [])
  | c + 1 => elP p R c (elS p R A c)

def EIn (p : Int) (R W : Nat) (A : Ent) : Prop := ∀ i j, i < R → j < W → 0 ≤ A i j ∧ A i j ≤ p - 1

theorem EIn.sw {p : Int} {R W top q : Nat} {A : Ent} (h : EIn p R W A) (ht : top < R) (hq : q < R) : EIn p R W (elSw top q A) := fun i j hi hj => by
  unfold elSw; split
  · exact h q j hq hj
  · split
    · exact h top j ht hj
    · exact h i j hi hj

theorem emod_in {p x : Int} (hp : 2 ≤ p) : 0 ≤ x % p ∧ x % p ≤ p - 1 := by
  have h0 := Int.emod_nonneg x (show p ≠ 0 by omega)
  have h1 := Int.emod_lt_of_pos x (show 0 < p by omega)
  omega

theorem EIn.f {p : Int} {R W c top : Nat} {B : Ent} (h : EIn p R W B) (hp : 2 ≤ p) : EIn p R W (elF p c top B) := fun i j hi hj => by
  unfold elF; split
  · exact emod_in hp
  · split
    · exact emod_in hp
    · exact h i j hi hj

theorem elS_in {p : Int} {R W : Nat} {A : Ent} (hp : 2 ≤ p) (h : EIn p R W A) : ∀ c, EIn p R W (elS p R A c).1 ∧ (elS p R A c).2.length ≤ R ∧ (elS p R A c).2.length ≤ c ∧ ∀ x ∈ (elS p R A c).2, x < c
  | 0 => ⟨h, Nat.zero_le _, Nat.zero_le _, fun x hx => by simp [elS] at hx⟩
  | c + 1 => by
    obtain ⟨h1, h2, h3, h4⟩ := elS_in hp h c
    rw [elS, elP]
    cases hf : firstN (fun i => (elS p R A c).1 i c ≠ 0) (elS p R A c).2.length (R - (elS p R A c).2.length) with
    | none => exact ⟨h1, h2, by show (elS p R A c).2.length ≤ c + 1; omega, fun x hx => by have := h4 x hx; omega⟩
    | some q =>
      have hq := firstN_some hf
      refine ⟨(h1.sw (by omega) (by omega)).f hp, ?_, ?_, fun x hx => ?_⟩
      · simp only [List.length_append, List.length_singleton]; omega
      · simp only [List.length_append, List.length_singleton]; omega
      · rcases List.mem_append.1 hx with hx | hx
        · have := h4 x hx; omega
        · rw [List.mem_singleton] at hx; omega

/-! rows -/
def rowsE (A : Ent) (R W : Nat) : List Sim := (List.range R).map fun i => (List.range W).map (A i)

theorem rowsE_length {A : Ent} {R W : Nat} : (rowsE A R W).length = R := by simp [rowsE]

theorem rowsE_get {A : Ent} {R W i : Nat} (hi : i < R) : (rowsE A R W)[i]? = some ((List.range W).map (A i)) := by
  unfold rowsE; rw [List.getElem?_map, List.getElem?_range hi]; rfl

theorem rowsE_congr {A B : Ent} {R W : Nat} (h : ∀ i j, i < R → j < W → A i j = B i j) : rowsE A R W = rowsE B R W :=
  List.map_congr_left fun i hi => List.map_congr_left fun j hj => h i j (List.mem_range.1 hi) (List.mem_range.1 hj)

theorem rowsE_set {A : Ent} {R W i : Nat} {f : Nat → Int} : (rowsE A R W).set i ((List.range W).map f) = rowsE (fun k j => if k = i then f j else A k j) R W := by
  apply List.ext_getElem?
  intro k
  by_cases hk : k < R
  · rw [rowsE_get hk]
    by_cases hik : k = i
    · subst hik
      rw [List.getElem?_set_self (by rw [rowsE_length]; exact hk)]
      simp
    · rw [List.getElem?_set_ne (Ne.symm hik), rowsE_get hk]
      simp [hik]
  · rw [List.getElem?_eq_none (by rw [List.length_set, rowsE_length]; omega), List.getElem?_eq_none (by rw [rowsE_length]; omega)]

theorem row_get {f : Nat → Int} {W j : Nat} (hj : j < W) : ((List.range W).map f)[j]? = some (f j) := by
  rw [List.getElem?_map, List.getElem?_range hj]; rfl

theorem flatF_set {A : Ent} {R W i j : Nat} {v : Int} (hi : i < R) (hj : j < W) : (flatF A W R).set (i * W + j) v = flatF (fun k l => if k = i ∧ l = j then v else A k l) W R := by
  apply List.ext_getElem?
  intro n
  by_cases hn : n < R * W
  · have hW : 0 < W := by omega
    have e : n = n / W * W + n % W := by have := Nat.div_add_mod n W; rw [Nat.mul_comm] at this; omega
    have h1 : n / W < R := Nat.div_lt_of_lt_mul (by rw [Nat.mul_comm]; exact hn)
    have h2 : n % W < W := Nat.mod_lt _ hW
    generalize n / W = a at e h1
    generalize n % W = b at e h2
    subst e
    rw [flatF_getD h1 h2]
    by_cases hab : a = i ∧ b = j
    · obtain ⟨rfl, rfl⟩ := hab
      rw [List.getElem?_set_self (by rw [flatF_length]; exact hn)]
      simp
    · rw [List.getElem?_set_ne, flatF_getD h1 h2, if_neg hab]
      intro e
      have hbW : b < W := h2
      have : a = i ∧ b = j := by
        have h3 : (i * W + j) / W = i := by rw [Nat.mul_comm, Nat.mul_add_div (by omega), Nat.div_eq_of_lt hj, Nat.add_zero]
        have h4 : (a * W + b) / W = a := by rw [Nat.mul_comm, Nat.mul_add_div (by omega), Nat.div_eq_of_lt hbW, Nat.add_zero]
        have : a = i := by rw [← h3, ← h4, e]
        subst this
        exact ⟨rfl, by omega⟩
      exact hab this
  · rw [List.getElem?_eq_none (by rw [List.length_set, flatF_length]; omega), List.getElem?_eq_none (by rw [flatF_length]; omega)]

/-- a matrix' entries -/
def entM (cells : Sim) (W : Nat) : Ent := fun i j => cells.getD (i * W + j) 0

theorem entM_flat {cells : Sim} {R W : Nat} (h : cells.length = R * W) : flatF (entM cells W) W R = cells := by
  refine List.ext_getElem (by rw [flatF_length, h]) fun n h1 h2 => ?_
  rw [flatF_length] at h1
  have hW : 0 < W := by
    cases W with
    | zero => simp at h1
    | succ W => omega
  have e : n = n / W * W + n % W := by have := Nat.div_add_mod n W; rw [Nat.mul_comm] at this; omega
  have h3 : n / W < R := Nat.div_lt_of_lt_mul (by rw [Nat.mul_comm]; exact h1)
  have h4 : n % W < W := Nat.mod_lt _ hW
  have hg := flatF_getD (f := entM cells W) h3 h4
  rw [← e, List.getElem?_eq_getElem (by rw [flatF_length]; exact h1)] at hg
  rw [Option.some.inj hg]
  unfold entM
  rw [← e, getD_lt h2]

theorem entM_in {p : Int} {cells : Sim} {R W : Nat} (h : Elems cells p) (hl : cells.length = R * W) : EIn p R W (entM cells W) := fun i j hi hj => by
  unfold entM
  have := lt_rc hi hj
  rw [getD_lt (by omega)]
  exact h _ (List.getElem_mem _)

end VeT

open Go Go.Proofs Ve
set_option linter.unusedVariables false
set_option linter.unusedSimpArgs false
namespace VeT

/-! marks: what the laws write over arguments and results -/
def mkL (k : Int) (n : Nat) : Sim := (List.range n).map fun (i : Nat) => k + (i : Int)

theorem mkL_length {k : Int} {n : Nat} : (mkL k n).length = n := by simp [mkL]

theorem mkL_get {k : Int} {n i : Nat} (h : i < (mkL k n).length) : (mkL k n)[i] = k + i := by simp [mkL]

theorem markInt64S_ret (s : Sim) (k : Int) (hk : 0 ≤ k ∧ k ≤ 4611686018427387904) (hs : s.length ≤ 1048576) : Ret E n_laws_markInt64S [dL s, dI k] ⟨o_laws_markInt64S, (k + s.length, mkL k s.length, ())⟩ := by
  refine ret_of ?_
  simp only [run_laws_markInt64S, laws_markInt64S.ev]
  refine Ev.start (p := fun φ n => laws_markInt64S.l0 (mkR (run E (φ 0))) (φ 0) n k 0 s = _) 1 ?_ (fun _ _ _ h => h)
  have hl : ∀ j, j ≤ s.length → (mkL k j ++ s.drop j).length = s.length := fun j hj => by rw [List.length_append, mkL_length, List.length_drop]; omega
  have := fold_loop 1 (L := fun φ n j (a : Int × Sim) => laws_markInt64S.l0 (mkR (run E (φ 0))) (φ 0) n a.1 j a.2) (len := s.length) (fun j => (k + (j : Int), mkL k j ++ s.drop j)) (r := some ⟨o_laws_markInt64S, (k + s.length, mkL k s.length, ())⟩) (fun _ _ _ _ _ => rfl) (fun j r hj ih => ?_) ?_
  · simpa [mkL] using this
  · simp only [laws_markInt64S.l0_succ _ mk_ok, hl j (by omega)]
    refine ev_t (decide_eq_true (by omega)) (ev_chk (by simp; omega) ?_)
    rw [w64_succ (by omega), w64_small (by omega) (by omega), Int.toNat_natCast]
    have e : (mkL k j ++ s.drop j).set j (k + j) = mkL k (j + 1) ++ s.drop (j + 1) := by
      rw [List.drop_eq_getElem_cons hj, List.set_append_right _ _ (by rw [mkL_length]; omega), mkL_length, Nat.sub_self, List.set_cons_zero]
      unfold mkL
      rw [List.range_succ, List.map_append, List.append_assoc]; rfl
    rw [e, show k + (j : Int) + 1 = k + ((j + 1 : Nat) : Int) by omega]
    exact ih
  · simp only [laws_markInt64S.l0_succ _ mk_ok, hl s.length (Nat.le_refl _)]
    refine ev_f (decide_eq_false (by omega)) (ev_some ?_)
    simp

theorem heldInt64S_ret (k : Int) (n : Nat) (hk : 0 ≤ k ∧ k ≤ 4611686018427387904) (hn : n ≤ 1048576) : Ret E n_laws_heldInt64S [dL (mkL k n), dI k] ⟨o_laws_heldInt64S, (k + n, ())⟩ := by
  refine ret_of ?_
  simp only [run_laws_heldInt64S, laws_heldInt64S.ev]
  refine Ev.start (p := fun φ m => laws_heldInt64S.l0 (mkR (run E (φ 0))) (φ 0) m (mkL k n) k 0 = _) 1 ?_ (fun _ _ _ h => h)
  have := fold_loop 1 (L := fun φ m j a => laws_heldInt64S.l0 (mkR (run E (φ 0))) (φ 0) m (mkL k n) a j) (len := n) (fun j => k + (j : Int)) (r := some ⟨o_laws_heldInt64S, (k + n, ())⟩) (fun _ _ _ _ _ => rfl) (fun j r hj ih => ?_) ?_
  · simpa using this
  · simp only [laws_heldInt64S.l0_succ _ mk_ok, mkL_length]
    have hj' : j < (mkL k n).length := by rw [mkL_length]; exact hj
    refine ev_t (decide_eq_true (by omega)) (ev_bind (idx_lt hj') (ev_f (by simp [mkL_get hj']) ?_))
    rw [w64_succ (by omega), w64_small (by omega) (by omega), show k + (j : Int) + 1 = k + ((j + 1 : Nat) : Int) by omega]
    exact ih
  · simp only [laws_heldInt64S.l0_succ _ mk_ok, mkL_length]
    exact ev_f (decide_eq_false (by omega)) ev_rfl

def mkLL : List Sim → Int → List Sim
  | [], _ => []
  | x :: xs, k => mkL k x.length :: mkLL xs (k + x.length)
def mkN : List Sim → Int → Int
  | [], k => k
  | x :: xs, k => mkN xs (k + x.length)

theorem mkLL_length : ∀ {xs : List Sim} {k : Int}, (mkLL xs k).length = xs.length
  | [], _ => rfl
  | x :: xs, k => by simp [mkLL, mkLL_length]

theorem mkN_ge : ∀ {xs : List Sim} {k : Int}, (∀ x ∈ xs, x.length ≤ 1048576) → k ≤ mkN xs k ∧ mkN xs k ≤ k + 1048576 * xs.length
  | [], k, _ => by simp [mkN]
  | x :: xs, k, h => by
    have h1 := mkN_ge (xs := xs) (k := k + x.length) fun y hy => h y (List.mem_cons_of_mem _ hy)
    have h2 := h x List.mem_cons_self
    simp only [mkN, List.length_cons]; omega

theorem markRows_evt : ∀ (xs : List Sim) (k : Int), 0 ≤ k → k + 1048576 * xs.length ≤ 4611686018427387904 → (∀ x ∈ xs, x.length ≤ 1048576) → Evt fun n => markRows n_laws_markInt64S (mkR (run E n)) xs k = some (mkN xs k, mkLL xs k)
  | [], k, _, _, _ => Evt.of fun _ => rfl
  | x :: xs, k, h0, hb, hx => by
    have h2 := hx x List.mem_cons_self
    simp only [List.length_cons] at hb
    have h3 := markRows_evt xs (k + x.length) (by omega) (by omega) fun y hy => hx y (List.mem_cons_of_mem _ hy)
    have h4 := markInt64S_ret x k (by omega) h2
    refine (h4.and h3).mono fun n ⟨a, b⟩ => ?_
    have a' : callT (mkR (run E n)) n_laws_markInt64S oM [⟨tL, x⟩, ⟨tI, k⟩] = some (k + x.length, mkL k x.length, ()) := callT_of a
    simp only [markRows, a', Option.bind_some, b, Option.map_some, mkN, mkLL]

theorem run_markSS (n : Nat) (args : List Dv) : run E (n + 1) n_laws_markInt64SS args = pMarkSS n_laws_markInt64S (mkR (run E n)) args := rfl

theorem markInt64SS_ret (xs : List Sim) (k : Int) (hk : 0 ≤ k ∧ k ≤ 1099511627776) (hs : Sm (.sl (.sl (.int .i64))) xs) : Ret E n_laws_markInt64SS [dLL xs, dI k] ⟨o_laws_markInt64SS, (mkN xs k, mkLL xs k, ())⟩ := by
  have hs1 : xs.length ≤ 1048576 := hs.1
  refine Evt.succ ((markRows_evt xs k hk.1 (by omega) fun x hx => (hs.2 x hx).1).mono fun n h => ?_)
  rw [run_markSS]
  show ((markRows n_laws_markInt64S (mkR (run E n)) xs k).map fun q => (⟨.cons tI (.cons (.sl tL) .nil), (q.1, q.2, ())⟩ : Dv)) = _
  rw [h]; rfl

theorem heldInt64SS_ret (xs : List Sim) (k : Int) (hk : 0 ≤ k ∧ k ≤ 1099511627776) (hs : Sm (.sl (.sl (.int .i64))) xs) : Ret E n_laws_heldInt64SS [dLL (mkLL xs k), dI k] ⟨o_laws_heldInt64SS, (mkN xs k, ())⟩ := by
  have hs1 : xs.length ≤ 1048576 := hs.1
  refine ret_of ?_
  simp only [run_laws_heldInt64SS, laws_heldInt64SS.ev]
  refine Ev.start (p := fun φ m => laws_heldInt64SS.l0 (mkR (run E (φ 0))) (φ 0) m (mkLL xs k) k 0 = _) 1 ?_ (fun _ _ _ h => h)
  -- the rows that are left
  refine loopR 1 (σ := Nat × Int) (L := fun φ m s => laws_heldInt64SS.l0 (mkR (run E (φ 0))) (φ 0) m (mkLL xs k) s.2 (s.1 : Int)) (fun _ _ _ _ => rfl) (fun s => s.1 ≤ xs.length ∧ (mkLL xs k).drop s.1 = mkLL (xs.drop s.1) s.2 ∧ mkN xs k = mkN (xs.drop s.1) s.2 ∧ k ≤ s.2 ∧ s.2 ≤ k + 1048576 * s.1) (fun _ => _) (fun s => xs.length - s.1) (fun s hi ih => ?_) (0, k) ⟨Nat.zero_le _, rfl, rfl, Int.le_refl _, by simp⟩
  obtain ⟨j, q⟩ := s
  obtain ⟨h1, h2, h3, h4, h5⟩ := hi
  simp only at h1 h2 h3 h4 h5 ih
  simp only [laws_heldInt64SS.l0_succ _ mk_ok, mkLL_length]
  refine ev_d (fun hlt => ?_) fun hlt => ev_some ?_
  · have hj : j < xs.length := by omega
    have hj' : j < (mkLL xs k).length := by rw [mkLL_length]; exact hj
    rw [List.drop_eq_getElem_cons hj, List.drop_eq_getElem_cons hj', mkLL] at h2
    rw [List.drop_eq_getElem_cons hj, mkN] at h3
    obtain ⟨e1, e2⟩ := List.cons.inj h2
    have hx := (sm_get hs hj).1
    have hx : (xs[j]).length ≤ 1048576 := hx
    refine ev_bind (idx_lt hj') ?_
    rw [e1]
    refine ev_call (heldInt64S_ret q (xs[j]).length (by omega) hx) (ev_f (decide_eq_false (Int.not_lt.2 (by show 0 ≤ q + ((xs[j]).length : Int); omega))) ?_)
    rw [w64_succ (by omega)]
    exact ih (j + 1, q + ((xs[j]).length : Int)) ⟨by show j + 1 ≤ _; omega, e2, h3, by show k ≤ q + ((xs[j]).length : Int); omega, by show q + ((xs[j]).length : Int) ≤ k + 1048576 * ((j + 1 : Nat) : Int); omega⟩ (by show xs.length - (j + 1) < xs.length - j; omega)
  · have e : j = xs.length := by omega
    subst e
    rw [List.drop_length, mkN] at h3
    rw [h3]

end VeT

open Go Go.Proofs Ve
set_option linter.unusedVariables false
set_option linter.unusedSimpArgs false
namespace VeT

/-! marks of matrices and sheaves -/
def mkMM : List MatT → Int → List MatT
  | [], _ => []
  | x :: xs, k => (k, k + 1, k + 1 + 1, mkL (k + 1 + 1 + 1) x.2.2.2.1.length, ()) :: mkMM xs (k + 1 + 1 + 1 + x.2.2.2.1.length)
def mkMN : List MatT → Int → Int
  | [], k => k
  | x :: xs, k => mkMN xs (k + 1 + 1 + 1 + x.2.2.2.1.length)

theorem mkMN_ge : ∀ {xs : List MatT} {k : Int}, (∀ x ∈ xs, x.2.2.2.1.length ≤ 1048576) → k ≤ mkMN xs k ∧ mkMN xs k ≤ k + 1048579 * xs.length
  | [], k, _ => by simp [mkMN]
  | x :: xs, k, h => by
    have h1 := mkMN_ge (xs := xs) (k := k + 1 + 1 + 1 + x.2.2.2.1.length) fun y hy => h y (List.mem_cons_of_mem _ hy)
    have h2 := h x List.mem_cons_self
    simp only [mkMN, List.length_cons]; omega

theorem markRowsM_evt : ∀ (xs : List MatT) (k : Int), 0 ≤ k → k + 1048579 * xs.length ≤ 4611686018427387904 → (∀ x ∈ xs, x.2.2.2.1.length ≤ 1048576) → Evt fun n => markRowsM n_laws_markInt64S (mkR (run E n)) xs k = some (mkMN xs k, mkMM xs k)
  | [], k, _, _, _ => Evt.of fun _ => rfl
  | x :: xs, k, h0, hb, hx => by
    have h2 := hx x List.mem_cons_self
    simp only [List.length_cons] at hb
    have h3 := markRowsM_evt xs (k + 1 + 1 + 1 + x.2.2.2.1.length) (by omega) (by omega) fun y hy => hx y (List.mem_cons_of_mem _ hy)
    have h4 := markInt64S_ret x.2.2.2.1 (k + 1 + 1 + 1) (by omega) h2
    refine (h4.and h3).mono fun n ⟨a, b⟩ => ?_
    have a' : callT (mkR (run E n)) n_laws_markInt64S oM [⟨tL, x.2.2.2.1⟩, ⟨tI, k + 1 + 1 + 1⟩] = some (k + 1 + 1 + 1 + x.2.2.2.1.length, mkL (k + 1 + 1 + 1) x.2.2.2.1.length, ()) := callT_of a
    rw [markRowsM, if_pos (by omega)]
    simp only [a', Option.bind_some, b, Option.map_some, mkMN, mkMM]

theorem run_markMS (n : Nat) (args : List Dv) : run E (n + 1) n_laws_markMatrixS args = pMarkMS n_laws_markInt64S (mkR (run E n)) args := rfl

theorem markMatrixS_ret (xs : List MatT) (k : Int) (hk : 0 ≤ k ∧ k ≤ 4398046511104) (hs : Sm (.sl tM) xs) : Ret E n_laws_markMatrixS [⟨.sl tM, xs⟩, ⟨.int .i64, k⟩] ⟨o_laws_markMatrixS, (mkMN xs k, mkMM xs k, ())⟩ := by
  have hs1 : xs.length ≤ 1048576 := hs.1
  refine Evt.succ ((markRowsM_evt xs k hk.1 (by omega) fun x hx => (hs.2 x hx).2.2.2.1.1).mono fun n h => ?_)
  rw [run_markMS]
  show ((markRowsM n_laws_markInt64S (mkR (run E n)) xs k).map fun q => (⟨.cons tI (.cons (.sl tM) .nil), (q.1, q.2, ())⟩ : Dv)) = _
  rw [h]; rfl

theorem markComplexP_ret (xs : List Sim) (k : Int) (hk : 0 ≤ k ∧ k ≤ 1099511627776) (hs : Sm (.sl (.sl (.int .i64))) xs) : Ret E n_laws_markComplex [dLL xs, dI k] ⟨o_laws_markComplex, (mkN xs k, mkLL xs k, ())⟩ := by
  refine ret_of ?_
  simp only [run_laws_markComplex, laws_markComplex.ev]
  exact ev_call (markInt64SS_ret xs k hk hs) ev_rfl

/-- the number behind a sheaf's marks -/
def mkSN (x : Shf) (k : Int) : Int := mkMN x.2.2.2.1 (mkN x.1 k + x.2.2.1.length)

theorem markSheaf_ret (x : Shf) (hx : Sm (.st cS) x) : ∃ a b c, Ret E n_laws_markSheaf [dLL x.1, dI x.2.1, dL x.2.2.1, dMs x.2.2.2.1, dI 1] ⟨o_laws_markSheaf, (mkSN x 1, a, b, c, ())⟩ ∧ 1 ≤ mkSN x 1 ∧ mkSN x 1 ≤ 4398046511104 := by
  have h1 : Sm (.sl (.sl (.int .i64))) x.1 := hx.1
  have h2 : x.2.2.1.length ≤ 1048576 := hx.2.2.1.1
  have h3 : Sm (.sl tM) x.2.2.2.1 := hx.2.2.2.1
  have l1 : x.1.length ≤ 1048576 := h1.1
  have l3 : x.2.2.2.1.length ≤ 1048576 := h3.1
  have g1 := mkN_ge (xs := x.1) (k := 1) fun y hy => (h1.2 y hy).1
  have g3 := mkMN_ge (xs := x.2.2.2.1) (k := mkN x.1 1 + x.2.2.1.length) fun y hy => (h3.2 y hy).2.2.2.1.1
  refine ⟨mkLL x.1 1, mkL (mkN x.1 1) x.2.2.1.length, mkMM x.2.2.2.1 (mkN x.1 1 + x.2.2.1.length), ret_of ?_, by unfold mkSN; omega⟩
  · simp only [run_laws_markSheaf, laws_markSheaf.ev]
    exact ev_call (markComplexP_ret x.1 1 (by omega) h1) (ev_call (markInt64S_ret x.2.2.1 (mkN x.1 1) (by omega) h2) (ev_call (markMatrixS_ret x.2.2.2.1 (mkN x.1 1 + x.2.2.1.length) (by omega) h3) ev_rfl))

end VeT

open Go Go.Proofs Ve
set_option linter.unusedVariables false
set_option linter.unusedSimpArgs false
namespace VeT

/-- the unit matrix' entries -/
def unitE (i j : Nat) : Int := if i = j then 1 else 0
def unitM (p : Int) (n : Nat) : Mat := (p, (n : Int), (n : Int), flatF unitE n n, ())

theorem unit_1_ret (i j : Nat) : Ret E n_impl_unit_1 [dI (i : Int), dI (j : Int)] ⟨o_impl_unit_1, (unitE i j, ())⟩ := by
  refine ret_of ?_
  simp only [run_impl_unit_1, impl_unit_1.ev]
  refine ev_b (fun h => ev_some ?_) fun h => ev_some ?_
  · have h : (i : Int) = j := by simpa using h
    rw [unitE, if_pos (by omega)]
  · have h : ¬ (i : Int) = j := by simpa using h
    rw [unitE, if_neg (by omega)]

theorem unit_ret (p : Int) (n : Nat) (hn : n ≤ 32) : Ret E n_impl_unit [dI p, dI (n : Int)] ⟨o_impl_unit, unitM p n⟩ := by
  have h := rc_le hn hn
  refine ret_of ?_
  simp only [run_impl_unit, impl_unit.ev]
  exact ev_call (filled_impl_unit_1_ret p n n unitE (by omega) (by omega) (by omega) fun i j _ _ => unit_1_ret i j) ev_rfl

theorem l03Unit_ret (p : Int) (n : Nat) (hn : n ≤ 32) : Ret E n_spec_l03Unit [dI p, dI (n : Int)] ⟨o_spec_l03Unit, unitM p n⟩ := by
  have h := rc_le hn hn
  refine ret_of ?_
  simp only [run_spec_l03Unit, spec_l03Unit.ev]
  refine ev_call (l03Zero_ret p n n hn hn) ?_
  refine Ev.start (p := fun φ m => spec_l03Unit.l0 (mkR (run E (φ 0))) (φ 0) m (n : Int) 0 0 0 0 p (n : Int) (n : Int) (List.replicate (n * n) 0) = _) 1 ?_ (fun _ _ _ h => h)
  have := fold_loop 1 (L := fun φ m i o => spec_l03Unit.l0 (mkR (run E (φ 0))) (φ 0) m (n : Int) i 0 0 0 p (n : Int) (n : Int) o) (len := n) (fun i => flatF unitE n i ++ List.replicate ((n - i) * n) 0) (r := some ⟨o_spec_l03Unit, unitM p n⟩) (fun _ _ _ _ _ => rfl) (fun i r hi ih => ?_) ?_
  · simpa [flatF] using this
  · simp only [spec_l03Unit.l0_succ _ mk_ok]
    have hii := lt_rc hi hi
    have hle : (i + 1) * n ≤ n * n := Nat.mul_le_mul_right _ hi
    rw [Nat.add_mul] at hle
    have hRi : (n - i) * n = n + (n - (i + 1)) * n := by
      rw [show n - i = (n - (i + 1)) + 1 by omega, Nat.add_mul]; omega
    have hol : (flatF unitE n i ++ List.replicate ((n - i) * n) (0 : Int)).length = i * n + (n - i) * n := by simp [flatF_length]
    have e1 : w64 (w64 ((i : Int) * (n : Int)) + (i : Int)) = ((i * n + i : Nat) : Int) := by
      rw [cast_mul, w64_small (n := ((i * n : Nat) : Int)) (by omega) (by omega), w64_small (by omega) (by omega)]; omega
    simp only [e1, Int.toNat_natCast]
    refine ev_t (decide_eq_true (by omega)) (ev_chk (by simp only [Bool.and_eq_true, decide_eq_true_eq, hol]; omega) ?_)
    rw [w64_succ (by omega)]
    have e2 : (flatF unitE n i ++ List.replicate ((n - i) * n) (0 : Int)).set (i * n + i) 1 = flatF unitE n (i + 1) ++ List.replicate ((n - (i + 1)) * n) 0 := by
      rw [List.set_append_right _ _ (by rw [flatF_length]; omega), flatF_length, Nat.add_sub_cancel_left, flatF, List.append_assoc]
      congr 1
      apply List.ext_getElem?
      intro j
      rw [List.getElem?_set, List.length_replicate]
      by_cases hj : j < n
      · rw [List.getElem?_append_left (by simpa using hj)]
        by_cases hij : i = j
        · subst hij
          rw [if_pos rfl, if_pos (by omega)]
          simp [hj, unitE]
        · rw [if_neg hij, List.getElem?_replicate, if_pos (by omega)]
          simp [hj, unitE, hij]
      · rw [if_neg (by omega), List.getElem?_append_right (by simpa using hj)]
        simp only [List.length_map, List.length_range, List.getElem?_replicate]
        by_cases h2 : j < (n - i) * n
        · rw [if_pos h2, if_pos (by omega)]
        · rw [if_neg h2, if_neg (by omega)]
    rw [e2]
    exact ih
  · simp only [spec_l03Unit.l0_succ _ mk_ok]
    refine ev_f (decide_eq_false (by omega)) (ev_some ?_)
    simp [unitM]

end VeT

open Go Go.Proofs Ve
set_option linter.unusedVariables false
set_option linter.unusedSimpArgs false
namespace VeT

theorem VM.len {m : Mat} (h : VM m) : m.2.2.2.1.length ≤ 1024 := by
  obtain ⟨R, C, _, hR, hC, hl⟩ := h.nat
  have := rc_le hR hC
  omega

end VeT

open Go Go.Proofs Ve
set_option linter.unusedVariables false
set_option linter.unusedSimpArgs false
namespace VeT

theorem Rises.lt {s : Sim} (h : Rises s) : ∀ {i j : Nat} (hj : j < s.length) (hij : i < j), s[i] < s[j] := by
  intro i j
  induction j with
  | zero => intro _ h; omega
  | succ j ih =>
    intro hj hij
    have := h (j + 1) (by omega) hj
    rw [Nat.add_sub_cancel, getD_lt (by omega), getD_lt hj] at this
    by_cases e : i = j
    · subst e; exact this
    · exact Int.lt_trans (ih (by omega) (by omega)) this

theorem Rises.pairwise {s : Sim} (h : Rises s) : s.Pairwise (· < ·) := by
  rw [List.pairwise_iff_getElem]
  intro i j hi hj hij
  exact h.lt hj hij

theorem sorted_eq : ∀ {a b : Sim}, a.Pairwise (· < ·) → b.Pairwise (· < ·) → (∀ x, x ∈ a ↔ x ∈ b) → a = b
  | [], [], _, _, _ => rfl
  | [], y :: ys, _, _, h => absurd ((h y).2 List.mem_cons_self) (by simp)
  | x :: xs, [], _, _, h => absurd ((h x).1 List.mem_cons_self) (by simp)
  | x :: xs, y :: ys, ha, hb, h => by
    rw [List.pairwise_cons] at ha hb
    have exy : x = y := by
      have h1 := (h x).1 List.mem_cons_self
      have h2 := (h y).2 List.mem_cons_self
      rw [List.mem_cons] at h1 h2
      rcases h1 with h1 | h1
      · exact h1
      · rcases h2 with h2 | h2
        · exact h2.symm
        · have := hb.1 x h1
          have := ha.1 y h2
          omega
    subst exy
    congr 1
    refine sorted_eq ha.2 hb.2 fun z => ⟨fun hz => ?_, fun hz => ?_⟩
    · have := (h z).1 (List.mem_cons_of_mem _ hz)
      rw [List.mem_cons] at this
      rcases this with e | e
      · have := ha.1 z hz; omega
      · exact e
    · have := (h z).2 (List.mem_cons_of_mem _ hz)
      rw [List.mem_cons] at this
      rcases this with e | e
      · have := hb.1 z hz; omega
      · exact e

/-- two simplices, one a part of the other and not the same: a vertex is left -/
theorem part_left {a b : Sim} (ha : Rises a) (hb : Rises b) (h : Part a b) (hne : a ≠ b) : ∃ i, ∃ hi : i < b.length, ¬ b[i] ∈ a ∧ ∀ j (hj : j < i), b[j] ∈ a := by
  have hex : ∃ x ∈ b, ¬ x ∈ a := Classical.byContradiction fun hn => hne (sorted_eq ha.pairwise hb.pairwise fun x => ⟨h x, fun hx => Classical.byContradiction fun hxa => hn ⟨x, hx, hxa⟩⟩)
  obtain ⟨x, hx, hxa⟩ := hex
  obtain ⟨j, hj, rfl⟩ := List.mem_iff_getElem.1 hx
  have hf : b.findIdx (fun v => !pb (v ∈ a)) < b.length := List.findIdx_lt_length_of_exists ⟨b[j], hx, by rw [pb_false hxa]; rfl⟩
  refine ⟨b.findIdx (fun v => !pb (v ∈ a)), hf, ?_, fun q hq => ?_⟩
  · have := List.findIdx_getElem (w := hf)
    exact pb_not.1 (by simpa using this)
  · have := List.not_of_lt_findIdx hq
    exact pb_iff.1 (by simpa using this)

theorem part_erase {a b : Sim} (h : Part a b) {i : Nat} (hi : i < b.length) (hn : ¬ b[i] ∈ a) : Part a (b.eraseIdx i) := by
  intro x hx
  obtain ⟨j, hj, rfl⟩ := List.mem_iff_getElem.1 (h x hx)
  have hji : j ≠ i := fun e => hn (by subst e; exact hx)
  rw [List.mem_iff_getElem?]
  by_cases hlt : j < i
  · exact ⟨j, by rw [List.getElem?_eraseIdx, if_pos hlt, List.getElem?_eq_getElem hj]⟩
  · exact ⟨j - 1, by rw [List.getElem?_eraseIdx, if_neg (by omega), show j - 1 + 1 = j by omega, List.getElem?_eq_getElem hj]⟩

end VeT

open Go Go.Proofs Ve
set_option linter.unusedVariables false
set_option linter.unusedSimpArgs false
namespace VeT

end VeT

open Go Go.Proofs Ve
set_option linter.unusedVariables false
set_option linter.unusedSimpArgs false
namespace VeT

/-- the first vertex that is not in the face -/
noncomputable def fv (c : List Sim) (f k : Nat) : Nat := (c.getD k []).findIdx (fun v => !pb (v ∈ c.getD f []))

noncomputable def restV (c : List Sim) (p : Int) (st : Sim) (ms : List Mat) (f : Nat) : Nat → Nat → Mat
  | 0, k => unitM p (st.getD f 0).toNat
  | d + 1, k => if f = k then unitM p (st.getD f 0).toNat else mulM (mp c ms k (fv c f k)) (restV c p st ms f d (fc c k (fv c f k)))

theorem unitM_VM {p : Int} {n : Nat} (hp : Pr p) (hn : n ≤ 32) : VM (unitM p n) := by
  refine ⟨hp, ⟨by show (0 : Int) ≤ n; omega, by show (n : Int) ≤ 32; omega⟩, ⟨by show (0 : Int) ≤ n; omega, by show (n : Int) ≤ 32; omega⟩, ?_, ?_⟩
  · show ((flatF unitE n n).length : Int) = (n : Int) * (n : Int)
    rw [flatF_length, cast_mul]
  · intro x hx
    have hx : x ∈ flatF unitE n n := hx
    have : ∀ m, x ∈ flatF unitE n m → 0 ≤ x ∧ x ≤ 1 := by
      intro m
      induction m with
      | zero => intro h; simp [flatF] at h
      | succ m ih =>
        intro h
        rw [flatF, List.mem_append] at h
        rcases h with h | h
        · exact ih h
        · rw [List.mem_map] at h
          obtain ⟨j, _, rfl⟩ := h
          unfold unitE; split <;> omega
    have := this n hx
    have := hp.1
    show 0 ≤ x ∧ x ≤ p - 1
    omega

theorem mulM_VM {a b : Mat} (ha : VM a) (hb : VM b) : VM (mulM a b) := by
  refine ⟨ha.1, ha.2.1, hb.2.2.1, ?_, ?_⟩
  · show ((flatF _ b.2.2.1.toNat a.2.1.toNat).length : Int) = a.2.1 * b.2.2.1
    rw [flatF_length]
    have h1 := ha.2.1
    have h2 := hb.2.2.1
    obtain ⟨x, hx⟩ := Int.eq_ofNat_of_zero_le h1.1
    obtain ⟨y, hy⟩ := Int.eq_ofNat_of_zero_le h2.1
    rw [hx, hy, cast_mul]; rfl
  · intro x hx
    have hx : x ∈ flatF (mulE a.1 a.2.2.2.1 b.2.2.2.1 a.2.2.1.toNat b.2.2.1.toNat) b.2.2.1.toNat a.2.1.toNat := hx
    have hp := ha.1.1
    have : ∀ m, x ∈ flatF (mulE a.1 a.2.2.2.1 b.2.2.2.1 a.2.2.1.toNat b.2.2.1.toNat) b.2.2.1.toNat m → 0 ≤ x ∧ x ≤ a.1 - 1 := by
      intro m
      induction m with
      | zero => intro h; simp [flatF] at h
      | succ m ih =>
        intro h
        rw [flatF, List.mem_append] at h
        rcases h with h | h
        · exact ih h
        · rw [List.mem_map] at h
          obtain ⟨j, _, rfl⟩ := h
          have h1 := Int.emod_nonneg (dotN (fun l => a.2.2.2.1.getD (m * a.2.2.1.toNat + l) 0) (fun l => b.2.2.2.1.getD (l * b.2.2.1.toNat + j) 0) a.2.2.1.toNat) (show a.1 ≠ 0 by omega)
          have h2 := Int.emod_lt_of_pos (dotN (fun l => a.2.2.2.1.getD (m * a.2.2.1.toNat + l) 0) (fun l => b.2.2.2.1.getD (l * b.2.2.1.toNat + j) 0) a.2.2.1.toNat) (show 0 < a.1 by omega)
          unfold mulE; omega
    exact this _ hx

theorem restriction_1_ret (v : Int) (a : Sim) (ha : a.length ≤ 1048576) : Ret E n_impl_restriction_1 [dI v, ⟨.ptr (.cons (.sl (.int .i64)) .nil), (a, ())⟩] ⟨o_impl_restriction_1, (!pb (v ∈ a), ())⟩ := by
  refine ret_of ?_
  simp only [run_impl_restriction_1, impl_restriction_1.ev]
  exact ev_call (Contains_ret a v ha) ev_rfl

/-- one step down -/
structure Down (c : List Sim) (p : Int) (st : Sim) (ms : List Mat) (f k : Nat) : Prop where
  v : VS c p st ms
  fl : f < c.length
  kl : k < c.length
  ne : f ≠ k
  pt : Part (c.getD f []) (c.getD k [])

theorem Down.facts {c p st ms f k} (h : Down c p st ms f k) : fv c f k < (c.getD k []).length ∧ fv c f k < (fIdx c k).length ∧ (∀ j (hj : j < fv c f k) (hl : j < (c.getD k []).length), (c.getD k [])[j] ∈ c.getD f []) ∧ (∀ hl : fv c f k < (c.getD k []).length, ¬ (c.getD k [])[fv c f k] ∈ c.getD f []) ∧ Part (c.getD f []) (c.getD (fc c k (fv c f k)) []) ∧ (c.getD (fc c k (fv c f k)) []).length < (c.getD k []).length ∧ fc c k (fv c f k) < c.length := by
  have hx := h.v.1.2.1 f h.fl
  have hy := h.v.1.2.1 k h.kl
  have hne : c.getD f [] ≠ c.getD k [] := fun e => by
    have hs := h.v.1.srt
    rw [getD_lt h.fl, getD_lt h.kl] at e
    rcases Nat.lt_or_gt_of_ne h.ne with hlt | hlt
    · have := hs f k h.kl hlt; rw [e, cmpS_zero.2 rfl] at this; omega
    · have := hs k f h.fl hlt; rw [e, cmpS_zero.2 rfl] at this; omega
  obtain ⟨i, hi, hin, hbef⟩ := part_left hx.2.2.1 hy.2.2.1 h.pt hne
  have hfv : fv c f k < (c.getD k []).length := List.findIdx_lt_length_of_exists ⟨_, List.getElem_mem hi, by rw [pb_false hin]; rfl⟩
  have hno : ∀ hl : fv c f k < (c.getD k []).length, ¬ (c.getD k [])[fv c f k] ∈ c.getD f [] := fun hl => by
    have t : (!pb ((c.getD k [])[fv c f k] ∈ c.getD f [])) = true := List.findIdx_getElem (w := hl) (p := fun v => !pb (v ∈ c.getD f []))
    exact pb_not.1 (by simpa only [Bool.not_eq_true'] using t)
  have hbf : ∀ j (hj : j < fv c f k) (hl : j < (c.getD k []).length), (c.getD k [])[j] ∈ c.getD f [] := fun j hj hl => by
    have := List.not_of_lt_findIdx hj
    exact pb_iff.1 (by simpa using this)
  have h2 : 1 < (c.getD k []).length := by
    refine Classical.byContradiction fun hn => ?_
    have h1 : (c.getD k []).length = 1 := by omega
    have hf0 : 0 < (c.getD f []).length := hx.1
    have hm := h.pt _ (List.getElem_mem hf0)
    obtain ⟨q, hq, e⟩ := List.mem_iff_getElem.1 hm
    have hq0 : q = fv c f k := by omega
    subst hq0
    exact hno hfv (e ▸ List.getElem_mem hf0)
  have hil : fv c f k < (fIdx c k).length := by rw [fIdx_length, if_pos h2]; exact hfv
  obtain ⟨_, hF, hFg⟩ := fc_get h.v.1 h.kl hil
  refine ⟨hfv, hil, hbf, hno, ?_, ?_, hF⟩
  · rw [hFg]; exact part_erase h.pt hfv (hno hfv)
  · rw [hFg, List.length_eraseIdx, if_pos hfv]; omega

end VeT

open Go Go.Proofs Ve
set_option linter.unusedVariables false
set_option linter.unusedSimpArgs false
namespace VeT

theorem Down.idx {c p st ms f k} (h : Down c p st ms f k) : idxf (fun v => !pb (v ∈ c.getD f [])) (c.getD k []) = (fv c f k : Nat) := by
  obtain ⟨h1, _, h3, h4, _⟩ := h.facts
  have : (c.getD k []).findIdx? (fun v => !pb (v ∈ c.getD f [])) = some (fv c f k) := by
    rw [List.findIdx?_eq_some_iff_getElem]
    exact ⟨h1, by rw [pb_false (h4 h1)]; rfl, fun j hj => by rw [pb_true (h3 j hj (by omega))]; simp⟩
  unfold idxf
  rw [this]; rfl

theorem st_le {c p st ms} (h : VS c p st ms) (f : Nat) (hf : f < c.length) : ∃ hl : f < st.length, ∃ n : Nat, st[f] = (n : Int) ∧ n ≤ 3 ∧ (st.getD f 0).toNat = n ∧ st.getD f 0 = (n : Int) := by
  have hl : f < st.length := by rw [h.2.2.1.1]; exact hf
  have hb := h.2.2.1.2.1 _ (List.getElem_mem hl)
  obtain ⟨n, hn⟩ := Int.eq_ofNat_of_zero_le hb.1
  exact ⟨hl, n, hn, by omega, by rw [getD_lt hl]; omega, by rw [getD_lt hl, hn]⟩

theorem rest_ret (c : List Sim) (p : Int) (st : Sim) (ms : List Mat) (hc : Sm (.sl (.sl (.int .i64))) c) (h : VS c p st ms) (f : Nat) (hf : f < c.length) : ∀ (d k : Nat), k < c.length → (c.getD k []).length ≤ d → Part (c.getD f []) (c.getD k []) →
    (VM (restV c p st ms f d k) ∧ (restV c p st ms f d k).2.1 = st.getD k 0) ∧
    Ret E n_impl_restriction [dLL c, dI p, dL st, dMs ms, dI (f : Int), dI (k : Int)] ⟨o_impl_restriction, restV c p st ms f d k⟩ ∧
    Ret E n_spec_l09Restrict [dS (c, p, st, ms, ()), dI (f : Int), dI (k : Int)] ⟨o_spec_l09Restrict, restV c p st ms f d k⟩ := by
  intro d
  obtain ⟨hfl, n, hn, hn3, hnt, hng⟩ := st_le h f hf
  induction d with
  | zero =>
    intro k hk hd
    have := (h.1.2.1 k hk).1
    omega
  | succ d ih =>
    intro k hk hd hpt
    have h4f := h.1.len4 hf
    rw [restV]
    by_cases hfk : f = k
    · subst hfk
      rw [if_pos rfl, hnt]
      refine ⟨⟨unitM_VM h.2.1 (by omega), by rw [hng]; rfl⟩, ret_of ?_, ret_of ?_⟩
      · simp only [run_impl_restriction, impl_restriction.ev]
        refine ev_t (by simp) (ev_bind (idx_lt hfl) ?_)
        rw [hn]
        exact ev_call (unit_ret p n (by omega)) ev_rfl
      · simp only [run_spec_l09Restrict, spec_l09Restrict.ev]
        refine ev_t (by simp) (ev_bind (idx_lt (xs := st) hfl) ?_)
        rw [hn]
        exact ev_call (l03Unit_ret p n (by omega)) ev_rfl
    · rw [if_neg hfk]
      have D : Down c p st ms f k := ⟨h, hf, hk, hfk, hpt⟩
      obtain ⟨f1, f2, f3, f4, f5, f6, f7⟩ := D.facts
      obtain ⟨⟨v1, v2⟩, r1, r2⟩ := ih (fc c k (fv c f k)) f7 (by omega) f5
      obtain ⟨ix, _, hFg⟩ := fc_get h.1 hk f2
      obtain ⟨_, hB⟩ := h.map hk f2
      have hsh : (mp c ms k (fv c f k)).2.2.1 = (restV c p st ms f d (fc c k (fv c f k))).2.1 := by rw [hB.2.2.2, v2]
      have gf : c.getD f [] = c[f] := getD_lt hf
      have gk : c.getD k [] = c[k] := getD_lt hk
      have hlf : (c[f]).length ≤ 1048576 := (sm_get (t := .sl (.int .i64)) (s := c) hc hf).1
      have hlk : (c[k]).length ≤ 1048576 := (sm_get (t := .sl (.int .i64)) (s := c) hc hk).1
      refine ⟨⟨mulM_VM hB.1 v1, hB.2.2.1⟩, ret_of ?_, ret_of ?_⟩
      · simp only [run_impl_restriction, impl_restriction.ev]
        refine ev_f (by simp; omega) (ev_bind (idx_lt hf) (ev_bind (idx_lt hk) ?_))
        have hI := IndexFunc_Sint64_int64_impl_restriction_1_ret c[k] ((c[f], ()), ()) (fun v => !pb (v ∈ c[f])) hlk fun v _ => restriction_1_ret v c[f] hlf
        have hD := D.idx
        rw [gf, gk] at hD
        rw [hD] at hI
        exact ev_call hI (ev_call (faceIndices_ret c k hk hc h.1.srt) (ev_bind ix (ev_call (direct_ret c p st ms k (fv c f k) hk f2 h) (ev_call r1 (ev_call (product_ret _ _ hB.1 v1 hsh) ev_rfl)))))
      · simp only [run_spec_l09Restrict, spec_l09Restrict.ev]
        refine ev_f (by simp; omega) (ev_bind (idx_lt (xs := c) hk) ?_)
        refine Ev.start (p := fun φ m => spec_l09Restrict.l0 (mkR (run E (φ 0))) (φ 0) m (c, p, st, ms, ()) (f : Int) (k : Int) c[k] 0 0 0 0 = _) 1 ?_ (fun _ _ _ h => h)
        rw [gk] at f1
        refine loopR 1 (σ := Nat) (L := fun φ m i => spec_l09Restrict.l0 (mkR (run E (φ 0))) (φ 0) m (c, p, st, ms, ()) (f : Int) (k : Int) c[k] (i : Int) 0 0 0) (fun _ _ _ _ => rfl) (fun i => i ≤ fv c f k) (fun _ => _) (fun i => fv c f k - i) (fun i hi ihi => ?_) 0 (Nat.zero_le _)
        have hi : i ≤ fv c f k := hi
        have hil : i < (c[k]).length := by omega
        simp only [spec_l09Restrict.l0_succ _ mk_ok]
        refine ev_bind (idx_lt (xs := c) hf) (ev_bind (idx_lt hil) (ev_call (l00Has_ret c[f] c[k][i] hlf) ?_))
        by_cases he : i = fv c f k
        · subst he
          have hno : ¬ c[k][fv c f k] ∈ c[f] := by
            have := f4 (by rw [gk]; exact f1)
            simpa only [gk, gf] using this
          exact ev_f (pb_false hno) (ev_call (l05Faces_ret c k hk hc) (ev_bind ix (ev_call r2 (ev_call (l09Get_ret (c, p, st, ms, ()) k (fv c f k) hk f2 h) (ev_call (l03Times_ret _ _ hB.1 v1 hsh) ev_rfl)))))
        · have hin : c[k][i] ∈ c[f] := by
            have := f3 i (by omega) (by rw [gk]; exact hil)
            simpa only [gk, gf] using this
          refine ev_t (pb_true hin) ?_
          have h4k := h.1.len4 hk
          rw [gk] at h4k
          rw [w64_succ (by omega)]
          exact ihi (i + 1) (by show i + 1 ≤ _; omega) (by show fv c f k - (i + 1) < fv c f k - i; omega)

end VeT

open Go Go.Proofs Ve
set_option linter.unusedVariables false
set_option linter.unusedSimpArgs false
namespace VeT

/-! sums of rows -/
def addV (a b : Sim) (c p : Int) : Sim := (List.range a.length).map fun i => (a.getD i 0 + c * b.getD i 0) % p

theorem addV_length {a b : Sim} {c p : Int} : (addV a b c p).length = a.length := by simp [addV]

theorem addV_get {a b : Sim} {c p : Int} {i : Nat} (h : i < a.length) : (addV a b c p).getD i 0 = (a.getD i 0 + c * b.getD i 0) % p := by
  simp [addV, List.getD_eq_getElem?_getD, h]

theorem addV_elems {a b : Sim} {c p : Int} (hp : 2 ≤ p) : Elems (addV a b c p) p := fun x hx => by
  unfold addV at hx
  obtain ⟨i, _, rfl⟩ := List.mem_map.1 hx
  have h0 := Int.emod_nonneg (a.getD i 0 + c * b.getD i 0) (show p ≠ 0 by omega)
  have h1 := Int.emod_lt_of_pos (a.getD i 0 + c * b.getD i 0) (show 0 < p by omega)
  omega

theorem l02Add_ret (a b : Sim) (c p : Int) (hp : 2 ≤ p ∧ p ≤ 251) (hc : 0 ≤ c ∧ c ≤ 250) (hl : a.length ≤ b.length) (ha1 : a.length ≤ 1048576) (ea : ∀ x ∈ a, 0 ≤ x ∧ x ≤ 250) (eb : ∀ x ∈ b, 0 ≤ x ∧ x ≤ 250) :
    Ret E n_spec_l02Add [dL a, dL b, dI c, dI p] ⟨o_spec_l02Add, (addV a b c p, ())⟩ := by
  refine ret_of ?_
  simp only [run_spec_l02Add, spec_l02Add.ev]
  refine Ev.start (p := fun φ n => spec_l02Add.l0 (mkR (run E (φ 0))) (φ 0) n a b c p 0 [] = _) 1 ?_ (fun _ _ _ h => h)
  refine fold_loop 1 (L := fun φ n k o => spec_l02Add.l0 (mkR (run E (φ 0))) (φ 0) n a b c p k o) (len := a.length) (fun k => (List.range k).map fun i => (a.getD i 0 + c * b.getD i 0) % p) (fun _ _ _ _ _ => rfl) (fun k r hk ih => ?_) ?_
  · simp only [spec_l02Add.l0_succ _ mk_ok]
    have hkb : k < b.length := by omega
    have h1 := ea _ (List.getElem_mem hk)
    have h2 := mul_in hc (eb _ (List.getElem_mem hkb))
    rw [List.range_succ, List.map_append, List.map_singleton, getD_lt hk, getD_lt hkb] at ih
    refine ev_t (decide_eq_true (by omega)) (ev_bind (idx_lt hk) (ev_bind (idx_lt hkb) (ev_chk (by simp; omega) ?_)))
    rw [w64_small (n := c * b[k]) (by omega) (by omega), w64_small (by omega) (by omega), Int.tmod_eq_emod_of_nonneg (by omega), w64_succ (by omega)]
    exact ev_chk (by simp; omega) ih
  · simp only [spec_l02Add.l0_succ _ mk_ok]
    exact ev_f (decide_eq_false (by omega)) ev_rfl

/-! rows in a wider matrix -/
def rowSt (m : Mat) (a : Nat) (t : Int) (i n : Nat) : St := (List.range n).map fun j => (a + j, m.2.2.2.1.getD (i * m.2.2.1.toNat + j) 0 * t % m.1)
def rowW (m : Mat) (a n : Nat) (t : Int) (i : Nat) : Sim := upds (rowSt m a t i m.2.2.1.toNat) (List.replicate n 0)

theorem rowSt_succ {m : Mat} {a : Nat} {t : Int} {i n : Nat} {cs : Sim} : upds (rowSt m a t i (n + 1)) cs = (upds (rowSt m a t i n) cs).set (a + n) (m.2.2.2.1.getD (i * m.2.2.1.toNat + n) 0 * t % m.1) := by
  unfold rowSt
  rw [List.range_succ, List.map_append, upds_append]; rfl

theorem rowW_length {m : Mat} {a n : Nat} {t : Int} {i : Nat} : (rowW m a n t i).length = n := by rw [rowW, upds_length, List.length_replicate]

theorem rowW_hit {m : Mat} {a n : Nat} {t : Int} {i j : Nat} (hj : j < m.2.2.1.toNat) (hn : a + j < n) : (rowW m a n t i).getD (a + j) 0 = m.2.2.2.1.getD (i * m.2.2.1.toNat + j) 0 * t % m.1 := by
  unfold rowW
  refine upds_hit (by rw [List.length_replicate]; exact hn) (fun x hx e => ?_) ⟨_, List.mem_map.2 ⟨j, List.mem_range.2 hj, rfl⟩, rfl⟩
  obtain ⟨j', _, rfl⟩ := List.mem_map.1 hx
  simp only at e ⊢
  obtain rfl : j' = j := by omega
  rfl

theorem rowW_miss {m : Mat} {a n : Nat} {t : Int} {i g : Nat} (h : ¬ (a ≤ g ∧ g < a + m.2.2.1.toNat)) : (rowW m a n t i).getD g 0 = 0 := by
  unfold rowW
  rw [upds_miss fun x hx e => ?_]
  · rw [List.getD_eq_getElem?_getD, List.getElem?_replicate]; split <;> rfl
  · obtain ⟨j', hj', rfl⟩ := List.mem_map.1 hx
    have := List.mem_range.1 hj'
    simp only at e
    omega

theorem rowW_elems {m : Mat} {a n : Nat} {t : Int} {i : Nat} (hp : 2 ≤ m.1) : Elems (rowW m a n t i) m.1 := by
  refine upds_elems (rep_elems hp) fun q hq => ?_
  obtain ⟨j, _, rfl⟩ := List.mem_map.1 hq
  have h0 := Int.emod_nonneg (m.2.2.2.1.getD (i * m.2.2.1.toNat + j) 0 * t) (show m.1 ≠ 0 by omega)
  have h1 := Int.emod_lt_of_pos (m.2.2.2.1.getD (i * m.2.2.1.toNat + j) 0 * t) (show 0 < m.1 by omega)
  simp only; omega

theorem l10Rows_ret (m : Mat) (a n : Nat) (t : Int) (hm : VM m) (ha : (a : Int) + m.2.2.1 ≤ n) (hn : n ≤ 1048576) (ht : 0 ≤ t ∧ t ≤ 250) : Ret E n_spec_l10Rows [dM m, dI (a : Int), dI (n : Int), dI t] ⟨o_spec_l10Rows, ((List.range m.2.1.toNat).map (rowW m a n t), ())⟩ := by
  obtain ⟨R, C, em, hR, hC, hlen⟩ := hm.nat
  have hp : 2 ≤ m.1 ∧ m.1 ≤ 251 := ⟨hm.1.1, hm.1.2.1⟩
  have el := hm.2.2.2.2
  have eR : m.2.1 = (R : Int) := congrArg (fun m : Mat => m.2.1) em
  have eC : m.2.2.1 = (C : Int) := congrArg (fun m : Mat => m.2.2.1) em
  have hRC := rc_le hR hC
  rw [eC] at ha
  rw [eR, Int.toNat_natCast]
  refine ret_of ?_
  simp only [run_spec_l10Rows, spec_l10Rows.ev]
  refine Ev.start (p := fun φ q => spec_l10Rows.l0 (mkR (run E (φ 0))) (φ 0) q m (a : Int) (n : Int) t 0 [] = _) 1 ?_ (fun _ _ _ h => h)
  refine fold_loop 1 (L := fun φ q i o => spec_l10Rows.l0 (mkR (run E (φ 0))) (φ 0) q m (a : Int) (n : Int) t i o) (len := R) (fun i => (List.range i).map (rowW m a n t)) (fun _ _ _ _ _ => rfl) (fun i r hi ih => ?_) ?_
  · simp only [spec_l10Rows.l0_succ _ mk_ok, eR, Int.toNat_natCast]
    rw [List.range_succ, List.map_append, List.map_singleton] at ih
    refine ev_t (decide_eq_true (by omega)) (ev_chk (by simp only [Bool.and_eq_true, decide_eq_true_eq]; omega) ?_)
    refine Ev.start (p := fun φ q => spec_l10Rows.l1 (mkR (run E (φ 0))) (φ 0) (φ 1) q m (a : Int) (n : Int) t (i : Int) 0 ((List.range i).map (rowW m a n t)) (List.replicate n 0) = _) 2 ?_ (fun _ _ _ h => h)
    refine fold_loop 2 (L := fun φ q j o => spec_l10Rows.l1 (mkR (run E (φ 0))) (φ 0) (φ 1) q m (a : Int) (n : Int) t (i : Int) j ((List.range i).map (rowW m a n t)) o) (len := C) (fun j => upds (rowSt m a t i j) (List.replicate n 0)) (fun _ _ _ _ _ => rfl) (fun j q hj ih2 => ?_) ?_
    · simp only [spec_l10Rows.l1_succ _ mk_ok]
      have hij : i * C + j < m.2.2.2.1.length := by rw [hlen]; exact lt_rc hi hj
      have hx := el.get hp (i * C + j)
      rw [rowSt_succ, eC, Int.toNat_natCast, getD_lt hij] at ih2
      rw [getD_lt hij] at hx
      have hol' : (upds (rowSt m a t i j) (List.replicate n 0)).length = n := by rw [upds_length, List.length_replicate]
      have ev := val_eq hx ht hp
      have e1 : w64 (w64 ((i : Int) * (C : Int)) + (j : Int)) = ((i * C + j : Nat) : Int) := by
        rw [cast_mul, w64_small (n := ((i * C : Nat) : Int)) (by omega) (by omega), w64_small (by omega) (by omega)]; omega
      have e2 : w64 ((a : Int) + (j : Int)) = ((a + j : Nat) : Int) := by rw [w64_small (by omega) (by omega)]; omega
      simp only [eC, e1, e2, hol', Int.toNat_natCast]
      refine ev_t (decide_eq_true (by omega)) (ev_bind (idx_lt hij) (ev_chk (by simp; omega) ?_))
      simp only [ev]
      refine ev_chk (by simp only [Bool.and_eq_true, decide_eq_true_eq]; omega) ?_
      rw [w64_succ (by omega)]
      exact ih2
    · simp only [spec_l10Rows.l1_succ _ mk_ok, eC]
      refine ev_f (decide_eq_false (by omega)) (ev_chk (by simp; omega) ?_)
      rw [w64_succ (by omega)]
      rw [rowW, eC, Int.toNat_natCast] at ih
      exact ih
  · simp only [spec_l10Rows.l0_succ _ mk_ok, eR]
    exact ev_f (decide_eq_false (by omega)) ev_rfl

theorem l10Sum_ret (a b : List Sim) (p : Int) (hp : 2 ≤ p ∧ p ≤ 251) (hl : b.length = a.length) (ha : a.length ≤ 1048576) (hr : ∀ i (h : i < a.length) (h' : i < b.length), a[i].length ≤ b[i].length ∧ a[i].length ≤ 1048576 ∧ (∀ x ∈ a[i], 0 ≤ x ∧ x ≤ 250) ∧ ∀ x ∈ b[i], 0 ≤ x ∧ x ≤ 250) :
    Ret E n_spec_l10Sum [dLL a, dLL b, dI p] ⟨o_spec_l10Sum, ((List.range a.length).map fun i => addV (a.getD i []) (b.getD i []) 1 p, ())⟩ := by
  refine ret_of ?_
  simp only [run_spec_l10Sum, spec_l10Sum.ev]
  refine Ev.start (p := fun φ n => spec_l10Sum.l0 (mkR (run E (φ 0))) (φ 0) n a b p 0 [] = _) 1 ?_ (fun _ _ _ h => h)
  refine fold_loop 1 (L := fun φ n k o => spec_l10Sum.l0 (mkR (run E (φ 0))) (φ 0) n a b p k o) (len := a.length) (fun k => (List.range k).map fun i => addV (a.getD i []) (b.getD i []) 1 p) (fun _ _ _ _ _ => rfl) (fun k r hk ih => ?_) ?_
  · simp only [spec_l10Sum.l0_succ _ mk_ok]
    have hkb : k < b.length := by omega
    obtain ⟨h1, h2, h3, h4⟩ := hr k hk hkb
    rw [List.range_succ, List.map_append, List.map_singleton, getD_lt hk, getD_lt hkb] at ih
    refine ev_t (decide_eq_true (by omega)) (ev_bind (idx_lt hk) (ev_bind (idx_lt hkb) (ev_call (l02Add_ret a[k] b[k] 1 p hp (by omega) h1 h2 h3 h4) (ev_chk (by simp; omega) ?_))))
    rw [w64_succ (by omega)]; exact ih
  · simp only [spec_l10Sum.l0_succ _ mk_ok]
    exact ev_f (decide_eq_false (by omega)) ev_rfl

end VeT

open Go Go.Proofs Ve
set_option linter.unusedVariables false
set_option linter.unusedSimpArgs false
namespace VeT

theorem getD_ext {a b : Sim} (hl : a.length = b.length) (h : ∀ i, i < a.length → a.getD i 0 = b.getD i 0) : a = b := by
  refine List.ext_getElem hl fun i h1 h2 => ?_
  have := h i h1
  rwa [getD_lt h1, getD_lt h2] at this

end VeT

open Go Go.Proofs Ve
set_option linter.unusedVariables false
set_option linter.unusedSimpArgs false
namespace VeT

/-! the column of a section at a simplex -/
theorem restV_cols {c : List Sim} {p : Int} {st : Sim} {ms : List Mat} {f : Nat} (hst : ∀ x ∈ st, 0 ≤ x ∧ x ≤ 3) : ∀ {d k : Nat}, (restV c p st ms f d k).2.2.1 = st.getD f 0
  | 0, k => by
    have := st_nn hst f
    show (((st.getD f 0).toNat : Nat) : Int) = _; omega
  | d + 1, k => by
    have := st_nn hst f
    rw [restV]; split
    · show (((st.getD f 0).toNat : Nat) : Int) = _; omega
    · exact restV_cols hst (d := d)

noncomputable def restX (x : Shf) (f k : Nat) : Mat := restV x.1 x.2.1 x.2.2.1 x.2.2.2.1 f (x.1.getD k []).length k

end VeT

open Go Go.Proofs Ve
set_option linter.unusedVariables false
set_option linter.unusedSimpArgs false
namespace VeT

/-! places -/
def Plcs (c : List Sim) (w : Sim) : Prop := Rises w ∧ ∀ y ∈ w, 0 ≤ y ∧ y ≤ (c.length : Int) - 1

theorem arePlaces_ret (x : Shf) (w : Sim) (hc : x.1.length ≤ 1048576) (hw : Sm (.sl (.int .i64)) w) : Ret E n_impl_arePlaces [dLL x.1, dI x.2.1, dL x.2.2.1, dMs x.2.2.2.1, dL w] ⟨o_impl_arePlaces, (pb (Plcs x.1 w), ())⟩ := by
  refine ret_of ?_
  simp only [run_impl_arePlaces, impl_arePlaces.ev]
  refine ev_call (isRising_ret w hw) (ev_b (fun h => ev_call (sizeL_ret x.1) (ev_call (areElements_ret w (x.1.length : Int) hw.1 ⟨by omega, by omega⟩) (ev_some ?_))) fun h => ev_some ?_)
  · have h := pb_iff.1 (show pb (Rises w) = true by simpa using h)
    exact congrArg (fun b : Bool => some (⟨o_impl_arePlaces, (b, ())⟩ : Dv)) (pb_congr ⟨fun e => ⟨h, e⟩, fun e => e.2⟩)
  · have h := pb_not.1 (show pb (Rises w) = false by simpa using h)
    rw [pb_false fun e => h e.1]

theorem l10Places_ret (x : Shf) (w : Sim) (hc : x.1.length ≤ 1048576) (hw : Sm (.sl (.int .i64)) w) : Ret E n_spec_l10Places [dS x, dL w] ⟨o_spec_l10Places, (pb (Plcs x.1 w), ())⟩ := by
  have e : w64 ((x.1.length : Int) - 1) = (x.1.length : Int) - 1 := w64_small (by omega) (by omega)
  refine ret_of ?_
  simp only [run_spec_l10Places, spec_l10Places.ev, e]
  exact ev_call (l00Rises_ret w 0 ((x.1.length : Int) - 1) hw) ev_rfl

theorem Plcs.get {c : List Sim} {w : Sim} (h : Plcs c w) {i : Nat} (hi : i < w.length) : ∃ n : Nat, w[i] = (n : Int) ∧ n < c.length := by
  have := h.2 _ (List.getElem_mem hi)
  exact ⟨(w[i]).toNat, by omega, by omega⟩

open Classical in
noncomputable def PC (x : Shf) (w : Sim) : Int := if ISh x then (if Plcs x.1 w then 0 else 2) else 1

theorem PC_zero {x : Shf} {w : Sim} : PC x w = 0 ↔ ISh x ∧ Plcs x.1 w := by
  unfold PC; split
  · rename_i h
    split
    · rename_i h2; exact ⟨fun _ => ⟨h, h2⟩, fun _ => rfl⟩
    · rename_i h2; exact ⟨fun e => by omega, fun e => absurd e.2 h2⟩
  · rename_i h; exact ⟨fun e => by omega, fun e => absurd e.1 h⟩

theorem placed_ret (x : Shf) (w : Sim) (hx : Sm (.st cS) x) (hw : Sm (.sl (.int .i64)) w) : Ret E n_impl_placed [dLL x.1, dI x.2.1, dL x.2.2.1, dMs x.2.2.2.1, dL w] ⟨o_impl_placed, (PC x w, ())⟩ := by
  refine ret_of ?_
  simp only [run_impl_placed, impl_placed.ev]
  refine ev_call (implIsSheaf_ret x hx) (ev_b (fun h => ev_some ?_) fun h => ev_call (arePlaces_ret x w hx.1.1 hw) (ev_b (fun h2 => ev_some ?_) fun h2 => ev_some ?_))
  · rw [PC, if_neg (pb_not.1 (show pb (ISh x) = false by simpa using h))]
  · rw [PC, if_pos (pb_iff.1 (show pb (ISh x) = true by simpa using h)), if_neg (pb_not.1 (show pb (Plcs x.1 w) = false by simpa using h2))]
  · rw [PC, if_pos (pb_iff.1 (show pb (ISh x) = true by simpa using h)), if_pos (pb_iff.1 (show pb (Plcs x.1 w) = true by simpa using h2))]

end VeT

open Go Go.Proofs Ve
set_option linter.unusedVariables false
set_option linter.unusedSimpArgs false
namespace VeT

/-! the first number -/
theorem firstN_min {P : Nat → Prop} : ∀ {d a k : Nat}, firstN P a d = some k → ∀ i, a ≤ i → i < k → ¬ P i
  | 0, a, k, h => by simp [firstN] at h
  | d + 1, a, k, h => fun i h1 h2 => by
    rw [firstN] at h
    split at h
    · obtain rfl := Option.some.inj h; omega
    · rename_i hp
      by_cases e : i = a
      · subst e; exact hp
      · exact firstN_min h i (by omega) h2

/-! parts of simplices -/
theorem rises_of {s : Sim} (h : s.Pairwise (· < ·)) : Rises s := fun j h1 h2 => by
  rw [getD_lt (show j - 1 < s.length by omega), getD_lt h2]
  exact List.pairwise_iff_getElem.1 h (j - 1) j (by omega) h2 (by omega)

theorem part_lt : ∀ (n : Nat) {a b : Sim}, b.length = n → Rises a → Rises b → Part a b → a ≠ b → a.length < b.length
  | n, a, b, hn, ha, hb, hp, hne => by
    obtain ⟨i, hi, hni, _⟩ := part_left ha hb hp hne
    have hp' := part_erase hp hi hni
    have hl : (b.eraseIdx i).length = b.length - 1 := by rw [List.length_eraseIdx, if_pos hi]
    have hb' : Rises (b.eraseIdx i) := rises_of (hb.pairwise.sublist (List.eraseIdx_sublist _ _))
    by_cases e : a = b.eraseIdx i
    · rw [e]; omega
    · cases n with
      | zero => omega
      | succ n =>
        have := part_lt n (by omega) ha hb' hp' e
        omega

theorem part_index {c : List Sim} (h : VC c) {f k : Nat} (hf : f < c.length) (hk : k < c.length) (hp : Part (c.getD f []) (c.getD k [])) (hne : f ≠ k) : f < k := by
  rcases Nat.lt_trichotomy f k with h1 | h1 | h1
  · exact h1
  · exact absurd h1 hne
  · exfalso
    have hs := h.srt k f hf h1
    rw [getD_lt hf, getD_lt hk] at hp
    have hvf := h.2.1 f hf
    have hvk := h.2.1 k hk
    rw [getD_lt hf] at hvf
    rw [getD_lt hk] at hvk
    have he : c[f] ≠ c[k] := fun e => by rw [e, cmpS_zero.2 rfl] at hs; omega
    have := part_lt _ rfl hvf.2.2.1 hvk.2.2.1 hp he
    rw [cmpS_lt] at hs
    omega

/-! columns of local data -/
def off (st w : Sim) (n : Nat) : Int := ((w.take n).map fun k => st.getD k.toNat 0).sum

theorem off_succ {st w : Sim} {n : Nat} (hn : n < w.length) {s : Nat} (hs : w[n] = (s : Int)) : off st w (n + 1) = off st w n + st.getD s 0 := by
  unfold off
  rw [List.take_succ_eq_append_getElem hn, List.map_append, List.sum_append, hs]
  simp

theorem off_in {st w : Sim} (hst : ∀ x ∈ st, 0 ≤ x ∧ x ≤ 3) : ∀ {n : Nat}, 0 ≤ off st w n ∧ off st w n ≤ 3 * n
  | 0 => by simp [off]
  | n + 1 => by
    have ih := off_in (w := w) hst (n := n)
    by_cases hn : n < w.length
    · have hb := st_nn hst (w[n]).toNat
      unfold off at ih ⊢
      rw [List.take_succ_eq_append_getElem hn, List.map_append, List.sum_append]
      simp only [List.map_cons, List.map_nil, List.sum_cons, List.sum_nil, Int.add_zero]
      omega
    · unfold off at ih ⊢
      rw [List.take_of_length_le (by omega)] at ih ⊢
      omega

theorem off_mono {st w : Sim} (hst : ∀ x ∈ st, 0 ≤ x ∧ x ≤ 3) {n m : Nat} (h : n ≤ m) : off st w n ≤ off st w m := by
  induction h with
  | refl => exact Int.le_refl _
  | @step m h ih =>
    by_cases hn : m < w.length
    · have hb := st_nn hst (w[m]).toNat
      unfold off at ih ⊢
      rw [List.take_succ_eq_append_getElem hn, List.map_append, List.sum_append]
      simp only [List.map_cons, List.map_nil, List.sum_cons, List.sum_nil, Int.add_zero]
      omega
    · unfold off at ih ⊢
      rw [List.take_of_length_le (show w.length ≤ m + 1 by omega)]
      rwa [List.take_of_length_le (show w.length ≤ m by omega)] at ih

theorem off_take {st w : Sim} {n : Nat} : off st (w.take n) (w.take n).length = off st w n := by
  unfold off; rw [List.take_of_length_le (Nat.le_refl _)]

theorem Plcs.le48 {c : List Sim} {w : Sim} (h : Plcs c w) : w.length ≤ c.length := by
  by_cases h0 : w.length = 0
  · omega
  · have hge : ∀ j, ∀ hj : j < w.length, (j : Int) ≤ w[j] := by
      intro j
      induction j with
      | zero => intro hj; exact (h.2 _ (List.getElem_mem hj)).1
      | succ j ih =>
        intro hj
        have h1 := ih (by omega)
        have h2 := h.1.lt hj (Nat.lt_succ_self j)
        omega
    have h1 := hge (w.length - 1) (by omega)
    have h2 := (h.2 _ (List.getElem_mem (show w.length - 1 < w.length by omega))).2
    omega

theorem l10Many_ret (x : Shf) (w : Sim) (hl : x.2.2.1.length = x.1.length) (hst : ∀ y ∈ x.2.2.1, 0 ≤ y ∧ y ≤ 3) (hw : w.length ≤ 1048576) (hpl : ∀ i (h : i < w.length), ∃ n : Nat, w[i] = (n : Int) ∧ n < x.1.length) :
    Ret E n_spec_l10Many [dS x, dL w] ⟨o_spec_l10Many, (off x.2.2.1 w w.length, ())⟩ := by
  refine ret_of ?_
  simp only [run_spec_l10Many, spec_l10Many.ev]
  refine Ev.start (p := fun φ n => spec_l10Many.l0 (mkR (run E (φ 0))) (φ 0) n x w 0 0 = _) 1 ?_ (fun _ _ _ h => h)
  refine fold_loop 1 (L := fun φ n k a => spec_l10Many.l0 (mkR (run E (φ 0))) (φ 0) n x w a k) (len := w.length) (fun k => off x.2.2.1 w k) (fun _ _ _ _ _ => rfl) (fun k r hk ih => ?_) ?_
  · simp only [spec_l10Many.l0_succ _ mk_ok]
    obtain ⟨s, hs, hsl⟩ := hpl k hk
    have hg : w[k]? = some (s : Int) := by rw [List.getElem?_eq_getElem hk, hs]
    have hss : s < x.2.2.1.length := by omega
    have hb := off_in (w := w) hst (n := k)
    have hb2 := hst _ (List.getElem_mem hss)
    rw [off_succ hk hs, getD_lt hss] at ih
    refine ev_t (decide_eq_true (by omega)) (ev_bind (idx_nat.trans hg) (ev_bind (idx_lt hss) ?_))
    rw [w64_succ (by omega), w64_small (by omega) (by omega)]; exact ih
  · simp only [spec_l10Many.l0_succ _ mk_ok]
    exact ev_f (decide_eq_false (by omega)) ev_rfl

def starts (st w : Sim) (n : Nat) : Sim := (List.range n).map (off st w)

theorem offsets_ret (x : Shf) (w : Sim) (hl : x.2.2.1.length = x.1.length) (hst : ∀ y ∈ x.2.2.1, 0 ≤ y ∧ y ≤ 3) (hw : w.length ≤ 1048576) (hpl : ∀ i (h : i < w.length), ∃ n : Nat, w[i] = (n : Int) ∧ n < x.1.length) :
    Ret E n_impl_offsets [dLL x.1, dI x.2.1, dL x.2.2.1, dMs x.2.2.2.1, dL w] ⟨o_impl_offsets, (starts x.2.2.1 w w.length, off x.2.2.1 w w.length, ())⟩ := by
  refine ret_of ?_
  simp only [run_impl_offsets, impl_offsets.ev]
  refine Ev.start (p := fun φ n => impl_offsets.l0 (mkR (run E (φ 0))) (φ 0) n 0 w (w.length : Int) 0 x.1 x.2.1 x.2.2.1 x.2.2.2.1 [] = _) 1 ?_ (fun _ _ _ h => h)
  have := fold_loop 1 (L := fun φ n k (a : Int × Sim) => impl_offsets.l0 (mkR (run E (φ 0))) (φ 0) n a.1 w (w.length : Int) k x.1 x.2.1 x.2.2.1 x.2.2.2.1 a.2) (len := w.length) (fun k => (off x.2.2.1 w k, starts x.2.2.1 w k)) (r := some ⟨o_impl_offsets, (starts x.2.2.1 w w.length, off x.2.2.1 w w.length, ())⟩) (fun _ _ _ _ _ => rfl) (fun k r hk ih => ?_) ?_
  · exact this
  · simp only [impl_offsets.l0_succ _ mk_ok]
    obtain ⟨s, hs, hsl⟩ := hpl k hk
    have hg : w[k]? = some (s : Int) := by rw [List.getElem?_eq_getElem hk, hs]
    have hss : s < x.2.2.1.length := by omega
    have hb := off_in (w := w) hst (n := k)
    have hb2 := hst _ (List.getElem_mem hss)
    have hle : (starts x.2.2.1 w k).length = k := by simp [starts]
    have es : starts x.2.2.1 w (k + 1) = starts x.2.2.1 w k ++ [off x.2.2.1 w k] := by
      unfold starts; rw [List.range_succ, List.map_append]; rfl
    rw [es] at ih
    simp only at ih
    rw [off_succ hk hs, getD_lt hss] at ih
    refine ev_t (decide_eq_true (by omega)) (ev_bind (idx_nat.trans hg) (ev_chk (decide_eq_true (by simp only [List.length_cons, List.length_nil, hle]; omega)) (ev_bind (idx_lt hss) ?_)))
    rw [w64_succ (by omega), w64_small (by omega) (by omega)]; exact ih
  · simp only [impl_offsets.l0_succ _ mk_ok]
    exact ev_f (decide_eq_false (by omega)) ev_rfl

end VeT

open Go Go.Proofs Ve
set_option linter.unusedVariables false
set_option linter.unusedSimpArgs false
namespace VeT

/-! remainders -/
def redV (a p : Int) : Int := Int.tmod (w64 (Int.tmod a p + p)) p

theorem redV_eq {a p : Int} (hp : 2 ≤ p ∧ p ≤ 251) (ha : -1048576 ≤ a ∧ a ≤ 1048576) : redV a p = a % p := by
  have h1 : -p < Int.tmod a p ∧ Int.tmod a p < p := by
    constructor
    · by_cases h : a < 0
      · have := Int.tmod_lt_of_pos (-a) (show 0 < p by omega)
        rw [Int.neg_tmod] at this; omega
      · have := Int.tmod_nonneg p (show 0 ≤ a by omega); omega
    · exact Int.tmod_lt_of_pos a (by omega)
  have h2 : Int.tmod a p % p = a % p := by
    have := Int.tmod_add_mul_tdiv a p
    have e : a = Int.tmod a p + p * Int.tdiv a p := this.symm
    conv => rhs; rw [e]
    rw [Int.add_mul_emod_self_left]
  unfold redV
  rw [w64_small (by omega) (by omega), Int.tmod_eq_emod_of_nonneg (by omega), Int.add_emod_right, h2]

theorem reduce_ret (a p : Int) (hp : 2 ≤ p) : Ret E n_impl_reduce [dI a, dI p] ⟨o_impl_reduce, (redV a p, ())⟩ := by
  refine ret_of ?_
  simp only [run_impl_reduce, impl_reduce.ev]
  exact ev_chk (by simp; omega) (ev_chk (by simp; omega) ev_rfl)

theorem l03Mod_ret (a p : Int) (hp : 2 ≤ p) : Ret E n_spec_l03Mod [dI a, dI p] ⟨o_spec_l03Mod, (redV a p, ())⟩ := by
  refine ret_of ?_
  simp only [run_spec_l03Mod, spec_l03Mod.ev]
  exact ev_chk (by simp; omega) (ev_chk (by simp; omega) ev_rfl)

theorem addTimes_ret (a b : Sim) (c p : Int) (hp : 2 ≤ p ∧ p ≤ 251) (hc : 0 ≤ c ∧ c ≤ 250) (hl : a.length ≤ b.length) (ha1 : a.length ≤ 1048576) (ea : ∀ x ∈ a, 0 ≤ x ∧ x ≤ 250) (eb : ∀ x ∈ b, 0 ≤ x ∧ x ≤ 250) :
    Ret E n_impl_addTimes [dL a, dL b, dI c, dI p] ⟨o_impl_addTimes, (addV a b c p, ())⟩ := by
  refine ret_of ?_
  simp only [run_impl_addTimes, impl_addTimes.ev]
  refine Ev.start (p := fun φ n => impl_addTimes.l0 (mkR (run E (φ 0))) (φ 0) n a b c p (a.length : Int) 0 [] = _) 1 ?_ (fun _ _ _ h => h)
  refine fold_loop 1 (L := fun φ n k o => impl_addTimes.l0 (mkR (run E (φ 0))) (φ 0) n a b c p (a.length : Int) k o) (len := a.length) (fun k => (List.range k).map fun i => (a.getD i 0 + c * b.getD i 0) % p) (fun _ _ _ _ _ => rfl) (fun k r hk ih => ?_) ?_
  · simp only [impl_addTimes.l0_succ _ mk_ok]
    have hkb : k < b.length := by omega
    have h1 := ea _ (List.getElem_mem hk)
    have h2 := mul_in hc (eb _ (List.getElem_mem hkb))
    rw [List.range_succ, List.map_append, List.map_singleton, getD_lt hk, getD_lt hkb] at ih
    refine ev_t (decide_eq_true (by omega)) (ev_bind (idx_lt hk) (ev_bind (idx_lt hkb) (ev_chk (by simp; omega) ?_)))
    rw [w64_small (n := c * b[k]) (by omega) (by omega), w64_small (by omega) (by omega), Int.tmod_eq_emod_of_nonneg (by omega), w64_succ (by omega)]
    exact ev_chk (by simp; omega) ih
  · simp only [impl_addTimes.l0_succ _ mk_ok]
    exact ev_f (decide_eq_false (by omega)) ev_rfl

/-! inverses -/
theorem sq_pow {a : Int} : ∀ k : Nat, (a * a) ^ k = a ^ (k + k)
  | 0 => by rw [Int.pow_zero, Nat.add_zero, Int.pow_zero]
  | k + 1 => by rw [Int.pow_succ, sq_pow k, show k + 1 + (k + 1) = k + k + 1 + 1 by omega, Int.pow_succ, Int.pow_succ, Int.mul_assoc]

theorem powerOf_ret (a : Int) (n : Nat) (p : Int) (hp : 2 ≤ p ∧ p ≤ 251) (ha : 0 ≤ a ∧ a ≤ p - 1) (hn : n ≤ 1048576) : Ret E n_impl_powerOf [dI a, dI (n : Int), dI p] ⟨o_impl_powerOf, (a ^ n % p, ())⟩ := by
  refine ret_of ?_
  simp only [run_impl_powerOf, impl_powerOf.ev]
  refine Ev.start (p := fun φ m => impl_powerOf.l0 (mkR (run E (φ 0))) (φ 0) m a (n : Int) p 1 = _) 1 ?_ (fun _ _ _ h => h)
  refine loopR 1 (σ := Int × Nat × Int) (L := fun φ m s => impl_powerOf.l0 (mkR (run E (φ 0))) (φ 0) m s.1 (s.2.1 : Int) p s.2.2) (fun _ _ _ _ => rfl) (fun s => (0 ≤ s.1 ∧ s.1 ≤ p - 1) ∧ s.2.1 ≤ 1048576 ∧ (0 ≤ s.2.2 ∧ s.2.2 ≤ p - 1) ∧ s.2.2 * s.1 ^ s.2.1 % p = a ^ n % p) (fun _ => _) (fun s => s.2.1) (fun s hi ih => ?_) (a, n, 1) ⟨ha, hn, by show 0 ≤ (1 : Int) ∧ (1 : Int) ≤ p - 1; omega, by show 1 * a ^ n % p = _; rw [Int.one_mul]⟩
  obtain ⟨b, m, q⟩ := s
  obtain ⟨h1, h2, h3, h4⟩ := hi
  simp only at h1 h2 h3 h4 ih
  simp only [impl_powerOf.l0_succ _ mk_ok]
  have hbb := mul_in (x := b) (y := b) (by omega) (by omega)
  have hqb := mul_in (x := q) (y := b) (by omega) (by omega)
  have e1 : w64 (b * b) = b * b := w64_small (by omega) (by omega)
  have e2 : w64 (q * b) = q * b := w64_small (by omega) (by omega)
  have e3 : Int.tdiv (m : Int) 2 = ((m / 2 : Nat) : Int) := rfl
  have e4 : w64 ((m / 2 : Nat) : Int) = ((m / 2 : Nat) : Int) := w64_small (by omega) (by omega)
  have e5 : Int.tmod (m : Int) 2 = ((m % 2 : Nat) : Int) := rfl
  refine ev_d (fun hm => ?_) fun hm => ev_some ?_
  · rw [e5, e1, e2, e3, e4, Int.tmod_eq_emod_of_nonneg (by omega), Int.tmod_eq_emod_of_nonneg (by omega)]
    have hd : m / 2 < m := by omega
    refine ev_b (fun ho => ev_chk (by simp; omega) (ev_chk (by simp; omega) ?_)) fun he => ev_chk (by simp; omega) ?_
    · have ho : m % 2 = 1 := by have : ((m % 2 : Nat) : Int) = 1 := by simpa using ho
                                omega
      refine ih (b * b % p, m / 2, q * b % p) ⟨emod_in (by omega), by show m / 2 ≤ _; omega, emod_in (by omega), ?_⟩ hd
      rw [← h4]
      show q * b % p * (b * b % p) ^ (m / 2) % p = _
      have hx : (q * b % p) % p = (q * b) % p := Int.emod_emod_of_dvd _ (Int.dvd_refl p)
      have hy : (b * b % p) ^ (m / 2) % p = (b * b) ^ (m / 2) % p := pow_congr (Int.emod_emod_of_dvd _ (Int.dvd_refl p)) _
      rw [mul_congr hx hy, sq_pow]
      have hm2 : m = m / 2 + m / 2 + 1 := by omega
      conv => rhs; rw [hm2, Int.pow_succ]
      rw [Int.mul_assoc, Int.mul_comm b]
    · have he : m % 2 = 0 := by
        have : ¬ ((m % 2 : Nat) : Int) = 1 := by simpa using he
        omega
      refine ih (b * b % p, m / 2, q) ⟨emod_in (by omega), by show m / 2 ≤ _; omega, h3, ?_⟩ hd
      rw [← h4]
      show q * (b * b % p) ^ (m / 2) % p = _
      have hy : (b * b % p) ^ (m / 2) % p = (b * b) ^ (m / 2) % p := pow_congr (Int.emod_emod_of_dvd _ (Int.dvd_refl p)) _
      rw [mul_congr rfl hy, sq_pow]
      have hm2 : m = m / 2 + m / 2 := by omega
      conv => rhs; rw [hm2]
  · have hm : m = 0 := by omega
    subst hm
    have : q = a ^ n % p := by rw [← h4, Int.pow_zero, Int.mul_one, Int.emod_eq_of_lt (by omega) (by omega)]
    rw [this]

theorem inverseOf_ret (a p : Int) (hp : 2 ≤ p ∧ p ≤ 251) (ha : 0 ≤ a ∧ a ≤ p - 1) : Ret E n_impl_inverseOf [dI a, dI p] ⟨o_impl_inverseOf, (invF a p, ())⟩ := by
  have e : w64 (p - 2) = (((p - 2).toNat : Nat) : Int) := by rw [w64_small (by omega) (by omega)]; omega
  refine ret_of ?_
  simp only [run_impl_inverseOf, impl_inverseOf.ev, e]
  exact ev_call (powerOf_ret a (p - 2).toNat p hp ha (by omega)) ev_rfl

theorem l03Inverse_ret (a p : Int) (hp : 2 ≤ p ∧ p ≤ 251) (ha : 0 ≤ a ∧ a ≤ p - 1) : Ret E n_spec_l03Inverse [dI a, dI p] ⟨o_spec_l03Inverse, (invF a p, ())⟩ := by
  have e : w64 (p - 2) = (((p - 2).toNat : Nat) : Int) := by rw [w64_small (by omega) (by omega)]; omega
  refine ret_of ?_
  simp only [run_spec_l03Inverse, spec_l03Inverse.ev, e]
  refine Ev.start (p := fun φ m => spec_l03Inverse.l0 (mkR (run E (φ 0))) (φ 0) m a p 1 (((p - 2).toNat : Nat) : Int) = _) 1 ?_ (fun _ _ _ h => h)
  refine loopR 1 (σ := Nat × Int) (L := fun φ m s => spec_l03Inverse.l0 (mkR (run E (φ 0))) (φ 0) m a p s.2 (s.1 : Int)) (fun _ _ _ _ => rfl) (fun s => s.1 ≤ 1048576 ∧ (0 ≤ s.2 ∧ s.2 ≤ p - 1) ∧ s.2 * a ^ s.1 % p = a ^ (p - 2).toNat % p) (fun _ => _) (fun s => s.1) (fun s hi ih => ?_) ((p - 2).toNat, 1) ⟨by show (p - 2).toNat ≤ _; omega, by show 0 ≤ (1 : Int) ∧ (1 : Int) ≤ p - 1; omega, by show 1 * _ % p = _; rw [Int.one_mul]⟩
  obtain ⟨m, q⟩ := s
  obtain ⟨h2, h3, h4⟩ := hi
  simp only at h2 h3 h4 ih
  simp only [spec_l03Inverse.l0_succ _ mk_ok]
  have hqa := mul_in (x := q) (y := a) (by omega) (by omega)
  refine ev_d (fun hm => ev_chk (by simp; omega) ?_) fun hm => ev_some ?_
  · rw [w64_small (n := q * a) (by omega) (by omega), Int.tmod_eq_emod_of_nonneg (by omega), w64_small (by omega) (by omega), show (m : Int) - 1 = ((m - 1 : Nat) : Int) by omega]
    refine ih (m - 1, q * a % p) ⟨by show m - 1 ≤ _; omega, emod_in (by omega), ?_⟩ (by show m - 1 < m; omega)
    rw [← h4]
    show q * a % p * a ^ (m - 1) % p = _
    have hx : (q * a % p) % p = (q * a) % p := Int.emod_emod_of_dvd _ (Int.dvd_refl p)
    rw [mul_congr hx rfl]
    conv => rhs; rw [show m = m - 1 + 1 by omega, Int.pow_succ]
    rw [Int.mul_assoc, Int.mul_comm a]
  · have hm : m = 0 := by omega
    subst hm
    have : q = invF a p := by unfold invF; rw [← h4, Int.pow_zero, Int.mul_one, Int.emod_eq_of_lt (by omega) (by omega)]
    rw [this]

/-! rows as functions -/
theorem addV_map {f g : Nat → Int} {W : Nat} {c p : Int} : addV ((List.range W).map f) ((List.range W).map g) c p = (List.range W).map fun j => (f j + c * g j) % p := by
  unfold addV
  rw [List.length_map, List.length_range]
  refine List.map_congr_left fun j hj => ?_
  have hj := List.mem_range.1 hj
  simp [List.getD_eq_getElem?_getD, hj]

theorem zeros_map {W : Nat} : List.replicate W (0 : Int) = (List.range W).map fun _ => 0 := by
  rw [List.map_const', List.length_range]

theorem map_in {f : Nat → Int} {W : Nat} {p : Int} (hp : p ≤ 251) (h : ∀ j, j < W → 0 ≤ f j ∧ f j ≤ p - 1) : ∀ x ∈ (List.range W).map f, 0 ≤ x ∧ x ≤ 250 := fun x hx => by
  obtain ⟨j, hj, rfl⟩ := List.mem_map.1 hx
  have := h j (List.mem_range.1 hj)
  omega

def pvL (l : List Nat) : Sim := l.map fun (n : Nat) => (n : Int)

theorem pvL_length {l : List Nat} : (pvL l).length = l.length := by simp [pvL]
theorem pvL_add {l : List Nat} {c : Nat} : pvL (l ++ [c]) = pvL l ++ [(c : Int)] := by simp [pvL]

theorem idxf_first {A : Ent} {R W c top : Nat} (hc : c < W) (ht : top ≤ R) : idxf (fun row : Sim => row.getD c 0 != 0) ((rowsE A R W).drop top) = o2i ((firstN (fun i => A i c ≠ 0) top (R - top)).map fun q => q - top) := by
  have hlen : ((rowsE A R W).drop top).length = R - top := by rw [List.length_drop, rowsE_length]
  have hget : ∀ k (h : k < ((rowsE A R W).drop top).length), (((rowsE A R W).drop top)[k].getD c 0 != 0) = true ↔ A (top + k) c ≠ 0 := fun k h => by
    rw [hlen] at h
    have h1 := rowsE_get (A := A) (W := W) (show top + k < R by omega)
    have h2 : ((rowsE A R W).drop top)[k]? = some ((List.range W).map (A (top + k))) := by rw [List.getElem?_drop]; exact h1
    rw [List.getElem?_eq_getElem (by rw [hlen]; exact h)] at h2
    rw [Option.some.inj h2, List.getD_eq_getElem?_getD, row_get hc]
    simp
  symm
  refine idxf_of (fun k hk => ?_) fun hno j hj ⟨hj', hP⟩ => ?_
  · cases hf : firstN (fun i => A i c ≠ 0) top (R - top) with
    | none => rw [hf] at hk; cases hk
    | some q =>
      rw [hf] at hk
      have hk : q - top = k := Option.some.inj hk
      have h1 := firstN_some hf
      have hkl : k < ((rowsE A R W).drop top).length := by rw [hlen]; omega
      refine ⟨hkl, ⟨hkl, (hget k hkl).2 (by rw [show top + k = q by omega]; exact h1.2.2)⟩, fun j hj ⟨hj', hP⟩ => ?_⟩
      exact firstN_min hf (top + j) (by omega) (by omega) ((hget j hj').1 hP)
  · cases hf : firstN (fun i => A i c ≠ 0) top (R - top) with
    | none => exact firstN_none hf (top + j) (by omega) (by rw [hlen] at hj; omega) ((hget j hj').1 hP)
    | some q => rw [hf] at hno; cases hno

end VeT

open Go Go.Proofs Ve
set_option linter.unusedVariables false
set_option linter.unusedSimpArgs false
namespace VeT

theorem eliminate_1_ret (row : Sim) (c : Nat) (hc : c < row.length) : Ret E n_impl_eliminate_1 [dL row, ⟨.ptr (.cons (.int .i64) .nil), ((c : Int), ())⟩] ⟨o_impl_eliminate_1, (row.getD c 0 != 0, ())⟩ := by
  rw [getD_lt hc]
  refine ret_of ?_
  simp only [run_impl_eliminate_1, impl_eliminate_1.ev]
  exact ev_bind (idx_lt hc) ev_rfl

/-- the steps of the last loop: rows below k are done -/
def elK (p : Int) (c top k : Nat) (B : Ent) : Ent := fun i j => if i < k then elF p c top B i j else elM p c top B i j

theorem elK_zero {p : Int} {c top : Nat} {B : Ent} {R W : Nat} : rowsE (elK p c top 0 B) R W = rowsE (elM p c top B) R W := rowsE_congr fun i j _ _ => by simp [elK]
theorem elK_all {p : Int} {c top : Nat} {B : Ent} {R W : Nat} : rowsE (elK p c top R B) R W = rowsE (elF p c top B) R W := rowsE_congr fun i j hi _ => by simp [elK, hi]

theorem elSw_rows {top q R W : Nat} {A : Ent} (ht : top < R) (hq : q < R) (hne : q ≠ top) : ((rowsE A R W).set top ((List.range W).map (A q))).set q ((List.range W).map (A top)) = rowsE (elSw top q A) R W := by
  rw [rowsE_set, rowsE_set]
  refine rowsE_congr fun i j _ _ => ?_
  unfold elSw
  by_cases h1 : i = q
  · subst h1; simp [hne]
  · by_cases h2 : i = top
    · subst h2; simp [h1]
    · simp [h1, h2]

theorem elSw_self {top R W : Nat} {A : Ent} : rowsE (elSw top top A) R W = rowsE A R W := rowsE_congr fun i j _ _ => by
  unfold elSw
  by_cases h : i = top
  · subst h; simp
  · simp [h]

theorem eliminate_ret (A : Ent) (R W : Nat) (p : Int) (hp : 2 ≤ p ∧ p ≤ 251) (hR : R ≤ 1048576) (hW : W ≤ 1048576) (hA : EIn p R W A) :
    ∃ det : Int, Ret E n_impl_eliminate [dLL (rowsE A R W), dI (W : Int), dI p] ⟨o_impl_eliminate, (pvL (elS p R A W).2, det, rowsE (elS p R A W).1 R W, ())⟩ := by
  have key : ∀ d c det, c + d = W → ∃ det' : Int, Ev fun φ => impl_eliminate.l0 (mkR (run E (φ 0))) (φ 0) (φ 1) (W : Int) p det (W : Int) (c : Int) (pvL (elS p R A c).2) (rowsE (elS p R A c).1 R W) = some ⟨o_impl_eliminate, (pvL (elS p R A W).2, det', rowsE (elS p R A W).1 R W, ())⟩ := by
    intro d
    induction d with
    | zero =>
      intro c det hc
      obtain rfl : c = W := by omega
      refine ⟨det, Ev.round 1 (L := fun φ n => impl_eliminate.l0 (mkR (run E (φ 0))) (φ 0) n (c : Int) p det (c : Int) (c : Int) (pvL (elS p R A c).2) (rowsE (elS p R A c).1 R c)) ?_ (fun _ _ _ => rfl)⟩
      simp only [impl_eliminate.l0_succ _ mk_ok]
      exact ev_f (decide_eq_false (by omega)) ev_rfl
    | succ d ih =>
      intro c det hcd
      have hc : c < W := by omega
      obtain ⟨hB, hpl, hpc, _⟩ := elS_in hp.1 hA c
      have hstep : elS p R A (c + 1) = elP p R c (elS p R A c) := rfl
      generalize hS : elS p R A c = S at hB hpl hpc hstep
      obtain ⟨B0, pv⟩ := S
      simp only at hB hpl hpc hstep
      have hlen : (rowsE B0 R W).length = R := rowsE_length
      have hI := IndexFunc_SSint64_Sint64_impl_eliminate_1_ret ((rowsE B0 R W).drop pv.length) (((c : Int), ()), ()) (fun row => row.getD c 0 != 0) (by rw [List.length_drop, hlen]; omega) fun row hrow => eliminate_1_ret row c (by
        have := List.mem_of_mem_drop hrow
        unfold rowsE at this
        obtain ⟨i, _, rfl⟩ := List.mem_map.1 this
        simpa using hc)
      rw [idxf_first hc hpl] at hI
      cases hf : firstN (fun i => B0 i c ≠ 0) pv.length (R - pv.length) with
      | none =>
        rw [hf] at hI
        have e : elS p R A (c + 1) = (B0, pv) := by rw [hstep, elP]; simp only [hf]
        obtain ⟨det', h'⟩ := ih (c + 1) 0 (by omega)
        rw [e] at h'
        refine ⟨det', Ev.round 1 (L := fun φ n => impl_eliminate.l0 (mkR (run E (φ 0))) (φ 0) n (W : Int) p det (W : Int) (c : Int) (pvL pv) (rowsE B0 R W)) ?_ (fun _ _ _ => rfl)⟩
        simp only [impl_eliminate.l0_succ _ mk_ok, pvL_length, hlen, Int.toNat_natCast]
        rw [show List.take R (rowsE B0 R W) = rowsE B0 R W from List.take_of_length_le (by omega)]
        refine ev_t (decide_eq_true (by omega)) (ev_chk (by simp only [Bool.and_eq_true, decide_eq_true_eq]; omega) (ev_call hI (ev_t rfl ?_)))
        rw [w64_succ (by omega)]
        exact h'
      | some q =>
        rw [hf] at hI
        have hq := firstN_some hf
        have e : elS p R A (c + 1) = (elF p c pv.length (elSw pv.length q B0), pv ++ [c]) := by rw [hstep, elP]; simp only [hf]
        generalize ht : pv.length = top at hI hq e hpl hpc
        have htR : top < R := by omega
        have hqR : q < R := by omega
        have hsw := hB.sw htR hqR
        have hlead : 1 ≤ elSw top q B0 top c ∧ elSw top q B0 top c ≤ p - 1 := by
          have h1 := hsw top c htR hc
          have h2 : elSw top q B0 top c = B0 q c := by simp [elSw]
          have h3 := hq.2.2
          rw [← h2] at h3
          omega
        have hI' : Ret E n_slices_IndexFunc_SSint64_Sint64 [dLL ((rowsE B0 R W).drop top), ⟨.fn n_impl_eliminate_1 (.cons (.ptr (.cons (.int .i64) .nil)) .nil), (((c : Int), ()), ())⟩] ⟨o_slices_IndexFunc_SSint64_Sint64, (((q - top : Nat) : Int), ())⟩ := hI
        -- what lies behind the exchange
        have back : ∀ det2, ∃ det', Ev fun φ => impl_eliminate.j1 (mkR (run E (φ 0))) (φ 0) (φ 1) (W : Int) p det2 (top : Int) (W : Int) (c : Int) (c : Int) (pvL pv) (rowsE (elSw top q B0) R W) = some ⟨o_impl_eliminate, (pvL (elS p R A W).2, det', rowsE (elS p R A W).1 R W, ())⟩ := fun det2 => by
          generalize elSw top q B0 = B at hsw hlead e
          obtain ⟨det', h'⟩ := ih (c + 1) (Int.tmod (w64 (det2 * B top c)) p) (by omega)
          rw [e] at h'
          simp only at h'
          rw [pvL_add, ← elK_all] at h'
          have hBl : (rowsE B R W).length = R := rowsE_length
          have hNin : ∀ j, 0 ≤ elN p c top B j ∧ elN p c top B j ≤ p - 1 := fun j => emod_in hp.1
          have hinv := invF_in (a := B top c) (p := p) hp.1
          have hinvR := inverseOf_ret (B top c) p hp ⟨by omega, hlead.2⟩
          have hgt := rowsE_get (A := B) (W := W) htR
          have hat : Ret E n_impl_addTimes [dL (List.replicate W 0), dL ((List.range W).map (B top)), dI (invF (B top c) p), dI p] ⟨o_impl_addTimes, ((List.range W).map (elN p c top B), ())⟩ := by
            have := addTimes_ret (List.replicate W 0) ((List.range W).map (B top)) (invF (B top c) p) p hp (by omega) (by simp) (by rw [List.length_replicate]; exact hW) (fun x hx => by rw [List.mem_replicate] at hx; omega) (map_in hp.2 fun j hj => hsw top j htR hj)
            rw [zeros_map, addV_map, ← zeros_map] at this
            have e2 : ((List.range W).map fun j => (0 + invF (B top c) p * B top j) % p) = (List.range W).map (elN p c top B) := List.map_congr_left fun j _ => by
              rw [Int.zero_add, Int.mul_comm]; rfl
            rw [e2] at this
            exact this
          have hset : (rowsE B R W).set top ((List.range W).map (elN p c top B)) = rowsE (elK p c top 0 B) R W := by
            rw [rowsE_set, elK_zero]; rfl
          refine ⟨det', ?_⟩
          -- the loop over the rows
          have loop : Ev fun φ => impl_eliminate.j2 (mkR (run E (φ 0))) (φ 0) (φ 1) (W : Int) p (Int.tmod (w64 (det2 * B top c)) p) (top : Int) (W : Int) (c : Int) (c : Int) (pvL pv) (rowsE (elK p c top 0 B) R W) = some ⟨o_impl_eliminate, (pvL (elS p R A W).2, det', rowsE (elS p R A W).1 R W, ())⟩ := by
            simp only [impl_eliminate.j2_eq _ mk_ok, rowsE_length]
            generalize Int.tmod (w64 (det2 * B top c)) p = D at h' ⊢
            refine Ev.start (p := fun φ n => impl_eliminate.l3 (mkR (run E (φ 0))) (φ 0) (φ 1) n (W : Int) p D (top : Int) (W : Int) (c : Int) (R : Int) 0 (c : Int) (pvL pv) (rowsE (elK p c top 0 B) R W) = _) 2 ?_ (fun _ _ _ h => h)
            refine fold_loop 2 (L := fun φ n i S => impl_eliminate.l3 (mkR (run E (φ 0))) (φ 0) (φ 1) n (W : Int) p D (top : Int) (W : Int) (c : Int) (R : Int) i (c : Int) (pvL pv) S) (len := R) (fun i => rowsE (elK p c top i B) R W) (fun _ _ _ _ _ => rfl) (fun i r hi ih2 => ?_) ?_
            · simp only [impl_eliminate.l3_succ _ mk_ok, rowsE_length, Int.toNat_natCast]
              have hrow : (rowsE (elK p c top i B) R W)[i]? = some ((List.range W).map (elM p c top B i)) := by
                rw [rowsE_get hi]
                have : elK p c top i B i = elM p c top B i := funext fun j => by simp [elK]
                rw [this]
              have htop : (rowsE (elK p c top i B) R W)[top]? = some ((List.range W).map (elN p c top B)) := by
                rw [rowsE_get htR]
                have : elK p c top i B top = elN p c top B := funext fun j => by simp [elK, elF, elM]
                rw [this]
              refine ev_t (decide_eq_true (by omega)) (ev_chk (by simp only [Bool.and_eq_true, decide_eq_true_eq]; omega) (ev_bind hrow ?_))
              by_cases hit : i = top
              · subst hit
                refine ev_f (by simp) ?_
                simp only [impl_eliminate.j4_eq _ mk_ok, cond_false]
                have hsame : rowsE (elK p c i (i + 1) B) R W = rowsE (elK p c i i B) R W := rowsE_congr fun k j _ _ => by
                  unfold elK
                  by_cases h1 : k = i
                  · subst h1; simp [elF, elM]
                  · by_cases h2 : k < i
                    · rw [if_pos (by omega), if_pos h2]
                    · rw [if_neg (by omega), if_neg h2]
                rw [hsame] at ih2
                rw [w64_succ (by omega)]; exact ih2
              · have hM : elM p c top B i = B i := funext fun j => by simp [elM, hit]
                rw [hM]
                have hBi := hsw i c hi hc
                refine ev_t (by simp; omega) (ev_bind (idx_nat.trans (row_get hc)) ?_)
                by_cases hz : B i c = 0
                · simp only [hz, bne_self_eq_false, impl_eliminate.j4_eq _ mk_ok, cond_false]
                  have hsame : rowsE (elK p c top (i + 1) B) R W = rowsE (elK p c top i B) R W := rowsE_congr fun k j _ _ => by
                    unfold elK
                    by_cases h1 : k = i
                    · subst h1; simp [elF, elM, hit, hz]
                    · by_cases h2 : k < i
                      · rw [if_pos (by omega), if_pos h2]
                      · rw [if_neg (by omega), if_neg h2]
                  rw [hsame] at ih2
                  rw [w64_succ (by omega)]; exact ih2
                · have hne : (B i c != 0) = true := by simpa using hz
                  have ec : w64 (p - B i c) = p - B i c := w64_small (by omega) (by omega)
                  simp only [hne, impl_eliminate.j4_eq _ mk_ok, cond_true, rowsE_length, Int.toNat_natCast]
                  refine ev_chk (by simp only [Bool.and_eq_true, decide_eq_true_eq]; omega) (ev_bind htop (ev_bind (idx_nat.trans (row_get hc)) ?_))
                  simp only [ec]
                  have hat2 := addTimes_ret ((List.range W).map (B i)) ((List.range W).map (elN p c top B)) (p - B i c) p hp (by omega) (by simp) (by simpa using hW) (map_in hp.2 fun j hj => hsw i j hi hj) (map_in hp.2 fun j _ => hNin j)
                  rw [addV_map] at hat2
                  refine ev_call hat2 (ev_chk (by simp only [Bool.and_eq_true, decide_eq_true_eq]; omega) ?_)
                  have hset2 : (rowsE (elK p c top i B) R W).set i ((List.range W).map fun j => (B i j + (p - B i c) * elN p c top B j) % p) = rowsE (elK p c top (i + 1) B) R W := by
                    rw [rowsE_set]
                    refine rowsE_congr fun k j _ _ => ?_
                    unfold elK
                    by_cases h1 : k = i
                    · subst h1; simp [elF, hit, hz]
                    · by_cases h2 : k < i
                      · rw [if_neg h1, if_pos h2, if_pos (by omega)]
                      · rw [if_neg h1, if_neg h2, if_neg (by omega)]
                  rw [w64_succ (by omega)]
                  rw [← hset2] at ih2
                  exact ih2
            · simp only [impl_eliminate.l3_succ _ mk_ok]
              refine ev_f (decide_eq_false (by omega)) (ev_chk (by simp only [pvL_length, List.length_cons, List.length_nil, decide_eq_true_eq]; omega) ?_)
              rw [w64_succ (by omega)]
              exact h'
          simp only [impl_eliminate.j1_eq _ mk_ok, rowsE_length, Int.toNat_natCast]
          have hck : (decide ((0 : Int) ≤ (top : Int)) && decide ((top : Int) < (R : Int))) = true := by simp only [Bool.and_eq_true, decide_eq_true_eq]; omega
          have hcw : (decide ((0 : Int) ≤ (W : Int)) && decide ((W : Int) * 8 ≤ 70368744177664)) = true := by simp only [Bool.and_eq_true, decide_eq_true_eq]; omega
          have fin := loop
          rw [← hset] at fin
          exact ev_chk hck (ev_bind hgt (ev_bind (idx_nat.trans (row_get hc)) (ev_chk (by simp; omega) (ev_chk hck (ev_bind hgt (ev_both (ev_chk hcw (ev_call hinvR (ev_call hat (ev_chk hck fin)))) (ev_call hinvR (ev_chk hcw (ev_call hat (ev_chk hck fin))))))))))
        by_cases hqt : q = top
        · subst hqt
          obtain ⟨det', h'⟩ := back det
          rw [elSw_self] at h'
          refine ⟨det', Ev.round 1 (L := fun φ n => impl_eliminate.l0 (mkR (run E (φ 0))) (φ 0) n (W : Int) p det (W : Int) (c : Int) (pvL pv) (rowsE B0 R W)) ?_ (fun _ _ _ => rfl)⟩
          simp only [impl_eliminate.l0_succ _ mk_ok, pvL_length, hlen, Int.toNat_natCast, ht]
          rw [show List.take R (rowsE B0 R W) = rowsE B0 R W from List.take_of_length_le (by omega)]
          refine ev_t (decide_eq_true (by omega)) (ev_chk (by simp only [Bool.and_eq_true, decide_eq_true_eq]; omega) (ev_call hI' ?_))
          rw [Nat.sub_self]
          exact ev_f rfl (ev_f rfl h')
        · obtain ⟨det', h'⟩ := back (redV (w64 (0 - det)) p)
          rw [← elSw_rows htR hqR hqt] at h'
          refine ⟨det', Ev.round 1 (L := fun φ n => impl_eliminate.l0 (mkR (run E (φ 0))) (φ 0) n (W : Int) p det (W : Int) (c : Int) (pvL pv) (rowsE B0 R W)) ?_ (fun _ _ _ => rfl)⟩
          simp only [impl_eliminate.l0_succ _ mk_ok, pvL_length, hlen, Int.toNat_natCast, ht]
          rw [show List.take R (rowsE B0 R W) = rowsE B0 R W from List.take_of_length_le (by omega)]
          have e3 : w64 ((top : Int) + ((q - top : Nat) : Int)) = (q : Int) := by rw [w64_small (by omega) (by omega)]; omega
          refine ev_t (decide_eq_true (by omega)) (ev_chk (by simp only [Bool.and_eq_true, decide_eq_true_eq]; omega) (ev_call hI' (ev_f (decide_eq_false (Int.not_lt.2 (Int.natCast_nonneg _))) (ev_t (decide_eq_true (by show (0 : Int) < ((q - top : Nat) : Int); omega)) ?_))))
          simp only [e3, Int.toNat_natCast, List.length_set, hlen]
          have hck : (decide ((0 : Int) ≤ (top : Int)) && decide ((top : Int) < (R : Int))) = true := by simp only [Bool.and_eq_true, decide_eq_true_eq]; omega
          have hckq : (decide ((0 : Int) ≤ (q : Int)) && decide ((q : Int) < (R : Int))) = true := by simp only [Bool.and_eq_true, decide_eq_true_eq]; omega
          exact ev_chk hckq (ev_bind (rowsE_get hqR) (ev_chk hck (ev_bind (rowsE_get htR) (ev_chk hck (ev_chk hckq (ev_call (reduce_ret (w64 (0 - det)) p hp.1) h'))))))
  obtain ⟨det', h⟩ := key W 0 1 (by omega)
  refine ⟨det', ret_of ?_⟩
  simp only [run_impl_eliminate, impl_eliminate.ev]
  exact Ev.start (p := fun φ n => impl_eliminate.l0 (mkR (run E (φ 0))) (φ 0) n (W : Int) p 1 (W : Int) 0 [] (rowsE A R W) = _) 1 h (fun _ _ _ h => h)

end VeT

open Go Go.Proofs Ve
set_option linter.unusedVariables false
set_option linter.unusedSimpArgs false
namespace VeT

theorem ix_eq {i W j : Nat} (h : i * W + j ≤ 4611686018427387904) : w64 (w64 ((i : Int) * (W : Int)) + (j : Int)) = ((i * W + j : Nat) : Int) := by
  rw [cast_mul, w64_small (n := ((i * W : Nat) : Int)) (by omega) (by omega), w64_small (by omega) (by omega)]; omega

/-- a flat matrix' entry, as the evaluator reads and writes it -/
theorem flat_at {A : Ent} {R W i j : Nat} (hi : i < R) (hj : j < W) (hRW : R * W ≤ 1048576) : (decide ((0 : Int) ≤ ((i * W + j : Nat) : Int)) && decide (((i * W + j : Nat) : Int) < ((flatF A W R).length : Int))) = true ∧ (flatF A W R)[i * W + j]? = some (A i j) := by
  have := lt_rc hi hj
  refine ⟨?_, flatF_getD hi hj⟩
  simp only [Bool.and_eq_true, decide_eq_true_eq, flatF_length]; omega

theorem l03Reduced_ret (p : Int) (R W : Nat) (cells : Sim) (hp : 2 ≤ p ∧ p ≤ 251) (hR : R ≤ 1048576) (hW : W ≤ 1048576) (hRW : R * W ≤ 1048576) (hl : cells.length = R * W) (he : Elems cells p) :
    ∃ det : Int, Ret E n_spec_l03Reduced [dM (p, (R : Int), (W : Int), cells, ())] ⟨o_spec_l03Reduced, (p, (R : Int), (W : Int), flatF (elS p R (entM cells W) W).1 W R, pvL (elS p R (entM cells W) W).2, det, ())⟩ := by
  generalize hMt : (p, (R : Int), (W : Int), cells, ()) = M
  have M1 : M.1 = p := by rw [← hMt]
  have M2 : M.2.1 = (R : Int) := by rw [← hMt]
  have M3 : M.2.2.1 = (W : Int) := by rw [← hMt]
  have M4 : M.2.2.2.1 = cells := by rw [← hMt]
  have hA := entM_in he hl
  have hfl := entM_flat hl
  generalize entM cells W = A at hA hfl
  let G : Int → Option Dv := fun det => some ⟨o_spec_l03Reduced, (p, (R : Int), (W : Int), flatF (elS p R A W).1 W R, pvL (elS p R A W).2, det, ())⟩
  -- a column where no row is left
  have none_of : ∀ c, (elS p R A c).2.length = R → elS p R A (c + 1) = elS p R A c := fun c h => by
    show elP p R c (elS p R A c) = _
    rw [elP, h, Nat.sub_self]; rfl
  have stay : ∀ d c, c + d = W → (elS p R A c).2.length = R → elS p R A W = elS p R A c := by
    intro d
    induction d with
    | zero => intro c hc _; rw [show c = W by omega]
    | succ d ih =>
      intro c hc h
      have e := none_of c h
      rw [ih (c + 1) (by omega) (by rw [e]; exact h), e]
  have key : ∀ d c det, c + d = W → ∃ det' : Int, Ev fun φ => spec_l03Reduced.l1 (mkR (run E (φ 0))) (φ 0) (φ 1) M p (W : Int) det ((elS p R A c).2.length : Int) (c : Int) 0 0 0 p (R : Int) (W : Int) (pvL (elS p R A c).2) (flatF (elS p R A c).1 W R) = G det' := by
    intro d
    induction d with
    | zero =>
      intro c det hc
      obtain rfl : c = W := by omega
      refine ⟨det, Ev.round 1 (L := fun φ n => spec_l03Reduced.l1 (mkR (run E (φ 0))) (φ 0) n M p (c : Int) det ((elS p R A c).2.length : Int) (c : Int) 0 0 0 p (R : Int) (c : Int) (pvL (elS p R A c).2) (flatF (elS p R A c).1 c R)) ?_ (fun _ _ _ => rfl)⟩
      simp only [spec_l03Reduced.l1_succ _ mk_ok, spec_l03Reduced.j2_eq _ mk_ok, cond_false]
      exact ev_f (decide_eq_false (by omega)) ev_rfl
    | succ d ih =>
      intro c det hcd
      have hc : c < W := by omega
      obtain ⟨hB, hpl, hpc, _⟩ := elS_in hp.1 hA c
      have hstep : elS p R A (c + 1) = elP p R c (elS p R A c) := rfl
      by_cases hfull : (elS p R A c).2.length = R
      · refine ⟨det, Ev.round 1 (L := fun φ n => spec_l03Reduced.l1 (mkR (run E (φ 0))) (φ 0) n M p (W : Int) det ((elS p R A c).2.length : Int) (c : Int) 0 0 0 p (R : Int) (W : Int) (pvL (elS p R A c).2) (flatF (elS p R A c).1 W R)) ?_ (fun _ _ _ => rfl)⟩
        simp only [spec_l03Reduced.l1_succ _ mk_ok, M2, hfull, show decide ((R : Int) < (R : Int)) = false from decide_eq_false (by omega), spec_l03Reduced.j2_eq _ mk_ok, cond_false]
        refine ev_t (decide_eq_true (by omega)) (ev_some ?_)
        show _ = some _
        rw [stay (d + 1) c hcd hfull]
      · have htR : (elS p R A c).2.length < R := by omega
        generalize hS : elS p R A c = S at hB hpl hpc hstep hfull htR
        obtain ⟨B0, pv⟩ := S
        simp only at hB hpl hpc hstep hfull htR
        generalize ht : pv.length = top at hpl hpc hfull htR
        -- what lies behind the exchange
        have back : ∀ q, top ≤ q → q < R → B0 q c ≠ 0 → elS p R A (c + 1) = (elF p c top (elSw top q B0), pv ++ [c]) → ∀ det2, ∃ det', Ev fun φ => spec_l03Reduced.j6 (mkR (run E (φ 0))) (φ 0) (φ 1) M p (W : Int) det2 (top : Int) (c : Int) 0 0 0 p (R : Int) (W : Int) (pvL pv) (flatF (elSw top q B0) W R) = G det' := fun q hq1 hqR hq2 e det2 => by
          have hsw := hB.sw htR hqR
          have hlead : 1 ≤ elSw top q B0 top c ∧ elSw top q B0 top c ≤ p - 1 := by
            have h1 := hsw top c htR hc
            have h2 : elSw top q B0 top c = B0 q c := by simp [elSw]
            rw [← h2] at hq2
            omega
          generalize elSw top q B0 = B at hsw hlead e
          obtain ⟨det', h'⟩ := ih (c + 1) (Int.tmod (w64 (det2 * B top c)) p) (by omega)
          rw [e] at h'
          simp only at h'
          rw [pvL_add, List.length_append, List.length_singleton, ht] at h'
          have hNin : ∀ j, 0 ≤ elN p c top B j ∧ elN p c top B j ≤ p - 1 := fun j => emod_in hp.1
          have hinv := invF_in (a := B top c) (p := p) hp.1
          have hinvR := l03Inverse_ret (B top c) p hp ⟨by omega, hlead.2⟩
          have hidx : ∀ i j, i < R → j < W → i * W + j ≤ 4611686018427387904 := fun i j hi hj => by have := lt_rc hi hj; omega
          refine ⟨det', ?_⟩
          simp only [spec_l03Reduced.j6_eq _ mk_ok, ix_eq (hidx top c htR hc), Int.toNat_natCast]
          obtain ⟨k1, k2⟩ := flat_at (A := B) htR hc hRW
          refine ev_chk k1 (ev_bind k2 (ev_chk (by simp; omega) (ev_call hinvR ?_)))
          generalize Int.tmod (w64 (det2 * B top c)) p = D at h' ⊢
          -- the loop that scales the row
          let N : Nat → Ent := fun n i j => if i = top ∧ j < n then elN p c top B j else B i j
          have hN0 : flatF (N 0) W R = flatF B W R := flatF_congr fun i j _ _ => by simp [N]
          have hNW : flatF (N W) W R = flatF (elM p c top B) W R := flatF_congr fun i j _ hj => by
            simp only [N, elM, hj, and_true]
          rw [← hN0]
          refine Ev.start (p := fun φ n => spec_l03Reduced.l7 (mkR (run E (φ 0))) (φ 0) (φ 1) n M p (W : Int) D (top : Int) (c : Int) (invF (B top c) p) 0 0 0 0 p (R : Int) (W : Int) (pvL pv) (flatF (N 0) W R) = _) 2 ?_ (fun _ _ _ h => h)
          refine fold_loop 2 (L := fun φ n j o => spec_l03Reduced.l7 (mkR (run E (φ 0))) (φ 0) (φ 1) n M p (W : Int) D (top : Int) (c : Int) (invF (B top c) p) j 0 0 0 p (R : Int) (W : Int) (pvL pv) o) (len := W) (fun j => flatF (N j) W R) (fun _ _ _ _ _ => rfl) (fun j r hj ih2 => ?_) ?_
          · simp only [spec_l03Reduced.l7_succ _ mk_ok, ix_eq (hidx top j htR hj), Int.toNat_natCast]
            obtain ⟨k1, k2⟩ := flat_at (A := N j) htR hj hRW
            have hNj : N j top j = B top j := by simp [N]
            rw [hNj] at k2
            have hb := hsw top j htR hj
            have ev := val_eq (x := B top j) (y := invF (B top c) p) (p := p) (by omega) (by omega) hp
            have hset : (flatF (N j) W R).set (top * W + j) (B top j * invF (B top c) p % p) = flatF (N (j + 1)) W R := by
              rw [flatF_set htR hj]
              refine flatF_congr fun k l _ _ => ?_
              simp only [N]
              by_cases h1 : k = top
              · subst h1
                by_cases h2 : l = j
                · subst h2; simp [elN]
                · simp only [true_and, h2, if_false, and_false]
                  by_cases h3 : l < j
                  · rw [if_pos h3, if_pos (by omega)]
                  · rw [if_neg h3, if_neg (by omega)]
              · simp [h1]
            refine ev_t (decide_eq_true (by omega)) (ev_chk k1 (ev_bind k2 (ev_chk (by simp; omega) (ev_chk k1 ?_))))
            simp only [ev]
            rw [w64_succ (by omega), hset]; exact ih2
          · simp only [spec_l03Reduced.l7_succ _ mk_ok]
            refine ev_f (decide_eq_false (by omega)) ?_
            rw [hNW]
            -- the loop over the rows
            let K : Nat → Ent := fun n i j => if i < n then elF p c top B i j else elM p c top B i j
            have hK0 : flatF (K 0) W R = flatF (elM p c top B) W R := flatF_congr fun i j _ _ => by simp [K]
            have hKR : flatF (K R) W R = flatF (elF p c top B) W R := flatF_congr fun i j hi _ => by simp [K, hi]
            rw [← hK0]
            refine Ev.start (p := fun φ n => spec_l03Reduced.l8 (mkR (run E (φ 0))) (φ 0) (φ 1) n M p (W : Int) D (top : Int) (c : Int) 0 0 0 0 p (R : Int) (W : Int) (pvL pv) (flatF (K 0) W R) = _) 3 ?_ (fun _ _ _ h => h)
            refine fold_loop 3 (L := fun φ n i o => spec_l03Reduced.l8 (mkR (run E (φ 0))) (φ 0) (φ 1) n M p (W : Int) D (top : Int) (c : Int) i 0 0 0 p (R : Int) (W : Int) (pvL pv) o) (len := R) (fun i => flatF (K i) W R) (fun _ _ _ _ _ => rfl) (fun i r hi ih2 => ?_) ?_
            · simp only [spec_l03Reduced.l8_succ _ mk_ok, M2, ix_eq (hidx i c hi hc), Int.toNat_natCast]
              obtain ⟨k1, k2⟩ := flat_at (A := K i) hi hc hRW
              refine ev_t (decide_eq_true (by omega)) (ev_chk k1 (ev_bind k2 ?_))
              by_cases hit : i = top
              · subst hit
                refine ev_t (by simp) ?_
                simp only [spec_l03Reduced.j9_eq _ mk_ok, cond_true]
                have hsame : flatF (K (i + 1)) W R = flatF (K i) W R := flatF_congr fun k j _ _ => by
                  simp only [K]
                  by_cases h1 : k = i
                  · subst h1; simp [elF, elM]
                  · by_cases h2 : k < i
                    · rw [if_pos (by omega), if_pos h2]
                    · rw [if_neg (by omega), if_neg h2]
                rw [hsame] at ih2
                rw [w64_succ (by omega)]; exact ih2
              · have hM : ∀ j, K i i j = B i j := fun j => by simp [K, elM, hit]
                rw [hM]
                have hBi := hsw i c hi hc
                refine ev_f (by simp; omega) ?_
                by_cases hz : B i c = 0
                · simp only [hz, beq_self_eq_true, spec_l03Reduced.j9_eq _ mk_ok, cond_true]
                  have hsame : flatF (K (i + 1)) W R = flatF (K i) W R := flatF_congr fun k j _ _ => by
                    simp only [K]
                    by_cases h1 : k = i
                    · subst h1; simp [elF, elM, hit, hz]
                    · by_cases h2 : k < i
                      · rw [if_pos (by omega), if_pos h2]
                      · rw [if_neg (by omega), if_neg h2]
                  rw [hsame] at ih2
                  rw [w64_succ (by omega)]; exact ih2
                · have hne : (B i c == 0) = false := by simpa using hz
                  simp only [hne, spec_l03Reduced.j9_eq _ mk_ok, cond_false]
                  let Q : Nat → Ent := fun n k j => if k = i ∧ j < n then elF p c top B i j else K i k j
                  have hQ0 : flatF (Q 0) W R = flatF (K i) W R := flatF_congr fun k j _ _ => by simp [Q]
                  have hQW : flatF (Q W) W R = flatF (K (i + 1)) W R := flatF_congr fun k j _ hj => by
                    simp only [Q, K, hj, and_true]
                    by_cases h1 : k = i
                    · subst h1; simp
                    · by_cases h2 : k < i
                      · rw [if_neg h1, if_pos h2, if_pos (by omega)]
                      · rw [if_neg h1, if_neg h2, if_neg (by omega)]
                  rw [← hQ0]
                  refine Ev.start (p := fun φ n => spec_l03Reduced.l10 (mkR (run E (φ 0))) (φ 0) (φ 1) (φ 3) n M p (W : Int) D (top : Int) (c : Int) (i : Int) (B i c) 0 0 0 0 p (R : Int) (W : Int) (pvL pv) (flatF (Q 0) W R) = _) 4 ?_ (fun _ _ _ h => h)
                  refine fold_loop 4 (L := fun φ n j o => spec_l03Reduced.l10 (mkR (run E (φ 0))) (φ 0) (φ 1) (φ 3) n M p (W : Int) D (top : Int) (c : Int) (i : Int) (B i c) j 0 0 0 p (R : Int) (W : Int) (pvL pv) o) (len := W) (fun j => flatF (Q j) W R) (fun _ _ _ _ _ => rfl) (fun j r2 hj ih3 => ?_) ?_
                  · simp only [spec_l03Reduced.l10_succ _ mk_ok, ix_eq (hidx i j hi hj), ix_eq (hidx top j htR hj), Int.toNat_natCast]
                    obtain ⟨k1, k2⟩ := flat_at (A := Q j) hi hj hRW
                    obtain ⟨k3, k4⟩ := flat_at (A := Q j) htR hj hRW
                    have q1 : Q j i j = B i j := by simp only [Q, Nat.lt_irrefl, and_false, if_false]; exact hM j
                    have q2 : Q j top j = elN p c top B j := by
                      have : ¬ top = i := fun e => hit e.symm
                      simp [Q, K, this, elF, elM]
                    rw [q1] at k2
                    rw [q2] at k4
                    have hbij := hsw i j hi hj
                    have hnj := hNin j
                    have hm := mul_in (x := B i c) (y := elN p c top B j) (by omega) (by omega)
                    have e1 : w64 (B i c * elN p c top B j) = B i c * elN p c top B j := w64_small (by omega) (by omega)
                    have e2 : w64 (B i j - B i c * elN p c top B j) = B i j - B i c * elN p c top B j := w64_small (by omega) (by omega)
                    have e3 : redV (B i j - B i c * elN p c top B j) p = elF p c top B i j := by
                      rw [redV_eq hp (by omega)]
                      unfold elF
                      rw [if_neg hit, if_pos hz]
                      have : B i j + (p - B i c) * elN p c top B j = B i j - B i c * elN p c top B j + p * elN p c top B j := by rw [Int.sub_mul]; omega
                      rw [this, Int.add_mul_emod_self_left]
                    have hmod := l03Mod_ret (B i j - B i c * elN p c top B j) p hp.1
                    rw [e3] at hmod
                    have hset : (flatF (Q j) W R).set (i * W + j) (elF p c top B i j) = flatF (Q (j + 1)) W R := by
                      rw [flatF_set hi hj]
                      refine flatF_congr fun k l _ _ => ?_
                      simp only [Q]
                      by_cases h1 : k = i
                      · subst h1
                        by_cases h2 : l = j
                        · subst h2; simp
                        · simp only [true_and, h2, if_false, and_false]
                          by_cases h3 : l < j
                          · rw [if_pos h3, if_pos (by omega)]
                          · rw [if_neg h3, if_neg (by omega)]
                      · simp [h1]
                    refine ev_t (decide_eq_true (by omega)) (ev_chk k1 (ev_bind k2 (ev_chk k3 (ev_bind k4 ?_))))
                    simp only [e1, e2]
                    refine ev_call hmod (ev_chk k1 ?_)
                    rw [w64_succ (by omega)]
                    rw [← hset] at ih3
                    exact ih3
                  · simp only [spec_l03Reduced.l10_succ _ mk_ok]
                    refine ev_f (decide_eq_false (by omega)) ?_
                    rw [w64_succ (by omega), hQW]; exact ih2
            · simp only [spec_l03Reduced.l8_succ _ mk_ok, M2]
              refine ev_f (decide_eq_false (by omega)) (ev_chk (by simp only [pvL_length, List.length_cons, List.length_nil, decide_eq_true_eq]; omega) ?_)
              rw [w64_succ (by omega), w64_succ (by omega), hKR]
              exact h'
        have hidx : ∀ i j, i < R → j < W → i * W + j ≤ 4611686018427387904 := fun i j hi hj => by have := lt_rc hi hj; omega
        -- the search for the row
        have search : ∀ rs : Nat → Option Dv, ∀ rn : Option Dv, (∀ q, top ≤ q → q < R → B0 q c ≠ 0 → (∀ i, top ≤ i → i < q → ¬ B0 i c ≠ 0) → Ev fun φ => spec_l03Reduced.j4 (mkR (run E (φ 0))) (φ 0) (φ 1) (φ 2) M p (W : Int) det (top : Int) (c : Int) (q : Int) false 0 0 0 p (R : Int) (W : Int) (pvL pv) (flatF B0 W R) = rs q) →
            ((∀ i, top ≤ i → i < R → ¬ B0 i c ≠ 0) → Ev fun φ => spec_l03Reduced.j4 (mkR (run E (φ 0))) (φ 0) (φ 1) (φ 2) M p (W : Int) det (top : Int) (c : Int) (R : Int) false 0 0 0 p (R : Int) (W : Int) (pvL pv) (flatF B0 W R) = rn) →
            Ev fun φ => spec_l03Reduced.l3 (mkR (run E (φ 0))) (φ 0) (φ 1) (φ 0) M p (W : Int) det (top : Int) (c : Int) (top : Int) 0 0 0 p (R : Int) (W : Int) (pvL pv) (flatF B0 W R) = orN rs rn (firstN (fun i => B0 i c ≠ 0) top (R - top)) := fun rs rn hs hn => by
          refine Ev.start (p := fun φ n => spec_l03Reduced.l3 (mkR (run E (φ 0))) (φ 0) (φ 1) n M p (W : Int) det (top : Int) (c : Int) (top : Int) 0 0 0 p (R : Int) (W : Int) (pvL pv) (flatF B0 W R) = _) 2 ?_ (fun _ _ _ h => h)
          -- the first one is kept in mind by the number of the round
          have go : ∀ d a, top ≤ a → a + d = R → (∀ i, top ≤ i → i < a → ¬ B0 i c ≠ 0) → Ev fun φ => spec_l03Reduced.l3 (mkR (run E (φ 0))) (φ 0) (φ 1) (φ 2) M p (W : Int) det (top : Int) (c : Int) (a : Int) 0 0 0 p (R : Int) (W : Int) (pvL pv) (flatF B0 W R) = orN rs rn (firstN (fun i => B0 i c ≠ 0) a d) := by
            intro d
            induction d with
            | zero =>
              intro a ha hk hno
              obtain rfl : a = R := by omega
              refine Ev.round 2 (L := fun φ n => spec_l03Reduced.l3 (mkR (run E (φ 0))) (φ 0) (φ 1) n M p (W : Int) det (top : Int) (c : Int) (a : Int) 0 0 0 p (a : Int) (W : Int) (pvL pv) (flatF B0 W a)) ?_ (fun _ _ _ => rfl)
              simp only [spec_l03Reduced.l3_succ _ mk_ok, M2]
              exact ev_f (decide_eq_false (by omega)) (hn hno)
            | succ d ih3 =>
              intro a ha hk hno
              have haR : a < R := by omega
              refine Ev.round 2 (L := fun φ n => spec_l03Reduced.l3 (mkR (run E (φ 0))) (φ 0) (φ 1) n M p (W : Int) det (top : Int) (c : Int) (a : Int) 0 0 0 p (R : Int) (W : Int) (pvL pv) (flatF B0 W R)) ?_ (fun _ _ _ => rfl)
              simp only [spec_l03Reduced.l3_succ _ mk_ok, M2, ix_eq (hidx a c haR hc), Int.toNat_natCast]
              obtain ⟨k1, k2⟩ := flat_at (A := B0) haR hc hRW
              refine ev_t (decide_eq_true (by omega)) (ev_chk k1 (ev_bind k2 ?_))
              rw [firstN]
              by_cases hz : B0 a c = 0
              · rw [if_neg (by simpa using hz)]
                simp only [hz, beq_self_eq_true, spec_l03Reduced.j4_eq _ mk_ok, cond_true]
                rw [w64_succ (by omega)]
                refine ih3 (a + 1) (by omega) (by omega) fun i h1 h2 => ?_
                by_cases e : i = a
                · subst e; simpa using hz
                · exact hno i h1 (by omega)
              · rw [if_pos hz]
                have hne : (B0 a c == 0) = false := by simpa using hz
                simp only [hne]
                exact hs a ha haR hz hno
          exact go (R - top) top (Nat.le_refl _) (by omega) fun i h1 h2 => by omega
        have enter : ∀ r, (Ev fun φ => spec_l03Reduced.l3 (mkR (run E (φ 0))) (φ 0) (φ 1) (φ 0) M p (W : Int) det (top : Int) (c : Int) (top : Int) 0 0 0 p (R : Int) (W : Int) (pvL pv) (flatF B0 W R) = r) → Ev fun φ => spec_l03Reduced.l1 (mkR (run E (φ 0))) (φ 0) (φ 1) M p (W : Int) det (top : Int) (c : Int) 0 0 0 p (R : Int) (W : Int) (pvL pv) (flatF B0 W R) = r := fun r hr => by
          refine Ev.round 1 (L := fun φ n => spec_l03Reduced.l1 (mkR (run E (φ 0))) (φ 0) n M p (W : Int) det (top : Int) (c : Int) 0 0 0 p (R : Int) (W : Int) (pvL pv) (flatF B0 W R)) ?_ (fun _ _ _ => rfl)
          simp only [spec_l03Reduced.l1_succ _ mk_ok, M2, show decide ((top : Int) < (R : Int)) = true from decide_eq_true (by omega), spec_l03Reduced.j2_eq _ mk_ok, cond_true]
          exact ev_t (decide_eq_true (by omega)) hr
        cases hf : firstN (fun i => B0 i c ≠ 0) top (R - top) with
        | none =>
          have e : elS p R A (c + 1) = (B0, pv) := by rw [hstep, elP]; simp only [ht, hf]
          obtain ⟨det', h'⟩ := ih (c + 1) det (by omega)
          rw [e] at h'
          simp only [ht] at h'
          refine ⟨det', enter _ ?_⟩
          have := search (fun _ => G det') (G det') (fun q h1 h2 h3 _ => absurd h3 (firstN_none hf q h1 (by omega))) fun _ => by
            simp only [spec_l03Reduced.j4_eq _ mk_ok, cond_false, M2]
            refine ev_t (by simp) ?_
            rw [w64_succ (by omega)]; exact h'
          rw [hf] at this
          exact this
        | some q =>
          have hq := firstN_some hf
          have hqR : q < R := by omega
          have e : elS p R A (c + 1) = (elF p c top (elSw top q B0), pv ++ [c]) := by rw [hstep, elP]; simp only [ht, hf]
          by_cases hqt : q = top
          · subst hqt
            obtain ⟨det', h'⟩ := back q (Nat.le_refl _) hqR hq.2.2 e det
            have hself : flatF (elSw q q B0) W R = flatF B0 W R := flatF_congr fun i j _ _ => by
              unfold elSw
              by_cases h : i = q
              · subst h; simp
              · simp [h]
            rw [hself] at h'
            refine ⟨det', enter _ ?_⟩
            have := search (fun _ => G det') (G det') (fun q' h1 h2 h3 h4 => by
              obtain rfl : q' = q := Classical.byContradiction fun hne => h4 q (Nat.le_refl _) (by omega) hq.2.2
              simp only [spec_l03Reduced.j4_eq _ mk_ok, cond_false, M2]
              exact ev_f (by simp; omega) (ev_f (by simp) h')) fun hno => absurd hq.2.2 (hno q (Nat.le_refl _) hqR)
            rw [hf] at this
            exact this
          · obtain ⟨det', h'⟩ := back q hq.1 hqR hq.2.2 e (w64 (p - det))
            refine ⟨det', enter _ ?_⟩
            have := search (fun _ => G det') (G det') (fun q' h1 h2 h3 h4 => by
              obtain rfl : q' = q := by
                rcases Nat.lt_trichotomy q' q with h | h | h
                · exact absurd h3 (firstN_min hf q' h1 h)
                · exact h
                · exact absurd hq.2.2 (h4 q hq.1 h)
              simp only [spec_l03Reduced.j4_eq _ mk_ok, cond_false, M2]
              refine ev_f (by simp; omega) (ev_t (by simp; omega) ?_)
              -- the loop that exchanges the rows
              let X : Nat → Ent := fun n i j => if j < n then elSw top q' B0 i j else B0 i j
              have hX0 : flatF (X 0) W R = flatF B0 W R := flatF_congr fun i j _ _ => by simp [X]
              have hXW : flatF (X W) W R = flatF (elSw top q' B0) W R := flatF_congr fun i j _ hj => by simp [X, hj]
              rw [← hX0]
              refine Ev.start (p := fun φ n => spec_l03Reduced.l5 (mkR (run E (φ 0))) (φ 0) (φ 1) n M p (W : Int) (w64 (p - det)) (top : Int) (c : Int) (q' : Int) 0 0 0 0 p (R : Int) (W : Int) (pvL pv) (flatF (X 0) W R) = _) 3 ?_ (fun _ _ _ h => h)
              refine fold_loop 3 (L := fun φ n j o => spec_l03Reduced.l5 (mkR (run E (φ 0))) (φ 0) (φ 1) n M p (W : Int) (w64 (p - det)) (top : Int) (c : Int) (q' : Int) j 0 0 0 p (R : Int) (W : Int) (pvL pv) o) (len := W) (fun j => flatF (X j) W R) (fun _ _ _ _ _ => rfl) (fun j r hj ih3 => ?_) ?_
              · simp only [spec_l03Reduced.l5_succ _ mk_ok, ix_eq (hidx q' j hqR hj), ix_eq (hidx top j htR hj), Int.toNat_natCast, List.length_set]
                obtain ⟨k1, k2⟩ := flat_at (A := X j) hqR hj hRW
                obtain ⟨k3, k4⟩ := flat_at (A := X j) htR hj hRW
                have x1 : X j q' j = B0 q' j := by simp [X]
                have x2 : X j top j = B0 top j := by simp [X]
                rw [x1] at k2
                rw [x2] at k4
                have hset : ((flatF (X j) W R).set (q' * W + j) (B0 top j)).set (top * W + j) (B0 q' j) = flatF (X (j + 1)) W R := by
                  rw [flatF_set hqR hj, flatF_set htR hj]
                  refine flatF_congr fun k l _ _ => ?_
                  simp only [X]
                  by_cases hl : l = j
                  · subst hl
                    by_cases hk1 : k = top
                    · subst hk1; simp [elSw]
                    · by_cases hk2 : k = q'
                      · subst hk2; simp [elSw, hk1]
                      · simp [elSw, hk1, hk2]
                  · simp only [hl, and_false, if_false]
                    by_cases h3 : l < j
                    · rw [if_pos h3, if_pos (by omega)]
                    · rw [if_neg h3, if_neg (by omega)]
                refine ev_t (decide_eq_true (by omega)) (ev_chk k1 (ev_bind k2 (ev_chk k3 (ev_bind k4 (ev_chk k1 (ev_chk k3 ?_))))))
                rw [w64_succ (by omega), hset]; exact ih3
              · simp only [spec_l03Reduced.l5_succ _ mk_ok]
                refine ev_f (decide_eq_false (by omega)) ?_
                rw [hXW]; exact h') fun hno => absurd hq.2.2 (hno q hq.1 hqR)
            rw [hf] at this
            exact this
  obtain ⟨det', h⟩ := key W 0 1 (by omega)
  refine ⟨det', ret_of ?_⟩
  have h0 : flatF (elS p R A 0).1 W R = cells := hfl
  rw [h0] at h
  simp only [run_spec_l03Reduced, spec_l03Reduced.ev, spec_l03Reduced.j0_eq _ mk_ok, M1, M2, M3, M4]
  have own := l00Own_ret cells (by omega)
  have st := Ev.start (p := fun φ n => spec_l03Reduced.l1 (mkR (run E (φ 0))) (φ 0) n M p (W : Int) 1 0 0 0 0 0 p (R : Int) (W : Int) [] cells = G det') 1 h (fun _ _ _ h => h)
  exact ev_both (ev_call own st) (ev_call own st)

end VeT

open Go Go.Proofs Ve
set_option linter.unusedVariables false
set_option linter.unusedSimpArgs false
namespace VeT

theorem row_ent {cells : Sim} {R C i : Nat} (hl : cells.length = R * C) (hi : i < R) : (cells.take ((i + 1) * C)).drop (i * C) = (List.range C).map (entM cells C i) := by
  have h := flatF_row (f := entM cells C) (C := C) hi
  rw [entM_flat hl] at h
  exact h

theorem rowsOfG_ret (p : Int) (R C : Nat) (cells : Sim) (hl : cells.length = R * C) (hR : R ≤ 1048576) (hC : C ≤ 1048576) (hRC : R * C ≤ 1048576) : Ret E n_impl_rowsOf [dI p, dI (R : Int), dI (C : Int), dL cells] ⟨o_impl_rowsOf, (rowsE (entM cells C) R C, ())⟩ := by
  refine ret_of ?_
  simp only [run_impl_rowsOf, impl_rowsOf.ev]
  refine Ev.start (p := fun φ n => impl_rowsOf.l0 (mkR (run E (φ 0))) (φ 0) n (R : Int) 0 p (R : Int) (C : Int) cells [] = _) 1 ?_ (fun _ _ _ h => h)
  refine fold_loop 1 (L := fun φ n k a => impl_rowsOf.l0 (mkR (run E (φ 0))) (φ 0) n (R : Int) k p (R : Int) (C : Int) cells a) (len := R) (fun k => rowsE (entM cells C) k C) (fun _ _ _ _ _ => rfl) (fun k r hk ih => ?_) ?_
  · simp only [impl_rowsOf.l0_succ _ mk_ok]
    have hle : (k + 1) * C ≤ R * C := Nat.mul_le_mul_right _ hk
    have e : rowsE (entM cells C) (k + 1) C = rowsE (entM cells C) k C ++ [(List.range C).map (entM cells C k)] := by
      unfold rowsE; rw [List.range_succ, List.map_append]; rfl
    rw [e, ← row_ent hl hk] at ih
    refine ev_t (decide_eq_true (by omega)) (ev_call (Mat_row_ret p _ C cells k (by omega) (by omega) (by omega)) (ev_call (Clone_ret _ (by rw [List.length_drop, List.length_take]; omega)) (ev_chk (by simp [rowsE_length]; omega) ?_)))
    rw [w64_succ (by omega)]; exact ih
  · simp only [impl_rowsOf.l0_succ _ mk_ok]
    exact ev_f (decide_eq_false (by omega)) ev_rfl

theorem matrixOf_ret (p n : Int) (rows : List Sim) (h1 : rows.length ≤ 1048576) (h2 : rows.flatten.length ≤ 1048576) : Ret E n_impl_matrixOf [dI p, dI n, dLL rows] ⟨o_impl_matrixOf, (p, (rows.length : Int), n, rows.flatten, ())⟩ := by
  refine ret_of ?_
  simp only [run_impl_matrixOf, impl_matrixOf.ev]
  exact ev_call (sizeL_ret rows) (ev_call (Concat_ret rows h1 h2) ev_rfl)

theorem flatten_take {rows : List Sim} {k : Nat} (hk : k < rows.length) : (rows.take (k + 1)).flatten = (rows.take k).flatten ++ rows[k] := by
  rw [List.take_succ_eq_append_getElem hk, List.flatten_append]; simp

theorem flatten_take_le {rows : List Sim} {k : Nat} : (rows.take k).flatten.length ≤ rows.flatten.length := by
  conv => rhs; rw [← List.take_append_drop k rows, List.flatten_append, List.length_append]
  omega

theorem l04Rows_ret (p n : Int) (rows : List Sim) (h1 : rows.length ≤ 1048576) (h2 : rows.flatten.length ≤ 1048576) : Ret E n_spec_l04Rows [dI p, dI n, dLL rows] ⟨o_spec_l04Rows, (p, (rows.length : Int), n, rows.flatten, ())⟩ := by
  refine ret_of ?_
  simp only [run_spec_l04Rows, spec_l04Rows.ev]
  refine Ev.start (p := fun φ q => spec_l04Rows.l0 (mkR (run E (φ 0))) (φ 0) q rows 0 0 0 0 p (rows.length : Int) n [] = _) 1 ?_ (fun _ _ _ h => h)
  refine fold_loop 1 (L := fun φ q k o => spec_l04Rows.l0 (mkR (run E (φ 0))) (φ 0) q rows k 0 0 0 p (rows.length : Int) n o) (len := rows.length) (fun k => (rows.take k).flatten) (fun _ _ _ _ _ => rfl) (fun k r hk ih => ?_) ?_
  · simp only [spec_l04Rows.l0_succ _ mk_ok]
    have hle := flatten_take_le (rows := rows) (k := k + 1)
    rw [flatten_take hk] at ih hle
    rw [List.length_append] at hle
    refine ev_t (decide_eq_true (by omega)) (ev_bind (idx_lt hk) (ev_chk (decide_eq_true (by omega)) ?_))
    rw [w64_succ (by omega)]; exact ih
  · simp only [spec_l04Rows.l0_succ _ mk_ok]
    refine ev_f (decide_eq_false (by omega)) (ev_some ?_)
    rw [List.take_of_length_le (Nat.le_refl _)]

/-! kernels -/
def kerSt (p : Int) (pv : List Nat) (F : Ent) (c n : Nat) : St := (List.range n).map fun i => (pv.getD i 0, (0 - F i c) % p)
def kerX (p : Int) (W : Nat) (pv : List Nat) (F : Ent) (c n : Nat) : Sim := upds (kerSt p pv F c n) ((List.replicate W 0).set c 1)

open Classical in
noncomputable def kerL (p : Int) (W : Nat) (pv : List Nat) (F : Ent) : Nat → List Sim
  | 0 => []
  | c + 1 => kerL p W pv F c ++ if c ∈ pv then [] else [kerX p W pv F c pv.length]

theorem kerX_succ {p : Int} {W : Nat} {pv : List Nat} {F : Ent} {c n : Nat} : kerX p W pv F c (n + 1) = (kerX p W pv F c n).set (pv.getD n 0) ((0 - F n c) % p) := by
  unfold kerX kerSt
  rw [List.range_succ, List.map_append, upds_append]; rfl

theorem kerX_length {p : Int} {W : Nat} {pv : List Nat} {F : Ent} {c n : Nat} : (kerX p W pv F c n).length = W := by
  unfold kerX; rw [upds_length, List.length_set, List.length_replicate]

theorem kerL_length {p : Int} {W : Nat} {pv : List Nat} {F : Ent} : ∀ {n : Nat}, (kerL p W pv F n).length ≤ n
  | 0 => by simp [kerL]
  | n + 1 => by
    have := kerL_length (p := p) (W := W) (pv := pv) (F := F) (n := n)
    rw [kerL, List.length_append]; split <;> simp <;> omega

theorem kerL_mem {p : Int} {W : Nat} {pv : List Nat} {F : Ent} (hp : 2 ≤ p) : ∀ {n : Nat} {x : Sim}, x ∈ kerL p W pv F n → x.length = W ∧ Elems x p
  | 0, x, h => by simp [kerL] at h
  | n + 1, x, h => by
    rw [kerL, List.mem_append] at h
    rcases h with h | h
    · exact kerL_mem hp h
    · split at h
      · simp at h
      · rw [List.mem_singleton] at h
        subst h
        refine ⟨kerX_length, upds_elems (fun y hy => ?_) fun q hq => ?_⟩
        · rcases List.mem_or_eq_of_mem_set hy with hy | rfl
          · rw [List.mem_replicate] at hy; omega
          · omega
        · obtain ⟨i, _, rfl⟩ := List.mem_map.1 hq
          exact emod_in hp

theorem pvL_mem {l : List Nat} {c : Nat} : (c : Int) ∈ pvL l ↔ c ∈ l := by
  unfold pvL
  rw [List.mem_map]
  exact ⟨fun ⟨a, h, e⟩ => by obtain rfl : a = c := by omega
                             exact h, fun h => ⟨c, h, rfl⟩⟩

theorem pvL_get {l : List Nat} {i : Nat} (hi : i < l.length) : (pvL l)[i]? = some ((l.getD i 0 : Nat) : Int) := by
  unfold pvL
  rw [List.getElem?_map, List.getElem?_eq_getElem hi, getD_lt hi]; rfl

theorem getD_mem {l : List Nat} {i : Nat} (hi : i < l.length) : l.getD i 0 ∈ l := by
  rw [getD_lt hi]; exact List.getElem_mem hi

/-- the kernel of a matrix -/
noncomputable def kerM (p : Int) (R W : Nat) (cells : Sim) : List Sim := kerL p W (elS p R (entM cells W) W).2 (elS p R (entM cells W) W).1 W

theorem kernel_ret (p : Int) (R W : Nat) (cells : Sim) (hp : 2 ≤ p ∧ p ≤ 251) (hR : R ≤ 1048576) (hW : W ≤ 1048576) (hRW : R * W ≤ 1048576) (hl : cells.length = R * W) (he : Elems cells p) :
    Ret E n_impl_kernel [dI p, dI (R : Int), dI (W : Int), dL cells] ⟨o_impl_kernel, (kerM p R W cells, ())⟩ := by
  have hA := entM_in he hl
  obtain ⟨det, hel⟩ := eliminate_ret (entM cells W) R W p hp hR hW hA
  obtain ⟨hF, hpl, hpc, hpv⟩ := elS_in hp.1 hA W
  refine ret_of ?_
  simp only [run_impl_kernel, impl_kernel.ev]
  refine ev_call (rowsOfG_ret p R W cells hl hR hW hRW) (ev_call hel ?_)
  unfold kerM
  generalize elS p R (entM cells W) W = S at hF hpl hpc hpv
  obtain ⟨F, pv⟩ := S
  simp only at hF hpl hpc hpv
  refine Ev.start (p := fun φ n => impl_kernel.l0 (mkR (run E (φ 0))) (φ 0) n (pvL pv) (W : Int) 0 p (R : Int) (W : Int) cells [] (rowsE F R W) = _) 1 ?_ (fun _ _ _ h => h)
  refine fold_loop 1 (L := fun φ n c o => impl_kernel.l0 (mkR (run E (φ 0))) (φ 0) n (pvL pv) (W : Int) c p (R : Int) (W : Int) cells o (rowsE F R W)) (len := W) (fun c => kerL p W pv F c) (fun _ _ _ _ _ => rfl) (fun c r hc ih => ?_) ?_
  · simp only [impl_kernel.l0_succ _ mk_ok, Int.toNat_natCast, List.length_replicate]
    rw [kerL] at ih
    refine ev_t (decide_eq_true (by omega)) (ev_call (Contains_ret (pvL pv) (c : Int) (by rw [pvL_length]; omega)) (ev_b (fun h => ?_) fun h => ?_))
    · rw [if_pos (pvL_mem.1 (pb_iff.1 h)), List.append_nil] at ih
      rw [w64_succ (by omega)]; exact ih
    · rw [if_neg (mt pvL_mem.2 (pb_not.1 h))] at ih
      refine ev_chk (by simp only [Bool.and_eq_true, decide_eq_true_eq]; omega) (ev_chk (by simp only [Bool.and_eq_true, decide_eq_true_eq]; omega) ?_)
      have hkl := kerL_length (p := p) (W := W) (pv := pv) (F := F) (n := c)
      generalize kerL p W pv F c = K at ih hkl ⊢
      refine Ev.start (p := fun φ n => impl_kernel.l1 (mkR (run E (φ 0))) (φ 0) (φ 1) n (pvL pv) (c : Int) (W : Int) (c : Int) (pvL pv) ((pvL pv).length : Int) 0 p (R : Int) (W : Int) cells ((List.replicate W 0).set c 1) K (rowsE F R W) = _) 2 ?_ (fun _ _ _ h => h)
      refine fold_loop 2 (L := fun φ n i x => impl_kernel.l1 (mkR (run E (φ 0))) (φ 0) (φ 1) n (pvL pv) (c : Int) (W : Int) (c : Int) (pvL pv) ((pvL pv).length : Int) i p (R : Int) (W : Int) cells x K (rowsE F R W)) (len := pv.length) (fun i => kerX p W pv F c i) (fun _ _ _ _ _ => rfl) (fun i q hi ih2 => ?_) ?_
      · simp only [impl_kernel.l1_succ _ mk_ok, pvL_length, rowsE_length, Int.toNat_natCast, kerX_length]
        have hiR : i < R := by omega
        have hFi := hF i c hiR hc
        have hpi := hpv _ (getD_mem hi)
        have e0 : w64 (0 - F i c) = 0 - F i c := w64_small (by omega) (by omega)
        have hred := reduce_ret (0 - F i c) p hp.1
        rw [redV_eq hp (by omega)] at hred
        rw [kerX_succ] at ih2
        simp only [pvL_length] at ih2
        refine ev_t (decide_eq_true (by omega)) (ev_bind (idx_nat.trans (pvL_get hi)) (ev_chk (by simp only [Bool.and_eq_true, decide_eq_true_eq]; omega) (ev_bind (rowsE_get hiR) (ev_bind (idx_nat.trans (row_get hc)) ?_))))
        simp only [e0, Int.toNat_natCast]
        refine ev_call hred (ev_chk (by simp only [Bool.and_eq_true, decide_eq_true_eq]; omega) ?_)
        rw [w64_succ (by omega)]; exact ih2
      · simp only [impl_kernel.l1_succ _ mk_ok, pvL_length]
        refine ev_f (decide_eq_false (by omega)) (ev_chk (by simp only [List.length_cons, List.length_nil, decide_eq_true_eq]; omega) ?_)
        rw [w64_succ (by omega)]; exact ih
  · simp only [impl_kernel.l0_succ _ mk_ok]
    exact ev_f (decide_eq_false (by omega)) ev_rfl

theorem l03Kernel_ret (p : Int) (R W : Nat) (cells : Sim) (hp : 2 ≤ p ∧ p ≤ 251) (hR : R ≤ 1048576) (hW : W ≤ 1048576) (hRW : R * W ≤ 1048576) (hl : cells.length = R * W) (he : Elems cells p) :
    Ret E n_spec_l03Kernel [dM (p, (R : Int), (W : Int), cells, ())] ⟨o_spec_l03Kernel, (kerM p R W cells, ())⟩ := by
  have hA := entM_in he hl
  obtain ⟨det, hel⟩ := l03Reduced_ret p R W cells hp hR hW hRW hl he
  obtain ⟨hF, hpl, hpc, hpv⟩ := elS_in hp.1 hA W
  refine ret_of ?_
  simp only [run_spec_l03Kernel, spec_l03Kernel.ev]
  refine ev_call hel ?_
  unfold kerM
  generalize elS p R (entM cells W) W = S at hF hpl hpc hpv
  obtain ⟨F, pv⟩ := S
  simp only at hF hpl hpc hpv
  generalize hMt : (p, (R : Int), (W : Int), cells, ()) = M
  have M1 : M.1 = p := by rw [← hMt]
  have M3 : M.2.2.1 = (W : Int) := by rw [← hMt]
  refine Ev.start (p := fun φ n => spec_l03Kernel.l0 (mkR (run E (φ 0))) (φ 0) n M (pvL pv) 0 p (R : Int) (W : Int) (flatF F W R) [] = _) 1 ?_ (fun _ _ _ h => h)
  refine fold_loop 1 (L := fun φ n c o => spec_l03Kernel.l0 (mkR (run E (φ 0))) (φ 0) n M (pvL pv) c p (R : Int) (W : Int) (flatF F W R) o) (len := W) (fun c => kerL p W pv F c) (fun _ _ _ _ _ => rfl) (fun c r hc ih => ?_) ?_
  · simp only [spec_l03Kernel.l0_succ _ mk_ok, M3, Int.toNat_natCast, List.length_replicate]
    rw [kerL] at ih
    refine ev_t (decide_eq_true (by omega)) (ev_call (l00Has_ret (pvL pv) (c : Int) (by rw [pvL_length]; omega)) (ev_b (fun h => ?_) fun h => ?_))
    · rw [if_pos (pvL_mem.1 (pb_iff.1 h)), List.append_nil] at ih
      rw [w64_succ (by omega)]; exact ih
    · rw [if_neg (mt pvL_mem.2 (pb_not.1 h))] at ih
      refine ev_chk (by simp only [Bool.and_eq_true, decide_eq_true_eq]; omega) (ev_chk (by simp only [Bool.and_eq_true, decide_eq_true_eq]; omega) ?_)
      have hkl := kerL_length (p := p) (W := W) (pv := pv) (F := F) (n := c)
      generalize kerL p W pv F c = K at ih hkl ⊢
      refine Ev.start (p := fun φ n => spec_l03Kernel.l1 (mkR (run E (φ 0))) (φ 0) (φ 1) n M (pvL pv) (c : Int) 0 p (R : Int) (W : Int) (flatF F W R) K ((List.replicate W 0).set c 1) = _) 2 ?_ (fun _ _ _ h => h)
      refine fold_loop 2 (L := fun φ n i x => spec_l03Kernel.l1 (mkR (run E (φ 0))) (φ 0) (φ 1) n M (pvL pv) (c : Int) i p (R : Int) (W : Int) (flatF F W R) K x) (len := pv.length) (fun i => kerX p W pv F c i) (fun _ _ _ _ _ => rfl) (fun i q hi ih2 => ?_) ?_
      · have hiR : i < R := by omega
        have hlt := lt_rc hiR hc
        simp only [spec_l03Kernel.l1_succ _ mk_ok, pvL_length, M1, M3, ix_eq (show i * W + c ≤ 4611686018427387904 by omega), kerX_length]
        have hFi := hF i c hiR hc
        have hpi := hpv _ (getD_mem hi)
        have e0 : w64 (0 - F i c) = 0 - F i c := w64_small (by omega) (by omega)
        have hred := l03Mod_ret (0 - F i c) p hp.1
        rw [redV_eq hp (by omega)] at hred
        rw [kerX_succ] at ih2
        refine ev_t (decide_eq_true (by omega)) (ev_bind (idx_nat.trans (pvL_get hi)) (ev_bind (idx_nat.trans (flatF_getD hiR hc)) ?_))
        simp only [e0, Int.toNat_natCast]
        refine ev_call hred (ev_chk (by simp only [Bool.and_eq_true, decide_eq_true_eq]; omega) ?_)
        rw [w64_succ (by omega)]; exact ih2
      · simp only [spec_l03Kernel.l1_succ _ mk_ok, pvL_length]
        refine ev_f (decide_eq_false (by omega)) (ev_chk (by simp only [List.length_cons, List.length_nil, decide_eq_true_eq]; omega) ?_)
        rw [w64_succ (by omega)]; exact ih
  · simp only [spec_l03Kernel.l0_succ _ mk_ok, M3]
    exact ev_f (decide_eq_false (by omega)) ev_rfl

/-- a list of rows of one length -/
def Rws (p : Int) (W : Nat) (rows : List Sim) : Prop := ∀ x ∈ rows, x.length = W ∧ Elems x p

theorem Rws.flat {p : Int} {W : Nat} {rows : List Sim} (h : Rws p W rows) : rows.flatten.length = rows.length * W ∧ Elems rows.flatten p := by
  induction rows with
  | nil => exact ⟨by simp, fun x hx => by simp at hx⟩
  | cons r rows ih =>
    obtain ⟨h1, h2⟩ := ih fun x hx => h x (List.mem_cons_of_mem _ hx)
    obtain ⟨h3, h4⟩ := h r List.mem_cons_self
    refine ⟨by rw [List.flatten_cons, List.length_append, h1, h3, List.length_cons, Nat.add_mul]; omega, fun x hx => ?_⟩
    rw [List.flatten_cons, List.mem_append] at hx
    rcases hx with hx | hx
    · exact h4 x hx
    · exact h2 x hx

/-- the kernel of rows -/
noncomputable def kerR (p : Int) (W : Nat) (rows : List Sim) : List Sim := kerM p rows.length W rows.flatten

theorem l10Kernel_ret (p : Int) (W : Nat) (rows : List Sim) (hp : 2 ≤ p ∧ p ≤ 251) (hR : rows.length ≤ 1048576) (hW : W ≤ 1048576) (hRW : rows.length * W ≤ 1048576) (hr : Rws p W rows) :
    Ret E n_spec_l10Kernel [dI p, dI (W : Int), dLL rows] ⟨o_spec_l10Kernel, (kerR p W rows, ())⟩ := by
  obtain ⟨h1, h2⟩ := hr.flat
  refine ret_of ?_
  simp only [run_spec_l10Kernel, spec_l10Kernel.ev]
  exact ev_call (l04Rows_ret p (W : Int) rows hR (by omega)) (ev_call (l03Kernel_ret p rows.length W rows.flatten hp hR hW hRW h1 h2) ev_rfl)

theorem kernelR_ret (p : Int) (W : Nat) (rows : List Sim) (hp : 2 ≤ p ∧ p ≤ 251) (hR : rows.length ≤ 1048576) (hW : W ≤ 1048576) (hRW : rows.length * W ≤ 1048576) (hr : Rws p W rows) :
    Ret E n_impl_kernel [dI p, dI (rows.length : Int), dI (W : Int), dL rows.flatten] ⟨o_impl_kernel, (kerR p W rows, ())⟩ := by
  obtain ⟨h1, h2⟩ := hr.flat
  exact kernel_ret p rows.length W rows.flatten hp hR hW hRW h1 h2

theorem kerM_sm {p : Int} {R W : Nat} {cells : Sim} (hp : 2 ≤ p) (hW : W ≤ 1048576) : Sm (.sl (.sl (.int .i64))) (kerM p R W cells) := by
  have hl := kerL_length (p := p) (W := W) (pv := (elS p R (entM cells W) W).2) (F := (elS p R (entM cells W) W).1) (n := W)
  refine ⟨by show (kerM p R W cells).length ≤ _; unfold kerM; omega, fun x hx => ⟨?_, fun _ _ => trivial⟩⟩
  have := (kerL_mem hp hx).1
  omega

theorem sm_nilLL : Sm (.sl (.sl (.int .i64))) ([] : List Sim) := ⟨by show ([] : List Sim).length ≤ 1048576; simp, fun x hx => by simp at hx⟩

end VeT

open Go Go.Proofs Ve
set_option linter.unusedVariables false
set_option linter.unusedSimpArgs false
namespace VeT

/-- a row that is copied into zeros -/
theorem copy_row {m : Mat} {a n i R C : Nat} (hm : VM m) (eR : m.2.1 = (R : Int)) (eC : m.2.2.1 = (C : Int)) (hi : i < R) (ha : a + C ≤ n) :
    List.take a (List.replicate n (0 : Int)) ++ List.take (n - a) ((List.range C).map (entM m.2.2.2.1 C i)) ++ List.drop (a + (List.take (n - a) ((List.range C).map (entM m.2.2.2.1 C i))).length) (List.replicate n (0 : Int)) = rowW m a n 1 i := by
  have hp := hm.1.1
  have el := hm.2.2.2.2
  have hlc : m.2.2.2.1.length = R * C := by
    have := hm.2.2.2.1
    rw [eR, eC, cast_mul] at this; omega
  have htk : List.take (n - a) ((List.range C).map (entM m.2.2.2.1 C i)) = (List.range C).map (entM m.2.2.2.1 C i) := List.take_of_length_le (by rw [List.length_map, List.length_range]; omega)
  have hC : m.2.2.1.toNat = C := by rw [eC]; rfl
  rw [htk, List.length_map, List.length_range]
  have hl1 : (List.take a (List.replicate n (0 : Int))).length = a := by rw [List.length_take, List.length_replicate]; omega
  refine getD_ext (by rw [rowW_length]; simp; omega) fun g hg => ?_
  have hgn : g < n := by
    have : g < (List.take a (List.replicate n (0 : Int)) ++ (List.range C).map (entM m.2.2.2.1 C i) ++ List.drop (a + C) (List.replicate n (0 : Int))).length := hg
    simp at this; omega
  have hz : ∀ k q : Nat, (List.replicate k (0 : Int))[q]?.getD 0 = 0 := fun k q => by rw [List.getElem?_replicate]; split <;> rfl
  rw [List.getD_eq_getElem?_getD]
  by_cases h1 : g < a
  · rw [rowW_miss (by omega), List.getElem?_append_left (by rw [List.length_append, hl1]; omega), List.getElem?_append_left (by rw [hl1]; exact h1), List.getElem?_take, if_pos h1]
    exact hz _ _
  · by_cases h2 : g < a + C
    · obtain ⟨j, rfl⟩ : ∃ j, g = a + j := ⟨g - a, by omega⟩
      have hj : j < C := by omega
      rw [rowW_hit (by rw [hC]; exact hj) hgn, List.getElem?_append_left (by rw [List.length_append, hl1, List.length_map, List.length_range]; omega), List.getElem?_append_right (by rw [hl1]; omega), hl1, Nat.add_sub_cancel_left, row_get hj, hC]
      have hlt := lt_rc hi hj
      have he : 0 ≤ entM m.2.2.2.1 C i j ∧ entM m.2.2.2.1 C i j ≤ m.1 - 1 := by unfold entM; rw [getD_lt (by omega)]; exact el _ (List.getElem_mem _)
      show entM m.2.2.2.1 C i j = entM m.2.2.2.1 C i j * 1 % m.1
      rw [Int.mul_one, Int.emod_eq_of_lt he.1 (by omega)]
    · rw [rowW_miss (by omega), List.getElem?_append_right (by rw [List.length_append, hl1, List.length_map, List.length_range]; omega), List.getElem?_drop]
      exact hz _ _

theorem restV_p {c : List Sim} {p : Int} {st : Sim} {ms : List Mat} {f : Nat} (h : VS c p st ms) (hf : f < c.length) : ∀ {d k : Nat}, k < c.length → (c.getD k []).length ≤ d → Part (c.getD f []) (c.getD k []) → (restV c p st ms f d k).1 = p
  | 0, k, _, _, _ => rfl
  | d + 1, k, hk, hd, hpt => by
    rw [restV]
    by_cases hfk : f = k
    · rw [if_pos hfk]; rfl
    · rw [if_neg hfk]
      have D : Down c p st ms f k := ⟨h, hf, hk, hfk, hpt⟩
      obtain ⟨_, f2, _⟩ := D.facts
      exact (h.map hk f2).2.2.1

end VeT

open Go Go.Proofs Ve
set_option linter.unusedVariables false
set_option linter.unusedSimpArgs false
namespace VeT

/-! conflicts -/
/-- the place as a number -/
def wN (w : Sim) (i : Nat) : Nat := (w.getD i 0).toNat

theorem Plcs.wN {c : List Sim} {w : Sim} (h : Plcs c w) {i : Nat} (hi : i < w.length) : w[i]? = some ((wN w i : Nat) : Int) ∧ wN w i < c.length := by
  obtain ⟨n, hn, hl⟩ := h.get hi
  have e : VeT.wN w i = n := by unfold VeT.wN; rw [getD_lt hi, hn, Int.toNat_natCast]
  rw [e, List.getElem?_eq_getElem hi, hn]
  exact ⟨rfl, hl⟩

theorem Plcs.wN_lt {c : List Sim} {w : Sim} (h : Plcs c w) {i j : Nat} (hj : j < w.length) (hij : i < j) : VeT.wN w i < VeT.wN w j := by
  have hi : i < w.length := by omega
  have := h.1.lt hj hij
  have h0 := (h.2 _ (List.getElem_mem hi)).1
  unfold VeT.wN
  rw [getD_lt hi, getD_lt hj]
  omega

end VeT

open Go Go.Proofs Ve
set_option linter.unusedVariables false
set_option linter.unusedSimpArgs false
namespace VeT

/-! the conditions of local sections -/
noncomputable def prow (x : Shf) (w : Sim) (N b a i : Nat) : Sim := addV (rowW (restX x (wN w a) (wN w b)) (off x.2.2.1 w a).toNat N 1 i) (rowW (unitM x.2.1 (x.2.2.1.getD (wN w b) 0).toNat) (off x.2.2.1 w b).toNat N (x.2.1 - 1) i) 1 x.2.1

open Classical in
/-- the rows of b and the faces below n -/
noncomputable def lsI (x : Shf) (w : Sim) (N b : Nat) : Nat → List Sim
  | 0 => []
  | a + 1 => lsI x w N b a ++ if Part (x.1.getD (wN w a) []) (x.1.getD (wN w b) []) then (List.range (x.2.2.1.getD (wN w b) 0).toNat).map (prow x w N b a) else []
noncomputable def lsT (x : Shf) (w : Sim) (N : Nat) : Nat → List Sim
  | 0 => []
  | b + 1 => lsT x w N b ++ lsI x w N b b

/-- what a pair needs -/
structure LsP (x : Shf) (w : Sim) (N b a : Nat) : Prop where
  hs : ISh x
  hp : Plcs x.1 w
  hb : b < w.length
  ha : a < b
  pt : Part (x.1.getD (wN w a) []) (x.1.getD (wN w b) [])
  eN : off x.2.2.1 w w.length = (N : Int)

theorem off_col {x : Shf} {w : Sim} (hs : ISh x) (hp : Plcs x.1 w) {i : Nat} (hi : i < w.length) : 0 ≤ off x.2.2.1 w i ∧ off x.2.2.1 w (i + 1) = off x.2.2.1 w i + x.2.2.1.getD (wN w i) 0 ∧ off x.2.2.1 w (i + 1) ≤ off x.2.2.1 w w.length ∧ 0 ≤ x.2.2.1.getD (wN w i) 0 ∧ x.2.2.1.getD (wN w i) 0 ≤ 3 := by
  have hst := hs.1.2.2.1.2.1
  have h1 := hp.wN hi
  have h2 := st_nn hst (wN w i)
  have hw : w[i] = ((wN w i : Nat) : Int) := by have := h1.1; rw [List.getElem?_eq_getElem hi] at this; exact Option.some.inj this
  exact ⟨(off_in hst).1, off_succ hi hw, off_mono hst (by omega), h2.1, h2.2⟩

theorem LsP.facts {x : Shf} {w : Sim} {N b a : Nat} (h : LsP x w N b a) (hx : Sm (.st cS) x) :
    ∃ Ta Tb Ra Rb : Nat, off x.2.2.1 w a = (Ta : Int) ∧ off x.2.2.1 w b = (Tb : Int) ∧ x.2.2.1.getD (wN w b) 0 = (Rb : Int) ∧ Rb ≤ 3 ∧ Ra ≤ 3 ∧ Ta + Ra ≤ Tb ∧ Tb + Rb ≤ N ∧
      VM (restX x (wN w a) (wN w b)) ∧ (restX x (wN w a) (wN w b)).2.1 = (Rb : Int) ∧ (restX x (wN w a) (wN w b)).2.2.1 = (Ra : Int) ∧ (restX x (wN w a) (wN w b)).1 = x.2.1 ∧
      Ret E n_impl_restriction [dLL x.1, dI x.2.1, dL x.2.2.1, dMs x.2.2.2.1, dI ((wN w a : Nat) : Int), dI ((wN w b : Nat) : Int)] ⟨o_impl_restriction, restX x (wN w a) (wN w b)⟩ ∧
      Ret E n_spec_l09Restrict [dS x, dI ((wN w a : Nat) : Int), dI ((wN w b : Nat) : Int)] ⟨o_spec_l09Restrict, restX x (wN w a) (wN w b)⟩ := by
  have ha : a < w.length := by have := h.ha; have := h.hb; omega
  have hst := h.hs.1.2.2.1.2.1
  obtain ⟨a1, a2, a3, a4, a5⟩ := off_col h.hs h.hp ha
  obtain ⟨b1, b2, b3, b4, b5⟩ := off_col h.hs h.hp h.hb
  have hm := off_mono (w := w) hst (show a + 1 ≤ b from h.ha)
  have hal := (h.hp.wN ha).2
  have hbl := (h.hp.wN h.hb).2
  obtain ⟨⟨hVM, hR⟩, r1, r2⟩ := rest_ret x.1 x.2.1 x.2.2.1 x.2.2.2.1 hx.1 h.hs.1 (wN w a) hal _ (wN w b) hbl (Nat.le_refl _) h.pt
  have eN := h.eN
  have hC : (restX x (wN w a) (wN w b)).2.2.1 = x.2.2.1.getD (wN w a) 0 := restV_cols hst
  have hR' : (restX x (wN w a) (wN w b)).2.1 = x.2.2.1.getD (wN w b) 0 := hR
  exact ⟨(off x.2.2.1 w a).toNat, (off x.2.2.1 w b).toNat, (x.2.2.1.getD (wN w a) 0).toNat, (x.2.2.1.getD (wN w b) 0).toNat, by omega, by omega, by omega, by omega, by omega, by omega, by omega, hVM, by rw [hR']; omega, by rw [hC]; omega, restV_p h.hs.1 hal hbl (Nat.le_refl _) h.pt, r1, r2⟩

theorem prow_eq {x : Shf} {w : Sim} {N b a i : Nat} (h : LsP x w N b a) (hx : Sm (.st cS) x) {Ta Tb Ra Rb : Nat} (eA : off x.2.2.1 w a = (Ta : Int)) (eB : off x.2.2.1 w b = (Tb : Int)) (eR : x.2.2.1.getD (wN w b) 0 = (Rb : Int)) (hAB : Ta + Ra ≤ Tb) (hN : Tb + Rb ≤ N)
    (eC : (restX x (wN w a) (wN w b)).2.2.1 = (Ra : Int)) (e1 : (restX x (wN w a) (wN w b)).1 = x.2.1) (hi : i < Rb) :
    (rowW (restX x (wN w a) (wN w b)) Ta N 1 i).set (Tb + i) (x.2.1 - 1) = prow x w N b a i := by
  have hp : 2 ≤ x.2.1 ∧ x.2.1 ≤ 251 := ⟨h.hs.1.2.1.1, h.hs.1.2.1.2.1⟩
  have hCt : (restX x (wN w a) (wN w b)).2.2.1.toNat = Ra := by rw [eC]; rfl
  have hUt : (unitM x.2.1 Rb).2.2.1.toNat = Rb := rfl
  have hUp : (unitM x.2.1 Rb).1 = x.2.1 := rfl
  unfold prow
  rw [eA, eB, eR]
  simp only [Int.toNat_natCast]
  refine getD_ext (by simp only [List.length_set, addV_length, rowW_length]) fun g hg => ?_
  rw [List.length_set, rowW_length] at hg
  rw [addV_get (by rw [rowW_length]; exact hg)]
  have mm : ∀ y : Int, (y % x.2.1 + 1 * 0) % x.2.1 = y % x.2.1 := fun y => by rw [Int.mul_zero, Int.add_zero, Int.emod_emod_of_dvd _ (Int.dvd_refl _)]
  by_cases hgi : g = Tb + i
  · subst hgi
    have hu : (rowW (unitM x.2.1 Rb) Tb N (x.2.1 - 1) i).getD (Tb + i) 0 = x.2.1 - 1 := by
      rw [rowW_hit (by rw [hUt]; exact hi) hg, hUt, hUp]
      have hlt := lt_rc hi hi
      have : (unitM x.2.1 Rb).2.2.2.1.getD (i * Rb + i) 0 = 1 := by
        show (flatF unitE Rb Rb).getD _ 0 = 1
        rw [List.getD_eq_getElem?_getD, flatF_getD hi hi]; simp [unitE]
      rw [this, Int.one_mul, Int.emod_eq_of_lt (by omega) (by omega)]
    rw [hu, rowW_miss (by rw [hCt]; omega), Int.zero_add, Int.one_mul, Int.emod_eq_of_lt (by omega) (by omega), List.getD_eq_getElem?_getD, List.getElem?_set_self (by rw [rowW_length]; exact hg)]; rfl
  · have hset : ((rowW (restX x (wN w a) (wN w b)) Ta N 1 i).set (Tb + i) (x.2.1 - 1)).getD g 0 = (rowW (restX x (wN w a) (wN w b)) Ta N 1 i).getD g 0 := by
      rw [List.getD_eq_getElem?_getD, List.getD_eq_getElem?_getD, List.getElem?_set_ne (fun e => hgi e.symm)]
    have hu : (rowW (unitM x.2.1 Rb) Tb N (x.2.1 - 1) i).getD g 0 = 0 := by
      by_cases hgU : Tb ≤ g ∧ g < Tb + Rb
      · obtain ⟨j, rfl⟩ : ∃ j, g = Tb + j := ⟨g - Tb, by omega⟩
        have hj : j < Rb := by omega
        rw [rowW_hit (by rw [hUt]; exact hj) hg, hUt]
        have : (unitM x.2.1 Rb).2.2.2.1.getD (i * Rb + j) 0 = 0 := by
          show (flatF unitE Rb Rb).getD _ 0 = 0
          rw [List.getD_eq_getElem?_getD, flatF_getD hi hj]
          have : ¬ i = j := fun e => hgi (by omega)
          simp [unitE, this]
        rw [this, Int.zero_mul]; exact Int.zero_emod _
      · exact rowW_miss (by rw [hUt]; exact hgU)
    rw [hset, hu]
    by_cases hgA : Ta ≤ g ∧ g < Ta + Ra
    · obtain ⟨j, rfl⟩ : ∃ j, g = Ta + j := ⟨g - Ta, by omega⟩
      rw [rowW_hit (by rw [hCt]; omega) hg, e1, mm]
    · rw [rowW_miss (by rw [hCt]; exact hgA)]
      simp

theorem prow_ok {x : Shf} {w : Sim} {N b a i : Nat} (hp : 2 ≤ x.2.1) : (prow x w N b a i).length = N ∧ Elems (prow x w N b a i) x.2.1 :=
  ⟨by unfold prow; rw [addV_length, rowW_length], addV_elems hp⟩

theorem lsI_facts {x : Shf} {w : Sim} {N b : Nat} (hp : 2 ≤ x.2.1) (hst : ∀ y ∈ x.2.2.1, 0 ≤ y ∧ y ≤ 3) : ∀ {n : Nat}, (lsI x w N b n).length ≤ 3 * n ∧ Rws x.2.1 N (lsI x w N b n)
  | 0 => ⟨by simp [lsI], fun r hr => by simp [lsI] at hr⟩
  | n + 1 => by
    obtain ⟨h1, h2⟩ := lsI_facts hp hst (n := n) (w := w) (N := N) (b := b)
    have h3 := st_nn hst (wN w b)
    rw [lsI]
    refine ⟨?_, fun r hr => ?_⟩
    · rw [List.length_append]; split
      · rw [List.length_map, List.length_range]; omega
      · simp; omega
    · rcases List.mem_append.1 hr with hr | hr
      · exact h2 r hr
      · split at hr
        · obtain ⟨i, _, rfl⟩ := List.mem_map.1 hr
          exact prow_ok hp
        · simp at hr

theorem lsT_facts {x : Shf} {w : Sim} {N : Nat} (hp : 2 ≤ x.2.1) (hst : ∀ y ∈ x.2.2.1, 0 ≤ y ∧ y ≤ 3) : ∀ {n : Nat}, n ≤ 48 → (lsT x w N n).length ≤ 144 * n ∧ Rws x.2.1 N (lsT x w N n)
  | 0, _ => ⟨by simp [lsT], fun r hr => by simp [lsT] at hr⟩
  | n + 1, hn => by
    obtain ⟨h1, h2⟩ := lsT_facts hp hst (n := n) (by omega) (w := w) (N := N)
    obtain ⟨h3, h4⟩ := lsI_facts hp hst (n := n) (w := w) (N := N) (b := n)
    rw [lsT]
    refine ⟨by rw [List.length_append]; omega, fun r hr => ?_⟩
    rcases List.mem_append.1 hr with hr | hr
    · exact h2 r hr
    · exact h4 r hr

open Classical in
noncomputable def LocalSectionsV (x : Shf) (w : Sim) : List Sim × Int × Unit := if PC x w = 0 then (kerR x.2.1 (off x.2.2.1 w w.length).toNat (lsT x w (off x.2.2.1 w w.length).toNat w.length), 0, ()) else ([], PC x w, ())

theorem off_N {x : Shf} {w : Sim} (hs : ISh x) (hp : Plcs x.1 w) : ∃ N : Nat, off x.2.2.1 w w.length = (N : Int) ∧ N ≤ 144 ∧ (off x.2.2.1 w w.length).toNat = N := by
  have h := off_in (w := w) hs.1.2.2.1.2.1 (n := w.length)
  have := hp.le48
  have := hs.1.1.1
  exact ⟨(off x.2.2.1 w w.length).toNat, by omega, by omega, rfl⟩

theorem implLocalSections_ret (x : Shf) (w : Sim) (hx : Sm (.st cS) x) (hw : Sm (.sl (.int .i64)) w) : Ret E n_impl_LocalSections [dLL x.1, dI x.2.1, dL x.2.2.1, dMs x.2.2.2.1, dL w] ⟨o_impl_LocalSections, LocalSectionsV x w⟩ := by
  refine ret_of ?_
  simp only [run_impl_LocalSections, impl_LocalSections.ev]
  refine ev_call (placed_ret x w hx hw) (ev_b (fun h => ev_some ?_) fun h => ?_)
  · have h : ¬ PC x w = 0 := by simpa using h
    rw [LocalSectionsV, if_neg h]
  have h : PC x w = 0 := by simpa using h
  obtain ⟨hs, hp⟩ := PC_zero.1 h
  rw [LocalSectionsV, if_pos h]
  obtain ⟨N, eN, bN, tN⟩ := off_N hs hp
  have hst := hs.1.2.2.1.2.1
  have hp2 : 2 ≤ x.2.1 ∧ x.2.1 ≤ 251 := ⟨hs.1.2.1.1, hs.1.2.1.2.1⟩
  have h48 : w.length ≤ 48 := by have := hp.le48; have := hs.1.1.1; omega
  have hc : Sm (.sl (.sl (.int .i64))) x.1 := hx.1
  have of := offsets_ret x w hs.1.2.2.1.1 hst hw.1 fun i hi => hp.get hi
  rw [tN]
  rw [eN] at of
  have hS : ∀ i, i < w.length → (starts x.2.2.1 w w.length)[i]? = some (off x.2.2.1 w i) := fun i hi => by
    unfold starts; rw [List.getElem?_map, List.getElem?_range hi]; rfl
  refine ev_call of ?_
  generalize starts x.2.2.1 w w.length = S at hS
  refine Ev.start (p := fun φ n => impl_LocalSections.l0 (mkR (run E (φ 0))) (φ 0) n w S (N : Int) w (w.length : Int) 0 x.1 x.2.1 x.2.2.1 x.2.2.2.1 [] = _) 1 ?_ (fun _ _ _ h => h)
  refine fold_loop 1 (L := fun φ n b o => impl_LocalSections.l0 (mkR (run E (φ 0))) (φ 0) n w S (N : Int) w (w.length : Int) b x.1 x.2.1 x.2.2.1 x.2.2.2.1 o) (len := w.length) (fun b => lsT x w N b) (fun _ _ _ _ _ => rfl) (fun b r hb ih => ?_) ?_
  · simp only [impl_LocalSections.l0_succ _ mk_ok]
    have hwb := hp.wN hb
    have hbl : wN w b < x.1.length := hwb.2
    have hT := (lsT_facts (w := w) (N := N) hp2.1 hst (n := b) (by omega)).1
    rw [lsT] at ih
    refine ev_t (decide_eq_true (by omega)) (ev_bind (idx_nat.trans hwb.1) ?_)
    generalize lsT x w N b = B at ih hT ⊢
    refine Ev.start (p := fun φ n => impl_LocalSections.l1 (mkR (run E (φ 0))) (φ 0) (φ 1) n w S (N : Int) (b : Int) ((wN w b : Nat) : Int) w (w.length : Int) (b : Int) w (w.length : Int) 0 x.1 x.2.1 x.2.2.1 x.2.2.2.1 B = _) 2 ?_ (fun _ _ _ h => h)
    have hmin : ∀ i, min i b ≤ b := fun i => by omega
    have := fold_loop 2 (L := fun φ n i o => impl_LocalSections.l1 (mkR (run E (φ 0))) (φ 0) (φ 1) n w S (N : Int) (b : Int) ((wN w b : Nat) : Int) w (w.length : Int) (b : Int) w (w.length : Int) i x.1 x.2.1 x.2.2.1 x.2.2.2.1 o) (len := w.length) (fun i => B ++ lsI x w N b (min i b)) (r := r) (fun _ _ _ _ _ => rfl) (fun i q hi ih2 => ?_) ?_
    · have e : B ++ lsI x w N b (min 0 b) = B := by rw [show min 0 b = 0 by omega]; simp [lsI]
      rw [e] at this
      exact this
    · have hwi := hp.wN hi
      have hil : wN w i < x.1.length := hwi.2
      simp only [impl_LocalSections.l1_succ _ mk_ok]
      refine ev_t (decide_eq_true (by omega)) (ev_bind (idx_nat.trans hwi.1) ?_)
      have skip : ¬ (i < b ∧ Part (x.1.getD (wN w i) []) (x.1.getD (wN w b) [])) → Ev fun φ => impl_LocalSections.j2 (mkR (run E (φ 0))) (φ 0) (φ 1) (φ 2) w S (N : Int) (b : Int) ((wN w b : Nat) : Int) (i : Int) ((wN w i : Nat) : Int) w (w.length : Int) (b : Int) w (w.length : Int) (i : Int) true x.1 x.2.1 x.2.2.1 x.2.2.2.1 (B ++ lsI x w N b (min i b)) = q := fun hn => by
        simp only [impl_LocalSections.j2_eq _ mk_ok, cond_true]
        have e : lsI x w N b (min (i + 1) b) = lsI x w N b (min i b) := by
          by_cases hib : i < b
          · rw [show min (i + 1) b = i + 1 by omega, show min i b = i by omega, lsI, if_neg fun hpt => hn ⟨hib, hpt⟩, List.append_nil]
          · rw [show min (i + 1) b = b by omega, show min i b = b by omega]
        rw [e] at ih2
        rw [w64_succ (by omega)]; exact ih2
      by_cases he : wN w i = wN w b
      · refine ev_t (by simp [he]) (skip fun ⟨hib, _⟩ => ?_)
        have := hp.wN_lt hb hib; omega
      · refine ev_f (by simp; omega) (ev_bind (idx_lt hil) (ev_bind (idx_lt hbl) (ev_call (isFace_ret _ _ (sm_get hc hil).1 (sm_get hc hbl).1) ?_)))
        by_cases hpt : Part x.1[wN w i] x.1[wN w b]
        · have hpt' : Part (x.1.getD (wN w i) []) (x.1.getD (wN w b) []) := by rw [getD_lt hil, getD_lt hbl]; exact hpt
          have hlt := part_index hs.1.1 hil hbl hpt' he
          have hib : i < b := by
            rcases Nat.lt_trichotomy i b with h | h | h
            · exact h
            · exact absurd (by rw [h]) he
            · have := hp.wN_lt hi h; omega
          have P : LsP x w N b i := ⟨hs, hp, hb, hib, hpt', eN⟩
          obtain ⟨Ta, Tb, Ra, Rb, eA, eB, eR, hR3, hRa3, hAB, hBN, hVM, mR, mC, m1, r1, _⟩ := P.facts hx
          have hlen : (restX x (wN w i) (wN w b)).2.2.2.1.length = Rb * Ra := by
            have := hVM.2.2.2.1
            rw [mR, mC, cast_mul] at this; omega
          have hRR := rc_le (show Rb ≤ 32 by omega) (show Ra ≤ 32 by omega)
          have rr := rowsOfG_ret (restX x (wN w i) (wN w b)).1 Rb Ra (restX x (wN w i) (wN w b)).2.2.2.1 hlen (by omega) (by omega) (by omega)
          rw [← mR, ← mC] at rr
          simp only [pb_true hpt, Bool.not_true, impl_LocalSections.j2_eq _ mk_ok, cond_false]
          refine ev_call r1 (ev_call rr ?_)
          rw [rowsE_length]
          have hI := (lsI_facts (w := w) (N := N) (b := b) hp2.1 hst (n := i)).1
          have e1 : lsI x w N b (min (i + 1) b) = lsI x w N b (min i b) ++ (List.range Rb).map (prow x w N b i) := by
            rw [show min (i + 1) b = i + 1 by omega, show min i b = i by omega, lsI, if_pos hpt', eR]; rfl
          rw [e1, ← List.append_assoc] at ih2
          rw [show min i b = i by omega] at ih2 ⊢
          generalize hK : B ++ lsI x w N b i = K at ih2 ⊢
          have hKl : K.length ≤ 144 * 48 + 144 := by rw [← hK, List.length_append]; omega
          refine Ev.start (p := fun φ n => impl_LocalSections.l3 (mkR (run E (φ 0))) (φ 0) (φ 1) (φ 2) n w S (N : Int) (b : Int) ((wN w b : Nat) : Int) (i : Int) w (w.length : Int) (b : Int) w (w.length : Int) (i : Int) (rowsE (entM (restX x (wN w i) (wN w b)).2.2.2.1 Ra) Rb Ra) (Rb : Int) 0 x.1 x.2.1 x.2.2.1 x.2.2.2.1 K = _) 3 ?_ (fun _ _ _ h => h)
          have := fold_loop 3 (L := fun φ n j o => impl_LocalSections.l3 (mkR (run E (φ 0))) (φ 0) (φ 1) (φ 2) n w S (N : Int) (b : Int) ((wN w b : Nat) : Int) (i : Int) w (w.length : Int) (b : Int) w (w.length : Int) (i : Int) (rowsE (entM (restX x (wN w i) (wN w b)).2.2.2.1 Ra) Rb Ra) (Rb : Int) j x.1 x.2.1 x.2.2.1 x.2.2.2.1 o) (len := Rb) (fun j => K ++ (List.range j).map (prow x w N b i)) (r := q) (fun _ _ _ _ _ => rfl) (fun j q2 hj ih3 => ?_) ?_
          · simpa using this
          · have sA := hS i hi
            have sB := hS b hb
            rw [eA] at sA
            rw [eB] at sB
            have hcp := copy_row hVM mR mC hj (show Ta + Ra ≤ N by omega)
            have hpr := prow_eq P hx eA eB eR hAB hBN mC m1 hj
            have e2 : w64 ((Tb : Int) + (j : Int)) = ((Tb + j : Nat) : Int) := by rw [w64_small (by omega) (by omega)]; omega
            have e3 : w64 (x.2.1 - 1) = x.2.1 - 1 := w64_small (by omega) (by omega)
            rw [List.range_succ, List.map_append, List.map_singleton, ← List.append_assoc] at ih3
            have h0 : (0 : Int) ≤ (Ta : Int) := by omega
            have hTN : (Ta : Int) ≤ (N : Int) := by omega
            simp only [impl_LocalSections.l3_succ _ mk_ok, Int.toNat_natCast, List.length_replicate]
            refine ev_t (decide_eq_true (by omega)) (ev_bind (idx_nat.trans (rowsE_get hj)) (ev_chk (by simp only [Bool.and_eq_true, decide_eq_true_eq]; omega) (ev_bind (idx_nat.trans sA) ?_)))
            simp only [Int.toNat_natCast, hcp, rowW_length]
            refine ev_chk (by simp only [Bool.and_eq_true, decide_eq_true_eq]; exact ⟨h0, hTN⟩) (ev_chk (by simp only [Bool.and_eq_true, decide_eq_true_eq]; omega) (ev_bind (idx_nat.trans sB) ?_))
            simp only [e2, e3, Int.toNat_natCast, hpr]
            refine ev_chk (by simp only [Bool.and_eq_true, decide_eq_true_eq]; omega) (ev_chk (by simp only [List.length_append, List.length_map, List.length_range, List.length_cons, List.length_nil, decide_eq_true_eq]; omega) ?_)
            rw [w64_succ (by omega)]; exact ih3
          · simp only [impl_LocalSections.l3_succ _ mk_ok]
            refine ev_f (decide_eq_false (by omega)) ?_
            rw [w64_succ (by omega)]; exact ih2
        · simp only [pb_false hpt, Bool.not_false]
          exact skip fun ⟨_, hpt'⟩ => hpt (by rw [getD_lt hil, getD_lt hbl] at hpt'; exact hpt')
    · simp only [impl_LocalSections.l1_succ _ mk_ok]
      refine ev_f (decide_eq_false (by omega)) ?_
      rw [show min w.length b = b by omega, w64_succ (by omega)]
      exact ih
  · simp only [impl_LocalSections.l0_succ _ mk_ok]
    obtain ⟨h1, h2⟩ := lsT_facts (w := w) (N := N) hp2.1 hst (n := w.length) h48
    obtain ⟨h3, h4⟩ := h2.flat
    have hmul : (lsT x w N w.length).length * N ≤ 6912 * 144 := Nat.mul_le_mul (by omega) bN
    exact ev_f (decide_eq_false (by omega)) (ev_call (matrixOf_ret x.2.1 (N : Int) (lsT x w N w.length) (by omega) (by omega)) (ev_call (kernelR_ret x.2.1 N (lsT x w N w.length) hp2 (by omega) (by omega) (by omega) h2) ev_rfl))

theorem specLocalSections_ret (x : Shf) (w : Sim) (hx : Sm (.st cS) x) (hw : Sm (.sl (.int .i64)) w) : Ret E n_spec_LocalSections [dLL x.1, dI x.2.1, dL x.2.2.1, dMs x.2.2.2.1, dL w] ⟨o_spec_LocalSections, LocalSectionsV x w⟩ := by
  refine ret_of ?_
  simp only [run_spec_LocalSections, spec_LocalSections.ev]
  refine ev_call (l09Is_ret x hx) (ev_b (fun h => ev_some ?_) fun h => ?_)
  · have h := pb_not.1 (show pb (ISh x) = false by simpa using h)
    have e : PC x w = 1 := by rw [PC, if_neg h]
    rw [LocalSectionsV, e, if_neg (by omega)]
  have hs := pb_iff.1 (show pb (ISh x) = true by simpa using h)
  refine ev_call (l10Places_ret x w hx.1.1 hw) (ev_b (fun h2 => ev_some ?_) fun h2 => ?_)
  · have h2 := pb_not.1 (show pb (Plcs x.1 w) = false by simpa using h2)
    have e : PC x w = 2 := by rw [PC, if_pos hs, if_neg h2]
    rw [LocalSectionsV, e, if_neg (by omega)]
  have hp := pb_iff.1 (show pb (Plcs x.1 w) = true by simpa using h2)
  rw [LocalSectionsV, if_pos (PC_zero.2 ⟨hs, hp⟩)]
  obtain ⟨N, eN, bN, tN⟩ := off_N hs hp
  have hst := hs.1.2.2.1.2.1
  have hl := hs.1.2.2.1.1
  have hp2 : 2 ≤ x.2.1 ∧ x.2.1 ≤ 251 := ⟨hs.1.2.1.1, hs.1.2.1.2.1⟩
  have h48 : w.length ≤ 48 := by have := hp.le48; have := hs.1.1.1; omega
  have hc : Sm (.sl (.sl (.int .i64))) x.1 := hx.1
  have many : ∀ i, i ≤ w.length → Ret E n_spec_l10Many [dS x, dL (w.take i)] ⟨o_spec_l10Many, (off x.2.2.1 w i, ())⟩ := fun i hi => by
    have := l10Many_ret x (w.take i) hl hst (by rw [List.length_take]; omega) fun j hj => by
      have hj' : j < w.length := by rw [List.length_take] at hj; omega
      obtain ⟨n, hn, hl⟩ := hp.get hj'
      exact ⟨n, by rw [List.getElem_take]; exact hn, hl⟩
    rw [off_take] at this
    exact this
  have mall := l10Many_ret x w hl hst hw.1 fun i hi => hp.get hi
  rw [tN]
  rw [eN] at mall
  refine ev_call mall ?_
  refine Ev.start (p := fun φ n => spec_LocalSections.l0 (mkR (run E (φ 0))) (φ 0) n w (N : Int) 0 x.1 x.2.1 x.2.2.1 x.2.2.2.1 [] = _) 1 ?_ (fun _ _ _ h => h)
  refine fold_loop 1 (L := fun φ n b o => spec_LocalSections.l0 (mkR (run E (φ 0))) (φ 0) n w (N : Int) b x.1 x.2.1 x.2.2.1 x.2.2.2.1 o) (len := w.length) (fun b => lsT x w N b) (fun _ _ _ _ _ => rfl) (fun b r hb ih => ?_) ?_
  · simp only [spec_LocalSections.l0_succ _ mk_ok]
    have hwb := hp.wN hb
    have hbl : wN w b < x.1.length := hwb.2
    have hT := (lsT_facts (w := w) (N := N) hp2.1 hst (n := b) (by omega)).1
    rw [lsT] at ih
    refine ev_t (decide_eq_true (by omega)) ?_
    generalize lsT x w N b = B at ih hT ⊢
    refine Ev.start (p := fun φ n => spec_LocalSections.l1 (mkR (run E (φ 0))) (φ 0) (φ 1) n w (N : Int) (b : Int) 0 x.1 x.2.1 x.2.2.1 x.2.2.2.1 B = _) 2 ?_ (fun _ _ _ h => h)
    have := fold_loop 2 (L := fun φ n i o => spec_LocalSections.l1 (mkR (run E (φ 0))) (φ 0) (φ 1) n w (N : Int) (b : Int) i x.1 x.2.1 x.2.2.1 x.2.2.2.1 o) (len := b) (fun i => B ++ lsI x w N b i) (r := r) (fun _ _ _ _ _ => rfl) (fun i q hi ih2 => ?_) ?_
    · simpa [lsI] using this
    · have hi' : i < w.length := by omega
      have hwi := hp.wN hi'
      have hil : wN w i < x.1.length := hwi.2
      have hI := (lsI_facts (w := w) (N := N) (b := b) hp2.1 hst (n := i)).1
      rw [lsI] at ih2
      simp only [spec_LocalSections.l1_succ _ mk_ok]
      refine ev_t (decide_eq_true (by omega)) (ev_bind (idx_nat.trans hwi.1) (ev_bind (idx_lt hil) (ev_bind (idx_nat.trans hwb.1) (ev_bind (idx_lt hbl) (ev_call (l05Part_ret _ _ (sm_get hc hil).1 (sm_get hc hbl).1) ?_)))))
      by_cases hpt : Part x.1[wN w i] x.1[wN w b]
      · have hpt' : Part (x.1.getD (wN w i) []) (x.1.getD (wN w b) []) := by rw [getD_lt hil, getD_lt hbl]; exact hpt
        have P : LsP x w N b i := ⟨hs, hp, hb, hi, hpt', eN⟩
        obtain ⟨Ta, Tb, Ra, Rb, eA, eB, eR, hR3, hRa3, hAB, hBN, hVM, mR, mC, m1, _, r2⟩ := P.facts hx
        rw [if_pos hpt'] at ih2
        have hbs : wN w b < x.2.2.1.length := by rw [hl]; exact hbl
        have hgs : x.2.2.1[wN w b]? = some (Rb : Int) := by rw [List.getElem?_eq_getElem hbs, ← eR, getD_lt hbs]
        have hU := unitM_VM hs.1.2.1 (show Rb ≤ 32 by omega)
        have ra := l10Rows_ret (restX x (wN w i) (wN w b)) Ta N 1 hVM (by rw [mC]; omega) (by omega) (by omega)
        have rb := l10Rows_ret (unitM x.2.1 Rb) Tb N (x.2.1 - 1) hU (by show (Tb : Int) + (Rb : Int) ≤ N; omega) (by omega) (by omega)
        rw [show (restX x (wN w i) (wN w b)).2.1.toNat = Rb by rw [mR]; rfl] at ra
        rw [show (unitM x.2.1 Rb).2.1.toNat = Rb from rfl] at rb
        have ep : w64 (x.2.1 - 1) = x.2.1 - 1 := w64_small (by omega) (by omega)
        have hin : ∀ m : Mat, m.1 = x.2.1 → ∀ a t i, ∀ y ∈ rowW m a N t i, 0 ≤ y ∧ y ≤ 250 := fun m hm a t i y hy => by
          have := rowW_elems (m := m) (a := a) (n := N) (t := t) (i := i) (by omega)
          rw [hm] at this
          exact this.mem hp2 y hy
        have sm := l10Sum_ret ((List.range Rb).map (rowW (restX x (wN w i) (wN w b)) Ta N 1)) ((List.range Rb).map (rowW (unitM x.2.1 Rb) Tb N (x.2.1 - 1))) x.2.1 hp2 (by simp) (by rw [List.length_map, List.length_range]; omega) (fun j hj hj' => by
          simp only [List.getElem_map, List.getElem_range, rowW_length]
          exact ⟨Nat.le_refl _, by omega, hin _ m1 _ _ _, hin _ rfl _ _ _⟩)
        rw [List.length_map, List.length_range] at sm
        have hrow : ((List.range Rb).map fun j => addV (((List.range Rb).map (rowW (restX x (wN w i) (wN w b)) Ta N 1)).getD j []) (((List.range Rb).map (rowW (unitM x.2.1 Rb) Tb N (x.2.1 - 1))).getD j []) 1 x.2.1) = (List.range (x.2.2.1.getD (wN w b) 0).toNat).map (prow x w N b i) := by
          rw [eR, Int.toNat_natCast]
          refine List.map_congr_left fun j hj => ?_
          have hj := List.mem_range.1 hj
          unfold prow
          rw [eA, eB, eR]
          simp only [Int.toNat_natCast]
          simp [List.getD_eq_getElem?_getD, hj]
        rw [hrow] at sm
        have ma := many i (by omega)
        have mb := many b (by omega)
        rw [eA] at ma
        rw [eB] at mb
        have fin : Ev fun φ => spec_LocalSections.j3 (mkR (run E (φ 0))) (φ 0) (φ 1) (φ 2) w (N : Int) (b : Int) (i : Int) x.1 x.2.1 x.2.2.1 x.2.2.2.1 (restX x (wN w i) (wN w b)).1 (restX x (wN w i) (wN w b)).2.1 (restX x (wN w i) (wN w b)).2.2.1 (restX x (wN w i) (wN w b)).2.2.2.1 (unitM x.2.1 Rb).1 (unitM x.2.1 Rb).2.1 (unitM x.2.1 Rb).2.2.1 (unitM x.2.1 Rb).2.2.2.1 (B ++ lsI x w N b i) = q := by
          simp only [spec_LocalSections.j3_eq _ mk_ok, Int.toNat_natCast, ep]
          refine ev_chk (by simp only [Bool.and_eq_true, decide_eq_true_eq]; omega) (ev_call ma (ev_call ra (ev_chk (by simp only [Bool.and_eq_true, decide_eq_true_eq]; omega) (ev_call mb (ev_call rb (ev_call sm (ev_chk (by simp only [eR, Int.toNat_natCast, List.length_append, List.length_map, List.length_range, decide_eq_true_eq]; omega) ?_)))))))
          rw [w64_succ (by omega), List.append_assoc]; exact ih2
        have mid : Ev fun φ => spec_LocalSections.j2 (mkR (run E (φ 0))) (φ 0) (φ 1) (φ 2) w (N : Int) (b : Int) (i : Int) x.1 x.2.1 x.2.2.1 x.2.2.2.1 (restX x (wN w i) (wN w b)).1 (restX x (wN w i) (wN w b)).2.1 (restX x (wN w i) (wN w b)).2.2.1 (restX x (wN w i) (wN w b)).2.2.2.1 (B ++ lsI x w N b i) = q := by
          simp only [spec_LocalSections.j2_eq _ mk_ok]
          have u := l03Unit_ret x.2.1 Rb (by omega)
          exact ev_bind (idx_nat.trans hwb.1) (ev_bind (idx_nat.trans hgs) (ev_both (ev_call u fin) (ev_call u fin)))
        exact ev_f (by rw [pb_true hpt]; rfl) (ev_bind (idx_nat.trans hwi.1) (ev_bind (idx_nat.trans hwb.1) (ev_both (ev_call r2 mid) (ev_call r2 mid))))
      · have hpt' : ¬ Part (x.1.getD (wN w i) []) (x.1.getD (wN w b) []) := by rw [getD_lt hil, getD_lt hbl]; exact hpt
        rw [if_neg hpt', List.append_nil] at ih2
        refine ev_t (by rw [pb_false hpt]; rfl) ?_
        rw [w64_succ (by omega)]; exact ih2
    · simp only [spec_LocalSections.l1_succ _ mk_ok]
      refine ev_f (decide_eq_false (by omega)) ?_
      rw [w64_succ (by omega)]
      exact ih
  · simp only [spec_LocalSections.l0_succ _ mk_ok]
    obtain ⟨h1, h2⟩ := lsT_facts (w := w) (N := N) hp2.1 hst (n := w.length) h48
    have hmul : (lsT x w N w.length).length * N ≤ 6912 * 144 := Nat.mul_le_mul (by omega) bN
    exact ev_f (decide_eq_false (by omega)) (ev_call (l10Kernel_ret x.2.1 N (lsT x w N w.length) hp2 (by omega) (by omega) (by omega) h2) ev_rfl)

theorem LocalSectionsV_sm (x : Shf) (w : Sim) (hx : Sm (.st cS) x) (hw : Sm (.sl (.int .i64)) w) : Sm (.sl (.sl (.int .i64))) (LocalSectionsV x w).1 := by
  unfold LocalSectionsV
  split
  · rename_i h
    obtain ⟨hs, hp⟩ := PC_zero.1 h
    obtain ⟨N, eN, bN, tN⟩ := off_N hs hp
    exact kerM_sm hs.1.2.1.1 (by omega)
  · exact sm_nilLL

end VeT

open Go Go.Proofs Ve
set_option linter.unusedVariables false
set_option linter.unusedSimpArgs false
namespace VeT

theorem law_LocalSections (x0 : Shf) (x1 : Sim) (w0 : Wf (.st cS) x0) (w1 : Wf (.sl (.int .i64)) x1) : Ret E n_laws_FnExactLocalSections [dLL x0.1, dI x0.2.1, dL x0.2.2.1, dMs x0.2.2.2.1, dL x1] ⟨.cons .bool .nil, (true, ())⟩ := by
  refine ret_of ?_
  simp only [run_laws_FnExactLocalSections, laws_FnExactLocalSections.ev]
  refine ev_d (fun _ => ev_rfl) fun l1 => ?_
  have m1 : Sm (.sl (.int .i64)) x1 := ⟨by omega, fun _ _ => trivial⟩
  obtain ⟨r0, hs0, s0⟩ := szSheaf_ret x0 1048576 w0 (by omega) (by omega)
  refine ev_call hs0 (ev_d (fun _ => ev_rfl) fun n0 => ?_)
  have n0 := Int.not_lt.1 n0
  obtain ⟨b0, m0⟩ := s0 n0
  have hi := implLocalSections_ret x0 x1 m0 m1
  have hsp := specLocalSections_ret x0 x1 m0 m1
  have hsm := LocalSectionsV_sm x0 x1 m0 m1
  generalize LocalSectionsV x0 x1 = V at hi hsp hsm
  obtain ⟨v0, v1, ⟨⟩⟩ := V
  have z0 : Sm (.sl (.sl (.int .i64))) v0 := hsm
  obtain ⟨qr0, hqr0, eqr0⟩ := eqInt64SS_ret v0 v0 z0
  obtain rfl : qr0 = true := eqr0.2 rfl
  have to0 := toSheaf_ret x0 m0
  obtain ⟨q0, hq0, eq0⟩ := eqSheaf_ret x0 x0 m0
  obtain rfl : q0 = true := eq0.2 rfl
  have to1 := toInt64S_ret x1 m1
  obtain ⟨q1, hq1, eq1⟩ := eqInt64S_ret x1 x1 m1
  obtain rfl : q1 = true := eq1.2 rfl
  obtain ⟨ma0, mb0, mc0, hm0, hmb0⟩ := markSheaf_ret x0 m0
  have hm1 := markInt64S_ret x1 (mkSN x0 1) (by omega) m1.1
  have hk : ¬ (mkSN x0 1 + (x1.length : Int) < 0) := by omega
  have mr0 := markInt64SS_ret v0 (1) (by omega) z0
  have hl0 := heldInt64SS_ret v0 (1) (by omega) z0
  have hb0 := mkN_ge (xs := v0) (k := 1) fun y hy => (z0.2 y hy).1
  have he0 : ¬ (mkN v0 (1) < 0) := by omega
  repeat (first | with_reducible exact ev_rfl | with_reducible refine ev_call hqr0 ?_ | with_reducible refine ev_call to0 ?_ | with_reducible refine ev_call hq0 ?_ | with_reducible refine ev_call to1 ?_ | with_reducible refine ev_call hq1 ?_ | with_reducible refine ev_call hi ?_ | with_reducible refine ev_call hsp ?_ | with_reducible refine ev_call hm0 ?_ | with_reducible refine ev_call hm1 ?_ | with_reducible refine ev_call mr0 ?_ | with_reducible refine ev_call hl0 ?_ | with_reducible refine ev_f (by first | rfl | exact bne_self_eq_false _ | exact decide_eq_false hk | exact decide_eq_false he0 | (simp; done)) ?_ | simp only [bne_self_eq_false, laws_FnExactLocalSections.j0_eq _ mk_ok, laws_FnExactLocalSections.j1_eq _ mk_ok, laws_FnExactLocalSections.j2_eq _ mk_ok, cond_false])

theorem rowLocalSections (z : ((.cons (.sl (.sl (.int .i64))) (.cons (.int .i64) (.cons (.sl (.int .i64)) (.cons (.sl (.st cM)) (.cons (.sl (.int .i64)) .nil))))) : Ty).T)
    (h : Wf (.cons (.sl (.sl (.int .i64))) (.cons (.int .i64) (.cons (.sl (.int .i64)) (.cons (.sl (.st cM)) (.cons (.sl (.int .i64)) .nil))))) z) :
    Evt fun n => run E n n_laws_FnExactLocalSections (unpack _ z) = some ⟨.cons .bool .nil, (true, ())⟩ :=
  law_LocalSections (z.1, z.2.1, z.2.2.1, z.2.2.2.1, ()) z.2.2.2.2.1 ⟨h.1, h.2.1, h.2.2.1, h.2.2.2.1, trivial⟩ h.2.2.2.2.1

end VeT
