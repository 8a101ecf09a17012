import Derived.Test.YtonfceapakgcjaaGreatT3
import Derived.Test.YtonfceapakgcjaaGreatV2
set_option linter.unusedVariables false
set_option linter.unusedSimpArgs false
open Go Go.Proofs Ve
set_option linter.unusedVariables false
set_option linter.unusedSimpArgs false
namespace VeT

def Vx (s : Sim) : Prop := 1 ≤ s.length ∧ s.length ≤ 4 ∧ Rises s ∧ ∀ x ∈ s,0 ≤ x ∧ x ≤ 9

theorem ValidSimplex_ret (s : Sim) (hs : Sm (.sl (.int .i64)) s) : Ret E n_Z8 [dL s] ⟨o_Z8,(pb (Vx s),())⟩ := by
  refine ret_of ?_
  simp only [run_Z8,Z8.ev]
  refine ev_d (fun h1 => ev_d (fun h2 => ev_call (isRising_ret s hs) (ev_b (fun h3 => ev_call (ContainsFunc_Sint64_int64_impl_ValidSimplex_1_ret s _ hs.1 fun x _ => ValidSimplex_1_ret x) (ev_some ?_)) fun h3 => ev_some ?_)) fun h2 => ev_some ?_) fun h1 => ev_some ?_
  · have h3 := pb_iff.1 h3
    have : (!pb (∃ x ∈ s,(!pb (0 ≤ x ∧ x ≤ 9)) = true)) = pb (Vx s) := eq_pb (by
      simp only [Bool.not_eq_true',pb_not]
      exact ⟨fun h => ⟨by omega,by omega,h3,fun x hx => Classical.byContradiction fun hn => h ⟨x,hx,hn⟩⟩,fun h ⟨x,hx,hn⟩ => hn (h.2.2.2 x hx)⟩)
    rw [this]
  · rw [pb_false fun h => pb_not.1 h3 h.2.2.1]
  · rw [pb_false fun h => h2 (by have := h.2.1; omega)]
  · rw [pb_false fun h => h1 (by have := h.1; omega)]

theorem l00Rises_ret (s : Sim) (lo hi : Int) (hs : Sm (.sl (.int .i64)) s) : Ret E n_Z65 [dL s,dI lo,dI hi] ⟨o_Z65,(pb (Rises s ∧ ∀ x ∈ s,lo ≤ x ∧ x ≤ hi),())⟩ := by
  have hs1 : s.length ≤ 1048576 := hs.1
  refine ret_of ?_
  simp only [run_Z65,Z65.ev]
  refine Ev.start (p := fun φ n => Z65.l0 (mkR (run E (φ 0))) (φ 0) n s lo hi 0 = _) 1 ?_ (fun _ _ _ h => h)
  refine (all_pb 1 (L := fun φ n k => Z65.l0 (mkR (run E (φ 0))) (φ 0) n s lo hi k) (len := s.length) 0 (by omega) (fun j => (lo ≤ s.getD j 0 ∧ s.getD j 0 ≤ hi) ∧ (1 ≤ j → s.getD (j - 1) 0 < s.getD j 0)) (fun b => some ⟨o_Z65,(b,())⟩) (fun _ _ _ _ => rfl) (fun k h1 h2 hP _ => ?_) (fun k r h1 h2 hP _ ih => ?_) (fun _ => ?_)).to ?_
  · simp only [Z65.l0_succ _ mk_ok]
    refine ev_t (decide_eq_true (by omega)) (ev_bind (idx_lt h2) (ev_call (l00In_ret _ _ _) ?_))
    have e : s.getD k 0 = s[k] := by simp [List.getD_eq_getElem?_getD,h2]
    rw [e] at hP
    refine ev_b (fun _ => ?_) (fun hin => ?_)
    · simp only [Z65.j1_eq _ mk_ok,cond_true]; (first | exact ev_rfl | exact Ev.of fun _ => trivial)
    · have hin : lo ≤ s[k] ∧ s[k] ≤ hi := pb_iff.1 (by simpa using hin)
      have hk : 1 ≤ k := Classical.byContradiction fun h => hP ⟨hin,fun h' => absurd h' h⟩
      refine ev_t (decide_eq_true (by omega)) ?_
      rw [w64_small (by omega) (by omega),show ((k : Int) - 1) = ((k - 1 : Nat) : Int) by omega]
      refine ev_bind (idx_lt (by omega)) (ev_bind (idx_lt h2) ?_)
      have e' : s.getD (k - 1) 0 = s[k - 1] := by simp [List.getD_eq_getElem?_getD,show k - 1 < s.length by omega]
      rw [e'] at hP
      have : decide (s[k-1] ≥ s[k]) = true := decide_eq_true (Classical.byContradiction fun h => hP ⟨hin,fun _ => by omega⟩)
      simp only [this,Z65.j1_eq _ mk_ok,cond_true]; (first | exact ev_rfl | exact Ev.of fun _ => trivial)
  · simp only [Z65.l0_succ _ mk_ok]
    refine ev_t (decide_eq_true (by omega)) (ev_bind (idx_lt h2) (ev_call (l00In_ret _ _ _) ?_))
    have e : s.getD k 0 = s[k] := by simp [List.getD_eq_getElem?_getD,h2]
    rw [e] at hP
    refine ev_f (by rw [pb_true hP.1]; rfl) ?_
    refine ev_d (fun hk => ?_) fun hk => ?_
    · rw [w64_small (by omega) (by omega),show ((k : Int) - 1) = ((k - 1 : Nat) : Int) by omega]
      refine ev_bind (idx_lt (by omega)) (ev_bind (idx_lt h2) ?_)
      have e' : s.getD (k - 1) 0 = s[k - 1] := by simp [List.getD_eq_getElem?_getD,show k - 1 < s.length by omega]
      rw [e'] at hP
      have : decide (s[k-1] ≥ s[k]) = false := decide_eq_false (by have := hP.2 (by omega); omega)
      simp only [this,Z65.j1_eq _ mk_ok,cond_false]
      rw [w64_succ (by omega)]; exact ih
    · simp only [Z65.j1_eq _ mk_ok,cond_false]
      rw [w64_succ (by omega)]; exact ih
  · simp only [Z65.l0_succ _ mk_ok]
    exact ev_f (decide_eq_false (by omega)) ev_rfl
  · refine congrArg (fun b : Bool => some (⟨o_Z65,(b,())⟩ : Dv)) (pb_congr ⟨fun h => ⟨fun j h1 h2 => (h j (by omega) h2).2 h1,fun x hx => ?_⟩,fun ⟨h1,h2⟩ j _ hj => ⟨?_,fun h3 => h1 j h3 hj⟩⟩)
    · obtain ⟨j,hj,rfl⟩ := List.mem_iff_getElem.1 hx
      simpa [List.getD_eq_getElem?_getD,hj] using (h j (by omega) hj).1
    · simpa [List.getD_eq_getElem?_getD,hj] using h2 _ (List.getElem_mem hj)

theorem l05Simplex_ret (s : Sim) (hs : Sm (.sl (.int .i64)) s) : Ret E n_Z73 [dL s] ⟨o_Z73,(pb (Vx s),())⟩ := by
  refine ret_of ?_
  simp only [run_Z73,Z73.ev]
  refine ev_call (l00In_ret _ _ _) (ev_b (fun h1 => ev_call (l00Rises_ret s _ _ hs) (ev_some ?_)) fun h1 => ev_some ?_)
  · have h1 := pb_iff.1 h1
    exact congrArg (fun b : Bool => some (⟨o_Z73,(b,())⟩ : Dv)) (pb_congr ⟨fun h => ⟨by omega,by omega,h.1,h.2⟩,fun h => ⟨h.2.2.1,h.2.2.2⟩⟩)
  · rw [pb_false fun h => pb_not.1 h1 ⟨by have := h.1; omega,by have := h.2.1; omega⟩]

/-! comparing -/
def cmp3 (a b : Int) : Int := if a < b then -1 else if b < a then 1 else 0
def lexc : Sim → Sim → Int
  | [],[] => 0
  | [],_ :: _ => -1
  | _ :: _,[] => 1
  | x :: xs,y :: ys => if x < y then -1 else if y < x then 1 else lexc xs ys
def cmpS (a b : Sim) : Int := if cmp3 a.length b.length ≠ 0 then cmp3 a.length b.length else lexc a b

theorem cmp3_zero {a b : Int} : cmp3 a b = 0 ↔ a = b := by unfold cmp3; split <;> (try split) <;> omega
theorem cmp3_neg {a b : Int} : cmp3 b a = - cmp3 a b := by unfold cmp3; split <;> split <;> (try split) <;> omega
theorem cmp3_lt {a b : Int} : cmp3 a b < 0 ↔ a < b := by unfold cmp3; split <;> (try split) <;> omega
theorem lexc_eq : ∀ {a b : Sim},lexc a b = 0 ↔ a = b
  | [],[] => by simp [lexc]
  | [],_ :: _ => by simp [lexc]
  | _ :: _,[] => by simp [lexc]
  | x :: xs,y :: ys => by
    have := @lexc_eq xs ys
    simp only [lexc,List.cons.injEq]
    split
    · constructor
      · intro h; omega
      · rintro ⟨rfl,_⟩; omega
    · split
      · constructor
        · intro h; omega
        · rintro ⟨rfl,_⟩; omega
      · rw [this]; constructor
        · intro h; exact ⟨by omega,h⟩
        · exact fun h => h.2
theorem lexc_neg : ∀ {a b : Sim},lexc b a = - lexc a b
  | [],[] => by simp [lexc]
  | [],_ :: _ => by simp [lexc]
  | _ :: _,[] => by simp [lexc]
  | x :: xs,y :: ys => by
    have := @lexc_neg xs ys
    simp only [lexc]
    split <;> split <;> (try split) <;> omega
theorem lexc_trans : ∀ {a b c : Sim},lexc a b < 0 → lexc b c < 0 → lexc a c < 0
  | [],[],c,h,_ => by simp [lexc] at h
  | [],_ :: _,[],_,h => by simp [lexc] at h
  | [],_ :: _,_ :: _,_,_ => by simp [lexc]
  | _ :: _,[],_,h,_ => by simp [lexc] at h
  | _ :: _,_ :: _,[],_,h => by simp [lexc] at h
  | x :: xs,y :: ys,z :: zs,h1,h2 => by
    have := @lexc_trans xs ys zs
    simp only [lexc] at h1 h2 ⊢
    split at h1 <;> split at h2 <;> (try split at h1) <;> (try split at h2) <;> (try split) <;> (try split) <;> first | omega | (exact this h1 h2)
theorem cmpS_zero {a b : Sim} : cmpS a b = 0 ↔ a = b := by
  unfold cmpS
  split
  · rename_i h
    exact ⟨fun h' => absurd h' h,fun h' => absurd (cmp3_zero.2 (by rw [h'])) h⟩
  · exact lexc_eq
theorem cmpS_neg {a b : Sim} : cmpS b a = - cmpS a b := by
  unfold cmpS
  rw [@cmp3_neg a.length b.length]
  split <;> split <;> first | omega | exact lexc_neg
theorem cmpS_lt {a b : Sim} : cmpS a b < 0 ↔ a.length < b.length ∨ a.length = b.length ∧ lexc a b < 0 := by
  unfold cmpS
  split
  · rename_i h
    rw [cmp3_lt]
    rw [Ne,cmp3_zero] at h
    omega
  · rename_i h
    rw [Classical.not_not,cmp3_zero] at h
    omega
theorem cmpS_trans {a b c : Sim} (h1 : cmpS a b < 0) (h2 : cmpS b c < 0) : cmpS a c < 0 := by
  rw [cmpS_lt] at *
  rcases h1 with h1 | ⟨h1,h1'⟩ <;> rcases h2 with h2 | ⟨h2,h2'⟩
  · left; omega
  · left; omega
  · left; omega
  · right; exact ⟨by omega,lexc_trans h1' h2'⟩

theorem isNaNi_ret (a : Int) : Ret E n_Z3 [dI a] ⟨o_Z3,(false,())⟩ := by
  refine ret_of ?_
  simp only [run_Z3,Z3.ev]
  exact ev_some (by simp)
theorem isNaN_ret (a : Int) : Ret E n_Z4 [dI a] ⟨o_Z4,(false,())⟩ := by
  refine ret_of ?_
  simp only [run_Z4,Z4.ev]
  exact ev_some (by simp)

theorem Comparei_ret (a b : Int) : Ret E n_Z0 [dI a,dI b] ⟨o_Z0,(cmp3 a b,())⟩ := by
  refine ret_of ?_
  simp only [run_Z0,Z0.ev]
  refine ev_call (isNaNi_ret _) (ev_call (isNaNi_ret _) (ev_f rfl (ev_f rfl (ev_d (fun h => ev_some ?_) fun h => ev_d (fun h2 => ev_some ?_) fun h2 => ev_some ?_))))
  · rw [cmp3,if_pos h]
  · rw [cmp3,if_neg h,if_pos h2]
  · rw [cmp3,if_neg h,if_neg h2]
theorem Compare_ret (a b : Int) : Ret E n_Z1 [dI a,dI b] ⟨o_Z1,(cmp3 a b,())⟩ := by
  refine ret_of ?_
  simp only [run_Z1,Z1.ev]
  refine ev_call (isNaN_ret _) (ev_call (isNaN_ret _) (ev_f rfl (ev_f rfl (ev_d (fun h => ev_some ?_) fun h => ev_d (fun h2 => ev_some ?_) fun h2 => ev_some ?_))))
  · rw [cmp3,if_pos h]
  · rw [cmp3,if_neg h,if_pos h2]
  · rw [cmp3,if_neg h,if_neg h2]

theorem lexc_step {a b : Sim} {k : Nat} (h : k < a.length) (h' : k < b.length) : lexc (a.drop k) (b.drop k) = if cmp3 a[k] b[k] ≠ 0 then cmp3 a[k] b[k] else lexc (a.drop (k + 1)) (b.drop (k + 1)) := by
  rw [List.drop_eq_getElem_cons h,List.drop_eq_getElem_cons h',lexc]
  unfold cmp3
  split
  · simp
  · split
    · simp
    · simp

theorem SliceCompare_ret (a b : Sim) (ha : Sm (.sl (.int .i64)) a) : Ret E n_Z44 [dL a,dL b] ⟨o_Z44,(lexc a b,())⟩ := by
  have ha1 : a.length ≤ 1048576 := ha.1
  refine ret_of ?_
  simp only [run_Z44,Z44.ev]
  refine Ev.start (p := fun φ n => Z44.l0 (mkR (run E (φ 0))) (φ 0) n a b a (a.length : Int) 0 = _) 1 ?_ (fun _ _ _ h => h)
  refine loopR 1 (σ := Nat) (L := fun φ n k => Z44.l0 (mkR (run E (φ 0))) (φ 0) n a b a (a.length : Int) (k : Int)) (fun _ _ _ _ => rfl) (fun k => k ≤ a.length ∧ k ≤ b.length) (fun k => some ⟨o_Z44,(lexc (a.drop k) (b.drop k),())⟩) (fun k => a.length - k) (fun k ⟨hk,hkb⟩ ih => ?_) 0 ⟨Nat.zero_le _,Nat.zero_le _⟩
  simp only [Z44.l0_succ _ mk_ok]
  refine ev_d (fun h => ?_) fun h => ?_
  · have hka : k < a.length := by omega
    refine ev_bind (idx_lt hka) (ev_d (fun h2 => ev_some ?_) fun h2 => ?_)
    · rw [List.drop_eq_getElem_cons hka,List.drop_of_length_le (l := b) (by omega),lexc]
    · have hkb : k < b.length := by omega
      refine ev_bind (idx_lt hkb) (ev_call (Compare_ret _ _) (ev_b (fun h3 => ev_some ?_) fun h3 => ?_))
      · rw [lexc_step hka hkb,if_pos (by simpa using h3)]
      · rw [w64_succ (by omega)]
        refine (ih (k + 1) ⟨by omega,by omega⟩ (by omega)).to ?_
        rw [lexc_step hka hkb,if_neg (by simpa using h3)]
  · have e : k = a.length := by omega
    subst e
    refine ev_d (fun h2 => ev_some ?_) fun h2 => ev_some ?_
    · rw [List.drop_of_length_le (l := a) (by omega),List.drop_eq_getElem_cons (l := b) (by omega),lexc]
    · rw [List.drop_of_length_le (l := a) (by omega),List.drop_of_length_le (l := b) (by omega),lexc]

theorem Or2_ret (a b : Int) : Ret E n_Z2 [dL [a,b]] ⟨o_Z2,(if a ≠ 0 then a else b,())⟩ := by
  refine ret_of ?_
  simp only [run_Z2,Z2.ev]
  refine Ev.start (p := fun φ n => Z2.l0 (mkR (run E (φ 0))) (φ 0) n 0 [a,b] ([a,b].length : Int) 0 = _) 1 ?_ (fun _ _ _ h => h)
  refine Ev.round 1 (L := fun φ n => Z2.l0 (mkR (run E (φ 0))) (φ 0) n 0 [a,b] ([a,b].length : Int) 0) ?_ (fun _ _ _ => rfl)
  simp only [Z2.l0_succ _ mk_ok]
  refine ev_t (by simp) (ev_bind (x := a) rfl (ev_b (fun h => ev_some ?_) fun h => ?_))
  · rw [if_pos (by simpa using h)]
  · rw [if_neg (by simpa using h)]
    rw [show w64 ((0 : Int) + 1) = 1 by decide]
    refine Ev.round 1 (L := fun φ n => Z2.l0 (mkR (run E (φ 0))) (φ 0) n 0 [a,b] ([a,b].length : Int) 1) ?_ (fun _ _ _ => rfl)
    simp only [Z2.l0_succ _ mk_ok]
    refine ev_t (by simp) (ev_bind (x := b) rfl (ev_b (fun h => ev_rfl) fun h => ?_))
    rw [show w64 ((1 : Int) + 1) = 2 by decide]
    refine Ev.round 1 (L := fun φ n => Z2.l0 (mkR (run E (φ 0))) (φ 0) n 0 [a,b] ([a,b].length : Int) 2) ?_ (fun _ _ _ => rfl)
    simp only [Z2.l0_succ _ mk_ok]
    refine ev_f (by simp) (ev_some ?_)
    have : b = 0 := by simpa using h
    rw [this]

theorem compareSimplices_ret (a b : Sim) (ha : Sm (.sl (.int .i64)) a) : Ret E n_Z10 [dL a,dL b] ⟨o_Z10,(cmpS a b,())⟩ := by
  refine ret_of ?_
  simp only [run_Z10,Z10.ev]
  exact ev_call (Comparei_ret _ _) (ev_call (SliceCompare_ret a b ha) (ev_call (Or2_ret _ _) ev_rfl))

theorem l05Before_ret (a b : Sim) (ha : Sm (.sl (.int .i64)) a) : Ret E n_Z67 [dL a,dL b] ⟨o_Z67,(pb (cmpS a b < 0),())⟩ := by
  have ha1 : a.length ≤ 1048576 := ha.1
  refine ret_of ?_
  simp only [run_Z67,Z67.ev]
  refine ev_b (fun h => ev_some ?_) fun h => ?_
  · have h : (a.length : Int) ≠ b.length := by simpa using h
    rw [pb_dec,pb_congr (show (a.length : Int) < b.length ↔ cmpS a b < 0 by rw [cmpS_lt]; omega)]
  · have h : a.length = b.length := by have : (a.length : Int) = b.length := by simpa using h
                                       omega
    refine Ev.start (p := fun φ n => Z67.l0 (mkR (run E (φ 0))) (φ 0) n a b 0 = _) 1 ?_ (fun _ _ _ h => h)
    refine (loopR 1 (σ := Nat) (L := fun φ n k => Z67.l0 (mkR (run E (φ 0))) (φ 0) n a b (k : Int)) (fun _ _ _ _ => rfl) (fun k => k ≤ a.length) (fun k => some ⟨o_Z67,(pb (lexc (a.drop k) (b.drop k) < 0),())⟩) (fun k => a.length - k) (fun k hk ih => ?_) 0 (Nat.zero_le _)).to ?_
    · simp only [Z67.l0_succ _ mk_ok]
      refine ev_d (fun h1 => ?_) fun h1 => ?_
      · have hka : k < a.length := by omega
        have hkb : k < b.length := by omega
        have e := lexc_step hka hkb
        refine ev_bind (idx_lt hka) (ev_bind (idx_lt hkb) (ev_b (fun h3 => ?_) fun h3 => ?_))
        · refine ev_bind (idx_lt hka) (ev_bind (idx_lt hkb) (ev_some ?_))
          have h3 : a[k] ≠ b[k] := by simpa using h3
          rw [if_pos (by rw [Ne,cmp3_zero]; exact h3)] at e
          rw [e,pb_dec,pb_congr cmp3_lt]
        · have h3 : a[k] = b[k] := by simpa using h3
          rw [if_neg (by rw [Classical.not_not,cmp3_zero]; exact h3)] at e
          rw [w64_succ (by omega),e]
          exact ih (k + 1) (by show k + 1 ≤ _; omega) (by show a.length - (k + 1) < _; omega)
      · refine ev_some ?_
        have hk : k ≤ a.length := hk
        have e : k = a.length := by omega
        subst e
        rw [List.drop_of_length_le (l := a) (by omega),List.drop_of_length_le (l := b) (by omega),lexc,pb_false (by omega)]
    · refine congrArg (fun b : Bool => some (⟨o_Z67,(b,())⟩ : Dv)) (pb_congr ?_)
      simp only [List.drop_zero]; rw [cmpS_lt]; omega

end VeT

open Go Go.Proofs Ve
set_option linter.unusedVariables false
set_option linter.unusedSimpArgs false
namespace VeT

theorem getD_lt {α : Type} {s : List α} {k : Nat} {d : α} (h : k < s.length) : s.getD k d = s[k] := by simp [List.getD_eq_getElem?_getD,h]
theorem sm_get {t : Ty} {s : List t.T} (h : Sm (.sl t) s) {k : Nat} (hk : k < s.length) : Sm t s[k] := h.2 _ (List.getElem_mem hk)
theorem sm_ints {s : Sim} (h : s.length ≤ 1048576) : Sm (.sl (.int .i64)) s := ⟨h,fun _ _ => trivial⟩

theorem l00Own_ret (s : Sim) (hs : s.length ≤ 1048576) : Ret E n_Z63 [dL s] ⟨o_Z63,(s,())⟩ := by
  refine ret_of ?_
  simp only [run_Z63,Z63.ev]
  exact ev_chk (by simp; omega) (ev_some rfl)

theorem l05Drop_ret (s : Sim) (k : Nat) (hk : k < s.length) (hs : s.length ≤ 1048576) : Ret E n_Z69 [dL s,dI (k : Int)] ⟨o_Z69,(s.eraseIdx k,())⟩ := by
  refine ret_of ?_
  simp only [run_Z69,Z69.ev]
  rw [w64_succ (by omega)]
  simp only [Int.toNat_natCast]
  refine ev_chk (by simp; omega) (ev_call (l00Own_ret _ (by simp; omega)) (ev_chk (by simp; omega) (ev_chk (by simp; omega) (ev_some ?_))))
  rw [List.eraseIdx_eq_take_drop_succ]

theorem l00SameP_ret (a b : Sim) (ha : a.length ≤ 1048576) : Ret E n_Z66 [dL a,dL b] ⟨o_Z66,(pb (a = b),())⟩ := by
  refine ret_of ?_
  simp only [run_Z66,Z66.ev]
  refine ev_b (fun h => ev_some ?_) fun h => ?_
  · have h : (a.length : Int) ≠ b.length := by simpa using h
    rw [pb_false fun e => h (by rw [e])]
  · have h : (a.length : Int) = b.length := by simpa using h
    refine Ev.start (p := fun φ n => Z66.l0 (mkR (run E (φ 0))) (φ 0) n a b 0 = _) 1 ?_ (fun _ _ _ h => h)
    refine (all_pb 1 (L := fun φ n k => Z66.l0 (mkR (run E (φ 0))) (φ 0) n a b k) (len := a.length) 0 (by omega) (fun j => a.getD j 0 = b.getD j 0) (fun b => some ⟨o_Z66,(b,())⟩) (fun _ _ _ _ => rfl) (fun k h1 h2 hP _ => ?_) (fun k r h1 h2 hP _ ih => ?_) (fun _ => ?_)).to ?_
    · simp only [Z66.l0_succ _ mk_ok]
      have hb : k < b.length := by omega
      rw [getD_lt h2,getD_lt hb] at hP
      exact ev_t (decide_eq_true (by omega)) (ev_bind (idx_lt h2) (ev_bind (idx_lt hb) (ev_t (by simpa using hP) ev_rfl)))
    · simp only [Z66.l0_succ _ mk_ok]
      have hb : k < b.length := by omega
      rw [getD_lt h2,getD_lt hb] at hP
      refine ev_t (decide_eq_true (by omega)) (ev_bind (idx_lt h2) (ev_bind (idx_lt hb) (ev_f (by simpa using hP) ?_)))
      rw [w64_succ (by omega)]; exact ih
    · simp only [Z66.l0_succ _ mk_ok]
      exact ev_f (decide_eq_false (by omega)) ev_rfl
    · refine congrArg (fun b : Bool => some (⟨o_Z66,(b,())⟩ : Dv)) (pb_congr ⟨fun hh => List.ext_getElem (by omega) fun j h1 h2 => ?_,fun hh j _ _ => by rw [hh]⟩)
      have := hh j (by omega) h1
      rwa [getD_lt h1,getD_lt h2] at this

noncomputable def findI (c : List Sim) (s : Sim) : Int := idxf (fun x => pb (x = s)) c
theorem findI_nonneg {c : List Sim} {s : Sim} : 0 ≤ findI c s ↔ s ∈ c := by
  unfold findI
  rw [idxf_nonneg]
  simp only [pb_iff]
  exact ⟨fun ⟨x,h,e⟩ => e ▸ h,fun h => ⟨s,h,rfl⟩⟩

theorem l05Find_ret (c : Cpx) (s : Sim) (hc : Sm (.sl (.sl (.int .i64))) c.1) : Ret E n_Z70 [dC c,dL s] ⟨o_Z70,(findI c.1 s,())⟩ := by
  have hc1 : c.1.length ≤ 1048576 := hc.1
  obtain ⟨o,h1,h2,h3⟩ := find_loop 1 (L := fun φ n k => Z70.l0 (mkR (run E (φ 0))) (φ 0) n c s k) (len := c.1.length) (fun k => ∃ h : k < c.1.length,pb (c.1[k] = s) = true) (fun o => some ⟨o_Z70,(o2i o,())⟩) (fun _ _ _ _ => rfl) (fun k hk hP => by
      obtain ⟨_,hP⟩ := hP
      simp only [Z70.l0_succ _ mk_ok]
      refine ev_t (decide_eq_true (by omega)) (ev_bind (idx_lt hk) (ev_call (l00SameP_ret _ _ (sm_get hc hk).1) (ev_t hP ev_rfl)))) (fun k q hk hP ih => by
      simp only [Z70.l0_succ _ mk_ok]
      refine ev_t (decide_eq_true (by omega)) (ev_bind (idx_lt hk) (ev_call (l00SameP_ret _ _ (sm_get hc hk).1) (ev_f (Bool.eq_false_iff.2 fun h => hP ⟨hk,h⟩) ?_)))
      rw [w64_succ (by omega)]; exact ih) (by
      simp only [Z70.l0_succ _ mk_ok]
      exact ev_f (decide_eq_false (by omega)) ev_rfl)
  rw [idxf_of (p := fun x => pb (x = s)) h1 h2] at h3
  refine ret_of ?_
  simp only [run_Z70,Z70.ev]
  exact Ev.start (p := fun φ n => Z70.l0 (mkR (run E (φ 0))) (φ 0) n c s 0 = _) 1 h3 (fun _ _ _ h => h)

/-! joining,faces -/
theorem run_Grow (n : Nat) (args : List Dv) : run E (n + 1) n_Z52 args = pGrow (.int .i64) (mkR (run E n)) args := rfl

theorem Grow_ret (s : Sim) (n : Int) (h0 : 0 ≤ n) (h1 : n ≤ 1048576) (hs : s.length ≤ 1048576) : Ret E n_Z52 [dL s,dI n] ⟨o_Z52,(s,())⟩ := by
  refine ret_of ?_
  simp only [run_Grow]
  refine ev_some ((if_pos (show 0 ≤ n ∧ ((List.length s : Int) + n) * (64 * (Ty.size (Ty.int IntKind.i64) : Int)) ≤ 70368744177664 from ⟨h0,?_⟩)).trans rfl)
  have : (Ty.size (Ty.int IntKind.i64)) = 1 := rfl
  rw [this]; omega

theorem Concat_ret (ll : List Sim) (hl : ll.length ≤ 1048576) (hf : ll.flatten.length ≤ 1048576) : Ret E n_Z45 [dLL ll] ⟨o_Z45,(ll.flatten,())⟩ := by
  have hle : ∀ k,(ll.take k).flatten.length ≤ ll.flatten.length := fun k => by
    have := congrArg List.length (congrArg List.flatten (List.take_append_drop k ll))
    rw [List.flatten_append,List.length_append] at this; omega
  have hst : ∀ k (h : k < ll.length),(ll.take (k + 1)).flatten = (ll.take k).flatten ++ ll[k] := fun k h => by
    rw [List.take_succ_eq_append_getElem h,List.flatten_append]; simp
  refine ret_of ?_
  simp only [run_Z45,Z45.ev]
  refine Ev.start (p := fun φ n => Z45.l0 (mkR (run E (φ 0))) (φ 0) n ll 0 ll (ll.length : Int) 0 = _) 1 ?_ (fun _ _ _ h => h)
  refine fold_loop 1 (L := fun φ n k a => Z45.l0 (mkR (run E (φ 0))) (φ 0) n ll a ll (ll.length : Int) k) (len := ll.length) (fun k => (((ll.take k).flatten.length : Nat) : Int)) (fun _ _ _ _ _ => rfl) (fun k r hk ih => ?_) ?_
  · simp only [Z45.l0_succ _ mk_ok]
    have := hle (k + 1)
    have e := hst k hk
    have e2 : w64 (((ll.take k).flatten.length : Nat) + (List.length (ll[k]) : Int)) = (((ll.take (k + 1)).flatten.length : Nat) : Int) := by
      rw [w64_small (by omega) (by rw [e,List.length_append] at this; omega),e,List.length_append]; omega
    refine ev_t (decide_eq_true (by omega)) (ev_bind (idx_lt hk) ?_)
    show Ev fun φ => (bif decide (w64 (((ll.take k).flatten.length : Nat) + (List.length (ll[k]) : Int)) < 0) then none else Z45.l0 (mkR (run E (φ 0))) (φ 0) (φ 1) ll (w64 (((ll.take k).flatten.length : Nat) + (List.length (ll[k]) : Int))) ll (ll.length : Int) (w64 ((k : Int) + 1))) = r
    rw [e2,w64_succ (by omega)]
    exact ev_f (decide_eq_false (by omega)) ih
  · simp only [Z45.l0_succ _ mk_ok]
    refine ev_f (decide_eq_false (by omega)) (ev_call (Grow_ret [] _ (by omega) (by have := hle ll.length; omega) (by simp)) ?_)
    refine Ev.start (p := fun φ n => Z45.l1 (mkR (run E (φ 0))) (φ 0) n ll (ll.length : Int) 0 [] = _) 2 ?_ (fun _ _ _ h => h)
    refine fold_loop 2 (L := fun φ n k a => Z45.l1 (mkR (run E (φ 0))) (φ 0) n ll (ll.length : Int) k a) (len := ll.length) (fun k => (ll.take k).flatten) (fun _ _ _ _ _ => rfl) (fun k r hk ih => ?_) ?_
    · simp only [Z45.l1_succ _ mk_ok]
      have := hle (k + 1)
      have e := hst k hk
      rw [e] at ih this
      rw [List.length_append] at this
      refine ev_t (decide_eq_true (by omega)) (ev_bind (idx_lt hk) (ev_chk (decide_eq_true (by show (_ + List.length ll[k]) * 8 ≤ _; omega)) ?_))
      rw [w64_succ (by omega)]
      exact ih
    · simp only [Z45.l1_succ _ mk_ok]
      refine ev_f (decide_eq_false (by omega)) (ev_some ?_)
      rw [List.take_of_length_le (Nat.le_refl _)]

def faces (s : Sim) : List Sim := if 1 < s.length then (List.range s.length).map (s.eraseIdx ·) else []

theorem faces_mem {s f : Sim} : f ∈ faces s ↔ 1 < s.length ∧ ∃ i,i < s.length ∧ f = s.eraseIdx i := by
  unfold faces
  split
  · rename_i h
    simp only [List.mem_map,List.mem_range,h,true_and]
    exact ⟨fun ⟨i,h1,h2⟩ => ⟨i,h1,h2.symm⟩,fun ⟨i,h1,h2⟩ => ⟨i,h1,h2.symm⟩⟩
  · rename_i h
    simp [h]

theorem faces_len {s f : Sim} (h : f ∈ faces s) : f.length + 1 = s.length := by
  obtain ⟨h1,i,h2,rfl⟩ := faces_mem.1 h
  rw [List.length_eraseIdx,if_pos h2]; omega

theorem faces_length {s : Sim} : (faces s).length ≤ s.length := by
  unfold faces; split <;> simp

theorem facesOf_ret (s : Sim) (hs : s.length ≤ 1048576) : Ret E n_Z12 [dL s] ⟨o_Z12,(faces s,())⟩ := by
  refine ret_of ?_
  simp only [run_Z12,Z12.ev]
  refine Ev.start (p := fun φ n => Z12.l0 (mkR (run E (φ 0))) (φ 0) n s (s.length : Int) 0 [] = _) 1 ?_ (fun _ _ _ h => h)
  by_cases h1 : 1 < s.length
  · refine fold_loop 1 (L := fun φ n k a => Z12.l0 (mkR (run E (φ 0))) (φ 0) n s (s.length : Int) k a) (len := s.length) (fun k => (List.range k).map (s.eraseIdx ·)) (fun _ _ _ _ _ => rfl) (fun k r hk ih => ?_) ?_
    · simp only [Z12.l0_succ _ mk_ok]
      rw [List.range_succ,List.map_append] at ih
      rw [w64_succ (by omega)]
      simp only [Int.toNat_natCast]
      refine ev_t (decide_eq_true (by omega)) (ev_t (decide_eq_true (by omega)) (ev_chk (by simp; omega) (ev_chk (by simp; omega) (ev_call (Concat_ret _ (by simp) (by simp; omega)) (ev_chk (by simp; omega) ?_)))))
      rw [show [s.take k,s.drop (k + 1)].flatten = s.eraseIdx k by simp [List.eraseIdx_eq_take_drop_succ]]
      exact ih
    · simp only [Z12.l0_succ _ mk_ok]
      exact ev_f (decide_eq_false (by omega)) (ev_some (by rw [faces,if_pos h1]))
  · refine fold_loop 1 (L := fun φ n k a => Z12.l0 (mkR (run E (φ 0))) (φ 0) n s (s.length : Int) k a) (len := s.length) (fun k => []) (fun _ _ _ _ _ => rfl) (fun k r hk ih => ?_) ?_
    · simp only [Z12.l0_succ _ mk_ok]
      rw [w64_succ (by omega)]
      exact ev_t (decide_eq_true (by omega)) (ev_f (decide_eq_false (by omega)) ih)
    · simp only [Z12.l0_succ _ mk_ok]
      exact ev_f (decide_eq_false (by omega)) (ev_some (by rw [faces,if_neg h1]))

/-! searching -/
def Srt (c : List Sim) : Prop := ∀ i j (h : j < c.length) (hij : i < j),cmpS c[i] c[j] < 0

theorem srt_of {c : List Sim} (h : ∀ k,1 ≤ k → k < c.length → cmpS (c.getD (k - 1) []) (c.getD k []) < 0) : Srt c := by
  intro i j
  induction j with
  | zero => intro _ h; omega
  | succ j ih =>
    intro hj hij
    have := h (j + 1) (by omega) hj
    rw [Nat.add_sub_cancel,getD_lt (by omega),getD_lt hj] at this
    by_cases e : i = j
    · subst e; exact this
    · exact cmpS_trans (ih (by omega) (by omega)) this

theorem Srt.take {c : List Sim} (h : Srt c) (k : Nat) : Srt (c.take k) := by
  intro i j hj hij
  rw [List.getElem_take,List.getElem_take]
  exact h i j (by rw [List.length_take] at hj; omega) hij

def bs (c : List Sim) (s : Sim) : Nat := c.findIdx (fun x => !decide (cmpS x s < 0))

theorem bs_le {c : List Sim} {s : Sim} : bs c s ≤ c.length := List.findIdx_le_length
theorem bs_lt {c : List Sim} {s : Sim} (hc : Srt c) {t : Nat} (h : t < c.length) : t < bs c s ↔ cmpS c[t] s < 0 := by
  constructor
  · intro ht
    have := List.not_of_lt_findIdx ht
    simpa using this
  · intro ht
    refine Classical.byContradiction fun hn => ?_
    have hb : bs c s < c.length := by omega
    have h1 : cmpS c[bs c s] s < 0 := by
      by_cases e : bs c s = t
      · simp only [e]; exact ht
      · exact cmpS_trans (hc _ _ h (by omega)) ht
    have := List.findIdx_getElem (w := hb)
    simp only [Bool.not_eq_true',decide_eq_false_iff_not] at this
    exact this h1

theorem bs_find {c : List Sim} {s : Sim} (hc : Srt c) : findI c s = if h : bs c s < c.length ∧ c.getD (bs c s) [] = s then (bs c s : Int) else -1 := by
  have e : c.findIdx? (fun x => pb (x = s)) = if bs c s < c.length ∧ c.getD (bs c s) [] = s then some (bs c s) else none := by
    split
    · rename_i h
      obtain ⟨h1,h2⟩ := h
      rw [List.findIdx?_eq_some_iff_getElem]
      rw [getD_lt h1] at h2
      refine ⟨h1,pb_true h2,fun j hj => ?_⟩
      rw [pb_iff]
      intro he
      have := (bs_lt (s := s) hc (show j < c.length by omega)).1 hj
      rw [he,cmpS_zero.2 rfl] at this
      omega
    · rename_i h
      rw [List.findIdx?_eq_none_iff]
      intro x hx
      rw [pb_not]
      rintro rfl
      obtain ⟨j,hj,rfl⟩ := List.mem_iff_getElem.1 hx
      have h0 : ¬ j < bs c c[j] := fun hlt => by
        have := (bs_lt hc hj).1 hlt
        rw [cmpS_zero.2 rfl] at this; omega
      by_cases hjb : bs c c[j] = j
      · exact h ⟨by omega,by rw [hjb,getD_lt hj]⟩
      · have hb : bs c c[j] < c.length := by omega
        have := (bs_lt (s := c[j]) hc hb).2 (hc _ _ hj (by omega))
        omega
  unfold findI idxf
  rw [e]
  split <;> rfl

theorem BinarySearch_ret (c : List Sim) (s : Sim) (hc : Sm (.sl (.sl (.int .i64))) c) (hs : Srt c) : Ret E n_Z39 [dLL c,dL s,⟨.fn n_Z10 .nil,()⟩] ⟨o_Z39,((bs c s : Int),pb (bs c s < c.length ∧ c.getD (bs c s) [] = s),())⟩ := by
  have hc1 : c.length ≤ 1048576 := hc.1
  refine ret_of ?_
  simp only [run_Z39,Z40.ev]
  refine Ev.start (p := fun φ n => Z40.l0 (mkR (run E (φ 0))) (φ 0) n c s (c.length : Int) 0 (c.length : Int) = _) 1 ?_ (fun _ _ _ h => h)
  refine loopR 1 (σ := Nat × Nat) (L := fun φ n st => Z40.l0 (mkR (run E (φ 0))) (φ 0) n c s (c.length : Int) (st.1 : Int) (st.2 : Int)) (fun _ _ _ _ => rfl) (fun st => st.1 ≤ bs c s ∧ bs c s ≤ st.2 ∧ st.2 ≤ c.length) (fun _ => _) (fun st => st.2 - st.1) (fun st hi ih => ?_) (0,c.length) ⟨Nat.zero_le _,bs_le,Nat.le_refl _⟩
  obtain ⟨i,j⟩ := st
  obtain ⟨h1,h2,h3⟩ := hi
  simp only at h1 h2 h3 ih
  simp only [Z40.l0_succ _ mk_ok]
  rw [half (by omega)]
  refine ev_d (fun hij => ?_) fun hij => ?_
  · have hh : (i + j) / 2 < c.length := by omega
    refine ev_chk (by decide) (ev_bind (idx_lt hh) (ev_call (compareSimplices_ret _ _ (sm_get hc hh)) (ev_d (fun hlt => ?_) fun hlt => ?_)))
    · rw [w64_succ (by omega)]
      have := (bs_lt hs hh).2 hlt
      exact ih ((i + j) / 2 + 1,j) ⟨this,h2,h3⟩ (by simp only; omega)
    · have : ¬ (i + j) / 2 < bs c s := fun h => hlt ((bs_lt hs hh).1 h)
      exact ih (i,(i + j) / 2) ⟨h1,by simp only; omega,by simp only; omega⟩ (by simp only; omega)
  · have e : i = bs c s := by omega
    subst e
    refine ev_d (fun hl => ?_) fun hl => ev_some ?_
    · have hh : bs c s < c.length := by omega
      refine ev_bind (idx_lt hh) (ev_call (compareSimplices_ret _ _ (sm_get hc hh)) (ev_some ?_))
      have : (cmpS c[bs c s] s == 0) = pb (bs c s < c.length ∧ c.getD (bs c s) [] = s) := eq_pb (by
        rw [getD_lt hh,beq_iff_eq,cmpS_zero]; exact ⟨fun h => ⟨hh,h⟩,fun h => h.2⟩)
      rw [this]
    · rw [pb_false fun h => hl (by omega)]

theorem indexOf_ret (c : List Sim) (s : Sim) (hc : Sm (.sl (.sl (.int .i64))) c) (hs : Srt c) : Ret E n_Z15 [dLL c,dL s] ⟨o_Z15,(findI c s,())⟩ := by
  refine ret_of ?_
  simp only [run_Z15,Z15.ev]
  refine ev_call (BinarySearch_ret c s hc hs) (ev_b (fun h => ev_some ?_) fun h => ev_some ?_)
  · rw [bs_find hs,dif_neg (pb_not.1 (by simpa using h))]
  · rw [bs_find hs,dif_pos (pb_iff.1 (by simpa using h))]

end VeT

open Go Go.Proofs Ve
set_option linter.unusedVariables false
set_option linter.unusedSimpArgs false
namespace VeT

/-- valid complexes -/
def VC (c : List Sim) : Prop := c.length ≤ 48 ∧ (∀ k,k < c.length → Vx (c.getD k [])) ∧ (∀ k,1 ≤ k → k < c.length → cmpS (c.getD (k - 1) []) (c.getD k []) < 0) ∧ ∀ k,k < c.length → ∀ f ∈ faces (c.getD k []),f ∈ c

theorem VC.srt {c : List Sim} (h : VC c) : Srt c := srt_of h.2.2.1

def VCimpl (c : List Sim) (k : Nat) : Prop := (Vx (c.getD k []) ∧ (1 ≤ k → cmpS (c.getD (k - 1) []) (c.getD k []) < 0)) ∧ ∀ f ∈ faces (c.getD k []),f ∈ c.take k

theorem VC_impl {c : List Sim} : ((∀ k,0 ≤ k → k < c.length → VCimpl c k) ∧ c.length ≤ 48) ↔ VC c := by
  constructor
  · rintro ⟨h,hl⟩
    exact ⟨hl,fun k hk => (h k (by omega) hk).1.1,fun k h1 hk => (h k (by omega) hk).1.2 h1,fun k hk f hf => List.mem_of_mem_take ((h k (by omega) hk).2 f hf)⟩
  · intro h
    have hs := h.srt
    obtain ⟨hl,h1,h2,h3⟩ := h
    refine ⟨fun k _ hk => ⟨⟨h1 k hk,fun hk1 => h2 k hk1 hk⟩,fun f hf => ?_⟩,hl⟩
    have hm := h3 k hk f hf
    have hlen := faces_len hf
    rw [getD_lt hk] at hlen
    obtain ⟨i,hi,rfl⟩ := List.mem_iff_getElem.1 hm
    have hlt : cmpS c[i] c[k] < 0 := cmpS_lt.2 (.inl (by omega))
    have hik : i < k := Classical.byContradiction fun hn => by
      by_cases e : i = k
      · subst e; omega
      · have := hs k i hi (by omega)
        rw [cmpS_neg] at this; omega
    exact List.mem_iff_getElem.2 ⟨i,by rw [List.length_take]; omega,by rw [List.getElem_take]⟩

theorem sm_take {t : Ty} {s : List t.T} (h : Sm (.sl t) s) (k : Nat) : Sm (.sl t) (s.take k) := ⟨by have h1 : s.length ≤ 1048576 := h.1; show (s.take k).length ≤ _; rw [List.length_take]; omega,fun x hx => h.2 x (List.mem_of_mem_take hx)⟩

theorem ValidComplex_1_ret (c : List Sim) (f : Sim) (k : Nat) (hk : k ≤ c.length) (hc : Sm (.sl (.sl (.int .i64))) c) (hs : Srt (c.take k)) :
    Ret E n_Z7 [dL f,dC (c,()),⟨.ptr (.cons (.int .i64) .nil),((k : Int),())⟩] ⟨o_Z7,(pb (¬ f ∈ c.take k),())⟩ := by
  refine ret_of ?_
  simp only [run_Z7,Z7.ev]
  simp only [Int.toNat_natCast]
  refine ev_chk (by simp; omega) (ev_call (indexOf_ret _ f (sm_take hc k) hs) (ev_some ?_))
  simp only [pb_dec,pb_congr (show findI (c.take k) f < 0 ↔ ¬ f ∈ c.take k by rw [← findI_nonneg]; omega)]

theorem ValidComplex_ret (c : List Sim) (hc : Sm (.sl (.sl (.int .i64))) c) : Ret E n_Z6 [dLL c] ⟨o_Z6,(pb (VC c),())⟩ := by
  have hc1 : c.length ≤ 1048576 := hc.1
  refine ret_of ?_
  simp only [run_Z6,Z6.ev]
  refine Ev.start (p := fun φ n => Z6.l0 (mkR (run E (φ 0))) (φ 0) n c (c.length : Int) 0 c = _) 1 ?_ (fun _ _ _ h => h)
  have key : ∀ (n : Nat) (k : Nat) (hk : k < c.length) (hpre : ∀ j,0 ≤ j → j < k → VCimpl c j),Srt (c.take k) := fun n k hk hpre => srt_of fun j h1 h2 => by
    rw [List.length_take] at h2
    have := (hpre j (by omega) (by omega)).1.2 h1
    rw [getD_lt (by omega),getD_lt (by omega)] at this
    rw [getD_lt (by rw [List.length_take]; omega),getD_lt (by rw [List.length_take]; omega),List.getElem_take,List.getElem_take]
    exact this
  have hcon : ∀ (k : Nat) (hk : k < c.length) (hpre : ∀ j,0 ≤ j → j < k → VCimpl c j),Ret E n_Z46 [dLL (faces c[k]),⟨.fn n_Z7 (.cons (.ptr (.cons (.sl (.sl (.int .i64))) .nil)) (.cons (.ptr (.cons (.int .i64) .nil)) .nil)),((c,()),((k : Int),()),())⟩] ⟨o_Z46,(pb (∃ x ∈ faces c[k],pb (¬ x ∈ c.take k) = true),())⟩ := fun k hk hpre =>
    ContainsFunc_SSint64_Sint64_impl_ValidComplex_1_ret (faces c[k]) ((c,()),((k : Int),()),()) _ (Nat.le_trans faces_length (sm_get hc hk).1) fun x hx => ValidComplex_1_ret c x k (by omega) hc (key 0 k hk hpre)
  refine (all_pb 1 (L := fun φ n k => Z6.l0 (mkR (run E (φ 0))) (φ 0) n c (c.length : Int) k c) (len := c.length) 0 (by omega) (VCimpl c) (fun b => some ⟨o_Z6,(b && decide ((c.length : Int) ≤ 48),())⟩) (fun _ _ _ _ => rfl) (fun k h1 h2 hP hpre => ?_) (fun k r h1 h2 hP hpre ih => ?_) (fun _ => ?_)).to ?_
  · simp only [Z6.l0_succ _ mk_ok]
    refine ev_t (decide_eq_true (by omega)) (ev_bind (idx_lt h2) (ev_call (ValidSimplex_ret _ (sm_get hc h2)) ?_))
    refine ev_b (fun hv => ?_) fun hv => ?_
    · simp only [Z6.j1_eq _ mk_ok,cond_true]; (first | exact ev_rfl | exact Ev.of fun _ => trivial)
    · have hv : Vx c[k] := pb_iff.1 (by simpa using hv)
      have last : (1 ≤ k → cmpS (c.getD (k - 1) []) (c.getD k []) < 0) → Ev fun φ => Z6.j1 (mkR (run E (φ 0))) (φ 0) (φ 1) c[k] c (c.length : Int) (k : Int) false c (k : Int) = some ⟨o_Z6,(false,())⟩ := fun hcm => by
        simp only [Z6.j1_eq _ mk_ok,cond_false]
        refine ev_call (facesOf_ret _ (sm_get hc h2).1) (ev_call (hcon k h2 hpre) (ev_t ?_ ev_rfl))
        refine pb_true (Classical.byContradiction fun hn => hP ⟨⟨by rw [getD_lt h2]; exact hv,hcm⟩,fun f hf => Classical.byContradiction fun hnf => hn ⟨f,by rw [getD_lt h2] at hf; exact hf,pb_true hnf⟩⟩)
      refine ev_d (fun hk => ?_) fun hk => ?_
      · rw [w64_small (by omega) (by omega),show ((k : Int) - 1) = ((k - 1 : Nat) : Int) by omega]
        have hk1 : k - 1 < c.length := by omega
        refine ev_bind (idx_lt hk1) (ev_call (compareSimplices_ret _ _ (sm_get hc hk1)) ?_)
        by_cases hcm : cmpS c[k - 1] c[k] < 0
        · simp only [show decide (cmpS c[k - 1] c[k] ≥ 0) = false from decide_eq_false (by omega)]
          exact last fun _ => by rw [getD_lt hk1,getD_lt h2]; exact hcm
        · simp only [show decide (cmpS c[k - 1] c[k] ≥ 0) = true from decide_eq_true (by omega),Z6.j1_eq _ mk_ok,cond_true]
          (first | exact ev_rfl | exact Ev.of fun _ => trivial)
      · exact last fun h => absurd h (by omega)
  · simp only [Z6.l0_succ _ mk_ok]
    have hP' := hP
    obtain ⟨⟨hv,hcm⟩,hfc⟩ := hP'
    rw [getD_lt h2] at hv hfc
    refine ev_t (decide_eq_true (by omega)) (ev_bind (idx_lt h2) (ev_call (ValidSimplex_ret _ (sm_get hc h2)) (ev_f (by rw [pb_true hv]; rfl) ?_)))
    have last : Ev fun φ => Z6.j1 (mkR (run E (φ 0))) (φ 0) (φ 1) c[k] c (c.length : Int) (k : Int) false c (k : Int) = r := by
      simp only [Z6.j1_eq _ mk_ok,cond_false]
      refine ev_call (facesOf_ret _ (sm_get hc h2).1) (ev_call (hcon k h2 hpre) (ev_f ?_ ?_))
      · exact pb_false fun ⟨x,hx,hn⟩ => pb_iff.1 hn (hfc x hx)
      · rw [w64_succ (by omega)]; exact ih
    refine ev_d (fun hk => ?_) fun hk => last
    rw [w64_small (by omega) (by omega),show ((k : Int) - 1) = ((k - 1 : Nat) : Int) by omega]
    have hk1 : k - 1 < c.length := by omega
    have hcm := hcm (by omega)
    rw [getD_lt hk1,getD_lt h2] at hcm
    refine ev_bind (idx_lt hk1) (ev_call (compareSimplices_ret _ _ (sm_get hc hk1)) ?_)
    simp only [show decide (cmpS c[k - 1] c[k] ≥ 0) = false from decide_eq_false (by omega)]
    exact last
  · simp only [Z6.l0_succ _ mk_ok]
    exact ev_f (decide_eq_false (by omega)) (ev_some (by rw [Bool.true_and]))
  · have : (pb (∀ j,0 ≤ j → j < c.length → VCimpl c j) && decide ((c.length : Int) ≤ 48)) = pb (VC c) := eq_pb (by
      rw [Bool.and_eq_true,pb_iff,decide_eq_true_iff,← VC_impl]
      exact ⟨fun h => ⟨h.1,by omega⟩,fun h => ⟨h.1,by omega⟩⟩)
    rw [this]

def VCspec (c : List Sim) (k : Nat) : Prop := (Vx (c.getD k []) ∧ (1 ≤ k → cmpS (c.getD (k - 1) []) (c.getD k []) < 0)) ∧ ∀ f ∈ faces (c.getD k []),f ∈ c

theorem l05Ok_ret (c : Cpx) (hc : Sm (.sl (.sl (.int .i64))) c.1) : Ret E n_Z71 [dC c] ⟨o_Z71,(pb (VC c.1),())⟩ := by
  have hc1 : c.1.length ≤ 1048576 := hc.1
  refine ret_of ?_
  simp only [run_Z71,Z71.ev]
  refine ev_d (fun h => ev_some ?_) fun h48 => ?_
  · rw [pb_false fun hv => by have := hv.1; omega]
  refine Ev.start (p := fun φ n => Z71.l0 (mkR (run E (φ 0))) (φ 0) n c 0 = _) 1 ?_ (fun _ _ _ h => h)
  -- the inner loop
  have inner : ∀ (k : Nat) (h2 : k < c.1.length) (r : Option Dv),((∀ f ∈ faces c.1[k],f ∈ c.1) → Ev fun φ => Z71.l0 (mkR (run E (φ 0))) (φ 0) (φ 1) c ((k + 1 : Nat) : Int) = r) → (¬ (∀ f ∈ faces c.1[k],f ∈ c.1) → r = some ⟨o_Z71,(false,())⟩) → Ev fun φ => Z71.l2 (mkR (run E (φ 0))) (φ 0) (φ 1) (φ 0) c (k : Int) c.1[k] 0 = r := fun k h2 r hgo hstop => by
    have hks : (c.1[k]).length ≤ 1048576 := (sm_get hc h2).1
    refine Ev.start (p := fun φ n => Z71.l2 (mkR (run E (φ 0))) (φ 0) (φ 1) n c (k : Int) c.1[k] 0 = _) 2 ?_ (fun _ _ _ h => h)
    by_cases hlen : 1 < (c.1[k]).length
    · obtain ⟨t,f⟩ := all_loop 2 (L := fun φ n i => Z71.l2 (mkR (run E (φ 0))) (φ 0) (φ 1) n c (k : Int) c.1[k] i) (len := (c.1[k]).length) 0 (by omega) (fun i => (c.1[k]).eraseIdx i ∈ c.1) (rt := r) (rf := some ⟨o_Z71,(false,())⟩) (fun _ _ _ _ => rfl) (fun i _ hi hP _ => by
        simp only [Z71.l2_succ _ mk_ok]
        refine ev_t (decide_eq_true (by omega)) ?_
        simp only [show decide (((c.1[k]).length : Int) > 1) = true from decide_eq_true (by omega),Z71.j3_eq _ mk_ok,cond_true]
        refine ev_call (l05Drop_ret _ i hi hks) (ev_call (l05Find_ret c _ hc) (ev_t (decide_eq_true ?_) ev_rfl))
        have hq := mt (findI_nonneg (c := c.1) (s := (c.1[k]).eraseIdx i)).1 hP; simp only; exact Int.not_le.1 hq) (fun i q _ hi hP _ ih => by
        simp only [Z71.l2_succ _ mk_ok]
        refine ev_t (decide_eq_true (by omega)) ?_
        simp only [show decide (((c.1[k]).length : Int) > 1) = true from decide_eq_true (by omega),Z71.j3_eq _ mk_ok,cond_true]
        refine ev_call (l05Drop_ret _ i hi hks) (ev_call (l05Find_ret c _ hc) (ev_f (decide_eq_false ?_) ?_))
        · have hq := (findI_nonneg (c := c.1) (s := (c.1[k]).eraseIdx i)).2 hP; simp only; exact Int.not_lt.2 hq
        · rw [w64_succ (by omega)]; exact ih) (fun hall => by
        simp only [Z71.l2_succ _ mk_ok]
        refine ev_f (decide_eq_false (by omega)) ?_
        simp only [Z71.j3_eq _ mk_ok,cond_false]
        rw [w64_succ (by omega)]
        exact hgo fun f hf => by
          obtain ⟨_,i,hi,rfl⟩ := faces_mem.1 hf
          exact hall i (by omega) hi)
      by_cases hall : ∀ i,0 ≤ i → i < (c.1[k]).length → (c.1[k]).eraseIdx i ∈ c.1
      · exact t hall
      · rw [hstop fun hf => hall fun i _ hi => hf _ (faces_mem.2 ⟨hlen,i,hi,rfl⟩)]
        exact f hall
    · refine Ev.round 2 (L := fun φ n => Z71.l2 (mkR (run E (φ 0))) (φ 0) (φ 1) n c (k : Int) c.1[k] 0) ?_ (fun _ _ _ => rfl)
      have hgo := hgo fun f hf => absurd (faces_mem.1 hf).1 hlen
      have hj : Ev fun φ => Z71.j3 (mkR (run E (φ 0))) (φ 0) (φ 1) (φ 2) c (k : Int) c.1[k] 0 false = r := by
        simp only [Z71.j3_eq _ mk_ok,cond_false]
        rw [w64_succ (by omega)]; exact hgo
      simp only [Z71.l2_succ _ mk_ok]
      refine ev_d (fun _ => ?_) fun _ => hj
      simp only [show decide (((c.1[k]).length : Int) > 1) = false from decide_eq_false (by omega)]
      exact hj
  refine (all_pb 1 (L := fun φ n k => Z71.l0 (mkR (run E (φ 0))) (φ 0) n c k) (len := c.1.length) 0 (by omega) (VCspec c.1) (fun b => some ⟨o_Z71,(b,())⟩) (fun _ _ _ _ => rfl) (fun k h1 h2 hP hpre => ?_) (fun k r h1 h2 hP hpre ih => ?_) (fun _ => ?_)).to ?_
  · simp only [Z71.l0_succ _ mk_ok]
    refine ev_t (decide_eq_true (by omega)) (ev_bind (idx_lt h2) (ev_call (l05Simplex_ret _ (sm_get hc h2)) ?_))
    refine ev_b (fun hv => ?_) fun hv => ?_
    · simp only [Z71.j1_eq _ mk_ok,cond_true]; (first | exact ev_rfl | exact Ev.of fun _ => trivial)
    · have hv : Vx c.1[k] := pb_iff.1 (by simpa using hv)
      have last : (1 ≤ k → cmpS (c.1.getD (k - 1) []) (c.1.getD k []) < 0) → Ev fun φ => Z71.j1 (mkR (run E (φ 0))) (φ 0) (φ 1) c (k : Int) c.1[k] false = some ⟨o_Z71,(false,())⟩ := fun hcm => by
        simp only [Z71.j1_eq _ mk_ok,cond_false]
        refine inner k h2 _ (fun hf => absurd ⟨⟨by rw [getD_lt h2]; exact hv,hcm⟩,by rw [getD_lt h2]; exact hf⟩ hP) fun _ => rfl
      refine ev_d (fun hk => ?_) fun hk => ?_
      · rw [w64_small (by omega) (by omega),show ((k : Int) - 1) = ((k - 1 : Nat) : Int) by omega]
        have hk1 : k - 1 < c.1.length := by omega
        refine ev_bind (idx_lt hk1) (ev_call (l05Before_ret _ _ (sm_get hc hk1)) ?_)
        by_cases hcm : cmpS c.1[k - 1] c.1[k] < 0
        · simp only [pb_true hcm]
          exact last fun _ => by rw [getD_lt hk1,getD_lt h2]; exact hcm
        · simp only [pb_false hcm,Z71.j1_eq _ mk_ok,cond_true,Bool.not_false]
          (first | exact ev_rfl | exact Ev.of fun _ => trivial)
      · exact last fun h => absurd h (by omega)
  · simp only [Z71.l0_succ _ mk_ok]
    obtain ⟨⟨hv,hcm⟩,hfc⟩ := hP
    rw [getD_lt h2] at hv hfc
    refine ev_t (decide_eq_true (by omega)) (ev_bind (idx_lt h2) (ev_call (l05Simplex_ret _ (sm_get hc h2)) (ev_f (by rw [pb_true hv]; rfl) ?_)))
    have last : Ev fun φ => Z71.j1 (mkR (run E (φ 0))) (φ 0) (φ 1) c (k : Int) c.1[k] false = r := by
      simp only [Z71.j1_eq _ mk_ok,cond_false]
      exact inner k h2 _ (fun _ => ih) fun hn => absurd hfc hn
    refine ev_d (fun hk => ?_) fun hk => last
    rw [w64_small (by omega) (by omega),show ((k : Int) - 1) = ((k - 1 : Nat) : Int) by omega]
    have hk1 : k - 1 < c.1.length := by omega
    have hcm := hcm (by omega)
    rw [getD_lt hk1,getD_lt h2] at hcm
    refine ev_bind (idx_lt hk1) (ev_call (l05Before_ret _ _ (sm_get hc hk1)) ?_)
    simp only [pb_true hcm,Bool.not_true]
    exact last
  · simp only [Z71.l0_succ _ mk_ok]
    exact ev_f (decide_eq_false (by omega)) ev_rfl
  · have : pb (∀ j,0 ≤ j → j < c.1.length → VCspec c.1 j) = pb (VC c.1) := pb_congr
      ⟨fun h => ⟨by omega,fun k hk => (h k (by omega) hk).1.1,fun k h1 hk => (h k (by omega) hk).1.2 h1,fun k hk => (h k (by omega) hk).2⟩,
       fun h k _ hk => ⟨⟨h.2.1 k hk,fun h1 => h.2.2.1 k h1 hk⟩,h.2.2.2 k hk⟩⟩
    rw [this]

end VeT

open Go Go.Proofs Ve
set_option linter.unusedVariables false
set_option linter.unusedSimpArgs false
namespace VeT

/-- primes up to 251 -/
def Pr (p : Int) : Prop := 2 ≤ p ∧ p ≤ 251 ∧ ∀ k : Nat,2 ≤ k → (k : Int) * k ≤ p → p % k ≠ 0

/-! matrices -/
def Elems (v : Sim) (p : Int) : Prop := ∀ x ∈ v,0 ≤ x ∧ x ≤ p - 1

/-- valid matrices -/
def VM (m : Mat) : Prop := Pr m.1 ∧ (0 ≤ m.2.1 ∧ m.2.1 ≤ 32) ∧ (0 ≤ m.2.2.1 ∧ m.2.2.1 ≤ 32) ∧ (m.2.2.2.1.length : Int) = m.2.1 * m.2.2.1 ∧ Elems m.2.2.2.1 m.1

def Bt (m : Mat) (p f t : Int) : Prop := VM m ∧ m.1 = p ∧ m.2.1 = t ∧ m.2.2.1 = f

/-! stalks -/
def ofDim (c : List Sim) (d : Int) (k : Nat) : List Int := ((List.range k).filter fun i => decide (((c.getD i []).length : Int) = d + 1)).map Int.ofNat

/-- the sum of the stalks of a dimension -/
def sumD (c : List Sim) (st : Sim) (d : Int) (k : Nat) : Int := (((ofDim c d c.length).take k).map fun i => st.getD i.toNat 0).sum

end VeT

open Go Go.Proofs Ve
set_option linter.unusedVariables false
set_option linter.unusedSimpArgs false
namespace VeT

/-- the sum of a dimension's stalks -/
def SD (c : List Sim) (st : Sim) (d : Int) : Int := sumD c st d (ofDim c d c.length).length

/-- stalks -/
def SK (c : List Sim) (st : Sim) : Prop := st.length = c.length ∧ (∀ x ∈ st,0 ≤ x ∧ x ≤ 3) ∧ ∀ d : Nat,d < 4 → SD c st (d : Int) ≤ 32

/-! faces' indices -/
noncomputable def fIdx (c : List Sim) (k : Nat) : List Int := (faces (c.getD k [])).map (findI c)

theorem findI_lt {c : List Sim} {s : Sim} : findI c s < c.length ∧ -1 ≤ findI c s := by
  unfold findI idxf
  cases h : c.findIdx? (fun x => pb (x = s)) with
  | none => simp only [o2i]; omega
  | some k =>
    rw [List.findIdx?_eq_some_iff_getElem] at h
    obtain ⟨h,_⟩ := h
    simp only [o2i]; omega

theorem fIdx_length {c : List Sim} {k : Nat} : (fIdx c k).length = if 1 < (c.getD k []).length then (c.getD k []).length else 0 := by
  unfold fIdx faces
  rw [List.length_map]
  split <;> simp

theorem fIdx_mem {c : List Sim} (h : VC c) {k : Nat} (hk : k < c.length) {x : Int} (hx : x ∈ fIdx c k) : 0 ≤ x ∧ x < c.length := by
  unfold fIdx at hx
  rw [List.mem_map] at hx
  obtain ⟨f,hf,rfl⟩ := hx
  exact ⟨findI_nonneg.2 (h.2.2.2 k hk f hf),findI_lt.1⟩

/-! arrows -/
abbrev Arw := Int × Int × Int × Unit
noncomputable def rowA (c : List Sim) (k i : Nat) : List Arw := (List.range i).map fun (j : Nat) => ((k : Int),(j : Int),(fIdx c k).getD j 0,())
noncomputable def arrs (c : List Sim) : Nat → List Arw
  | 0 => []
  | k + 1 => arrs c k ++ rowA c k (fIdx c k).length
noncomputable def plc (c : List Sim) (k : Nat) : Nat := (arrs c k).length

theorem rowA_length {c : List Sim} {k i : Nat} : (rowA c k i).length = i := by simp [rowA]

theorem plc_succ {c : List Sim} {k : Nat} : plc c (k + 1) = plc c k + (fIdx c k).length := by
  unfold plc; rw [arrs,List.length_append,rowA_length]

theorem VC.len4 {c : List Sim} (h : VC c) {k : Nat} (hk : k < c.length) : (c.getD k []).length ≤ 4 := (h.2.1 k hk).2.1

theorem VC.fIdx4 {c : List Sim} (h : VC c) {k : Nat} (hk : k < c.length) : (fIdx c k).length ≤ 4 := by
  have := h.len4 hk
  rw [fIdx_length]; split <;> omega

theorem VC.plc {c : List Sim} (h : VC c) : ∀ {k : Nat},k ≤ c.length → plc c k ≤ 4 * k
  | 0,_ => by simp [VeT.plc,arrs]
  | k + 1,hk => by
    have h1 := h.plc (k := k) (by omega)
    have h2 := h.fIdx4 (k := k) (by omega)
    rw [plc_succ]; omega

theorem arrs_get {c : List Sim} : ∀ {n k i : Nat},k < n → i < (fIdx c k).length → (arrs c n)[plc c k + i]? = some ((k : Int),(i : Int),(fIdx c k).getD i 0,())
  | 0,_,_,h,_ => by omega
  | n + 1,k,i,h,hi => by
    rw [arrs]
    by_cases hk : k < n
    · have := arrs_get hk hi
      have hl := (List.getElem?_eq_some_iff.1 this).1
      rw [List.getElem?_append_left hl]; exact this
    · obtain rfl : k = n := by omega
      rw [List.getElem?_append_right (by unfold plc; omega)]
      rw [show plc c k + i - (arrs c k).length = i by unfold plc; omega]
      simp [rowA,hi]

end VeT

open Go Go.Proofs Ve
set_option linter.unusedVariables false
set_option linter.unusedSimpArgs false
namespace VeT

def mz : Mat := (0,0,0,[],())
/-- the map at a face -/
def QB (p : Int) (st : Sim) (ms : List Mat) (t k : Nat) (f : Int) : Prop := Bt (ms.getD t mz) p (st.getD f.toNat 0) (st.getD k 0)

/-- valid sheaves -/
def VS (c : List Sim) (p : Int) (st : Sim) (ms : List Mat) : Prop := VC c ∧ Pr p ∧ SK c st ∧ plc c c.length = ms.length ∧ ∀ k,k < c.length → ∀ i,i < (fIdx c k).length → QB p st ms (plc c k + i) k ((fIdx c k).getD i 0)

end VeT

open Go Go.Proofs Ve
set_option linter.unusedVariables false
set_option linter.unusedSimpArgs false
namespace VeT

end VeT

open Go Go.Proofs Ve
set_option linter.unusedVariables false
set_option linter.unusedSimpArgs false
namespace VeT

theorem Clone_ret (s : Sim) (hs : s.length ≤ 1048576) : Ret E n_Z41 [dL s] ⟨o_Z41,(s,())⟩ := by
  refine ret_of ?_
  simp only [run_Z41,Z41.ev,Z41.j0_eq _ mk_ok,cond_true,cond_false]
  have h : Ev fun φ => (Option.bind (chk (decide ((List.length ([] : List Int) + List.length s) * 8 ≤ 70368744177664))) fun _ => some (⟨o_Z41,((([] : List Int) ++ s),())⟩ : Dv)) = some ⟨o_Z41,(s,())⟩ :=
    ev_chk (by simp; omega) (ev_some rfl)
  cases s with
  | nil => exact ev_t rfl (ev_both ev_rfl h)
  | cons a s => exact ev_f rfl h

end VeT

open Go Go.Proofs Ve
set_option linter.unusedVariables false
set_option linter.unusedSimpArgs false
namespace VeT

theorem Elems.get {v : Sim} {p : Int} (h : Elems v p) (hp : 2 ≤ p ∧ p ≤ 251) (i : Nat) : 0 ≤ v.getD i 0 ∧ v.getD i 0 ≤ 250 := by
  by_cases hi : i < v.length
  · rw [getD_lt hi]
    have := h _ (List.getElem_mem hi)
    omega
  · rw [List.getD_eq_getElem?_getD,List.getElem?_eq_none (by omega)]; simp

/-- an entry of a product -/
def mulE (p : Int) (ca cb : Sim) (K C i j : Nat) : Int := dotN (fun l => ca.getD (i * K + l) 0) (fun l => cb.getD (l * C + j) 0) K % p

/-- a product -/
def mulM (a b : Mat) : Mat := (a.1,a.2.1,b.2.2.1,flatF (mulE a.1 a.2.2.2.1 b.2.2.2.1 a.2.2.1.toNat b.2.2.1.toNat) b.2.2.1.toNat a.2.1.toNat,())

theorem VM.nat {m : Mat} (h : VM m) : ∃ R K : Nat,m = (m.1,(R : Int),(K : Int),m.2.2.2.1,()) ∧ R ≤ 32 ∧ K ≤ 32 ∧ m.2.2.2.1.length = R * K := by
  obtain ⟨p,r,k,c,⟨⟩⟩ := m
  obtain ⟨_,h2,h3,h4,_⟩ := h
  simp only at h2 h3 h4
  obtain ⟨R,rfl⟩ := Int.eq_ofNat_of_zero_le h2.1
  obtain ⟨K,rfl⟩ := Int.eq_ofNat_of_zero_le h3.1
  refine ⟨R,K,rfl,by omega,by omega,?_⟩
  rw [cast_mul] at h4; simp only; omega

end VeT

open Go Go.Proofs Ve
set_option linter.unusedVariables false
set_option linter.unusedSimpArgs false
namespace VeT

theorem EqualP_ret (a b : Sim) (ha : a.length ≤ 1048576) : Ret E n_Z51 [dL a,dL b] ⟨o_Z51,(pb (a = b),())⟩ := by
  refine ret_of ?_
  simp only [run_Z51,Z51.ev]
  refine ev_b (fun h => ev_some ?_) fun h => ?_
  · have h : (a.length : Int) ≠ b.length := by simpa using h
    rw [pb_false fun e => h (by rw [e])]
  · have h : (a.length : Int) = b.length := by simpa using h
    refine Ev.start (p := fun φ n => Z51.l0 (mkR (run E (φ 0))) (φ 0) n a b (a.length : Int) 0 = _) 1 ?_ (fun _ _ _ h => h)
    refine (all_pb 1 (L := fun φ n k => Z51.l0 (mkR (run E (φ 0))) (φ 0) n a b (a.length : Int) k) (len := a.length) 0 (by omega) (fun j => a.getD j 0 = b.getD j 0) (fun b => some ⟨o_Z51,(b,())⟩) (fun _ _ _ _ => rfl) (fun k h1 h2 hP _ => ?_) (fun k r h1 h2 hP _ ih => ?_) (fun _ => ?_)).to ?_
    · simp only [Z51.l0_succ _ mk_ok]
      have hb : k < b.length := by omega
      rw [getD_lt h2,getD_lt hb] at hP
      exact ev_t (decide_eq_true (by omega)) (ev_bind (idx_lt h2) (ev_bind (idx_lt hb) (ev_t (by simpa using hP) ev_rfl)))
    · simp only [Z51.l0_succ _ mk_ok]
      have hb : k < b.length := by omega
      rw [getD_lt h2,getD_lt hb] at hP
      refine ev_t (decide_eq_true (by omega)) (ev_bind (idx_lt h2) (ev_bind (idx_lt hb) (ev_f (by simpa using hP) ?_)))
      rw [w64_succ (by omega)]; exact ih
    · simp only [Z51.l0_succ _ mk_ok]
      exact ev_f (decide_eq_false (by omega)) ev_rfl
    · refine congrArg (fun b : Bool => some (⟨o_Z51,(b,())⟩ : Dv)) (pb_congr ⟨fun hh => List.ext_getElem (by omega) fun j h1 h2 => ?_,fun hh j _ _ => by rw [hh]⟩)
      have := hh j (by omega) h1
      rwa [getD_lt h1,getD_lt h2] at this

/-! the maps of a sheaf -/
noncomputable def mp (c : List Sim) (ms : List Mat) (k i : Nat) : Mat := ms.getD (plc c k + i) mz

noncomputable def fc (c : List Sim) (k i : Nat) : Nat := ((fIdx c k).getD i 0).toNat

theorem findI_get {c : List Sim} {s : Sim} (h : s ∈ c) : c.getD (findI c s).toNat [] = s := by
  have h0 := findI_nonneg.2 h
  unfold findI idxf at h0 ⊢
  cases hf : c.findIdx? (fun x => pb (x = s)) with
  | none => rw [hf] at h0; simp [o2i] at h0
  | some k =>
    rw [List.findIdx?_eq_some_iff_getElem] at hf
    obtain ⟨hk,hp,_⟩ := hf
    simp only [o2i,Int.toNat_natCast]
    rw [getD_lt hk]; exact pb_iff.1 hp

theorem fc_get {c : List Sim} (h : VC c) {k i : Nat} (hk : k < c.length) (hi : i < (fIdx c k).length) : idx? (fIdx c k) (i : Int) = some ((fc c k i : Nat) : Int) ∧ fc c k i < c.length ∧ c.getD (fc c k i) [] = (c.getD k []).eraseIdx i := by
  have hm := fIdx_mem h hk (List.getElem_mem hi)
  have hl := fIdx_length (c := c) (k := k)
  have h1 : 1 < (c.getD k []).length := Classical.byContradiction fun hn => by rw [if_neg hn] at hl; omega
  rw [if_pos h1] at hl
  have hfc : (fIdx c k)[i] = findI c ((c.getD k []).eraseIdx i) := by
    have : (fIdx c k)[i]? = some (findI c ((c.getD k []).eraseIdx i)) := by
      unfold fIdx faces
      rw [if_pos h1,List.map_map,List.getElem?_map,List.getElem?_range (by omega)]; rfl
    rw [List.getElem?_eq_getElem hi] at this
    exact Option.some.inj this
  have hin : (c.getD k []).eraseIdx i ∈ c := h.2.2.2 k hk _ (faces_mem.2 ⟨h1,i,by omega,rfl⟩)
  unfold fc
  rw [getD_lt hi]
  refine ⟨?_,by omega,?_⟩
  · rw [idx_lt hi]; congr 1; omega
  · rw [hfc]; exact findI_get hin

theorem VS.map {c : List Sim} {p : Int} {st : Sim} {ms : List Mat} (h : VS c p st ms) {k i : Nat} (hk : k < c.length) (hi : i < (fIdx c k).length) : plc c k + i < ms.length ∧ Bt (mp c ms k i) p (st.getD (fc c k i) 0) (st.getD k 0) := by
  have hg := arrs_get hk hi
  have hlt := (List.getElem?_eq_some_iff.1 hg).1
  exact ⟨by rw [← h.2.2.2.1]; exact hlt,h.2.2.2.2 k hk i hi⟩

/-- a way over two faces -/
noncomputable def two (c : List Sim) (ms : List Mat) (k i j : Nat) : Mat := mulM (mp c ms k i) (mp c ms (fc c k i) j)

structure Sq (c : List Sim) (p : Int) (st : Sim) (ms : List Mat) (k i j : Nat) : Prop where
  kl : k < c.length
  n3 : 3 ≤ (c.getD k []).length
  il : i < (c.getD k []).length
  jl : j + 1 < (c.getD k []).length
  v : VS c p st ms

theorem Sq.hi {c p st ms k i j} (h : Sq c p st ms k i j) : i < (fIdx c k).length := by
  have := h.n3; have := h.il
  rw [fIdx_length,if_pos (by omega)]; exact this

theorem Sq.fk {c p st ms k i j} (h : Sq c p st ms k i j) : fc c k i < c.length := (fc_get h.v.1 h.kl h.hi).2.1

theorem Sq.hj {c p st ms k i j} (h : Sq c p st ms k i j) : j < (fIdx c (fc c k i)).length := by
  have h1 := h.n3; have h2 := h.il; have h3 := h.jl
  have e := (fc_get h.v.1 h.kl h.hi).2.2
  rw [fIdx_length,e,List.length_eraseIdx,if_pos h2,if_pos (by omega)]; omega

theorem Sq.b1 {c p st ms k i j} (h : Sq c p st ms k i j) : VM (mp c ms k i) := ((h.v.map h.kl h.hi).2).1
theorem Sq.b2 {c p st ms k i j} (h : Sq c p st ms k i j) : VM (mp c ms (fc c k i) j) := ((h.v.map h.fk h.hj).2).1
theorem Sq.sh {c p st ms k i j} (h : Sq c p st ms k i j) : (mp c ms k i).2.2.1 = (mp c ms (fc c k i) j).2.1 := by
  rw [((h.v.map h.kl h.hi).2).2.2.2,((h.v.map h.fk h.hj).2).2.2.1]

end VeT

open Go Go.Proofs Ve
set_option linter.unusedVariables false
set_option linter.unusedSimpArgs false
namespace VeT

theorem Index_ret (s : Sim) (v : Int) (hs : s.length ≤ 1048576) : Ret E n_Z58 [dL s,dI v] ⟨o_Z58,(idxf (fun x => pb (x = v)) s,())⟩ := by
  obtain ⟨o,h1,h2,h3⟩ := find_loop 1 (L := fun φ n k => Z58.l0 (mkR (run E (φ 0))) (φ 0) n s v (s.length : Int) k) (len := s.length) (fun k => ∃ h : k < s.length,pb (s[k] = v) = true) (fun o => some ⟨o_Z58,(o2i o,())⟩) (fun _ _ _ _ => rfl) (fun k hk hP => by
      obtain ⟨_,hP⟩ := hP
      have hP := pb_iff.1 hP
      simp only [Z58.l0_succ _ mk_ok]
      exact ev_t (decide_eq_true (by omega)) (ev_bind (idx_lt hk) (ev_t (by simp [hP]) ev_rfl))) (fun k q hk hP ih => by
      simp only [Z58.l0_succ _ mk_ok]
      refine ev_t (decide_eq_true (by omega)) (ev_bind (idx_lt hk) (ev_f (by simp only [beq_eq_false_iff_ne]; exact fun e => hP ⟨hk,pb_true e.symm⟩) ?_))
      rw [w64_succ (by omega)]; exact ih) (by
      simp only [Z58.l0_succ _ mk_ok]
      exact ev_f (decide_eq_false (by omega)) ev_rfl)
  rw [idxf_of (p := fun x => pb (x = v)) h1 h2] at h3
  refine ret_of ?_
  simp only [run_Z58,Z58.ev]
  exact Ev.start (p := fun φ n => Z58.l0 (mkR (run E (φ 0))) (φ 0) n s v (s.length : Int) 0 = _) 1 h3 (fun _ _ _ h => h)

end VeT

open Go Go.Proofs Ve
set_option linter.unusedVariables false
set_option linter.unusedSimpArgs false
namespace VeT

end VeT

open Go Go.Proofs Ve
set_option linter.unusedVariables false
set_option linter.unusedSimpArgs false
namespace VeT

end VeT

open Go Go.Proofs Ve
set_option linter.unusedVariables false
set_option linter.unusedSimpArgs false
namespace VeT

end VeT

open Go Go.Proofs Ve
set_option linter.unusedVariables false
set_option linter.unusedSimpArgs false
namespace VeT

end VeT

open Go Go.Proofs Ve
set_option linter.unusedVariables false
set_option linter.unusedSimpArgs false
namespace VeT

end VeT

open Go Go.Proofs Ve
set_option linter.unusedVariables false
set_option linter.unusedSimpArgs false
namespace VeT

/-! slices.SortFunc,slices.CompactFunc -/
theorem lexc_lexN : ∀ {a b : Sim},lexc a b = lexN a b
  | [],[] => rfl
  | [],_ :: _ => rfl
  | _ :: _,[] => rfl
  | x :: xs,y :: ys => by rw [lexc,lexN,lexc_lexN]

theorem cmpS_cmpX {a b : Sim} : cmpS a b = cmpX a b := by
  unfold cmpS cmpX
  rw [lexc_lexN]; rfl

theorem run_SortFunc (n : Nat) (args : List Dv) : run E (n + 1) n_Z59 args = pSortF n_Z10 (mkR (run E n)) args := rfl

theorem pSortF_val {m : Nat} {R : Run} {xs : List Sim} (h : xs.length ≤ 1048576 ∧ (⟨.fn m .nil,()⟩ : Dv) = ⟨.fn m .nil,()⟩ ∧ ∀ x ∈ xs,∀ y ∈ xs,R.r m [⟨tL,x⟩,⟨tL,y⟩] = some ⟨.cons tI .nil,(cmpX x y,())⟩) :
    pSortF m R [⟨tLL,xs⟩,⟨.fn m .nil,()⟩] = some ⟨.cons tLL .nil,(sortF xs,())⟩ := by
  unfold pSortF
  simp only [show (⟨tLL,xs⟩ : Dv).to tLL = some xs from rfl,Option.bind_some]
  exact if_pos h

theorem evt_mem {α : Type} {p : α → Nat → Prop} {l : List α} (h : ∀ x ∈ l,Evt (p x)) : Evt fun n => ∀ x ∈ l,p x n := by
  induction l with
  | nil => exact Evt.of fun n x hx => by cases hx
  | cons a l ih =>
    refine ((h a List.mem_cons_self).and (ih fun x hx => h x (List.mem_cons_of_mem _ hx))).mono fun n ⟨h1,h2⟩ x hx => ?_
    rcases List.mem_cons.1 hx with rfl | hx
    · exact h1
    · exact h2 x hx

theorem SortFunc_ret (xs : List Sim) (hs : Sm (.sl (.sl (.int .i64))) xs) : Ret E n_Z59 [dLL xs,⟨.fn n_Z10 .nil,()⟩] ⟨o_Z59,(sortF xs,())⟩ := by
  have hl : xs.length ≤ 1048576 := hs.1
  have hall : Evt fun n => ∀ x ∈ xs,∀ y ∈ xs,run E n n_Z10 [dL x,dL y] = some ⟨o_Z10,(cmpX x y,())⟩ :=
    evt_mem fun x hx => evt_mem fun y hy => by
      have := compareSimplices_ret x y (hs.2 x hx)
      rw [cmpS_cmpX] at this
      exact this
  refine Evt.succ (hall.mono fun n h => ?_)
  rw [run_SortFunc]
  exact pSortF_val ⟨hl,rfl,h⟩

theorem copyLists2_ret (rows : List Sim) (hl : rows.length ≤ 1048576) (hs : ∀ x ∈ rows,x.length ≤ 1048576) : Ret E n_Z11 [dLL rows] ⟨o_Z11,(rows,())⟩ := by
  refine ret_of ?_
  simp only [run_Z11,Z11.ev]
  refine Ev.start (p := fun φ n => Z11.l0 (mkR (run E (φ 0))) (φ 0) n rows (rows.length : Int) 0 [] = _) 1 ?_ (fun _ _ _ h => h)
  refine fold_loop 1 (L := fun φ n k o => Z11.l0 (mkR (run E (φ 0))) (φ 0) n rows (rows.length : Int) k o) (len := rows.length) (fun k => rows.take k) (fun _ _ _ _ _ => rfl) (fun k r hk ih => ?_) ?_
  · simp only [Z11.l0_succ _ mk_ok]
    rw [List.take_succ_eq_append_getElem hk] at ih
    refine ev_t (decide_eq_true (by omega)) (ev_bind (idx_lt hk) (ev_call (Clone_ret _ (hs _ (List.getElem_mem hk))) (ev_chk (by simp only [List.length_take,List.length_singleton,decide_eq_true_eq]; omega) ?_)))
    rw [w64_succ (by omega)]; exact ih
  · simp only [Z11.l0_succ _ mk_ok]
    refine ev_f (decide_eq_false (by omega)) (ev_some ?_)
    rw [List.take_of_length_le (Nat.le_refl _)]

/-! lists with equal neighbours -/
theorem run_pCompG (n : Nat) (args : List Dv) : run E (n + 1) n_Z42 args = pCompG n_Z51 (mkR (run E n)) args := rfl

-- pCompG
theorem CompactFuncG_ret (xs : List Sim) (hs : Sm (.sl (.sl (.int .i64))) xs) :
    Ret E n_Z42 [dLL xs,⟨.fn n_Z51 .nil,()⟩] ⟨o_Z42,(sel (mC xs xs.length) xs,())⟩ := by
  have hl : xs.length ≤ 1048576 := hs.1
  have hall : Evt fun n => ∀ i,i < xs.length - 1 → ∀ (h : i + 1 < xs.length),run E n n_Z51 [dL xs[i + 1],dL xs[i]] = some ⟨o_Z51,(xs[i + 1] == xs[i],())⟩ :=
    Evt.lt fun i hi => by
      have h : i + 1 < xs.length := by omega
      have h2 := EqualP_ret xs[i + 1] xs[i] (sm_get hs h).1
      rw [show pb (xs[i + 1] = xs[i]) = (xs[i + 1] == xs[i]) by rw [Bool.eq_iff_iff,pb_iff,beq_iff_eq]] at h2
      exact Evt.mono h2 fun n h3 _ => h3
  refine Evt.succ (hall.mono fun n h => ?_)
  rw [run_pCompG]
  unfold pCompG
  simp only [show (⟨tLL,xs⟩ : Dv).to tLL = some xs from rfl,Option.bind_some]
  exact if_pos ⟨hl,rfl,fun i hi => h i (by omega) hi⟩

-- pCompG
theorem compG_spec {l : List Sim} (h : l.Pairwise (fun a b => cmpX a b ≤ 0)) : ∀ {m : Nat},m ≤ l.length → (sel (mC l m) l).Pairwise (fun a b => cmpX a b < 0) ∧ (∀ x,x ∈ sel (mC l m) l ↔ x ∈ l.take m) := by
  intro m
  induction m with
  | zero => intro _; simp [mC,sel]
  | succ m ih =>
    intro hm
    obtain ⟨h1,h2⟩ := ih (by omega)
    have hml : m < l.length := by omega
    rw [mC,sel_snoc (by rw [mC_len]; exact hml)]
    have e : (l[(mC l m).length]'(by rw [mC_len]; exact hml)) = l[m] := by congr 1; exact mC_len
    rw [e,List.take_succ_eq_append_getElem hml]
    by_cases h0 : m = 0
    · subst h0
      simp [mC,sel]
    · obtain ⟨q,rfl⟩ : ∃ q,m = q + 1 := ⟨m - 1,by omega⟩
      have g1 : l[q + 1]? = some l[q + 1] := List.getElem?_eq_getElem hml
      have g2 : l[q + 1 - 1]? = some l[q] := by rw [Nat.add_sub_cancel]; exact List.getElem?_eq_getElem (by omega)
      rw [g1,g2,show (q + 1 == 0) = false from rfl,Bool.false_or]
      have hq : l[q] ∈ l.take (q + 1) := by rw [List.take_succ_eq_append_getElem (show q < l.length by omega)]; exact List.mem_append.2 (.inr (List.mem_singleton.2 rfl))
      by_cases he : l[q + 1] = l[q]
      · rw [show (some l[q + 1] == some l[q]) = true by rw [he]; simp]
        simp only [Bool.not_true,cond_false,List.append_nil]
        refine ⟨h1,fun x => ?_⟩
        rw [h2,List.mem_append,List.mem_singleton]
        exact ⟨.inl,fun hx => hx.elim id fun e => by rw [e,he]; exact hq⟩
      · rw [show (some l[q + 1] == some l[q]) = false from beq_false_of_ne fun e => he (Option.some.inj e)]
        simp only [Bool.not_false,cond_true]
        have hlt : ∀ x ∈ sel (mC l (q + 1)) l,cmpX x l[q + 1] < 0 := fun x hx => by
          have hx := (h2 x).1 hx
          have hq1 : cmpX l[q] l[q + 1] ≤ 0 := List.pairwise_iff_getElem.1 h q (q + 1) (by omega) hml (by omega)
          have hq2 : cmpX l[q] l[q + 1] < 0 := by
            rcases Int.lt_or_eq_of_le hq1 with h | h
            · exact h
            · exact absurd (cmpX_zero.1 h).symm he
          obtain ⟨i,hi,rfl⟩ := List.mem_iff_getElem.1 hx
          rw [List.length_take] at hi
          rw [List.getElem_take]
          by_cases e : i = q
          · subst e; exact hq2
          · have h3 : cmpX l[i] l[q] ≤ 0 := List.pairwise_iff_getElem.1 h i q (by omega) (by omega) (by omega)
            rcases Int.lt_or_eq_of_le h3 with h | h
            · have := cmpS_trans (by rw [cmpS_cmpX]; exact h) (by rw [cmpS_cmpX]; exact hq2)
              rwa [cmpS_cmpX] at this
            · rw [cmpX_zero.1 h]; exact hq2
        refine ⟨List.pairwise_append.2 ⟨h1,List.pairwise_singleton _ _,fun x hx y hy => ?_⟩,fun x => ?_⟩
        · rw [List.mem_singleton] at hy; subst hy; exact hlt x hx
        · rw [List.mem_append,List.mem_append,h2]

/-- what is in order,each once -/
-- pCompG
noncomputable def ordG (xs : List Sim) : List Sim := sel (mC (sortF xs) (sortF xs).length) (sortF xs)

-- pCompG
theorem ordG_spec (xs : List Sim) : Srt (ordG xs) ∧ (∀ x,x ∈ ordG xs ↔ x ∈ xs) ∧ (ordG xs).length ≤ xs.length := by
  have hp : (sortF xs).Pairwise (fun a b => cmpX a b ≤ 0) := (sortF_pair xs).imp fun h => by unfold leX at h; exact of_decide_eq_true h
  obtain ⟨h1,h2⟩ := compG_spec hp (Nat.le_refl _)
  refine ⟨fun i j hj hij => ?_,fun x => ?_,?_⟩
  · rw [cmpS_cmpX]; exact List.pairwise_iff_getElem.1 h1 i j (by unfold ordG at hj; omega) hj hij
  · unfold ordG
    rw [h2,List.take_length]
    exact (List.mergeSort_perm xs leX).mem_iff
  · have := sel_len (ms := mC (sortF xs) (sortF xs).length) (l := sortF xs)
    exact Nat.le_trans this (Nat.le_of_eq (sortF_length xs))

-- pCompG
theorem srt_ext : ∀ {c d : List Sim},Srt c → Srt d → (∀ x,x ∈ c ↔ x ∈ d) → c = d := by
  have pw : ∀ {c : List Sim},Srt c → c.Pairwise (fun a b => cmpS a b < 0) := fun h => List.pairwise_iff_getElem.2 fun i j hi hj hij => h i j hj hij
  have main : ∀ {c d : List Sim},c.Pairwise (fun a b => cmpS a b < 0) → d.Pairwise (fun a b => cmpS a b < 0) → (∀ x,x ∈ c ↔ x ∈ d) → c = d := by
    intro c
    induction c with
    | nil =>
      intro d _ _ h
      cases d with
      | nil => rfl
      | cons y d => exact absurd ((h y).2 List.mem_cons_self) (by simp)
    | cons x c ih =>
      intro d hc hd h
      cases d with
      | nil => exact absurd ((h x).1 List.mem_cons_self) (by simp)
      | cons y d =>
        obtain ⟨hc1,hc2⟩ := List.pairwise_cons.1 hc
        obtain ⟨hd1,hd2⟩ := List.pairwise_cons.1 hd
        have hxy : x = y := by
          rcases List.mem_cons.1 ((h x).1 List.mem_cons_self) with e | e
          · exact e
          · rcases List.mem_cons.1 ((h y).2 List.mem_cons_self) with e2 | e2
            · exact e2.symm
            · have h1 := hd1 x e
              have h2 := hc1 y e2
              have := cmpS_neg (a := x) (b := y)
              omega
        subst hxy
        have irr : ∀ z,cmpS z z = 0 := fun z => cmpS_zero.2 rfl
        rw [ih hc2 hd2 fun z => ?_]
        constructor
        · intro hz
          rcases List.mem_cons.1 ((h z).1 (List.mem_cons_of_mem _ hz)) with e | e
          · subst e; have := hc1 z hz; have := irr z; omega
          · exact e
        · intro hz
          rcases List.mem_cons.1 ((h z).2 (List.mem_cons_of_mem _ hz)) with e | e
          · subst e; have := hd1 z hz; have := irr z; omega
          · exact e
  exact fun {c d} hc hd h => main (pw hc) (pw hd) h

-- pCompG
theorem inOrderG_ret (c : List Sim) (hc : Sm (.sl (.sl (.int .i64))) c) : Ret E n_Z14 [dLL c] ⟨o_Z14,(ordG c,())⟩ := by
  have h1 := SortFunc_ret c hc
  have hs : Sm (.sl (.sl (.int .i64))) (sortF c) := ⟨by show (sortF c).length ≤ 1048576; rw [sortF_length]; exact hc.1,fun x hx => hc.2 x ((List.mergeSort_perm c leX).mem_iff.1 hx)⟩
  refine ret_of ?_
  simp only [run_Z14,Z14.ev]
  exact ev_call (copyLists2_ret c hc.1 fun x hx => (hc.2 x hx).1) (ev_call h1 (ev_call (CompactFuncG_ret _ hs) ev_rfl))

end VeT

open Go Go.Proofs Ve
set_option linter.unusedVariables false
set_option linter.unusedSimpArgs false
namespace VeT

/-! the closure of simplices -/
/-- a face,or the whole -/
def Fa (x s : Sim) : Prop := x ≠ [] ∧ x.Sublist s
def Cl (c : List Sim) : Prop := ∀ y ∈ c,∀ x,Fa x y → x ∈ c

theorem sub_erase : ∀ {x s : Sim},x.Sublist s → x ≠ s → ∃ i,i < s.length ∧ x.Sublist (s.eraseIdx i)
  | _,_,.slnil,h => absurd rfl h
  | x,_,.cons a h,_ => ⟨0,by simp,by simpa using h⟩
  | _,_,.cons_cons (l₁ := l) (l₂ := l') a h,hn => by
    obtain ⟨i,hi,hs⟩ := sub_erase h fun e => hn (by rw [e])
    exact ⟨i + 1,by simp; omega,by simpa using hs⟩

theorem fa_iff {x s : Sim} : Fa x s ↔ (x = s ∧ s ≠ []) ∨ ∃ i,i < s.length ∧ Fa x (s.eraseIdx i) := by
  constructor
  · rintro ⟨h1,h2⟩
    by_cases e : x = s
    · exact .inl ⟨e,e ▸ h1⟩
    · obtain ⟨i,hi,hs⟩ := sub_erase h2 e
      exact .inr ⟨i,hi,h1,hs⟩
  · rintro (⟨rfl,h⟩ | ⟨i,hi,h1,h2⟩)
    · exact ⟨h,List.Sublist.refl _⟩
    · exact ⟨h1,h2.trans (List.eraseIdx_sublist _ _)⟩

theorem fa_trans {x y z : Sim} (h1 : Fa x y) (h2 : Fa y z) : Fa x z := ⟨h1.1,h1.2.trans h2.2⟩
theorem fa_len {x s : Sim} (h : Fa x s) : x.length ≤ s.length := h.2.length_le

/-- how many a simplex adds at most -/
def addN : Nat → Nat
  | 0 => 1
  | n + 1 => (n + 2) * addN n + 1

/-- the place of a list that is not there yet -/
theorem put_at {o : List Sim} {s : Sim} (hs : Srt o) (hn : s ∉ o) : ∃ t,t ≤ o.length ∧ (∀ j (h : j < o.length),j < t → cmpS o[j] s < 0) ∧ (∀ h : t < o.length,¬ cmpS o[t] s < 0) ∧ Srt (o.take t ++ [s] ++ o.drop t) := by
  refine ⟨bs o s,bs_le,fun j h hj => (bs_lt hs h).1 hj,fun h hlt => ?_,?_⟩
  · have := (bs_lt hs h).2 hlt; omega
  · have pw : o.Pairwise (fun a b => cmpS a b < 0) := List.pairwise_iff_getElem.2 fun i j hi hj hij => hs i j hj hij
    have h1 : ∀ x ∈ o.take (bs o s),cmpS x s < 0 := fun x hx => by
      obtain ⟨i,hi,rfl⟩ := List.mem_iff_getElem.1 hx
      rw [List.length_take] at hi
      rw [List.getElem_take]
      exact (bs_lt hs (by omega)).1 (by omega)
    have h2 : ∀ x ∈ o.drop (bs o s),cmpS s x < 0 := fun x hx => by
      obtain ⟨i,hi,rfl⟩ := List.mem_iff_getElem.1 hx
      rw [List.length_drop] at hi
      rw [List.getElem_drop]
      have h3 : ¬ cmpS o[bs o s + i] s < 0 := fun h => by
        have := (bs_lt hs (show bs o s + i < o.length by omega)).2 h; omega
      have h4 : cmpS o[bs o s + i] s ≠ 0 := fun h => hn (by rw [← cmpS_zero.1 h]; exact List.getElem_mem _)
      have := cmpS_neg (a := o[bs o s + i]) (b := s)
      omega
    have pwn : (o.take (bs o s) ++ [s] ++ o.drop (bs o s)).Pairwise (fun a b => cmpS a b < 0) := by
      rw [List.pairwise_append]
      refine ⟨?_,pw.sublist (List.drop_sublist _ _),fun x hx y hy => ?_⟩
      · rw [List.pairwise_append]
        refine ⟨pw.sublist (List.take_sublist _ _),List.pairwise_singleton _ _,fun x hx y hy => ?_⟩
        rw [List.mem_singleton] at hy; subst hy; exact h1 x hx
      · rcases List.mem_append.1 hx with hx | hx
        · exact cmpS_trans (h1 x hx) (h2 y hy)
        · rw [List.mem_singleton] at hx; subst hx; exact h2 y hy
    exact fun i j hj hij => List.pairwise_iff_getElem.1 pwn i j (by omega) hj hij

theorem mem_put {o : List Sim} {s x : Sim} {t : Nat} : x ∈ o.take t ++ [s] ++ o.drop t ↔ x ∈ o ∨ x = s := by
  rw [List.mem_append,List.mem_append,List.mem_singleton]
  conv => rhs; rw [← List.take_append_drop t o]
  rw [List.mem_append]
  constructor
  · rintro ((h | h) | h)
    · exact .inl (.inl h)
    · exact .inr h
    · exact .inl (.inr h)
  · rintro ((h | h) | h)
    · exact .inl (.inl h)
    · exact .inr h
    · exact .inl (.inr h)

/-- the last step: the simplex goes to its place -/
theorem put_last (s : Sim) (o : List Sim) (N1 : Nat → Nat) (hs1 : s.length ≤ 1048576) (ho : Sm (.sl (.sl (.int .i64))) o) (hl : o.length + 1 ≤ 1048576) (hs : Srt o) (hn : s ∉ o) :
    ∃ t,t ≤ o.length ∧ Srt (o.take t ++ [s] ++ o.drop t) ∧ Ev fun φ => Z72.l2 (mkR (run E (φ 0))) (φ 0) (φ 2) s 0 o = some ⟨o_Z72,((o.take t ++ [s] ++ o.drop t,()),())⟩ := by
  obtain ⟨t,ht,h1,h2,h3⟩ := put_at hs hn
  refine ⟨t,ht,h3,?_⟩
  have fin : Ev fun φ => Z72.j3 (mkR (run E (φ 0))) (φ 0) (φ 2) s (t : Int) false o = some ⟨o_Z72,((o.take t ++ [s] ++ o.drop t,()),())⟩ := by
    simp only [Z72.j3_eq _ mk_ok]
    refine ev_f rfl (ev_chk (by simp only [Bool.and_eq_true,decide_eq_true_eq]; omega) ?_)
    simp only [Int.toNat_natCast,List.nil_append]
    refine ev_chk (by simp only [List.length_nil,List.length_take,decide_eq_true_eq]; omega) (ev_call (l00Own_ret s hs1) (ev_chk (by simp only [List.length_take,List.length_singleton,decide_eq_true_eq]; omega) (ev_chk (by simp only [Bool.and_eq_true,decide_eq_true_eq]; omega) (ev_chk (by simp only [List.length_append,List.length_take,List.length_drop,List.length_singleton,decide_eq_true_eq]; omega) ev_rfl))))
  have key : ∀ d i,i + d = t → Ev fun φ => Z72.l2 (mkR (run E (φ 0))) (φ 0) (φ 2) s (i : Int) o = some ⟨o_Z72,((o.take t ++ [s] ++ o.drop t,()),())⟩ := by
    intro d
    induction d with
    | zero =>
      intro i hi
      obtain rfl : i = t := by omega
      refine Ev.round 2 (L := fun φ n => Z72.l2 (mkR (run E (φ 0))) (φ 0) n s (i : Int) o) ?_ (fun _ _ _ => rfl)
      simp only [Z72.l2_succ _ mk_ok]
      by_cases hlt : i < o.length
      · refine ev_t (decide_eq_true (by omega)) (ev_bind (idx_lt hlt) (ev_call (l05Before_ret _ s (sm_get ho hlt)) ?_))
        rw [pb_false (h2 hlt)]
        exact fin
      · exact ev_f (decide_eq_false (by omega)) fin
    | succ d ih =>
      intro i hi
      have hlt : i < o.length := by omega
      refine Ev.round 2 (L := fun φ n => Z72.l2 (mkR (run E (φ 0))) (φ 0) n s (i : Int) o) ?_ (fun _ _ _ => rfl)
      simp only [Z72.l2_succ _ mk_ok]
      refine ev_t (decide_eq_true (by omega)) (ev_bind (idx_lt hlt) (ev_call (l05Before_ret _ s (sm_get ho hlt)) ?_))
      rw [pb_true (h1 i hlt (by omega))]
      simp only [Z72.j3_eq _ mk_ok]
      refine ev_t rfl ?_
      rw [w64_succ (by omega)]
      exact ih (i + 1) (by omega)
  exact key t 0 (by omega)

theorem put_ret : ∀ (n : Nat) (s : Sim) (c : List Sim),s.length = n + 1 → n ≤ 1048575 → c.length + addN n ≤ 1048576 → Sm (.sl (.sl (.int .i64))) c → Srt c → Cl c →
    ∃ c',Ret E n_Z72 [dC (c,()),dL s] ⟨o_Z72,((c',()),())⟩ ∧ Srt c' ∧ (∀ x,x ∈ c' ↔ x ∈ c ∨ Fa x s) ∧ c'.length ≤ c.length + addN n := by
  intro n
  induction n with
  | zero =>
    intro s c hn hb hl hc hs hcl
    have hs1 : s.length ≤ 1048576 := by omega
    have hne : s ≠ [] := fun e => by rw [e] at hn; simp at hn
    by_cases hm : s ∈ c
    · refine ⟨c,?_,hs,fun x => ⟨.inl,fun h => h.elim id fun h => hcl s hm x h⟩,by omega⟩
      refine ret_of ?_
      simp only [run_Z72,Z72.ev]
      exact ev_call (l05Find_ret (c,()) s hc) (ev_t (decide_eq_true (findI_nonneg.2 hm)) ev_rfl)
    · obtain ⟨t,ht,h3,h4⟩ := put_last s c id hs1 hc (by unfold addN at hl; omega) hs hm
      refine ⟨_,?_,h3,fun x => ?_,by simp [addN]; omega⟩
      · refine ret_of ?_
        simp only [run_Z72,Z72.ev]
        refine ev_call (l05Find_ret (c,()) s hc) (ev_f (decide_eq_false fun h => hm (findI_nonneg.1 h)) ?_)
        have h4 : Ev fun φ => Z72.l2 (mkR (run E (φ 0))) (φ 0) (φ 0) s 0 c = some ⟨o_Z72,((c.take t ++ [s] ++ c.drop t,()),())⟩ := Ev.start (p := fun φ n => Z72.l2 (mkR (run E (φ 0))) (φ 0) n s 0 c = _) 2 h4 (fun _ _ _ h => h)
        refine Ev.start (p := fun φ n => Z72.l0 (mkR (run E (φ 0))) (φ 0) n s 0 c = _) 1 ?_ (fun _ _ _ h => h)
        refine Ev.round 1 (L := fun φ n => Z72.l0 (mkR (run E (φ 0))) (φ 0) n s 0 c) ?_ (fun _ _ _ => rfl)
        simp only [Z72.l0_succ _ mk_ok,Z72.j1_eq _ mk_ok]
        refine ev_t (decide_eq_true (by omega)) (ev_f (decide_eq_false (by omega)) h4)
      · rw [mem_put,fa_iff]
        constructor
        · rintro (h | h)
          · exact .inl h
          · exact .inr (.inl ⟨h,hne⟩)
        · rintro (h | ⟨h,_⟩ | ⟨i,hi,h1,h2⟩)
          · exact .inl h
          · exact .inr h
          · have := h2.length_le
            rw [List.length_eraseIdx,if_pos hi] at this
            exact absurd (List.length_eq_zero_iff.1 (by omega)) h1
  | succ n ih =>
    intro s c hn hb hl hc hs hcl
    have hs1 : s.length ≤ 1048576 := by omega
    have hne : s ≠ [] := fun e => by rw [e] at hn; simp at hn
    by_cases hm : s ∈ c
    · refine ⟨c,?_,hs,fun x => ⟨.inl,fun h => h.elim id fun h => hcl s hm x h⟩,by omega⟩
      refine ret_of ?_
      simp only [run_Z72,Z72.ev]
      exact ev_call (l05Find_ret (c,()) s hc) (ev_t (decide_eq_true (findI_nonneg.2 hm)) ev_rfl)
    · have hadd : addN (n + 1) = (n + 1 + 1) * addN n + 1 := rfl
      -- the faces
      have loop : ∀ d i (o : List Sim),i + d = s.length → Sm (.sl (.sl (.int .i64))) o → Srt o → Cl o → (∀ x,x ∈ o ↔ x ∈ c ∨ ∃ j,j < i ∧ Fa x (s.eraseIdx j)) → o.length ≤ c.length + i * addN n → s.length * addN n + 1 + c.length ≤ 1048576 →
          ∃ c',(Ev fun φ => Z72.l0 (mkR (run E (φ 0))) (φ 0) (φ 1) s (i : Int) o = some ⟨o_Z72,((c',()),())⟩) ∧ Srt c' ∧ (∀ x,x ∈ c' ↔ x ∈ c ∨ Fa x s) ∧ c'.length ≤ c.length + s.length * addN n + 1 := by
        intro d
        induction d with
        | zero =>
          intro i o hi ho1 ho2 ho3 ho4 ho5 hbig
          obtain rfl : i = s.length := by omega
          have hn2 : s ∉ o := fun h => by
            rcases (ho4 s).1 h with h | ⟨j,hj,h⟩
            · exact hm h
            · have := fa_len h
              rw [List.length_eraseIdx,if_pos hj] at this
              omega
          obtain ⟨t,ht,h3,h4⟩ := put_last s o id hs1 ho1 (by omega) ho2 hn2
          refine ⟨_,?_,h3,fun x => ?_,by simp; omega⟩
          · have h4 : Ev fun φ => Z72.l2 (mkR (run E (φ 0))) (φ 0) (φ 0) s 0 o = some ⟨o_Z72,((o.take t ++ [s] ++ o.drop t,()),())⟩ := Ev.start (p := fun φ n => Z72.l2 (mkR (run E (φ 0))) (φ 0) n s 0 o = _) 2 h4 (fun _ _ _ h => h)
            refine Ev.round 1 (L := fun φ n => Z72.l0 (mkR (run E (φ 0))) (φ 0) n s (s.length : Int) o) ?_ (fun _ _ _ => rfl)
            simp only [Z72.l0_succ _ mk_ok,Z72.j1_eq _ mk_ok]
            exact ev_f (decide_eq_false (by omega)) (ev_f rfl h4)
          · rw [mem_put,ho4,fa_iff]
            constructor
            · rintro ((h | ⟨j,hj,h⟩) | h)
              · exact .inl h
              · exact .inr (.inr ⟨j,hj,h⟩)
              · exact .inr (.inl ⟨h,hne⟩)
            · rintro (h | ⟨h,_⟩ | ⟨j,hj,h⟩)
              · exact .inl (.inl h)
              · exact .inr h
              · exact .inl (.inr ⟨j,hj,h⟩)
        | succ d ihd =>
          intro i o hi ho1 ho2 ho3 ho4 ho5 hbig
          have hil : i < s.length := by omega
          have hel : (s.eraseIdx i).length = n + 1 := by rw [List.length_eraseIdx,if_pos hil]; omega
          have hmul : (i + 1) * addN n ≤ s.length * addN n := Nat.mul_le_mul_right _ (by omega)
          rw [Nat.add_mul,Nat.one_mul] at hmul
          obtain ⟨o',hr,hs',hm',hl'⟩ := ih (s.eraseIdx i) o hel (by omega) (by omega) ho1 ho2 ho3
          obtain ⟨c',hc1,hc2⟩ := ihd (i + 1) o' (by omega) ⟨by show o'.length ≤ 1048576; omega,fun x hx => by
              rcases (hm' x).1 hx with h | h
              · exact ho1.2 x h
              · have := fa_len h
                exact ⟨by show x.length ≤ 1048576; omega,fun _ _ => trivial⟩⟩ hs' (fun y hy x hx => (hm' x).2 (by
              rcases (hm' y).1 hy with h | h
              · exact .inl (ho3 y h x hx)
              · exact .inr (fa_trans hx h))) (fun x => by
              rw [hm',ho4]
              constructor
              · rintro ((h | ⟨j,hj,h⟩) | h)
                · exact .inl h
                · exact .inr ⟨j,by omega,h⟩
                · exact .inr ⟨i,by omega,h⟩
              · rintro (h | ⟨j,hj,h⟩)
                · exact .inl (.inl h)
                · by_cases e : j = i
                  · subst e; exact .inr h
                  · exact .inl (.inr ⟨j,by omega,h⟩)) (by rw [Nat.add_mul,Nat.one_mul]; omega) hbig
          refine ⟨c',?_,hc2⟩
          refine Ev.round 1 (L := fun φ n => Z72.l0 (mkR (run E (φ 0))) (φ 0) n s (i : Int) o) ?_ (fun _ _ _ => rfl)
          simp only [Z72.l0_succ _ mk_ok,Z72.j1_eq _ mk_ok]
          refine ev_t (decide_eq_true (by omega)) (ev_t (decide_eq_true (by omega)) (ev_call (l05Drop_ret s i hil hs1) (ev_call hr ?_)))
          rw [w64_succ (by omega)]
          exact hc1
      have hbig : s.length * addN n + 1 + c.length ≤ 1048576 := by rw [hn]; rw [hadd] at hl; omega
      obtain ⟨c',h1,h2,h3,h4⟩ := loop s.length 0 c (by omega) hc hs hcl (fun x => ⟨.inl,fun h => h.elim id fun ⟨j,hj,_⟩ => by omega⟩) (by omega) hbig
      refine ⟨c',?_,h2,h3,?_⟩
      · refine ret_of ?_
        simp only [run_Z72,Z72.ev]
        refine ev_call (l05Find_ret (c,()) s hc) (ev_f (decide_eq_false fun h => hm (findI_nonneg.1 h)) ?_)
        exact Ev.start (p := fun φ n => Z72.l0 (mkR (run E (φ 0))) (φ 0) n s 0 c = _) 1 h1 (fun _ _ _ h => h)
      · rw [hadd,← hn]; omega

/-- the closure of a list of simplices -/
theorem closure_ret (l : List Sim) (hl : l.length ≤ 1024) (hx : ∀ s ∈ l,1 ≤ s.length ∧ s.length ≤ 4) :
    ∃ c',Ret E n_Z68 [dLL l] ⟨o_Z68,(c',())⟩ ∧ Srt c' ∧ (∀ x,x ∈ c' ↔ ∃ s ∈ l,Fa x s) ∧ c'.length ≤ 41 * l.length := by
  have loop : ∀ d i (o : List Sim),i + d = l.length → Srt o → (∀ x,x ∈ o ↔ ∃ s ∈ l.take i,Fa x s) → o.length ≤ 41 * i →
      ∃ c',(Ev fun φ => Z68.l0 (mkR (run E (φ 0))) (φ 0) (φ 1) l (i : Int) o = some ⟨o_Z68,(c',())⟩) ∧ Srt c' ∧ (∀ x,x ∈ c' ↔ ∃ s ∈ l,Fa x s) ∧ c'.length ≤ 41 * l.length := by
    intro d
    induction d with
    | zero =>
      intro i o hi h1 h2 h3
      obtain rfl : i = l.length := by omega
      rw [List.take_length] at h2
      refine ⟨o,?_,h1,h2,h3⟩
      refine Ev.round 1 (L := fun φ n => Z68.l0 (mkR (run E (φ 0))) (φ 0) n l (l.length : Int) o) ?_ (fun _ _ _ => rfl)
      simp only [Z68.l0_succ _ mk_ok]
      exact ev_f (decide_eq_false (by omega)) ev_rfl
    | succ d ih =>
      intro i o hi h1 h2 h3
      have hil : i < l.length := by omega
      obtain ⟨g1,g2⟩ := hx _ (List.getElem_mem hil)
      have hadd : addN (l[i].length - 1) ≤ 41 := by
        have : l[i].length - 1 = 0 ∨ l[i].length - 1 = 1 ∨ l[i].length - 1 = 2 ∨ l[i].length - 1 = 3 := by omega
        rcases this with e | e | e | e <;> rw [e] <;> decide
      have hlen : ∀ x ∈ o,x.length ≤ 4 := fun x hx' => by
        obtain ⟨s,hs,hf⟩ := (h2 x).1 hx'
        have := (hx s (List.mem_of_mem_take hs)).2
        have := fa_len hf
        omega
      obtain ⟨o',hr,hs',hm',hl'⟩ := put_ret (l[i].length - 1) l[i] o (by omega) (by omega) (by omega) ⟨by show o.length ≤ 1048576; omega,fun x hx' => by have := hlen x hx'; exact ⟨by show x.length ≤ 1048576; omega,fun _ _ => trivial⟩⟩ h1 (fun y hy x hxy => by
        obtain ⟨s,hs,hf⟩ := (h2 y).1 hy
        exact (h2 x).2 ⟨s,hs,fa_trans hxy hf⟩)
      obtain ⟨c',hc1,hc2⟩ := ih (i + 1) o' (by omega) hs' (fun x => by
        rw [hm',h2,List.take_succ_eq_append_getElem hil]
        constructor
        · rintro (⟨s,hs,h⟩ | h)
          · exact ⟨s,List.mem_append.2 (.inl hs),h⟩
          · exact ⟨_,List.mem_append.2 (.inr (List.mem_singleton.2 rfl)),h⟩
        · rintro ⟨s,hs,h⟩
          rcases List.mem_append.1 hs with hs | hs
          · exact .inl ⟨s,hs,h⟩
          · rw [List.mem_singleton] at hs; subst hs; exact .inr h) (by omega)
      refine ⟨c',?_,hc2⟩
      refine Ev.round 1 (L := fun φ n => Z68.l0 (mkR (run E (φ 0))) (φ 0) n l (i : Int) o) ?_ (fun _ _ _ => rfl)
      simp only [Z68.l0_succ _ mk_ok]
      refine ev_t (decide_eq_true (by omega)) (ev_bind (idx_lt hil) (ev_call hr ?_))
      rw [w64_succ (by omega)]
      exact hc1
  obtain ⟨c',h1,h2⟩ := loop l.length 0 [] (by omega) (fun i j hj => by simp at hj) (fun x => by simp) (by simp)
  refine ⟨c',?_,h2⟩
  refine ret_of ?_
  simp only [run_Z68,Z68.ev]
  exact Ev.start (p := fun φ n => Z68.l0 (mkR (run E (φ 0))) (φ 0) n l 0 [] = _) 1 h1 (fun _ _ _ h => h)

end VeT

open Go Go.Proofs Ve
set_option linter.unusedVariables false
set_option linter.unusedSimpArgs false
namespace VeT

theorem Rises.lt {s : Sim} (h : Rises s) : ∀ {i j : Nat} (hj : j < s.length) (hij : i < j),s[i] < s[j] := by
  intro i j
  induction j with
  | zero => intro _ h; omega
  | succ j ih =>
    intro hj hij
    have := h (j + 1) (by omega) hj
    rw [Nat.add_sub_cancel,getD_lt (by omega),getD_lt hj] at this
    by_cases e : i = j
    · subst e; exact this
    · exact Int.lt_trans (ih (by omega) (by omega)) this

theorem sorted_eq : ∀ {a b : Sim},a.Pairwise (· < ·) → b.Pairwise (· < ·) → (∀ x,x ∈ a ↔ x ∈ b) → a = b
  | [],[],_,_,_ => rfl
  | [],y :: ys,_,_,h => absurd ((h y).2 List.mem_cons_self) (by simp)
  | x :: xs,[],_,_,h => absurd ((h x).1 List.mem_cons_self) (by simp)
  | x :: xs,y :: ys,ha,hb,h => by
    rw [List.pairwise_cons] at ha hb
    have exy : x = y := by
      have h1 := (h x).1 List.mem_cons_self
      have h2 := (h y).2 List.mem_cons_self
      rw [List.mem_cons] at h1 h2
      rcases h1 with h1 | h1
      · exact h1
      · rcases h2 with h2 | h2
        · exact h2.symm
        · have := hb.1 x h1
          have := ha.1 y h2
          omega
    subst exy
    congr 1
    refine sorted_eq ha.2 hb.2 fun z => ⟨fun hz => ?_,fun hz => ?_⟩
    · have := (h z).1 (List.mem_cons_of_mem _ hz)
      rw [List.mem_cons] at this
      rcases this with e | e
      · have := ha.1 z hz; omega
      · exact e
    · have := (h z).2 (List.mem_cons_of_mem _ hz)
      rw [List.mem_cons] at this
      rcases this with e | e
      · have := hb.1 z hz; omega
      · exact e

end VeT

open Go Go.Proofs Ve
set_option linter.unusedVariables false
set_option linter.unusedSimpArgs false
namespace VeT

/-! rising lists -/
def putR : List Int → Int → List Int
  | [],n => [n]
  | x :: r,n => if x < n then x :: putR r n else if n < x then n :: x :: r else x :: r

theorem putR_mem : ∀ {l : List Int} {n y : Int},y ∈ putR l n ↔ y = n ∨ y ∈ l
  | [],n,y => by simp [putR]
  | x :: r,n,y => by
    unfold putR
    split
    · rw [List.mem_cons,putR_mem,List.mem_cons]
      constructor
      · rintro (h | h | h)
        · exact .inr (.inl h)
        · exact .inl h
        · exact .inr (.inr h)
      · rintro (h | h | h)
        · exact .inr (.inl h)
        · exact .inl h
        · exact .inr (.inr h)
    · split
      · rw [List.mem_cons]
      · have : x = n := by omega
        subst this
        rw [List.mem_cons]
        exact ⟨fun h => .inr h,fun h => h.elim (fun h => .inl h) id⟩

theorem putR_rise : ∀ {l : List Int} {n : Int},l.Pairwise (· < ·) → (putR l n).Pairwise (· < ·)
  | [],n,_ => by simp [putR]
  | x :: r,n,h => by
    rw [List.pairwise_cons] at h
    unfold putR
    split
    · rw [List.pairwise_cons]
      refine ⟨fun y hy => ?_,putR_rise h.2⟩
      rcases putR_mem.1 hy with rfl | hy
      · assumption
      · exact h.1 y hy
    · split
      · rw [List.pairwise_cons]
        refine ⟨fun y hy => ?_,List.pairwise_cons.2 h⟩
        rcases List.mem_cons.1 hy with rfl | hy
        · assumption
        · have := h.1 y hy; omega
      · exact List.pairwise_cons.2 h

theorem putR_length : ∀ {l : List Int} {n : Int},(putR l n).length ≤ l.length + 1
  | [],n => by simp [putR]
  | x :: r,n => by
    unfold putR
    split
    · have := putR_length (l := r) (n := n); simp; exact this
    · split <;> simp

theorem putsR : ∀ {xs acc : List Int},acc.Pairwise (· < ·) → (xs.foldl putR acc).Pairwise (· < ·) ∧ ∀ y,y ∈ xs.foldl putR acc ↔ y ∈ acc ∨ y ∈ xs
  | [],acc,h => ⟨h,fun y => by simp⟩
  | x :: xs,acc,h => by
    obtain ⟨h1,h2⟩ := putsR (xs := xs) (putR_rise (n := x) h)
    refine ⟨h1,fun y => ?_⟩
    rw [List.foldl_cons,h2,putR_mem,List.mem_cons]
    constructor
    · rintro ((h | h) | h)
      · exact .inr (.inl h)
      · exact .inl h
      · exact .inr (.inr h)
    · rintro (h | h | h)
      · exact .inl (.inr h)
      · exact .inl (.inl h)
      · exact .inr h

theorem compF_rise : ∀ {xs acc : List Int},acc.Pairwise (· < ·) → (∀ a ∈ acc,∀ x ∈ xs,a ≤ x) → xs.Pairwise (· ≤ ·) → (xs.foldl compF acc).Pairwise (· < ·) ∧ ∀ y,y ∈ xs.foldl compF acc ↔ y ∈ acc ∨ y ∈ xs
  | [],acc,h,_,_ => ⟨h,fun y => by simp⟩
  | x :: xs,acc,h,hle,hx => by
    rw [List.pairwise_cons] at hx
    rw [List.foldl_cons]
    by_cases hl : acc.getLast? = some x
    · have e : compF acc x = acc := by unfold compF; rw [if_pos hl]
      rw [e]
      obtain ⟨h1,h2⟩ := compF_rise h (fun a ha y hy => hle a ha y (List.mem_cons_of_mem _ hy)) hx.2
      refine ⟨h1,fun y => ?_⟩
      rw [h2,List.mem_cons]
      have hm : x ∈ acc := List.mem_of_getLast? hl
      constructor
      · rintro (h | h)
        · exact .inl h
        · exact .inr (.inr h)
      · rintro (h | rfl | h)
        · exact .inl h
        · exact .inl hm
        · exact .inr h
    · have e : compF acc x = acc ++ [x] := by unfold compF; rw [if_neg hl]
      rw [e]
      have hlt : ∀ a ∈ acc,a < x := by
        rcases List.eq_nil_or_concat acc with rfl | ⟨i,l,rfl⟩
        · simp
        · rw [List.concat_eq_append] at *
          rw [List.getLast?_append] at hl
          have hl' : l ≠ x := by simpa using hl
          have hlx := hle l (by simp) x List.mem_cons_self
          intro a ha
          rw [List.mem_append] at ha
          rcases ha with ha | ha
          · have := (List.pairwise_append.1 h).2.2 a ha l (by simp)
            omega
          · have : a = l := by simpa using ha
            omega
      obtain ⟨h1,h2⟩ := compF_rise (xs := xs) (acc := acc ++ [x]) (List.pairwise_append.2 ⟨h,by simp,fun a ha b hb => by
          have : b = x := by simpa using hb
          subst this; exact hlt a ha⟩) (fun a ha y hy => by
        rw [List.mem_append] at ha
        rcases ha with ha | ha
        · exact hle a ha y (List.mem_cons_of_mem _ hy)
        · have : a = x := by simpa using ha
          subst this; exact hx.1 y hy) hx.2
      refine ⟨h1,fun y => ?_⟩
      rw [h2,List.mem_append,List.mem_cons (a := y) (b := x) (l := xs),List.mem_singleton]
      constructor
      · rintro ((h | h) | h)
        · exact .inl h
        · exact .inr (.inl h)
        · exact .inr (.inr h)
      · rintro (h | h | h)
        · exact .inl (.inl h)
        · exact .inl (.inr h)
        · exact .inr h

theorem sortI_le (xs : List Int) : (sortI xs).Pairwise (· ≤ ·) := by
  have := List.pairwise_mergeSort (le := fun x y : Int => decide (x ≤ y)) (fun a b c h1 h2 => by simp at *; omega) (fun a b => by simp; omega) xs
  exact this.imp fun h => by simpa using h

/-- sorting and leaving out what stands twice: putting one after another -/
theorem comp_sort (xs : List Int) : compI (sortI xs) = xs.foldl putR [] := by
  obtain ⟨h1,h2⟩ := compF_rise (xs := sortI xs) (acc := []) List.Pairwise.nil (by simp) (sortI_le xs)
  obtain ⟨h3,h4⟩ := putsR (xs := xs) (acc := []) List.Pairwise.nil
  refine sorted_eq h1 h3 fun y => ?_
  unfold compI
  rw [h2,h4]
  unfold sortI
  rw [List.mem_mergeSort]

theorem puts_length : ∀ {xs acc : List Int},(xs.foldl putR acc).length ≤ acc.length + xs.length
  | [],acc => by simp
  | x :: xs,acc => by
    have h1 := puts_length (xs := xs) (acc := putR acc x)
    have h2 := putR_length (l := acc) (n := x)
    rw [List.foldl_cons,List.length_cons]
    omega

theorem run_Sort (n : Nat) (args : List Dv) : run E (n + 1) n_Z60 args = pSortI (mkR (run E n)) args := rfl

theorem Sort_ret (s : Sim) (hs : s.length ≤ 1048576) : Ret E n_Z60 [dL s] ⟨o_Z60,(sortI s,())⟩ := by
  refine ret_of ?_
  simp only [run_Sort]
  refine ev_some ?_
  have hc : chk (decide (s.length ≤ 1048576)) = some () := by rw [decide_eq_true hs]; rfl
  show ((some s).bind fun xs => (chk (decide (List.length xs ≤ 1048576))).map fun _ => (⟨.cons tL .nil,(sortI xs,())⟩ : Dv)) = _
  simp only [Option.bind_some,hc]
  rfl

theorem run_Compact (n : Nat) (args : List Dv) : run E (n + 1) n_Z43 args = pCompI (mkR (run E n)) args := rfl

theorem Compact_ret (s : Sim) (hs : s.length ≤ 1048576) : Ret E n_Z43 [dL s] ⟨o_Z43,(compI s,())⟩ := by
  refine ret_of ?_
  simp only [run_Compact]
  refine ev_some ?_
  have hc : chk (decide (s.length ≤ 1048576)) = some () := by rw [decide_eq_true hs]; rfl
  show ((some s).bind fun xs => (chk (decide (List.length xs ≤ 1048576))).map fun _ => (⟨.cons tL .nil,(compI xs,())⟩ : Dv)) = _
  simp only [Option.bind_some,hc]
  rfl

/-! the vertices -/
def vxN (c : List Sim) : Nat → List Int
  | 0 => []
  | k + 1 => if (c.getD k []).length = 1 then vxN c k ++ [(c.getD k []).getD 0 0] else vxN c k

abbrev vxs (c : List Sim) : List Int := vxN c c.length

theorem vxN_mem {c : List Sim} : ∀ {k : Nat} {v : Int},v ∈ vxN c k ↔ ∃ j,j < k ∧ c.getD j [] = [v]
  | 0,v => by simp [vxN]
  | k + 1,v => by
    have key : (c.getD k []).length = 1 → ((c.getD k []).getD 0 0 = v ↔ c.getD k [] = [v]) := fun h => by
      obtain ⟨u,hu⟩ := List.length_eq_one_iff.1 h
      rw [hu]; simp
    unfold vxN
    split
    · rename_i h1
      rw [List.mem_append,vxN_mem,List.mem_singleton]
      constructor
      · rintro (⟨j,h,e⟩ | h)
        · exact ⟨j,by omega,e⟩
        · exact ⟨k,by omega,(key h1).1 h.symm⟩
      · rintro ⟨j,h,e⟩
        by_cases hj : j = k
        · subst hj; exact .inr ((key h1).2 e).symm
        · exact .inl ⟨j,by omega,e⟩
    · rename_i h1
      rw [vxN_mem]
      constructor
      · rintro ⟨j,h,e⟩; exact ⟨j,by omega,e⟩
      · rintro ⟨j,h,e⟩
        by_cases hj : j = k
        · subst hj; rw [e] at h1; simp at h1
        · exact ⟨j,by omega,e⟩

theorem vxs_mem {c : List Sim} {v : Int} : v ∈ vxs c ↔ [v] ∈ c := by
  rw [vxN_mem,List.mem_iff_getElem]
  constructor
  · rintro ⟨j,h,e⟩; exact ⟨j,h,by rw [← e,getD_lt h]⟩
  · rintro ⟨j,h,e⟩; exact ⟨j,h,by rw [← e,getD_lt h]⟩

theorem vxN_length {c : List Sim} : ∀ {k : Nat},(vxN c k).length ≤ k
  | 0 => by simp [vxN]
  | k + 1 => by
    have := vxN_length (c := c) (k := k)
    unfold vxN
    split
    · simp; exact this
    · omega

theorem vxN_rise {c : List Sim} (h : Srt c) : ∀ {k : Nat},k ≤ c.length → (vxN c k).Pairwise (· < ·)
  | 0,_ => by simp [vxN]
  | k + 1,hk => by
    have ih := vxN_rise h (k := k) (by omega)
    unfold vxN
    split
    · rename_i h1
      refine List.pairwise_append.2 ⟨ih,by simp,fun a ha b hb => ?_⟩
      obtain ⟨j,hj,e⟩ := vxN_mem.1 ha
      have hb : b = (c.getD k []).getD 0 0 := by simpa using hb
      obtain ⟨u,hu⟩ := List.length_eq_one_iff.1 h1
      rw [hu] at hb
      have hb : b = u := by simpa using hb
      subst hb
      have := h j k (by omega) hj
      rw [getD_lt (by omega)] at e hu
      rw [e,hu] at this
      have h3 : cmpS [a] [b] = if a < b then -1 else if b < a then 1 else 0 := by
        simp [cmpS,cmp3,lexc]
      rw [h3] at this
      split at this
      · assumption
      · split at this <;> omega
    · exact ih

theorem verticesOf_ret (c : List Sim) (hc : Sm (.sl (.sl (.int .i64))) c) : Ret E n_Z21 [dLL c] ⟨o_Z21,(vxs c,())⟩ := by
  have hc1 : c.length ≤ 1048576 := hc.1
  refine ret_of ?_
  simp only [run_Z21,Z21.ev]
  refine Ev.start (p := fun φ n => Z21.l0 (mkR (run E (φ 0))) (φ 0) n c (c.length : Int) 0 [] = _) 1 ?_ (fun _ _ _ h => h)
  refine fold_loop 1 (L := fun φ n k a => Z21.l0 (mkR (run E (φ 0))) (φ 0) n c (c.length : Int) k a) (len := c.length) (fun k => vxN c k) (fun _ _ _ _ _ => rfl) (fun k r hk ih => ?_) ?_
  · simp only [Z21.l0_succ _ mk_ok]
    rw [w64_succ (by omega)]
    refine ev_t (decide_eq_true (by omega)) (ev_bind (idx_lt hk) ?_)
    have hl := vxN_length (c := c) (k := k)
    rw [vxN,getD_lt hk] at ih
    by_cases h1 : (c[k]).length = 1
    · rw [if_pos h1,getD_lt (by omega)] at ih
      refine ev_t (by simp [h1]) (ev_bind (idx_lt (k := 0) (by show 0 < (c[k]).length; omega)) (ev_chk (by simp; omega) ?_))
      exact ih
    · rw [if_neg h1] at ih
      exact ev_f (by simp; omega) ih
  · simp only [Z21.l0_succ _ mk_ok]
    exact ev_f (decide_eq_false (by omega)) ev_rfl

theorem l08Vertices_ret (c : Cpx) (hc : Sm (.sl (.sl (.int .i64))) c.1) : Ret E n_Z80 [dC c] ⟨o_Z80,(vxs c.1,())⟩ := by
  have hc1 : c.1.length ≤ 1048576 := hc.1
  refine ret_of ?_
  simp only [run_Z80,Z80.ev]
  refine Ev.start (p := fun φ n => Z80.l0 (mkR (run E (φ 0))) (φ 0) n c 0 [] = _) 1 ?_ (fun _ _ _ h => h)
  refine fold_loop 1 (L := fun φ n k a => Z80.l0 (mkR (run E (φ 0))) (φ 0) n c k a) (len := c.1.length) (fun k => vxN c.1 k) (fun _ _ _ _ _ => rfl) (fun k r hk ih => ?_) ?_
  · simp only [Z80.l0_succ _ mk_ok]
    rw [w64_succ (by omega)]
    refine ev_t (decide_eq_true (by omega)) (ev_bind (idx_lt hk) ?_)
    have hl := vxN_length (c := c.1) (k := k)
    rw [vxN,getD_lt hk] at ih
    by_cases h1 : (c.1[k]).length = 1
    · rw [if_pos h1,getD_lt (by omega)] at ih
      refine ev_t (by simp [h1]) (ev_bind (idx_lt hk) (ev_bind (idx_lt (k := 0) (by show 0 < (c.1[k]).length; omega)) (ev_chk (by simp; omega) ?_)))
      exact ih
    · rw [if_neg h1] at ih
      exact ev_f (by simp; omega) ih
  · simp only [Z80.l0_succ _ mk_ok]
    exact ev_f (decide_eq_false (by omega)) ev_rfl

theorem vert_mem {c : List Sim} (h : VC c) : ∀ (n : Nat) {s : Sim},s ∈ c → s.length = n + 1 → ∀ x ∈ s,[x] ∈ c
  | 0,s,hs,hl,x,hx => by
    obtain ⟨u,rfl⟩ := List.length_eq_one_iff.1 hl
    have : x = u := by simpa using hx
    subst this; exact hs
  | n + 1,s,hs,hl,x,hx => by
    obtain ⟨j,hj,rfl⟩ := List.mem_iff_getElem.1 hx
    obtain ⟨k,hk,hks⟩ := List.mem_iff_getElem.1 hs
    obtain ⟨i,hi,hij⟩ : ∃ i,i < s.length ∧ i ≠ j := by
      by_cases h0 : j = 0
      · exact ⟨1,by omega,by omega⟩
      · exact ⟨0,by omega,by omega⟩
    have hf : s.eraseIdx i ∈ c := h.2.2.2 k hk _ (by rw [getD_lt hk,hks]; exact faces_mem.2 ⟨by omega,i,hi,rfl⟩)
    refine vert_mem h n hf (by rw [List.length_eraseIdx,if_pos hi]; omega) _ ?_
    rw [List.mem_eraseIdx_iff_getElem]
    exact ⟨j,hj,fun e => hij e.symm,rfl⟩

theorem VC.vert {c : List Sim} (h : VC c) {s : Sim} (hs : s ∈ c) {x : Int} (hx : x ∈ s) : x ∈ vxs c := by
  have hl : 0 < s.length := List.length_pos_of_mem hx
  exact vxs_mem.2 (vert_mem h (s.length - 1) hs (by omega) x hx)

theorem VC.get {c : List Sim} (h : VC c) {s : Sim} (hs : s ∈ c) : Vx s := by
  obtain ⟨k,hk,rfl⟩ := List.mem_iff_getElem.1 hs
  have := h.2.1 k hk
  rwa [getD_lt hk] at this

/-! what is told -/
noncomputable def told (vs im : List Int) (v : Int) : Int := match vs.findIdx? (fun x => pb (x = v)) with
  | some i => im.getD i (-1)
  | none => -1

theorem told_of {vs im : List Int} {v : Int} (hv : v ∈ vs) (hl : im.length = vs.length) : ∃ i,∃ h : i < vs.length,∃ h' : i < im.length,vs[i] = v ∧ (∀ j (hj : j < i),vs[j] ≠ v) ∧ told vs im v = im[i] ∧ idxf (fun x => pb (x = v)) vs = (i : Int) := by
  unfold told idxf
  cases h : vs.findIdx? (fun x => pb (x = v)) with
  | none =>
    rw [List.findIdx?_eq_none_iff] at h
    have := h v hv
    rw [pb_true rfl] at this; cases this
  | some i =>
    rw [List.findIdx?_eq_some_iff_getElem] at h
    obtain ⟨h1,h2,h3⟩ := h
    refine ⟨i,h1,by omega,pb_iff.1 h2,fun j hj e => h3 j hj (pb_true e),?_,rfl⟩
    exact getD_lt (by omega)

noncomputable def img (vs im s : List Int) : List Int := (s.map (told vs im)).foldl putR []

theorem img_mem {vs im s : List Int} {y : Int} : y ∈ img vs im s ↔ ∃ x ∈ s,told vs im x = y := by
  unfold img
  rw [(putsR (xs := s.map (told vs im)) (acc := []) List.Pairwise.nil).2]
  simp

theorem img_rise (vs im s : List Int) : (img vs im s).Pairwise (· < ·) := (putsR (xs := s.map (told vs im)) (acc := []) List.Pairwise.nil).1
theorem img_length (vs im s : List Int) : (img vs im s).length ≤ s.length := by
  have := puts_length (xs := s.map (told vs im)) (acc := [])
  simpa [img] using this

theorem imageOf_ret (c : List Sim) (im s : Sim) (hc : Sm (.sl (.sl (.int .i64))) c) (hl : im.length = (vxs c).length) (hs : ∀ x ∈ s,x ∈ vxs c) (hs1 : s.length ≤ 1048576) :
    Ret E n_Z13 [dLL c,dL im,dL s] ⟨o_Z13,(img (vxs c) im s,())⟩ := by
  have hvl := vxN_length (c := c) (k := c.length)
  have hc1 : c.length ≤ 1048576 := hc.1
  refine ret_of ?_
  simp only [run_Z13,Z13.ev]
  refine ev_call (verticesOf_ret c hc) ?_
  refine Ev.start (p := fun φ n => Z13.l0 (mkR (run E (φ 0))) (φ 0) n im (vxs c) s (s.length : Int) 0 [] = _) 1 ?_ (fun _ _ _ h => h)
  refine fold_loop 1 (L := fun φ n k a => Z13.l0 (mkR (run E (φ 0))) (φ 0) n im (vxs c) s (s.length : Int) k a) (len := s.length) (fun k => (s.take k).map (told (vxs c) im)) (fun _ _ _ _ _ => rfl) (fun k r hk ih => ?_) ?_
  · simp only [Z13.l0_succ _ mk_ok]
    rw [w64_succ (by omega)]
    obtain ⟨i,h1,h2,h3,h4,h5,h6⟩ := told_of (im := im) (hs s[k] (List.getElem_mem hk)) hl
    have hix := Index_ret (vxs c) s[k] (Nat.le_trans hvl hc1)
    rw [h6] at hix
    refine ev_t (decide_eq_true (by omega)) (ev_bind (idx_lt hk) (ev_call hix (ev_bind (idx_lt h2) (ev_chk (by simp; omega) ?_))))
    rw [List.take_succ_eq_append_getElem hk,List.map_append,List.map_singleton,h5] at ih
    exact ih
  · simp only [Z13.l0_succ _ mk_ok]
    rw [List.take_of_length_le (Nat.le_refl _)]
    have hsl : (sortI (s.map (told (vxs c) im))).length ≤ 1048576 := by unfold sortI; rw [List.length_mergeSort,List.length_map]; exact hs1
    refine ev_f (decide_eq_false (by omega)) (ev_call (Sort_ret _ (by rw [List.length_map]; exact hs1)) (ev_call (Compact_ret _ hsl) (ev_some ?_)))
    rw [comp_sort]; rfl

theorem l00Put_ret (l : Sim) (n : Int) (hl : l.length ≤ 1048576) : Ret E n_Z64 [dL l,dI n] ⟨o_Z64,(putR l n,())⟩ := by
  refine ret_of ?_
  simp only [run_Z64,Z64.ev]
  refine Ev.start (p := fun φ N => Z64.l0 (mkR (run E (φ 0))) (φ 0) N l n false 0 [] = _) 1 ?_ (fun _ _ _ h => h)
  refine (loopR 1 (σ := Bool × Nat × List Int) (L := fun φ N st => Z64.l0 (mkR (run E (φ 0))) (φ 0) N l n st.1 (st.2.1 : Int) st.2.2) (fun _ _ _ _ => rfl) (fun st => st.2.1 ≤ l.length ∧ st.2.2.length ≤ st.2.1 + (bif st.1 then 1 else 0))
    (fun st => some ⟨o_Z64,(st.2.2 ++ (bif st.1 then l.drop st.2.1 else putR (l.drop st.2.1) n),())⟩) (fun st => l.length - st.2.1) (fun st hi ih => ?_) (false,0,[]) ⟨Nat.zero_le _,Nat.zero_le _⟩).to (by simp only [List.nil_append,cond_false,List.drop_zero])
  obtain ⟨d,i,o⟩ := st
  obtain ⟨h1,h2⟩ := hi
  simp only at h1 h2 ih ⊢
  by_cases hlt : i < l.length
  · have ol : o.length ≤ i + 1 := by cases d <;> simp at h2 <;> omega
    have hd : l.drop i = l[i] :: l.drop (i + 1) := List.drop_eq_getElem_cons hlt
    -- what follows
    have step : ∀ (d' : Bool) (o' X : List Int),o'.length ≤ i + (bif d' then 1 else 0) → (o' ++ [l[i]]) ++ (bif d' then l.drop (i + 1) else putR (l.drop (i + 1)) n) = X →
        Ev fun φ => Z64.j2 (mkR (run E (φ 0))) (φ 0) (φ 1) l n d' (i : Int) o' = some ⟨o_Z64,(X,())⟩ := fun d' o' X hol hX => by
      have ho2 : o'.length ≤ i + 1 := by cases d' <;> simp at hol <;> omega
      have := ih (d',i + 1,o' ++ [l[i]]) ⟨by show i + 1 ≤ _; omega,by
        simp only [List.length_append,List.length_singleton]
        cases d' <;> simp at hol ⊢ <;> omega⟩ (by simp only; omega)
      simp only at this
      rw [hX] at this
      simp only [Z64.j2_eq _ mk_ok]
      rw [w64_succ (by omega)]
      exact ev_bind (idx_lt hlt) (ev_chk (by simp; omega) this)
    simp only [Z64.l0_succ _ mk_ok]
    refine ev_t (decide_eq_true (by omega)) ?_
    cases d with
    | true =>
      refine ev_f rfl ?_
      have e : o ++ List.drop i l = (o ++ [l[i]]) ++ l.drop (i + 1) := by rw [hd]; simp
      simp only [cond_true] at h2 ⊢
      rw [e]
      simp only [Z64.j1_eq _ mk_ok]
      refine ev_f rfl ?_
      exact step true o _ h2 (by simp only [cond_true])
    | false =>
      refine ev_t rfl (ev_bind (idx_lt hlt) ?_)
      simp only [cond_false,Nat.add_zero] at h2 ⊢
      simp only [Z64.j1_eq _ mk_ok]
      refine ev_d (fun hge => ?_) fun hge => ?_
      · have hge : l[i] ≥ n := hge
        refine ev_bind (idx_lt hlt) (ev_d (fun hgt => ?_) fun hgt => ?_)
        · have e : o ++ putR (List.drop i l) n = ((o ++ [n]) ++ [l[i]]) ++ l.drop (i + 1) := by
            rw [hd,putR,if_neg (by omega),if_pos (show n < l[i] from hgt)]; simp
          rw [e]
          exact ev_chk (by simp; omega) (step true (o ++ [n]) _ (by simp; omega) (by simp only [cond_true]))
        · have hgt : ¬ l[i] > n := hgt
          have e : o ++ putR (List.drop i l) n = (o ++ [l[i]]) ++ l.drop (i + 1) := by
            rw [hd,putR,if_neg (by omega),if_neg (by omega)]; simp
          rw [e]
          exact step true o _ (by simp; omega) (by simp only [cond_true])
      · have hge : ¬ l[i] ≥ n := hge
        have e : o ++ putR (List.drop i l) n = (o ++ [l[i]]) ++ putR (l.drop (i + 1)) n := by
          rw [hd,putR,if_pos (by omega)]; simp
        rw [e]
        exact step false o _ (by simp; omega) (by simp only [cond_false])
  · have hi : i = l.length := by omega
    subst hi
    simp only [Z64.l0_succ _ mk_ok,List.drop_length]
    refine ev_f (decide_eq_false (by omega)) ?_
    cases d with
    | true => exact ev_f rfl (ev_some (by simp only [cond_true,List.append_nil]))
    | false =>
      simp only [cond_false,Nat.add_zero] at h2 ⊢
      exact ev_t rfl (ev_chk (by simp; omega) ev_rfl)

theorem o2i_inj {a b : Option Nat} (h : o2i a = o2i b) : a = b := by
  cases a <;> cases b <;> simp [o2i] at h ⊢ <;> omega

theorem l08Told_ret (vs im : Sim) (v : Int) (hl : im.length = vs.length) (h1 : vs.length ≤ 1048576) : Ret E n_Z79 [dL vs,dL im,dI v] ⟨o_Z79,(told vs im v,())⟩ := by
  obtain ⟨o,h1,h2,h3⟩ := find_loop 1 (L := fun φ n k => Z79.l0 (mkR (run E (φ 0))) (φ 0) n vs im v k) (len := im.length) (fun k => ∃ h : k < vs.length,pb (vs[k] = v) = true) (fun o => some ⟨o_Z79,((match o with | some i => im.getD i (-1) | none => -1),())⟩) (fun _ _ _ _ => rfl) (fun k hk hP => by
      obtain ⟨h,hP⟩ := hP
      simp only [Z79.l0_succ _ mk_ok]
      refine ev_t (decide_eq_true (by omega)) (ev_bind (idx_lt h) (ev_t (by simpa using pb_iff.1 hP) (ev_bind (idx_lt hk) (ev_some ?_))))
      rw [getD_lt hk]) (fun k q hk hP ih => by
      have h : k < vs.length := by omega
      simp only [Z79.l0_succ _ mk_ok]
      refine ev_t (decide_eq_true (by omega)) (ev_bind (idx_lt h) (ev_f ?_ ?_))
      · have : ¬ vs[k] = v := fun e => hP ⟨h,pb_true e⟩
        simpa using this
      · rw [w64_succ (by omega)]; exact ih) (by
      simp only [Z79.l0_succ _ mk_ok]
      exact ev_f (decide_eq_false (by omega)) ev_rfl)
  rw [hl] at h1 h2
  have e : vs.findIdx? (fun x => pb (x = v)) = o := o2i_inj (idxf_of (p := fun x => pb (x = v)) h1 h2).symm
  refine ret_of ?_
  simp only [run_Z79,Z79.ev]
  unfold told
  rw [e]
  exact Ev.start (p := fun φ n => Z79.l0 (mkR (run E (φ 0))) (φ 0) n vs im v 0 = _) 1 h3 (fun _ _ _ h => h)

theorem l08Image_ret (vs im s : Sim) (hl : im.length = vs.length) (h1 : vs.length ≤ 1048576) (hs : ∀ x ∈ s,x ∈ vs) (hp : ∀ x ∈ im,0 ≤ x) (hs1 : s.length ≤ 1048576) :
    Ret E n_Z77 [dL vs,dL im,dL s] ⟨o_Z77,(img vs im s,true,())⟩ := by
  refine ret_of ?_
  simp only [run_Z77,Z77.ev]
  refine Ev.start (p := fun φ n => Z77.l0 (mkR (run E (φ 0))) (φ 0) n vs im s [] 0 = _) 1 ?_ (fun _ _ _ h => h)
  refine fold_loop 1 (L := fun φ n k a => Z77.l0 (mkR (run E (φ 0))) (φ 0) n vs im s a k) (len := s.length) (fun k => img vs im (s.take k)) (fun _ _ _ _ _ => rfl) (fun k r hk ih => ?_) ?_
  · simp only [Z77.l0_succ _ mk_ok]
    rw [w64_succ (by omega)]
    obtain ⟨i,h1',h2,h3,h4,h5,h6⟩ := told_of (im := im) (hs s[k] (List.getElem_mem hk)) hl
    have hpos : 0 ≤ told vs im s[k] := by rw [h5]; exact hp _ (List.getElem_mem h2)
    have hil := img_length vs im (s.take k)
    rw [List.length_take] at hil
    refine ev_t (decide_eq_true (by omega)) (ev_bind (idx_lt hk) (ev_call (l08Told_ret vs im s[k] hl h1) (ev_f (decide_eq_false (by show ¬ told vs im s[k] < 0; omega)) (ev_call (l00Put_ret _ _ (by omega)) ?_))))
    have e : img vs im (s.take (k + 1)) = putR (img vs im (s.take k)) (told vs im s[k]) := by
      unfold img
      rw [List.take_succ_eq_append_getElem hk,List.map_append,List.foldl_append]; rfl
    rw [e] at ih
    exact ih
  · simp only [Z77.l0_succ _ mk_ok]
    rw [List.take_of_length_le (Nat.le_refl _)]
    exact ev_f (decide_eq_false (by omega)) ev_rfl

end VeT

open Go Go.Proofs Ve
set_option linter.unusedVariables false
set_option linter.unusedSimpArgs false
namespace VeT

end VeT

open Go Go.Proofs Ve
set_option linter.unusedVariables false
set_option linter.unusedSimpArgs false
namespace VeT

/-- the list is a map of valid complexes -/
def Mp (a b : List Sim) (im : Sim) : Prop := im.length = (vxs a).length ∧ ∀ s ∈ a,img (vxs a) im s ∈ b

theorem sm_mem {t : Ty} {s : List t.T} (h : Sm (.sl t) s) {x : t.T} (hx : x ∈ s) : Sm t x := h.2 x hx

theorem told_at {vs im : List Int} (hr : vs.Pairwise (· < ·)) (hl : im.length = vs.length) {i : Nat} (hi : i < vs.length) : told vs im vs[i] = im[i]'(by omega) := by
  obtain ⟨j,h1,h2,h3,h4,h5,_⟩ := told_of (im := im) (List.getElem_mem hi) hl
  rw [List.pairwise_iff_getElem] at hr
  have : j = i := by
    rcases Nat.lt_trichotomy j i with h | h | h
    · have := hr j i h1 hi h; omega
    · exact h
    · have := hr i j hi h1 h; omega
  subst this
  exact h5

theorem img_one {vs im : List Int} {v : Int} : img vs im [v] = [told vs im v] := rfl

theorem Mp.vert {a b : List Sim} {im : Sim} (ha : VC a) (h : Mp a b im) : ∀ x ∈ im,[x] ∈ b := by
  intro x hx
  obtain ⟨i,hi,rfl⟩ := List.mem_iff_getElem.1 hx
  have hi' : i < (vxs a).length := by rw [← h.1]; exact hi
  have hv := vxs_mem.1 (List.getElem_mem hi')
  have := h.2 _ hv
  rw [img_one,told_at (vxN_rise ha.srt (Nat.le_refl _)) h.1 hi'] at this
  exact this

theorem Mp.range {a b : List Sim} {im : Sim} (ha : VC a) (hb : VC b) (h : Mp a b im) : ∀ x ∈ im,0 ≤ x ∧ x ≤ 9 := fun x hx =>
  (hb.get (h.vert ha x hx)).2.2.2 x (List.mem_singleton_self _)

theorem isMap_1_ret (a b : List Sim) (im s : Sim) (ha : VC a) (hb : VC b) (sa : Sm (.sl (.sl (.int .i64))) a) (sb : Sm (.sl (.sl (.int .i64))) b) (hl : im.length = (vxs a).length) (hs : s ∈ a) :
    Ret E n_Z17 [dL s,dC (b,()),dC (a,()),⟨.ptr (.cons (.sl (.int .i64)) .nil),(im,())⟩] ⟨o_Z17,(pb (¬ img (vxs a) im s ∈ b),())⟩ := by
  refine ret_of ?_
  simp only [run_Z17,Z17.ev]
  refine ev_call (imageOf_ret a im s sa hl (fun x hx => ha.vert hs hx) (sm_mem sa hs).1) (ev_call (indexOf_ret b _ sb hb.srt) (ev_some ?_))
  simp only [pb_dec,pb_congr (show findI b (img (vxs a) im s) < 0 ↔ ¬ img (vxs a) im s ∈ b by rw [← findI_nonneg]; omega)]

theorem isMap_ret (a b : List Sim) (im : Sim) (ha : VC a) (hb : VC b) (sa : Sm (.sl (.sl (.int .i64))) a) (sb : Sm (.sl (.sl (.int .i64))) b) :
    Ret E n_Z16 [dLL a,dLL b,dL im] ⟨o_Z16,(pb (Mp a b im),())⟩ := by
  refine ret_of ?_
  simp only [run_Z16,Z16.ev]
  refine ev_call (verticesOf_ret a sa) (ev_b (fun h => ev_some ?_) fun h => ?_)
  · have h : (im.length : Int) ≠ (vxs a).length := by simpa using h
    rw [pb_false fun hm => h (by rw [hm.1])]
  · have h : (im.length : Int) = (vxs a).length := by simpa using h
    have hl : im.length = (vxs a).length := by omega
    refine ev_call (ContainsFunc_SSint64_Sint64_impl_isMap_1_ret a ((b,()),(a,()),(im,()),()) _ sa.1 fun s hs => isMap_1_ret a b im s ha hb sa sb hl hs) (ev_some ?_)
    have : (!pb (∃ x ∈ a,pb (¬ img (vxs a) im x ∈ b) = true)) = pb (Mp a b im) := eq_pb (by
      simp only [Bool.not_eq_true',pb_not,pb_iff]
      exact ⟨fun hn => ⟨hl,fun s hs => Classical.byContradiction fun hb => hn ⟨s,hs,hb⟩⟩,fun hm ⟨s,hs,hb⟩ => hb (hm.2 s hs)⟩)
    rw [this]

theorem l08Fits_ret (a b : Cpx) (vs im : Sim) (sa : Sm (.sl (.sl (.int .i64))) a.1) (sb : Sm (.sl (.sl (.int .i64))) b.1) (hl : im.length = vs.length) (h1 : vs.length ≤ 1048576) (hs : ∀ s ∈ a.1,∀ x ∈ s,x ∈ vs) (hp : ∀ x ∈ im,0 ≤ x) :
    Ret E n_Z76 [dC a,dC b,dL vs,dL im] ⟨o_Z76,(pb (∀ s ∈ a.1,img vs im s ∈ b.1),())⟩ := by
  have sa1 : a.1.length ≤ 1048576 := sa.1
  refine ret_of ?_
  simp only [run_Z76,Z76.ev]
  refine Ev.start (p := fun φ n => Z76.l0 (mkR (run E (φ 0))) (φ 0) n a b vs im 0 = _) 1 ?_ (fun _ _ _ h => h)
  refine (all_pb 1 (L := fun φ n k => Z76.l0 (mkR (run E (φ 0))) (φ 0) n a b vs im k) (len := a.1.length) 0 (by omega) (fun j => img vs im (a.1.getD j []) ∈ b.1) (fun b => some ⟨o_Z76,(b,())⟩) (fun _ _ _ _ => rfl) (fun k _ hk hP _ => ?_) (fun k r _ hk hP _ ih => ?_) (fun _ => ?_)).to ?_
  · simp only [Z76.l0_succ _ mk_ok]
    rw [getD_lt hk] at hP
    refine ev_t (decide_eq_true (by omega)) (ev_bind (idx_lt hk) (ev_call (l08Image_ret vs im _ hl h1 (hs _ (List.getElem_mem hk)) hp (sm_get sa hk).1) (ev_t rfl (ev_call (l05Find_ret b _ sb) ?_))))
    simp only [Z76.j1_eq _ mk_ok]
    exact ev_t (decide_eq_true (Int.not_le.1 (mt (findI_nonneg (c := b.1) (s := img vs im a.1[k])).1 hP))) ev_rfl
  · simp only [Z76.l0_succ _ mk_ok]
    rw [getD_lt hk] at hP
    refine ev_t (decide_eq_true (by omega)) (ev_bind (idx_lt hk) (ev_call (l08Image_ret vs im _ hl h1 (hs _ (List.getElem_mem hk)) hp (sm_get sa hk).1) (ev_t rfl (ev_call (l05Find_ret b _ sb) ?_))))
    simp only [Z76.j1_eq _ mk_ok]
    refine ev_f (decide_eq_false (Int.not_lt.2 ((findI_nonneg (c := b.1) (s := img vs im a.1[k])).2 hP))) ?_
    rw [w64_succ (by omega)]; exact ih
  · simp only [Z76.l0_succ _ mk_ok]
    exact ev_f (decide_eq_false (by omega)) ev_rfl
  · refine congrArg (fun b : Bool => some (⟨o_Z76,(b,())⟩ : Dv)) (pb_congr ⟨fun h s hs => ?_,fun h j _ hj => ?_⟩)
    · obtain ⟨j,hj,rfl⟩ := List.mem_iff_getElem.1 hs
      have := h j (by omega) hj
      rwa [getD_lt hj] at this
    · rw [getD_lt hj]; exact h _ (List.getElem_mem hj)

theorem l08Map_ret (a b : Cpx) (im : Sim) (ha : VC a.1) (hb : VC b.1) (sa : Sm (.sl (.sl (.int .i64))) a.1) (sb : Sm (.sl (.sl (.int .i64))) b.1) (si : im.length ≤ 1048576) :
    Ret E n_Z78 [dC a,dC b,dL im] ⟨o_Z78,(pb (Mp a.1 b.1 im),())⟩ := by
  have hvl := vxN_length (c := a.1) (k := a.1.length)
  have sa1 : a.1.length ≤ 1048576 := sa.1
  refine ret_of ?_
  simp only [run_Z78,Z78.ev]
  refine ev_call (l08Vertices_ret a sa) ?_
  refine Ev.start (p := fun φ n => Z78.l0 (mkR (run E (φ 0))) (φ 0) n a b im (vxs a.1) 0 = _) 1 ?_ (fun _ _ _ h => h)
  obtain ⟨h1,h2⟩ := all_loop 1 (L := fun φ n k => Z78.l0 (mkR (run E (φ 0))) (φ 0) n a b im (vxs a.1) k) (len := im.length) 0 (by omega) (fun j => 0 ≤ im.getD j 0 ∧ im.getD j 0 ≤ 9) (rt := some ⟨o_Z78,(pb (Mp a.1 b.1 im),())⟩) (rf := some ⟨o_Z78,(false,())⟩) (fun _ _ _ _ => rfl) (fun k _ hk hP _ => by
      simp only [Z78.l0_succ _ mk_ok]
      rw [getD_lt hk] at hP
      exact ev_t (decide_eq_true (by omega)) (ev_bind (idx_lt hk) (ev_call (l00In_ret _ _ _) (ev_t (by rw [pb_false hP]; rfl) ev_rfl)))) (fun k r _ hk hP _ ih => by
      simp only [Z78.l0_succ _ mk_ok]
      rw [getD_lt hk] at hP
      refine ev_t (decide_eq_true (by omega)) (ev_bind (idx_lt hk) (ev_call (l00In_ret _ _ _) (ev_f (by rw [pb_true hP]; rfl) ?_)))
      rw [w64_succ (by omega)]; exact ih) (fun hall => by
      simp only [Z78.l0_succ _ mk_ok]
      refine ev_f (decide_eq_false (by omega)) (ev_b (fun h => ?_) fun h => ev_some ?_)
      · have h : (im.length : Int) = (vxs a.1).length := by simpa using h
        have hl : im.length = (vxs a.1).length := by omega
        refine ev_call (l08Fits_ret a b (vxs a.1) im sa sb hl (by omega) (fun s hs x hx => ha.vert hs hx) fun x hx => ?_) (ev_some ?_)
        · obtain ⟨j,hj,rfl⟩ := List.mem_iff_getElem.1 hx
          have := (hall j (by omega) hj).1
          rwa [getD_lt hj] at this
        · rw [pb_congr (show (∀ s ∈ a.1,img (vxs a.1) im s ∈ b.1) ↔ Mp a.1 b.1 im from ⟨fun h => ⟨hl,h⟩,fun h => h.2⟩)]
      · have h : (im.length : Int) ≠ (vxs a.1).length := by simpa using h
        rw [pb_false fun hm => h (by rw [hm.1])])
  by_cases hall : ∀ j,0 ≤ j → j < im.length → 0 ≤ im.getD j 0 ∧ im.getD j 0 ≤ 9
  · exact h1 hall
  · rw [pb_false fun hm => hall fun j _ hj => by rw [getD_lt hj]; exact hm.range ha hb _ (List.getElem_mem hj)]
    exact h2 hall

open Classical in
/-- the code of two complexes and a map -/
noncomputable def MC (a b : List Sim) (im : Sim) : Int := if VC a ∧ VC b then (if Mp a b im then 0 else 7) else 1

theorem MC_zero {a b : List Sim} {im : Sim} : MC a b im = 0 ↔ (VC a ∧ VC b) ∧ Mp a b im := by
  unfold MC
  by_cases h : VC a ∧ VC b
  · rw [if_pos h]
    by_cases hm : Mp a b im
    · rw [if_pos hm]
      exact ⟨fun _ => ⟨h,hm⟩,fun _ => rfl⟩
    · rw [if_neg hm]
      exact ⟨fun e => absurd e (by decide),fun e => absurd e.2 hm⟩
  · rw [if_neg h]
    exact ⟨fun e => absurd e (by decide),fun e => absurd e.1 h⟩

theorem mapped_ret (a b : List Sim) (im : Sim) (sa : Sm (.sl (.sl (.int .i64))) a) (sb : Sm (.sl (.sl (.int .i64))) b) : Ret E n_Z20 [dLL a,dLL b,dL im] ⟨o_Z20,(MC a b im,())⟩ := by
  refine ret_of ?_
  simp only [run_Z20,Z20.ev]
  refine ev_call (ValidComplex_ret a sa) ?_
  by_cases ha : VC a
  · refine ev_f (by rw [pb_true ha]; rfl) (ev_call (ValidComplex_ret b sb) ?_)
    simp only [Z20.j0_eq _ mk_ok]
    by_cases hb : VC b
    · refine ev_f (by rw [pb_true hb]; rfl) (ev_call (isMap_ret a b im ha hb sa sb) ?_)
      unfold MC
      rw [if_pos ⟨ha,hb⟩]
      by_cases hm : Mp a b im
      · rw [if_pos hm]
        exact ev_f (by rw [pb_true hm]; rfl) ev_rfl
      · rw [if_neg hm]
        exact ev_t (by rw [pb_false hm]; rfl) ev_rfl
    · unfold MC
      rw [if_neg fun h => hb h.2]
      exact ev_t (by rw [pb_false hb]; rfl) ev_rfl
  · unfold MC
    rw [if_neg fun h => ha h.1]
    refine ev_t (by rw [pb_false ha]; rfl) ?_
    simp only [Z20.j0_eq _ mk_ok]
    exact ev_t rfl ev_rfl

theorem l08Ask_ret (a b : Cpx) (im : Sim) (sa : Sm (.sl (.sl (.int .i64))) a.1) (sb : Sm (.sl (.sl (.int .i64))) b.1) (si : im.length ≤ 1048576) : Ret E n_Z74 [dC a,dC b,dL im] ⟨o_Z74,(MC a.1 b.1 im,())⟩ := by
  refine ret_of ?_
  simp only [run_Z74,Z74.ev]
  refine ev_call (l05Ok_ret a sa) ?_
  by_cases ha : VC a.1
  · refine ev_f (by rw [pb_true ha]; rfl) (ev_call (l05Ok_ret b sb) ?_)
    simp only [Z74.j0_eq _ mk_ok]
    by_cases hb : VC b.1
    · refine ev_f (by rw [pb_true hb]; rfl) (ev_call (l08Map_ret a b im ha hb sa sb si) ?_)
      unfold MC
      rw [if_pos ⟨ha,hb⟩]
      by_cases hm : Mp a.1 b.1 im
      · rw [if_pos hm]
        exact ev_f (by rw [pb_true hm]; rfl) ev_rfl
      · rw [if_neg hm]
        exact ev_t (by rw [pb_false hm]; rfl) ev_rfl
    · unfold MC
      rw [if_neg fun h => hb h.2]
      exact ev_t (by rw [pb_false hb]; rfl) ev_rfl
  · unfold MC
    rw [if_neg fun h => ha h.1]
    refine ev_t (by rw [pb_false ha]; rfl) ?_
    simp only [Z74.j0_eq _ mk_ok]
    exact ev_t rfl ev_rfl

/-! SimplexImage -/
theorem l08At_ret (a b : Cpx) (im : Sim) (k : Nat) (sa : Sm (.sl (.sl (.int .i64))) a.1) (sb : Sm (.sl (.sl (.int .i64))) b.1) (h : MC a.1 b.1 im = 0) (hk : k < a.1.length) :
    Ret E n_Z75 [dC a,dC b,dL im,dI (k : Int)] ⟨o_Z75,(findI b.1 (img (vxs a.1) im a.1[k]),())⟩ := by
  obtain ⟨⟨ha,hb⟩,hm⟩ := MC_zero.1 h
  have hvl := vxN_length (c := a.1) (k := a.1.length)
  have sa1 : a.1.length ≤ 1048576 := sa.1
  refine ret_of ?_
  simp only [run_Z75,Z75.ev]
  refine ev_bind (idx_lt hk) (ev_call (l08Vertices_ret a sa) (ev_call (l08Image_ret (vxs a.1) im _ hm.1 (Nat.le_trans hvl sa1) (fun x hx => ha.vert (List.getElem_mem hk) hx) (fun x hx => (hm.range ha hb x hx).1) (sm_get sa hk).1) (ev_call (l05Find_ret b _ sb) ev_rfl)))

end VeT

open Go Go.Proofs Ve
set_option linter.unusedVariables false
set_option linter.unusedSimpArgs false
namespace VeT

/-! the image of a map -/
theorem VC.cl {c : List Sim} (h : VC c) : Cl c := by
  have main : ∀ (n : Nat) (y : Sim),y.length = n → y ∈ c → ∀ x,Fa x y → x ∈ c := by
    intro n
    induction n with
    | zero =>
      intro y hy hm x hf
      have := fa_len hf
      exact absurd (List.length_eq_zero_iff.1 (by omega)) hf.1
    | succ n ih =>
      intro y hy hm x hf
      rcases fa_iff.1 hf with ⟨rfl,_⟩ | ⟨i,hi,hf2⟩
      · exact hm
      · have hl : (y.eraseIdx i).length = n := by rw [List.length_eraseIdx,if_pos hi]; omega
        have h1 : 1 < y.length := by
          have := fa_len hf2
          have := List.length_pos_iff.2 hf2.1
          omega
        obtain ⟨k,hk,e⟩ := List.mem_iff_getElem.1 hm
        have := h.2.2.2 k hk (y.eraseIdx i) (by rw [getD_lt hk,e]; exact faces_mem.2 ⟨h1,i,hi,rfl⟩)
        exact ih _ hl this x hf2
  exact fun y hy x hf => main y.length y rfl hy x hf

theorem rise_ext : ∀ {c d : Sim},c.Pairwise (· < ·) → d.Pairwise (· < ·) → (∀ x,x ∈ c ↔ x ∈ d) → c = d := by
  intro c
  induction c with
  | nil =>
    intro d _ _ h
    cases d with
    | nil => rfl
    | cons y d => exact absurd ((h y).2 List.mem_cons_self) (by simp)
  | cons x c ih =>
    intro d hc hd h
    cases d with
    | nil => exact absurd ((h x).1 List.mem_cons_self) (by simp)
    | cons y d =>
      obtain ⟨hc1,hc2⟩ := List.pairwise_cons.1 hc
      obtain ⟨hd1,hd2⟩ := List.pairwise_cons.1 hd
      have hxy : x = y := by
        rcases List.mem_cons.1 ((h x).1 List.mem_cons_self) with e | e
        · exact e
        · rcases List.mem_cons.1 ((h y).2 List.mem_cons_self) with e2 | e2
          · exact e2.symm
          · have h1 := hd1 x e
            have h2 := hc1 y e2
            omega
      subst hxy
      rw [ih hc2 hd2 fun z => ?_]
      constructor
      · intro hz
        rcases List.mem_cons.1 ((h z).1 (List.mem_cons_of_mem _ hz)) with e | e
        · subst e; have := hc1 z hz; omega
        · exact e
      · intro hz
        rcases List.mem_cons.1 ((h z).2 (List.mem_cons_of_mem _ hz)) with e | e
        · subst e; have := hd1 z hz; omega
        · exact e

/-- the images of the first simplices -/
noncomputable def imgs (a : List Sim) (im : Sim) (k : Nat) : List Sim := (a.take k).map (img (vxs a) im)

theorem imgs_succ {a : List Sim} {im : Sim} {k : Nat} (hk : k < a.length) : imgs a im (k + 1) = imgs a im k ++ [img (vxs a) im a[k]] := by
  unfold imgs
  rw [List.take_succ_eq_append_getElem hk,List.map_append]; rfl

theorem imgs_length {a : List Sim} {im : Sim} {k : Nat} (hk : k ≤ a.length) : (imgs a im k).length = k := by
  unfold imgs; rw [List.length_map,List.length_take]; omega

theorem imgs_closed {a b : List Sim} {im : Sim} (ha : VC a) (x : Sim) : (∃ s ∈ imgs a im a.length,Fa x s) ↔ x ∈ imgs a im a.length := by
  unfold imgs
  rw [List.take_length]
  constructor
  · rintro ⟨s,hs,hf⟩
    obtain ⟨σ,hσ,rfl⟩ := List.mem_map.1 hs
    have hrise := img_rise (vxs a) im σ
    have hxr : x.Pairwise (· < ·) := hrise.sublist hf.2
    have hsub : ∀ y ∈ x,y ∈ img (vxs a) im σ := fun y hy => hf.2.subset hy
    have hτ : Fa (σ.filter fun v => decide (told (vxs a) im v ∈ x)) σ := by
      refine ⟨fun e => ?_,List.filter_sublist⟩
      obtain ⟨y,hy⟩ := List.exists_mem_of_ne_nil _ hf.1
      obtain ⟨v,hv,hvy⟩ := img_mem.1 (hsub y hy)
      have : v ∈ σ.filter fun v => decide (told (vxs a) im v ∈ x) := List.mem_filter.2 ⟨hv,by rw [decide_eq_true_iff,hvy]; exact hy⟩
      rw [e] at this; cases this
    refine List.mem_map.2 ⟨_,ha.cl σ hσ _ hτ,?_⟩
    refine rise_ext (img_rise _ _ _) hxr fun y => ?_
    rw [img_mem]
    constructor
    · rintro ⟨v,hv,rfl⟩
      exact of_decide_eq_true (List.mem_filter.1 hv).2
    · intro hy
      obtain ⟨v,hv,hvy⟩ := img_mem.1 (hsub y hy)
      exact ⟨v,List.mem_filter.2 ⟨hv,by rw [decide_eq_true_iff,hvy]; exact hy⟩,hvy⟩
  · intro hx
    refine ⟨x,hx,?_,List.Sublist.refl _⟩
    obtain ⟨σ,hσ,rfl⟩ := List.mem_map.1 hx
    obtain ⟨k,hk,e⟩ := List.mem_iff_getElem.1 hσ
    have h1 := (ha.2.1 k hk).1
    rw [getD_lt hk,e] at h1
    obtain ⟨v,hv⟩ := List.exists_mem_of_length_pos (show 0 < σ.length by omega)
    intro e
    have : told (vxs a) im v ∈ img (vxs a) im σ := img_mem.2 ⟨v,hv,rfl⟩
    rw [e] at this; cases this

theorem imgs_in {a b : List Sim} {im : Sim} (h : MC a b im = 0) {k : Nat} : ∀ s ∈ imgs a im k,s ∈ b ∧ 1 ≤ s.length ∧ s.length ≤ 4 := fun s hs => by
  obtain ⟨⟨ha,hb⟩,hm⟩ := MC_zero.1 h
  obtain ⟨σ,hσ,rfl⟩ := List.mem_map.1 hs
  have hin := hm.2 σ (List.mem_of_mem_take hσ)
  obtain ⟨q,hq,e⟩ := List.mem_iff_getElem.1 hin
  have hv := hb.2.1 q hq
  rw [getD_lt hq,e] at hv
  exact ⟨hin,hv.1,hv.2.1⟩

noncomputable def MapImageV (a b : Cpx) (im : Sim) : List Sim × Int × Unit := if MC a.1 b.1 im = 0 then (ordG (imgs a.1 im a.1.length),0,()) else ([],MC a.1 b.1 im,())

theorem implMapImage_ret (a b : Cpx) (im : Sim) (sa : Sm (.st cC) a) (sb : Sm (.st cC) b) (si : Sm (.sl (.int .i64)) im) : Ret E n_Z5 [dLL a.1,dLL b.1,dL im] ⟨o_Z5,MapImageV a b im⟩ := by
  have sa1 : a.1.length ≤ 1048576 := sa.1.1
  refine ret_of ?_
  simp only [run_Z5,Z5.ev]
  unfold MapImageV
  refine ev_call (mapped_ret a.1 b.1 im sa.1 sb.1) ?_
  by_cases h : MC a.1 b.1 im = 0
  · rw [if_pos h]
    obtain ⟨⟨ha,hb⟩,hm⟩ := MC_zero.1 h
    refine ev_f (by simp [h]) ?_
    refine Ev.start (p := fun φ n => Z5.l0 (mkR (run E (φ 0))) (φ 0) n im a.1 (a.1.length : Int) 0 a.1 [] = _) 1 ?_ (fun _ _ _ h => h)
    refine fold_loop 1 (L := fun φ n k o => Z5.l0 (mkR (run E (φ 0))) (φ 0) n im a.1 (a.1.length : Int) k a.1 o) (len := a.1.length) (fun k => imgs a.1 im k) (fun _ _ _ _ _ => rfl) (fun k r hk ih => ?_) ?_
    · simp only [Z5.l0_succ _ mk_ok]
      rw [imgs_succ hk] at ih
      have hl := imgs_length (a := a.1) (im := im) (k := k) (by omega)
      refine ev_t (decide_eq_true (by omega)) (ev_bind (idx_lt hk) (ev_call (imageOf_ret a.1 im _ sa.1 hm.1 (fun x hx => ha.vert (List.getElem_mem hk) hx) (sm_get sa.1 hk).1) (ev_chk (by simp only [hl,List.length_singleton,decide_eq_true_eq]; omega) ?_)))
      rw [w64_succ (by omega)]
      exact ih
    · simp only [Z5.l0_succ _ mk_ok]
      have hl := imgs_length (a := a.1) (im := im) (Nat.le_refl _)
      refine ev_f (decide_eq_false (by omega)) (ev_call (inOrderG_ret _ ⟨by show (imgs a.1 im a.1.length).length ≤ 1048576; omega,fun x hx => ?_⟩) ev_rfl)
      have := (imgs_in h x hx).2.2
      exact ⟨by show x.length ≤ 1048576; omega,fun _ _ => trivial⟩
  · rw [if_neg h]
    exact ev_t (by simpa using h) ev_rfl

theorem specMapImage_ret (a b : Cpx) (im : Sim) (sa : Sm (.st cC) a) (sb : Sm (.st cC) b) (si : Sm (.sl (.int .i64)) im) : Ret E n_Z61 [dLL a.1,dLL b.1,dL im] ⟨o_Z61,MapImageV a b im⟩ := by
  have sa1 : a.1.length ≤ 1048576 := sa.1.1
  refine ret_of ?_
  simp only [run_Z61,Z61.ev]
  unfold MapImageV
  refine ev_call (l08Ask_ret (a.1,()) (b.1,()) im sa.1 sb.1 si.1) ?_
  by_cases h : MC a.1 b.1 im = 0
  · rw [if_pos h]
    obtain ⟨⟨ha,hb⟩,hm⟩ := MC_zero.1 h
    have ha48 := ha.1
    refine ev_f (by simp [h]) ?_
    refine Ev.start (p := fun φ n => Z61.l0 (mkR (run E (φ 0))) (φ 0) n im 0 a.1 b.1 [] = _) 1 ?_ (fun _ _ _ h => h)
    refine fold_loop 1 (L := fun φ n k o => Z61.l0 (mkR (run E (φ 0))) (φ 0) n im k a.1 b.1 o) (len := a.1.length) (fun k => imgs a.1 im k) (fun _ _ _ _ _ => rfl) (fun k r hk ih => ?_) ?_
    · simp only [Z61.l0_succ _ mk_ok]
      rw [imgs_succ hk] at ih
      have hl := imgs_length (a := a.1) (im := im) (k := k) (by omega)
      have hin := hm.2 a.1[k] (List.getElem_mem hk)
      have h0 := findI_nonneg.2 hin
      have h1 := (findI_lt (c := b.1) (s := img (vxs a.1) im a.1[k])).1
      obtain ⟨q,hq⟩ := Int.eq_ofNat_of_zero_le h0
      have hg := findI_get hin
      rw [hq,Int.toNat_natCast] at hg
      have hqb : q < b.1.length := by omega
      rw [getD_lt hqb] at hg
      have hat := l08At_ret (a.1,()) (b.1,()) im k sa.1 sb.1 h hk
      simp only at hat
      rw [hq] at hat
      refine ev_t (decide_eq_true (by omega)) (ev_call hat (ev_bind (idx_lt hqb) ?_))
      rw [hg]
      refine ev_call (l00Own_ret _ (by have := (imgs_in h (k := k + 1) _ (by rw [imgs_succ hk]; exact List.mem_append.2 (.inr (List.mem_singleton.2 rfl)))).2.2; omega)) (ev_chk (by simp only [hl,List.length_singleton,decide_eq_true_eq]; omega) ?_)
      rw [w64_succ (by omega)]
      exact ih
    · simp only [Z61.l0_succ _ mk_ok]
      have hl := imgs_length (a := a.1) (im := im) (Nat.le_refl _)
      obtain ⟨c',hr,hs',hm',_⟩ := closure_ret (imgs a.1 im a.1.length) (by omega) fun s hs => (imgs_in h s hs).2
      obtain ⟨g1,g2,_⟩ := ordG_spec (imgs a.1 im a.1.length)
      have e : c' = ordG (imgs a.1 im a.1.length) := srt_ext hs' g1 fun x => by rw [hm',imgs_closed (b := b.1) ha,g2]
      rw [e] at hr
      exact ev_f (decide_eq_false (by omega)) (ev_call hr ev_rfl)
  · rw [if_neg h]
    exact ev_t (by simpa using h) ev_rfl

theorem MapImageV_sm (a b : Cpx) (im : Sim) (sa : Sm (.st cC) a) (sb : Sm (.st cC) b) (si : Sm (.sl (.int .i64)) im) : Sm (.st cC) ((MapImageV a b im).1,()) := by
  have sa1 : a.1.length ≤ 1048576 := sa.1.1
  unfold MapImageV
  split
  · rename_i h
    have hl := imgs_length (a := a.1) (im := im) (Nat.le_refl _)
    obtain ⟨_,g2,g3⟩ := ordG_spec (imgs a.1 im a.1.length)
    refine ⟨⟨by show (ordG _).length ≤ 1048576; omega,fun x hx => ?_⟩,trivial⟩
    have := (imgs_in h x ((g2 x).1 hx)).2.2
    exact ⟨by show x.length ≤ 1048576; omega,fun _ _ => trivial⟩
  · exact ⟨⟨by show (0 : Nat) ≤ 1048576; omega,fun _ h => by cases h⟩,trivial⟩

end VeT

open Go Go.Proofs Ve
set_option linter.unusedVariables false
set_option linter.unusedSimpArgs false
namespace VeT

end VeT

open Go Go.Proofs Ve
set_option linter.unusedVariables false
set_option linter.unusedSimpArgs false
namespace VeT

/-! marks: what the laws write over arguments and results -/
def mkL (k : Int) (n : Nat) : Sim := (List.range n).map fun (i : Nat) => k + (i : Int)

theorem mkL_length {k : Int} {n : Nat} : (mkL k n).length = n := by simp [mkL]

theorem mkL_get {k : Int} {n i : Nat} (h : i < (mkL k n).length) : (mkL k n)[i] = k + i := by simp [mkL]

theorem markInt64S_ret (s : Sim) (k : Int) (hk : 0 ≤ k ∧ k ≤ 4611686018427387904) (hs : s.length ≤ 1048576) : Ret E n_Z31 [dL s,dI k] ⟨o_Z31,(k + s.length,mkL k s.length,())⟩ := by
  refine ret_of ?_
  simp only [run_Z31,Z31.ev]
  refine Ev.start (p := fun φ n => Z31.l0 (mkR (run E (φ 0))) (φ 0) n k 0 s = _) 1 ?_ (fun _ _ _ h => h)
  have hl : ∀ j,j ≤ s.length → (mkL k j ++ s.drop j).length = s.length := fun j hj => by rw [List.length_append,mkL_length,List.length_drop]; omega
  have := fold_loop 1 (L := fun φ n j (a : Int × Sim) => Z31.l0 (mkR (run E (φ 0))) (φ 0) n a.1 j a.2) (len := s.length) (fun j => (k + (j : Int),mkL k j ++ s.drop j)) (r := some ⟨o_Z31,(k + s.length,mkL k s.length,())⟩) (fun _ _ _ _ _ => rfl) (fun j r hj ih => ?_) ?_
  · simpa [mkL] using this
  · simp only [Z31.l0_succ _ mk_ok,hl j (by omega)]
    refine ev_t (decide_eq_true (by omega)) (ev_chk (by simp; omega) ?_)
    rw [w64_succ (by omega),w64_small (by omega) (by omega),Int.toNat_natCast]
    have e : (mkL k j ++ s.drop j).set j (k + j) = mkL k (j + 1) ++ s.drop (j + 1) := by
      rw [List.drop_eq_getElem_cons hj,List.set_append_right _ _ (by rw [mkL_length]; omega),mkL_length,Nat.sub_self,List.set_cons_zero]
      unfold mkL
      rw [List.range_succ,List.map_append,List.append_assoc]; rfl
    rw [e,show k + (j : Int) + 1 = k + ((j + 1 : Nat) : Int) by omega]
    exact ih
  · simp only [Z31.l0_succ _ mk_ok,hl s.length (Nat.le_refl _)]
    refine ev_f (decide_eq_false (by omega)) (ev_some ?_)
    simp

theorem heldInt64S_ret (k : Int) (n : Nat) (hk : 0 ≤ k ∧ k ≤ 4611686018427387904) (hn : n ≤ 1048576) : Ret E n_Z28 [dL (mkL k n),dI k] ⟨o_Z28,(k + n,())⟩ := by
  refine ret_of ?_
  simp only [run_Z28,Z28.ev]
  refine Ev.start (p := fun φ m => Z28.l0 (mkR (run E (φ 0))) (φ 0) m (mkL k n) k 0 = _) 1 ?_ (fun _ _ _ h => h)
  have := fold_loop 1 (L := fun φ m j a => Z28.l0 (mkR (run E (φ 0))) (φ 0) m (mkL k n) a j) (len := n) (fun j => k + (j : Int)) (r := some ⟨o_Z28,(k + n,())⟩) (fun _ _ _ _ _ => rfl) (fun j r hj ih => ?_) ?_
  · simpa using this
  · simp only [Z28.l0_succ _ mk_ok,mkL_length]
    have hj' : j < (mkL k n).length := by rw [mkL_length]; exact hj
    refine ev_t (decide_eq_true (by omega)) (ev_bind (idx_lt hj') (ev_f (by simp [mkL_get hj']) ?_))
    rw [w64_succ (by omega),w64_small (by omega) (by omega),show k + (j : Int) + 1 = k + ((j + 1 : Nat) : Int) by omega]
    exact ih
  · simp only [Z28.l0_succ _ mk_ok,mkL_length]
    exact ev_f (decide_eq_false (by omega)) ev_rfl

def mkLL : List Sim → Int → List Sim
  | [],_ => []
  | x :: xs,k => mkL k x.length :: mkLL xs (k + x.length)
def mkN : List Sim → Int → Int
  | [],k => k
  | x :: xs,k => mkN xs (k + x.length)

theorem mkLL_length : ∀ {xs : List Sim} {k : Int},(mkLL xs k).length = xs.length
  | [],_ => rfl
  | x :: xs,k => by simp [mkLL,mkLL_length]

theorem mkN_ge : ∀ {xs : List Sim} {k : Int},(∀ x ∈ xs,x.length ≤ 1048576) → k ≤ mkN xs k ∧ mkN xs k ≤ k + 1048576 * xs.length
  | [],k,_ => by simp [mkN]
  | x :: xs,k,h => by
    have h1 := mkN_ge (xs := xs) (k := k + x.length) fun y hy => h y (List.mem_cons_of_mem _ hy)
    have h2 := h x List.mem_cons_self
    simp only [mkN,List.length_cons]; omega

theorem markRows_evt : ∀ (xs : List Sim) (k : Int),0 ≤ k → k + 1048576 * xs.length ≤ 4611686018427387904 → (∀ x ∈ xs,x.length ≤ 1048576) → Evt fun n => markRows n_Z31 (mkR (run E n)) xs k = some (mkN xs k,mkLL xs k)
  | [],k,_,_,_ => Evt.of fun _ => rfl
  | x :: xs,k,h0,hb,hx => by
    have h2 := hx x List.mem_cons_self
    simp only [List.length_cons] at hb
    have h3 := markRows_evt xs (k + x.length) (by omega) (by omega) fun y hy => hx y (List.mem_cons_of_mem _ hy)
    have h4 := markInt64S_ret x k (by omega) h2
    refine (h4.and h3).mono fun n ⟨a,b⟩ => ?_
    have a' : callT (mkR (run E n)) n_Z31 oM [⟨tL,x⟩,⟨tI,k⟩] = some (k + x.length,mkL k x.length,()) := callT_of a
    simp only [markRows,a',Option.bind_some,b,Option.map_some,mkN,mkLL]

theorem run_markSS (n : Nat) (args : List Dv) : run E (n + 1) n_Z32 args = pMarkSS n_Z31 (mkR (run E n)) args := rfl

theorem markInt64SS_ret (xs : List Sim) (k : Int) (hk : 0 ≤ k ∧ k ≤ 1125899906842624) (hs : Sm (.sl (.sl (.int .i64))) xs) : Ret E n_Z32 [dLL xs,dI k] ⟨o_Z32,(mkN xs k,mkLL xs k,())⟩ := by
  have hs1 : xs.length ≤ 1048576 := hs.1
  refine Evt.succ ((markRows_evt xs k hk.1 (by omega) fun x hx => (hs.2 x hx).1).mono fun n h => ?_)
  rw [run_markSS]
  show ((markRows n_Z31 (mkR (run E n)) xs k).map fun q => (⟨.cons tI (.cons (.sl tL) .nil),(q.1,q.2,())⟩ : Dv)) = _
  rw [h]; rfl

theorem heldInt64SS_ret (xs : List Sim) (k : Int) (hk : 0 ≤ k ∧ k ≤ 1125899906842624) (hs : Sm (.sl (.sl (.int .i64))) xs) : Ret E n_Z29 [dLL (mkLL xs k),dI k] ⟨o_Z29,(mkN xs k,())⟩ := by
  have hs1 : xs.length ≤ 1048576 := hs.1
  refine ret_of ?_
  simp only [run_Z29,Z29.ev]
  refine Ev.start (p := fun φ m => Z29.l0 (mkR (run E (φ 0))) (φ 0) m (mkLL xs k) k 0 = _) 1 ?_ (fun _ _ _ h => h)
  -- the rows that are left
  refine loopR 1 (σ := Nat × Int) (L := fun φ m s => Z29.l0 (mkR (run E (φ 0))) (φ 0) m (mkLL xs k) s.2 (s.1 : Int)) (fun _ _ _ _ => rfl) (fun s => s.1 ≤ xs.length ∧ (mkLL xs k).drop s.1 = mkLL (xs.drop s.1) s.2 ∧ mkN xs k = mkN (xs.drop s.1) s.2 ∧ k ≤ s.2 ∧ s.2 ≤ k + 1048576 * s.1) (fun _ => _) (fun s => xs.length - s.1) (fun s hi ih => ?_) (0,k) ⟨Nat.zero_le _,rfl,rfl,Int.le_refl _,by simp⟩
  obtain ⟨j,q⟩ := s
  obtain ⟨h1,h2,h3,h4,h5⟩ := hi
  simp only at h1 h2 h3 h4 h5 ih
  simp only [Z29.l0_succ _ mk_ok,mkLL_length]
  refine ev_d (fun hlt => ?_) fun hlt => ev_some ?_
  · have hj : j < xs.length := by omega
    have hj' : j < (mkLL xs k).length := by rw [mkLL_length]; exact hj
    rw [List.drop_eq_getElem_cons hj,List.drop_eq_getElem_cons hj',mkLL] at h2
    rw [List.drop_eq_getElem_cons hj,mkN] at h3
    obtain ⟨e1,e2⟩ := List.cons.inj h2
    have hx := (sm_get hs hj).1
    have hx : (xs[j]).length ≤ 1048576 := hx
    refine ev_bind (idx_lt hj') ?_
    rw [e1]
    refine ev_call (heldInt64S_ret q (xs[j]).length (by omega) hx) (ev_f (decide_eq_false (Int.not_lt.2 (by show 0 ≤ q + ((xs[j]).length : Int); omega))) ?_)
    rw [w64_succ (by omega)]
    exact ih (j + 1,q + ((xs[j]).length : Int)) ⟨by show j + 1 ≤ _; omega,e2,h3,by show k ≤ q + ((xs[j]).length : Int); omega,by show q + ((xs[j]).length : Int) ≤ k + 1048576 * ((j + 1 : Nat) : Int); omega⟩ (by show xs.length - (j + 1) < xs.length - j; omega)
  · have e : j = xs.length := by omega
    subst e
    rw [List.drop_length,mkN] at h3
    rw [h3]

end VeT

open Go Go.Proofs Ve
set_option linter.unusedVariables false
set_option linter.unusedSimpArgs false
namespace VeT

theorem markComplexP_ret (xs : List Sim) (k : Int) (hk : 0 ≤ k ∧ k ≤ 1125899906842624) (hs : Sm (.sl (.sl (.int .i64))) xs) : Ret E n_Z30 [dLL xs,dI k] ⟨o_Z30,(mkN xs k,mkLL xs k,())⟩ := by
  refine ret_of ?_
  simp only [run_Z30,Z30.ev]
  exact ev_call (markInt64SS_ret xs k hk hs) ev_rfl

end VeT

open Go Go.Proofs Ve
set_option linter.unusedVariables false
set_option linter.unusedSimpArgs false
namespace VeT

end VeT

open Go Go.Proofs Ve
set_option linter.unusedVariables false
set_option linter.unusedSimpArgs false
namespace VeT

end VeT

open Go Go.Proofs Ve
set_option linter.unusedVariables false
set_option linter.unusedSimpArgs false
namespace VeT

theorem VM.len {m : Mat} (h : VM m) : m.2.2.2.1.length ≤ 1024 := by
  obtain ⟨R,C,_,hR,hC,hl⟩ := h.nat
  have := rc_le hR hC
  omega

end VeT

open Go Go.Proofs Ve
set_option linter.unusedVariables false
set_option linter.unusedSimpArgs false
namespace VeT

end VeT

open Go Go.Proofs Ve
set_option linter.unusedVariables false
set_option linter.unusedSimpArgs false
namespace VeT

end VeT

open Go Go.Proofs Ve
set_option linter.unusedVariables false
set_option linter.unusedSimpArgs false
namespace VeT

/-! marks of a sheaf that is a result -/
theorem heldComplex_ret (xs : List Sim) (k : Int) (hk : 0 ≤ k ∧ k ≤ 1125899906842624) (hs : Sm (.sl (.sl (.int .i64))) xs) : Ret E n_Z27 [dLL (mkLL xs k),dI k] ⟨o_Z27,(mkN xs k,())⟩ := by
  have h1 : xs.length ≤ 1048576 := hs.1
  have g := mkN_ge (xs := xs) (k := k) fun y hy => (hs.2 y hy).1
  refine ret_of ?_
  simp only [run_Z27,Z27.ev]
  exact ev_call (heldInt64SS_ret xs k hk hs) (ev_f (decide_eq_false (Int.not_lt.2 (by show 0 ≤ mkN xs k; omega))) ev_rfl)

end VeT

open Go Go.Proofs Ve
set_option linter.unusedVariables false
set_option linter.unusedSimpArgs false
namespace VeT

theorem law_MapImage (x0 : Cpx) (x1 : Cpx) (x2 : Sim) (w0 : Wf (.st cC) x0) (w1 : Wf (.st cC) x1) (w2 : Wf (.sl (.int .i64)) x2) : Ret E n_Z23 [dLL x0.1,dLL x1.1,dL x2] ⟨.cons .bool .nil,(true,())⟩ := by
  refine ret_of ?_
  simp only [run_Z23,Z23.ev]
  refine ev_d (fun _ => ev_rfl) fun l2 => ?_
  have m2 : Sm (.sl (.int .i64)) x2 := ⟨by omega,fun _ _ => trivial⟩
  obtain ⟨r0,hs0,s0⟩ := szComplex_ret x0 1048576 w0 (by omega) (by omega)
  refine ev_call hs0 (ev_d (fun _ => ev_rfl) fun n0 => ?_)
  have n0 := Int.not_lt.1 n0
  obtain ⟨b0,m0⟩ := s0 n0
  obtain ⟨r1,hs1,s1⟩ := szComplex_ret x1 r0 w1 (by omega) (by omega)
  refine ev_call hs1 (ev_d (fun _ => ev_rfl) fun n1 => ?_)
  have n1 := Int.not_lt.1 n1
  obtain ⟨b1,m1⟩ := s1 n1
  have hi := implMapImage_ret x0 x1 x2 m0 m1 m2
  have hsp := specMapImage_ret x0 x1 x2 m0 m1 m2
  have hsm := MapImageV_sm x0 x1 x2 m0 m1 m2
  generalize MapImageV x0 x1 x2 = V at hi hsp hsm
  obtain ⟨v0_0,v1,⟨⟩⟩ := V
  have z0 : Sm (.st cC) (v0_0,()) := hsm
  obtain ⟨qr0,hqr0,eqr0⟩ := eqComplex_ret (v0_0,()) (v0_0,()) z0
  obtain rfl : qr0 = true := eqr0.2 rfl
  have to0 := toComplex_ret x0 m0
  obtain ⟨q0,hq0,eq0⟩ := eqComplex_ret x0 x0 m0
  obtain rfl : q0 = true := eq0.2 rfl
  have to1 := toComplex_ret x1 m1
  obtain ⟨q1,hq1,eq1⟩ := eqComplex_ret x1 x1 m1
  obtain rfl : q1 = true := eq1.2 rfl
  have to2 := toInt64S_ret x2 m2
  obtain ⟨q2,hq2,eq2⟩ := eqInt64S_ret x2 x2 m2
  obtain rfl : q2 = true := eq2.2 rfl
  have hm0 := markComplexP_ret x0.1 (1) (by omega) m0.1
  have hmb0 := mkN_ge (xs := x0.1) (k := 1) fun y hy => (m0.1.2 y hy).1
  have hml0 : x0.1.length ≤ 1048576 := m0.1.1
  have hm1 := markComplexP_ret x1.1 (mkN x0.1 (1)) (by omega) m1.1
  have hmb1 := mkN_ge (xs := x1.1) (k := mkN x0.1 (1)) fun y hy => (m1.1.2 y hy).1
  have hml1 : x1.1.length ≤ 1048576 := m1.1.1
  have hm2 := markInt64S_ret x2 (mkN x1.1 (mkN x0.1 (1))) (by omega) m2.1
  have hk : ¬ (mkN x1.1 (mkN x0.1 (1)) + (x2.length : Int) < 0) := by omega
  have mr0 := markComplexP_ret v0_0 1 (by omega) z0.1
  have hl0 := heldComplex_ret v0_0 1 (by omega) z0.1
  have hb0 := mkN_ge (xs := v0_0) (k := 1) fun y hy => (z0.1.2 y hy).1
  have he0 : ¬ (mkN v0_0 1 < 0) := by omega
  repeat (first | with_reducible exact ev_rfl | with_reducible refine ev_call hqr0 ?_ | with_reducible refine ev_call to0 ?_ | with_reducible refine ev_call hq0 ?_ | with_reducible refine ev_call to1 ?_ | with_reducible refine ev_call hq1 ?_ | with_reducible refine ev_call to2 ?_ | with_reducible refine ev_call hq2 ?_ | with_reducible refine ev_call hi ?_ | with_reducible refine ev_call hsp ?_ | with_reducible refine ev_call hm0 ?_ | with_reducible refine ev_call hm1 ?_ | with_reducible refine ev_call hm2 ?_ | with_reducible refine ev_call mr0 ?_ | with_reducible refine ev_call hl0 ?_ | with_reducible refine ev_both ?_ ?_ | with_reducible refine ev_f (by first | rfl | exact bne_self_eq_false _ | exact decide_eq_false hk | exact decide_eq_false he0 | (simp; done)) ?_ | simp only [bne_self_eq_false,Z23.j0_eq _ mk_ok,Z23.j1_eq _ mk_ok,Z23.j2_eq _ mk_ok,Z23.j3_eq _ mk_ok,Z23.j4_eq _ mk_ok,cond_false])

theorem rowMapImage (z : ((.cons (.sl (.sl (.int .i64))) (.cons (.sl (.sl (.int .i64))) (.cons (.sl (.int .i64)) .nil))) : Ty).T)
    (h : Wf (.cons (.sl (.sl (.int .i64))) (.cons (.sl (.sl (.int .i64))) (.cons (.sl (.int .i64)) .nil))) z) :
    Evt fun n => run E n n_Z23 (unpack _ z) = some ⟨.cons .bool .nil,(true,())⟩ :=
  law_MapImage (z.1,()) (z.2.1,()) z.2.2.1 ⟨h.1,trivial⟩ ⟨h.2.1,trivial⟩ h.2.2.1

end VeT
