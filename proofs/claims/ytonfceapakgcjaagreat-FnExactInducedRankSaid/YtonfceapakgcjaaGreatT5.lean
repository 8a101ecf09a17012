import Derived.Test.YtonfceapakgcjaaGreatT4
import Derived.Test.YtonfceapakgcjaaGreatV2
import Derived.KernelRfl
set_option linter.unusedVariables false
set_option linter.unusedSimpArgs false
open Go Go.Proofs Ve
set_option linter.unusedVariables false
set_option linter.unusedSimpArgs false
namespace VeT

def Vx (s : Sim) : Prop := 1 ≤ s.length ∧ s.length ≤ 4 ∧ Rises s ∧ ∀ x ∈ s,0 ≤ x ∧ x ≤ 9

theorem ValidSimplex_ret (s : Sim) (hs : Sm (.sl (.int .i64)) s) : Ret E n_Z11 [dL s] ⟨o_Z11,(pb (Vx s),())⟩ := by
  refine ret_of ?_
  simp only [run_Z11,Z11.ev]
  refine ev_d (fun h1 => ev_d (fun h2 => ev_call (isRising_ret s hs) (ev_b (fun h3 => ev_call (ContainsFunc_Sint64_int64_impl_ValidSimplex_1_ret s _ hs.1 fun x _ => ValidSimplex_1_ret x) (ev_some ?_)) fun h3 => ev_some ?_)) fun h2 => ev_some ?_) fun h1 => ev_some ?_
  · have h3 := pb_iff.1 h3
    have : (!pb (∃ x ∈ s,(!pb (0 ≤ x ∧ x ≤ 9)) = true)) = pb (Vx s) := eq_pb (by
      simp only [Bool.not_eq_true',pb_not]
      exact ⟨fun h => ⟨by omega,by omega,h3,fun x hx => Classical.byContradiction fun hn => h ⟨x,hx,hn⟩⟩,fun h ⟨x,hx,hn⟩ => hn (h.2.2.2 x hx)⟩)
    rw [this]
  · rw [pb_false fun h => pb_not.1 h3 h.2.2.1]
  · rw [pb_false fun h => h2 (by have := h.2.1; omega)]
  · rw [pb_false fun h => h1 (by have := h.1; omega)]

theorem l00Rises_ret (s : Sim) (lo hi : Int) (hs : Sm (.sl (.int .i64)) s) : Ret E n_Z103 [dL s,dI lo,dI hi] ⟨o_Z103,(pb (Rises s ∧ ∀ x ∈ s,lo ≤ x ∧ x ≤ hi),())⟩ := by
  have hs1 : s.length ≤ 1048576 := hs.1
  refine ret_of ?_
  simp only [run_Z103,Z103.ev]
  refine Ev.start (p := fun φ n => Z103.l0 (mkR (run E (φ 0))) (φ 0) n s lo hi 0 = _) 1 ?_ (fun _ _ _ h => h)
  refine (all_pb 1 (L := fun φ n k => Z103.l0 (mkR (run E (φ 0))) (φ 0) n s lo hi k) (len := s.length) 0 (by omega) (fun j => (lo ≤ s.getD j 0 ∧ s.getD j 0 ≤ hi) ∧ (1 ≤ j → s.getD (j - 1) 0 < s.getD j 0)) (fun b => some ⟨o_Z103,(b,())⟩) (fun _ _ _ _ => rfl) (fun k h1 h2 hP _ => ?_) (fun k r h1 h2 hP _ ih => ?_) (fun _ => ?_)).to ?_
  · simp only [Z103.l0_succ _ mk_ok]
    refine ev_t (decide_eq_true (by omega)) (ev_bind (idx_lt h2) (ev_call (l00In_ret _ _ _) ?_))
    have e : s.getD k 0 = s[k] := by simp [List.getD_eq_getElem?_getD,h2]
    rw [e] at hP
    refine ev_b (fun _ => ?_) (fun hin => ?_)
    · simp only [Z103.j1_eq _ mk_ok,cond_true]; (first | exact ev_rfl | exact Ev.of fun _ => trivial)
    · have hin : lo ≤ s[k] ∧ s[k] ≤ hi := pb_iff.1 (by simpa using hin)
      have hk : 1 ≤ k := Classical.byContradiction fun h => hP ⟨hin,fun h' => absurd h' h⟩
      refine ev_t (decide_eq_true (by omega)) ?_
      rw [w64_small (by omega) (by omega),show ((k : Int) - 1) = ((k - 1 : Nat) : Int) by omega]
      refine ev_bind (idx_lt (by omega)) (ev_bind (idx_lt h2) ?_)
      have e' : s.getD (k - 1) 0 = s[k - 1] := by simp [List.getD_eq_getElem?_getD,show k - 1 < s.length by omega]
      rw [e'] at hP
      have : decide (s[k-1] ≥ s[k]) = true := decide_eq_true (Classical.byContradiction fun h => hP ⟨hin,fun _ => by omega⟩)
      simp only [this,Z103.j1_eq _ mk_ok,cond_true]; (first | exact ev_rfl | exact Ev.of fun _ => trivial)
  · simp only [Z103.l0_succ _ mk_ok]
    refine ev_t (decide_eq_true (by omega)) (ev_bind (idx_lt h2) (ev_call (l00In_ret _ _ _) ?_))
    have e : s.getD k 0 = s[k] := by simp [List.getD_eq_getElem?_getD,h2]
    rw [e] at hP
    refine ev_f (by rw [pb_true hP.1]; rfl) ?_
    refine ev_d (fun hk => ?_) fun hk => ?_
    · rw [w64_small (by omega) (by omega),show ((k : Int) - 1) = ((k - 1 : Nat) : Int) by omega]
      refine ev_bind (idx_lt (by omega)) (ev_bind (idx_lt h2) ?_)
      have e' : s.getD (k - 1) 0 = s[k - 1] := by simp [List.getD_eq_getElem?_getD,show k - 1 < s.length by omega]
      rw [e'] at hP
      have : decide (s[k-1] ≥ s[k]) = false := decide_eq_false (by have := hP.2 (by omega); omega)
      simp only [this,Z103.j1_eq _ mk_ok,cond_false]
      rw [w64_succ (by omega)]; exact ih
    · simp only [Z103.j1_eq _ mk_ok,cond_false]
      rw [w64_succ (by omega)]; exact ih
  · simp only [Z103.l0_succ _ mk_ok]
    exact ev_f (decide_eq_false (by omega)) ev_rfl
  · refine congrArg (fun b : Bool => some (⟨o_Z103,(b,())⟩ : Dv)) (pb_congr ⟨fun h => ⟨fun j h1 h2 => (h j (by omega) h2).2 h1,fun x hx => ?_⟩,fun ⟨h1,h2⟩ j _ hj => ⟨?_,fun h3 => h1 j h3 hj⟩⟩)
    · obtain ⟨j,hj,rfl⟩ := List.mem_iff_getElem.1 hx
      simpa [List.getD_eq_getElem?_getD,hj] using (h j (by omega) hj).1
    · simpa [List.getD_eq_getElem?_getD,hj] using h2 _ (List.getElem_mem hj)

theorem l05Simplex_ret (s : Sim) (hs : Sm (.sl (.int .i64)) s) : Ret E n_Z125 [dL s] ⟨o_Z125,(pb (Vx s),())⟩ := by
  refine ret_of ?_
  simp only [run_Z125,Z125.ev]
  refine ev_call (l00In_ret _ _ _) (ev_b (fun h1 => ev_call (l00Rises_ret s _ _ hs) (ev_some ?_)) fun h1 => ev_some ?_)
  · have h1 := pb_iff.1 h1
    exact congrArg (fun b : Bool => some (⟨o_Z125,(b,())⟩ : Dv)) (pb_congr ⟨fun h => ⟨by omega,by omega,h.1,h.2⟩,fun h => ⟨h.2.2.1,h.2.2.2⟩⟩)
  · rw [pb_false fun h => pb_not.1 h1 ⟨by have := h.1; omega,by have := h.2.1; omega⟩]

/-! comparing -/
def cmp3 (a b : Int) : Int := if a < b then -1 else if b < a then 1 else 0
def lexc : Sim → Sim → Int
  | [],[] => 0
  | [],_ :: _ => -1
  | _ :: _,[] => 1
  | x :: xs,y :: ys => if x < y then -1 else if y < x then 1 else lexc xs ys
def cmpS (a b : Sim) : Int := if cmp3 a.length b.length ≠ 0 then cmp3 a.length b.length else lexc a b

theorem cmp3_zero {a b : Int} : cmp3 a b = 0 ↔ a = b := by unfold cmp3; split <;> (try split) <;> omega
theorem cmp3_neg {a b : Int} : cmp3 b a = - cmp3 a b := by unfold cmp3; split <;> split <;> (try split) <;> omega
theorem cmp3_lt {a b : Int} : cmp3 a b < 0 ↔ a < b := by unfold cmp3; split <;> (try split) <;> omega
theorem lexc_eq : ∀ {a b : Sim},lexc a b = 0 ↔ a = b
  | [],[] => by simp [lexc]
  | [],_ :: _ => by simp [lexc]
  | _ :: _,[] => by simp [lexc]
  | x :: xs,y :: ys => by
    have := @lexc_eq xs ys
    simp only [lexc,List.cons.injEq]
    split
    · constructor
      · intro h; omega
      · rintro ⟨rfl,_⟩; omega
    · split
      · constructor
        · intro h; omega
        · rintro ⟨rfl,_⟩; omega
      · rw [this]; constructor
        · intro h; exact ⟨by omega,h⟩
        · exact fun h => h.2
theorem lexc_neg : ∀ {a b : Sim},lexc b a = - lexc a b
  | [],[] => by simp [lexc]
  | [],_ :: _ => by simp [lexc]
  | _ :: _,[] => by simp [lexc]
  | x :: xs,y :: ys => by
    have := @lexc_neg xs ys
    simp only [lexc]
    split <;> split <;> (try split) <;> omega
theorem lexc_trans : ∀ {a b c : Sim},lexc a b < 0 → lexc b c < 0 → lexc a c < 0
  | [],[],c,h,_ => by simp [lexc] at h
  | [],_ :: _,[],_,h => by simp [lexc] at h
  | [],_ :: _,_ :: _,_,_ => by simp [lexc]
  | _ :: _,[],_,h,_ => by simp [lexc] at h
  | _ :: _,_ :: _,[],_,h => by simp [lexc] at h
  | x :: xs,y :: ys,z :: zs,h1,h2 => by
    have := @lexc_trans xs ys zs
    simp only [lexc] at h1 h2 ⊢
    split at h1 <;> split at h2 <;> (try split at h1) <;> (try split at h2) <;> (try split) <;> (try split) <;> first | omega | (exact this h1 h2)
theorem cmpS_zero {a b : Sim} : cmpS a b = 0 ↔ a = b := by
  unfold cmpS
  split
  · rename_i h
    exact ⟨fun h' => absurd h' h,fun h' => absurd (cmp3_zero.2 (by rw [h'])) h⟩
  · exact lexc_eq
theorem cmpS_neg {a b : Sim} : cmpS b a = - cmpS a b := by
  unfold cmpS
  rw [@cmp3_neg a.length b.length]
  split <;> split <;> first | omega | exact lexc_neg
theorem cmpS_lt {a b : Sim} : cmpS a b < 0 ↔ a.length < b.length ∨ a.length = b.length ∧ lexc a b < 0 := by
  unfold cmpS
  split
  · rename_i h
    rw [cmp3_lt]
    rw [Ne,cmp3_zero] at h
    omega
  · rename_i h
    rw [Classical.not_not,cmp3_zero] at h
    omega
theorem cmpS_trans {a b c : Sim} (h1 : cmpS a b < 0) (h2 : cmpS b c < 0) : cmpS a c < 0 := by
  rw [cmpS_lt] at *
  rcases h1 with h1 | ⟨h1,h1'⟩ <;> rcases h2 with h2 | ⟨h2,h2'⟩
  · left; omega
  · left; omega
  · left; omega
  · right; exact ⟨by omega,lexc_trans h1' h2'⟩

theorem isNaNi_ret (a : Int) : Ret E n_Z3 [dI a] ⟨o_Z3,(false,())⟩ := by
  refine ret_of ?_
  simp only [run_Z3,Z3.ev]
  exact ev_some (by simp)
theorem isNaN_ret (a : Int) : Ret E n_Z4 [dI a] ⟨o_Z4,(false,())⟩ := by
  refine ret_of ?_
  simp only [run_Z4,Z4.ev]
  exact ev_some (by simp)

theorem Comparei_ret (a b : Int) : Ret E n_Z0 [dI a,dI b] ⟨o_Z0,(cmp3 a b,())⟩ := by
  refine ret_of ?_
  simp only [run_Z0,Z0.ev]
  refine ev_call (isNaNi_ret _) (ev_call (isNaNi_ret _) (ev_f rfl (ev_f rfl (ev_d (fun h => ev_some ?_) fun h => ev_d (fun h2 => ev_some ?_) fun h2 => ev_some ?_))))
  · rw [cmp3,if_pos h]
  · rw [cmp3,if_neg h,if_pos h2]
  · rw [cmp3,if_neg h,if_neg h2]
theorem Compare_ret (a b : Int) : Ret E n_Z1 [dI a,dI b] ⟨o_Z1,(cmp3 a b,())⟩ := by
  refine ret_of ?_
  simp only [run_Z1,Z1.ev]
  refine ev_call (isNaN_ret _) (ev_call (isNaN_ret _) (ev_f rfl (ev_f rfl (ev_d (fun h => ev_some ?_) fun h => ev_d (fun h2 => ev_some ?_) fun h2 => ev_some ?_))))
  · rw [cmp3,if_pos h]
  · rw [cmp3,if_neg h,if_pos h2]
  · rw [cmp3,if_neg h,if_neg h2]

theorem lexc_step {a b : Sim} {k : Nat} (h : k < a.length) (h' : k < b.length) : lexc (a.drop k) (b.drop k) = if cmp3 a[k] b[k] ≠ 0 then cmp3 a[k] b[k] else lexc (a.drop (k + 1)) (b.drop (k + 1)) := by
  rw [List.drop_eq_getElem_cons h,List.drop_eq_getElem_cons h',lexc]
  unfold cmp3
  split
  · simp
  · split
    · simp
    · simp

theorem SliceCompare_ret (a b : Sim) (ha : Sm (.sl (.int .i64)) a) : Ret E n_Z77 [dL a,dL b] ⟨o_Z77,(lexc a b,())⟩ := by
  have ha1 : a.length ≤ 1048576 := ha.1
  refine ret_of ?_
  simp only [run_Z77,Z77.ev]
  refine Ev.start (p := fun φ n => Z77.l0 (mkR (run E (φ 0))) (φ 0) n a b a (a.length : Int) 0 = _) 1 ?_ (fun _ _ _ h => h)
  refine loopR 1 (σ := Nat) (L := fun φ n k => Z77.l0 (mkR (run E (φ 0))) (φ 0) n a b a (a.length : Int) (k : Int)) (fun _ _ _ _ => rfl) (fun k => k ≤ a.length ∧ k ≤ b.length) (fun k => some ⟨o_Z77,(lexc (a.drop k) (b.drop k),())⟩) (fun k => a.length - k) (fun k ⟨hk,hkb⟩ ih => ?_) 0 ⟨Nat.zero_le _,Nat.zero_le _⟩
  simp only [Z77.l0_succ _ mk_ok]
  refine ev_d (fun h => ?_) fun h => ?_
  · have hka : k < a.length := by omega
    refine ev_bind (idx_lt hka) (ev_d (fun h2 => ev_some ?_) fun h2 => ?_)
    · rw [List.drop_eq_getElem_cons hka,List.drop_of_length_le (l := b) (by omega),lexc]
    · have hkb : k < b.length := by omega
      refine ev_bind (idx_lt hkb) (ev_call (Compare_ret _ _) (ev_b (fun h3 => ev_some ?_) fun h3 => ?_))
      · rw [lexc_step hka hkb,if_pos (by simpa using h3)]
      · rw [w64_succ (by omega)]
        refine (ih (k + 1) ⟨by omega,by omega⟩ (by omega)).to ?_
        rw [lexc_step hka hkb,if_neg (by simpa using h3)]
  · have e : k = a.length := by omega
    subst e
    refine ev_d (fun h2 => ev_some ?_) fun h2 => ev_some ?_
    · rw [List.drop_of_length_le (l := a) (by omega),List.drop_eq_getElem_cons (l := b) (by omega),lexc]
    · rw [List.drop_of_length_le (l := a) (by omega),List.drop_of_length_le (l := b) (by omega),lexc]

theorem Or2_ret (a b : Int) : Ret E n_Z2 [dL [a,b]] ⟨o_Z2,(if a ≠ 0 then a else b,())⟩ := by
  refine ret_of ?_
  simp only [run_Z2,Z2.ev]
  refine Ev.start (p := fun φ n => Z2.l0 (mkR (run E (φ 0))) (φ 0) n 0 [a,b] ([a,b].length : Int) 0 = _) 1 ?_ (fun _ _ _ h => h)
  refine Ev.round 1 (L := fun φ n => Z2.l0 (mkR (run E (φ 0))) (φ 0) n 0 [a,b] ([a,b].length : Int) 0) ?_ (fun _ _ _ => rfl)
  simp only [Z2.l0_succ _ mk_ok]
  refine ev_t (by simp) (ev_bind (x := a) rfl (ev_b (fun h => ev_some ?_) fun h => ?_))
  · rw [if_pos (by simpa using h)]
  · rw [if_neg (by simpa using h)]
    rw [show w64 ((0 : Int) + 1) = 1 by decide]
    refine Ev.round 1 (L := fun φ n => Z2.l0 (mkR (run E (φ 0))) (φ 0) n 0 [a,b] ([a,b].length : Int) 1) ?_ (fun _ _ _ => rfl)
    simp only [Z2.l0_succ _ mk_ok]
    refine ev_t (by simp) (ev_bind (x := b) rfl (ev_b (fun h => ev_rfl) fun h => ?_))
    rw [show w64 ((1 : Int) + 1) = 2 by decide]
    refine Ev.round 1 (L := fun φ n => Z2.l0 (mkR (run E (φ 0))) (φ 0) n 0 [a,b] ([a,b].length : Int) 2) ?_ (fun _ _ _ => rfl)
    simp only [Z2.l0_succ _ mk_ok]
    refine ev_f (by simp) (ev_some ?_)
    have : b = 0 := by simpa using h
    rw [this]

theorem compareSimplices_ret (a b : Sim) (ha : Sm (.sl (.int .i64)) a) : Ret E n_Z21 [dL a,dL b] ⟨o_Z21,(cmpS a b,())⟩ := by
  refine ret_of ?_
  simp only [run_Z21,Z21.ev]
  exact ev_call (Comparei_ret _ _) (ev_call (SliceCompare_ret a b ha) (ev_call (Or2_ret _ _) ev_rfl))

theorem l05Before_ret (a b : Sim) (ha : Sm (.sl (.int .i64)) a) : Ret E n_Z118 [dL a,dL b] ⟨o_Z118,(pb (cmpS a b < 0),())⟩ := by
  have ha1 : a.length ≤ 1048576 := ha.1
  refine ret_of ?_
  simp only [run_Z118,Z118.ev]
  refine ev_b (fun h => ev_some ?_) fun h => ?_
  · have h : (a.length : Int) ≠ b.length := by simpa using h
    rw [pb_dec,pb_congr (show (a.length : Int) < b.length ↔ cmpS a b < 0 by rw [cmpS_lt]; omega)]
  · have h : a.length = b.length := by have : (a.length : Int) = b.length := by simpa using h
                                       omega
    refine Ev.start (p := fun φ n => Z118.l0 (mkR (run E (φ 0))) (φ 0) n a b 0 = _) 1 ?_ (fun _ _ _ h => h)
    refine (loopR 1 (σ := Nat) (L := fun φ n k => Z118.l0 (mkR (run E (φ 0))) (φ 0) n a b (k : Int)) (fun _ _ _ _ => rfl) (fun k => k ≤ a.length) (fun k => some ⟨o_Z118,(pb (lexc (a.drop k) (b.drop k) < 0),())⟩) (fun k => a.length - k) (fun k hk ih => ?_) 0 (Nat.zero_le _)).to ?_
    · simp only [Z118.l0_succ _ mk_ok]
      refine ev_d (fun h1 => ?_) fun h1 => ?_
      · have hka : k < a.length := by omega
        have hkb : k < b.length := by omega
        have e := lexc_step hka hkb
        refine ev_bind (idx_lt hka) (ev_bind (idx_lt hkb) (ev_b (fun h3 => ?_) fun h3 => ?_))
        · refine ev_bind (idx_lt hka) (ev_bind (idx_lt hkb) (ev_some ?_))
          have h3 : a[k] ≠ b[k] := by simpa using h3
          rw [if_pos (by rw [Ne,cmp3_zero]; exact h3)] at e
          rw [e,pb_dec,pb_congr cmp3_lt]
        · have h3 : a[k] = b[k] := by simpa using h3
          rw [if_neg (by rw [Classical.not_not,cmp3_zero]; exact h3)] at e
          rw [w64_succ (by omega),e]
          exact ih (k + 1) (by show k + 1 ≤ _; omega) (by show a.length - (k + 1) < _; omega)
      · refine ev_some ?_
        have hk : k ≤ a.length := hk
        have e : k = a.length := by omega
        subst e
        rw [List.drop_of_length_le (l := a) (by omega),List.drop_of_length_le (l := b) (by omega),lexc,pb_false (by omega)]
    · refine congrArg (fun b : Bool => some (⟨o_Z118,(b,())⟩ : Dv)) (pb_congr ?_)
      simp only [List.drop_zero]; rw [cmpS_lt]; omega

end VeT

open Go Go.Proofs Ve
set_option linter.unusedVariables false
set_option linter.unusedSimpArgs false
namespace VeT

theorem getD_lt {α : Type} {s : List α} {k : Nat} {d : α} (h : k < s.length) : s.getD k d = s[k] := by simp [List.getD_eq_getElem?_getD,h]
theorem sm_get {t : Ty} {s : List t.T} (h : Sm (.sl t) s) {k : Nat} (hk : k < s.length) : Sm t s[k] := h.2 _ (List.getElem_mem hk)
theorem sm_ints {s : Sim} (h : s.length ≤ 1048576) : Sm (.sl (.int .i64)) s := ⟨h,fun _ _ => trivial⟩

theorem l00Own_ret (s : Sim) (hs : s.length ≤ 1048576) : Ret E n_Z101 [dL s] ⟨o_Z101,(s,())⟩ := by
  refine ret_of ?_
  simp only [run_Z101,Z101.ev]
  exact ev_chk (by simp; omega) (ev_some rfl)

theorem l05Drop_ret (s : Sim) (k : Nat) (hk : k < s.length) (hs : s.length ≤ 1048576) : Ret E n_Z120 [dL s,dI (k : Int)] ⟨o_Z120,(s.eraseIdx k,())⟩ := by
  refine ret_of ?_
  simp only [run_Z120,Z120.ev]
  rw [w64_succ (by omega)]
  simp only [Int.toNat_natCast]
  refine ev_chk (by simp; omega) (ev_call (l00Own_ret _ (by simp; omega)) (ev_chk (by simp; omega) (ev_chk (by simp; omega) (ev_some ?_))))
  rw [List.eraseIdx_eq_take_drop_succ]

theorem l00SameP_ret (a b : Sim) (ha : a.length ≤ 1048576) : Ret E n_Z104 [dL a,dL b] ⟨o_Z104,(pb (a = b),())⟩ := by
  refine ret_of ?_
  simp only [run_Z104,Z104.ev]
  refine ev_b (fun h => ev_some ?_) fun h => ?_
  · have h : (a.length : Int) ≠ b.length := by simpa using h
    rw [pb_false fun e => h (by rw [e])]
  · have h : (a.length : Int) = b.length := by simpa using h
    refine Ev.start (p := fun φ n => Z104.l0 (mkR (run E (φ 0))) (φ 0) n a b 0 = _) 1 ?_ (fun _ _ _ h => h)
    refine (all_pb 1 (L := fun φ n k => Z104.l0 (mkR (run E (φ 0))) (φ 0) n a b k) (len := a.length) 0 (by omega) (fun j => a.getD j 0 = b.getD j 0) (fun b => some ⟨o_Z104,(b,())⟩) (fun _ _ _ _ => rfl) (fun k h1 h2 hP _ => ?_) (fun k r h1 h2 hP _ ih => ?_) (fun _ => ?_)).to ?_
    · simp only [Z104.l0_succ _ mk_ok]
      have hb : k < b.length := by omega
      rw [getD_lt h2,getD_lt hb] at hP
      exact ev_t (decide_eq_true (by omega)) (ev_bind (idx_lt h2) (ev_bind (idx_lt hb) (ev_t (by simpa using hP) ev_rfl)))
    · simp only [Z104.l0_succ _ mk_ok]
      have hb : k < b.length := by omega
      rw [getD_lt h2,getD_lt hb] at hP
      refine ev_t (decide_eq_true (by omega)) (ev_bind (idx_lt h2) (ev_bind (idx_lt hb) (ev_f (by simpa using hP) ?_)))
      rw [w64_succ (by omega)]; exact ih
    · simp only [Z104.l0_succ _ mk_ok]
      exact ev_f (decide_eq_false (by omega)) ev_rfl
    · refine congrArg (fun b : Bool => some (⟨o_Z104,(b,())⟩ : Dv)) (pb_congr ⟨fun hh => List.ext_getElem (by omega) fun j h1 h2 => ?_,fun hh j _ _ => by rw [hh]⟩)
      have := hh j (by omega) h1
      rwa [getD_lt h1,getD_lt h2] at this

noncomputable def findI (c : List Sim) (s : Sim) : Int := idxf (fun x => pb (x = s)) c
theorem findI_nonneg {c : List Sim} {s : Sim} : 0 ≤ findI c s ↔ s ∈ c := by
  unfold findI
  rw [idxf_nonneg]
  simp only [pb_iff]
  exact ⟨fun ⟨x,h,e⟩ => e ▸ h,fun h => ⟨s,h,rfl⟩⟩

theorem l05Find_ret (c : Cpx) (s : Sim) (hc : Sm (.sl (.sl (.int .i64))) c.1) : Ret E n_Z122 [dC c,dL s] ⟨o_Z122,(findI c.1 s,())⟩ := by
  have hc1 : c.1.length ≤ 1048576 := hc.1
  obtain ⟨o,h1,h2,h3⟩ := find_loop 1 (L := fun φ n k => Z122.l0 (mkR (run E (φ 0))) (φ 0) n c s k) (len := c.1.length) (fun k => ∃ h : k < c.1.length,pb (c.1[k] = s) = true) (fun o => some ⟨o_Z122,(o2i o,())⟩) (fun _ _ _ _ => rfl) (fun k hk hP => by
      obtain ⟨_,hP⟩ := hP
      simp only [Z122.l0_succ _ mk_ok]
      refine ev_t (decide_eq_true (by omega)) (ev_bind (idx_lt hk) (ev_call (l00SameP_ret _ _ (sm_get hc hk).1) (ev_t hP ev_rfl)))) (fun k q hk hP ih => by
      simp only [Z122.l0_succ _ mk_ok]
      refine ev_t (decide_eq_true (by omega)) (ev_bind (idx_lt hk) (ev_call (l00SameP_ret _ _ (sm_get hc hk).1) (ev_f (Bool.eq_false_iff.2 fun h => hP ⟨hk,h⟩) ?_)))
      rw [w64_succ (by omega)]; exact ih) (by
      simp only [Z122.l0_succ _ mk_ok]
      exact ev_f (decide_eq_false (by omega)) ev_rfl)
  rw [idxf_of (p := fun x => pb (x = s)) h1 h2] at h3
  refine ret_of ?_
  simp only [run_Z122,Z122.ev]
  exact Ev.start (p := fun φ n => Z122.l0 (mkR (run E (φ 0))) (φ 0) n c s 0 = _) 1 h3 (fun _ _ _ h => h)

/-! joining,faces -/
theorem run_Grow (n : Nat) (args : List Dv) : run E (n + 1) n_Z86 args = pGrow (.int .i64) (mkR (run E n)) args := rfl

theorem Grow_ret (s : Sim) (n : Int) (h0 : 0 ≤ n) (h1 : n ≤ 1048576) (hs : s.length ≤ 1048576) : Ret E n_Z86 [dL s,dI n] ⟨o_Z86,(s,())⟩ := by
  refine ret_of ?_
  simp only [run_Grow]
  refine ev_some ((if_pos (show 0 ≤ n ∧ ((List.length s : Int) + n) * (64 * (Ty.size (Ty.int IntKind.i64) : Int)) ≤ 70368744177664 from ⟨h0,?_⟩)).trans rfl)
  have : (Ty.size (Ty.int IntKind.i64)) = 1 := rfl
  rw [this]; omega

theorem Concat_ret (ll : List Sim) (hl : ll.length ≤ 1048576) (hf : ll.flatten.length ≤ 1048576) : Ret E n_Z78 [dLL ll] ⟨o_Z78,(ll.flatten,())⟩ := by
  have hle : ∀ k,(ll.take k).flatten.length ≤ ll.flatten.length := fun k => by
    have := congrArg List.length (congrArg List.flatten (List.take_append_drop k ll))
    rw [List.flatten_append,List.length_append] at this; omega
  have hst : ∀ k (h : k < ll.length),(ll.take (k + 1)).flatten = (ll.take k).flatten ++ ll[k] := fun k h => by
    rw [List.take_succ_eq_append_getElem h,List.flatten_append]; simp
  refine ret_of ?_
  simp only [run_Z78,Z78.ev]
  refine Ev.start (p := fun φ n => Z78.l0 (mkR (run E (φ 0))) (φ 0) n ll 0 ll (ll.length : Int) 0 = _) 1 ?_ (fun _ _ _ h => h)
  refine fold_loop 1 (L := fun φ n k a => Z78.l0 (mkR (run E (φ 0))) (φ 0) n ll a ll (ll.length : Int) k) (len := ll.length) (fun k => (((ll.take k).flatten.length : Nat) : Int)) (fun _ _ _ _ _ => rfl) (fun k r hk ih => ?_) ?_
  · simp only [Z78.l0_succ _ mk_ok]
    have := hle (k + 1)
    have e := hst k hk
    have e2 : w64 (((ll.take k).flatten.length : Nat) + (List.length (ll[k]) : Int)) = (((ll.take (k + 1)).flatten.length : Nat) : Int) := by
      rw [w64_small (by omega) (by rw [e,List.length_append] at this; omega),e,List.length_append]; omega
    refine ev_t (decide_eq_true (by omega)) (ev_bind (idx_lt hk) ?_)
    show Ev fun φ => (bif decide (w64 (((ll.take k).flatten.length : Nat) + (List.length (ll[k]) : Int)) < 0) then none else Z78.l0 (mkR (run E (φ 0))) (φ 0) (φ 1) ll (w64 (((ll.take k).flatten.length : Nat) + (List.length (ll[k]) : Int))) ll (ll.length : Int) (w64 ((k : Int) + 1))) = r
    rw [e2,w64_succ (by omega)]
    exact ev_f (decide_eq_false (by omega)) ih
  · simp only [Z78.l0_succ _ mk_ok]
    refine ev_f (decide_eq_false (by omega)) (ev_call (Grow_ret [] _ (by omega) (by have := hle ll.length; omega) (by simp)) ?_)
    refine Ev.start (p := fun φ n => Z78.l1 (mkR (run E (φ 0))) (φ 0) n ll (ll.length : Int) 0 [] = _) 2 ?_ (fun _ _ _ h => h)
    refine fold_loop 2 (L := fun φ n k a => Z78.l1 (mkR (run E (φ 0))) (φ 0) n ll (ll.length : Int) k a) (len := ll.length) (fun k => (ll.take k).flatten) (fun _ _ _ _ _ => rfl) (fun k r hk ih => ?_) ?_
    · simp only [Z78.l1_succ _ mk_ok]
      have := hle (k + 1)
      have e := hst k hk
      rw [e] at ih this
      rw [List.length_append] at this
      refine ev_t (decide_eq_true (by omega)) (ev_bind (idx_lt hk) (ev_chk (decide_eq_true (by show (_ + List.length ll[k]) * 8 ≤ _; omega)) ?_))
      rw [w64_succ (by omega)]
      exact ih
    · simp only [Z78.l1_succ _ mk_ok]
      refine ev_f (decide_eq_false (by omega)) (ev_some ?_)
      rw [List.take_of_length_le (Nat.le_refl _)]

def faces (s : Sim) : List Sim := if 1 < s.length then (List.range s.length).map (s.eraseIdx ·) else []

theorem faces_mem {s f : Sim} : f ∈ faces s ↔ 1 < s.length ∧ ∃ i,i < s.length ∧ f = s.eraseIdx i := by
  unfold faces
  split
  · rename_i h
    simp only [List.mem_map,List.mem_range,h,true_and]
    exact ⟨fun ⟨i,h1,h2⟩ => ⟨i,h1,h2.symm⟩,fun ⟨i,h1,h2⟩ => ⟨i,h1,h2.symm⟩⟩
  · rename_i h
    simp [h]

theorem faces_len {s f : Sim} (h : f ∈ faces s) : f.length + 1 = s.length := by
  obtain ⟨h1,i,h2,rfl⟩ := faces_mem.1 h
  rw [List.length_eraseIdx,if_pos h2]; omega

theorem faces_length {s : Sim} : (faces s).length ≤ s.length := by
  unfold faces; split <;> simp

theorem facesOf_ret (s : Sim) (hs : s.length ≤ 1048576) : Ret E n_Z29 [dL s] ⟨o_Z29,(faces s,())⟩ := by
  refine ret_of ?_
  simp only [run_Z29,Z29.ev]
  refine Ev.start (p := fun φ n => Z29.l0 (mkR (run E (φ 0))) (φ 0) n s (s.length : Int) 0 [] = _) 1 ?_ (fun _ _ _ h => h)
  by_cases h1 : 1 < s.length
  · refine fold_loop 1 (L := fun φ n k a => Z29.l0 (mkR (run E (φ 0))) (φ 0) n s (s.length : Int) k a) (len := s.length) (fun k => (List.range k).map (s.eraseIdx ·)) (fun _ _ _ _ _ => rfl) (fun k r hk ih => ?_) ?_
    · simp only [Z29.l0_succ _ mk_ok]
      rw [List.range_succ,List.map_append] at ih
      rw [w64_succ (by omega)]
      simp only [Int.toNat_natCast]
      refine ev_t (decide_eq_true (by omega)) (ev_t (decide_eq_true (by omega)) (ev_chk (by simp; omega) (ev_chk (by simp; omega) (ev_call (Concat_ret _ (by simp) (by simp; omega)) (ev_chk (by simp; omega) ?_)))))
      rw [show [s.take k,s.drop (k + 1)].flatten = s.eraseIdx k by simp [List.eraseIdx_eq_take_drop_succ]]
      exact ih
    · simp only [Z29.l0_succ _ mk_ok]
      exact ev_f (decide_eq_false (by omega)) (ev_some (by rw [faces,if_pos h1]))
  · refine fold_loop 1 (L := fun φ n k a => Z29.l0 (mkR (run E (φ 0))) (φ 0) n s (s.length : Int) k a) (len := s.length) (fun k => []) (fun _ _ _ _ _ => rfl) (fun k r hk ih => ?_) ?_
    · simp only [Z29.l0_succ _ mk_ok]
      rw [w64_succ (by omega)]
      exact ev_t (decide_eq_true (by omega)) (ev_f (decide_eq_false (by omega)) ih)
    · simp only [Z29.l0_succ _ mk_ok]
      exact ev_f (decide_eq_false (by omega)) (ev_some (by rw [faces,if_neg h1]))

/-! searching -/
def Srt (c : List Sim) : Prop := ∀ i j (h : j < c.length) (hij : i < j),cmpS c[i] c[j] < 0

theorem srt_of {c : List Sim} (h : ∀ k,1 ≤ k → k < c.length → cmpS (c.getD (k - 1) []) (c.getD k []) < 0) : Srt c := by
  intro i j
  induction j with
  | zero => intro _ h; omega
  | succ j ih =>
    intro hj hij
    have := h (j + 1) (by omega) hj
    rw [Nat.add_sub_cancel,getD_lt (by omega),getD_lt hj] at this
    by_cases e : i = j
    · subst e; exact this
    · exact cmpS_trans (ih (by omega) (by omega)) this

theorem Srt.take {c : List Sim} (h : Srt c) (k : Nat) : Srt (c.take k) := by
  intro i j hj hij
  rw [List.getElem_take,List.getElem_take]
  exact h i j (by rw [List.length_take] at hj; omega) hij

def bs (c : List Sim) (s : Sim) : Nat := c.findIdx (fun x => !decide (cmpS x s < 0))

theorem bs_le {c : List Sim} {s : Sim} : bs c s ≤ c.length := List.findIdx_le_length
theorem bs_lt {c : List Sim} {s : Sim} (hc : Srt c) {t : Nat} (h : t < c.length) : t < bs c s ↔ cmpS c[t] s < 0 := by
  constructor
  · intro ht
    have := List.not_of_lt_findIdx ht
    simpa using this
  · intro ht
    refine Classical.byContradiction fun hn => ?_
    have hb : bs c s < c.length := by omega
    have h1 : cmpS c[bs c s] s < 0 := by
      by_cases e : bs c s = t
      · simp only [e]; exact ht
      · exact cmpS_trans (hc _ _ h (by omega)) ht
    have := List.findIdx_getElem (w := hb)
    simp only [Bool.not_eq_true',decide_eq_false_iff_not] at this
    exact this h1

theorem bs_find {c : List Sim} {s : Sim} (hc : Srt c) : findI c s = if h : bs c s < c.length ∧ c.getD (bs c s) [] = s then (bs c s : Int) else -1 := by
  have e : c.findIdx? (fun x => pb (x = s)) = if bs c s < c.length ∧ c.getD (bs c s) [] = s then some (bs c s) else none := by
    split
    · rename_i h
      obtain ⟨h1,h2⟩ := h
      rw [List.findIdx?_eq_some_iff_getElem]
      rw [getD_lt h1] at h2
      refine ⟨h1,pb_true h2,fun j hj => ?_⟩
      rw [pb_iff]
      intro he
      have := (bs_lt (s := s) hc (show j < c.length by omega)).1 hj
      rw [he,cmpS_zero.2 rfl] at this
      omega
    · rename_i h
      rw [List.findIdx?_eq_none_iff]
      intro x hx
      rw [pb_not]
      rintro rfl
      obtain ⟨j,hj,rfl⟩ := List.mem_iff_getElem.1 hx
      have h0 : ¬ j < bs c c[j] := fun hlt => by
        have := (bs_lt hc hj).1 hlt
        rw [cmpS_zero.2 rfl] at this; omega
      by_cases hjb : bs c c[j] = j
      · exact h ⟨by omega,by rw [hjb,getD_lt hj]⟩
      · have hb : bs c c[j] < c.length := by omega
        have := (bs_lt (s := c[j]) hc hb).2 (hc _ _ hj (by omega))
        omega
  unfold findI idxf
  rw [e]
  split <;> rfl

theorem BinarySearch_ret (c : List Sim) (s : Sim) (hc : Sm (.sl (.sl (.int .i64))) c) (hs : Srt c) : Ret E n_Z73 [dLL c,dL s,⟨.fn n_Z21 .nil,()⟩] ⟨o_Z73,((bs c s : Int),pb (bs c s < c.length ∧ c.getD (bs c s) [] = s),())⟩ := by
  have hc1 : c.length ≤ 1048576 := hc.1
  refine ret_of ?_
  simp only [run_Z73,Z74.ev]
  refine Ev.start (p := fun φ n => Z74.l0 (mkR (run E (φ 0))) (φ 0) n c s (c.length : Int) 0 (c.length : Int) = _) 1 ?_ (fun _ _ _ h => h)
  refine loopR 1 (σ := Nat × Nat) (L := fun φ n st => Z74.l0 (mkR (run E (φ 0))) (φ 0) n c s (c.length : Int) (st.1 : Int) (st.2 : Int)) (fun _ _ _ _ => rfl) (fun st => st.1 ≤ bs c s ∧ bs c s ≤ st.2 ∧ st.2 ≤ c.length) (fun _ => _) (fun st => st.2 - st.1) (fun st hi ih => ?_) (0,c.length) ⟨Nat.zero_le _,bs_le,Nat.le_refl _⟩
  obtain ⟨i,j⟩ := st
  obtain ⟨h1,h2,h3⟩ := hi
  simp only at h1 h2 h3 ih
  simp only [Z74.l0_succ _ mk_ok]
  rw [half (by omega)]
  refine ev_d (fun hij => ?_) fun hij => ?_
  · have hh : (i + j) / 2 < c.length := by omega
    refine ev_chk (by decide) (ev_bind (idx_lt hh) (ev_call (compareSimplices_ret _ _ (sm_get hc hh)) (ev_d (fun hlt => ?_) fun hlt => ?_)))
    · rw [w64_succ (by omega)]
      have := (bs_lt hs hh).2 hlt
      exact ih ((i + j) / 2 + 1,j) ⟨this,h2,h3⟩ (by simp only; omega)
    · have : ¬ (i + j) / 2 < bs c s := fun h => hlt ((bs_lt hs hh).1 h)
      exact ih (i,(i + j) / 2) ⟨h1,by simp only; omega,by simp only; omega⟩ (by simp only; omega)
  · have e : i = bs c s := by omega
    subst e
    refine ev_d (fun hl => ?_) fun hl => ev_some ?_
    · have hh : bs c s < c.length := by omega
      refine ev_bind (idx_lt hh) (ev_call (compareSimplices_ret _ _ (sm_get hc hh)) (ev_some ?_))
      have : (cmpS c[bs c s] s == 0) = pb (bs c s < c.length ∧ c.getD (bs c s) [] = s) := eq_pb (by
        rw [getD_lt hh,beq_iff_eq,cmpS_zero]; exact ⟨fun h => ⟨hh,h⟩,fun h => h.2⟩)
      rw [this]
    · rw [pb_false fun h => hl (by omega)]

theorem indexOf_ret (c : List Sim) (s : Sim) (hc : Sm (.sl (.sl (.int .i64))) c) (hs : Srt c) : Ret E n_Z36 [dLL c,dL s] ⟨o_Z36,(findI c s,())⟩ := by
  refine ret_of ?_
  simp only [run_Z36,Z36.ev]
  refine ev_call (BinarySearch_ret c s hc hs) (ev_b (fun h => ev_some ?_) fun h => ev_some ?_)
  · rw [bs_find hs,dif_neg (pb_not.1 (by simpa using h))]
  · rw [bs_find hs,dif_pos (pb_iff.1 (by simpa using h))]

end VeT

open Go Go.Proofs Ve
set_option linter.unusedVariables false
set_option linter.unusedSimpArgs false
namespace VeT

/-- valid complexes -/
def VC (c : List Sim) : Prop := c.length ≤ 48 ∧ (∀ k,k < c.length → Vx (c.getD k [])) ∧ (∀ k,1 ≤ k → k < c.length → cmpS (c.getD (k - 1) []) (c.getD k []) < 0) ∧ ∀ k,k < c.length → ∀ f ∈ faces (c.getD k []),f ∈ c

theorem VC.srt {c : List Sim} (h : VC c) : Srt c := srt_of h.2.2.1

def VCimpl (c : List Sim) (k : Nat) : Prop := (Vx (c.getD k []) ∧ (1 ≤ k → cmpS (c.getD (k - 1) []) (c.getD k []) < 0)) ∧ ∀ f ∈ faces (c.getD k []),f ∈ c.take k

theorem VC_impl {c : List Sim} : ((∀ k,0 ≤ k → k < c.length → VCimpl c k) ∧ c.length ≤ 48) ↔ VC c := by
  constructor
  · rintro ⟨h,hl⟩
    exact ⟨hl,fun k hk => (h k (by omega) hk).1.1,fun k h1 hk => (h k (by omega) hk).1.2 h1,fun k hk f hf => List.mem_of_mem_take ((h k (by omega) hk).2 f hf)⟩
  · intro h
    have hs := h.srt
    obtain ⟨hl,h1,h2,h3⟩ := h
    refine ⟨fun k _ hk => ⟨⟨h1 k hk,fun hk1 => h2 k hk1 hk⟩,fun f hf => ?_⟩,hl⟩
    have hm := h3 k hk f hf
    have hlen := faces_len hf
    rw [getD_lt hk] at hlen
    obtain ⟨i,hi,rfl⟩ := List.mem_iff_getElem.1 hm
    have hlt : cmpS c[i] c[k] < 0 := cmpS_lt.2 (.inl (by omega))
    have hik : i < k := Classical.byContradiction fun hn => by
      by_cases e : i = k
      · subst e; omega
      · have := hs k i hi (by omega)
        rw [cmpS_neg] at this; omega
    exact List.mem_iff_getElem.2 ⟨i,by rw [List.length_take]; omega,by rw [List.getElem_take]⟩

theorem sm_take {t : Ty} {s : List t.T} (h : Sm (.sl t) s) (k : Nat) : Sm (.sl t) (s.take k) := ⟨by have h1 : s.length ≤ 1048576 := h.1; show (s.take k).length ≤ _; rw [List.length_take]; omega,fun x hx => h.2 x (List.mem_of_mem_take hx)⟩

theorem ValidComplex_1_ret (c : List Sim) (f : Sim) (k : Nat) (hk : k ≤ c.length) (hc : Sm (.sl (.sl (.int .i64))) c) (hs : Srt (c.take k)) :
    Ret E n_Z9 [dL f,dC (c,()),⟨.ptr (.cons (.int .i64) .nil),((k : Int),())⟩] ⟨o_Z9,(pb (¬ f ∈ c.take k),())⟩ := by
  refine ret_of ?_
  simp only [run_Z9,Z9.ev]
  simp only [Int.toNat_natCast]
  refine ev_chk (by simp; omega) (ev_call (indexOf_ret _ f (sm_take hc k) hs) (ev_some ?_))
  simp only [pb_dec,pb_congr (show findI (c.take k) f < 0 ↔ ¬ f ∈ c.take k by rw [← findI_nonneg]; omega)]

theorem ValidComplex_ret (c : List Sim) (hc : Sm (.sl (.sl (.int .i64))) c) : Ret E n_Z8 [dLL c] ⟨o_Z8,(pb (VC c),())⟩ := by
  have hc1 : c.length ≤ 1048576 := hc.1
  refine ret_of ?_
  simp only [run_Z8,Z8.ev]
  refine Ev.start (p := fun φ n => Z8.l0 (mkR (run E (φ 0))) (φ 0) n c (c.length : Int) 0 c = _) 1 ?_ (fun _ _ _ h => h)
  have key : ∀ (n : Nat) (k : Nat) (hk : k < c.length) (hpre : ∀ j,0 ≤ j → j < k → VCimpl c j),Srt (c.take k) := fun n k hk hpre => srt_of fun j h1 h2 => by
    rw [List.length_take] at h2
    have := (hpre j (by omega) (by omega)).1.2 h1
    rw [getD_lt (by omega),getD_lt (by omega)] at this
    rw [getD_lt (by rw [List.length_take]; omega),getD_lt (by rw [List.length_take]; omega),List.getElem_take,List.getElem_take]
    exact this
  have hcon : ∀ (k : Nat) (hk : k < c.length) (hpre : ∀ j,0 ≤ j → j < k → VCimpl c j),Ret E n_Z79 [dLL (faces c[k]),⟨.fn n_Z9 (.cons (.ptr (.cons (.sl (.sl (.int .i64))) .nil)) (.cons (.ptr (.cons (.int .i64) .nil)) .nil)),((c,()),((k : Int),()),())⟩] ⟨o_Z79,(pb (∃ x ∈ faces c[k],pb (¬ x ∈ c.take k) = true),())⟩ := fun k hk hpre =>
    ContainsFunc_SSint64_Sint64_impl_ValidComplex_1_ret (faces c[k]) ((c,()),((k : Int),()),()) _ (Nat.le_trans faces_length (sm_get hc hk).1) fun x hx => ValidComplex_1_ret c x k (by omega) hc (key 0 k hk hpre)
  refine (all_pb 1 (L := fun φ n k => Z8.l0 (mkR (run E (φ 0))) (φ 0) n c (c.length : Int) k c) (len := c.length) 0 (by omega) (VCimpl c) (fun b => some ⟨o_Z8,(b && decide ((c.length : Int) ≤ 48),())⟩) (fun _ _ _ _ => rfl) (fun k h1 h2 hP hpre => ?_) (fun k r h1 h2 hP hpre ih => ?_) (fun _ => ?_)).to ?_
  · simp only [Z8.l0_succ _ mk_ok]
    refine ev_t (decide_eq_true (by omega)) (ev_bind (idx_lt h2) (ev_call (ValidSimplex_ret _ (sm_get hc h2)) ?_))
    refine ev_b (fun hv => ?_) fun hv => ?_
    · simp only [Z8.j1_eq _ mk_ok,cond_true]; (first | exact ev_rfl | exact Ev.of fun _ => trivial)
    · have hv : Vx c[k] := pb_iff.1 (by simpa using hv)
      have last : (1 ≤ k → cmpS (c.getD (k - 1) []) (c.getD k []) < 0) → Ev fun φ => Z8.j1 (mkR (run E (φ 0))) (φ 0) (φ 1) c[k] c (c.length : Int) (k : Int) false c (k : Int) = some ⟨o_Z8,(false,())⟩ := fun hcm => by
        simp only [Z8.j1_eq _ mk_ok,cond_false]
        refine ev_call (facesOf_ret _ (sm_get hc h2).1) (ev_call (hcon k h2 hpre) (ev_t ?_ ev_rfl))
        refine pb_true (Classical.byContradiction fun hn => hP ⟨⟨by rw [getD_lt h2]; exact hv,hcm⟩,fun f hf => Classical.byContradiction fun hnf => hn ⟨f,by rw [getD_lt h2] at hf; exact hf,pb_true hnf⟩⟩)
      refine ev_d (fun hk => ?_) fun hk => ?_
      · rw [w64_small (by omega) (by omega),show ((k : Int) - 1) = ((k - 1 : Nat) : Int) by omega]
        have hk1 : k - 1 < c.length := by omega
        refine ev_bind (idx_lt hk1) (ev_call (compareSimplices_ret _ _ (sm_get hc hk1)) ?_)
        by_cases hcm : cmpS c[k - 1] c[k] < 0
        · simp only [show decide (cmpS c[k - 1] c[k] ≥ 0) = false from decide_eq_false (by omega)]
          exact last fun _ => by rw [getD_lt hk1,getD_lt h2]; exact hcm
        · simp only [show decide (cmpS c[k - 1] c[k] ≥ 0) = true from decide_eq_true (by omega),Z8.j1_eq _ mk_ok,cond_true]
          (first | exact ev_rfl | exact Ev.of fun _ => trivial)
      · exact last fun h => absurd h (by omega)
  · simp only [Z8.l0_succ _ mk_ok]
    have hP' := hP
    obtain ⟨⟨hv,hcm⟩,hfc⟩ := hP'
    rw [getD_lt h2] at hv hfc
    refine ev_t (decide_eq_true (by omega)) (ev_bind (idx_lt h2) (ev_call (ValidSimplex_ret _ (sm_get hc h2)) (ev_f (by rw [pb_true hv]; rfl) ?_)))
    have last : Ev fun φ => Z8.j1 (mkR (run E (φ 0))) (φ 0) (φ 1) c[k] c (c.length : Int) (k : Int) false c (k : Int) = r := by
      simp only [Z8.j1_eq _ mk_ok,cond_false]
      refine ev_call (facesOf_ret _ (sm_get hc h2).1) (ev_call (hcon k h2 hpre) (ev_f ?_ ?_))
      · exact pb_false fun ⟨x,hx,hn⟩ => pb_iff.1 hn (hfc x hx)
      · rw [w64_succ (by omega)]; exact ih
    refine ev_d (fun hk => ?_) fun hk => last
    rw [w64_small (by omega) (by omega),show ((k : Int) - 1) = ((k - 1 : Nat) : Int) by omega]
    have hk1 : k - 1 < c.length := by omega
    have hcm := hcm (by omega)
    rw [getD_lt hk1,getD_lt h2] at hcm
    refine ev_bind (idx_lt hk1) (ev_call (compareSimplices_ret _ _ (sm_get hc hk1)) ?_)
    simp only [show decide (cmpS c[k - 1] c[k] ≥ 0) = false from decide_eq_false (by omega)]
    exact last
  · simp only [Z8.l0_succ _ mk_ok]
    exact ev_f (decide_eq_false (by omega)) (ev_some (by rw [Bool.true_and]))
  · have : (pb (∀ j,0 ≤ j → j < c.length → VCimpl c j) && decide ((c.length : Int) ≤ 48)) = pb (VC c) := eq_pb (by
      rw [Bool.and_eq_true,pb_iff,decide_eq_true_iff,← VC_impl]
      exact ⟨fun h => ⟨h.1,by omega⟩,fun h => ⟨h.1,by omega⟩⟩)
    rw [this]

def VCspec (c : List Sim) (k : Nat) : Prop := (Vx (c.getD k []) ∧ (1 ≤ k → cmpS (c.getD (k - 1) []) (c.getD k []) < 0)) ∧ ∀ f ∈ faces (c.getD k []),f ∈ c

theorem l05Ok_ret (c : Cpx) (hc : Sm (.sl (.sl (.int .i64))) c.1) : Ret E n_Z124 [dC c] ⟨o_Z124,(pb (VC c.1),())⟩ := by
  have hc1 : c.1.length ≤ 1048576 := hc.1
  refine ret_of ?_
  simp only [run_Z124,Z124.ev]
  refine ev_d (fun h => ev_some ?_) fun h48 => ?_
  · rw [pb_false fun hv => by have := hv.1; omega]
  refine Ev.start (p := fun φ n => Z124.l0 (mkR (run E (φ 0))) (φ 0) n c 0 = _) 1 ?_ (fun _ _ _ h => h)
  -- the inner loop
  have inner : ∀ (k : Nat) (h2 : k < c.1.length) (r : Option Dv),((∀ f ∈ faces c.1[k],f ∈ c.1) → Ev fun φ => Z124.l0 (mkR (run E (φ 0))) (φ 0) (φ 1) c ((k + 1 : Nat) : Int) = r) → (¬ (∀ f ∈ faces c.1[k],f ∈ c.1) → r = some ⟨o_Z124,(false,())⟩) → Ev fun φ => Z124.l2 (mkR (run E (φ 0))) (φ 0) (φ 1) (φ 0) c (k : Int) c.1[k] 0 = r := fun k h2 r hgo hstop => by
    have hks : (c.1[k]).length ≤ 1048576 := (sm_get hc h2).1
    refine Ev.start (p := fun φ n => Z124.l2 (mkR (run E (φ 0))) (φ 0) (φ 1) n c (k : Int) c.1[k] 0 = _) 2 ?_ (fun _ _ _ h => h)
    by_cases hlen : 1 < (c.1[k]).length
    · obtain ⟨t,f⟩ := all_loop 2 (L := fun φ n i => Z124.l2 (mkR (run E (φ 0))) (φ 0) (φ 1) n c (k : Int) c.1[k] i) (len := (c.1[k]).length) 0 (by omega) (fun i => (c.1[k]).eraseIdx i ∈ c.1) (rt := r) (rf := some ⟨o_Z124,(false,())⟩) (fun _ _ _ _ => rfl) (fun i _ hi hP _ => by
        simp only [Z124.l2_succ _ mk_ok]
        refine ev_t (decide_eq_true (by omega)) ?_
        simp only [show decide (((c.1[k]).length : Int) > 1) = true from decide_eq_true (by omega),Z124.j3_eq _ mk_ok,cond_true]
        refine ev_call (l05Drop_ret _ i hi hks) (ev_call (l05Find_ret c _ hc) (ev_t (decide_eq_true ?_) ev_rfl))
        have hq := mt (findI_nonneg (c := c.1) (s := (c.1[k]).eraseIdx i)).1 hP; simp only; exact Int.not_le.1 hq) (fun i q _ hi hP _ ih => by
        simp only [Z124.l2_succ _ mk_ok]
        refine ev_t (decide_eq_true (by omega)) ?_
        simp only [show decide (((c.1[k]).length : Int) > 1) = true from decide_eq_true (by omega),Z124.j3_eq _ mk_ok,cond_true]
        refine ev_call (l05Drop_ret _ i hi hks) (ev_call (l05Find_ret c _ hc) (ev_f (decide_eq_false ?_) ?_))
        · have hq := (findI_nonneg (c := c.1) (s := (c.1[k]).eraseIdx i)).2 hP; simp only; exact Int.not_lt.2 hq
        · rw [w64_succ (by omega)]; exact ih) (fun hall => by
        simp only [Z124.l2_succ _ mk_ok]
        refine ev_f (decide_eq_false (by omega)) ?_
        simp only [Z124.j3_eq _ mk_ok,cond_false]
        rw [w64_succ (by omega)]
        exact hgo fun f hf => by
          obtain ⟨_,i,hi,rfl⟩ := faces_mem.1 hf
          exact hall i (by omega) hi)
      by_cases hall : ∀ i,0 ≤ i → i < (c.1[k]).length → (c.1[k]).eraseIdx i ∈ c.1
      · exact t hall
      · rw [hstop fun hf => hall fun i _ hi => hf _ (faces_mem.2 ⟨hlen,i,hi,rfl⟩)]
        exact f hall
    · refine Ev.round 2 (L := fun φ n => Z124.l2 (mkR (run E (φ 0))) (φ 0) (φ 1) n c (k : Int) c.1[k] 0) ?_ (fun _ _ _ => rfl)
      have hgo := hgo fun f hf => absurd (faces_mem.1 hf).1 hlen
      have hj : Ev fun φ => Z124.j3 (mkR (run E (φ 0))) (φ 0) (φ 1) (φ 2) c (k : Int) c.1[k] 0 false = r := by
        simp only [Z124.j3_eq _ mk_ok,cond_false]
        rw [w64_succ (by omega)]; exact hgo
      simp only [Z124.l2_succ _ mk_ok]
      refine ev_d (fun _ => ?_) fun _ => hj
      simp only [show decide (((c.1[k]).length : Int) > 1) = false from decide_eq_false (by omega)]
      exact hj
  refine (all_pb 1 (L := fun φ n k => Z124.l0 (mkR (run E (φ 0))) (φ 0) n c k) (len := c.1.length) 0 (by omega) (VCspec c.1) (fun b => some ⟨o_Z124,(b,())⟩) (fun _ _ _ _ => rfl) (fun k h1 h2 hP hpre => ?_) (fun k r h1 h2 hP hpre ih => ?_) (fun _ => ?_)).to ?_
  · simp only [Z124.l0_succ _ mk_ok]
    refine ev_t (decide_eq_true (by omega)) (ev_bind (idx_lt h2) (ev_call (l05Simplex_ret _ (sm_get hc h2)) ?_))
    refine ev_b (fun hv => ?_) fun hv => ?_
    · simp only [Z124.j1_eq _ mk_ok,cond_true]; (first | exact ev_rfl | exact Ev.of fun _ => trivial)
    · have hv : Vx c.1[k] := pb_iff.1 (by simpa using hv)
      have last : (1 ≤ k → cmpS (c.1.getD (k - 1) []) (c.1.getD k []) < 0) → Ev fun φ => Z124.j1 (mkR (run E (φ 0))) (φ 0) (φ 1) c (k : Int) c.1[k] false = some ⟨o_Z124,(false,())⟩ := fun hcm => by
        simp only [Z124.j1_eq _ mk_ok,cond_false]
        refine inner k h2 _ (fun hf => absurd ⟨⟨by rw [getD_lt h2]; exact hv,hcm⟩,by rw [getD_lt h2]; exact hf⟩ hP) fun _ => rfl
      refine ev_d (fun hk => ?_) fun hk => ?_
      · rw [w64_small (by omega) (by omega),show ((k : Int) - 1) = ((k - 1 : Nat) : Int) by omega]
        have hk1 : k - 1 < c.1.length := by omega
        refine ev_bind (idx_lt hk1) (ev_call (l05Before_ret _ _ (sm_get hc hk1)) ?_)
        by_cases hcm : cmpS c.1[k - 1] c.1[k] < 0
        · simp only [pb_true hcm]
          exact last fun _ => by rw [getD_lt hk1,getD_lt h2]; exact hcm
        · simp only [pb_false hcm,Z124.j1_eq _ mk_ok,cond_true,Bool.not_false]
          (first | exact ev_rfl | exact Ev.of fun _ => trivial)
      · exact last fun h => absurd h (by omega)
  · simp only [Z124.l0_succ _ mk_ok]
    obtain ⟨⟨hv,hcm⟩,hfc⟩ := hP
    rw [getD_lt h2] at hv hfc
    refine ev_t (decide_eq_true (by omega)) (ev_bind (idx_lt h2) (ev_call (l05Simplex_ret _ (sm_get hc h2)) (ev_f (by rw [pb_true hv]; rfl) ?_)))
    have last : Ev fun φ => Z124.j1 (mkR (run E (φ 0))) (φ 0) (φ 1) c (k : Int) c.1[k] false = r := by
      simp only [Z124.j1_eq _ mk_ok,cond_false]
      exact inner k h2 _ (fun _ => ih) fun hn => absurd hfc hn
    refine ev_d (fun hk => ?_) fun hk => last
    rw [w64_small (by omega) (by omega),show ((k : Int) - 1) = ((k - 1 : Nat) : Int) by omega]
    have hk1 : k - 1 < c.1.length := by omega
    have hcm := hcm (by omega)
    rw [getD_lt hk1,getD_lt h2] at hcm
    refine ev_bind (idx_lt hk1) (ev_call (l05Before_ret _ _ (sm_get hc hk1)) ?_)
    simp only [pb_true hcm,Bool.not_true]
    exact last
  · simp only [Z124.l0_succ _ mk_ok]
    exact ev_f (decide_eq_false (by omega)) ev_rfl
  · have : pb (∀ j,0 ≤ j → j < c.1.length → VCspec c.1 j) = pb (VC c.1) := pb_congr
      ⟨fun h => ⟨by omega,fun k hk => (h k (by omega) hk).1.1,fun k h1 hk => (h k (by omega) hk).1.2 h1,fun k hk => (h k (by omega) hk).2⟩,
       fun h k _ hk => ⟨⟨h.2.1 k hk,fun h1 => h.2.2.1 k h1 hk⟩,h.2.2.2 k hk⟩⟩
    rw [this]

end VeT

open Go Go.Proofs Ve
set_option linter.unusedVariables false
set_option linter.unusedSimpArgs false
namespace VeT

/-- primes up to 251 -/
def Pr (p : Int) : Prop := 2 ≤ p ∧ p ≤ 251 ∧ ∀ k : Nat,2 ≤ k → (k : Int) * k ≤ p → p % k ≠ 0

theorem ValidPrime_ret (p : Int) : Ret E n_Z10 [dI p] ⟨o_Z10,(pb (Pr p),())⟩ := by
  refine ret_of ?_
  simp only [run_Z10,Z10.ev]
  refine ev_call (within_ret _ _ _) (ev_b (fun h => ev_some ?_) fun h => ?_)
  · have h : ¬ (2 ≤ p ∧ p ≤ 251) := pb_not.1 (by simpa using h)
    rw [pb_false fun hp => h ⟨hp.1,hp.2.1⟩]
  have hr : 2 ≤ p ∧ p ≤ 251 := pb_iff.1 (by simpa using h)
  refine Ev.start (p := fun φ n => Z10.l0 (mkR (run E (φ 0))) (φ 0) n p 2 = _) 1 ?_ (fun _ _ _ h => h)
  refine loopR 1 (σ := Nat) (L := fun φ n k => Z10.l0 (mkR (run E (φ 0))) (φ 0) n p (k : Int)) (fun _ _ _ _ => rfl) (fun k => 2 ≤ k ∧ k ≤ 17 ∧ ∀ j : Nat,2 ≤ j → j < k → (j : Int) * j ≤ p → p % j ≠ 0) (fun _ => _) (fun k => 17 - k) (fun k ⟨h1,h2,h3⟩ ih => ?_) 2 ⟨by omega,by omega,fun j _ _ => by omega⟩
  simp only [Z10.l0_succ _ mk_ok]
  have hkk : 0 ≤ (k : Int) * k ∧ (k : Int) * k ≤ 289 := ⟨Int.mul_nonneg (by omega) (by omega),by have := Nat.mul_le_mul h2 h2; omega⟩
  have e : w64 ((k : Int) * k) = (k : Int) * k := w64_small (by omega) (by omega)
  simp only [e]
  refine ev_d (fun hle => ?_) fun hle => ev_some ?_
  · have hk16 : k < 16 := Classical.byContradiction fun hn => by
      have := Nat.mul_le_mul (show 16 ≤ k by omega) (show 16 ≤ k by omega); omega
    refine ev_chk (by simp; omega) ?_
    rw [Int.tmod_eq_emod_of_nonneg (by omega)]
    refine ev_b (fun h0 => ev_some ?_) fun h0 => ?_
    · rw [pb_false fun hp => hp.2.2 k h1 hle (by simpa using h0)]
    · rw [w64_succ (by omega)]
      refine ih (k + 1) ⟨by omega,by omega,fun j hj1 hj2 hj3 => ?_⟩ (by show 17 - (k + 1) < 17 - k; omega)
      by_cases hjk : j = k
      · subst hjk; simpa using h0
      · exact h3 j hj1 (by omega) hj3
  · rw [pb_true]
    refine ⟨hr.1,hr.2,fun j hj1 hj2 => ?_⟩
    by_cases hjk : j < k
    · exact h3 j hj1 hjk hj2
    · exfalso
      have := Nat.mul_le_mul (show k ≤ j by omega) (show k ≤ j by omega); omega

theorem l02Prime_ret (p : Int) : Ret E n_Z105 [dI p] ⟨o_Z105,(pb (Pr p),())⟩ := by
  refine ret_of ?_
  simp only [run_Z105,Z105.ev]
  refine ev_call (l00In_ret _ _ _) (ev_b (fun h => ev_some ?_) fun h => ?_)
  · have h : ¬ (2 ≤ p ∧ p ≤ 251) := pb_not.1 (by simpa using h)
    rw [pb_false fun hp => h ⟨hp.1,hp.2.1⟩]
  have hr : 2 ≤ p ∧ p ≤ 251 := pb_iff.1 (by simpa using h)
  refine Ev.start (p := fun φ n => Z105.l0 (mkR (run E (φ 0))) (φ 0) n p 2 = _) 1 ?_ (fun _ _ _ h => h)
  refine loopR 1 (σ := Nat) (L := fun φ n k => Z105.l0 (mkR (run E (φ 0))) (φ 0) n p (k : Int)) (fun _ _ _ _ => rfl) (fun k => 2 ≤ k ∧ k ≤ 17 ∧ ∀ j : Nat,2 ≤ j → j < k → (j : Int) * j ≤ p → p % j ≠ 0) (fun _ => _) (fun k => 17 - k) (fun k ⟨h1,h2,h3⟩ ih => ?_) 2 ⟨by omega,by omega,fun j _ _ => by omega⟩
  simp only [Z105.l0_succ _ mk_ok]
  have hkk : 0 ≤ (k : Int) * k ∧ (k : Int) * k ≤ 289 := ⟨Int.mul_nonneg (by omega) (by omega),by have := Nat.mul_le_mul h2 h2; omega⟩
  have e : w64 ((k : Int) * k) = (k : Int) * k := w64_small (by omega) (by omega)
  simp only [e]
  refine ev_d (fun hle => ?_) fun hle => ev_some ?_
  · have hk16 : k < 16 := Classical.byContradiction fun hn => by
      have := Nat.mul_le_mul (show 16 ≤ k by omega) (show 16 ≤ k by omega); omega
    refine ev_chk (by simp; omega) ?_
    rw [Int.tmod_eq_emod_of_nonneg (by omega)]
    refine ev_b (fun h0 => ev_some ?_) fun h0 => ?_
    · rw [pb_false fun hp => hp.2.2 k h1 hle (by simpa using h0)]
    · rw [w64_succ (by omega)]
      refine ih (k + 1) ⟨by omega,by omega,fun j hj1 hj2 hj3 => ?_⟩ (by show 17 - (k + 1) < 17 - k; omega)
      by_cases hjk : j = k
      · subst hjk; simpa using h0
      · exact h3 j hj1 (by omega) hj3
  · rw [pb_true]
    refine ⟨hr.1,hr.2,fun j hj1 hj2 => ?_⟩
    by_cases hjk : j < k
    · exact h3 j hj1 hjk hj2
    · exfalso
      have := Nat.mul_le_mul (show k ≤ j by omega) (show k ≤ j by omega); omega

theorem specValidPrime_ret (p : Int) : Ret E n_Z98 [dI p] ⟨o_Z98,(pb (Pr p),())⟩ := by
  refine ret_of ?_
  simp only [run_Z98,Z98.ev]
  exact ev_call (l02Prime_ret p) ev_rfl

/-! matrices -/
def Elems (v : Sim) (p : Int) : Prop := ∀ x ∈ v,0 ≤ x ∧ x ≤ p - 1

theorem none_bad {α : Type} {s : List α} {P : α → Prop} : (!pb (∃ x ∈ s,(!pb (P x)) = true)) = pb (∀ x ∈ s,P x) := eq_pb (by
  simp only [Bool.not_eq_true',pb_not]
  exact ⟨fun h x hx => Classical.byContradiction fun hn => h ⟨x,hx,hn⟩,fun h ⟨x,hx,hn⟩ => hn (h x hx)⟩)

theorem sizeI_ret (s : Sim) : Ret E n_Z55 [dL s] ⟨o_Z55,((s.length : Int),())⟩ := by
  refine ret_of ?_
  simp only [run_Z55,Z55.ev]
  (first | exact ev_rfl | exact Ev.of fun _ => trivial)

theorem sizeL_ret (s : List Sim) : Ret E n_Z54 [dLL s] ⟨o_Z54,((s.length : Int),())⟩ := by
  refine ret_of ?_
  simp only [run_Z54,Z54.ev]
  (first | exact ev_rfl | exact Ev.of fun _ => trivial)

/-- valid matrices -/
def VM (m : Mat) : Prop := Pr m.1 ∧ (0 ≤ m.2.1 ∧ m.2.1 ≤ 32) ∧ (0 ≤ m.2.2.1 ∧ m.2.2.1 ≤ 32) ∧ (m.2.2.2.1.length : Int) = m.2.1 * m.2.2.1 ∧ Elems m.2.2.2.1 m.1

def Bt (m : Mat) (p f t : Int) : Prop := VM m ∧ m.1 = p ∧ m.2.1 = t ∧ m.2.2.1 = f

/-! stalks -/
def ofDim (c : List Sim) (d : Int) (k : Nat) : List Int := ((List.range k).filter fun i => decide (((c.getD i []).length : Int) = d + 1)).map Int.ofNat

theorem ofDim_succ (c : List Sim) (d : Int) (k : Nat) : ofDim c d (k + 1) = ofDim c d k ++ if ((c.getD k []).length : Int) = d + 1 then [(k : Int)] else [] := by
  unfold ofDim
  rw [List.range_succ,List.filter_append,List.map_append]
  congr 1
  by_cases h : ((c.getD k []).length : Int) = d + 1
  · rw [if_pos h,List.filter_cons_of_pos (by simpa using h)]; rfl
  · rw [if_neg h,List.filter_cons_of_neg (by simpa using h)]; rfl

theorem ofDim_length (c : List Sim) (d : Int) (k : Nat) : (ofDim c d k).length ≤ k := by
  unfold ofDim
  rw [List.length_map]
  exact Nat.le_trans (List.length_filter_le _ _) (by simp)

theorem ofDim_mem {c : List Sim} {d : Int} {k : Nat} {x : Int} (h : x ∈ ofDim c d k) : ∃ i : Nat,x = i ∧ i < k := by
  unfold ofDim at h
  rw [List.mem_map] at h
  obtain ⟨i,hi,rfl⟩ := h
  exact ⟨i,rfl,by have := (List.mem_filter.1 hi).1; simpa using this⟩

theorem simplicesOf_ret (c : List Sim) (d : Int) (hc : Sm (.sl (.sl (.int .i64))) c) (hd : -1 ≤ d ∧ d ≤ 1048576) : Ret E n_Z53 [dLL c,dI d] ⟨o_Z53,(ofDim c d c.length,())⟩ := by
  have hc1 : c.length ≤ 1048576 := hc.1
  have hd1 : w64 (d + 1) = d + 1 := w64_small (by omega) (by omega)
  refine ret_of ?_
  simp only [run_Z53,Z53.ev]
  refine Ev.start (p := fun φ n => Z53.l0 (mkR (run E (φ 0))) (φ 0) n d c (c.length : Int) 0 [] = _) 1 ?_ (fun _ _ _ h => h)
  refine fold_loop 1 (L := fun φ n k a => Z53.l0 (mkR (run E (φ 0))) (φ 0) n d c (c.length : Int) k a) (len := c.length) (fun k => ofDim c d k) (fun _ _ _ _ _ => rfl) (fun k r hk ih => ?_) ?_
  · simp only [Z53.l0_succ _ mk_ok,hd1]
    rw [ofDim_succ,getD_lt hk] at ih
    have hlen := ofDim_length c d k
    refine ev_t (decide_eq_true (by omega)) (ev_bind (idx_lt hk) (ev_call (sizeI_ret _) ?_))
    rw [w64_succ (by omega)]
    refine ev_b (fun he => ev_chk (decide_eq_true (by simp only [List.length_cons,List.length_nil]; omega)) ?_) fun he => ?_
    · rw [if_pos (by simpa using he)] at ih; exact ih
    · rw [if_neg (by simpa using he),List.append_nil] at ih; exact ih
  · simp only [Z53.l0_succ _ mk_ok]
    exact ev_f (decide_eq_false (by omega)) ev_rfl

theorem l05Of_ret (c : List Sim) (d : Int) (hc : Sm (.sl (.sl (.int .i64))) c) (hd : -1 ≤ d ∧ d ≤ 1048576) : Ret E n_Z123 [dC (c,()),dI d] ⟨o_Z123,(ofDim c d c.length,())⟩ := by
  have hc1 : c.length ≤ 1048576 := hc.1
  have hd1 : w64 (d + 1) = d + 1 := w64_small (by omega) (by omega)
  refine ret_of ?_
  simp only [run_Z123,Z123.ev]
  refine Ev.start (p := fun φ n => Z123.l0 (mkR (run E (φ 0))) (φ 0) n (c,()) d 0 [] = _) 1 ?_ (fun _ _ _ h => h)
  refine fold_loop 1 (L := fun φ n k a => Z123.l0 (mkR (run E (φ 0))) (φ 0) n (c,()) d k a) (len := c.length) (fun k => ofDim c d k) (fun _ _ _ _ _ => rfl) (fun k r hk ih => ?_) ?_
  · simp only [Z123.l0_succ _ mk_ok,hd1]
    rw [ofDim_succ,getD_lt hk] at ih
    have hlen := ofDim_length c d k
    refine ev_t (decide_eq_true (by omega)) (ev_bind (idx_lt hk) ?_)
    rw [w64_succ (by omega)]
    refine ev_b (fun he => ev_chk (decide_eq_true (by simp only [List.length_cons,List.length_nil]; omega)) ?_) fun he => ?_
    · rw [if_pos (by simpa using he)] at ih; exact ih
    · rw [if_neg (by simpa using he),List.append_nil] at ih; exact ih
  · simp only [Z123.l0_succ _ mk_ok]
    exact ev_f (decide_eq_false (by omega)) ev_rfl

/-- the sum of the stalks of a dimension -/
def sumD (c : List Sim) (st : Sim) (d : Int) (k : Nat) : Int := (((ofDim c d c.length).take k).map fun i => st.getD i.toNat 0).sum

end VeT

open Go Go.Proofs Ve
set_option linter.unusedVariables false
set_option linter.unusedSimpArgs false
namespace VeT

/-- the sum of a dimension's stalks -/
def SD (c : List Sim) (st : Sim) (d : Int) : Int := sumD c st d (ofDim c d c.length).length

/-- stalks -/
def SK (c : List Sim) (st : Sim) : Prop := st.length = c.length ∧ (∀ x ∈ st,0 ≤ x ∧ x ≤ 3) ∧ ∀ d : Nat,d < 4 → SD c st (d : Int) ≤ 32

/-! faces' indices -/
noncomputable def fIdx (c : List Sim) (k : Nat) : List Int := (faces (c.getD k [])).map (findI c)

theorem findI_lt {c : List Sim} {s : Sim} : findI c s < c.length ∧ -1 ≤ findI c s := by
  unfold findI idxf
  cases h : c.findIdx? (fun x => pb (x = s)) with
  | none => simp only [o2i]; omega
  | some k =>
    rw [List.findIdx?_eq_some_iff_getElem] at h
    obtain ⟨h,_⟩ := h
    simp only [o2i]; omega

theorem fIdx_length {c : List Sim} {k : Nat} : (fIdx c k).length = if 1 < (c.getD k []).length then (c.getD k []).length else 0 := by
  unfold fIdx faces
  rw [List.length_map]
  split <;> simp

theorem fIdx_mem {c : List Sim} (h : VC c) {k : Nat} (hk : k < c.length) {x : Int} (hx : x ∈ fIdx c k) : 0 ≤ x ∧ x < c.length := by
  unfold fIdx at hx
  rw [List.mem_map] at hx
  obtain ⟨f,hf,rfl⟩ := hx
  exact ⟨findI_nonneg.2 (h.2.2.2 k hk f hf),findI_lt.1⟩

theorem faceIndices_ret (c : List Sim) (k : Nat) (hk : k < c.length) (hc : Sm (.sl (.sl (.int .i64))) c) (hs : Srt c) : Ret E n_Z28 [dLL c,dI (k : Int)] ⟨o_Z28,(fIdx c k,())⟩ := by
  have hks : (c[k]).length ≤ 1048576 := (sm_get hc hk).1
  have hfl := faces_length (s := c[k])
  refine ret_of ?_
  simp only [run_Z28,Z28.ev]
  refine ev_bind (idx_lt hk) (ev_call (facesOf_ret _ hks) ?_)
  refine Ev.start (p := fun φ n => Z28.l0 (mkR (run E (φ 0))) (φ 0) n (faces c[k]) ((faces c[k]).length : Int) 0 c [] = _) 1 ?_ (fun _ _ _ h => h)
  refine fold_loop 1 (L := fun φ n j a => Z28.l0 (mkR (run E (φ 0))) (φ 0) n (faces c[k]) ((faces c[k]).length : Int) j c a) (len := (faces c[k]).length) (fun j => ((faces c[k]).take j).map (findI c)) (fun _ _ _ _ _ => rfl) (fun j r hj ih => ?_) ?_
  · simp only [Z28.l0_succ _ mk_ok]
    rw [List.take_succ_eq_append_getElem hj,List.map_append] at ih
    refine ev_t (decide_eq_true (by omega)) (ev_bind (idx_lt hj) (ev_call (indexOf_ret c _ hc hs) (ev_chk (by simp; omega) ?_)))
    rw [w64_succ (by omega)]; exact ih
  · simp only [Z28.l0_succ _ mk_ok]
    refine ev_f (decide_eq_false (by omega)) (ev_some ?_)
    rw [List.take_of_length_le (Nat.le_refl _),fIdx,getD_lt hk]

theorem l05Faces_ret (c : List Sim) (k : Nat) (hk : k < c.length) (hc : Sm (.sl (.sl (.int .i64))) c) : Ret E n_Z121 [dC (c,()),dI (k : Int)] ⟨o_Z121,(fIdx c k,())⟩ := by
  have hks : (c[k]).length ≤ 1048576 := (sm_get hc hk).1
  refine ret_of ?_
  simp only [run_Z121,Z121.ev]
  refine ev_bind (idx_lt hk) ?_
  refine Ev.start (p := fun φ n => Z121.l0 (mkR (run E (φ 0))) (φ 0) n (c,()) c[k] 0 [] = _) 1 ?_ (fun _ _ _ h => h)
  by_cases hlen : 1 < (c[k]).length
  · refine fold_loop 1 (L := fun φ n j a => Z121.l0 (mkR (run E (φ 0))) (φ 0) n (c,()) c[k] j a) (len := (c[k]).length) (fun j => (List.range j).map fun i => findI c ((c[k]).eraseIdx i)) (fun _ _ _ _ _ => rfl) (fun j r hj ih => ?_) ?_
    · simp only [Z121.l0_succ _ mk_ok]
      rw [List.range_succ,List.map_append] at ih
      refine ev_t (decide_eq_true (by omega)) ?_
      simp only [show decide (((c[k]).length : Int) > 1) = true from decide_eq_true (by omega),Z121.j1_eq _ mk_ok,cond_true]
      refine ev_call (l05Drop_ret _ j hj hks) (ev_call (l05Find_ret (c,()) _ hc) (ev_chk (by simp; omega) ?_))
      rw [w64_succ (by omega)]; exact ih
    · simp only [Z121.l0_succ _ mk_ok]
      refine ev_f (decide_eq_false (by omega)) ?_
      simp only [Z121.j1_eq _ mk_ok,cond_false]
      refine ev_some ?_
      rw [fIdx,getD_lt hk,faces,if_pos hlen,List.map_map]; rfl
  · refine Ev.round 1 (L := fun φ n => Z121.l0 (mkR (run E (φ 0))) (φ 0) n (c,()) c[k] 0 []) ?_ (fun _ _ _ => rfl)
    have hj : Ev fun φ => Z121.j1 (mkR (run E (φ 0))) (φ 0) (φ 1) (c,()) c[k] 0 false [] = some ⟨o_Z121,(fIdx c k,())⟩ := by
      simp only [Z121.j1_eq _ mk_ok,cond_false]
      refine ev_some ?_
      rw [fIdx,getD_lt hk,faces,if_neg hlen]; rfl
    simp only [Z121.l0_succ _ mk_ok]
    refine ev_d (fun _ => ?_) fun _ => hj
    simp only [show decide (((c[k]).length : Int) > 1) = false from decide_eq_false (by omega)]
    exact hj

/-! arrows -/
abbrev Arw := Int × Int × Int × Unit
noncomputable def rowA (c : List Sim) (k i : Nat) : List Arw := (List.range i).map fun (j : Nat) => ((k : Int),(j : Int),(fIdx c k).getD j 0,())
noncomputable def arrs (c : List Sim) : Nat → List Arw
  | 0 => []
  | k + 1 => arrs c k ++ rowA c k (fIdx c k).length
noncomputable def plc (c : List Sim) (k : Nat) : Nat := (arrs c k).length

theorem rowA_length {c : List Sim} {k i : Nat} : (rowA c k i).length = i := by simp [rowA]

theorem plc_succ {c : List Sim} {k : Nat} : plc c (k + 1) = plc c k + (fIdx c k).length := by
  unfold plc; rw [arrs,List.length_append,rowA_length]

theorem VC.len4 {c : List Sim} (h : VC c) {k : Nat} (hk : k < c.length) : (c.getD k []).length ≤ 4 := (h.2.1 k hk).2.1

theorem VC.fIdx4 {c : List Sim} (h : VC c) {k : Nat} (hk : k < c.length) : (fIdx c k).length ≤ 4 := by
  have := h.len4 hk
  rw [fIdx_length]; split <;> omega

theorem VC.plc {c : List Sim} (h : VC c) : ∀ {k : Nat},k ≤ c.length → plc c k ≤ 4 * k
  | 0,_ => by simp [VeT.plc,arrs]
  | k + 1,hk => by
    have h1 := h.plc (k := k) (by omega)
    have h2 := h.fIdx4 (k := k) (by omega)
    rw [plc_succ]; omega

theorem arrs_get {c : List Sim} : ∀ {n k i : Nat},k < n → i < (fIdx c k).length → (arrs c n)[plc c k + i]? = some ((k : Int),(i : Int),(fIdx c k).getD i 0,())
  | 0,_,_,h,_ => by omega
  | n + 1,k,i,h,hi => by
    rw [arrs]
    by_cases hk : k < n
    · have := arrs_get hk hi
      have hl := (List.getElem?_eq_some_iff.1 this).1
      rw [List.getElem?_append_left hl]; exact this
    · obtain rfl : k = n := by omega
      rw [List.getElem?_append_right (by unfold plc; omega)]
      rw [show plc c k + i - (arrs c k).length = i by unfold plc; omega]
      simp [rowA,hi]

end VeT

open Go Go.Proofs Ve
set_option linter.unusedVariables false
set_option linter.unusedSimpArgs false
namespace VeT

def mz : Mat := (0,0,0,[],())
/-- the map at a face -/
def QB (p : Int) (st : Sim) (ms : List Mat) (t k : Nat) (f : Int) : Prop := Bt (ms.getD t mz) p (st.getD f.toNat 0) (st.getD k 0)

/-- valid sheaves -/
def VS (c : List Sim) (p : Int) (st : Sim) (ms : List Mat) : Prop := VC c ∧ Pr p ∧ SK c st ∧ plc c c.length = ms.length ∧ ∀ k,k < c.length → ∀ i,i < (fIdx c k).length → QB p st ms (plc c k + i) k ((fIdx c k).getD i 0)

end VeT

open Go Go.Proofs Ve
set_option linter.unusedVariables false
set_option linter.unusedSimpArgs false
namespace VeT

theorem isDimension_ret (n : Int) : Ret E n_Z39 [dI n] ⟨o_Z39,(pb (0 ≤ n ∧ n ≤ 3),())⟩ := by
  refine ret_of ?_
  simp only [run_Z39,Z39.ev]
  exact ev_call (within_ret _ _ _) ev_rfl

theorem l05Dimension_ret (n : Int) : Ret E n_Z119 [dI n] ⟨o_Z119,(pb (0 ≤ n ∧ n ≤ 3),())⟩ := by
  refine ret_of ?_
  simp only [run_Z119,Z119.ev]
  exact ev_call (l00In_ret _ _ _) ev_rfl

end VeT

open Go Go.Proofs Ve
set_option linter.unusedVariables false
set_option linter.unusedSimpArgs false
namespace VeT

/-! the program's matrices -/
theorem Mat_at_ret (p r : Int) (C : Nat) (cells : Sim) (i j : Nat) (h : i * C + j < cells.length) (hl : cells.length ≤ 1048576) : Ret E n_Z6 [dI p,dI r,dI (C : Int),dL cells,dI (i : Int),dI (j : Int)] ⟨o_Z6,(cells[i * C + j],())⟩ := by
  refine ret_of ?_
  simp only [run_Z6,Z6.ev]
  rw [cast_mul,w64_small (n := ((i * C : Nat) : Int)) (by omega) (by omega),w64_small (by omega) (by omega),show ((i * C : Nat) : Int) + (j : Int) = ((i * C + j : Nat) : Int) by omega]
  exact ev_bind (idx_lt h) ev_rfl

theorem Mat_row_ret (p r : Int) (C : Nat) (cells : Sim) (i : Nat) (h : (i + 1) * C ≤ cells.length) (hi : i ≤ 1048576) (hl : cells.length ≤ 1048576) : Ret E n_Z7 [dI p,dI r,dI (C : Int),dL cells,dI (i : Int)] ⟨o_Z7,((cells.take ((i + 1) * C)).drop (i * C),())⟩ := by
  refine ret_of ?_
  simp only [run_Z7,Z7.ev]
  have h1 : i * C ≤ (i + 1) * C := Nat.mul_le_mul_right _ (by omega)
  have e1 : w64 ((i : Int) * (C : Int)) = ((i * C : Nat) : Int) := by rw [cast_mul]; exact w64_small (by omega) (by omega)
  have e2 : w64 ((i : Int) + 1) = ((i + 1 : Nat) : Int) := w64_succ (by omega)
  have e3 : w64 (((i + 1 : Nat) : Int) * (C : Int)) = (((i + 1) * C : Nat) : Int) := by rw [cast_mul]; exact w64_small (by omega) (by omega)
  simp only [e1,e2,e3,Int.toNat_natCast]
  exact ev_chk (by simp only [Bool.and_eq_true,decide_eq_true_eq]; omega) ev_rfl

theorem Clone_ret (s : Sim) (hs : s.length ≤ 1048576) : Ret E n_Z75 [dL s] ⟨o_Z75,(s,())⟩ := by
  refine ret_of ?_
  simp only [run_Z75,Z75.ev,Z75.j0_eq _ mk_ok,cond_true,cond_false]
  have h : Ev fun φ => (Option.bind (chk (decide ((List.length ([] : List Int) + List.length s) * 8 ≤ 70368744177664))) fun _ => some (⟨o_Z75,((([] : List Int) ++ s),())⟩ : Dv)) = some ⟨o_Z75,(s,())⟩ :=
    ev_chk (by simp; omega) (ev_some rfl)
  cases s with
  | nil => exact ev_t rfl (ev_both ev_rfl h)
  | cons a s => exact ev_f rfl h

theorem transpose_1_ret (m : Mat) (C : Nat) (i j : Nat) (hC : m.2.2.1 = (C : Int)) (h : j * C + i < m.2.2.2.1.length) (hl : m.2.2.2.1.length ≤ 1048576) : Ret E n_Z58 [dI (i : Int),dI (j : Int),dM m] ⟨o_Z58,(m.2.2.2.1.getD (j * C + i) 0,())⟩ := by
  rw [getD_lt h]
  refine ret_of ?_
  simp only [run_Z58,Z58.ev]
  rw [hC]
  exact ev_call (Mat_at_ret _ _ C _ j i h hl) ev_rfl

theorem dot_ret (a b : Sim) (p : Int) (hp : 2 ≤ p ∧ p ≤ 251) (ha : a.length ≤ 32) (hb : a.length ≤ b.length) (ea : ∀ x ∈ a,0 ≤ x ∧ x ≤ 250) (eb : ∀ x ∈ b,0 ≤ x ∧ x ≤ 250) :
    Ret E n_Z25 [dL a,dL b,dI p] ⟨o_Z25,(dotN (fun l => a.getD l 0) (fun l => b.getD l 0) a.length % p,())⟩ := by
  refine ret_of ?_
  simp only [run_Z25,Z25.ev]
  refine Ev.start (p := fun φ n => Z25.l0 (mkR (run E (φ 0))) (φ 0) n a b p 0 (a.length : Int) 0 = _) 1 ?_ (fun _ _ _ h => h)
  have := fold_loop 1 (L := fun φ n k s => Z25.l0 (mkR (run E (φ 0))) (φ 0) n a b p s (a.length : Int) k) (len := a.length) (fun k => dotN (fun l => a.getD l 0) (fun l => b.getD l 0) k % p) (r := some ⟨o_Z25,(dotN (fun l => a.getD l 0) (fun l => b.getD l 0) a.length % p,())⟩) (fun _ _ _ _ _ => rfl) (fun k r hk ih => ?_) ?_
  · simpa [dotN] using this
  · simp only [Z25.l0_succ _ mk_ok]
    have hkb : k < b.length := by omega
    have hm := mul_in (ea _ (List.getElem_mem hk)) (eb _ (List.getElem_mem hkb))
    have h0 := Int.emod_nonneg (dotN (fun l => a.getD l 0) (fun l => b.getD l 0) k) (show p ≠ 0 by omega)
    have h1 := Int.emod_lt_of_pos (dotN (fun l => a.getD l 0) (fun l => b.getD l 0) k) (show 0 < p by omega)
    refine ev_t (decide_eq_true (by omega)) (ev_bind (idx_lt hk) (ev_bind (idx_lt hkb) (ev_chk (by simp; omega) ?_)))
    rw [w64_small (n := a[k] * b[k]) (by omega) (by omega),w64_small (by omega) (by omega),Int.tmod_eq_emod_of_nonneg (by omega),Int.emod_add_emod,w64_succ (by omega)]
    simp only [dotN] at ih
    rw [getD_lt hk,getD_lt hkb] at ih
    exact ih
  · simp only [Z25.l0_succ _ mk_ok]
    exact ev_f (decide_eq_false (by omega)) ev_rfl

theorem rowsOf_ret (p : Int) (R C : Nat) (cells : Sim) (hl : cells.length = R * C) (hR : R ≤ 32) (hC : C ≤ 32) : Ret E n_Z52 [dI p,dI (R : Int),dI (C : Int),dL cells] ⟨o_Z52,((List.range R).map fun i => (cells.take ((i + 1) * C)).drop (i * C),())⟩ := by
  have h1024 := rc_le hR hC
  refine ret_of ?_
  simp only [run_Z52,Z52.ev]
  refine Ev.start (p := fun φ n => Z52.l0 (mkR (run E (φ 0))) (φ 0) n (R : Int) 0 p (R : Int) (C : Int) cells [] = _) 1 ?_ (fun _ _ _ h => h)
  refine fold_loop 1 (L := fun φ n k a => Z52.l0 (mkR (run E (φ 0))) (φ 0) n (R : Int) k p (R : Int) (C : Int) cells a) (len := R) (fun k => (List.range k).map fun i => (cells.take ((i + 1) * C)).drop (i * C)) (fun _ _ _ _ _ => rfl) (fun k r hk ih => ?_) ?_
  · simp only [Z52.l0_succ _ mk_ok]
    have hle : (k + 1) * C ≤ R * C := Nat.mul_le_mul_right _ hk
    rw [List.range_succ,List.map_append] at ih
    refine ev_t (decide_eq_true (by omega)) (ev_call (Mat_row_ret p _ C cells k (by omega) (by omega) (by omega)) (ev_call (Clone_ret _ (by simp; omega)) (ev_chk (by simp; omega) ?_)))
    rw [w64_succ (by omega)]; exact ih
  · simp only [Z52.l0_succ _ mk_ok]
    exact ev_f (decide_eq_false (by omega)) ev_rfl

end VeT

open Go Go.Proofs Ve
set_option linter.unusedVariables false
set_option linter.unusedSimpArgs false
namespace VeT

theorem Elems.get {v : Sim} {p : Int} (h : Elems v p) (hp : 2 ≤ p ∧ p ≤ 251) (i : Nat) : 0 ≤ v.getD i 0 ∧ v.getD i 0 ≤ 250 := by
  by_cases hi : i < v.length
  · rw [getD_lt hi]
    have := h _ (List.getElem_mem hi)
    omega
  · rw [List.getD_eq_getElem?_getD,List.getElem?_eq_none (by omega)]; simp

theorem Elems.mem {v : Sim} {p : Int} (h : Elems v p) (hp : 2 ≤ p ∧ p ≤ 251) : ∀ x ∈ v,0 ≤ x ∧ x ≤ 250 := fun x hx => by
  have := h x hx; omega

/-- an entry of a product -/
def mulE (p : Int) (ca cb : Sim) (K C i j : Nat) : Int := dotN (fun l => ca.getD (i * K + l) 0) (fun l => cb.getD (l * C + j) 0) K % p

/-- a product -/
def mulM (a b : Mat) : Mat := (a.1,a.2.1,b.2.2.1,flatF (mulE a.1 a.2.2.2.1 b.2.2.2.1 a.2.2.1.toNat b.2.2.1.toNat) b.2.2.1.toNat a.2.1.toNat,())

def colsL (K C : Nat) (cb : Sim) : List Sim := (List.range C).map fun i => (List.range K).map fun j => cb.getD (j * C + i) 0

theorem transpose_ret (q : Int) (K C : Nat) (cb : Sim) (hl : cb.length = K * C) (hK : K ≤ 32) (hC : C ≤ 32) : Ret E n_Z57 [dI q,dI (K : Int),dI (C : Int),dL cb] ⟨o_Z57,(q,(C : Int),(K : Int),flatF (fun i j => cb.getD (j * C + i) 0) K C,())⟩ := by
  have h1 := rc_le hK hC
  have h2 := rc_le hC hK
  refine ret_of ?_
  simp only [run_Z57,Z57.ev]
  refine ev_call (filled_impl_transpose_1_ret q C K ((q,(K : Int),(C : Int),cb,()),()) (fun i j => cb.getD (j * C + i) 0) (by omega) (by omega) (by omega) fun i j hi hj => ?_) ev_rfl
  exact transpose_1_ret (q,(K : Int),(C : Int),cb,()) C i j rfl (by show _ < cb.length; rw [hl]; exact lt_rc hj hi) (by show cb.length ≤ _; omega)

theorem columnsOf_ret (q : Int) (K C : Nat) (cb : Sim) (hl : cb.length = K * C) (hK : K ≤ 32) (hC : C ≤ 32) : Ret E n_Z20 [dI q,dI (K : Int),dI (C : Int),dL cb] ⟨o_Z20,(colsL K C cb,())⟩ := by
  refine ret_of ?_
  simp only [run_Z20,Z20.ev]
  refine ev_call (transpose_ret q K C cb hl hK hC) (ev_call (rowsOf_ret q C K _ flatF_length hC hK) (ev_some ?_))
  have : ((List.range C).map fun i => ((flatF (fun i j => cb.getD (j * C + i) 0) K C).take ((i + 1) * K)).drop (i * K)) = colsL K C cb :=
    List.map_congr_left fun i hi => flatF_row (List.mem_range.1 hi)
  rw [this]

theorem VM.nat {m : Mat} (h : VM m) : ∃ R K : Nat,m = (m.1,(R : Int),(K : Int),m.2.2.2.1,()) ∧ R ≤ 32 ∧ K ≤ 32 ∧ m.2.2.2.1.length = R * K := by
  obtain ⟨p,r,k,c,⟨⟩⟩ := m
  obtain ⟨_,h2,h3,h4,_⟩ := h
  simp only at h2 h3 h4
  obtain ⟨R,rfl⟩ := Int.eq_ofNat_of_zero_le h2.1
  obtain ⟨K,rfl⟩ := Int.eq_ofNat_of_zero_le h3.1
  refine ⟨R,K,rfl,by omega,by omega,?_⟩
  rw [cast_mul] at h4; simp only; omega

theorem l03Zero_ret (p : Int) (R C : Nat) (hR : R ≤ 32) (hC : C ≤ 32) : Ret E n_Z113 [dI p,dI (R : Int),dI (C : Int)] ⟨o_Z113,(p,(R : Int),(C : Int),List.replicate (R * C) 0,())⟩ := by
  have h1 := rc_le hR hC
  have e1 : w64 ((R : Int) * (C : Int)) = ((R * C : Nat) : Int) := by rw [cast_mul]; exact w64_small (by omega) (by omega)
  refine ret_of ?_
  simp only [run_Z113,Z113.ev,e1,Int.toNat_natCast]
  exact ev_chk (by simp only [Bool.and_eq_true,decide_eq_true_eq]; omega) ev_rfl

end VeT

open Go Go.Proofs Ve
set_option linter.unusedVariables false
set_option linter.unusedSimpArgs false
namespace VeT

/-! the maps of a sheaf -/
noncomputable def mp (c : List Sim) (ms : List Mat) (k i : Nat) : Mat := ms.getD (plc c k + i) mz

noncomputable def fc (c : List Sim) (k i : Nat) : Nat := ((fIdx c k).getD i 0).toNat

theorem findI_get {c : List Sim} {s : Sim} (h : s ∈ c) : c.getD (findI c s).toNat [] = s := by
  have h0 := findI_nonneg.2 h
  unfold findI idxf at h0 ⊢
  cases hf : c.findIdx? (fun x => pb (x = s)) with
  | none => rw [hf] at h0; simp [o2i] at h0
  | some k =>
    rw [List.findIdx?_eq_some_iff_getElem] at hf
    obtain ⟨hk,hp,_⟩ := hf
    simp only [o2i,Int.toNat_natCast]
    rw [getD_lt hk]; exact pb_iff.1 hp

theorem fc_get {c : List Sim} (h : VC c) {k i : Nat} (hk : k < c.length) (hi : i < (fIdx c k).length) : idx? (fIdx c k) (i : Int) = some ((fc c k i : Nat) : Int) ∧ fc c k i < c.length ∧ c.getD (fc c k i) [] = (c.getD k []).eraseIdx i := by
  have hm := fIdx_mem h hk (List.getElem_mem hi)
  have hl := fIdx_length (c := c) (k := k)
  have h1 : 1 < (c.getD k []).length := Classical.byContradiction fun hn => by rw [if_neg hn] at hl; omega
  rw [if_pos h1] at hl
  have hfc : (fIdx c k)[i] = findI c ((c.getD k []).eraseIdx i) := by
    have : (fIdx c k)[i]? = some (findI c ((c.getD k []).eraseIdx i)) := by
      unfold fIdx faces
      rw [if_pos h1,List.map_map,List.getElem?_map,List.getElem?_range (by omega)]; rfl
    rw [List.getElem?_eq_getElem hi] at this
    exact Option.some.inj this
  have hin : (c.getD k []).eraseIdx i ∈ c := h.2.2.2 k hk _ (faces_mem.2 ⟨h1,i,by omega,rfl⟩)
  unfold fc
  rw [getD_lt hi]
  refine ⟨?_,by omega,?_⟩
  · rw [idx_lt hi]; congr 1; omega
  · rw [hfc]; exact findI_get hin

theorem VS.map {c : List Sim} {p : Int} {st : Sim} {ms : List Mat} (h : VS c p st ms) {k i : Nat} (hk : k < c.length) (hi : i < (fIdx c k).length) : plc c k + i < ms.length ∧ Bt (mp c ms k i) p (st.getD (fc c k i) 0) (st.getD k 0) := by
  have hg := arrs_get hk hi
  have hlt := (List.getElem?_eq_some_iff.1 hg).1
  exact ⟨by rw [← h.2.2.2.1]; exact hlt,h.2.2.2.2 k hk i hi⟩

/-- a way over two faces -/
noncomputable def two (c : List Sim) (ms : List Mat) (k i j : Nat) : Mat := mulM (mp c ms k i) (mp c ms (fc c k i) j)

structure Sq (c : List Sim) (p : Int) (st : Sim) (ms : List Mat) (k i j : Nat) : Prop where
  kl : k < c.length
  n3 : 3 ≤ (c.getD k []).length
  il : i < (c.getD k []).length
  jl : j + 1 < (c.getD k []).length
  v : VS c p st ms

theorem Sq.hi {c p st ms k i j} (h : Sq c p st ms k i j) : i < (fIdx c k).length := by
  have := h.n3; have := h.il
  rw [fIdx_length,if_pos (by omega)]; exact this

theorem Sq.fk {c p st ms k i j} (h : Sq c p st ms k i j) : fc c k i < c.length := (fc_get h.v.1 h.kl h.hi).2.1

theorem Sq.hj {c p st ms k i j} (h : Sq c p st ms k i j) : j < (fIdx c (fc c k i)).length := by
  have h1 := h.n3; have h2 := h.il; have h3 := h.jl
  have e := (fc_get h.v.1 h.kl h.hi).2.2
  rw [fIdx_length,e,List.length_eraseIdx,if_pos h2,if_pos (by omega)]; omega

theorem Sq.b1 {c p st ms k i j} (h : Sq c p st ms k i j) : VM (mp c ms k i) := ((h.v.map h.kl h.hi).2).1
theorem Sq.b2 {c p st ms k i j} (h : Sq c p st ms k i j) : VM (mp c ms (fc c k i) j) := ((h.v.map h.fk h.hj).2).1
theorem Sq.sh {c p st ms k i j} (h : Sq c p st ms k i j) : (mp c ms k i).2.2.1 = (mp c ms (fc c k i) j).2.1 := by
  rw [((h.v.map h.kl h.hi).2).2.2.2,((h.v.map h.fk h.hj).2).2.2.1]

end VeT

open Go Go.Proofs Ve
set_option linter.unusedVariables false
set_option linter.unusedSimpArgs false
namespace VeT

end VeT

open Go Go.Proofs Ve
set_option linter.unusedVariables false
set_option linter.unusedSimpArgs false
namespace VeT

end VeT

open Go Go.Proofs Ve
set_option linter.unusedVariables false
set_option linter.unusedSimpArgs false
namespace VeT

theorem ofDim_pre {c : List Sim} {d : Int} {s n : Nat} (hs : s < n) (hd : ((c.getD s []).length : Int) = d + 1) : ∃ tl,ofDim c d n = ofDim c d s ++ (s : Int) :: tl := by
  induction n with
  | zero => omega
  | succ n ih =>
    rw [ofDim_succ]
    by_cases h : s = n
    · subst h; exact ⟨[],by rw [if_pos hd]⟩
    · obtain ⟨tl,e⟩ := ih (by omega)
      exact ⟨tl ++ _,by rw [e,List.append_assoc]; rfl⟩

theorem ofDim_iff {c : List Sim} {d : Int} {k : Nat} {x : Int} : x ∈ ofDim c d k ↔ ∃ i : Nat,x = i ∧ i < k ∧ ((c.getD i []).length : Int) = d + 1 := by
  unfold ofDim
  rw [List.mem_map]
  constructor
  · rintro ⟨i,hi,rfl⟩
    have := List.mem_filter.1 hi
    exact ⟨i,rfl,by simpa using this.1,by simpa using this.2⟩
  · rintro ⟨i,rfl,h1,h2⟩
    exact ⟨i,List.mem_filter.2 ⟨by simpa using h1,by simpa using h2⟩,rfl⟩

/-! stores -/
abbrev St := List (Nat × Int)
def upds (S : St) (cs : Sim) : Sim := S.foldl (fun cs q => cs.set q.1 q.2) cs

theorem upds_append {S T : St} {cs : Sim} : upds (S ++ T) cs = upds T (upds S cs) := by simp [upds]
theorem upds_one {q : Nat} {v : Int} {cs : Sim} : upds [(q,v)] cs = cs.set q v := rfl
theorem upds_length {S : St} : ∀ {cs : Sim},(upds S cs).length = cs.length := by
  induction S with
  | nil => intro cs; rfl
  | cons q S ih => intro cs; show (upds S (cs.set q.1 q.2)).length = _; rw [ih,List.length_set]

theorem upds_elems {p : Int} {S : St} : ∀ {cs : Sim},Elems cs p → (∀ q ∈ S,0 ≤ q.2 ∧ q.2 ≤ p - 1) → Elems (upds S cs) p := by
  induction S with
  | nil => intro cs h _; exact h
  | cons q S ih =>
    intro cs h hS
    refine ih (cs := cs.set q.1 q.2) (fun x hx => ?_) fun y hy => hS y (List.mem_cons_of_mem _ hy)
    rcases List.mem_or_eq_of_mem_set hx with hx | rfl
    · exact h x hx
    · exact hS q List.mem_cons_self

def sgn (p : Int) (a : Nat) : Int := if a % 2 = 0 then 1 else p - 1

theorem sgn_in {p : Int} (hp : 2 ≤ p ∧ p ≤ 251) (a : Nat) : 0 ≤ sgn p a ∧ sgn p a ≤ p - 1 := by
  unfold sgn; split <;> omega

theorem rep_elems {n : Nat} {p : Int} (hp : 2 ≤ p) : Elems (List.replicate n 0) p := fun x hx => by
  rw [List.mem_replicate] at hx; omega

/-! a matrix times a column -/
def appV (m : Mat) (v : Sim) (n : Nat) : Sim := (List.range n).map fun i => dotN (fun l => m.2.2.2.1.getD (i * m.2.2.1.toNat + l) 0) (fun l => v.getD l 0) m.2.2.1.toNat % m.1

theorem appV_length {m : Mat} {v : Sim} {n : Nat} : (appV m v n).length = n := by simp [appV]

theorem appV_elems {m : Mat} {v : Sim} {n : Nat} (hp : 2 ≤ m.1) : Elems (appV m v n) m.1 := fun x hx => by
  unfold appV at hx
  obtain ⟨i,_,rfl⟩ := List.mem_map.1 hx
  have h0 := Int.emod_nonneg (dotN (fun l => m.2.2.2.1.getD (i * m.2.2.1.toNat + l) 0) (fun l => v.getD l 0) m.2.2.1.toNat) (show m.1 ≠ 0 by omega)
  have h1 := Int.emod_lt_of_pos (dotN (fun l => m.2.2.2.1.getD (i * m.2.2.1.toNat + l) 0) (fun l => v.getD l 0) m.2.2.1.toNat) (show 0 < m.1 by omega)
  omega

end VeT

open Go Go.Proofs Ve
set_option linter.unusedVariables false
set_option linter.unusedSimpArgs false
namespace VeT

theorem Index_ret (s : Sim) (v : Int) (hs : s.length ≤ 1048576) : Ret E n_Z95 [dL s,dI v] ⟨o_Z95,(idxf (fun x => pb (x = v)) s,())⟩ := by
  obtain ⟨o,h1,h2,h3⟩ := find_loop 1 (L := fun φ n k => Z95.l0 (mkR (run E (φ 0))) (φ 0) n s v (s.length : Int) k) (len := s.length) (fun k => ∃ h : k < s.length,pb (s[k] = v) = true) (fun o => some ⟨o_Z95,(o2i o,())⟩) (fun _ _ _ _ => rfl) (fun k hk hP => by
      obtain ⟨_,hP⟩ := hP
      have hP := pb_iff.1 hP
      simp only [Z95.l0_succ _ mk_ok]
      exact ev_t (decide_eq_true (by omega)) (ev_bind (idx_lt hk) (ev_t (by simp [hP]) ev_rfl))) (fun k q hk hP ih => by
      simp only [Z95.l0_succ _ mk_ok]
      refine ev_t (decide_eq_true (by omega)) (ev_bind (idx_lt hk) (ev_f (by simp only [beq_eq_false_iff_ne]; exact fun e => hP ⟨hk,pb_true e.symm⟩) ?_))
      rw [w64_succ (by omega)]; exact ih) (by
      simp only [Z95.l0_succ _ mk_ok]
      exact ev_f (decide_eq_false (by omega)) ev_rfl)
  rw [idxf_of (p := fun x => pb (x = v)) h1 h2] at h3
  refine ret_of ?_
  simp only [run_Z95,Z95.ev]
  exact Ev.start (p := fun φ n => Z95.l0 (mkR (run E (φ 0))) (φ 0) n s v (s.length : Int) 0 = _) 1 h3 (fun _ _ _ h => h)

theorem Contains_ret (s : Sim) (v : Int) (hs : s.length ≤ 1048576) : Ret E n_Z85 [dL s,dI v] ⟨o_Z85,(pb (v ∈ s),())⟩ := by
  refine ret_of ?_
  simp only [run_Z85,Z85.ev]
  refine ev_call (Index_ret s v hs) (ev_some ?_)
  have : decide (idxf (fun x => pb (x = v)) s ≥ 0) = pb (v ∈ s) := eq_pb (by
    rw [decide_eq_true_iff,ge_iff_le,idxf_nonneg]
    exact ⟨fun ⟨x,h,e⟩ => pb_iff.1 e ▸ h,fun h => ⟨v,h,pb_true rfl⟩⟩)
  simp only [this]

theorem l00Has_ret (s : Sim) (v : Int) (hs : s.length ≤ 1048576) : Ret E n_Z99 [dL s,dI v] ⟨o_Z99,(pb (v ∈ s),())⟩ := by
  obtain ⟨o,h1,h2,h3⟩ := find_loop 1 (L := fun φ n k => Z99.l0 (mkR (run E (φ 0))) (φ 0) n s v k) (len := s.length) (fun k => ∃ h : k < s.length,s[k] = v) (fun o => some ⟨o_Z99,(o.isSome,())⟩) (fun _ _ _ _ => rfl) (fun k hk hP => by
      obtain ⟨_,hP⟩ := hP
      simp only [Z99.l0_succ _ mk_ok]
      exact ev_t (decide_eq_true (by omega)) (ev_bind (idx_lt hk) (ev_t (by simp [hP]) ev_rfl))) (fun k q hk hP ih => by
      simp only [Z99.l0_succ _ mk_ok]
      refine ev_t (decide_eq_true (by omega)) (ev_bind (idx_lt hk) (ev_f (by simp only [beq_eq_false_iff_ne]; exact fun e => hP ⟨hk,e⟩) ?_))
      rw [w64_succ (by omega)]; exact ih) (by
      simp only [Z99.l0_succ _ mk_ok]
      exact ev_f (decide_eq_false (by omega)) ev_rfl)
  have : o.isSome = pb (v ∈ s) := eq_pb (by
    cases o with
    | none =>
      simp only [Option.isSome_none,Bool.false_eq_true,false_iff]
      intro hm
      obtain ⟨j,hj,e⟩ := List.mem_iff_getElem.1 hm
      exact h2 rfl j hj ⟨hj,e⟩
    | some k =>
      obtain ⟨_,⟨hk,e⟩,_⟩ := h1 k rfl
      simp only [Option.isSome_some,true_iff]
      exact e ▸ List.getElem_mem hk)
  rw [this] at h3
  refine ret_of ?_
  simp only [run_Z99,Z99.ev]
  exact Ev.start (p := fun φ n => Z99.l0 (mkR (run E (φ 0))) (φ 0) n s v 0 = _) 1 h3 (fun _ _ _ h => h)

end VeT

open Go Go.Proofs Ve
set_option linter.unusedVariables false
set_option linter.unusedSimpArgs false
namespace VeT

theorem zero_1_ret (i j : Nat) : Ret E n_Z62 [dI (i : Int),dI (j : Int)] ⟨o_Z62,((0 : Int),())⟩ := by
  refine ret_of ?_
  simp only [run_Z62,Z62.ev]
  (first | exact ev_rfl | exact Ev.of fun _ => trivial)

theorem flatF_zero {C : Nat} : ∀ {n : Nat},flatF (fun _ _ => 0) C n = List.replicate (n * C) 0
  | 0 => by simp [flatF]
  | n + 1 => by
    rw [flatF,flatF_zero,Nat.add_mul,Nat.one_mul,← List.replicate_append_replicate]
    congr 1
    rw [List.map_const',List.length_range]

theorem zero_ret (p : Int) (R C : Nat) (hR : R ≤ 32) (hC : C ≤ 32) : Ret E n_Z61 [dI p,dI (R : Int),dI (C : Int)] ⟨o_Z61,(p,(R : Int),(C : Int),List.replicate (R * C) 0,())⟩ := by
  have h1 := rc_le hR hC
  refine ret_of ?_
  simp only [run_Z61,Z61.ev]
  rw [← flatF_zero]
  exact ev_call (filled_impl_zero_1_ret p R C (fun _ _ => 0) (by omega) (by omega) (by omega) fun i j _ _ => zero_1_ret i j) ev_rfl

theorem alternating_ret (p : Int) (i : Nat) (hp : 2 ≤ p ∧ p ≤ 251) : Ret E n_Z14 [dI (i : Int),dI p] ⟨o_Z14,(sgn p i,())⟩ := by
  refine ret_of ?_
  simp only [run_Z14,Z14.ev]
  rw [Int.tmod_eq_emod_of_nonneg (by omega),w64_small (by omega) (by omega)]
  refine ev_b (fun h => ev_some ?_) fun h => ev_some ?_
  · have h : (i : Int) % 2 = 0 := by simpa using h
    rw [sgn,if_pos (by omega)]
  · have h : ¬ (i : Int) % 2 = 0 := by simpa using h
    rw [sgn,if_neg (by omega)]

theorem l07Sign_ret (p : Int) (i : Nat) (hp : 2 ≤ p ∧ p ≤ 251) : Ret E n_Z130 [dI (i : Int),dI p] ⟨o_Z130,(sgn p i,())⟩ := by
  refine ret_of ?_
  simp only [run_Z130,Z130.ev]
  rw [Int.tmod_eq_emod_of_nonneg (by omega),w64_small (by omega) (by omega)]
  refine ev_b (fun h => ev_chk (by simp; omega) (ev_some ?_)) fun h => ev_some ?_
  · have h : (i : Int) % 2 = 0 := by simpa using h
    rw [sgn,if_pos (by omega),Int.tmod_eq_emod_of_nonneg (by omega),Int.emod_eq_of_lt (by omega) (by omega)]
  · have h : ¬ (i : Int) % 2 = 0 := by simpa using h
    rw [sgn,if_neg (by omega)]

end VeT

open Go Go.Proofs Ve
set_option linter.unusedVariables false
set_option linter.unusedSimpArgs false
namespace VeT

theorem val_eq {x y p : Int} (hx : 0 ≤ x ∧ x ≤ 250) (hy : 0 ≤ y ∧ y ≤ 250) (hp : 2 ≤ p ∧ p ≤ 251) : Int.tmod (w64 (x * y)) p = x * y % p := by
  have := mul_in hx hy
  rw [w64_small (by omega) (by omega),Int.tmod_eq_emod_of_nonneg (by omega)]

end VeT

open Go Go.Proofs Ve
set_option linter.unusedVariables false
set_option linter.unusedSimpArgs false
namespace VeT

/-! a matrix times a column -/
theorem apply_ret (m : Mat) (v : Sim) (hm : VM m) (hv : m.2.2.1 ≤ v.length) (ev : ∀ x ∈ v,0 ≤ x ∧ x ≤ 250) : Ret E n_Z15 [dI m.1,dI m.2.1,dI m.2.2.1,dL m.2.2.2.1,dL v] ⟨o_Z15,(appV m v m.2.1.toNat,())⟩ := by
  obtain ⟨R,C,em,hR,hC,hlen⟩ := hm.nat
  have hp : 2 ≤ m.1 ∧ m.1 ≤ 251 := ⟨hm.1.1,hm.1.2.1⟩
  have el := hm.2.2.2.2
  obtain ⟨p,r,k,cs,⟨⟩⟩ := m
  simp only [Prod.mk.injEq,true_and,and_true] at em hlen hv hp el
  obtain ⟨rfl,rfl⟩ := em
  have hRC := rc_le hR hC
  show Ret E n_Z15 [dI p,dI (R : Int),dI (C : Int),dL cs,dL v] ⟨o_Z15,(appV (p,(R : Int),(C : Int),cs,()) v R,())⟩
  refine ret_of ?_
  simp only [run_Z15,Z15.ev]
  refine Ev.start (p := fun φ n => Z15.l0 (mkR (run E (φ 0))) (φ 0) n v (R : Int) 0 p (R : Int) (C : Int) cs [] = _) 1 ?_ (fun _ _ _ h => h)
  refine fold_loop 1 (L := fun φ n i a => Z15.l0 (mkR (run E (φ 0))) (φ 0) n v (R : Int) i p (R : Int) (C : Int) cs a) (len := R) (fun i => appV (p,(R : Int),(C : Int),cs,()) v i) (fun _ _ _ _ _ => rfl) (fun i q hi ih => ?_) ?_
  · simp only [Z15.l0_succ _ mk_ok]
    have hle : (i + 1) * C ≤ R * C := Nat.mul_le_mul_right _ hi
    have hrl : ((cs.take ((i + 1) * C)).drop (i * C)).length = C := by
      rw [List.length_drop,List.length_take,Nat.min_eq_left (by omega),Nat.add_mul]; omega
    have hd := dot_ret ((cs.take ((i + 1) * C)).drop (i * C)) v p hp (by omega) (by omega) (fun x hx => el.mem hp x (List.mem_of_mem_take (List.mem_of_mem_drop hx))) ev
    have e : dotN (fun l => ((cs.take ((i + 1) * C)).drop (i * C)).getD l 0) (fun l => v.getD l 0) ((cs.take ((i + 1) * C)).drop (i * C)).length = dotN (fun l => cs.getD (i * C + l) 0) (fun l => v.getD l 0) C := by
      rw [hrl]
      exact dotN_congr fun l hl => ⟨by
        rw [List.getD_eq_getElem?_getD,List.getD_eq_getElem?_getD,List.getElem?_drop,List.getElem?_take_of_lt (by rw [Nat.add_mul]; omega)],rfl⟩
    rw [e] at hd
    have ea : appV (p,(R : Int),(C : Int),cs,()) v (i + 1) = appV (p,(R : Int),(C : Int),cs,()) v i ++ [dotN (fun l => cs.getD (i * C + l) 0) (fun l => v.getD l 0) C % p] := by
      unfold appV
      rw [List.range_succ,List.map_append]; rfl
    rw [ea] at ih
    refine ev_t (decide_eq_true (by omega)) (ev_call (Mat_row_ret p _ C cs i (by omega) (by omega) (by omega)) (ev_call hd (ev_chk (by simp [appV_length]; omega) ?_)))
    rw [w64_succ (by omega)]; exact ih
  · simp only [Z15.l0_succ _ mk_ok]
    exact ev_f (decide_eq_false (by omega)) ev_rfl

theorem l03Apply_ret (m : Mat) (v : Sim) (hm : VM m) (hv : m.2.2.1 ≤ v.length) (ev : ∀ x ∈ v,0 ≤ x ∧ x ≤ 250) : Ret E n_Z106 [dM m,dL v] ⟨o_Z106,(appV m v m.2.1.toNat,())⟩ := by
  obtain ⟨R,C,em,hR,hC,hlen⟩ := hm.nat
  have hp : 2 ≤ m.1 ∧ m.1 ≤ 251 := ⟨hm.1.1,hm.1.2.1⟩
  have el := hm.2.2.2.2
  obtain ⟨p,r,k,cs,⟨⟩⟩ := m
  simp only [Prod.mk.injEq,true_and,and_true] at em hlen hv hp el
  obtain ⟨rfl,rfl⟩ := em
  have hRC := rc_le hR hC
  show Ret E n_Z106 [dM (p,(R : Int),(C : Int),cs,()),dL v] ⟨o_Z106,(appV (p,(R : Int),(C : Int),cs,()) v R,())⟩
  refine ret_of ?_
  simp only [run_Z106,Z106.ev]
  refine Ev.start (p := fun φ n => Z106.l0 (mkR (run E (φ 0))) (φ 0) n (p,(R : Int),(C : Int),cs,()) v 0 [] = _) 1 ?_ (fun _ _ _ h => h)
  refine fold_loop 1 (L := fun φ n i a => Z106.l0 (mkR (run E (φ 0))) (φ 0) n (p,(R : Int),(C : Int),cs,()) v i a) (len := R) (fun i => appV (p,(R : Int),(C : Int),cs,()) v i) (fun _ _ _ _ _ => rfl) (fun i q hi ih => ?_) ?_
  · simp only [Z106.l0_succ _ mk_ok]
    have ea : appV (p,(R : Int),(C : Int),cs,()) v (i + 1) = appV (p,(R : Int),(C : Int),cs,()) v i ++ [dotN (fun l => cs.getD (i * C + l) 0) (fun l => v.getD l 0) C % p] := by
      unfold appV
      rw [List.range_succ,List.map_append]; rfl
    rw [ea] at ih
    have hle : (i + 1) * C ≤ R * C := Nat.mul_le_mul_right _ hi
    rw [Nat.add_mul] at hle
    have gv : ∀ l,0 ≤ v.getD l 0 ∧ v.getD l 0 ≤ 250 := fun l => by
      by_cases hl : l < v.length
      · rw [getD_lt hl]; exact ev _ (List.getElem_mem hl)
      · rw [List.getD_eq_getElem?_getD,List.getElem?_eq_none (by omega)]; simp
    refine ev_t (decide_eq_true (by omega)) ?_
    generalize hA : appV (p,(R : Int),(C : Int),cs,()) v i = A at ih ⊢
    have hAl : A.length = i := by rw [← hA,appV_length]
    refine Ev.start (p := fun φ n => Z106.l1 (mkR (run E (φ 0))) (φ 0) (φ 1) n (p,(R : Int),(C : Int),cs,()) v (i : Int) 0 0 A = _) 2 ?_ (fun _ _ _ h => h)
    refine fold_loop 2 (L := fun φ n l a => Z106.l1 (mkR (run E (φ 0))) (φ 0) (φ 1) n (p,(R : Int),(C : Int),cs,()) v (i : Int) a l A) (len := C) (fun l => dotN (fun l => cs.getD (i * C + l) 0) (fun l => v.getD l 0) l) (fun _ _ _ _ _ => rfl) (fun l q2 hl2 ih2 => ?_) ?_
    · simp only [Z106.l1_succ _ mk_ok]
      have hvl : l < v.length := by omega
      have hcl : i * C + l < cs.length := by omega
      have b1 := dotN_le (f := fun l => cs.getD (i * C + l) 0) (g := fun l => v.getD l 0) (n := l) fun l _ => ⟨el.get hp _,gv l⟩
      have b2 := mul_in (el.get hp (i * C + l)) (gv l)
      have e1 : w64 (w64 ((i : Int) * (C : Int)) + (l : Int)) = ((i * C + l : Nat) : Int) := by
        rw [cast_mul,w64_small (n := ((i * C : Nat) : Int)) (by omega) (by omega),w64_small (by omega) (by omega)]; omega
      simp only [dotN] at ih2
      rw [getD_lt hcl,getD_lt hvl] at ih2 b2
      simp only [e1]
      refine ev_t (decide_eq_true (by omega)) (ev_bind (idx_lt hcl) (ev_bind (idx_lt hvl) ?_))
      rw [w64_small (n := cs[i * C + l] * v[l]) (by omega) (by omega),w64_small (by omega) (by omega),w64_succ (by omega)]
      exact ih2
    · simp only [Z106.l1_succ _ mk_ok]
      have b1 := dotN_le (f := fun l => cs.getD (i * C + l) 0) (g := fun l => v.getD l 0) (n := C) fun l _ => ⟨el.get hp _,gv l⟩
      refine ev_f (decide_eq_false (by omega)) (ev_chk (by simp; omega) ?_)
      rw [Int.tmod_eq_emod_of_nonneg (by omega),w64_succ (by omega)]
      exact ev_chk (by simp [hAl]; omega) ih
  · simp only [Z106.l0_succ _ mk_ok]
    exact ev_f (decide_eq_false (by omega)) ev_rfl

/-! zero lists -/
def Zs (v : Sim) : Prop := ∀ x ∈ v,x = 0

theorem isZero_1_ret (x : Int) : Ret E n_Z45 [dI x] ⟨o_Z45,(!pb (x = 0),())⟩ := by
  refine ret_of ?_
  simp only [run_Z45,Z45.ev]
  refine ev_some ?_
  have : (x != 0) = !pb (x = 0) := by
    by_cases h : x = 0
    · rw [pb_true h]; simp [h]
    · rw [pb_false h]; simp [h]
  rw [this]

theorem isZero_ret (v : Sim) (hv : v.length ≤ 1048576) : Ret E n_Z44 [dL v] ⟨o_Z44,(pb (Zs v),())⟩ := by
  refine ret_of ?_
  simp only [run_Z44,Z44.ev]
  refine ev_call (ContainsFunc_Sint64_int64_impl_isZero_1_ret v _ hv fun x _ => isZero_1_ret x) (ev_some ?_)
  simp only [none_bad]; rfl

end VeT

open Go Go.Proofs Ve
set_option linter.unusedVariables false
set_option linter.unusedSimpArgs false
namespace VeT

/-! powers -/
theorem mul_congr {p x x' y y' : Int} (h1 : x % p = x' % p) (h2 : y % p = y' % p) : x * y % p = x' * y' % p := by
  rw [Int.mul_emod x,h1,h2,← Int.mul_emod]

theorem pow_congr {p x x' : Int} (h : x % p = x' % p) : ∀ n : Nat,x ^ n % p = x' ^ n % p
  | 0 => by rw [Int.pow_zero,Int.pow_zero]
  | n + 1 => by rw [Int.pow_succ,Int.pow_succ]; exact mul_congr (pow_congr h n) h

/-- the inverse of a number -/
def invF (a p : Int) : Int := a ^ (p - 2).toNat % p

theorem invF_in {a p : Int} (hp : 2 ≤ p) : 0 ≤ invF a p ∧ invF a p ≤ p - 1 := by
  have h0 := Int.emod_nonneg (a ^ (p - 2).toNat) (show p ≠ 0 by omega)
  have h1 := Int.emod_lt_of_pos (a ^ (p - 2).toNat) (show 0 < p by omega)
  unfold invF; omega

/-! elimination -/
abbrev Ent := Nat → Nat → Int

def elSw (top q : Nat) (A : Ent) : Ent := fun i => if i = top then A q else if i = q then A top else A i
def elN (p : Int) (c top : Nat) (B : Ent) : Nat → Int := fun j => B top j * invF (B top c) p % p
def elM (p : Int) (c top : Nat) (B : Ent) : Ent := fun i j => if i = top then elN p c top B j else B i j
def elF (p : Int) (c top : Nat) (B : Ent) : Ent := fun i j => if i = top then elN p c top B j else if B i c ≠ 0 then (B i j + (p - B i c) * elN p c top B j) % p else B i j

noncomputable def elP (p : Int) (R c : Nat) (S : Ent × List Nat) : Ent × List Nat :=
  match firstN (fun i => S.1 i c ≠ 0) S.2.length (R - S.2.length) with
  | none => S
  | some q => (elF p c S.2.length (elSw S.2.length q S.1),S.2 ++ [c])

noncomputable def elS (p : Int) (R : Nat) (A : Ent) : Nat → Ent × List Nat
  | 0 => (A,[])
  | c + 1 => elP p R c (elS p R A c)

def EIn (p : Int) (R W : Nat) (A : Ent) : Prop := ∀ i j,i < R → j < W → 0 ≤ A i j ∧ A i j ≤ p - 1

theorem EIn.sw {p : Int} {R W top q : Nat} {A : Ent} (h : EIn p R W A) (ht : top < R) (hq : q < R) : EIn p R W (elSw top q A) := fun i j hi hj => by
  unfold elSw; split
  · exact h q j hq hj
  · split
    · exact h top j ht hj
    · exact h i j hi hj

theorem emod_in {p x : Int} (hp : 2 ≤ p) : 0 ≤ x % p ∧ x % p ≤ p - 1 := by
  have h0 := Int.emod_nonneg x (show p ≠ 0 by omega)
  have h1 := Int.emod_lt_of_pos x (show 0 < p by omega)
  omega

theorem EIn.f {p : Int} {R W c top : Nat} {B : Ent} (h : EIn p R W B) (hp : 2 ≤ p) : EIn p R W (elF p c top B) := fun i j hi hj => by
  unfold elF; split
  · exact emod_in hp
  · split
    · exact emod_in hp
    · exact h i j hi hj

theorem elS_in {p : Int} {R W : Nat} {A : Ent} (hp : 2 ≤ p) (h : EIn p R W A) : ∀ c,EIn p R W (elS p R A c).1 ∧ (elS p R A c).2.length ≤ R ∧ (elS p R A c).2.length ≤ c ∧ ∀ x ∈ (elS p R A c).2,x < c
  | 0 => ⟨h,Nat.zero_le _,Nat.zero_le _,fun x hx => by simp [elS] at hx⟩
  | c + 1 => by
    obtain ⟨h1,h2,h3,h4⟩ := elS_in hp h c
    rw [elS,elP]
    cases hf : firstN (fun i => (elS p R A c).1 i c ≠ 0) (elS p R A c).2.length (R - (elS p R A c).2.length) with
    | none => exact ⟨h1,h2,by show (elS p R A c).2.length ≤ c + 1; omega,fun x hx => by have := h4 x hx; omega⟩
    | some q =>
      have hq := firstN_some hf
      refine ⟨(h1.sw (by omega) (by omega)).f hp,?_,?_,fun x hx => ?_⟩
      · simp only [List.length_append,List.length_singleton]; omega
      · simp only [List.length_append,List.length_singleton]; omega
      · rcases List.mem_append.1 hx with hx | hx
        · have := h4 x hx; omega
        · rw [List.mem_singleton] at hx; omega

/-! rows -/
def rowsE (A : Ent) (R W : Nat) : List Sim := (List.range R).map fun i => (List.range W).map (A i)

theorem rowsE_length {A : Ent} {R W : Nat} : (rowsE A R W).length = R := by simp [rowsE]

theorem rowsE_get {A : Ent} {R W i : Nat} (hi : i < R) : (rowsE A R W)[i]? = some ((List.range W).map (A i)) := by
  unfold rowsE; rw [List.getElem?_map,List.getElem?_range hi]; rfl

theorem rowsE_congr {A B : Ent} {R W : Nat} (h : ∀ i j,i < R → j < W → A i j = B i j) : rowsE A R W = rowsE B R W :=
  List.map_congr_left fun i hi => List.map_congr_left fun j hj => h i j (List.mem_range.1 hi) (List.mem_range.1 hj)

theorem rowsE_set {A : Ent} {R W i : Nat} {f : Nat → Int} : (rowsE A R W).set i ((List.range W).map f) = rowsE (fun k j => if k = i then f j else A k j) R W := by
  apply List.ext_getElem?
  intro k
  by_cases hk : k < R
  · rw [rowsE_get hk]
    by_cases hik : k = i
    · subst hik
      rw [List.getElem?_set_self (by rw [rowsE_length]; exact hk)]
      simp
    · rw [List.getElem?_set_ne (Ne.symm hik),rowsE_get hk]
      simp [hik]
  · rw [List.getElem?_eq_none (by rw [List.length_set,rowsE_length]; omega),List.getElem?_eq_none (by rw [rowsE_length]; omega)]

theorem row_get {f : Nat → Int} {W j : Nat} (hj : j < W) : ((List.range W).map f)[j]? = some (f j) := by
  rw [List.getElem?_map,List.getElem?_range hj]; rfl

theorem flatF_set {A : Ent} {R W i j : Nat} {v : Int} (hi : i < R) (hj : j < W) : (flatF A W R).set (i * W + j) v = flatF (fun k l => if k = i ∧ l = j then v else A k l) W R := by
  apply List.ext_getElem?
  intro n
  by_cases hn : n < R * W
  · have hW : 0 < W := by omega
    have e : n = n / W * W + n % W := by have := Nat.div_add_mod n W; rw [Nat.mul_comm] at this; omega
    have h1 : n / W < R := Nat.div_lt_of_lt_mul (by rw [Nat.mul_comm]; exact hn)
    have h2 : n % W < W := Nat.mod_lt _ hW
    generalize n / W = a at e h1
    generalize n % W = b at e h2
    subst e
    rw [flatF_getD h1 h2]
    by_cases hab : a = i ∧ b = j
    · obtain ⟨rfl,rfl⟩ := hab
      rw [List.getElem?_set_self (by rw [flatF_length]; exact hn)]
      simp
    · rw [List.getElem?_set_ne,flatF_getD h1 h2,if_neg hab]
      intro e
      have hbW : b < W := h2
      have : a = i ∧ b = j := by
        have h3 : (i * W + j) / W = i := by rw [Nat.mul_comm,Nat.mul_add_div (by omega),Nat.div_eq_of_lt hj,Nat.add_zero]
        have h4 : (a * W + b) / W = a := by rw [Nat.mul_comm,Nat.mul_add_div (by omega),Nat.div_eq_of_lt hbW,Nat.add_zero]
        have : a = i := by rw [← h3,← h4,e]
        subst this
        exact ⟨rfl,by omega⟩
      exact hab this
  · rw [List.getElem?_eq_none (by rw [List.length_set,flatF_length]; omega),List.getElem?_eq_none (by rw [flatF_length]; omega)]

theorem flatF_flatten {A : Ent} {W : Nat} : ∀ {R : Nat},(rowsE A R W).flatten = flatF A W R
  | 0 => by simp [rowsE,flatF]
  | R + 1 => by
    have := flatF_flatten (A := A) (W := W) (R := R)
    unfold rowsE at this ⊢
    rw [List.range_succ,List.map_append,List.flatten_append,this,flatF]
    simp

/-- a matrix' entries -/
def entM (cells : Sim) (W : Nat) : Ent := fun i j => cells.getD (i * W + j) 0

theorem entM_flat {cells : Sim} {R W : Nat} (h : cells.length = R * W) : flatF (entM cells W) W R = cells := by
  refine List.ext_getElem (by rw [flatF_length,h]) fun n h1 h2 => ?_
  rw [flatF_length] at h1
  have hW : 0 < W := by
    cases W with
    | zero => simp at h1
    | succ W => omega
  have e : n = n / W * W + n % W := by have := Nat.div_add_mod n W; rw [Nat.mul_comm] at this; omega
  have h3 : n / W < R := Nat.div_lt_of_lt_mul (by rw [Nat.mul_comm]; exact h1)
  have h4 : n % W < W := Nat.mod_lt _ hW
  have hg := flatF_getD (f := entM cells W) h3 h4
  rw [← e,List.getElem?_eq_getElem (by rw [flatF_length]; exact h1)] at hg
  rw [Option.some.inj hg]
  unfold entM
  rw [← e,getD_lt h2]

theorem entM_in {p : Int} {cells : Sim} {R W : Nat} (h : Elems cells p) (hl : cells.length = R * W) : EIn p R W (entM cells W) := fun i j hi hj => by
  unfold entM
  have := lt_rc hi hj
  rw [getD_lt (by omega)]
  exact h _ (List.getElem_mem _)

end VeT

open Go Go.Proofs Ve
set_option linter.unusedVariables false
set_option linter.unusedSimpArgs false
namespace VeT

/-! inverses modulo a prime -/
def invTab : Bool := (List.range 252).all fun p => !(decide (2 ≤ p) && (List.range 16).all fun k => !(decide (2 ≤ k) && decide (k * k ≤ p) && decide (p % k = 0))) || (List.range p).all fun a => a == 0 || (a * (a ^ (p - 2) % p) % p == 1)

theorem invTab_ok : invTab = true := by kernel_rfl

theorem inv_mul {p a : Int} (hp : Pr p) (h1 : 1 ≤ a) (h2 : a ≤ p - 1) : a * invF a p % p = 1 := by
  obtain ⟨hp2,hp251,hpk⟩ := hp
  obtain ⟨P,rfl⟩ := Int.eq_ofNat_of_zero_le (show 0 ≤ p by omega)
  obtain ⟨N,rfl⟩ := Int.eq_ofNat_of_zero_le (show 0 ≤ a by omega)
  have h := invTab_ok
  unfold invTab at h
  rw [List.all_eq_true] at h
  have hP := h P (List.mem_range.2 (by omega))
  rw [Bool.or_eq_true] at hP
  rcases hP with hP | hP
  · exfalso
    rw [Bool.not_eq_true',Bool.and_eq_false_iff] at hP
    rcases hP with hP | hP
    · have := of_decide_eq_false hP; omega
    · rw [← Bool.not_eq_true,List.all_eq_true] at hP
      refine hP fun k hk => ?_
      have hk16 := List.mem_range.1 hk
      rw [Bool.not_eq_true',Bool.and_eq_false_iff,Bool.and_eq_false_iff]
      by_cases hk2 : 2 ≤ k
      · by_cases hkk : k * k ≤ P
        · right
          refine decide_eq_false fun e => ?_
          have := hpk k hk2 (by have : ((k * k : Nat) : Int) ≤ (P : Int) := by omega
                                rwa [Int.natCast_mul] at this)
          exact this (by omega)
        · exact .inl (.inr (decide_eq_false hkk))
      · exact .inl (.inl (decide_eq_false hk2))
  · rw [List.all_eq_true] at hP
    have hN := hP N (List.mem_range.2 (by omega))
    rw [Bool.or_eq_true] at hN
    rcases hN with hN | hN
    · have : N = 0 := by simpa using hN
      omega
    · have hN : N * (N ^ (P - 2) % P) % P = 1 := by simpa using hN
      unfold invF
      have e : ((P : Int) - 2).toNat = P - 2 := by omega
      rw [e]
      have : ((N * (N ^ (P - 2) % P) % P : Nat) : Int) = 1 := by rw [hN]; rfl
      rwa [Int.natCast_emod,Int.natCast_mul,Int.natCast_emod,Int.natCast_pow] at this

/-! sums of multiples of rows -/
theorem dotN_add {c d g : Nat → Int} : ∀ {n : Nat},dotN (fun i => c i + d i) g n = dotN c g n + dotN d g n
  | 0 => rfl
  | n + 1 => by simp only [dotN]; rw [dotN_add,Int.add_mul]; omega

theorem dotN_smul {k : Int} {c g : Nat → Int} : ∀ {n : Nat},dotN (fun i => k * c i) g n = k * dotN c g n
  | 0 => by simp [dotN]
  | n + 1 => by simp only [dotN]; rw [dotN_smul,Int.mul_add,Int.mul_assoc]

theorem dotN_none {k : Nat} {g : Nat → Int} : ∀ {n : Nat},n ≤ k → dotN (fun i => if i = k then 1 else 0) g n = 0
  | 0,_ => rfl
  | n + 1,h => by simp only [dotN]; rw [dotN_none (by omega),if_neg (by omega),Int.zero_mul]; rfl

theorem dotN_one {k : Nat} {g : Nat → Int} : ∀ {n : Nat},k < n → dotN (fun i => if i = k then 1 else 0) g n = g k
  | n + 1,h => by
    simp only [dotN]
    by_cases hk : k = n
    · subst hk; rw [dotN_none (Nat.le_refl _),if_pos rfl,Int.one_mul,Int.zero_add]
    · rw [dotN_one (by omega),if_neg (by omega),Int.zero_mul,Int.add_zero]

def Spn (p : Int) (R W : Nat) (A : Ent) (x : Nat → Int) : Prop := ∃ c : Nat → Int,∀ j,j < W → dotN c (fun i => A i j) R % p = x j % p

theorem Spn.row {p : Int} {R W : Nat} {A : Ent} {i : Nat} (hi : i < R) : Spn p R W A (A i) := ⟨fun k => if k = i then 1 else 0,fun j _ => by rw [dotN_one hi]⟩

theorem Spn.congr {p : Int} {R W : Nat} {A : Ent} {x y : Nat → Int} (h : ∀ j,j < W → x j % p = y j % p) : Spn p R W A x → Spn p R W A y := fun ⟨c,hc⟩ => ⟨c,fun j hj => (hc j hj).trans (h j hj)⟩

theorem Spn.add {p : Int} {R W : Nat} {A : Ent} {x y : Nat → Int} (hx : Spn p R W A x) (hy : Spn p R W A y) : Spn p R W A (fun j => x j + y j) := by
  obtain ⟨c,hc⟩ := hx
  obtain ⟨d,hd⟩ := hy
  exact ⟨fun i => c i + d i,fun j hj => by rw [dotN_add,Int.add_emod,hc j hj,hd j hj,← Int.add_emod]⟩

theorem Spn.smul {p : Int} {R W : Nat} {A : Ent} {x : Nat → Int} (k : Int) (hx : Spn p R W A x) : Spn p R W A (fun j => k * x j) := by
  obtain ⟨c,hc⟩ := hx
  exact ⟨fun i => k * c i,fun j hj => by rw [dotN_smul,Int.mul_emod,hc j hj,← Int.mul_emod]⟩

theorem Spn.zero {p : Int} {R W : Nat} {A : Ent} : Spn p R W A (fun _ => 0) := ⟨fun _ => 0,fun j _ => by
  have : ∀ n,dotN (fun _ => 0) (fun i => A i j) n = 0 := fun n => by
    induction n with
    | zero => rfl
    | succ n ih => simp only [dotN,ih,Int.zero_mul]; rfl
  rw [this]⟩

theorem Spn.sum {p : Int} {R W : Nat} {A B : Ent} {c : Nat → Int} : ∀ {n : Nat},(∀ i,i < n → Spn p R W A (B i)) → Spn p R W A (fun j => dotN c (fun i => B i j) n)
  | 0,_ => Spn.zero
  | n + 1,h => (Spn.sum (n := n) fun i hi => h i (by omega)).add ((h n (Nat.lt_succ_self n)).smul (c n))

theorem Spn.trans {p : Int} {R R' W : Nat} {A B : Ent} {x : Nat → Int} (h : ∀ i,i < R' → Spn p R W A (B i)) (hx : Spn p R' W B x) : Spn p R W A x := by
  obtain ⟨c,hc⟩ := hx
  exact (Spn.sum h).congr hc

/-! the steps of the elimination keep the rows' sums -/
def Eqv (p : Int) (R W : Nat) (A B : Ent) : Prop := (∀ i,i < R → Spn p R W A (B i)) ∧ (∀ i,i < R → Spn p R W B (A i))

theorem Eqv.refl {p : Int} {R W : Nat} {A : Ent} : Eqv p R W A A := ⟨fun _ h => Spn.row h,fun _ h => Spn.row h⟩
theorem Eqv.trans {p : Int} {R W : Nat} {A B C : Ent} (h : Eqv p R W A B) (k : Eqv p R W B C) : Eqv p R W A C := ⟨fun i hi => Spn.trans h.1 (k.1 i hi),fun i hi => Spn.trans k.2 (h.2 i hi)⟩

theorem Eqv.sw {p : Int} {R W top q : Nat} {A : Ent} (ht : top < R) (hq : q < R) : Eqv p R W A (elSw top q A) := by
  refine ⟨fun i hi => ?_,fun i hi => ?_⟩
  · unfold elSw
    split
    · exact Spn.row hq
    · split
      · exact Spn.row ht
      · exact Spn.row hi
  · have key : ∀ k,k < R → (elSw top q A) k = A i → Spn p R W (elSw top q A) (A i) := fun k hk e => by rw [← e]; exact Spn.row hk
    by_cases h1 : i = top
    · subst h1
      by_cases h2 : q = i
      · subst h2; exact key q hq (by simp [elSw])
      · exact key q hq (by simp [elSw,h2])
    · by_cases h2 : i = q
      · subst h2; exact key top ht (by simp [elSw])
      · exact key i hi (by simp [elSw,h1,h2])

theorem Eqv.f {p : Int} {R W c top : Nat} {B : Ent} (hp : Pr p) (ht : top < R) (hl : 1 ≤ B top c ∧ B top c ≤ p - 1) : Eqv p R W B (elF p c top B) := by
  have hinv := inv_mul hp hl.1 hl.2
  have hN : Spn p R W B (elN p c top B) := ((Spn.row ht).smul (invF (B top c) p)).congr fun j _ => by
    show invF (B top c) p * B top j % p = (B top j * invF (B top c) p % p) % p
    rw [Int.emod_emod_of_dvd _ (Int.dvd_refl p),Int.mul_comm]
  have eTop : elF p c top B top = elN p c top B := by funext j; simp [elF]
  have hN2 : Spn p R W (elF p c top B) (elN p c top B) := by rw [← eTop]; exact Spn.row ht
  refine ⟨fun i hi => ?_,fun i hi => ?_⟩
  · by_cases h1 : i = top
    · subst h1; rw [eTop]; exact hN
    · by_cases h2 : B i c = 0
      · have e : elF p c top B i = B i := by funext j; simp [elF,h1,h2]
        rw [e]; exact Spn.row hi
      · refine ((Spn.row hi).add (hN.smul (p - B i c))).congr fun j _ => ?_
        have e : elF p c top B i j = (B i j + (p - B i c) * elN p c top B j) % p := by simp [elF,h1,h2]
        rw [e,Int.emod_emod_of_dvd _ (Int.dvd_refl p)]
  · by_cases h1 : i = top
    · subst h1
      refine (hN2.smul (B i c)).congr fun j _ => ?_
      show B i c * (B i j * invF (B i c) p % p) % p = B i j % p
      rw [Int.mul_emod,Int.emod_emod_of_dvd _ (Int.dvd_refl p),← Int.mul_emod,show B i c * (B i j * invF (B i c) p) = B i j * (B i c * invF (B i c) p) by rw [← Int.mul_assoc,Int.mul_comm (B i c),Int.mul_assoc],Int.mul_emod,hinv,Int.mul_one,Int.emod_emod_of_dvd _ (Int.dvd_refl p)]
    · by_cases h2 : B i c = 0
      · have e : elF p c top B i = B i := by funext j; simp [elF,h1,h2]
        rw [← e]; exact Spn.row hi
      · refine ((Spn.row hi).add (hN2.smul (B i c))).congr fun j _ => ?_
        have e : elF p c top B i j = (B i j + (p - B i c) * elN p c top B j) % p := by simp [elF,h1,h2]
        rw [e,Int.add_emod,Int.emod_emod_of_dvd _ (Int.dvd_refl p),← Int.add_emod,show B i j + (p - B i c) * elN p c top B j + B i c * elN p c top B j = B i j + p * elN p c top B j by rw [Int.sub_mul]; omega,Int.add_mul_emod_self_left]

/-! the shape of what the elimination leaves -/
structure Rf (R c : Nat) (B : Ent) (pv : List Nat) : Prop where
  len : pv.length ≤ R
  lt : ∀ i,i < pv.length → pv.getD i 0 < c
  mono : ∀ i j,i < j → j < pv.length → pv.getD i 0 < pv.getD j 0
  one : ∀ i j,i < R → j < pv.length → B i (pv.getD j 0) = if i = j then 1 else 0
  low : ∀ i j,i < pv.length → j < pv.getD i 0 → B i j = 0
  bot : ∀ i j,pv.length ≤ i → i < R → j < c → B i j = 0

end VeT

open Go Go.Proofs Ve
set_option linter.unusedVariables false
set_option linter.unusedSimpArgs false
namespace VeT

theorem getD_app_lt {l : List Nat} {c i : Nat} (h : i < l.length) : (l ++ [c]).getD i 0 = l.getD i 0 := by
  rw [List.getD_eq_getElem?_getD,List.getD_eq_getElem?_getD,List.getElem?_append_left h]

theorem getD_app_eq {l : List Nat} {c : Nat} : (l ++ [c]).getD l.length 0 = c := by
  rw [List.getD_eq_getElem?_getD,List.getElem?_append_right (Nat.le_refl _)]; simp

theorem Rf.next {p : Int} {R W c : Nat} {B : Ent} {pv : List Nat} (hp : Pr p) (hB : EIn p R W B) (hc : c < W) (h : Rf R c B pv) {q : Nat} (hq : pv.length ≤ q ∧ q < R) (hne : B q c ≠ 0) :
    Rf R (c + 1) (elF p c pv.length (elSw pv.length q B)) (pv ++ [c]) := by
  obtain ⟨hlen,hlt,hmono,hone,hlow,hbot⟩ := h
  generalize ht : pv.length = top at *
  have hB' : EIn p R W (elSw top q B) := hB.sw (by omega) hq.2
  have rowLt : ∀ i,i < top → elSw top q B i = B i := fun i hi => by
    unfold elSw; rw [if_neg (by omega),if_neg (by omega)]
  have rowGe : ∀ i,top ≤ i → i < R → ∀ j,j < c → elSw top q B i j = 0 := fun i h1 h2 j hj => by
    unfold elSw
    split
    · exact hbot q j hq.1 hq.2 hj
    · split
      · exact hbot top j (Nat.le_refl _) (by omega) hj
      · exact hbot i j h1 h2 hj
  have eLead : elSw top q B top c = B q c := by simp [elSw]
  have hlead : 1 ≤ elSw top q B top c ∧ elSw top q B top c ≤ p - 1 := by
    have := hB q c hq.2 hc
    rw [eLead]; omega
  generalize elSw top q B = B' at hB' rowLt rowGe eLead hlead
  have hinv := inv_mul hp hlead.1 hlead.2
  have nLt : ∀ j,j < c → elN p c top B' j = 0 := fun j hj => by
    unfold elN; rw [rowGe top (Nat.le_refl _) (by omega) j hj,Int.zero_mul]; exact Int.zero_emod p
  have nC : elN p c top B' c = 1 := hinv
  have fLt : ∀ i j,i < R → j < c → elF p c top B' i j = B' i j := fun i j hi hj => by
    unfold elF
    split
    · rename_i e; subst e; rw [nLt j hj,rowGe i (Nat.le_refl _) hi j hj]
    · split
      · rw [nLt j hj,Int.mul_zero,Int.add_zero]
        have := hB' i j hi (by omega)
        exact Int.emod_eq_of_lt this.1 (by omega)
      · rfl
  have fC : ∀ i,i < R → elF p c top B' i c = if i = top then 1 else 0 := fun i hi => by
    unfold elF
    split
    · exact nC
    · split
      · rw [nC,Int.mul_one,show B' i c + (p - B' i c) = p by omega,Int.emod_self]
      · rename_i _ h2; exact Classical.byContradiction fun e => h2 e
  refine ⟨?_,?_,?_,?_,?_,?_⟩
  · rw [List.length_append,List.length_singleton,ht]; omega
  · intro i hi
    rw [List.length_append,List.length_singleton,ht] at hi
    by_cases hi2 : i < top
    · rw [getD_app_lt (by omega)]; have := hlt i hi2; omega
    · obtain rfl : i = top := by omega
      subst ht
      rw [getD_app_eq]; omega
  · intro i j hij hj
    rw [List.length_append,List.length_singleton,ht] at hj
    by_cases hj2 : j < top
    · rw [getD_app_lt (by omega),getD_app_lt (by omega)]; exact hmono i j hij hj2
    · obtain rfl : j = top := by omega
      have := hlt i hij
      subst ht
      rw [getD_app_lt hij,getD_app_eq]; exact this
  · intro i j hi hj
    rw [List.length_append,List.length_singleton,ht] at hj
    by_cases hj2 : j < top
    · have hpj := hlt j hj2
      rw [getD_app_lt (by omega),fLt i _ hi hpj]
      by_cases hi2 : i < top
      · rw [rowLt i hi2]; exact hone i j hi hj2
      · rw [rowGe i (by omega) hi _ hpj,if_neg (by omega)]
    · obtain rfl : j = top := by omega
      have hfc := fC i hi
      subst ht
      rw [getD_app_eq]; exact hfc
  · intro i j hi hj
    rw [List.length_append,List.length_singleton,ht] at hi
    by_cases hi2 : i < top
    · rw [getD_app_lt (by omega)] at hj
      have := hlt i hi2
      rw [fLt i j (by omega) (by omega),rowLt i hi2]; exact hlow i j hi2 hj
    · obtain rfl : i = top := by omega
      have hfl : j < c → elF p c i B' i j = 0 := fun h => by rw [fLt i j (by omega) h]; exact rowGe i (Nat.le_refl _) (by omega) j h
      have e : (pv ++ [c]).getD i 0 = c := by rw [← ht]; exact getD_app_eq
      rw [e] at hj
      exact hfl hj
  · intro i j hi hiR hj
    rw [List.length_append,List.length_singleton,ht] at hi
    by_cases hjc : j < c
    · rw [fLt i j hiR hjc]; exact rowGe i (by omega) hiR j hjc
    · obtain rfl : j = c := by omega
      rw [fC i hiR,if_neg (by omega)]

theorem elS_rf {p : Int} {R W : Nat} {A : Ent} (hp : Pr p) (hA : EIn p R W A) : ∀ c,c ≤ W → Rf R c (elS p R A c).1 (elS p R A c).2 ∧ Eqv p R W A (elS p R A c).1
  | 0,_ => ⟨⟨Nat.zero_le _,fun i h => by simp [elS] at h,fun i j _ h => by simp [elS] at h,fun i j _ h => by simp [elS] at h,fun i j h => by simp [elS] at h,fun i j _ _ h => by omega⟩,Eqv.refl⟩
  | c + 1,hc => by
    obtain ⟨h1,h2⟩ := elS_rf hp hA c (by omega)
    have hB := (elS_in hp.1 hA c).1
    rw [elS,elP]
    generalize elS p R A c = S at h1 h2 hB
    obtain ⟨B,pv⟩ := S
    simp only at h1 h2 hB ⊢
    cases hf : firstN (fun i => B i c ≠ 0) pv.length (R - pv.length) with
    | none =>
      have hn := firstN_none hf
      show Rf R (c + 1) B pv ∧ Eqv p R W A B
      refine ⟨⟨h1.len,fun i hi => by have := h1.lt i hi; omega,h1.mono,h1.one,h1.low,fun i j h3 h4 h5 => ?_⟩,h2⟩
      by_cases hj : j < c
      · exact h1.bot i j h3 h4 hj
      · obtain rfl : j = c := by omega
        exact Classical.byContradiction fun e => hn i h3 (by omega) e
    | some q =>
      have hq := firstN_some hf
      have hq2 : pv.length ≤ q ∧ q < R := by omega
      have hlead : 1 ≤ elSw pv.length q B pv.length c ∧ elSw pv.length q B pv.length c ≤ p - 1 := by
        have e : elSw pv.length q B pv.length c = B q c := by simp [elSw]
        have := hB q c hq2.2 (by omega)
        have := hq.2.2
        rw [e]; omega
      exact ⟨h1.next hp hB (by omega) hq2 hq.2.2,(h2.trans (Eqv.sw (by omega) hq2.2)).trans (Eqv.f hp (by omega) hlead)⟩

end VeT

open Go Go.Proofs Ve
set_option linter.unusedVariables false
set_option linter.unusedSimpArgs false
namespace VeT

end VeT

open Go Go.Proofs Ve
set_option linter.unusedVariables false
set_option linter.unusedSimpArgs false
namespace VeT

end VeT

open Go Go.Proofs Ve
set_option linter.unusedVariables false
set_option linter.unusedSimpArgs false
namespace VeT

end VeT

open Go Go.Proofs Ve
set_option linter.unusedVariables false
set_option linter.unusedSimpArgs false
namespace VeT

theorem VM.len {m : Mat} (h : VM m) : m.2.2.2.1.length ≤ 1024 := by
  obtain ⟨R,C,_,hR,hC,hl⟩ := h.nat
  have := rc_le hR hC
  omega

end VeT

open Go Go.Proofs Ve
set_option linter.unusedVariables false
set_option linter.unusedSimpArgs false
namespace VeT

theorem Rises.lt {s : Sim} (h : Rises s) : ∀ {i j : Nat} (hj : j < s.length) (hij : i < j),s[i] < s[j] := by
  intro i j
  induction j with
  | zero => intro _ h; omega
  | succ j ih =>
    intro hj hij
    have := h (j + 1) (by omega) hj
    rw [Nat.add_sub_cancel,getD_lt (by omega),getD_lt hj] at this
    by_cases e : i = j
    · subst e; exact this
    · exact Int.lt_trans (ih (by omega) (by omega)) this

theorem sorted_eq : ∀ {a b : Sim},a.Pairwise (· < ·) → b.Pairwise (· < ·) → (∀ x,x ∈ a ↔ x ∈ b) → a = b
  | [],[],_,_,_ => rfl
  | [],y :: ys,_,_,h => absurd ((h y).2 List.mem_cons_self) (by simp)
  | x :: xs,[],_,_,h => absurd ((h x).1 List.mem_cons_self) (by simp)
  | x :: xs,y :: ys,ha,hb,h => by
    rw [List.pairwise_cons] at ha hb
    have exy : x = y := by
      have h1 := (h x).1 List.mem_cons_self
      have h2 := (h y).2 List.mem_cons_self
      rw [List.mem_cons] at h1 h2
      rcases h1 with h1 | h1
      · exact h1
      · rcases h2 with h2 | h2
        · exact h2.symm
        · have := hb.1 x h1
          have := ha.1 y h2
          omega
    subst exy
    congr 1
    refine sorted_eq ha.2 hb.2 fun z => ⟨fun hz => ?_,fun hz => ?_⟩
    · have := (h z).1 (List.mem_cons_of_mem _ hz)
      rw [List.mem_cons] at this
      rcases this with e | e
      · have := ha.1 z hz; omega
      · exact e
    · have := (h z).2 (List.mem_cons_of_mem _ hz)
      rw [List.mem_cons] at this
      rcases this with e | e
      · have := hb.1 z hz; omega
      · exact e

end VeT

open Go Go.Proofs Ve
set_option linter.unusedVariables false
set_option linter.unusedSimpArgs false
namespace VeT

end VeT

open Go Go.Proofs Ve
set_option linter.unusedVariables false
set_option linter.unusedSimpArgs false
namespace VeT

end VeT

open Go Go.Proofs Ve
set_option linter.unusedVariables false
set_option linter.unusedSimpArgs false
namespace VeT

end VeT

open Go Go.Proofs Ve
set_option linter.unusedVariables false
set_option linter.unusedSimpArgs false
namespace VeT

/-! sums of rows -/
def addV (a b : Sim) (c p : Int) : Sim := (List.range a.length).map fun i => (a.getD i 0 + c * b.getD i 0) % p

end VeT

open Go Go.Proofs Ve
set_option linter.unusedVariables false
set_option linter.unusedSimpArgs false
namespace VeT

end VeT

open Go Go.Proofs Ve
set_option linter.unusedVariables false
set_option linter.unusedSimpArgs false
namespace VeT

end VeT

open Go Go.Proofs Ve
set_option linter.unusedVariables false
set_option linter.unusedSimpArgs false
namespace VeT

/-! places -/
def Plcs (c : List Sim) (w : Sim) : Prop := Rises w ∧ ∀ y ∈ w,0 ≤ y ∧ y ≤ (c.length : Int) - 1

theorem Plcs.get {c : List Sim} {w : Sim} (h : Plcs c w) {i : Nat} (hi : i < w.length) : ∃ n : Nat,w[i] = (n : Int) ∧ n < c.length := by
  have := h.2 _ (List.getElem_mem hi)
  exact ⟨(w[i]).toNat,by omega,by omega⟩

end VeT

open Go Go.Proofs Ve
set_option linter.unusedVariables false
set_option linter.unusedSimpArgs false
namespace VeT

/-! the first number -/
theorem firstN_min {P : Nat → Prop} : ∀ {d a k : Nat},firstN P a d = some k → ∀ i,a ≤ i → i < k → ¬ P i
  | 0,a,k,h => by simp [firstN] at h
  | d + 1,a,k,h => fun i h1 h2 => by
    rw [firstN] at h
    split at h
    · obtain rfl := Option.some.inj h; omega
    · rename_i hp
      by_cases e : i = a
      · subst e; exact hp
      · exact firstN_min h i (by omega) h2

end VeT

open Go Go.Proofs Ve
set_option linter.unusedVariables false
set_option linter.unusedSimpArgs false
namespace VeT

/-! remainders -/
def redV (a p : Int) : Int := Int.tmod (w64 (Int.tmod a p + p)) p

theorem redV_eq {a p : Int} (hp : 2 ≤ p ∧ p ≤ 251) (ha : -1048576 ≤ a ∧ a ≤ 1048576) : redV a p = a % p := by
  have h1 : -p < Int.tmod a p ∧ Int.tmod a p < p := by
    constructor
    · by_cases h : a < 0
      · have := Int.tmod_lt_of_pos (-a) (show 0 < p by omega)
        rw [Int.neg_tmod] at this; omega
      · have := Int.tmod_nonneg p (show 0 ≤ a by omega); omega
    · exact Int.tmod_lt_of_pos a (by omega)
  have h2 : Int.tmod a p % p = a % p := by
    have := Int.tmod_add_mul_tdiv a p
    have e : a = Int.tmod a p + p * Int.tdiv a p := this.symm
    conv => rhs; rw [e]
    rw [Int.add_mul_emod_self_left]
  unfold redV
  rw [w64_small (by omega) (by omega),Int.tmod_eq_emod_of_nonneg (by omega),Int.add_emod_right,h2]

theorem reduce_ret (a p : Int) (hp : 2 ≤ p) : Ret E n_Z51 [dI a,dI p] ⟨o_Z51,(redV a p,())⟩ := by
  refine ret_of ?_
  simp only [run_Z51,Z51.ev]
  exact ev_chk (by simp; omega) (ev_chk (by simp; omega) ev_rfl)

theorem l03Mod_ret (a p : Int) (hp : 2 ≤ p) : Ret E n_Z110 [dI a,dI p] ⟨o_Z110,(redV a p,())⟩ := by
  refine ret_of ?_
  simp only [run_Z110,Z110.ev]
  exact ev_chk (by simp; omega) (ev_chk (by simp; omega) ev_rfl)

theorem addTimes_ret (a b : Sim) (c p : Int) (hp : 2 ≤ p ∧ p ≤ 251) (hc : 0 ≤ c ∧ c ≤ 250) (hl : a.length ≤ b.length) (ha1 : a.length ≤ 1048576) (ea : ∀ x ∈ a,0 ≤ x ∧ x ≤ 250) (eb : ∀ x ∈ b,0 ≤ x ∧ x ≤ 250) :
    Ret E n_Z13 [dL a,dL b,dI c,dI p] ⟨o_Z13,(addV a b c p,())⟩ := by
  refine ret_of ?_
  simp only [run_Z13,Z13.ev]
  refine Ev.start (p := fun φ n => Z13.l0 (mkR (run E (φ 0))) (φ 0) n a b c p (a.length : Int) 0 [] = _) 1 ?_ (fun _ _ _ h => h)
  refine fold_loop 1 (L := fun φ n k o => Z13.l0 (mkR (run E (φ 0))) (φ 0) n a b c p (a.length : Int) k o) (len := a.length) (fun k => (List.range k).map fun i => (a.getD i 0 + c * b.getD i 0) % p) (fun _ _ _ _ _ => rfl) (fun k r hk ih => ?_) ?_
  · simp only [Z13.l0_succ _ mk_ok]
    have hkb : k < b.length := by omega
    have h1 := ea _ (List.getElem_mem hk)
    have h2 := mul_in hc (eb _ (List.getElem_mem hkb))
    rw [List.range_succ,List.map_append,List.map_singleton,getD_lt hk,getD_lt hkb] at ih
    refine ev_t (decide_eq_true (by omega)) (ev_bind (idx_lt hk) (ev_bind (idx_lt hkb) (ev_chk (by simp; omega) ?_)))
    rw [w64_small (n := c * b[k]) (by omega) (by omega),w64_small (by omega) (by omega),Int.tmod_eq_emod_of_nonneg (by omega),w64_succ (by omega)]
    exact ev_chk (by simp; omega) ih
  · simp only [Z13.l0_succ _ mk_ok]
    exact ev_f (decide_eq_false (by omega)) ev_rfl

/-! inverses -/
theorem sq_pow {a : Int} : ∀ k : Nat,(a * a) ^ k = a ^ (k + k)
  | 0 => by rw [Int.pow_zero,Nat.add_zero,Int.pow_zero]
  | k + 1 => by rw [Int.pow_succ,sq_pow k,show k + 1 + (k + 1) = k + k + 1 + 1 by omega,Int.pow_succ,Int.pow_succ,Int.mul_assoc]

theorem powerOf_ret (a : Int) (n : Nat) (p : Int) (hp : 2 ≤ p ∧ p ≤ 251) (ha : 0 ≤ a ∧ a ≤ p - 1) (hn : n ≤ 1048576) : Ret E n_Z50 [dI a,dI (n : Int),dI p] ⟨o_Z50,(a ^ n % p,())⟩ := by
  refine ret_of ?_
  simp only [run_Z50,Z50.ev]
  refine Ev.start (p := fun φ m => Z50.l0 (mkR (run E (φ 0))) (φ 0) m a (n : Int) p 1 = _) 1 ?_ (fun _ _ _ h => h)
  refine loopR 1 (σ := Int × Nat × Int) (L := fun φ m s => Z50.l0 (mkR (run E (φ 0))) (φ 0) m s.1 (s.2.1 : Int) p s.2.2) (fun _ _ _ _ => rfl) (fun s => (0 ≤ s.1 ∧ s.1 ≤ p - 1) ∧ s.2.1 ≤ 1048576 ∧ (0 ≤ s.2.2 ∧ s.2.2 ≤ p - 1) ∧ s.2.2 * s.1 ^ s.2.1 % p = a ^ n % p) (fun _ => _) (fun s => s.2.1) (fun s hi ih => ?_) (a,n,1) ⟨ha,hn,by show 0 ≤ (1 : Int) ∧ (1 : Int) ≤ p - 1; omega,by show 1 * a ^ n % p = _; rw [Int.one_mul]⟩
  obtain ⟨b,m,q⟩ := s
  obtain ⟨h1,h2,h3,h4⟩ := hi
  simp only at h1 h2 h3 h4 ih
  simp only [Z50.l0_succ _ mk_ok]
  have hbb := mul_in (x := b) (y := b) (by omega) (by omega)
  have hqb := mul_in (x := q) (y := b) (by omega) (by omega)
  have e1 : w64 (b * b) = b * b := w64_small (by omega) (by omega)
  have e2 : w64 (q * b) = q * b := w64_small (by omega) (by omega)
  have e3 : Int.tdiv (m : Int) 2 = ((m / 2 : Nat) : Int) := rfl
  have e4 : w64 ((m / 2 : Nat) : Int) = ((m / 2 : Nat) : Int) := w64_small (by omega) (by omega)
  have e5 : Int.tmod (m : Int) 2 = ((m % 2 : Nat) : Int) := rfl
  refine ev_d (fun hm => ?_) fun hm => ev_some ?_
  · rw [e5,e1,e2,e3,e4,Int.tmod_eq_emod_of_nonneg (by omega),Int.tmod_eq_emod_of_nonneg (by omega)]
    have hd : m / 2 < m := by omega
    refine ev_b (fun ho => ev_chk (by simp; omega) (ev_chk (by simp; omega) ?_)) fun he => ev_chk (by simp; omega) ?_
    · have ho : m % 2 = 1 := by have : ((m % 2 : Nat) : Int) = 1 := by simpa using ho
                                omega
      refine ih (b * b % p,m / 2,q * b % p) ⟨emod_in (by omega),by show m / 2 ≤ _; omega,emod_in (by omega),?_⟩ hd
      rw [← h4]
      show q * b % p * (b * b % p) ^ (m / 2) % p = _
      have hx : (q * b % p) % p = (q * b) % p := Int.emod_emod_of_dvd _ (Int.dvd_refl p)
      have hy : (b * b % p) ^ (m / 2) % p = (b * b) ^ (m / 2) % p := pow_congr (Int.emod_emod_of_dvd _ (Int.dvd_refl p)) _
      rw [mul_congr hx hy,sq_pow]
      have hm2 : m = m / 2 + m / 2 + 1 := by omega
      conv => rhs; rw [hm2,Int.pow_succ]
      rw [Int.mul_assoc,Int.mul_comm b]
    · have he : m % 2 = 0 := by
        have : ¬ ((m % 2 : Nat) : Int) = 1 := by simpa using he
        omega
      refine ih (b * b % p,m / 2,q) ⟨emod_in (by omega),by show m / 2 ≤ _; omega,h3,?_⟩ hd
      rw [← h4]
      show q * (b * b % p) ^ (m / 2) % p = _
      have hy : (b * b % p) ^ (m / 2) % p = (b * b) ^ (m / 2) % p := pow_congr (Int.emod_emod_of_dvd _ (Int.dvd_refl p)) _
      rw [mul_congr rfl hy,sq_pow]
      have hm2 : m = m / 2 + m / 2 := by omega
      conv => rhs; rw [hm2]
  · have hm : m = 0 := by omega
    subst hm
    have : q = a ^ n % p := by rw [← h4,Int.pow_zero,Int.mul_one,Int.emod_eq_of_lt (by omega) (by omega)]
    rw [this]

theorem inverseOf_ret (a p : Int) (hp : 2 ≤ p ∧ p ≤ 251) (ha : 0 ≤ a ∧ a ≤ p - 1) : Ret E n_Z37 [dI a,dI p] ⟨o_Z37,(invF a p,())⟩ := by
  have e : w64 (p - 2) = (((p - 2).toNat : Nat) : Int) := by rw [w64_small (by omega) (by omega)]; omega
  refine ret_of ?_
  simp only [run_Z37,Z37.ev,e]
  exact ev_call (powerOf_ret a (p - 2).toNat p hp ha (by omega)) ev_rfl

theorem l03Inverse_ret (a p : Int) (hp : 2 ≤ p ∧ p ≤ 251) (ha : 0 ≤ a ∧ a ≤ p - 1) : Ret E n_Z107 [dI a,dI p] ⟨o_Z107,(invF a p,())⟩ := by
  have e : w64 (p - 2) = (((p - 2).toNat : Nat) : Int) := by rw [w64_small (by omega) (by omega)]; omega
  refine ret_of ?_
  simp only [run_Z107,Z107.ev,e]
  refine Ev.start (p := fun φ m => Z107.l0 (mkR (run E (φ 0))) (φ 0) m a p 1 (((p - 2).toNat : Nat) : Int) = _) 1 ?_ (fun _ _ _ h => h)
  refine loopR 1 (σ := Nat × Int) (L := fun φ m s => Z107.l0 (mkR (run E (φ 0))) (φ 0) m a p s.2 (s.1 : Int)) (fun _ _ _ _ => rfl) (fun s => s.1 ≤ 1048576 ∧ (0 ≤ s.2 ∧ s.2 ≤ p - 1) ∧ s.2 * a ^ s.1 % p = a ^ (p - 2).toNat % p) (fun _ => _) (fun s => s.1) (fun s hi ih => ?_) ((p - 2).toNat,1) ⟨by show (p - 2).toNat ≤ _; omega,by show 0 ≤ (1 : Int) ∧ (1 : Int) ≤ p - 1; omega,by show 1 * _ % p = _; rw [Int.one_mul]⟩
  obtain ⟨m,q⟩ := s
  obtain ⟨h2,h3,h4⟩ := hi
  simp only at h2 h3 h4 ih
  simp only [Z107.l0_succ _ mk_ok]
  have hqa := mul_in (x := q) (y := a) (by omega) (by omega)
  refine ev_d (fun hm => ev_chk (by simp; omega) ?_) fun hm => ev_some ?_
  · rw [w64_small (n := q * a) (by omega) (by omega),Int.tmod_eq_emod_of_nonneg (by omega),w64_small (by omega) (by omega),show (m : Int) - 1 = ((m - 1 : Nat) : Int) by omega]
    refine ih (m - 1,q * a % p) ⟨by show m - 1 ≤ _; omega,emod_in (by omega),?_⟩ (by show m - 1 < m; omega)
    rw [← h4]
    show q * a % p * a ^ (m - 1) % p = _
    have hx : (q * a % p) % p = (q * a) % p := Int.emod_emod_of_dvd _ (Int.dvd_refl p)
    rw [mul_congr hx rfl]
    conv => rhs; rw [show m = m - 1 + 1 by omega,Int.pow_succ]
    rw [Int.mul_assoc,Int.mul_comm a]
  · have hm : m = 0 := by omega
    subst hm
    have : q = invF a p := by unfold invF; rw [← h4,Int.pow_zero,Int.mul_one,Int.emod_eq_of_lt (by omega) (by omega)]
    rw [this]

/-! rows as functions -/
theorem addV_map {f g : Nat → Int} {W : Nat} {c p : Int} : addV ((List.range W).map f) ((List.range W).map g) c p = (List.range W).map fun j => (f j + c * g j) % p := by
  unfold addV
  rw [List.length_map,List.length_range]
  refine List.map_congr_left fun j hj => ?_
  have hj := List.mem_range.1 hj
  simp [List.getD_eq_getElem?_getD,hj]

theorem zeros_map {W : Nat} : List.replicate W (0 : Int) = (List.range W).map fun _ => 0 := by
  rw [List.map_const',List.length_range]

theorem map_in {f : Nat → Int} {W : Nat} {p : Int} (hp : p ≤ 251) (h : ∀ j,j < W → 0 ≤ f j ∧ f j ≤ p - 1) : ∀ x ∈ (List.range W).map f,0 ≤ x ∧ x ≤ 250 := fun x hx => by
  obtain ⟨j,hj,rfl⟩ := List.mem_map.1 hx
  have := h j (List.mem_range.1 hj)
  omega

def pvL (l : List Nat) : Sim := l.map fun (n : Nat) => (n : Int)

theorem pvL_length {l : List Nat} : (pvL l).length = l.length := by simp [pvL]
theorem pvL_add {l : List Nat} {c : Nat} : pvL (l ++ [c]) = pvL l ++ [(c : Int)] := by simp [pvL]

theorem idxf_first {A : Ent} {R W c top : Nat} (hc : c < W) (ht : top ≤ R) : idxf (fun row : Sim => row.getD c 0 != 0) ((rowsE A R W).drop top) = o2i ((firstN (fun i => A i c ≠ 0) top (R - top)).map fun q => q - top) := by
  have hlen : ((rowsE A R W).drop top).length = R - top := by rw [List.length_drop,rowsE_length]
  have hget : ∀ k (h : k < ((rowsE A R W).drop top).length),(((rowsE A R W).drop top)[k].getD c 0 != 0) = true ↔ A (top + k) c ≠ 0 := fun k h => by
    rw [hlen] at h
    have h1 := rowsE_get (A := A) (W := W) (show top + k < R by omega)
    have h2 : ((rowsE A R W).drop top)[k]? = some ((List.range W).map (A (top + k))) := by rw [List.getElem?_drop]; exact h1
    rw [List.getElem?_eq_getElem (by rw [hlen]; exact h)] at h2
    rw [Option.some.inj h2,List.getD_eq_getElem?_getD,row_get hc]
    simp
  symm
  refine idxf_of (fun k hk => ?_) fun hno j hj ⟨hj',hP⟩ => ?_
  · cases hf : firstN (fun i => A i c ≠ 0) top (R - top) with
    | none => rw [hf] at hk; cases hk
    | some q =>
      rw [hf] at hk
      have hk : q - top = k := Option.some.inj hk
      have h1 := firstN_some hf
      have hkl : k < ((rowsE A R W).drop top).length := by rw [hlen]; omega
      refine ⟨hkl,⟨hkl,(hget k hkl).2 (by rw [show top + k = q by omega]; exact h1.2.2)⟩,fun j hj ⟨hj',hP⟩ => ?_⟩
      exact firstN_min hf (top + j) (by omega) (by omega) ((hget j hj').1 hP)
  · cases hf : firstN (fun i => A i c ≠ 0) top (R - top) with
    | none => exact firstN_none hf (top + j) (by omega) (by rw [hlen] at hj; omega) ((hget j hj').1 hP)
    | some q => rw [hf] at hno; cases hno

end VeT

open Go Go.Proofs Ve
set_option linter.unusedVariables false
set_option linter.unusedSimpArgs false
namespace VeT

theorem eliminate_1_ret (row : Sim) (c : Nat) (hc : c < row.length) : Ret E n_Z27 [dL row,⟨.ptr (.cons (.int .i64) .nil),((c : Int),())⟩] ⟨o_Z27,(row.getD c 0 != 0,())⟩ := by
  rw [getD_lt hc]
  refine ret_of ?_
  simp only [run_Z27,Z27.ev]
  exact ev_bind (idx_lt hc) ev_rfl

/-- the steps of the last loop: rows below k are done -/
def elK (p : Int) (c top k : Nat) (B : Ent) : Ent := fun i j => if i < k then elF p c top B i j else elM p c top B i j

theorem elK_zero {p : Int} {c top : Nat} {B : Ent} {R W : Nat} : rowsE (elK p c top 0 B) R W = rowsE (elM p c top B) R W := rowsE_congr fun i j _ _ => by simp [elK]
theorem elK_all {p : Int} {c top : Nat} {B : Ent} {R W : Nat} : rowsE (elK p c top R B) R W = rowsE (elF p c top B) R W := rowsE_congr fun i j hi _ => by simp [elK,hi]

theorem elSw_rows {top q R W : Nat} {A : Ent} (ht : top < R) (hq : q < R) (hne : q ≠ top) : ((rowsE A R W).set top ((List.range W).map (A q))).set q ((List.range W).map (A top)) = rowsE (elSw top q A) R W := by
  rw [rowsE_set,rowsE_set]
  refine rowsE_congr fun i j _ _ => ?_
  unfold elSw
  by_cases h1 : i = q
  · subst h1; simp [hne]
  · by_cases h2 : i = top
    · subst h2; simp [h1]
    · simp [h1,h2]

theorem elSw_self {top R W : Nat} {A : Ent} : rowsE (elSw top top A) R W = rowsE A R W := rowsE_congr fun i j _ _ => by
  unfold elSw
  by_cases h : i = top
  · subst h; simp
  · simp [h]

theorem eliminate_ret (A : Ent) (R W : Nat) (p : Int) (hp : 2 ≤ p ∧ p ≤ 251) (hR : R ≤ 1048576) (hW : W ≤ 1048576) (hA : EIn p R W A) :
    ∃ det : Int,Ret E n_Z26 [dLL (rowsE A R W),dI (W : Int),dI p] ⟨o_Z26,(pvL (elS p R A W).2,det,rowsE (elS p R A W).1 R W,())⟩ := by
  have key : ∀ d c det,c + d = W → ∃ det' : Int,Ev fun φ => Z26.l0 (mkR (run E (φ 0))) (φ 0) (φ 1) (W : Int) p det (W : Int) (c : Int) (pvL (elS p R A c).2) (rowsE (elS p R A c).1 R W) = some ⟨o_Z26,(pvL (elS p R A W).2,det',rowsE (elS p R A W).1 R W,())⟩ := by
    intro d
    induction d with
    | zero =>
      intro c det hc
      obtain rfl : c = W := by omega
      refine ⟨det,Ev.round 1 (L := fun φ n => Z26.l0 (mkR (run E (φ 0))) (φ 0) n (c : Int) p det (c : Int) (c : Int) (pvL (elS p R A c).2) (rowsE (elS p R A c).1 R c)) ?_ (fun _ _ _ => rfl)⟩
      simp only [Z26.l0_succ _ mk_ok]
      exact ev_f (decide_eq_false (by omega)) ev_rfl
    | succ d ih =>
      intro c det hcd
      have hc : c < W := by omega
      obtain ⟨hB,hpl,hpc,_⟩ := elS_in hp.1 hA c
      have hstep : elS p R A (c + 1) = elP p R c (elS p R A c) := rfl
      generalize hS : elS p R A c = S at hB hpl hpc hstep
      obtain ⟨B0,pv⟩ := S
      simp only at hB hpl hpc hstep
      have hlen : (rowsE B0 R W).length = R := rowsE_length
      have hI := IndexFunc_SSint64_Sint64_impl_eliminate_1_ret ((rowsE B0 R W).drop pv.length) (((c : Int),()),()) (fun row => row.getD c 0 != 0) (by rw [List.length_drop,hlen]; omega) fun row hrow => eliminate_1_ret row c (by
        have := List.mem_of_mem_drop hrow
        unfold rowsE at this
        obtain ⟨i,_,rfl⟩ := List.mem_map.1 this
        simpa using hc)
      rw [idxf_first hc hpl] at hI
      cases hf : firstN (fun i => B0 i c ≠ 0) pv.length (R - pv.length) with
      | none =>
        rw [hf] at hI
        have e : elS p R A (c + 1) = (B0,pv) := by rw [hstep,elP]; simp only [hf]
        obtain ⟨det',h'⟩ := ih (c + 1) 0 (by omega)
        rw [e] at h'
        refine ⟨det',Ev.round 1 (L := fun φ n => Z26.l0 (mkR (run E (φ 0))) (φ 0) n (W : Int) p det (W : Int) (c : Int) (pvL pv) (rowsE B0 R W)) ?_ (fun _ _ _ => rfl)⟩
        simp only [Z26.l0_succ _ mk_ok,pvL_length,hlen,Int.toNat_natCast]
        rw [show List.take R (rowsE B0 R W) = rowsE B0 R W from List.take_of_length_le (by omega)]
        refine ev_t (decide_eq_true (by omega)) (ev_chk (by simp only [Bool.and_eq_true,decide_eq_true_eq]; omega) (ev_call hI (ev_t rfl ?_)))
        rw [w64_succ (by omega)]
        exact h'
      | some q =>
        rw [hf] at hI
        have hq := firstN_some hf
        have e : elS p R A (c + 1) = (elF p c pv.length (elSw pv.length q B0),pv ++ [c]) := by rw [hstep,elP]; simp only [hf]
        generalize ht : pv.length = top at hI hq e hpl hpc
        have htR : top < R := by omega
        have hqR : q < R := by omega
        have hsw := hB.sw htR hqR
        have hlead : 1 ≤ elSw top q B0 top c ∧ elSw top q B0 top c ≤ p - 1 := by
          have h1 := hsw top c htR hc
          have h2 : elSw top q B0 top c = B0 q c := by simp [elSw]
          have h3 := hq.2.2
          rw [← h2] at h3
          omega
        have hI' : Ret E n_Z87 [dLL ((rowsE B0 R W).drop top),⟨.fn n_Z27 (.cons (.ptr (.cons (.int .i64) .nil)) .nil),(((c : Int),()),())⟩] ⟨o_Z87,(((q - top : Nat) : Int),())⟩ := hI
        -- what lies behind the exchange
        have back : ∀ det2,∃ det',Ev fun φ => Z26.j1 (mkR (run E (φ 0))) (φ 0) (φ 1) (W : Int) p det2 (top : Int) (W : Int) (c : Int) (c : Int) (pvL pv) (rowsE (elSw top q B0) R W) = some ⟨o_Z26,(pvL (elS p R A W).2,det',rowsE (elS p R A W).1 R W,())⟩ := fun det2 => by
          generalize elSw top q B0 = B at hsw hlead e
          obtain ⟨det',h'⟩ := ih (c + 1) (Int.tmod (w64 (det2 * B top c)) p) (by omega)
          rw [e] at h'
          simp only at h'
          rw [pvL_add,← elK_all] at h'
          have hBl : (rowsE B R W).length = R := rowsE_length
          have hNin : ∀ j,0 ≤ elN p c top B j ∧ elN p c top B j ≤ p - 1 := fun j => emod_in hp.1
          have hinv := invF_in (a := B top c) (p := p) hp.1
          have hinvR := inverseOf_ret (B top c) p hp ⟨by omega,hlead.2⟩
          have hgt := rowsE_get (A := B) (W := W) htR
          have hat : Ret E n_Z13 [dL (List.replicate W 0),dL ((List.range W).map (B top)),dI (invF (B top c) p),dI p] ⟨o_Z13,((List.range W).map (elN p c top B),())⟩ := by
            have := addTimes_ret (List.replicate W 0) ((List.range W).map (B top)) (invF (B top c) p) p hp (by omega) (by simp) (by rw [List.length_replicate]; exact hW) (fun x hx => by rw [List.mem_replicate] at hx; omega) (map_in hp.2 fun j hj => hsw top j htR hj)
            rw [zeros_map,addV_map,← zeros_map] at this
            have e2 : ((List.range W).map fun j => (0 + invF (B top c) p * B top j) % p) = (List.range W).map (elN p c top B) := List.map_congr_left fun j _ => by
              rw [Int.zero_add,Int.mul_comm]; rfl
            rw [e2] at this
            exact this
          have hset : (rowsE B R W).set top ((List.range W).map (elN p c top B)) = rowsE (elK p c top 0 B) R W := by
            rw [rowsE_set,elK_zero]; rfl
          refine ⟨det',?_⟩
          -- the loop over the rows
          have loop : Ev fun φ => Z26.j2 (mkR (run E (φ 0))) (φ 0) (φ 1) (W : Int) p (Int.tmod (w64 (det2 * B top c)) p) (top : Int) (W : Int) (c : Int) (c : Int) (pvL pv) (rowsE (elK p c top 0 B) R W) = some ⟨o_Z26,(pvL (elS p R A W).2,det',rowsE (elS p R A W).1 R W,())⟩ := by
            simp only [Z26.j2_eq _ mk_ok,rowsE_length]
            generalize Int.tmod (w64 (det2 * B top c)) p = D at h' ⊢
            refine Ev.start (p := fun φ n => Z26.l3 (mkR (run E (φ 0))) (φ 0) (φ 1) n (W : Int) p D (top : Int) (W : Int) (c : Int) (R : Int) 0 (c : Int) (pvL pv) (rowsE (elK p c top 0 B) R W) = _) 2 ?_ (fun _ _ _ h => h)
            refine fold_loop 2 (L := fun φ n i S => Z26.l3 (mkR (run E (φ 0))) (φ 0) (φ 1) n (W : Int) p D (top : Int) (W : Int) (c : Int) (R : Int) i (c : Int) (pvL pv) S) (len := R) (fun i => rowsE (elK p c top i B) R W) (fun _ _ _ _ _ => rfl) (fun i r hi ih2 => ?_) ?_
            · simp only [Z26.l3_succ _ mk_ok,rowsE_length,Int.toNat_natCast]
              have hrow : (rowsE (elK p c top i B) R W)[i]? = some ((List.range W).map (elM p c top B i)) := by
                rw [rowsE_get hi]
                have : elK p c top i B i = elM p c top B i := funext fun j => by simp [elK]
                rw [this]
              have htop : (rowsE (elK p c top i B) R W)[top]? = some ((List.range W).map (elN p c top B)) := by
                rw [rowsE_get htR]
                have : elK p c top i B top = elN p c top B := funext fun j => by simp [elK,elF,elM]
                rw [this]
              refine ev_t (decide_eq_true (by omega)) (ev_chk (by simp only [Bool.and_eq_true,decide_eq_true_eq]; omega) (ev_bind hrow ?_))
              by_cases hit : i = top
              · subst hit
                refine ev_f (by simp) ?_
                simp only [Z26.j4_eq _ mk_ok,cond_false]
                have hsame : rowsE (elK p c i (i + 1) B) R W = rowsE (elK p c i i B) R W := rowsE_congr fun k j _ _ => by
                  unfold elK
                  by_cases h1 : k = i
                  · subst h1; simp [elF,elM]
                  · by_cases h2 : k < i
                    · rw [if_pos (by omega),if_pos h2]
                    · rw [if_neg (by omega),if_neg h2]
                rw [hsame] at ih2
                rw [w64_succ (by omega)]; exact ih2
              · have hM : elM p c top B i = B i := funext fun j => by simp [elM,hit]
                rw [hM]
                have hBi := hsw i c hi hc
                refine ev_t (by simp; omega) (ev_bind (idx_nat.trans (row_get hc)) ?_)
                by_cases hz : B i c = 0
                · simp only [hz,bne_self_eq_false,Z26.j4_eq _ mk_ok,cond_false]
                  have hsame : rowsE (elK p c top (i + 1) B) R W = rowsE (elK p c top i B) R W := rowsE_congr fun k j _ _ => by
                    unfold elK
                    by_cases h1 : k = i
                    · subst h1; simp [elF,elM,hit,hz]
                    · by_cases h2 : k < i
                      · rw [if_pos (by omega),if_pos h2]
                      · rw [if_neg (by omega),if_neg h2]
                  rw [hsame] at ih2
                  rw [w64_succ (by omega)]; exact ih2
                · have hne : (B i c != 0) = true := by simpa using hz
                  have ec : w64 (p - B i c) = p - B i c := w64_small (by omega) (by omega)
                  simp only [hne,Z26.j4_eq _ mk_ok,cond_true,rowsE_length,Int.toNat_natCast]
                  refine ev_chk (by simp only [Bool.and_eq_true,decide_eq_true_eq]; omega) (ev_bind htop (ev_bind (idx_nat.trans (row_get hc)) ?_))
                  simp only [ec]
                  have hat2 := addTimes_ret ((List.range W).map (B i)) ((List.range W).map (elN p c top B)) (p - B i c) p hp (by omega) (by simp) (by simpa using hW) (map_in hp.2 fun j hj => hsw i j hi hj) (map_in hp.2 fun j _ => hNin j)
                  rw [addV_map] at hat2
                  refine ev_call hat2 (ev_chk (by simp only [Bool.and_eq_true,decide_eq_true_eq]; omega) ?_)
                  have hset2 : (rowsE (elK p c top i B) R W).set i ((List.range W).map fun j => (B i j + (p - B i c) * elN p c top B j) % p) = rowsE (elK p c top (i + 1) B) R W := by
                    rw [rowsE_set]
                    refine rowsE_congr fun k j _ _ => ?_
                    unfold elK
                    by_cases h1 : k = i
                    · subst h1; simp [elF,hit,hz]
                    · by_cases h2 : k < i
                      · rw [if_neg h1,if_pos h2,if_pos (by omega)]
                      · rw [if_neg h1,if_neg h2,if_neg (by omega)]
                  rw [w64_succ (by omega)]
                  rw [← hset2] at ih2
                  exact ih2
            · simp only [Z26.l3_succ _ mk_ok]
              refine ev_f (decide_eq_false (by omega)) (ev_chk (by simp only [pvL_length,List.length_cons,List.length_nil,decide_eq_true_eq]; omega) ?_)
              rw [w64_succ (by omega)]
              exact h'
          simp only [Z26.j1_eq _ mk_ok,rowsE_length,Int.toNat_natCast]
          have hck : (decide ((0 : Int) ≤ (top : Int)) && decide ((top : Int) < (R : Int))) = true := by simp only [Bool.and_eq_true,decide_eq_true_eq]; omega
          have hcw : (decide ((0 : Int) ≤ (W : Int)) && decide ((W : Int) * 8 ≤ 70368744177664)) = true := by simp only [Bool.and_eq_true,decide_eq_true_eq]; omega
          have fin := loop
          rw [← hset] at fin
          exact ev_chk hck (ev_bind hgt (ev_bind (idx_nat.trans (row_get hc)) (ev_chk (by simp; omega) (ev_chk hck (ev_bind hgt (ev_both (ev_chk hcw (ev_call hinvR (ev_call hat (ev_chk hck fin)))) (ev_call hinvR (ev_chk hcw (ev_call hat (ev_chk hck fin))))))))))
        by_cases hqt : q = top
        · subst hqt
          obtain ⟨det',h'⟩ := back det
          rw [elSw_self] at h'
          refine ⟨det',Ev.round 1 (L := fun φ n => Z26.l0 (mkR (run E (φ 0))) (φ 0) n (W : Int) p det (W : Int) (c : Int) (pvL pv) (rowsE B0 R W)) ?_ (fun _ _ _ => rfl)⟩
          simp only [Z26.l0_succ _ mk_ok,pvL_length,hlen,Int.toNat_natCast,ht]
          rw [show List.take R (rowsE B0 R W) = rowsE B0 R W from List.take_of_length_le (by omega)]
          refine ev_t (decide_eq_true (by omega)) (ev_chk (by simp only [Bool.and_eq_true,decide_eq_true_eq]; omega) (ev_call hI' ?_))
          rw [Nat.sub_self]
          exact ev_f rfl (ev_f rfl h')
        · obtain ⟨det',h'⟩ := back (redV (w64 (0 - det)) p)
          rw [← elSw_rows htR hqR hqt] at h'
          refine ⟨det',Ev.round 1 (L := fun φ n => Z26.l0 (mkR (run E (φ 0))) (φ 0) n (W : Int) p det (W : Int) (c : Int) (pvL pv) (rowsE B0 R W)) ?_ (fun _ _ _ => rfl)⟩
          simp only [Z26.l0_succ _ mk_ok,pvL_length,hlen,Int.toNat_natCast,ht]
          rw [show List.take R (rowsE B0 R W) = rowsE B0 R W from List.take_of_length_le (by omega)]
          have e3 : w64 ((top : Int) + ((q - top : Nat) : Int)) = (q : Int) := by rw [w64_small (by omega) (by omega)]; omega
          refine ev_t (decide_eq_true (by omega)) (ev_chk (by simp only [Bool.and_eq_true,decide_eq_true_eq]; omega) (ev_call hI' (ev_f (decide_eq_false (Int.not_lt.2 (Int.natCast_nonneg _))) (ev_t (decide_eq_true (by show (0 : Int) < ((q - top : Nat) : Int); omega)) ?_))))
          simp only [e3,Int.toNat_natCast,List.length_set,hlen]
          have hck : (decide ((0 : Int) ≤ (top : Int)) && decide ((top : Int) < (R : Int))) = true := by simp only [Bool.and_eq_true,decide_eq_true_eq]; omega
          have hckq : (decide ((0 : Int) ≤ (q : Int)) && decide ((q : Int) < (R : Int))) = true := by simp only [Bool.and_eq_true,decide_eq_true_eq]; omega
          exact ev_chk hckq (ev_bind (rowsE_get hqR) (ev_chk hck (ev_bind (rowsE_get htR) (ev_chk hck (ev_chk hckq (ev_call (reduce_ret (w64 (0 - det)) p hp.1) h'))))))
  obtain ⟨det',h⟩ := key W 0 1 (by omega)
  refine ⟨det',ret_of ?_⟩
  simp only [run_Z26,Z26.ev]
  exact Ev.start (p := fun φ n => Z26.l0 (mkR (run E (φ 0))) (φ 0) n (W : Int) p 1 (W : Int) 0 [] (rowsE A R W) = _) 1 h (fun _ _ _ h => h)

end VeT

open Go Go.Proofs Ve
set_option linter.unusedVariables false
set_option linter.unusedSimpArgs false
namespace VeT

theorem ix_eq {i W j : Nat} (h : i * W + j ≤ 4611686018427387904) : w64 (w64 ((i : Int) * (W : Int)) + (j : Int)) = ((i * W + j : Nat) : Int) := by
  rw [cast_mul,w64_small (n := ((i * W : Nat) : Int)) (by omega) (by omega),w64_small (by omega) (by omega)]; omega

/-- a flat matrix' entry,as the evaluator reads and writes it -/
theorem flat_at {A : Ent} {R W i j : Nat} (hi : i < R) (hj : j < W) (hRW : R * W ≤ 1048576) : (decide ((0 : Int) ≤ ((i * W + j : Nat) : Int)) && decide (((i * W + j : Nat) : Int) < ((flatF A W R).length : Int))) = true ∧ (flatF A W R)[i * W + j]? = some (A i j) := by
  have := lt_rc hi hj
  refine ⟨?_,flatF_getD hi hj⟩
  simp only [Bool.and_eq_true,decide_eq_true_eq,flatF_length]; omega

theorem l03Reduced_ret (p : Int) (R W : Nat) (cells : Sim) (hp : 2 ≤ p ∧ p ≤ 251) (hR : R ≤ 1048576) (hW : W ≤ 1048576) (hRW : R * W ≤ 1048576) (hl : cells.length = R * W) (he : Elems cells p) :
    ∃ det : Int,Ret E n_Z111 [dM (p,(R : Int),(W : Int),cells,())] ⟨o_Z111,(p,(R : Int),(W : Int),flatF (elS p R (entM cells W) W).1 W R,pvL (elS p R (entM cells W) W).2,det,())⟩ := by
  generalize hMt : (p,(R : Int),(W : Int),cells,()) = M
  have M1 : M.1 = p := by rw [← hMt]
  have M2 : M.2.1 = (R : Int) := by rw [← hMt]
  have M3 : M.2.2.1 = (W : Int) := by rw [← hMt]
  have M4 : M.2.2.2.1 = cells := by rw [← hMt]
  have hA := entM_in he hl
  have hfl := entM_flat hl
  generalize entM cells W = A at hA hfl
  let G : Int → Option Dv := fun det => some ⟨o_Z111,(p,(R : Int),(W : Int),flatF (elS p R A W).1 W R,pvL (elS p R A W).2,det,())⟩
  -- a column where no row is left
  have none_of : ∀ c,(elS p R A c).2.length = R → elS p R A (c + 1) = elS p R A c := fun c h => by
    show elP p R c (elS p R A c) = _
    rw [elP,h,Nat.sub_self]; rfl
  have stay : ∀ d c,c + d = W → (elS p R A c).2.length = R → elS p R A W = elS p R A c := by
    intro d
    induction d with
    | zero => intro c hc _; rw [show c = W by omega]
    | succ d ih =>
      intro c hc h
      have e := none_of c h
      rw [ih (c + 1) (by omega) (by rw [e]; exact h),e]
  have key : ∀ d c det,c + d = W → ∃ det' : Int,Ev fun φ => Z111.l1 (mkR (run E (φ 0))) (φ 0) (φ 1) M p (W : Int) det ((elS p R A c).2.length : Int) (c : Int) 0 0 0 p (R : Int) (W : Int) (pvL (elS p R A c).2) (flatF (elS p R A c).1 W R) = G det' := by
    intro d
    induction d with
    | zero =>
      intro c det hc
      obtain rfl : c = W := by omega
      refine ⟨det,Ev.round 1 (L := fun φ n => Z111.l1 (mkR (run E (φ 0))) (φ 0) n M p (c : Int) det ((elS p R A c).2.length : Int) (c : Int) 0 0 0 p (R : Int) (c : Int) (pvL (elS p R A c).2) (flatF (elS p R A c).1 c R)) ?_ (fun _ _ _ => rfl)⟩
      simp only [Z111.l1_succ _ mk_ok,Z111.j2_eq _ mk_ok,cond_false]
      exact ev_f (decide_eq_false (by omega)) ev_rfl
    | succ d ih =>
      intro c det hcd
      have hc : c < W := by omega
      obtain ⟨hB,hpl,hpc,_⟩ := elS_in hp.1 hA c
      have hstep : elS p R A (c + 1) = elP p R c (elS p R A c) := rfl
      by_cases hfull : (elS p R A c).2.length = R
      · refine ⟨det,Ev.round 1 (L := fun φ n => Z111.l1 (mkR (run E (φ 0))) (φ 0) n M p (W : Int) det ((elS p R A c).2.length : Int) (c : Int) 0 0 0 p (R : Int) (W : Int) (pvL (elS p R A c).2) (flatF (elS p R A c).1 W R)) ?_ (fun _ _ _ => rfl)⟩
        simp only [Z111.l1_succ _ mk_ok,M2,hfull,show decide ((R : Int) < (R : Int)) = false from decide_eq_false (by omega),Z111.j2_eq _ mk_ok,cond_false]
        refine ev_t (decide_eq_true (by omega)) (ev_some ?_)
        show _ = some _
        rw [stay (d + 1) c hcd hfull]
      · have htR : (elS p R A c).2.length < R := by omega
        generalize hS : elS p R A c = S at hB hpl hpc hstep hfull htR
        obtain ⟨B0,pv⟩ := S
        simp only at hB hpl hpc hstep hfull htR
        generalize ht : pv.length = top at hpl hpc hfull htR
        -- what lies behind the exchange
        have back : ∀ q,top ≤ q → q < R → B0 q c ≠ 0 → elS p R A (c + 1) = (elF p c top (elSw top q B0),pv ++ [c]) → ∀ det2,∃ det',Ev fun φ => Z111.j6 (mkR (run E (φ 0))) (φ 0) (φ 1) M p (W : Int) det2 (top : Int) (c : Int) 0 0 0 p (R : Int) (W : Int) (pvL pv) (flatF (elSw top q B0) W R) = G det' := fun q hq1 hqR hq2 e det2 => by
          have hsw := hB.sw htR hqR
          have hlead : 1 ≤ elSw top q B0 top c ∧ elSw top q B0 top c ≤ p - 1 := by
            have h1 := hsw top c htR hc
            have h2 : elSw top q B0 top c = B0 q c := by simp [elSw]
            rw [← h2] at hq2
            omega
          generalize elSw top q B0 = B at hsw hlead e
          obtain ⟨det',h'⟩ := ih (c + 1) (Int.tmod (w64 (det2 * B top c)) p) (by omega)
          rw [e] at h'
          simp only at h'
          rw [pvL_add,List.length_append,List.length_singleton,ht] at h'
          have hNin : ∀ j,0 ≤ elN p c top B j ∧ elN p c top B j ≤ p - 1 := fun j => emod_in hp.1
          have hinv := invF_in (a := B top c) (p := p) hp.1
          have hinvR := l03Inverse_ret (B top c) p hp ⟨by omega,hlead.2⟩
          have hidx : ∀ i j,i < R → j < W → i * W + j ≤ 4611686018427387904 := fun i j hi hj => by have := lt_rc hi hj; omega
          refine ⟨det',?_⟩
          simp only [Z111.j6_eq _ mk_ok,ix_eq (hidx top c htR hc),Int.toNat_natCast]
          obtain ⟨k1,k2⟩ := flat_at (A := B) htR hc hRW
          refine ev_chk k1 (ev_bind k2 (ev_chk (by simp; omega) (ev_call hinvR ?_)))
          generalize Int.tmod (w64 (det2 * B top c)) p = D at h' ⊢
          -- the loop that scales the row
          let N : Nat → Ent := fun n i j => if i = top ∧ j < n then elN p c top B j else B i j
          have hN0 : flatF (N 0) W R = flatF B W R := flatF_congr fun i j _ _ => by simp [N]
          have hNW : flatF (N W) W R = flatF (elM p c top B) W R := flatF_congr fun i j _ hj => by
            simp only [N,elM,hj,and_true]
          rw [← hN0]
          refine Ev.start (p := fun φ n => Z111.l7 (mkR (run E (φ 0))) (φ 0) (φ 1) n M p (W : Int) D (top : Int) (c : Int) (invF (B top c) p) 0 0 0 0 p (R : Int) (W : Int) (pvL pv) (flatF (N 0) W R) = _) 2 ?_ (fun _ _ _ h => h)
          refine fold_loop 2 (L := fun φ n j o => Z111.l7 (mkR (run E (φ 0))) (φ 0) (φ 1) n M p (W : Int) D (top : Int) (c : Int) (invF (B top c) p) j 0 0 0 p (R : Int) (W : Int) (pvL pv) o) (len := W) (fun j => flatF (N j) W R) (fun _ _ _ _ _ => rfl) (fun j r hj ih2 => ?_) ?_
          · simp only [Z111.l7_succ _ mk_ok,ix_eq (hidx top j htR hj),Int.toNat_natCast]
            obtain ⟨k1,k2⟩ := flat_at (A := N j) htR hj hRW
            have hNj : N j top j = B top j := by simp [N]
            rw [hNj] at k2
            have hb := hsw top j htR hj
            have ev := val_eq (x := B top j) (y := invF (B top c) p) (p := p) (by omega) (by omega) hp
            have hset : (flatF (N j) W R).set (top * W + j) (B top j * invF (B top c) p % p) = flatF (N (j + 1)) W R := by
              rw [flatF_set htR hj]
              refine flatF_congr fun k l _ _ => ?_
              simp only [N]
              by_cases h1 : k = top
              · subst h1
                by_cases h2 : l = j
                · subst h2; simp [elN]
                · simp only [true_and,h2,if_false,and_false]
                  by_cases h3 : l < j
                  · rw [if_pos h3,if_pos (by omega)]
                  · rw [if_neg h3,if_neg (by omega)]
              · simp [h1]
            refine ev_t (decide_eq_true (by omega)) (ev_chk k1 (ev_bind k2 (ev_chk (by simp; omega) (ev_chk k1 ?_))))
            simp only [ev]
            rw [w64_succ (by omega),hset]; exact ih2
          · simp only [Z111.l7_succ _ mk_ok]
            refine ev_f (decide_eq_false (by omega)) ?_
            rw [hNW]
            -- the loop over the rows
            let K : Nat → Ent := fun n i j => if i < n then elF p c top B i j else elM p c top B i j
            have hK0 : flatF (K 0) W R = flatF (elM p c top B) W R := flatF_congr fun i j _ _ => by simp [K]
            have hKR : flatF (K R) W R = flatF (elF p c top B) W R := flatF_congr fun i j hi _ => by simp [K,hi]
            rw [← hK0]
            refine Ev.start (p := fun φ n => Z111.l8 (mkR (run E (φ 0))) (φ 0) (φ 1) n M p (W : Int) D (top : Int) (c : Int) 0 0 0 0 p (R : Int) (W : Int) (pvL pv) (flatF (K 0) W R) = _) 3 ?_ (fun _ _ _ h => h)
            refine fold_loop 3 (L := fun φ n i o => Z111.l8 (mkR (run E (φ 0))) (φ 0) (φ 1) n M p (W : Int) D (top : Int) (c : Int) i 0 0 0 p (R : Int) (W : Int) (pvL pv) o) (len := R) (fun i => flatF (K i) W R) (fun _ _ _ _ _ => rfl) (fun i r hi ih2 => ?_) ?_
            · simp only [Z111.l8_succ _ mk_ok,M2,ix_eq (hidx i c hi hc),Int.toNat_natCast]
              obtain ⟨k1,k2⟩ := flat_at (A := K i) hi hc hRW
              refine ev_t (decide_eq_true (by omega)) (ev_chk k1 (ev_bind k2 ?_))
              by_cases hit : i = top
              · subst hit
                refine ev_t (by simp) ?_
                simp only [Z111.j9_eq _ mk_ok,cond_true]
                have hsame : flatF (K (i + 1)) W R = flatF (K i) W R := flatF_congr fun k j _ _ => by
                  simp only [K]
                  by_cases h1 : k = i
                  · subst h1; simp [elF,elM]
                  · by_cases h2 : k < i
                    · rw [if_pos (by omega),if_pos h2]
                    · rw [if_neg (by omega),if_neg h2]
                rw [hsame] at ih2
                rw [w64_succ (by omega)]; exact ih2
              · have hM : ∀ j,K i i j = B i j := fun j => by simp [K,elM,hit]
                rw [hM]
                have hBi := hsw i c hi hc
                refine ev_f (by simp; omega) ?_
                by_cases hz : B i c = 0
                · simp only [hz,beq_self_eq_true,Z111.j9_eq _ mk_ok,cond_true]
                  have hsame : flatF (K (i + 1)) W R = flatF (K i) W R := flatF_congr fun k j _ _ => by
                    simp only [K]
                    by_cases h1 : k = i
                    · subst h1; simp [elF,elM,hit,hz]
                    · by_cases h2 : k < i
                      · rw [if_pos (by omega),if_pos h2]
                      · rw [if_neg (by omega),if_neg h2]
                  rw [hsame] at ih2
                  rw [w64_succ (by omega)]; exact ih2
                · have hne : (B i c == 0) = false := by simpa using hz
                  simp only [hne,Z111.j9_eq _ mk_ok,cond_false]
                  let Q : Nat → Ent := fun n k j => if k = i ∧ j < n then elF p c top B i j else K i k j
                  have hQ0 : flatF (Q 0) W R = flatF (K i) W R := flatF_congr fun k j _ _ => by simp [Q]
                  have hQW : flatF (Q W) W R = flatF (K (i + 1)) W R := flatF_congr fun k j _ hj => by
                    simp only [Q,K,hj,and_true]
                    by_cases h1 : k = i
                    · subst h1; simp
                    · by_cases h2 : k < i
                      · rw [if_neg h1,if_pos h2,if_pos (by omega)]
                      · rw [if_neg h1,if_neg h2,if_neg (by omega)]
                  rw [← hQ0]
                  refine Ev.start (p := fun φ n => Z111.l10 (mkR (run E (φ 0))) (φ 0) (φ 1) (φ 3) n M p (W : Int) D (top : Int) (c : Int) (i : Int) (B i c) 0 0 0 0 p (R : Int) (W : Int) (pvL pv) (flatF (Q 0) W R) = _) 4 ?_ (fun _ _ _ h => h)
                  refine fold_loop 4 (L := fun φ n j o => Z111.l10 (mkR (run E (φ 0))) (φ 0) (φ 1) (φ 3) n M p (W : Int) D (top : Int) (c : Int) (i : Int) (B i c) j 0 0 0 p (R : Int) (W : Int) (pvL pv) o) (len := W) (fun j => flatF (Q j) W R) (fun _ _ _ _ _ => rfl) (fun j r2 hj ih3 => ?_) ?_
                  · simp only [Z111.l10_succ _ mk_ok,ix_eq (hidx i j hi hj),ix_eq (hidx top j htR hj),Int.toNat_natCast]
                    obtain ⟨k1,k2⟩ := flat_at (A := Q j) hi hj hRW
                    obtain ⟨k3,k4⟩ := flat_at (A := Q j) htR hj hRW
                    have q1 : Q j i j = B i j := by simp only [Q,Nat.lt_irrefl,and_false,if_false]; exact hM j
                    have q2 : Q j top j = elN p c top B j := by
                      have : ¬ top = i := fun e => hit e.symm
                      simp [Q,K,this,elF,elM]
                    rw [q1] at k2
                    rw [q2] at k4
                    have hbij := hsw i j hi hj
                    have hnj := hNin j
                    have hm := mul_in (x := B i c) (y := elN p c top B j) (by omega) (by omega)
                    have e1 : w64 (B i c * elN p c top B j) = B i c * elN p c top B j := w64_small (by omega) (by omega)
                    have e2 : w64 (B i j - B i c * elN p c top B j) = B i j - B i c * elN p c top B j := w64_small (by omega) (by omega)
                    have e3 : redV (B i j - B i c * elN p c top B j) p = elF p c top B i j := by
                      rw [redV_eq hp (by omega)]
                      unfold elF
                      rw [if_neg hit,if_pos hz]
                      have : B i j + (p - B i c) * elN p c top B j = B i j - B i c * elN p c top B j + p * elN p c top B j := by rw [Int.sub_mul]; omega
                      rw [this,Int.add_mul_emod_self_left]
                    have hmod := l03Mod_ret (B i j - B i c * elN p c top B j) p hp.1
                    rw [e3] at hmod
                    have hset : (flatF (Q j) W R).set (i * W + j) (elF p c top B i j) = flatF (Q (j + 1)) W R := by
                      rw [flatF_set hi hj]
                      refine flatF_congr fun k l _ _ => ?_
                      simp only [Q]
                      by_cases h1 : k = i
                      · subst h1
                        by_cases h2 : l = j
                        · subst h2; simp
                        · simp only [true_and,h2,if_false,and_false]
                          by_cases h3 : l < j
                          · rw [if_pos h3,if_pos (by omega)]
                          · rw [if_neg h3,if_neg (by omega)]
                      · simp [h1]
                    refine ev_t (decide_eq_true (by omega)) (ev_chk k1 (ev_bind k2 (ev_chk k3 (ev_bind k4 ?_))))
                    simp only [e1,e2]
                    refine ev_call hmod (ev_chk k1 ?_)
                    rw [w64_succ (by omega)]
                    rw [← hset] at ih3
                    exact ih3
                  · simp only [Z111.l10_succ _ mk_ok]
                    refine ev_f (decide_eq_false (by omega)) ?_
                    rw [w64_succ (by omega),hQW]; exact ih2
            · simp only [Z111.l8_succ _ mk_ok,M2]
              refine ev_f (decide_eq_false (by omega)) (ev_chk (by simp only [pvL_length,List.length_cons,List.length_nil,decide_eq_true_eq]; omega) ?_)
              rw [w64_succ (by omega),w64_succ (by omega),hKR]
              exact h'
        have hidx : ∀ i j,i < R → j < W → i * W + j ≤ 4611686018427387904 := fun i j hi hj => by have := lt_rc hi hj; omega
        -- the search for the row
        have search : ∀ rs : Nat → Option Dv,∀ rn : Option Dv,(∀ q,top ≤ q → q < R → B0 q c ≠ 0 → (∀ i,top ≤ i → i < q → ¬ B0 i c ≠ 0) → Ev fun φ => Z111.j4 (mkR (run E (φ 0))) (φ 0) (φ 1) (φ 2) M p (W : Int) det (top : Int) (c : Int) (q : Int) false 0 0 0 p (R : Int) (W : Int) (pvL pv) (flatF B0 W R) = rs q) →
            ((∀ i,top ≤ i → i < R → ¬ B0 i c ≠ 0) → Ev fun φ => Z111.j4 (mkR (run E (φ 0))) (φ 0) (φ 1) (φ 2) M p (W : Int) det (top : Int) (c : Int) (R : Int) false 0 0 0 p (R : Int) (W : Int) (pvL pv) (flatF B0 W R) = rn) →
            Ev fun φ => Z111.l3 (mkR (run E (φ 0))) (φ 0) (φ 1) (φ 0) M p (W : Int) det (top : Int) (c : Int) (top : Int) 0 0 0 p (R : Int) (W : Int) (pvL pv) (flatF B0 W R) = orN rs rn (firstN (fun i => B0 i c ≠ 0) top (R - top)) := fun rs rn hs hn => by
          refine Ev.start (p := fun φ n => Z111.l3 (mkR (run E (φ 0))) (φ 0) (φ 1) n M p (W : Int) det (top : Int) (c : Int) (top : Int) 0 0 0 p (R : Int) (W : Int) (pvL pv) (flatF B0 W R) = _) 2 ?_ (fun _ _ _ h => h)
          -- the first one is kept in mind by the number of the round
          have go : ∀ d a,top ≤ a → a + d = R → (∀ i,top ≤ i → i < a → ¬ B0 i c ≠ 0) → Ev fun φ => Z111.l3 (mkR (run E (φ 0))) (φ 0) (φ 1) (φ 2) M p (W : Int) det (top : Int) (c : Int) (a : Int) 0 0 0 p (R : Int) (W : Int) (pvL pv) (flatF B0 W R) = orN rs rn (firstN (fun i => B0 i c ≠ 0) a d) := by
            intro d
            induction d with
            | zero =>
              intro a ha hk hno
              obtain rfl : a = R := by omega
              refine Ev.round 2 (L := fun φ n => Z111.l3 (mkR (run E (φ 0))) (φ 0) (φ 1) n M p (W : Int) det (top : Int) (c : Int) (a : Int) 0 0 0 p (a : Int) (W : Int) (pvL pv) (flatF B0 W a)) ?_ (fun _ _ _ => rfl)
              simp only [Z111.l3_succ _ mk_ok,M2]
              exact ev_f (decide_eq_false (by omega)) (hn hno)
            | succ d ih3 =>
              intro a ha hk hno
              have haR : a < R := by omega
              refine Ev.round 2 (L := fun φ n => Z111.l3 (mkR (run E (φ 0))) (φ 0) (φ 1) n M p (W : Int) det (top : Int) (c : Int) (a : Int) 0 0 0 p (R : Int) (W : Int) (pvL pv) (flatF B0 W R)) ?_ (fun _ _ _ => rfl)
              simp only [Z111.l3_succ _ mk_ok,M2,ix_eq (hidx a c haR hc),Int.toNat_natCast]
              obtain ⟨k1,k2⟩ := flat_at (A := B0) haR hc hRW
              refine ev_t (decide_eq_true (by omega)) (ev_chk k1 (ev_bind k2 ?_))
              rw [firstN]
              by_cases hz : B0 a c = 0
              · rw [if_neg (by simpa using hz)]
                simp only [hz,beq_self_eq_true,Z111.j4_eq _ mk_ok,cond_true]
                rw [w64_succ (by omega)]
                refine ih3 (a + 1) (by omega) (by omega) fun i h1 h2 => ?_
                by_cases e : i = a
                · subst e; simpa using hz
                · exact hno i h1 (by omega)
              · rw [if_pos hz]
                have hne : (B0 a c == 0) = false := by simpa using hz
                simp only [hne]
                exact hs a ha haR hz hno
          exact go (R - top) top (Nat.le_refl _) (by omega) fun i h1 h2 => by omega
        have enter : ∀ r,(Ev fun φ => Z111.l3 (mkR (run E (φ 0))) (φ 0) (φ 1) (φ 0) M p (W : Int) det (top : Int) (c : Int) (top : Int) 0 0 0 p (R : Int) (W : Int) (pvL pv) (flatF B0 W R) = r) → Ev fun φ => Z111.l1 (mkR (run E (φ 0))) (φ 0) (φ 1) M p (W : Int) det (top : Int) (c : Int) 0 0 0 p (R : Int) (W : Int) (pvL pv) (flatF B0 W R) = r := fun r hr => by
          refine Ev.round 1 (L := fun φ n => Z111.l1 (mkR (run E (φ 0))) (φ 0) n M p (W : Int) det (top : Int) (c : Int) 0 0 0 p (R : Int) (W : Int) (pvL pv) (flatF B0 W R)) ?_ (fun _ _ _ => rfl)
          simp only [Z111.l1_succ _ mk_ok,M2,show decide ((top : Int) < (R : Int)) = true from decide_eq_true (by omega),Z111.j2_eq _ mk_ok,cond_true]
          exact ev_t (decide_eq_true (by omega)) hr
        cases hf : firstN (fun i => B0 i c ≠ 0) top (R - top) with
        | none =>
          have e : elS p R A (c + 1) = (B0,pv) := by rw [hstep,elP]; simp only [ht,hf]
          obtain ⟨det',h'⟩ := ih (c + 1) det (by omega)
          rw [e] at h'
          simp only [ht] at h'
          refine ⟨det',enter _ ?_⟩
          have := search (fun _ => G det') (G det') (fun q h1 h2 h3 _ => absurd h3 (firstN_none hf q h1 (by omega))) fun _ => by
            simp only [Z111.j4_eq _ mk_ok,cond_false,M2]
            refine ev_t (by simp) ?_
            rw [w64_succ (by omega)]; exact h'
          rw [hf] at this
          exact this
        | some q =>
          have hq := firstN_some hf
          have hqR : q < R := by omega
          have e : elS p R A (c + 1) = (elF p c top (elSw top q B0),pv ++ [c]) := by rw [hstep,elP]; simp only [ht,hf]
          by_cases hqt : q = top
          · subst hqt
            obtain ⟨det',h'⟩ := back q (Nat.le_refl _) hqR hq.2.2 e det
            have hself : flatF (elSw q q B0) W R = flatF B0 W R := flatF_congr fun i j _ _ => by
              unfold elSw
              by_cases h : i = q
              · subst h; simp
              · simp [h]
            rw [hself] at h'
            refine ⟨det',enter _ ?_⟩
            have := search (fun _ => G det') (G det') (fun q' h1 h2 h3 h4 => by
              obtain rfl : q' = q := Classical.byContradiction fun hne => h4 q (Nat.le_refl _) (by omega) hq.2.2
              simp only [Z111.j4_eq _ mk_ok,cond_false,M2]
              exact ev_f (by simp; omega) (ev_f (by simp) h')) fun hno => absurd hq.2.2 (hno q (Nat.le_refl _) hqR)
            rw [hf] at this
            exact this
          · obtain ⟨det',h'⟩ := back q hq.1 hqR hq.2.2 e (w64 (p - det))
            refine ⟨det',enter _ ?_⟩
            have := search (fun _ => G det') (G det') (fun q' h1 h2 h3 h4 => by
              obtain rfl : q' = q := by
                rcases Nat.lt_trichotomy q' q with h | h | h
                · exact absurd h3 (firstN_min hf q' h1 h)
                · exact h
                · exact absurd hq.2.2 (h4 q hq.1 h)
              simp only [Z111.j4_eq _ mk_ok,cond_false,M2]
              refine ev_f (by simp; omega) (ev_t (by simp; omega) ?_)
              -- the loop that exchanges the rows
              let X : Nat → Ent := fun n i j => if j < n then elSw top q' B0 i j else B0 i j
              have hX0 : flatF (X 0) W R = flatF B0 W R := flatF_congr fun i j _ _ => by simp [X]
              have hXW : flatF (X W) W R = flatF (elSw top q' B0) W R := flatF_congr fun i j _ hj => by simp [X,hj]
              rw [← hX0]
              refine Ev.start (p := fun φ n => Z111.l5 (mkR (run E (φ 0))) (φ 0) (φ 1) n M p (W : Int) (w64 (p - det)) (top : Int) (c : Int) (q' : Int) 0 0 0 0 p (R : Int) (W : Int) (pvL pv) (flatF (X 0) W R) = _) 3 ?_ (fun _ _ _ h => h)
              refine fold_loop 3 (L := fun φ n j o => Z111.l5 (mkR (run E (φ 0))) (φ 0) (φ 1) n M p (W : Int) (w64 (p - det)) (top : Int) (c : Int) (q' : Int) j 0 0 0 p (R : Int) (W : Int) (pvL pv) o) (len := W) (fun j => flatF (X j) W R) (fun _ _ _ _ _ => rfl) (fun j r hj ih3 => ?_) ?_
              · simp only [Z111.l5_succ _ mk_ok,ix_eq (hidx q' j hqR hj),ix_eq (hidx top j htR hj),Int.toNat_natCast,List.length_set]
                obtain ⟨k1,k2⟩ := flat_at (A := X j) hqR hj hRW
                obtain ⟨k3,k4⟩ := flat_at (A := X j) htR hj hRW
                have x1 : X j q' j = B0 q' j := by simp [X]
                have x2 : X j top j = B0 top j := by simp [X]
                rw [x1] at k2
                rw [x2] at k4
                have hset : ((flatF (X j) W R).set (q' * W + j) (B0 top j)).set (top * W + j) (B0 q' j) = flatF (X (j + 1)) W R := by
                  rw [flatF_set hqR hj,flatF_set htR hj]
                  refine flatF_congr fun k l _ _ => ?_
                  simp only [X]
                  by_cases hl : l = j
                  · subst hl
                    by_cases hk1 : k = top
                    · subst hk1; simp [elSw]
                    · by_cases hk2 : k = q'
                      · subst hk2; simp [elSw,hk1]
                      · simp [elSw,hk1,hk2]
                  · simp only [hl,and_false,if_false]
                    by_cases h3 : l < j
                    · rw [if_pos h3,if_pos (by omega)]
                    · rw [if_neg h3,if_neg (by omega)]
                refine ev_t (decide_eq_true (by omega)) (ev_chk k1 (ev_bind k2 (ev_chk k3 (ev_bind k4 (ev_chk k1 (ev_chk k3 ?_))))))
                rw [w64_succ (by omega),hset]; exact ih3
              · simp only [Z111.l5_succ _ mk_ok]
                refine ev_f (decide_eq_false (by omega)) ?_
                rw [hXW]; exact h') fun hno => absurd hq.2.2 (hno q hq.1 hqR)
            rw [hf] at this
            exact this
  obtain ⟨det',h⟩ := key W 0 1 (by omega)
  refine ⟨det',ret_of ?_⟩
  have h0 : flatF (elS p R A 0).1 W R = cells := hfl
  rw [h0] at h
  simp only [run_Z111,Z111.ev,Z111.j0_eq _ mk_ok,M1,M2,M3,M4]
  have own := l00Own_ret cells (by omega)
  have st := Ev.start (p := fun φ n => Z111.l1 (mkR (run E (φ 0))) (φ 0) n M p (W : Int) 1 0 0 0 0 0 p (R : Int) (W : Int) [] cells = G det') 1 h (fun _ _ _ h => h)
  exact ev_both (ev_call own st) (ev_call own st)

end VeT

open Go Go.Proofs Ve
set_option linter.unusedVariables false
set_option linter.unusedSimpArgs false
namespace VeT

theorem row_ent {cells : Sim} {R C i : Nat} (hl : cells.length = R * C) (hi : i < R) : (cells.take ((i + 1) * C)).drop (i * C) = (List.range C).map (entM cells C i) := by
  have h := flatF_row (f := entM cells C) (C := C) hi
  rw [entM_flat hl] at h
  exact h

theorem rowsOfG_ret (p : Int) (R C : Nat) (cells : Sim) (hl : cells.length = R * C) (hR : R ≤ 1048576) (hC : C ≤ 1048576) (hRC : R * C ≤ 1048576) : Ret E n_Z52 [dI p,dI (R : Int),dI (C : Int),dL cells] ⟨o_Z52,(rowsE (entM cells C) R C,())⟩ := by
  refine ret_of ?_
  simp only [run_Z52,Z52.ev]
  refine Ev.start (p := fun φ n => Z52.l0 (mkR (run E (φ 0))) (φ 0) n (R : Int) 0 p (R : Int) (C : Int) cells [] = _) 1 ?_ (fun _ _ _ h => h)
  refine fold_loop 1 (L := fun φ n k a => Z52.l0 (mkR (run E (φ 0))) (φ 0) n (R : Int) k p (R : Int) (C : Int) cells a) (len := R) (fun k => rowsE (entM cells C) k C) (fun _ _ _ _ _ => rfl) (fun k r hk ih => ?_) ?_
  · simp only [Z52.l0_succ _ mk_ok]
    have hle : (k + 1) * C ≤ R * C := Nat.mul_le_mul_right _ hk
    have e : rowsE (entM cells C) (k + 1) C = rowsE (entM cells C) k C ++ [(List.range C).map (entM cells C k)] := by
      unfold rowsE; rw [List.range_succ,List.map_append]; rfl
    rw [e,← row_ent hl hk] at ih
    refine ev_t (decide_eq_true (by omega)) (ev_call (Mat_row_ret p _ C cells k (by omega) (by omega) (by omega)) (ev_call (Clone_ret _ (by rw [List.length_drop,List.length_take]; omega)) (ev_chk (by simp [rowsE_length]; omega) ?_)))
    rw [w64_succ (by omega)]; exact ih
  · simp only [Z52.l0_succ _ mk_ok]
    exact ev_f (decide_eq_false (by omega)) ev_rfl

theorem flatten_take {rows : List Sim} {k : Nat} (hk : k < rows.length) : (rows.take (k + 1)).flatten = (rows.take k).flatten ++ rows[k] := by
  rw [List.take_succ_eq_append_getElem hk,List.flatten_append]; simp

theorem flatten_take_le {rows : List Sim} {k : Nat} : (rows.take k).flatten.length ≤ rows.flatten.length := by
  conv => rhs; rw [← List.take_append_drop k rows,List.flatten_append,List.length_append]
  omega

theorem l04Rows_ret (p n : Int) (rows : List Sim) (h1 : rows.length ≤ 1048576) (h2 : rows.flatten.length ≤ 1048576) : Ret E n_Z117 [dI p,dI n,dLL rows] ⟨o_Z117,(p,(rows.length : Int),n,rows.flatten,())⟩ := by
  refine ret_of ?_
  simp only [run_Z117,Z117.ev]
  refine Ev.start (p := fun φ q => Z117.l0 (mkR (run E (φ 0))) (φ 0) q rows 0 0 0 0 p (rows.length : Int) n [] = _) 1 ?_ (fun _ _ _ h => h)
  refine fold_loop 1 (L := fun φ q k o => Z117.l0 (mkR (run E (φ 0))) (φ 0) q rows k 0 0 0 p (rows.length : Int) n o) (len := rows.length) (fun k => (rows.take k).flatten) (fun _ _ _ _ _ => rfl) (fun k r hk ih => ?_) ?_
  · simp only [Z117.l0_succ _ mk_ok]
    have hle := flatten_take_le (rows := rows) (k := k + 1)
    rw [flatten_take hk] at ih hle
    rw [List.length_append] at hle
    refine ev_t (decide_eq_true (by omega)) (ev_bind (idx_lt hk) (ev_chk (decide_eq_true (by omega)) ?_))
    rw [w64_succ (by omega)]; exact ih
  · simp only [Z117.l0_succ _ mk_ok]
    refine ev_f (decide_eq_false (by omega)) (ev_some ?_)
    rw [List.take_of_length_le (Nat.le_refl _)]

/-! kernels -/
def kerSt (p : Int) (pv : List Nat) (F : Ent) (c n : Nat) : St := (List.range n).map fun i => (pv.getD i 0,(0 - F i c) % p)
def kerX (p : Int) (W : Nat) (pv : List Nat) (F : Ent) (c n : Nat) : Sim := upds (kerSt p pv F c n) ((List.replicate W 0).set c 1)

open Classical in
noncomputable def kerL (p : Int) (W : Nat) (pv : List Nat) (F : Ent) : Nat → List Sim
  | 0 => []
  | c + 1 => kerL p W pv F c ++ if c ∈ pv then [] else [kerX p W pv F c pv.length]

theorem kerX_succ {p : Int} {W : Nat} {pv : List Nat} {F : Ent} {c n : Nat} : kerX p W pv F c (n + 1) = (kerX p W pv F c n).set (pv.getD n 0) ((0 - F n c) % p) := by
  unfold kerX kerSt
  rw [List.range_succ,List.map_append,upds_append]; rfl

theorem kerX_length {p : Int} {W : Nat} {pv : List Nat} {F : Ent} {c n : Nat} : (kerX p W pv F c n).length = W := by
  unfold kerX; rw [upds_length,List.length_set,List.length_replicate]

theorem kerL_length {p : Int} {W : Nat} {pv : List Nat} {F : Ent} : ∀ {n : Nat},(kerL p W pv F n).length ≤ n
  | 0 => by simp [kerL]
  | n + 1 => by
    have := kerL_length (p := p) (W := W) (pv := pv) (F := F) (n := n)
    rw [kerL,List.length_append]; split <;> simp <;> omega

theorem kerL_mem {p : Int} {W : Nat} {pv : List Nat} {F : Ent} (hp : 2 ≤ p) : ∀ {n : Nat} {x : Sim},x ∈ kerL p W pv F n → x.length = W ∧ Elems x p
  | 0,x,h => by simp [kerL] at h
  | n + 1,x,h => by
    rw [kerL,List.mem_append] at h
    rcases h with h | h
    · exact kerL_mem hp h
    · split at h
      · simp at h
      · rw [List.mem_singleton] at h
        subst h
        refine ⟨kerX_length,upds_elems (fun y hy => ?_) fun q hq => ?_⟩
        · rcases List.mem_or_eq_of_mem_set hy with hy | rfl
          · rw [List.mem_replicate] at hy; omega
          · omega
        · obtain ⟨i,_,rfl⟩ := List.mem_map.1 hq
          exact emod_in hp

theorem pvL_mem {l : List Nat} {c : Nat} : (c : Int) ∈ pvL l ↔ c ∈ l := by
  unfold pvL
  rw [List.mem_map]
  exact ⟨fun ⟨a, h, e⟩ => by obtain rfl : a = c := by omega
                             exact h,fun h => ⟨c,h,rfl⟩⟩

theorem pvL_get {l : List Nat} {i : Nat} (hi : i < l.length) : (pvL l)[i]? = some ((l.getD i 0 : Nat) : Int) := by
  unfold pvL
  rw [List.getElem?_map,List.getElem?_eq_getElem hi,getD_lt hi]; rfl

theorem getD_mem {l : List Nat} {i : Nat} (hi : i < l.length) : l.getD i 0 ∈ l := by
  rw [getD_lt hi]; exact List.getElem_mem hi

/-- the kernel of a matrix -/
noncomputable def kerM (p : Int) (R W : Nat) (cells : Sim) : List Sim := kerL p W (elS p R (entM cells W) W).2 (elS p R (entM cells W) W).1 W

theorem kernel_ret (p : Int) (R W : Nat) (cells : Sim) (hp : 2 ≤ p ∧ p ≤ 251) (hR : R ≤ 1048576) (hW : W ≤ 1048576) (hRW : R * W ≤ 1048576) (hl : cells.length = R * W) (he : Elems cells p) :
    Ret E n_Z46 [dI p,dI (R : Int),dI (W : Int),dL cells] ⟨o_Z46,(kerM p R W cells,())⟩ := by
  have hA := entM_in he hl
  obtain ⟨det,hel⟩ := eliminate_ret (entM cells W) R W p hp hR hW hA
  obtain ⟨hF,hpl,hpc,hpv⟩ := elS_in hp.1 hA W
  refine ret_of ?_
  simp only [run_Z46,Z46.ev]
  refine ev_call (rowsOfG_ret p R W cells hl hR hW hRW) (ev_call hel ?_)
  unfold kerM
  generalize elS p R (entM cells W) W = S at hF hpl hpc hpv
  obtain ⟨F,pv⟩ := S
  simp only at hF hpl hpc hpv
  refine Ev.start (p := fun φ n => Z46.l0 (mkR (run E (φ 0))) (φ 0) n (pvL pv) (W : Int) 0 p (R : Int) (W : Int) cells [] (rowsE F R W) = _) 1 ?_ (fun _ _ _ h => h)
  refine fold_loop 1 (L := fun φ n c o => Z46.l0 (mkR (run E (φ 0))) (φ 0) n (pvL pv) (W : Int) c p (R : Int) (W : Int) cells o (rowsE F R W)) (len := W) (fun c => kerL p W pv F c) (fun _ _ _ _ _ => rfl) (fun c r hc ih => ?_) ?_
  · simp only [Z46.l0_succ _ mk_ok,Int.toNat_natCast,List.length_replicate]
    rw [kerL] at ih
    refine ev_t (decide_eq_true (by omega)) (ev_call (Contains_ret (pvL pv) (c : Int) (by rw [pvL_length]; omega)) (ev_b (fun h => ?_) fun h => ?_))
    · rw [if_pos (pvL_mem.1 (pb_iff.1 h)),List.append_nil] at ih
      rw [w64_succ (by omega)]; exact ih
    · rw [if_neg (mt pvL_mem.2 (pb_not.1 h))] at ih
      refine ev_chk (by simp only [Bool.and_eq_true,decide_eq_true_eq]; omega) (ev_chk (by simp only [Bool.and_eq_true,decide_eq_true_eq]; omega) ?_)
      have hkl := kerL_length (p := p) (W := W) (pv := pv) (F := F) (n := c)
      generalize kerL p W pv F c = K at ih hkl ⊢
      refine Ev.start (p := fun φ n => Z46.l1 (mkR (run E (φ 0))) (φ 0) (φ 1) n (pvL pv) (c : Int) (W : Int) (c : Int) (pvL pv) ((pvL pv).length : Int) 0 p (R : Int) (W : Int) cells ((List.replicate W 0).set c 1) K (rowsE F R W) = _) 2 ?_ (fun _ _ _ h => h)
      refine fold_loop 2 (L := fun φ n i x => Z46.l1 (mkR (run E (φ 0))) (φ 0) (φ 1) n (pvL pv) (c : Int) (W : Int) (c : Int) (pvL pv) ((pvL pv).length : Int) i p (R : Int) (W : Int) cells x K (rowsE F R W)) (len := pv.length) (fun i => kerX p W pv F c i) (fun _ _ _ _ _ => rfl) (fun i q hi ih2 => ?_) ?_
      · simp only [Z46.l1_succ _ mk_ok,pvL_length,rowsE_length,Int.toNat_natCast,kerX_length]
        have hiR : i < R := by omega
        have hFi := hF i c hiR hc
        have hpi := hpv _ (getD_mem hi)
        have e0 : w64 (0 - F i c) = 0 - F i c := w64_small (by omega) (by omega)
        have hred := reduce_ret (0 - F i c) p hp.1
        rw [redV_eq hp (by omega)] at hred
        rw [kerX_succ] at ih2
        simp only [pvL_length] at ih2
        refine ev_t (decide_eq_true (by omega)) (ev_bind (idx_nat.trans (pvL_get hi)) (ev_chk (by simp only [Bool.and_eq_true,decide_eq_true_eq]; omega) (ev_bind (rowsE_get hiR) (ev_bind (idx_nat.trans (row_get hc)) ?_))))
        simp only [e0,Int.toNat_natCast]
        refine ev_call hred (ev_chk (by simp only [Bool.and_eq_true,decide_eq_true_eq]; omega) ?_)
        rw [w64_succ (by omega)]; exact ih2
      · simp only [Z46.l1_succ _ mk_ok,pvL_length]
        refine ev_f (decide_eq_false (by omega)) (ev_chk (by simp only [List.length_cons,List.length_nil,decide_eq_true_eq]; omega) ?_)
        rw [w64_succ (by omega)]; exact ih
  · simp only [Z46.l0_succ _ mk_ok]
    exact ev_f (decide_eq_false (by omega)) ev_rfl

theorem l03Kernel_ret (p : Int) (R W : Nat) (cells : Sim) (hp : 2 ≤ p ∧ p ≤ 251) (hR : R ≤ 1048576) (hW : W ≤ 1048576) (hRW : R * W ≤ 1048576) (hl : cells.length = R * W) (he : Elems cells p) :
    Ret E n_Z109 [dM (p,(R : Int),(W : Int),cells,())] ⟨o_Z109,(kerM p R W cells,())⟩ := by
  have hA := entM_in he hl
  obtain ⟨det,hel⟩ := l03Reduced_ret p R W cells hp hR hW hRW hl he
  obtain ⟨hF,hpl,hpc,hpv⟩ := elS_in hp.1 hA W
  refine ret_of ?_
  simp only [run_Z109,Z109.ev]
  refine ev_call hel ?_
  unfold kerM
  generalize elS p R (entM cells W) W = S at hF hpl hpc hpv
  obtain ⟨F,pv⟩ := S
  simp only at hF hpl hpc hpv
  generalize hMt : (p,(R : Int),(W : Int),cells,()) = M
  have M1 : M.1 = p := by rw [← hMt]
  have M3 : M.2.2.1 = (W : Int) := by rw [← hMt]
  refine Ev.start (p := fun φ n => Z109.l0 (mkR (run E (φ 0))) (φ 0) n M (pvL pv) 0 p (R : Int) (W : Int) (flatF F W R) [] = _) 1 ?_ (fun _ _ _ h => h)
  refine fold_loop 1 (L := fun φ n c o => Z109.l0 (mkR (run E (φ 0))) (φ 0) n M (pvL pv) c p (R : Int) (W : Int) (flatF F W R) o) (len := W) (fun c => kerL p W pv F c) (fun _ _ _ _ _ => rfl) (fun c r hc ih => ?_) ?_
  · simp only [Z109.l0_succ _ mk_ok,M3,Int.toNat_natCast,List.length_replicate]
    rw [kerL] at ih
    refine ev_t (decide_eq_true (by omega)) (ev_call (l00Has_ret (pvL pv) (c : Int) (by rw [pvL_length]; omega)) (ev_b (fun h => ?_) fun h => ?_))
    · rw [if_pos (pvL_mem.1 (pb_iff.1 h)),List.append_nil] at ih
      rw [w64_succ (by omega)]; exact ih
    · rw [if_neg (mt pvL_mem.2 (pb_not.1 h))] at ih
      refine ev_chk (by simp only [Bool.and_eq_true,decide_eq_true_eq]; omega) (ev_chk (by simp only [Bool.and_eq_true,decide_eq_true_eq]; omega) ?_)
      have hkl := kerL_length (p := p) (W := W) (pv := pv) (F := F) (n := c)
      generalize kerL p W pv F c = K at ih hkl ⊢
      refine Ev.start (p := fun φ n => Z109.l1 (mkR (run E (φ 0))) (φ 0) (φ 1) n M (pvL pv) (c : Int) 0 p (R : Int) (W : Int) (flatF F W R) K ((List.replicate W 0).set c 1) = _) 2 ?_ (fun _ _ _ h => h)
      refine fold_loop 2 (L := fun φ n i x => Z109.l1 (mkR (run E (φ 0))) (φ 0) (φ 1) n M (pvL pv) (c : Int) i p (R : Int) (W : Int) (flatF F W R) K x) (len := pv.length) (fun i => kerX p W pv F c i) (fun _ _ _ _ _ => rfl) (fun i q hi ih2 => ?_) ?_
      · have hiR : i < R := by omega
        have hlt := lt_rc hiR hc
        simp only [Z109.l1_succ _ mk_ok,pvL_length,M1,M3,ix_eq (show i * W + c ≤ 4611686018427387904 by omega),kerX_length]
        have hFi := hF i c hiR hc
        have hpi := hpv _ (getD_mem hi)
        have e0 : w64 (0 - F i c) = 0 - F i c := w64_small (by omega) (by omega)
        have hred := l03Mod_ret (0 - F i c) p hp.1
        rw [redV_eq hp (by omega)] at hred
        rw [kerX_succ] at ih2
        refine ev_t (decide_eq_true (by omega)) (ev_bind (idx_nat.trans (pvL_get hi)) (ev_bind (idx_nat.trans (flatF_getD hiR hc)) ?_))
        simp only [e0,Int.toNat_natCast]
        refine ev_call hred (ev_chk (by simp only [Bool.and_eq_true,decide_eq_true_eq]; omega) ?_)
        rw [w64_succ (by omega)]; exact ih2
      · simp only [Z109.l1_succ _ mk_ok,pvL_length]
        refine ev_f (decide_eq_false (by omega)) (ev_chk (by simp only [List.length_cons,List.length_nil,decide_eq_true_eq]; omega) ?_)
        rw [w64_succ (by omega)]; exact ih
  · simp only [Z109.l0_succ _ mk_ok,M3]
    exact ev_f (decide_eq_false (by omega)) ev_rfl

/-- a list of rows of one length -/
def Rws (p : Int) (W : Nat) (rows : List Sim) : Prop := ∀ x ∈ rows,x.length = W ∧ Elems x p

theorem Rws.flat {p : Int} {W : Nat} {rows : List Sim} (h : Rws p W rows) : rows.flatten.length = rows.length * W ∧ Elems rows.flatten p := by
  induction rows with
  | nil => exact ⟨by simp,fun x hx => by simp at hx⟩
  | cons r rows ih =>
    obtain ⟨h1,h2⟩ := ih fun x hx => h x (List.mem_cons_of_mem _ hx)
    obtain ⟨h3,h4⟩ := h r List.mem_cons_self
    refine ⟨by rw [List.flatten_cons,List.length_append,h1,h3,List.length_cons,Nat.add_mul]; omega,fun x hx => ?_⟩
    rw [List.flatten_cons,List.mem_append] at hx
    rcases hx with hx | hx
    · exact h4 x hx
    · exact h2 x hx

end VeT

open Go Go.Proofs Ve
set_option linter.unusedVariables false
set_option linter.unusedSimpArgs false
namespace VeT

/-! a matrix beside a column -/
def augE (A : Ent) (b : Sim) (W : Nat) : Ent := fun i j => if j = W then b.getD i 0 else A i j

theorem augE_in {p : Int} {R W : Nat} {A : Ent} {b : Sim} (hA : EIn p R W A) (hb : Elems b p) (hl : b.length = R) : EIn p R (W + 1) (augE A b W) := fun i j hi hj => by
  unfold augE
  split
  · rw [getD_lt (by omega)]; exact hb _ (List.getElem_mem _)
  · exact hA i j hi (by omega)

theorem augE_row {A : Ent} {b : Sim} {W i : Nat} : (List.range (W + 1)).map (augE A b W i) = (List.range W).map (A i) ++ [b.getD i 0] := by
  rw [List.range_succ,List.map_append]
  congr 1
  · exact List.map_congr_left fun j hj => by
      have := List.mem_range.1 hj
      unfold augE; rw [if_neg (by omega)]
  · simp [augE]

def augC (cells b : Sim) (W R : Nat) : Sim := flatF (augE (entM cells W) b W) (W + 1) R

theorem entM_flatF {f : Ent} {W R i j : Nat} (hi : i < R) (hj : j < W) : entM (flatF f W R) W i j = f i j := by
  unfold entM
  rw [List.getD_eq_getElem?_getD,flatF_getD hi hj]; rfl

/-! what the pivots tell -/
def solP (F : Ent) (W : Nat) : List Nat → Nat → Sim → Option Sim
  | [],_,o => some o
  | q :: qs,i,o => if q = W then none else solP F W qs (i + 1) (o.set q (F i W))

def solO : Option Sim → Sim × Bool × Unit
  | some o => (o,true,())
  | none => ([],false,())

noncomputable def solS (p : Int) (R W : Nat) (cells b : Sim) : Option Sim :=
  solP (elS p R (entM (augC cells b W R) (W + 1)) (W + 1)).1 W (elS p R (entM (augC cells b W R) (W + 1)) (W + 1)).2 0 (List.replicate W 0)

theorem l03Join_ret (p : Int) (R W : Nat) (cells b : Sim) (hR : R ≤ 1048576) (hW : W < 1048576) (hRW : R * (W + 1) ≤ 1048576) (hl : cells.length = R * W) (hbl : b.length = R) :
    Ret E n_Z108 [dM (p,(R : Int),(W : Int),cells,()),dM (p,(R : Int),1,b,())] ⟨o_Z108,(p,(R : Int),((W + 1 : Nat) : Int),augC cells b W R,())⟩ := by
  refine ret_of ?_
  simp only [run_Z108,Z108.ev,Z108.j0_eq _ mk_ok]
  rw [w64_succ (by omega)]
  generalize hMt : (p,(R : Int),(W : Int),cells,()) = M
  generalize hNt : (p,(R : Int),(1 : Int),b,()) = N
  have M2 : M.2.1 = (R : Int) := by rw [← hMt]
  have M3 : M.2.2.1 = (W : Int) := by rw [← hMt]
  have M4 : M.2.2.2.1 = cells := by rw [← hMt]
  have N3 : N.2.2.1 = ((1 : Nat) : Int) := by rw [← hNt]; rfl
  have N4 : N.2.2.2.1 = b := by rw [← hNt]
  have one : Ev fun φ => Z108.l1 (mkR (run E (φ 0))) (φ 0) (φ 0) M N 0 0 0 0 p (R : Int) ((W + 1 : Nat) : Int) [] = some ⟨o_Z108,(p,(R : Int),((W + 1 : Nat) : Int),augC cells b W R,())⟩ := by
    refine Ev.start (p := fun φ n => Z108.l1 (mkR (run E (φ 0))) (φ 0) n M N 0 0 0 0 p (R : Int) ((W + 1 : Nat) : Int) [] = _) 1 ?_ (fun _ _ _ h => h)
    refine fold_loop 1 (L := fun φ n i o => Z108.l1 (mkR (run E (φ 0))) (φ 0) n M N i 0 0 0 p (R : Int) ((W + 1 : Nat) : Int) o) (len := R) (fun i => flatF (augE (entM cells W) b W) (W + 1) i) (fun _ _ _ _ _ => rfl) (fun i r hi ih => ?_) ?_
    · have hle : (i + 1) * W ≤ R * W := Nat.mul_le_mul_right _ hi
      have hle2 : (i + 1) * (W + 1) ≤ R * (W + 1) := Nat.mul_le_mul_right _ hi
      have e0 : (i + 1) * (W + 1) = (i + 1) * W + (i + 1) := Nat.mul_succ _ _
      have e1 : (i + 1) * W = i * W + W := Nat.succ_mul _ _
      have e2 : i * (W + 1) = i * W + i := Nat.mul_succ _ _
      have e3 : R * (W + 1) = R * W + R := Nat.mul_succ _ _
      have c1 : w64 ((i : Int) * (W : Int)) = ((i * W : Nat) : Int) := by rw [cast_mul]; exact w64_small (by omega) (by omega)
      have c2 : w64 (((i + 1 : Nat) : Int) * (W : Int)) = (((i + 1) * W : Nat) : Int) := by rw [cast_mul]; exact w64_small (by omega) (by omega)
      have c3 : w64 ((i : Int) * ((1 : Nat) : Int)) = (i : Int) := by rw [cast_mul,Nat.mul_one]; exact w64_small (by omega) (by omega)
      have c4 : w64 (((i + 1 : Nat) : Int) * ((1 : Nat) : Int)) = ((i + 1 : Nat) : Int) := by rw [cast_mul,Nat.mul_one]; exact w64_small (by omega) (by omega)
      have hr1 := row_ent hl hi
      have hr2 : (b.take (i + 1)).drop i = [b.getD i 0] := by
        rw [List.take_succ_eq_append_getElem (by omega),List.drop_append_of_le_length (by rw [List.length_take]; omega),List.drop_of_length_le (by rw [List.length_take]; omega),getD_lt (by omega)]; rfl
      have hfl := flatF_length (f := augE (entM cells W) b W) (C := W + 1) (n := i)
      simp only [Z108.l1_succ _ mk_ok,M2,M3,M4,N3,N4,w64_succ (k := i) (by omega),c1,c2,c3,c4,Int.toNat_natCast,hr1,hr2]
      rw [flatF,augE_row,← List.append_assoc] at ih
      refine ev_t (decide_eq_true (by omega)) (ev_chk (by simp only [Bool.and_eq_true,decide_eq_true_eq]; omega) (ev_chk (by simp only [List.length_map,List.length_range,decide_eq_true_eq]; omega) (ev_chk (by simp only [Bool.and_eq_true,decide_eq_true_eq]; omega) (ev_chk (by simp only [List.length_append,List.length_map,List.length_range,List.length_singleton,decide_eq_true_eq]; omega) ih))))
    · simp only [Z108.l1_succ _ mk_ok,M2]
      exact ev_f (decide_eq_false (by omega)) ev_rfl
  exact ev_both one one

theorem l03Solve_ret (p : Int) (R W : Nat) (cells b : Sim) (hp : 2 ≤ p ∧ p ≤ 251) (hR : R ≤ 1048576) (hW : W < 1048576) (hRW : R * (W + 1) ≤ 1048576) (hl : cells.length = R * W) (he : Elems cells p) (hbl : b.length = R) (hb : Elems b p) :
    Ret E n_Z112 [dM (p,(R : Int),(W : Int),cells,()),dL b] ⟨o_Z112,solO (solS p R W cells b)⟩ := by
  have hA0 := entM_in he hl
  have hA1 := augE_in hA0 hb hbl
  have hcl : (augC cells b W R).length = R * (W + 1) := flatF_length
  have hA : EIn p R (W + 1) (entM (augC cells b W R) (W + 1)) := fun i j hi hj => by
    unfold augC; rw [entM_flatF hi hj]; exact hA1 i j hi hj
  have hce : Elems (augC cells b W R) p := by
    unfold augC
    intro x hx
    rw [← flatF_flatten] at hx
    obtain ⟨row,hrow,hx⟩ := List.mem_flatten.1 hx
    obtain ⟨i,hi,rfl⟩ := List.mem_map.1 hrow
    obtain ⟨j,hj,rfl⟩ := List.mem_map.1 hx
    exact hA1 i j (List.mem_range.1 hi) (List.mem_range.1 hj)
  obtain ⟨det,hel⟩ := l03Reduced_ret p R (W + 1) (augC cells b W R) hp hR (by omega) hRW hcl hce
  obtain ⟨hF,hpl,hpc,hpv⟩ := elS_in hp.1 hA (W + 1)
  unfold solS
  refine ret_of ?_
  simp only [run_Z112,Z112.ev]
  refine ev_call (l03Join_ret p R W cells b hR hW hRW hl hbl) (ev_call hel (ev_chk (by simp; omega) ?_))
  generalize elS p R (entM (augC cells b W R) (W + 1)) (W + 1) = S at hF hpl hpc hpv
  obtain ⟨F,pv⟩ := S
  simp only at hF hpl hpc hpv
  simp only [Int.toNat_natCast]
  generalize hMt : (p,(R : Int),(W : Int),cells,()) = M
  have M3 : M.2.2.1 = (W : Int) := by rw [← hMt]
  have key : ∀ d i o,i + d = pv.length → o.length = W → Ev fun φ => Z112.l0 (mkR (run E (φ 0))) (φ 0) (φ 1) M (pvL pv) (i : Int) p (R : Int) ((W + 1 : Nat) : Int) (augC cells b W R) p (R : Int) ((W + 1 : Nat) : Int) (flatF F (W + 1) R) o = some ⟨o_Z112,solO (solP F W (pv.drop i) i o)⟩ := by
    intro d
    induction d with
    | zero =>
      intro i o hi ho
      refine Ev.round 1 (L := fun φ n => Z112.l0 (mkR (run E (φ 0))) (φ 0) n M (pvL pv) (i : Int) p (R : Int) ((W + 1 : Nat) : Int) (augC cells b W R) p (R : Int) ((W + 1 : Nat) : Int) (flatF F (W + 1) R) o) ?_ (fun _ _ _ => rfl)
      simp only [Z112.l0_succ _ mk_ok,pvL_length]
      rw [List.drop_of_length_le (by omega)]
      exact ev_f (decide_eq_false (by omega)) (ev_some rfl)
    | succ d ih =>
      intro i o hi ho
      have hil : i < pv.length := by omega
      refine Ev.round 1 (L := fun φ n => Z112.l0 (mkR (run E (φ 0))) (φ 0) n M (pvL pv) (i : Int) p (R : Int) ((W + 1 : Nat) : Int) (augC cells b W R) p (R : Int) ((W + 1 : Nat) : Int) (flatF F (W + 1) R) o) ?_ (fun _ _ _ => rfl)
      have hiR : i < R := by omega
      have hix0 : i * (W + 1) + W < R * (W + 1) := lt_rc hiR (Nat.lt_succ_self W)
      have hix : i * (W + 1) + W ≤ 4611686018427387904 := by omega
      simp only [Z112.l0_succ _ mk_ok,pvL_length,M3,ix_eq hix,Int.toNat_natCast]
      have hq := hpv _ (getD_mem hil)
      have hdrop : pv.drop i = pv.getD i 0 :: pv.drop (i + 1) := by rw [List.drop_eq_getElem_cons hil,getD_lt hil]
      refine ev_t (decide_eq_true (by omega)) (ev_bind (idx_nat.trans (pvL_get hil)) ?_)
      rw [hdrop,solP]
      refine ev_b (fun h => ev_some ?_) fun h => ?_
      · have h : pv.getD i 0 = W := by have : ((pv.getD i 0 : Nat) : Int) = (W : Int) := by simpa using h
                                       omega
        rw [if_pos h]; rfl
      · have h : pv.getD i 0 ≠ W := fun e => by rw [e] at h; simp at h
        rw [if_neg h]
        refine ev_bind (idx_nat.trans (pvL_get hil)) (ev_bind (idx_nat.trans (flatF_getD hiR (Nat.lt_succ_self W))) (ev_chk (by simp only [Bool.and_eq_true,decide_eq_true_eq]; omega) ?_))
        simp only [Int.toNat_natCast]
        rw [w64_succ (by omega)]
        exact ih (i + 1) _ (by omega) (by rw [List.length_set]; exact ho)
  refine Ev.start (p := fun φ n => Z112.l0 (mkR (run E (φ 0))) (φ 0) n M (pvL pv) 0 p (R : Int) ((W + 1 : Nat) : Int) (augC cells b W R) p (R : Int) ((W + 1 : Nat) : Int) (flatF F (W + 1) R) (List.replicate W 0) = _) 1 ?_ (fun _ _ _ h => h)
  exact key pv.length 0 (List.replicate W 0) (by omega) (by simp)

end VeT

open Go Go.Proofs Ve
set_option linter.unusedVariables false
set_option linter.unusedSimpArgs false
namespace VeT

/-! sums of sums -/
theorem dotN_addR {c g h : Nat → Int} : ∀ {n : Nat},dotN c (fun i => g i + h i) n = dotN c g n + dotN c h n
  | 0 => rfl
  | n + 1 => by simp only [dotN]; rw [dotN_addR,Int.mul_add]; omega

theorem dotN_smulR {k : Int} {c g : Nat → Int} : ∀ {n : Nat},dotN c (fun i => k * g i) n = k * dotN c g n
  | 0 => by simp [dotN]
  | n + 1 => by simp only [dotN]; rw [dotN_smulR,Int.mul_add,← Int.mul_assoc,Int.mul_comm (c n) k,Int.mul_assoc]

theorem dotN_zeroR {c : Nat → Int} : ∀ {n : Nat},dotN c (fun _ => 0) n = 0
  | 0 => rfl
  | n + 1 => by simp only [dotN]; rw [dotN_zeroR,Int.mul_zero]; rfl

theorem dotN_comm {c g : Nat → Int} : ∀ {n : Nat},dotN c g n = dotN g c n
  | 0 => rfl
  | n + 1 => by simp only [dotN]; rw [dotN_comm,Int.mul_comm]

theorem dotN_swap {y c : Nat → Int} {A : Ent} {W : Nat} : ∀ {R : Nat},dotN y (fun j => dotN c (fun i => A i j) R) W = dotN c (fun i => dotN y (A i) W) R
  | 0 => dotN_zeroR
  | R + 1 => by
    simp only [dotN]
    rw [dotN_addR,dotN_swap,dotN_smulR]

theorem dotN_mod {p : Int} {c g h : Nat → Int} : ∀ {n : Nat},(∀ i,i < n → g i % p = h i % p) → dotN c g n % p = dotN c h n % p
  | 0,_ => rfl
  | n + 1,hgh => by
    simp only [dotN]
    rw [Int.add_emod,dotN_mod (n := n) fun i hi => hgh i (by omega),Int.mul_emod,hgh n (Nat.lt_succ_self n),← Int.mul_emod,← Int.add_emod]

theorem dotN_congr {c d g h : Nat → Int} : ∀ {n : Nat},(∀ i,i < n → c i = d i ∧ g i = h i) → dotN c g n = dotN d h n
  | 0,_ => rfl
  | n + 1,e => by simp only [dotN]; rw [dotN_congr (n := n) fun i hi => e i (by omega),(e n (Nat.lt_succ_self n)).1,(e n (Nat.lt_succ_self n)).2]

/-- what is orthogonal to all rows is orthogonal to their sums -/
theorem Spn.orth {p : Int} {R W : Nat} {A : Ent} {x y : Nat → Int} (hy : ∀ i,i < R → dotN y (A i) W % p = 0) (hx : Spn p R W A x) : dotN y x W % p = 0 := by
  obtain ⟨c,hc⟩ := hx
  rw [← dotN_mod (p := p) (c := y) (g := fun j => dotN c (fun i => A i j) R) (h := x) hc,dotN_swap,dotN_mod (p := p) (h := fun _ => 0) fun i hi => by rw [hy i hi,Int.zero_emod],dotN_zeroR,Int.zero_emod]

/-- another number at one place -/
theorem dotN_upd {y g : Nat → Int} {q : Nat} {v : Int} : ∀ {n : Nat},q < n → dotN (fun j => if j = q then v else y j) g n = dotN y g n + (v - y q) * g q
  | n + 1,h => by
    simp only [dotN]
    by_cases hq : q = n
    · subst hq
      rw [if_pos rfl,dotN_congr (d := y) (h := g) fun i hi => ⟨if_neg (by omega),rfl⟩,Int.sub_mul]; omega
    · rw [dotN_upd (by omega),if_neg (by omega)]; omega

/-! solutions -/
def Slv (p : Int) (R W : Nat) (A : Ent) (b : Nat → Int) : Prop := ∃ y : Nat → Int,∀ i,i < R → dotN y (A i) W % p = b i % p

theorem solP_none {F : Ent} {W : Nat} : ∀ {qs : List Nat} {i : Nat} {o : Sim},solP F W qs i o = none ↔ W ∈ qs
  | [],i,o => by simp [solP]
  | q :: qs,i,o => by
    unfold solP
    split
    · rename_i h; simp [h]
    · rename_i h
      rw [solP_none,List.mem_cons]
      exact ⟨.inr,fun h' => h'.resolve_left (fun e => h e.symm)⟩

theorem getD_setI {o : Sim} {q j : Nat} {v : Int} (hq : q < o.length) : (o.set q v).getD j 0 = if j = q then v else o.getD j 0 := by
  by_cases e : q = j
  · subst e
    rw [if_pos rfl,getD_lt (by rw [List.length_set]; exact hq),List.getElem_set_self]
  · rw [if_neg fun e2 => e e2.symm,List.getD_eq_getElem?_getD,List.getElem?_set_ne e,List.getD_eq_getElem?_getD]

/-- what the pivots tell solves -/
theorem solP_dot {F : Ent} {W R : Nat} {pv : List Nat} (h1 : ∀ j,j < pv.length → pv.getD j 0 < W) (hm : ∀ i j,i < j → j < pv.length → pv.getD i 0 < pv.getD j 0) (ho : ∀ i j,i < R → j < pv.length → F i (pv.getD j 0) = if i = j then 1 else 0) :
    ∀ d n o y,n + d = pv.length → o.length = W → (∀ k,n ≤ k → k < pv.length → o.getD (pv.getD k 0) 0 = 0) → (∀ i,i < R → dotN (fun j => o.getD j 0) (F i) W = if i < n then F i W else 0) →
      solP F W (pv.drop n) n o = some y → ∀ i,i < R → dotN (fun j => y.getD j 0) (F i) W = if i < pv.length then F i W else 0 := by
  intro d
  induction d with
  | zero =>
    intro n o y hn ho2 _ hd h i hi
    rw [List.drop_of_length_le (by omega)] at h
    obtain rfl := Option.some.inj h
    rw [show pv.length = n by omega]; exact hd i hi
  | succ d ih =>
    intro n o y hn ho2 hz hd h i hi
    have hnl : n < pv.length := by omega
    have hdrop : pv.drop n = pv.getD n 0 :: pv.drop (n + 1) := by rw [List.drop_eq_getElem_cons hnl,getD_lt hnl]
    have hq := h1 n hnl
    have hget : ∀ (v : Int) (j : Nat),(o.set (pv.getD n 0) v).getD j 0 = if j = pv.getD n 0 then v else o.getD j 0 := fun v j => getD_setI (by omega)
    rw [hdrop,solP,if_neg (by omega)] at h
    refine ih (n + 1) _ y (by omega) (by rw [List.length_set]; exact ho2) (fun k hk hkl => ?_) (fun i hi => ?_) h i hi
    · have := hm n k (by omega) hkl
      rw [hget,if_neg (by omega)]; exact hz k (by omega) hkl
    · rw [dotN_congr (d := fun j => if j = pv.getD n 0 then F n W else o.getD j 0) (h := F i) fun j _ => ⟨hget _ j,rfl⟩,dotN_upd hq,hd i hi,hz n (Nat.le_refl _) hnl,ho i n hi hnl]
      by_cases e : i = n
      · subst e; simp
      · rw [if_neg e,Int.mul_zero,Int.add_zero]
        by_cases e2 : i < n
        · rw [if_pos e2,if_pos (by omega)]
        · rw [if_neg e2,if_neg (by omega)]

theorem solS_iff {p : Int} {R W : Nat} {cells b : Sim} (hp : Pr p) (hl : cells.length = R * W) (he : Elems cells p) (hbl : b.length = R) (hb : Elems b p) :
    (solS p R W cells b ≠ none ↔ Slv p R W (entM cells W) (fun i => b.getD i 0)) ∧ ∀ y,solS p R W cells b = some y → ∀ i,i < R → dotN (fun j => y.getD j 0) (entM cells W i) W % p = b.getD i 0 % p := by
  have hA0 := entM_in he hl
  have hA1 := augE_in hA0 hb hbl
  have hA : EIn p R (W + 1) (entM (augC cells b W R) (W + 1)) := fun i j hi hj => by
    unfold augC; rw [entM_flatF hi hj]; exact hA1 i j hi hj
  have hent : ∀ i j,i < R → j < W + 1 → entM (augC cells b W R) (W + 1) i j = augE (entM cells W) b W i j := fun i j hi hj => by unfold augC; exact entM_flatF hi hj
  obtain ⟨hrf,heq⟩ := elS_rf hp hA (W + 1) (Nat.le_refl _)
  unfold solS
  generalize elS p R (entM (augC cells b W R) (W + 1)) (W + 1) = S at hrf heq
  obtain ⟨F,pv⟩ := S
  simp only at hrf heq ⊢
  -- a solution beside -1 is what is orthogonal to the rows
  have aug : ∀ (y : Nat → Int) (G : Ent),∀ i,dotN (fun j => if j = W then -1 else y j) (G i) (W + 1) = dotN y (G i) W - G i W := fun y G i => by
    simp only [dotN]
    rw [if_pos trivial,dotN_congr (d := y) (h := G i) fun j hj => ⟨if_neg (by omega),rfl⟩]; omega
  have key : ∀ y : Nat → Int,(∀ i,i < R → dotN y (entM cells W i) W % p = b.getD i 0 % p) ↔ ∀ i,i < R → (dotN y (F i) W - F i W) % p = 0 := by
    intro y
    have e1 : ∀ i,i < R → (dotN (fun j => if j = W then -1 else y j) (entM (augC cells b W R) (W + 1) i) (W + 1) = dotN y (entM cells W i) W - b.getD i 0) := fun i hi => by
      rw [aug,dotN_congr (d := y) (h := entM cells W i) fun j hj => ⟨rfl,by rw [hent i j hi (by omega)]; unfold augE; rw [if_neg (by omega)]⟩,hent i W hi (by omega)]
      unfold augE; rw [if_pos rfl]
    constructor
    · intro h i hi
      rw [← aug]
      exact Spn.orth (fun k hk => by rw [e1 k hk]; exact Int.emod_eq_emod_iff_emod_sub_eq_zero.1 (h k hk)) (heq.1 i hi)
    · intro h i hi
      refine Int.emod_eq_emod_iff_emod_sub_eq_zero.2 ?_
      rw [← e1 i hi]
      exact Spn.orth (fun k hk => by rw [aug]; exact h k hk) (heq.2 i hi)
  have good : ∀ y,solP F W pv 0 (List.replicate W 0) = some y → ∀ i,i < R → dotN (fun j => y.getD j 0) (entM cells W i) W % p = b.getD i 0 % p := by
    intro y hy
    have hW : W ∉ pv := fun h => by rw [solP_none.2 h] at hy; cases hy
    refine (key _).2 fun i hi => ?_
    have hz0 : ∀ j,(List.replicate W (0 : Int)).getD j 0 = 0 := fun j => by
      rw [List.getD_eq_getElem?_getD,List.getElem?_replicate]; split <;> rfl
    have hd := solP_dot (F := F) (W := W) (R := R) (pv := pv) (fun j hj => by
        have h1 := hrf.lt j hj
        have h2 : pv.getD j 0 ≠ W := fun e => hW (by rw [← e]; exact getD_mem hj)
        omega) hrf.mono hrf.one pv.length 0 (List.replicate W 0) y (by omega) (by simp) (fun k _ _ => hz0 _) (fun i _ => by
        rw [dotN_congr (d := fun _ => 0) (h := F i) fun j _ => ⟨hz0 j,rfl⟩,dotN_comm,dotN_zeroR,if_neg (by omega)]) (by rw [List.drop_zero]; exact hy) i hi
    rw [hd]
    split
    · rw [Int.sub_self,Int.zero_emod]
    · rename_i h; rw [hrf.bot i W (by omega) hi (by omega)]; rfl
  refine ⟨⟨fun h => ?_,fun ⟨y,hy⟩ h => ?_⟩,good⟩
  · cases hs : solP F W pv 0 (List.replicate W 0) with
    | none => exact absurd hs h
    | some y => exact ⟨fun j => y.getD j 0,good y hs⟩
  · obtain ⟨k,hk,hkW⟩ := List.mem_iff_getElem.1 (solP_none.1 h)
    have hkd : pv.getD k 0 = W := by rw [getD_lt hk]; exact hkW
    have hkR : k < R := Nat.lt_of_lt_of_le hk hrf.len
    have h1 := (key y).1 hy k hkR
    have h2 := hrf.one k k hkR hk
    rw [hkd,if_pos rfl] at h2
    rw [dotN_congr (d := y) (h := fun _ => 0) fun j hj => ⟨rfl,hrf.low k j hk (by omega)⟩,dotN_zeroR,h2] at h1
    have hp2 := hp.1
    have : (0 - 1 : Int) % p = p - 1 := by
      rw [show (0 - 1 : Int) = (p - 1) + p * (-1) by omega,Int.add_mul_emod_self_left]
      exact Int.emod_eq_of_lt (by omega) (by omega)
    omega

end VeT

open Go Go.Proofs Ve
set_option linter.unusedVariables false
set_option linter.unusedSimpArgs false
namespace VeT

/-! what is left of a vector behind the rows of a reduced basis -/
def cX (p : Int) (x : Nat → Int) (pv : List Nat) (k : Nat) : Int := (p - x (pv.getD k 0)) % p

def restF (p : Int) (F : Ent) (pv : List Nat) (x : Nat → Int) : Nat → Nat → Int
  | 0 => x
  | k + 1 => fun j => (restF p F pv x k j + cX p x pv k * F k j) % p

theorem restF_eq {p : Int} {F : Ent} {pv : List Nat} {x : Nat → Int} {j : Nat} : ∀ k,restF p F pv x k j % p = (x j + dotN (cX p x pv) (fun i => F i j) k) % p
  | 0 => by simp [restF,dotN]
  | k + 1 => by
    simp only [restF,dotN]
    rw [Int.emod_emod_of_dvd _ (Int.dvd_refl p),Int.add_emod,restF_eq k,← Int.add_emod,Int.add_assoc]

theorem dotN_tail {c g : Nat → Int} {t : Nat} : ∀ {n : Nat},t ≤ n → (∀ i,t ≤ i → i < n → g i = 0) → dotN c g n = dotN c g t
  | 0,h,_ => by rw [show t = 0 by omega]
  | n + 1,h,hz => by
    by_cases ht : t = n + 1
    · rw [ht]
    · simp only [dotN]
      rw [dotN_tail (n := n) (by omega) fun i h1 h2 => hz i h1 (by omega),hz n (by omega) (Nat.lt_succ_self n),Int.mul_zero,Int.add_zero]

theorem rest_iff {p : Int} {R W : Nat} {F : Ent} {pv : List Nat} {x : Nat → Int} (hp : 2 ≤ p) (hrf : Rf R W F pv) (hx : ∀ j,j < W → 0 ≤ x j ∧ x j ≤ p - 1) :
    (∀ j,j < W → restF p F pv x pv.length j = 0) ↔ Spn p R W F x := by
  constructor
  · intro h
    refine (Spn.sum (c := fun i => (-1) * cX p x pv i) (B := F) (n := pv.length) fun i hi => Spn.row (Nat.lt_of_lt_of_le hi hrf.len)).congr fun j hj => ?_
    rw [dotN_smul]
    have e := restF_eq (p := p) (F := F) (pv := pv) (x := x) (j := j) pv.length
    rw [h j hj,Int.zero_emod] at e
    refine (Int.emod_eq_emod_iff_emod_sub_eq_zero.2 ?_).symm
    rw [show x j - -1 * dotN (cX p x pv) (fun i => F i j) pv.length = x j + dotN (cX p x pv) (fun i => F i j) pv.length by omega]
    exact e.symm
  · rintro ⟨c,hc⟩ j hj
    have hck : ∀ k,k < pv.length → x (pv.getD k 0) % p = c k % p := fun k hk => by
      rw [← hc _ (hrf.lt k hk),dotN_congr (d := c) (h := fun i => if i = k then 1 else 0) fun i hi => ⟨rfl,hrf.one i k hi hk⟩,dotN_comm,dotN_one (Nat.lt_of_lt_of_le hk hrf.len)]
    have e0 : dotN c (fun i => F i j) R = dotN c (fun i => F i j) pv.length := dotN_tail hrf.len fun i h1 h2 => hrf.bot i j h1 h2 hj
    have e1 : dotN (cX p x pv) (fun i => F i j) pv.length % p = dotN (fun i => (-1) * c i) (fun i => F i j) pv.length % p := by
      rw [dotN_comm,dotN_comm (c := fun i => (-1) * c i)]
      refine dotN_mod fun i hi => ?_
      unfold cX
      rw [Int.emod_emod_of_dvd _ (Int.dvd_refl p)]
      refine Int.emod_eq_emod_iff_emod_sub_eq_zero.2 ?_
      have := Int.emod_eq_emod_iff_emod_sub_eq_zero.1 (hck i hi).symm
      rw [show p - x (pv.getD i 0) - -1 * c i = (c i - x (pv.getD i 0)) + p * 1 by omega,Int.add_mul_emod_self_left]
      exact this
    have e2 : restF p F pv x pv.length j % p = 0 := by
      rw [restF_eq,Int.add_emod,e1,← Int.add_emod,dotN_smul,← e0,Int.add_emod,← hc j hj,← Int.add_emod,show dotN c (fun i => F i j) R + -1 * dotN c (fun i => F i j) R = 0 by omega,Int.zero_emod]
    have hin : 0 ≤ restF p F pv x pv.length j ∧ restF p F pv x pv.length j ≤ p - 1 := by
      cases hn : pv.length with
      | zero => exact hx j hj
      | succ n => exact emod_in hp
    rw [Int.emod_eq_of_lt hin.1 (by omega)] at e2
    exact e2

/-! rows as entries -/
def entR (rows : List Sim) : Ent := fun i j => (rows.getD i []).getD j 0

theorem rowsE_entR {rows : List Sim} {W : Nat} (h : ∀ x ∈ rows,x.length = W) : rowsE (entR rows) rows.length W = rows := by
  apply List.ext_getElem
  · rw [rowsE_length]
  · intro i h1 h2
    have e := rowsE_get (A := entR rows) (W := W) h2
    rw [List.getElem?_eq_getElem h1] at e
    rw [Option.some.inj e]
    apply List.ext_getElem
    · rw [List.length_map,List.length_range]; exact (h _ (List.getElem_mem h2)).symm
    · intro j h3 h4
      rw [List.getElem_map,List.getElem_range]
      unfold entR
      rw [getD_lt h2,getD_lt h4]

theorem entR_in {p : Int} {rows : List Sim} {W : Nat} (h : Rws p W rows) : EIn p rows.length W (entR rows) := fun i j hi hj => by
  obtain ⟨h1,h2⟩ := h _ (List.getElem_mem hi)
  unfold entR
  rw [getD_lt hi,getD_lt (by omega)]
  exact h2 _ (List.getElem_mem _)

/-- the space of rows: its reduced basis -/
noncomputable def basS (p : Int) (W : Nat) (rows : List Sim) : Ent × List Nat := elS p rows.length (entR rows) W
noncomputable def bas (p : Int) (W : Nat) (rows : List Sim) : List Sim := rowsE (basS p W rows).1 (basS p W rows).2.length W

theorem rowsE_take {A : Ent} {R W t : Nat} (h : t ≤ R) : (rowsE A R W).take t = rowsE A t W := by
  unfold rowsE
  rw [← List.map_take,List.take_range,Nat.min_eq_left h]

end VeT

open Go Go.Proofs Ve
set_option linter.unusedVariables false
set_option linter.unusedSimpArgs false
namespace VeT

theorem copyLists_ret (rows : List Sim) (hl : rows.length ≤ 1048576) (hs : ∀ x ∈ rows,x.length ≤ 1048576) : Ret E n_Z24 [dLL rows] ⟨o_Z24,(rows,())⟩ := by
  refine ret_of ?_
  simp only [run_Z24,Z24.ev]
  refine Ev.start (p := fun φ n => Z24.l0 (mkR (run E (φ 0))) (φ 0) n rows (rows.length : Int) 0 [] = _) 1 ?_ (fun _ _ _ h => h)
  refine fold_loop 1 (L := fun φ n k o => Z24.l0 (mkR (run E (φ 0))) (φ 0) n rows (rows.length : Int) k o) (len := rows.length) (fun k => rows.take k) (fun _ _ _ _ _ => rfl) (fun k r hk ih => ?_) ?_
  · simp only [Z24.l0_succ _ mk_ok]
    rw [List.take_succ_eq_append_getElem hk] at ih
    refine ev_t (decide_eq_true (by omega)) (ev_bind (idx_lt hk) (ev_call (Clone_ret _ (hs _ (List.getElem_mem hk))) (ev_chk (by simp only [List.length_take,List.length_singleton,decide_eq_true_eq]; omega) ?_)))
    rw [w64_succ (by omega)]; exact ih
  · simp only [Z24.l0_succ _ mk_ok]
    refine ev_f (decide_eq_false (by omega)) (ev_some ?_)
    rw [List.take_of_length_le (Nat.le_refl _)]

theorem spaceOf_ret (p : Int) (W : Nat) (rows : List Sim) (hp : 2 ≤ p ∧ p ≤ 251) (hR : rows.length ≤ 1048576) (hW : W ≤ 1048576) (hr : Rws p W rows) :
    Ret E n_Z56 [dI p,dI (W : Int),dLL rows] ⟨o_Z56,(p,(W : Int),bas p W rows,())⟩ := by
  have hA := entR_in hr
  obtain ⟨det,hel⟩ := eliminate_ret (entR rows) rows.length W p hp hR hW hA
  rw [rowsE_entR fun x hx => (hr x hx).1] at hel
  have hlen := (elS_in hp.1 hA W).2.1
  refine ret_of ?_
  simp only [run_Z56,Z56.ev]
  unfold bas basS
  generalize elS p rows.length (entR rows) W = S at hel hlen
  obtain ⟨F,pv⟩ := S
  simp only at hel hlen ⊢
  refine ev_call (copyLists_ret rows hR fun x hx => by rw [(hr x hx).1]; exact hW) (ev_call hel (ev_chk (by simp only [pvL_length,rowsE_length,Bool.and_eq_true,decide_eq_true_eq]; omega) ?_))
  simp only [pvL_length,Int.toNat_natCast,List.drop_zero]
  rw [rowsE_take hlen]
  exact ev_call (copyLists_ret (rowsE F pv.length W) (by rw [rowsE_length]; omega) fun x hx => by
    obtain ⟨i,_,rfl⟩ := List.mem_map.1 hx
    rw [List.length_map,List.length_range]; exact hW) ev_rfl

theorem placesOf_1_ret (x : Int) : Ret E n_Z49 [dI x] ⟨o_Z49,(x != 0,())⟩ := by
  refine ret_of ?_
  simp only [run_Z49,Z49.ev]
  exact Ev.of fun _ => trivial

theorem idxf_pv {f : Nat → Int} {W q : Nat} (hq : q < W) (h1 : f q ≠ 0) (h0 : ∀ j,j < q → f j = 0) : idxf (fun x : Int => x != 0) ((List.range W).map f) = (q : Int) := by
  have := idxf_of (p := fun x : Int => x != 0) (s := (List.range W).map f) (o := some q) (fun k hk => by
    obtain rfl := Option.some.inj hk
    refine ⟨by simpa using hq,⟨by simpa using hq,by simpa using h1⟩,fun j hj => ?_⟩
    rintro ⟨hjl,hne⟩
    simp [h0 j hj] at hne) (fun h => by cases h)
  exact this.symm

theorem placesOf_ret {R W : Nat} {F : Ent} {pv : List Nat} (p : Int) (hW : W ≤ 1048576) (hR : R ≤ 1048576) (hrf : Rf R W F pv) :
    Ret E n_Z48 [dI p,dI (W : Int),dLL (rowsE F pv.length W)] ⟨o_Z48,(pvL pv,())⟩ := by
  have hlen := hrf.len
  refine ret_of ?_
  simp only [run_Z48,Z48.ev,rowsE_length]
  refine Ev.start (p := fun φ n => Z48.l0 (mkR (run E (φ 0))) (φ 0) n (rowsE F pv.length W) (pv.length : Int) 0 [] = _) 1 ?_ (fun _ _ _ h => h)
  refine fold_loop 1 (L := fun φ n k o => Z48.l0 (mkR (run E (φ 0))) (φ 0) n (rowsE F pv.length W) (pv.length : Int) k o) (len := pv.length) (fun k => pvL (pv.take k)) (fun _ _ _ _ _ => rfl) (fun k r hk ih => ?_) ?_
  · simp only [Z48.l0_succ _ mk_ok]
    have hone := hrf.one k k (by omega) hk
    rw [if_pos rfl] at hone
    have hix := idxf_pv (f := F k) (hrf.lt k hk) (by rw [hone]; exact Int.one_ne_zero) fun j hj => hrf.low k j hk hj
    have hcall := IndexFunc_Sint64_int64_impl_placesOf_1_ret ((List.range W).map (F k)) (fun x => x != 0) (by rw [List.length_map,List.length_range]; exact hW) fun x _ => placesOf_1_ret x
    rw [hix] at hcall
    rw [List.take_succ_eq_append_getElem hk,pvL_add,← getD_lt (d := 0) hk] at ih
    refine ev_t (decide_eq_true (by omega)) (ev_bind (idx_nat.trans (rowsE_get hk)) (ev_call hcall (ev_chk (by simp only [pvL_length,List.length_take,List.length_singleton,decide_eq_true_eq]; omega) ?_)))
    rw [w64_succ (by omega)]; exact ih
  · simp only [Z48.l0_succ _ mk_ok]
    refine ev_f (decide_eq_false (by omega)) (ev_some ?_)
    rw [List.take_of_length_le (Nat.le_refl _)]

def restL (p : Int) (F : Ent) (pv : List Nat) (x : Nat → Int) (W k : Nat) : Sim := (List.range W).map (restF p F pv x k)

theorem coordinates_ret {R W : Nat} {F : Ent} {pv : List Nat} (p : Int) (x : Sim) (hp : 2 ≤ p ∧ p ≤ 251) (hW : W ≤ 1048576) (hR : R ≤ 1048576) (hF : EIn p R W F) (hrf : Rf R W F pv) (hx : Elems x p) (hxl : x.length = W) :
    ∃ l : Sim,Ret E n_Z23 [dI p,dI (W : Int),dLL (rowsE F pv.length W),dL x] ⟨o_Z23,(l,pb (Zs (restL p F pv (fun j => x.getD j 0) W pv.length)),())⟩ := by
  have hlen := hrf.len
  have hx0 : x = restL p F pv (fun j => x.getD j 0) W 0 := by
    show x = (List.range W).map fun j => x.getD j 0
    apply List.ext_getElem
    · rw [List.length_map,List.length_range,hxl]
    · intro j h1 h2
      rw [List.getElem_map,List.getElem_range,getD_lt h1]
  refine ⟨(pv.map fun q => x.getD q 0),ret_of ?_⟩
  simp only [run_Z23,Z23.ev]
  refine ev_call (placesOf_ret p hW hR hrf) ?_
  simp only [pvL_length]
  have hin : ∀ j,j < W → 0 ≤ x.getD j 0 ∧ x.getD j 0 ≤ p - 1 := fun j hj => by rw [getD_lt (by omega)]; exact hx _ (List.getElem_mem _)
  have hrin : ∀ k j,j < W → 0 ≤ restF p F pv (fun j => x.getD j 0) k j ∧ restF p F pv (fun j => x.getD j 0) k j ≤ p - 1 := fun k j hj => by
    cases k with
    | zero => exact hin j hj
    | succ k => exact emod_in hp.1
  suffices h : Ev fun φ => Z23.l0 (mkR (run E (φ 0))) (φ 0) (φ 0) x (restL p F pv (fun j => x.getD j 0) W 0) (pvL pv) (pv.length : Int) 0 p (W : Int) (rowsE F pv.length W) [] = some ⟨o_Z23,(pv.map fun q => x.getD q 0,pb (Zs (restL p F pv (fun j => x.getD j 0) W pv.length)),())⟩ by
    rw [← hx0] at h; exact h
  refine Ev.start (p := fun φ n => Z23.l0 (mkR (run E (φ 0))) (φ 0) n x (restL p F pv (fun j => x.getD j 0) W 0) (pvL pv) (pv.length : Int) 0 p (W : Int) (rowsE F pv.length W) [] = _) 1 ?_ (fun _ _ _ h => h)
  refine fold_loop 1 (L := fun φ n k (o : Sim × Sim) => Z23.l0 (mkR (run E (φ 0))) (φ 0) n x o.1 (pvL pv) (pv.length : Int) k p (W : Int) (rowsE F pv.length W) o.2) (len := pv.length) (fun k => (restL p F pv (fun j => x.getD j 0) W k,(pv.take k).map fun q => x.getD q 0)) (fun _ _ _ _ _ => rfl) (fun k r hk ih => ?_) ?_
  · simp only [Z23.l0_succ _ mk_ok] at ih ⊢
    have hq := hrf.lt k hk
    have hxq : x[pv.getD k 0]? = some (x.getD (pv.getD k 0) 0) := by rw [getD_lt (show pv.getD k 0 < x.length by omega)]; exact List.getElem?_eq_getElem _
    have hv := hin _ hq
    have hc : Int.tmod (w64 (p - x.getD (pv.getD k 0) 0)) p = cX p (fun j => x.getD j 0) pv k := by
      rw [w64_small (by omega) (by omega),Int.tmod_eq_emod_of_nonneg (by omega)]; rfl
    have hcin : 0 ≤ cX p (fun j => x.getD j 0) pv k ∧ cX p (fun j => x.getD j 0) pv k ≤ p - 1 := emod_in hp.1
    have hadd := addTimes_ret (restL p F pv (fun j => x.getD j 0) W k) ((List.range W).map (F k)) (cX p (fun j => x.getD j 0) pv k) p hp (by omega) (by simp [restL]) (by simp [restL]; omega) (map_in hp.2 (hrin k)) (map_in hp.2 fun j hj => hF k j (by omega) hj)
    rw [show addV (restL p F pv (fun j => x.getD j 0) W k) ((List.range W).map (F k)) (cX p (fun j => x.getD j 0) pv k) p = restL p F pv (fun j => x.getD j 0) W (k + 1) from addV_map] at hadd
    have hp0 : (p != 0) = true := by simp; omega
    rw [List.take_succ_eq_append_getElem hk,List.map_append,List.map_singleton,← getD_lt (d := 0) hk] at ih
    refine ev_t (decide_eq_true (by omega)) (ev_bind (idx_nat.trans (pvL_get hk)) (ev_bind (idx_nat.trans hxq) (ev_chk (by simp only [List.length_map,List.length_take,List.length_singleton,decide_eq_true_eq]; omega) (ev_bind (idx_nat.trans (rowsE_get hk)) (ev_bind (idx_nat.trans hxq) (ev_chk hp0 ?_))))))
    simp only [hc]
    refine ev_call hadd ?_
    rw [w64_succ (by omega)]; exact ih
  · simp only [Z23.l0_succ _ mk_ok]
    refine ev_f (decide_eq_false (by omega)) (ev_call (isZero_ret _ (by simp [restL]; omega)) (ev_some ?_))
    rw [List.take_of_length_le (Nat.le_refl _)]

theorem Zs_restL {p : Int} {F : Ent} {pv : List Nat} {x : Nat → Int} {W k : Nat} : Zs (restL p F pv x W k) ↔ ∀ j,j < W → restF p F pv x k j = 0 := by
  unfold Zs restL
  constructor
  · intro h j hj; exact h _ (List.mem_map.2 ⟨j,List.mem_range.2 hj,rfl⟩)
  · intro h y hy
    obtain ⟨j,hj,rfl⟩ := List.mem_map.1 hy
    exact h j (List.mem_range.1 hj)

/-- is a vector a sum of multiples of rows? -/
def InR (p : Int) (W : Nat) (rows : List Sim) (x : Sim) : Prop := Spn p rows.length W (entR rows) (fun j => x.getD j 0)

theorem contains_ret (p : Int) (W : Nat) (rows : List Sim) (x : Sim) (hp : Pr p) (hW : W ≤ 1048576) (hR : rows.length ≤ 1048576) (hr : Rws p W rows) (hx : Elems x p) (hxl : x.length = W) :
    Ret E n_Z22 [dI p,dI (W : Int),dLL (bas p W rows),dL x] ⟨o_Z22,(pb (InR p W rows x),())⟩ := by
  have hA := entR_in hr
  obtain ⟨hrf,heq⟩ := elS_rf hp hA W (Nat.le_refl _)
  have hF := (elS_in hp.1 hA W).1
  have hin : ∀ j,j < W → 0 ≤ x.getD j 0 ∧ x.getD j 0 ≤ p - 1 := fun j hj => by rw [getD_lt (by omega)]; exact hx _ (List.getElem_mem _)
  unfold bas basS
  have e : ∀ F pv,Rf rows.length W F pv → Eqv p rows.length W (entR rows) F → (Zs (restL p F pv (fun j => x.getD j 0) W pv.length) ↔ InR p W rows x) := fun F pv h1 h2 => by
    rw [Zs_restL,rest_iff hp.1 h1 hin]
    exact ⟨fun h => Spn.trans h2.1 h,fun h => Spn.trans h2.2 h⟩
  have e := e _ _ hrf heq
  generalize elS p rows.length (entR rows) W = S at hrf heq hF e
  obtain ⟨F,pv⟩ := S
  simp only at hrf heq hF e ⊢
  obtain ⟨l,hl⟩ := coordinates_ret p x ⟨hp.1,hp.2.1⟩ hW hR hF hrf hx hxl
  rw [show pb (Zs (restL p F pv (fun j => x.getD j 0) W pv.length)) = pb (InR p W rows x) from pb_congr e] at hl
  refine ret_of ?_
  simp only [run_Z22,Z22.ev]
  exact ev_call hl ev_rfl

end VeT

open Go Go.Proofs Ve
set_option linter.unusedVariables false
set_option linter.unusedSimpArgs false
namespace VeT

/-! sums of rows do not depend on the rows that give them -/
theorem InR.mem {p : Int} {W : Nat} {rows : List Sim} {r : Sim} (h : r ∈ rows) : InR p W rows r := by
  obtain ⟨i,hi,e⟩ := List.mem_iff_getElem.1 h
  have : entR rows i = fun j => r.getD j 0 := by funext j; unfold entR; rw [getD_lt hi,e]
  unfold InR
  rw [← this]
  exact Spn.row hi

theorem InR.trans {p : Int} {W : Nat} {A B : List Sim} {y : Sim} (h : ∀ r ∈ A,InR p W B r) (hy : InR p W A y) : InR p W B y :=
  Spn.trans (fun i hi => by
    have e : entR A i = fun j => (A[i]).getD j 0 := by funext j; unfold entR; rw [getD_lt hi]
    rw [e]
    exact h _ (List.getElem_mem hi)) hy

def SameR (p : Int) (W : Nat) (A B : List Sim) : Prop := ∀ y,InR p W A y ↔ InR p W B y

theorem SameR.refl {p : Int} {W : Nat} {A : List Sim} : SameR p W A A := fun _ => Iff.rfl

theorem SameR.append {p : Int} {W : Nat} {A B : List Sim} {x : Sim} (h : SameR p W A B) : SameR p W (A ++ [x]) (B ++ [x]) := by
  have key : ∀ A B : List Sim,SameR p W A B → ∀ y,InR p W (A ++ [x]) y → InR p W (B ++ [x]) y := fun A B h y hy => InR.trans (fun r hr => by
    rcases List.mem_append.1 hr with hr | hr
    · exact InR.trans (fun r hr => InR.mem (List.mem_append.2 (.inl hr))) ((h r).1 (InR.mem hr))
    · exact InR.mem (List.mem_append.2 (.inr hr))) hy
  exact fun y => ⟨key A B h y,key B A (fun y => (h y).symm) y⟩

theorem bas_rws {p : Int} {W : Nat} {rows : List Sim} (hp : 2 ≤ p) (hr : Rws p W rows) : Rws p W (bas p W rows) ∧ (bas p W rows).length ≤ W := by
  have hA := entR_in hr
  obtain ⟨hF,h1,h2,h3⟩ := elS_in hp hA W
  unfold bas basS
  refine ⟨fun x hx => ?_,by rw [rowsE_length]; exact h2⟩
  obtain ⟨i,hi,rfl⟩ := List.mem_map.1 hx
  have hi := List.mem_range.1 hi
  refine ⟨by simp,fun y hy => ?_⟩
  obtain ⟨j,hj,rfl⟩ := List.mem_map.1 hy
  exact hF i j (by omega) (List.mem_range.1 hj)

theorem bas_same {p : Int} {W : Nat} {rows : List Sim} (hp : Pr p) (hr : Rws p W rows) : SameR p W (bas p W rows) rows := by
  have hA := entR_in hr
  obtain ⟨hrf,heq⟩ := elS_rf hp hA W (Nat.le_refl _)
  unfold bas basS
  generalize elS p rows.length (entR rows) W = S at hrf heq
  obtain ⟨F,pv⟩ := S
  simp only at hrf heq ⊢
  have hent : ∀ i j,i < pv.length → j < W → entR (rowsE F pv.length W) i j = F i j := fun i j hi hj => by
    unfold entR
    have e1 : (rowsE F pv.length W).getD i [] = (List.range W).map (F i) := by rw [List.getD_eq_getElem?_getD,rowsE_get hi]; rfl
    rw [e1,List.getD_eq_getElem?_getD,row_get hj]; rfl
  refine fun y => ⟨fun h => ?_,fun h => ?_⟩
  · refine Spn.trans (fun i hi => ?_) h
    rw [rowsE_length] at hi
    exact (heq.1 i (Nat.lt_of_lt_of_le hi hrf.len)).congr fun j hj => by rw [hent i j hi hj]
  · obtain ⟨c,hc⟩ := Spn.trans heq.2 h
    refine ⟨c,fun j hj => ?_⟩
    rw [rowsE_length,← hc j hj,dotN_tail hrf.len fun i h1 h2 => hrf.bot i j h1 h2 hj,dotN_congr (d := c) (h := fun i => F i j) fun i hi => ⟨rfl,hent i j hi hj⟩]

/-! vectors that are independent of those before them -/
open Classical in
noncomputable def clsT (p : Int) (W : Nat) : List Sim → List Sim → List Sim
  | _,[] => []
  | h,x :: xs => if InR p W h x then clsT p W h xs else x :: clsT p W (h ++ [x]) xs

theorem clsT_sub {p : Int} {W : Nat} : ∀ {l h : List Sim} {x : Sim},x ∈ clsT p W h l → x ∈ l
  | [],h,x,hx => by simp [clsT] at hx
  | y :: l,h,x,hx => by
    unfold clsT at hx
    split at hx
    · exact List.mem_cons_of_mem _ (clsT_sub hx)
    · rcases List.mem_cons.1 hx with rfl | hx
      · exact List.mem_cons_self
      · exact List.mem_cons_of_mem _ (clsT_sub hx)

theorem clsT_length {p : Int} {W : Nat} : ∀ {l h : List Sim},(clsT p W h l).length ≤ l.length
  | [],h => by simp [clsT]
  | y :: l,h => by
    unfold clsT
    split
    · have := clsT_length (p := p) (W := W) (l := l) (h := h); simp; omega
    · have := clsT_length (p := p) (W := W) (l := l) (h := h ++ [y]); simp; omega

theorem independent_ret (p : Int) (W : Nat) (rows list : List Sim) (hp : Pr p) (hW : W ≤ 1048575) (hR : rows.length ≤ 1048576) (hr : Rws p W rows) (hl : list.length ≤ 1048576) (hls : Rws p W list) :
    Ret E n_Z35 [dI p,dI (W : Int),dLL (bas p W rows),dLL list] ⟨o_Z35,(clsT p W rows list,())⟩ := by
  have hp2 : 2 ≤ p ∧ p ≤ 251 := ⟨hp.1,hp.2.1⟩
  refine ret_of ?_
  simp only [run_Z35,Z35.ev]
  have key : ∀ d k (g h taken : List Sim),k + d = list.length → Rws p W g → g.length ≤ 1048576 → SameR p W g h → taken.length ≤ k →
      Ev fun φ => Z35.l0 (mkR (run E (φ 0))) (φ 0) (φ 1) list (list.length : Int) (k : Int) p (W : Int) (bas p W g) taken = some ⟨o_Z35,(taken ++ clsT p W h (list.drop k),())⟩ := by
    intro d
    induction d with
    | zero =>
      intro k g h taken hk hg hgl hs ht
      refine Ev.round 1 (L := fun φ n => Z35.l0 (mkR (run E (φ 0))) (φ 0) n list (list.length : Int) (k : Int) p (W : Int) (bas p W g) taken) ?_ (fun _ _ _ => rfl)
      simp only [Z35.l0_succ _ mk_ok]
      rw [List.drop_of_length_le (by omega),clsT,List.append_nil]
      exact ev_f (decide_eq_false (by omega)) ev_rfl
    | succ d ih =>
      intro k g h taken hk hg hgl hs ht
      have hkl : k < list.length := by omega
      obtain ⟨hx1,hx2⟩ := hls _ (List.getElem_mem hkl)
      refine Ev.round 1 (L := fun φ n => Z35.l0 (mkR (run E (φ 0))) (φ 0) n list (list.length : Int) (k : Int) p (W : Int) (bas p W g) taken) ?_ (fun _ _ _ => rfl)
      simp only [Z35.l0_succ _ mk_ok]
      rw [List.drop_eq_getElem_cons hkl,clsT]
      refine ev_t (decide_eq_true (by omega)) (ev_bind (idx_lt hkl) (ev_call (contains_ret p W g list[k] hp (by omega) hgl hg hx2 hx1) (ev_b (fun hc => ?_) fun hc => ?_)))
      · have hc := pb_not.1 (show pb (InR p W g list[k]) = false by simpa using hc)
        rw [if_neg fun e => hc ((hs _).2 e)]
        obtain ⟨b1,b2⟩ := bas_rws hp.1 hg
        have hg2 : Rws p W (bas p W g ++ [list[k]]) := fun r hr => by
          rcases List.mem_append.1 hr with hr | hr
          · exact b1 r hr
          · rw [List.mem_singleton] at hr; subst hr; exact ⟨hx1,hx2⟩
        have hs2 : SameR p W (bas p W g ++ [list[k]]) (h ++ [list[k]]) := SameR.append fun y => (bas_same hp hg y).trans (hs y)
        have hih := ih (k + 1) (bas p W g ++ [list[k]]) (h ++ [list[k]]) (taken ++ [list[k]]) (by omega) hg2 (by rw [List.length_append,List.length_singleton]; omega) hs2 (by rw [List.length_append,List.length_singleton]; omega)
        rw [List.append_assoc,List.singleton_append] at hih
        have hsp := spaceOf_ret p W (bas p W g ++ [list[k]]) hp2 (by rw [List.length_append,List.length_singleton]; omega) (by omega) hg2
        have hcl := copyLists_ret (bas p W g) (by omega) fun x hx => by rw [(b1 x hx).1]; omega
        have hih : Ev fun φ => Z35.l0 (mkR (run E (φ 0))) (φ 0) (φ 1) list (list.length : Int) (w64 ((k : Int) + 1)) p (W : Int) (bas p W (bas p W g ++ [list[k]])) (taken ++ [list[k]]) = some ⟨o_Z35,(taken ++ list[k] :: clsT p W (h ++ [list[k]]) (list.drop (k + 1)),())⟩ := by
          rw [w64_succ (by omega)]; exact hih
        refine ev_chk (by simp only [List.length_singleton,decide_eq_true_eq]; omega) (ev_both (ev_call hcl (ev_chk ?_ (ev_call hsp hih))) (ev_call hcl (ev_chk ?_ (ev_call hsp hih))))
        all_goals (simp only [List.length_singleton,decide_eq_true_eq]; omega)
      · have hc := pb_iff.1 (show pb (InR p W g list[k]) = true by simpa using hc)
        rw [if_pos ((hs _).1 hc),w64_succ (by omega)]
        exact ih (k + 1) g h taken (by omega) hg hgl hs (by omega)
  refine Ev.start (p := fun φ n => Z35.l0 (mkR (run E (φ 0))) (φ 0) n list (list.length : Int) 0 p (W : Int) (bas p W rows) [] = _) 1 ?_ (fun _ _ _ h => h)
  exact key list.length 0 rows rows [] (by omega) hr hR SameR.refl (Nat.le_refl _)

end VeT

open Go Go.Proofs Ve
set_option linter.unusedVariables false
set_option linter.unusedSimpArgs false
namespace VeT

/-! a matrix with some columns -/
def ColR (p : Int) (W : Nat) (cells : Sim) (h : List Sim) : Prop := (cells.length = W * h.length ∧ Elems cells p) ∧ ∀ i j,i < W → j < h.length → entM cells h.length i j = entR h j i

theorem ColR.slv {p : Int} {W : Nat} {cells : Sim} {h : List Sim} {v : Sim} (hc : ColR p W cells h) : Slv p W h.length (entM cells h.length) (fun i => v.getD i 0) ↔ InR p W h v := by
  have e : ∀ (y : Nat → Int) i,i < W → dotN y (entM cells h.length i) h.length = dotN y (fun j => entR h j i) h.length := fun y i hi => dotN_congr fun j hj => ⟨rfl,hc.2 i j hi hj⟩
  exact ⟨fun ⟨y,hy⟩ => ⟨y,fun i hi => by rw [← e y i hi]; exact hy i hi⟩,fun ⟨y,hy⟩ => ⟨y,fun i hi => by rw [e y i hi]; exact hy i hi⟩⟩

theorem ColR.next {p : Int} {W : Nat} {cells : Sim} {h : List Sim} {v : Sim} (hc : ColR p W cells h) (hv : Elems v p) (hl : v.length = W) : ColR p W (augC cells v h.length W) (h ++ [v]) := by
  have hlen : (h ++ [v]).length = h.length + 1 := by simp
  have hA0 := entM_in hc.1.2 hc.1.1
  have hA1 := augE_in hA0 hv hl
  refine ⟨⟨by rw [hlen]; exact flatF_length,fun x hx => ?_⟩,fun i j hi hj => ?_⟩
  · unfold augC at hx
    rw [← flatF_flatten] at hx
    obtain ⟨row,hrow,hx⟩ := List.mem_flatten.1 hx
    obtain ⟨i,hi,rfl⟩ := List.mem_map.1 hrow
    obtain ⟨j,hj,rfl⟩ := List.mem_map.1 hx
    exact hA1 i j (List.mem_range.1 hi) (List.mem_range.1 hj)
  · rw [hlen] at hj ⊢
    unfold augC
    rw [entM_flatF hi hj]
    unfold augE entR
    by_cases hjh : j < h.length
    · rw [if_neg (by omega),hc.2 i j hi hjh,List.getD_eq_getElem?_getD (l := h ++ [v]),List.getElem?_append_left hjh,← List.getD_eq_getElem?_getD]; rfl
    · obtain rfl : j = h.length := by omega
      rw [if_pos rfl,List.getD_eq_getElem?_getD (l := h ++ [v]),List.getElem?_append_right (Nat.le_refl _)]; simp

theorem colsL_colR {p : Int} {W C : Nat} {cells : Sim} (hl : cells.length = W * C) (he : Elems cells p) : ColR p W cells (colsL W C cells) ∧ (colsL W C cells).length = C ∧ Rws p W (colsL W C cells) := by
  have hlen : (colsL W C cells).length = C := by simp [colsL]
  have hA := entM_in he hl
  refine ⟨⟨⟨by rw [hlen]; exact hl,he⟩,fun i j hi hj => ?_⟩,hlen,fun x hx => ?_⟩
  · rw [hlen] at hj ⊢
    have e : (colsL W C cells).getD j [] = (List.range W).map fun i => cells.getD (i * C + j) 0 := by
      unfold colsL
      rw [List.getD_eq_getElem?_getD,List.getElem?_map,List.getElem?_range hj]; rfl
    unfold entR
    rw [e,List.getD_eq_getElem?_getD,List.getElem?_map,List.getElem?_range hi]; rfl
  · obtain ⟨i,hi,rfl⟩ := List.mem_map.1 hx
    refine ⟨by simp,fun y hy => ?_⟩
    obtain ⟨j,hj,rfl⟩ := List.mem_map.1 hy
    exact hA j i (List.mem_range.1 hj) (List.mem_range.1 hi)

theorem l07Spans_ret (p : Int) (W : Nat) (cells : Sim) (h : List Sim) (v : Sim) (hp : Pr p) (hW : W ≤ 64) (hh : h.length ≤ 4096) (hc : ColR p W cells h) (hv : Elems v p) (hl : v.length = W) :
    Ret E n_Z131 [dM (p,(W : Int),(h.length : Int),cells,()),dL v] ⟨o_Z131,(pb (InR p W h v),())⟩ := by
  have hm : W * (h.length + 1) ≤ 64 * 4097 := Nat.mul_le_mul hW (by omega)
  have hs := l03Solve_ret p W h.length cells v ⟨hp.1,hp.2.1⟩ (by omega) (by omega) (by omega) hc.1.1 hc.1.2 hl hv
  have hi := (solS_iff hp hc.1.1 hc.1.2 hl hv).1.trans hc.slv
  refine ret_of ?_
  simp only [run_Z131,Z131.ev]
  refine ev_call hs (ev_some ?_)
  cases hq : solS p W h.length cells v with
  | none =>
    rw [pb_false fun e => hi.2 e hq]; rfl
  | some y =>
    rw [pb_true (hi.1 (by rw [hq]; exact fun e => by cases e))]; rfl

theorem l07With_ret (p : Int) (W : Nat) (cells : Sim) (h : List Sim) (v : Sim) (hW : W ≤ 64) (hh : h.length ≤ 4096) (hc : ColR p W cells h) (hl : v.length = W) :
    Ret E n_Z132 [dM (p,(W : Int),(h.length : Int),cells,()),dL v] ⟨o_Z132,(p,(W : Int),((h.length + 1 : Nat) : Int),augC cells v h.length W,())⟩ := by
  have hm : W * (h.length + 1) ≤ 64 * 4097 := Nat.mul_le_mul hW (by omega)
  refine ret_of ?_
  simp only [run_Z132,Z132.ev]
  exact ev_call (l03Join_ret p W h.length cells v (by omega) (by omega) (by omega) hc.1.1 hl) ev_rfl

theorem l07Classes_ret (p : Int) (W : Nat) (cells : Sim) (h list : List Sim) (hp : Pr p) (hW : W ≤ 64) (hh : h.length + list.length ≤ 4096) (hc : ColR p W cells h) (hls : Rws p W list) :
    Ret E n_Z129 [dI p,dI (W : Int),dI (h.length : Int),dL cells,dLL list] ⟨o_Z129,(clsT p W h list,())⟩ := by
  refine ret_of ?_
  simp only [run_Z129,Z129.ev]
  have key : ∀ d k (cells : Sim) (h taken : List Sim),k + d = list.length → h.length + d ≤ 4096 → ColR p W cells h → taken.length ≤ k →
      Ev fun φ => Z129.l0 (mkR (run E (φ 0))) (φ 0) (φ 1) list (k : Int) p (W : Int) (h.length : Int) cells taken = some ⟨o_Z129,(taken ++ clsT p W h (list.drop k),())⟩ := by
    intro d
    induction d with
    | zero =>
      intro k cells h taken hk hb hc ht
      refine Ev.round 1 (L := fun φ n => Z129.l0 (mkR (run E (φ 0))) (φ 0) n list (k : Int) p (W : Int) (h.length : Int) cells taken) ?_ (fun _ _ _ => rfl)
      simp only [Z129.l0_succ _ mk_ok]
      rw [List.drop_of_length_le (by omega),clsT,List.append_nil]
      exact ev_f (decide_eq_false (by omega)) ev_rfl
    | succ d ih =>
      intro k cells h taken hk hb hc ht
      have hkl : k < list.length := by omega
      obtain ⟨hx1,hx2⟩ := hls _ (List.getElem_mem hkl)
      refine Ev.round 1 (L := fun φ n => Z129.l0 (mkR (run E (φ 0))) (φ 0) n list (k : Int) p (W : Int) (h.length : Int) cells taken) ?_ (fun _ _ _ => rfl)
      simp only [Z129.l0_succ _ mk_ok]
      rw [List.drop_eq_getElem_cons hkl,clsT]
      refine ev_t (decide_eq_true (by omega)) (ev_bind (idx_lt hkl) (ev_call (l07Spans_ret p W cells h list[k] hp hW (by omega) hc hx2 hx1) (ev_b (fun hq => ?_) fun hq => ?_)))
      · have hq := pb_not.1 (show pb (InR p W h list[k]) = false by simpa using hq)
        rw [if_neg hq]
        have hih := ih (k + 1) (augC cells list[k] h.length W) (h ++ [list[k]]) (taken ++ [list[k]]) (by omega) (by rw [List.length_append,List.length_singleton]; omega) (hc.next hx2 hx1) (by rw [List.length_append,List.length_singleton]; omega)
        rw [List.append_assoc,List.singleton_append,List.length_append,List.length_singleton] at hih
        refine ev_bind (idx_lt hkl) (ev_call (l00Own_ret list[k] (by omega)) (ev_chk (by simp only [List.length_singleton,decide_eq_true_eq]; omega) (ev_bind (idx_lt hkl) (ev_call (l07With_ret p W cells h list[k] hW (by omega) hc hx1) ?_))))
        rw [w64_succ (by omega)]; exact hih
      · have hq := pb_iff.1 (show pb (InR p W h list[k]) = true by simpa using hq)
        rw [if_pos hq,w64_succ (by omega)]
        exact ih (k + 1) cells h taken (by omega) (by omega) hc (by omega)
  refine Ev.start (p := fun φ n => Z129.l0 (mkR (run E (φ 0))) (φ 0) n list 0 p (W : Int) (h.length : Int) cells [] = _) 1 ?_ (fun _ _ _ h => h)
  exact key list.length 0 cells h [] (by omega) hh hc (Nat.le_refl _)

end VeT

open Go Go.Proofs Ve
set_option linter.unusedVariables false
set_option linter.unusedSimpArgs false
namespace VeT

/-! classes: they span,and their numbers are told -/
theorem InR.left {p : Int} {W : Nat} {A B : List Sim} {x : Sim} (h : InR p W A x) : InR p W (A ++ B) x := InR.trans (fun r hr => InR.mem (List.mem_append.2 (.inl hr))) h

end VeT

open Go Go.Proofs Ve
set_option linter.unusedVariables false
set_option linter.unusedSimpArgs false
namespace VeT

end VeT

open Go Go.Proofs Ve
set_option linter.unusedVariables false
set_option linter.unusedSimpArgs false
namespace VeT

/-! rows one after another -/
theorem flatten_getD {W : Nat} : ∀ {rows : List Sim},(∀ x ∈ rows,x.length = W) → ∀ {j i : Nat},j < rows.length → i < W → rows.flatten.getD (j * W + i) 0 = entR rows j i
  | [],_,j,i,hj,_ => by simp at hj
  | r :: rows,h,j,i,hj,hi => by
    have hr : r.length = W := h r List.mem_cons_self
    rw [List.flatten_cons,List.getD_eq_getElem?_getD]
    cases j with
    | zero =>
      rw [List.getElem?_append_left (by omega),← List.getD_eq_getElem?_getD]
      unfold entR
      rw [Nat.zero_mul,Nat.zero_add]; rfl
    | succ j =>
      have e : (j + 1) * W + i = W + (j * W + i) := by rw [Nat.add_mul]; omega
      rw [e,List.getElem?_append_right (by omega),hr,Nat.add_sub_cancel_left,← List.getD_eq_getElem?_getD,flatten_getD (fun x hx => h x (List.mem_cons_of_mem _ hx)) (by simpa using hj) hi]
      rfl

end VeT

open Go Go.Proofs Ve
set_option linter.unusedVariables false
set_option linter.unusedSimpArgs false
namespace VeT

/-! ranks by leading places -/
open Classical in
noncomputable def cnt (f : Nat → Prop) : Nat → Nat
  | 0 => 0
  | n + 1 => cnt f n + if f n then 1 else 0

theorem cnt_mono {f g : Nat → Prop} : ∀ {n : Nat},(∀ c,c < n → f c → g c) → cnt f n ≤ cnt g n
  | 0,_ => Nat.le_refl _
  | n + 1,h => by
    have := cnt_mono (n := n) fun c hc => h c (by omega)
    unfold cnt
    by_cases hf : f n
    · rw [if_pos hf,if_pos (h n (by omega) hf)]; omega
    · rw [if_neg hf]; omega

theorem cnt_congr {f g : Nat → Prop} {n : Nat} (h : ∀ c,c < n → (f c ↔ g c)) : cnt f n = cnt g n :=
  Nat.le_antisymm (cnt_mono fun c hc => (h c hc).1) (cnt_mono fun c hc => (h c hc).2)

theorem cnt_none {f : Nat → Prop} : ∀ {n : Nat},(∀ c,c < n → ¬ f c) → cnt f n = 0
  | 0,_ => rfl
  | n + 1,h => by
    unfold cnt
    rw [cnt_none fun c hc => h c (by omega),if_neg (h n (by omega))]

theorem cnt_one {f : Nat → Prop} {k : Nat} : ∀ {n : Nat},k < n → ¬ f k → cnt (fun c => f c ∨ c = k) n = cnt f n + 1
  | 0,h,_ => by omega
  | n + 1,h,hk => by
    unfold cnt
    by_cases e : k = n
    · subst e
      have : cnt (fun c => f c ∨ c = k) k = cnt f k := cnt_congr fun c hc => ⟨fun h => h.elim id fun e => by omega,.inl⟩
      rw [this,if_pos (.inr rfl),if_neg hk]
    · rw [cnt_one (by omega) hk]
      by_cases hf : f n
      · rw [if_pos (.inl hf),if_pos hf]
      · rw [if_neg (fun h => h.elim hf fun e' => e e'.symm),if_neg hf]

theorem cnt_list {W : Nat} : ∀ {l : List Nat},l.Nodup → (∀ c ∈ l,c < W) → cnt (fun c => c ∈ l) W = l.length
  | [],_,_ => cnt_none fun c _ h => by cases h
  | a :: l,hn,hl => by
    obtain ⟨h1,h2⟩ := List.nodup_cons.1 hn
    have e := cnt_list h2 fun c hc => hl c (List.mem_cons_of_mem _ hc)
    rw [List.length_cons,← e,← cnt_one (hl a List.mem_cons_self) h1]
    exact cnt_congr fun c _ => by rw [List.mem_cons]; exact Or.comm

/-- a place where some vector of a space begins -/
def Ld (p : Int) (W : Nat) (V : (Nat → Int) → Prop) (c : Nat) : Prop := c < W ∧ ∃ x,V x ∧ (∀ j,j < c → x j % p = 0) ∧ x c % p ≠ 0

noncomputable def rkV (p : Int) (W : Nat) (V : (Nat → Int) → Prop) : Nat := cnt (Ld p W V) W

theorem Ld.mono {p : Int} {W : Nat} {V V' : (Nat → Int) → Prop} (h : ∀ x,V x → V' x) {c : Nat} : Ld p W V c → Ld p W V' c := fun ⟨h1,x,hx,h2⟩ => ⟨h1,x,h x hx,h2⟩

theorem rkV_congr {p : Int} {W : Nat} {V V' : (Nat → Int) → Prop} (h : ∀ x,V x ↔ V' x) : rkV p W V = rkV p W V' := cnt_congr fun c _ => ⟨Ld.mono fun x => (h x).1,Ld.mono fun x => (h x).2⟩

theorem rkV_mono {p : Int} {W : Nat} {V V' : (Nat → Int) → Prop} (h : ∀ x,V x → V' x) : rkV p W V ≤ rkV p W V' := cnt_mono fun c _ => Ld.mono h

theorem dotN_nil {p : Int} {c g : Nat → Int} : ∀ {n : Nat},(∀ i,i < n → c i * g i % p = 0) → dotN c g n % p = 0
  | 0,_ => by simp [dotN]
  | n + 1,h => by
    rw [show dotN c g (n + 1) = dotN c g n + c n * g n from rfl,Int.add_emod,dotN_nil fun i hi => h i (by omega),h n (by omega)]; simp

theorem Rf.nodup {R W : Nat} {F : Ent} {pv : List Nat} (h : Rf R W F pv) : pv.Nodup ∧ ∀ c ∈ pv,c < W := by
  have hg : ∀ i (hi : i < pv.length),pv.getD i 0 = pv[i] := fun i hi => by rw [List.getD_eq_getElem?_getD,List.getElem?_eq_getElem hi]; rfl
  constructor
  · refine List.pairwise_iff_getElem.2 fun i j hi hj hij => ?_
    have := h.mono i j hij hj
    rw [hg i hi,hg j hj] at this
    omega
  · intro c hc
    obtain ⟨i,hi,rfl⟩ := List.mem_iff_getElem.1 hc
    have := h.lt i hi
    rwa [hg i hi] at this

theorem Rf.mem {R W : Nat} {F : Ent} {pv : List Nat} (h : Rf R W F pv) {c : Nat} : c ∈ pv ↔ ∃ i,i < pv.length ∧ pv.getD i 0 = c := by
  rw [List.mem_iff_getElem]
  constructor
  · rintro ⟨i,hi,rfl⟩; exact ⟨i,hi,by rw [List.getD_eq_getElem?_getD,List.getElem?_eq_getElem hi]; rfl⟩
  · rintro ⟨i,hi,rfl⟩; exact ⟨i,hi,by rw [List.getD_eq_getElem?_getD,List.getElem?_eq_getElem hi]; rfl⟩

/-- a vector of a reduced space,by its numbers at the pivots -/
theorem Rf.coef {p : Int} {R W : Nat} {F : Ent} {pv : List Nat} (h : Rf R W F pv) {v : Nat → Int} (hv : Spn p R W F v) {j : Nat} (hj : j < W) :
    v j % p = dotN (fun k => v (pv.getD k 0)) (fun k => F k j) pv.length % p := by
  obtain ⟨c,hc⟩ := hv
  have h0 : ∀ j,j < W → dotN c (fun i => F i j) R = dotN c (fun i => F i j) pv.length := fun j hj => dotN_tail h.len fun i h1 h2 => h.bot i j h1 h2 hj
  have hk : ∀ k,k < pv.length → v (pv.getD k 0) % p = c k % p := fun k hk => by
    rw [← hc _ (h.lt k hk),h0 _ (h.lt k hk),dotN_comm]
    congr 1
    rw [← dotN_one (g := c) hk]
    exact dotN_congr fun i hi => ⟨h.one i k (Nat.lt_of_lt_of_le hi h.len) hk,rfl⟩
  rw [← hc j hj,h0 j hj,dotN_comm,dotN_comm (c := fun k => v (pv.getD k 0))]
  exact dotN_mod fun i hi => (hk i hi).symm

theorem Rf.low0 {p : Int} {R W : Nat} {F : Ent} {pv : List Nat} (h : Rf R W F pv) {v : Nat → Int} (hv : Spn p R W F v) {d : Nat} (hd : d < W) (hn : d ∉ pv) (h0 : ∀ k,k < pv.length → pv.getD k 0 < d → v (pv.getD k 0) % p = 0) : ∀ j,j ≤ d → v j % p = 0 := by
  intro j hj
  rw [h.coef hv (by omega)]
  refine dotN_nil fun k hk => ?_
  rcases Nat.lt_trichotomy (pv.getD k 0) d with e | e | e
  · rw [Int.mul_emod,h0 k hk e]; simp
  · exact absurd (h.mem.2 ⟨k,hk,e⟩) hn
  · rw [h.low k j hk (by omega)]; simp

theorem Ld_rf {p : Int} {R W : Nat} {F : Ent} {pv : List Nat} (hp : 2 ≤ p) (h : Rf R W F pv) {c : Nat} : Ld p W (Spn p R W F) c ↔ c ∈ pv := by
  constructor
  · rintro ⟨hc,x,hx,h1,h2⟩
    refine Classical.byContradiction fun hn => h2 ?_
    exact h.low0 hx hc hn (fun k hk e => h1 _ e) c (Nat.le_refl _)
  · intro hm
    obtain ⟨i,hi,rfl⟩ := h.mem.1 hm
    have hiR := Nat.lt_of_lt_of_le hi h.len
    refine ⟨h.lt i hi,F i,Spn.row hiR,fun j hj => by rw [h.low i j hi hj]; simp,?_⟩
    rw [h.one i i hiR hi,if_pos rfl,Int.emod_eq_of_lt (by omega) (by omega)]
    omega

theorem rkV_rf {p : Int} {R W : Nat} {F : Ent} {pv : List Nat} (hp : 2 ≤ p) (h : Rf R W F pv) : rkV p W (Spn p R W F) = pv.length := by
  rw [← cnt_list h.nodup.1 h.nodup.2]
  exact cnt_congr fun c _ => Ld_rf hp h

/-- the rank of rows -/
noncomputable def rk (p : Int) (W : Nat) (rows : List Sim) : Nat := rkV p W (Spn p rows.length W (entR rows))

theorem Eqv.spn {p : Int} {R W : Nat} {A B : Ent} (h : Eqv p R W A B) {x : Nat → Int} : Spn p R W A x ↔ Spn p R W B x := ⟨fun hx => Spn.trans h.2 hx,fun hx => Spn.trans h.1 hx⟩

theorem elS_rk {p : Int} {R W : Nat} {A : Ent} (hp : Pr p) (hA : EIn p R W A) : (elS p R A W).2.length = rkV p W (Spn p R W A) := by
  obtain ⟨h1,h2⟩ := elS_rf hp hA W (Nat.le_refl _)
  rw [← rkV_rf hp.1 h1]
  exact rkV_congr fun x => h2.spn.symm

theorem InR.spn {p : Int} {W : Nat} {A B : List Sim} (h : ∀ r ∈ A,InR p W B r) {x : Nat → Int} (hx : Spn p A.length W (entR A) x) : Spn p B.length W (entR B) x :=
  Spn.trans (fun i hi => by
    have e : entR A i = fun j => (A[i]).getD j 0 := by funext j; unfold entR; rw [getD_lt hi]
    rw [e]; exact h _ (List.getElem_mem hi)) hx

theorem rk_sub {p : Int} {W : Nat} {A B : List Sim} (h : ∀ r ∈ A,InR p W B r) : rk p W A ≤ rk p W B := rkV_mono fun x hx => InR.spn h hx

theorem rk_same {p : Int} {W : Nat} {A B : List Sim} (h : ∀ r ∈ A,InR p W B r) (k : ∀ r ∈ B,InR p W A r) : rk p W A = rk p W B := Nat.le_antisymm (rk_sub h) (rk_sub k)

theorem rk_le {p : Int} {W : Nat} {A : List Sim} (hp : Pr p) (hA : Rws p W A) : rk p W A ≤ A.length := by
  have := elS_rk hp (entR_in hA)
  have h2 := (elS_in hp.1 (entR_in hA) W).2.1
  unfold rk; omega

theorem entR_app {rows : List Sim} {x : Sim} {i : Nat} (hi : i < rows.length) : entR (rows ++ [x]) i = entR rows i := by
  have : (rows ++ [x]).getD i [] = rows.getD i [] := by rw [List.getD_eq_getElem?_getD,List.getElem?_append_left hi,← List.getD_eq_getElem?_getD]
  funext j
  unfold entR
  rw [this]

theorem entR_last {rows : List Sim} {x : Sim} : entR (rows ++ [x]) rows.length = fun j => x.getD j 0 := by
  have : (rows ++ [x]).getD rows.length [] = x := by rw [List.getD_eq_getElem?_getD,List.getElem?_append_right (Nat.le_refl _),Nat.sub_self]; rfl
  funext j
  unfold entR
  rw [this]

theorem Spn.app {p : Int} {W : Nat} {rows : List Sim} {x : Sim} {z : Nat → Int} (h : Spn p (rows ++ [x]).length W (entR (rows ++ [x])) z) :
    ∃ (a : Int) (v : Nat → Int),Spn p rows.length W (entR rows) v ∧ ∀ j,j < W → z j % p = (v j + a * x.getD j 0) % p := by
  obtain ⟨c,hc⟩ := h
  refine ⟨c rows.length,fun j => dotN c (fun i => entR rows i j) rows.length,⟨c,fun j _ => rfl⟩,fun j hj => ?_⟩
  rw [← hc j hj,List.length_append,List.length_singleton]
  show (dotN c _ rows.length + c rows.length * entR (rows ++ [x]) rows.length j) % p = _
  rw [entR_last,dotN_congr (d := c) (h := fun i => entR rows i j) fun i hi => ⟨rfl,by rw [entR_app hi]⟩]

theorem least {f : Nat → Prop} {n : Nat} (h : ∃ j,j < n ∧ f j) : ∃ c,c < n ∧ f c ∧ ∀ j,j < c → ¬ f j := by
  induction n with
  | zero => obtain ⟨j,hj,_⟩ := h; omega
  | succ n ih =>
    by_cases h2 : ∃ j,j < n ∧ f j
    · obtain ⟨c,h3,h4⟩ := ih h2; exact ⟨c,by omega,h4⟩
    · obtain ⟨j,hj,hf⟩ := h
      have : j = n := Classical.byContradiction fun e => h2 ⟨j,by omega,hf⟩
      subst this
      exact ⟨j,by omega,hf,fun k hk hf' => h2 ⟨k,hk,hf'⟩⟩

theorem mul_ne {p a b : Int} (hp : Pr p) (ha : a % p ≠ 0) (hb : b % p ≠ 0) : a * b % p ≠ 0 := by
  intro h
  have hp2 : 2 ≤ p := hp.1
  have a1 := Int.emod_nonneg a (show p ≠ 0 by omega)
  have a2 := Int.emod_lt_of_pos a (show 0 < p by omega)
  have hi := inv_mul hp (a := a % p) (by omega) (by omega)
  apply hb
  have e : b % p = (a % p * invF (a % p) p) % p * b % p := by rw [hi,Int.one_mul]
  generalize invF (a % p) p = q at e
  have h1 : a % p * q % p * b % p = a * q * b % p := mul_congr ((Int.emod_emod_of_dvd _ (Int.dvd_refl p)).trans (mul_congr (Int.emod_emod_of_dvd _ (Int.dvd_refl p)) rfl)) rfl
  rw [e,h1,show a * q * b = q * (a * b) by rw [Int.mul_comm a q,Int.mul_assoc],mul_congr (p := p) (x := q) (x' := q) rfl (h.trans (Int.zero_emod p).symm)]
  simp

theorem rk_new {p : Int} {W : Nat} {rows : List Sim} {x : Sim} (hp : Pr p) (hr : Rws p W rows) (hx : ¬ InR p W rows x) : rk p W (rows ++ [x]) = rk p W rows + 1 := by
  have hp2 : 2 ≤ p := hp.1
  obtain ⟨hrf,heq⟩ := elS_rf hp (entR_in hr) W (Nat.le_refl _)
  have hrk := elS_rk hp (entR_in hr)
  generalize elS p rows.length (entR rows) W = S at hrf heq hrk
  obtain ⟨F,pv⟩ := S
  simp only at hrf heq hrk
  -- what is left of x
  let s : Nat → Int := fun j => dotN (fun k => -(x.getD (pv.getD k 0) 0)) (fun k => F k j) pv.length
  let y : Nat → Int := fun j => x.getD j 0 + s j
  have hs : Spn p rows.length W (entR rows) s := Spn.sum (B := F) fun i hi => heq.1 i (Nat.lt_of_lt_of_le hi hrf.len)
  have hyp : ∀ k,k < pv.length → y (pv.getD k 0) = 0 := fun k hk => by
    show x.getD (pv.getD k 0) 0 + s (pv.getD k 0) = 0
    have : s (pv.getD k 0) = -(x.getD (pv.getD k 0) 0) := by
      show dotN _ _ _ = _
      rw [dotN_comm,← dotN_one (g := fun k => -(x.getD (pv.getD k 0) 0)) hk]
      exact dotN_congr fun i hi => ⟨hrf.one i k (Nat.lt_of_lt_of_le hi hrf.len) hk,rfl⟩
    omega
  have hne : ∃ j,j < W ∧ y j % p ≠ 0 := Classical.byContradiction fun hn => hx <| by
    refine (hs.smul (-1)).congr fun j hj => ?_
    have hy0 : y j % p = 0 := Classical.byContradiction fun h => hn ⟨j,hj,h⟩
    have : x.getD j 0 = -1 * s j + y j := by show _ = _ + (_ + _); omega
    rw [this,Int.add_emod,hy0,Int.add_zero,Int.emod_emod_of_dvd _ (Int.dvd_refl p)]
  obtain ⟨c,hc,hyc,hcl⟩ := least hne
  have hcl : ∀ j,j < c → y j % p = 0 := fun j hj => Classical.byContradiction (hcl j hj)
  have hcn : c ∉ pv := fun hm => by
    obtain ⟨k,hk,rfl⟩ := hrf.mem.1 hm
    exact hyc (by rw [hyp k hk]; simp)
  have hxs : Spn p (rows ++ [x]).length W (entR (rows ++ [x])) (fun j => x.getD j 0) := InR.mem (List.mem_append.2 (.inr (List.mem_singleton.2 rfl)))
  have hup : ∀ z,Spn p rows.length W (entR rows) z → Spn p (rows ++ [x]).length W (entR (rows ++ [x])) z := fun z hz => InR.spn (fun r hr => InR.mem (List.mem_append.2 (.inl hr))) hz
  have hmain : ∀ d,d < W → (Ld p W (Spn p (rows ++ [x]).length W (entR (rows ++ [x]))) d ↔ d ∈ pv ∨ d = c) := fun d hd => by
    constructor
    · rintro ⟨_,z,hz,z1,z2⟩
      refine Classical.byContradiction fun hn => ?_
      have hdn : d ∉ pv := fun h => hn (.inl h)
      have hdc : d ≠ c := fun h => hn (.inr h)
      obtain ⟨a,v0,hv0,hzv⟩ := Spn.app hz
      -- z = v + a y
      let v : Nat → Int := fun j => v0 j + (-a) * s j
      have hv : Spn p rows.length W F v := heq.spn.1 (hv0.add (hs.smul (-a)))
      have hzy : ∀ j,j < W → z j % p = (v j + a * y j) % p := fun j hj => by
        rw [hzv j hj]
        congr 1
        show _ = v0 j + -a * s j + a * (x.getD j 0 + s j)
        rw [Int.mul_add,Int.neg_mul]; omega
      have hv0' : ∀ k,k < pv.length → pv.getD k 0 < d → v (pv.getD k 0) % p = 0 := fun k hk hkd => by
        have := hzy _ (hrf.lt k hk)
        rw [hyp k hk,Int.mul_zero,Int.add_zero,z1 _ hkd] at this
        exact this.symm
      have hvl := hrf.low0 hv hd hdn hv0'
      have hza : ∀ j,j ≤ d → z j % p = a * y j % p := fun j hj => by
        rw [hzy j (by omega),Int.add_emod,hvl j hj,Int.zero_add,Int.emod_emod_of_dvd _ (Int.dvd_refl p)]
      have hyd : y d % p ≠ 0 := fun h => z2 (by rw [hza d (Nat.le_refl _),Int.mul_emod,h]; simp)
      have ha : a % p ≠ 0 := fun h => z2 (by rw [hza d (Nat.le_refl _),Int.mul_emod,h]; simp)
      have hcd : c < d := by
        rcases Nat.lt_trichotomy c d with h | h | h
        · exact h
        · exact absurd h.symm hdc
        · exact absurd (hcl d h) hyd
      have := z1 c hcd
      rw [hza c (by omega)] at this
      exact mul_ne hp ha hyc this
    · rintro (hm | rfl)
      · obtain ⟨h1,z,hz,h2⟩ := (Ld_rf hp2 hrf).2 hm
        exact ⟨h1,z,hup z (heq.spn.2 hz),h2⟩
      · exact ⟨hd,y,hxs.add (hup s hs),hcl,hyc⟩
  unfold rk rkV
  rw [cnt_congr hmain,cnt_one hc hcn,cnt_list hrf.nodup.1 hrf.nodup.2,hrk]
  rfl

theorem rk_old {p : Int} {W : Nat} {rows : List Sim} {x : Sim} (hx : InR p W rows x) : rk p W (rows ++ [x]) = rk p W rows :=
  rk_same (fun r hr => by
    rcases List.mem_append.1 hr with hr | hr
    · exact InR.mem hr
    · rw [List.mem_singleton] at hr; subst hr; exact hx) fun r hr => InR.mem (List.mem_append.2 (.inl hr))

end VeT
