import Derived.Test.YtfmenipcipaobaaV1
set_option linter.unusedVariables false
set_option linter.unusedSimpArgs false
set_option linter.unusedVariables false
namespace Ve
open Go

/-- from some number on -/
def Evt (p : Nat → Prop) : Prop := ∃ n0, ∀ n, n0 ≤ n → p n

theorem Evt.of {p : Nat → Prop} (h : ∀ n, p n) : Evt p := ⟨0, fun n _ => h n⟩
theorem Evt.mono {p q : Nat → Prop} (h : Evt p) (hpq : ∀ n, p n → q n) : Evt q := let ⟨n0, h⟩ := h; ⟨n0, fun n hn => hpq n (h n hn)⟩
theorem Evt.and {p q : Nat → Prop} (h : Evt p) (k : Evt q) : Evt fun n => p n ∧ q n :=
  let ⟨a, h⟩ := h; let ⟨b, k⟩ := k; ⟨max a b, fun n hn => ⟨h n (Nat.le_trans (Nat.le_max_left a b) hn), k n (Nat.le_trans (Nat.le_max_right a b) hn)⟩⟩
theorem Evt.succ {p : Nat → Prop} (h : Evt fun n => p (n + 1)) : Evt p := let ⟨a, h⟩ := h; ⟨a + 1, fun n hn => by
  obtain ⟨m, rfl⟩ : ∃ m, n = m + 1 := ⟨n - 1, by omega⟩
  exact h m (by omega)⟩
theorem Evt.ge (k : Nat) : Evt fun n => k ≤ n := ⟨k, fun _ h => h⟩
theorem Evt.bind {p q : Nat → Prop} (h : Evt p) (k : Evt fun n => p n → q n) : Evt q := (h.and k).mono fun _ h => h.2 h.1
theorem Evt.lt {p : Nat → Nat → Prop} {k : Nat} (h : ∀ i, i < k → Evt (p i)) : Evt fun n => ∀ i, i < k → p i n := by
  induction k with
  | zero => exact ⟨0, fun _ _ i hi => by omega⟩
  | succ k ih =>
    refine ((ih fun i hi => h i (by omega)).and (h k (by omega))).mono fun n hh i hi => ?_
    rcases Nat.lt_or_ge i k with h3 | h3
    · exact hh.1 i h3
    · obtain rfl : i = k := by omega
      exact hh.2
theorem Evt.some {p : Nat → Prop} (h : Evt p) : ∃ n, p n := let ⟨a, h⟩ := h; ⟨a, h a (Nat.le_refl _)⟩

/-- a call that comes to an end -/
def Ret (E : Env) (f : Nat) (args : List Dv) (d : Dv) : Prop := Evt fun n => run E n f args = .some d

theorem callT_of {E : Env} {n f : Nat} {out : Ty} {args : List Dv} {x : out.T} (h : run E n f args = some ⟨out, x⟩) : callT (mkR (run E n)) f out args = some x := by
  simp [callT, mkR, h, Dv.to, cast?]

theorem mk_ok {E : Env} {n : Nat} : (mkR (run E n)).ok := mkR_ok _

/-- a loop that counts up -/
theorem loop_evt {α : Type} {L : Nat → Nat → Int → α → Option Dv} {len : Nat} {r : Option Dv} (Inv : Nat → α → Prop)
    (step : ∀ k acc, k < len → Inv k acc → (Evt fun m => ∀ n, L m (n + 1) (k : Int) acc = r) ∨ ∃ acc', Inv (k + 1) acc' ∧ Evt fun m => ∀ n, L m (n + 1) (k : Int) acc = L m n ((k + 1 : Nat) : Int) acc')
    (fin : ∀ acc, Inv len acc → Evt fun m => ∀ n, L m (n + 1) (len : Int) acc = r) :
    ∀ d k acc, k + d = len → Inv k acc → Evt fun m => ∀ n, d < n → L m n (k : Int) acc = r := by
  intro d
  induction d with
  | zero =>
    intro k acc hk hi
    obtain rfl : k = len := by omega
    refine (fin acc hi).mono fun m h n hn => ?_
    obtain ⟨n, rfl⟩ : ∃ j, n = j + 1 := ⟨n - 1, by omega⟩
    exact h n
  | succ d ih =>
    intro k acc hk hi
    rcases step k acc (by omega) hi with h | ⟨acc', hi', h⟩
    · refine h.mono fun m h n hn => ?_
      obtain ⟨n, rfl⟩ : ∃ j, n = j + 1 := ⟨n - 1, by omega⟩
      exact h n
    · refine (h.and (ih (k + 1) acc' (by omega) hi')).mono fun m ⟨h1, h2⟩ n hn => ?_
      obtain ⟨n, rfl⟩ : ∃ j, n = j + 1 := ⟨n - 1, by omega⟩
      rw [h1 n]
      exact h2 n (by omega)

theorem loop0 {α : Type} {L : Nat → Nat → Int → α → Option Dv} {len : Nat} {r : Option Dv} (Inv : Nat → α → Prop)
    (step : ∀ k acc, k < len → Inv k acc → (Evt fun m => ∀ n, L m (n + 1) (k : Int) acc = r) ∨ ∃ acc', Inv (k + 1) acc' ∧ Evt fun m => ∀ n, L m (n + 1) (k : Int) acc = L m n ((k + 1 : Nat) : Int) acc')
    (fin : ∀ acc, Inv len acc → Evt fun m => ∀ n, L m (n + 1) (len : Int) acc = r) (acc : α) (h0 : Inv 0 acc) : Evt fun m => L m m (0 : Int) acc = r := by
  have h := loop_evt Inv step fin len 0 acc (by omega) h0
  exact (h.and (Evt.ge (len + 1))).mono fun m ⟨h1, h2⟩ => h1 m (by omega)

/-- a loop that counts up, to an end of which something is known -/
theorem loop_ex {α : Type} {L : Nat → Nat → Int → α → Option Dv} {len : Nat} (Inv : Nat → α → Prop) (Good : Option Dv → Prop)
    (step : ∀ k acc, k < len → Inv k acc → (∃ r, Good r ∧ Evt fun m => ∀ n, L m (n + 1) (k : Int) acc = r) ∨ ∃ acc', Inv (k + 1) acc' ∧ Evt fun m => ∀ n, L m (n + 1) (k : Int) acc = L m n ((k + 1 : Nat) : Int) acc')
    (fin : ∀ acc, Inv len acc → ∃ r, Good r ∧ Evt fun m => ∀ n, L m (n + 1) (len : Int) acc = r) (acc : α) (h0 : Inv 0 acc) : ∃ r, Good r ∧ Evt fun m => L m m (0 : Int) acc = r := by
  have key : ∀ d k acc, k + d = len → Inv k acc → ∃ r, Good r ∧ Evt fun m => ∀ n, d < n → L m n (k : Int) acc = r := by
    intro d
    induction d with
    | zero =>
      intro k acc hk hi
      obtain rfl : k = len := by omega
      obtain ⟨r, hr, h⟩ := fin acc hi
      refine ⟨r, hr, h.mono fun m h n hn => ?_⟩
      obtain ⟨n, rfl⟩ : ∃ j, n = j + 1 := ⟨n - 1, by omega⟩
      exact h n
    | succ d ih =>
      intro k acc hk hi
      rcases step k acc (by omega) hi with ⟨r, hr, h⟩ | ⟨acc', hi', h⟩
      · refine ⟨r, hr, h.mono fun m h n hn => ?_⟩
        obtain ⟨n, rfl⟩ : ∃ j, n = j + 1 := ⟨n - 1, by omega⟩
        exact h n
      · obtain ⟨r, hr, h2⟩ := ih (k + 1) acc' (by omega) hi'
        refine ⟨r, hr, (h.and h2).mono fun m ⟨h1, h2⟩ n hn => ?_⟩
        obtain ⟨n, rfl⟩ : ∃ j, n = j + 1 := ⟨n - 1, by omega⟩
        rw [h1 n]
        exact h2 n (by omega)
  obtain ⟨r, hr, h⟩ := key len 0 acc (by omega) h0
  exact ⟨r, hr, (h.and (Evt.ge (len + 1))).mono fun m ⟨h1, h2⟩ => h1 m (by omega)⟩

/-! ### Small facts -/
theorem idx_nat {α : Type} {xs : List α} {k : Nat} : idx? xs (k : Int) = xs[k]? := by
  unfold idx?
  have : decide (0 ≤ (k : Int)) = true := by simp
  rw [this, cond_true, Int.toNat_natCast]

theorem idx_lt {α : Type} {xs : List α} {k : Nat} (h : k < xs.length) : idx? xs (k : Int) = some xs[k] := by
  rw [idx_nat, List.getElem?_eq_getElem h]

abbrev w64 (n : Int) : Int := IntKind.wrap .i64 n

theorem w64_small {n : Int} (h1 : -9223372036854775808 ≤ n) (h2 : n ≤ 9223372036854775807) : w64 n = n := by
  simp only [w64]
  simp only [IntKind.wrap, IntKind.bits, IntKind.signed]
  simp
  omega

theorem w64_succ {k : Nat} (h : (k : Int) < 9223372036854775807) : w64 ((k : Int) + 1) = ((k + 1 : Nat) : Int) := by
  rw [w64_small (by omega) (by omega)]; omega

theorem chk_true {ρ : Type} {b : Bool} {K : Unit → Option ρ} (h : b = true) : (chk b).bind K = K () := by subst h; rfl

theorem wf_i64 {n : Int} (h : (Lit.int .i64 n).wf = true) : -9223372036854775808 ≤ n ∧ n ≤ 9223372036854775807 := by
  have e1 : IntKind.i64.min = -9223372036854775808 := by decide
  have e2 : IntKind.i64.max = 9223372036854775807 := by decide
  simp only [Lit.wf, Bool.and_eq_true, decide_eq_true_eq, e1, e2] at h
  exact h

theorem maxLen_eq : maxLen = 9223372036854775807 := by decide

/-- no list of more than a million elements -/
def Sm : (t : Ty) → t.T → Prop
  | .sl t, xs => xs.length ≤ 1048576 ∧ ∀ x ∈ xs, Sm t x
  | .st c, x => Sm c x
  | .cons a b, x => Sm a x.1 ∧ Sm b x.2
  | _, _ => True

theorem take_set {α : Type} {a o : List α} {k : Nat} (hk : k < a.length) (ho : o.take k = a.take k) (hl : o.length = a.length) : (o.set k a[k]).take (k + 1) = a.take (k + 1) := by
  apply List.ext_getElem?
  intro j
  simp only [List.getElem?_take]
  split
  · rename_i hj
    by_cases hjk : j = k
    · subst hjk
      rw [List.getElem?_set_self (by omega), List.getElem?_eq_getElem hk]
    · rw [List.getElem?_set_ne (Ne.symm hjk)]
      have := congrArg (·[j]?) ho
      simp only [List.getElem?_take, show j < k by omega, if_true] at this
      exact this
  · rfl

/-- a loop that fills a new list with a list's elements -/
theorem fill_loop {α : Type} {L : Nat → Nat → Int → List α → Option Dv} {a z : List α} {r : Option Dv} (hl : z.length = a.length)
    (step : ∀ k o (h : k < a.length), o.length = a.length → Evt fun m => ∀ n, L m (n + 1) (k : Int) o = L m n ((k + 1 : Nat) : Int) (o.set k a[k]))
    (fin : Evt fun m => ∀ n, L m (n + 1) (a.length : Int) a = r) : Evt fun m => L m m (0 : Int) z = r := by
  refine loop0 (len := a.length) (fun k o => o.length = a.length ∧ o.take k = a.take k) ?_ ?_ z ⟨hl, by simp⟩
  · rintro k o hk ⟨h1, h2⟩
    exact .inr ⟨_, ⟨by simpa using h1, take_set hk h2 h1⟩, step k o hk h1⟩
  · rintro o ⟨h1, h2⟩
    rw [List.take_of_length_le (by omega), List.take_length] at h2
    subst h2
    exact fin

/-- a loop that holds two lists against each other, from the first element that differs on false -/
theorem same_loop {α : Type} {L : Nat → Nat → Int → Unit → Option Dv} {a b : List α} (eq : α → α → Prop) {rt rf : Option Dv} (hl : b.length = a.length)
    (ne : ∀ k (h : k < a.length) (h' : k < b.length), ¬ eq a[k] b[k] → Evt fun m => ∀ n, L m (n + 1) (k : Int) () = rf)
    (step : ∀ k (h : k < a.length) (h' : k < b.length), eq a[k] b[k] → Evt fun m => ∀ n, L m (n + 1) (k : Int) () = L m n ((k + 1 : Nat) : Int) ())
    (fin : Evt fun m => ∀ n, L m (n + 1) (a.length : Int) () = rt) :
    ((∀ k (h : k < a.length) (h' : k < b.length), eq a[k] b[k]) → Evt fun m => L m m (0 : Int) () = rt) ∧ ((¬ ∀ k (h : k < a.length) (h' : k < b.length), eq a[k] b[k]) → Evt fun m => L m m (0 : Int) () = rf) := by
  constructor
  · intro h
    exact loop0 (len := a.length) (fun _ _ => True) (fun k _ hk _ => .inr ⟨(), trivial, step k hk (by omega) (h k hk (by omega))⟩) (fun _ _ => fin) () trivial
  · intro h
    refine loop0 (len := a.length) (fun k _ => ∀ j (h : j < a.length) (h' : j < b.length), j < k → eq a[j] b[j]) (fun k _ hk hi => ?_) (fun _ hi => absurd (fun k h1 h2 => hi k h1 h2 h1) h) () (fun j _ _ hj => by omega)
    by_cases he : eq a[k] b[k]
    · refine .inr ⟨(), fun j h1 h2 hj => ?_, step k hk (by omega) he⟩
      rcases Nat.lt_or_ge j k with h3 | h3
      · exact hi j h1 h2 h3
      · obtain rfl : j = k := by omega
        exact he
    · exact .inl (ne k hk (by omega) he)
/-- a loop that counts the elements' sizes off -/
theorem sz_loop {α : Type} {xs : List α} {L : Nat → Nat → Int → Int → Option Dv} {ret : Int → Option Dv} (SmE : α → Prop)
    (step : ∀ k left (hk : k < xs.length), 0 ≤ left → left ≤ 1048576 → ∃ r : Int, (0 ≤ r → r ≤ left ∧ SmE xs[k]) ∧ Evt fun m => ∀ n, L m (n + 1) (k : Int) left = bif decide (r < 0) then ret (-1) else L m n ((k + 1 : Nat) : Int) r)
    (fin : ∀ left, Evt fun m => ∀ n, L m (n + 1) (xs.length : Int) left = ret left) (left0 : Int) (h0 : 0 ≤ left0) (h1 : left0 ≤ 1048576) :
    ∃ r, (Evt fun m => L m m (0 : Int) left0 = ret r) ∧ (0 ≤ r → r ≤ left0 ∧ ∀ x ∈ xs, SmE x) := by
  obtain ⟨r', ⟨r, rfl, hr⟩, h⟩ := loop_ex (L := L) (len := xs.length) (fun k left => 0 ≤ left ∧ left ≤ left0 ∧ ∀ j (h : j < xs.length), j < k → SmE xs[j]) (fun o => ∃ r, o = ret r ∧ (0 ≤ r → r ≤ left0 ∧ ∀ x ∈ xs, SmE x)) (fun k left hk hi => by
    obtain ⟨i1, i2, i3⟩ := hi
    obtain ⟨r, hr, hs⟩ := step k left hk i1 (by omega)
    by_cases hneg : r < 0
    · exact .inl ⟨_, ⟨-1, rfl, fun h => by omega⟩, hs.mono fun m h n => by rw [h n, decide_eq_true hneg, cond_true]⟩
    · have := hr (by omega)
      refine .inr ⟨r, ⟨by omega, by omega, fun j hj hjk => ?_⟩, hs.mono fun m h n => by rw [h n, decide_eq_false hneg, cond_false]⟩
      rcases Nat.lt_or_ge j k with h3 | h3
      · exact i3 j hj h3
      · obtain rfl : j = k := by omega
        exact this.2) (fun left hi => ⟨_, ⟨left, rfl, fun _ => ⟨hi.2.1, fun x hx => by
          obtain ⟨j, hj, rfl⟩ := List.mem_iff_getElem.1 hx
          exact hi.2.2 j hj hj⟩⟩, fin left⟩) left0 ⟨h0, Int.le_refl _, fun j _ hj => by omega⟩
  exact ⟨r, h, hr⟩

end Ve
