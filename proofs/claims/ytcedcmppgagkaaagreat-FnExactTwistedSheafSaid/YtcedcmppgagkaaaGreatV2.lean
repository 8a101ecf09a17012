import Derived.Test.YtcedcmppgagkaaaGreatV1
import Derived.ChangeArms
import Derived.ChangeSlices
import Derived.ChangeOld
import Derived.OpenShut
import Derived.Below
import Derived.Carry
import Derived.Lib.AppendZerosOnto
import Derived.Sort.Grow
import Derived.Lib.SlicesCompact
import Derived.Shelf.SlSortCmp.NoneTotal
set_option linter.unusedVariables false
set_option linter.unusedSimpArgs false
set_option linter.unusedVariables false
namespace Ve
open Go

section
variable {S S' : Blocks} {w w' : World} {g g' : Nat → Value} {C : Ctx} {F F' : Nat → Blocks} {st : St} {tm : Array Value} {P : Program} {ρ : Type}

theorem Sim.relabel (hs : Sim C S g F st tm w) {s : Nat} {o o' : Obj} (ho : getOb st.ob s = some o) (hf : o.frozen = false) (hf' : o'.frozen = false) (hx : o'.fixed = o.fixed) (hob : ObR S w g F s o') :
    Sim C S g F (st.setOb s (some o')) tm w := by
  have := hs.set s o o' (F s) (w' := w) ho (Nat.le_refl _) (fun _ _ => rfl) (fun _ _ _ _ _ _ => rfl) (fun _ _ _ => rfl) hf' (fun h => hs.fx s o ho (hx ▸ h)) (by rw [upd_self]; exact hob)
    (fun b hb => ⟨(hs.prv s o ho hf b hb).1,(hs.prv s o ho hf b hb).2,hs.szF s o ho b hb⟩) (fun s' p hne hp hpf b hb hb' => hs.dis s s' o p (Ne.symm hne) ho hp hf hpf b hb hb')
  rwa [upd_self] at this

theorem newNil (hs : Sim C S g F st tm w) (site : Nat) (t : Ty) (dp : Bool) (A : Option Addr) :
    Sim C S (upd g site (.slice A 0 0)) (upd F site fun _ => False) (st.newOb site (.arr t [] dp false false)) tm w := by
  refine hs.newG (w' := w) site _ _ _ (Nat.le_refl _) (fun _ _ _ => rfl) rfl rfl ?_ (fun _ h => h.elim)
  unfold ObR; simp only [upd_same]
  exact ⟨A,0,rfl,⟨Nat.le_refl _,Nat.zero_le _⟩,.inl rfl⟩

theorem convs_sound : ∀ {l : List (Nat × Nat × Ty × Bool)} {g : Nat → Value} {F : Nat → Blocks} {st st' : St},Sim C S g F st tm w → convs l st = some st' → ∃ g' F',Sim C S g' F' st' tm w
  | [],g,F,st,st',hs,h => by obtain rfl := Option.some.inj h; exact ⟨g,F,hs⟩
  | (slot,site,t,dp) :: l,g,F,st,st',hs,h => by
      unfold convs at h
      split at h
      · split at h
        · exact convs_sound hs h
        · cases h
      · rename_i u hv
        split at h
        · obtain ⟨A,hA⟩ := hs.fr slot _ hv
          have h1 := newNil hs site t dp A
          refine convs_sound (h1.setFr slot (.c (.arr site)) fun v' hv' => ?_) h
          exact ⟨by rw [upd_same]; exact hA,A,0,0,hA⟩
        · cases h
      · cases h

theorem bconvs_sound : ∀ {l : List (Nat × Nat × Nat × Ty × Bool)} {g : Nat → Value} {F : Nat → Blocks} {st st' : St},Sim C S g F st tm w → bconvs l st = some st' → ∃ g' F',Sim C S g' F' st' tm w
  | [],g,F,st,st',hs,h => by obtain rfl := Option.some.inj h; exact ⟨g,F,hs⟩
  | (bs,cell,site,t,dp) :: l,g,F,st,st',hs,h => by
      unfold bconvs at h
      split at h
      · rename_i cs fx ho
        split at h
        · split at h
          · exact bconvs_sound hs h
          · cases h
        · rename_i u hv
          split at h
          · rename_i hc
            obtain ⟨hu,hne⟩ := hc
            simp only at h
            split at h
            · rename_i cs1 fx1 ho1
              obtain ⟨b,arr,e,hg,hF,hh,hcs⟩ := hs.ob bs _ ho
              obtain ⟨v,hav,A,rfl⟩ := hcs.get hv
              have h1 := newNil hs site t dp A
              obtain ⟨b1,arr1,e1,hg1,hF1,hh1,hcs1⟩ := h1.ob bs _ ho1
              have hbb : b1 = b := by
                rw [upd_ne _ _ (Ne.symm hne)] at hg1
                rw [hg] at hg1
                simpa using hg1.symm
              subst hbb
              rw [hh] at hh1
              obtain ⟨rfl,rfl⟩ : arr = arr1 ∧ e = e1 := by simpa using hh1
              refine bconvs_sound (h1.relabel ho1 rfl (o' := .box (cs1.set cell (.arr site)) false fx1) rfl rfl ⟨b1,arr,e,hg1,hF1,hh,?_⟩) h
              have key : ∀ {cs : List V0} {us : List Value} {i : Nat} {c : V0} {u : Value},Cs S w (upd g site (.slice A 0 0)) cs us → us[i]? = some u → V0R S w (upd g site (.slice A 0 0)) c u → Cs S w (upd g site (.slice A 0 0)) (cs.set i c) us := by
                intro cs
                induction cs with
                | nil => intro us i c u h _ _; exact h
                | cons c0 cs ih =>
                  rintro us i c u ⟨u0,us',rfl,h1,h2⟩ hu hc
                  cases i with
                  | zero => simp at hu; subst hu; exact ⟨u0,us',rfl,hc,h2⟩
                  | succ i => exact ⟨u0,us',rfl,h1,ih h2 (by simpa using hu) hc⟩
              exact key hcs1 hav ⟨by rw [upd_same],A,0,0,rfl⟩
            · cases h
          · cases h
        · cases h
      · cases h

theorem Cs.set : ∀ {cs : List V0} {us : List Value} {i : Nat} {c : V0} {u : Value},Cs S w g cs us → us[i]? = some u → V0R S w g c u → Cs S w g (cs.set i c) us
  | [],us,i,c,u,h,_,_ => h
  | c0 :: cs,us,i,c,u,⟨u0,us',he,h1,h2⟩,hu,hc => by
      subst he
      cases i with
      | zero => simp at hu; subst hu; exact ⟨u0,us',rfl,hc,h2⟩
      | succ i => exact ⟨u0,us',rfl,h1,Cs.set h2 (by simpa using hu) hc⟩

theorem freezeN_other : ∀ (n : Nat) (ob : List (Option Obj)) (v : V0) (s : Nat),s ∉ leadsN n ob v → getOb (freezeN n ob v) s = getOb ob s
  | 0,ob,v,s,_ => rfl
  | n + 1,ob,v,s,h => by
    have mod : ∀ s',s ≠ s' → getOb (ob.modify s' (·.map Obj.freeze)) s = getOb ob s := fun s' hne => by rw [getOb_modify,if_neg hne]
    cases v with
    | arr s' => exact mod s' (by simpa [leadsN] using h)
    | sub s' _ _ _ => exact mod s' (by simpa [leadsN] using h)
    | elt s' _ _ _ => exact mod s' (by simpa [leadsN] using h)
    | box s' off =>
      simp only [leadsN] at h
      simp only [freezeN]
      cases ho : getOb ob s' with
      | none => rfl
      | some o =>
        rw [ho] at h
        cases o with
        | arr t xs d fz fx => rfl
        | hol => rfl
        | hlp => rfl
        | box cs fz fx =>
          simp only [List.mem_cons,List.mem_flatMap,not_or] at h
          have fold : ∀ (l : List V0) (ob1 : List (Option Obj)),Frz ob ob1 → (∀ c ∈ l,s ∉ leadsN n ob c) → getOb (l.foldl (freezeN n) ob1) s = getOb ob1 s := by
            intro l
            induction l with
            | nil => intro ob1 _ _; rfl
            | cons c l ih =>
              intro ob1 h1 h2
              rw [List.foldl_cons,ih _ (h1.trans (Frz.freezeN n ob1 c)) fun c' hc' => h2 c' (by simp [hc'])]
              exact freezeN_other n ob1 c s (by rw [leadsN_frz h1]; exact h2 c (by simp))
          simp only
          rw [fold cs _ (Frz.modify ob s') fun c hc hs => h.2 ⟨c,hc,hs⟩]
          exact mod s' h.1
    | _ => rfl

theorem tods_sound : ∀ {l : List (Nat × Nat)} {S : Blocks} {st st' : St},Sim C S g F st tm w → tods l st = some st' → ∃ S',Sim C S' g F st' tm w
  | [],S,st,st',hs,h => by obtain rfl := Option.some.inj h; exact ⟨S,hs⟩
  | (b,j) :: l,S,st,st',hs,h => by
      unfold tods at h
      split at h
      · split at h
        · exact tods_sound hs h
        · rename_i c _ hc
          obtain ⟨d,hd,h⟩ := Option.bind_eq_some_iff.1 h
          obtain ⟨S',h1,h2,h3⟩ := hs.freezes [c]
          have h1' : Sim C S' g F { st with ob := freeze st.ob c } tm w := h1
          have hr := frz_sound hs hd (hs.fr _ _ hc) h2.mS (h3 c (by simp))
          exact tods_sound (h1'.setFr (b - 1000000) (.c (cellOf d)) fun _ _ => V0R_mkCell hr) h
        · cases h
      split at h
      · rename_i cs fx ho
        split at h
        · exact tods_sound hs h
        · rename_i c _ hc
          obtain ⟨d,hd,h⟩ := Option.bind_eq_some_iff.1 h
          split at h
          · cases h
          · rename_i hnl
            have hnl' : b ∉ leads st.ob c := by simpa using hnl
            obtain ⟨bb,arr,e,hg,hF,hh,hcs⟩ := hs.ob b _ ho
            obtain ⟨u,hau,hv⟩ := hcs.get hc
            obtain ⟨S',h1,h2,h3⟩ := hs.freezes [c]
            have h1' : Sim C S' g F { st with ob := freeze st.ob c } tm w := h1
            have hr := frz_sound hs hd hv h2.mS (h3 c (by simp))
            have ho' : getOb (freeze st.ob c) b = some (.box cs false fx) := by
              unfold freeze
              rw [freezeN_other 3 st.ob c b hnl']; exact ho
            obtain ⟨bb',arr',e',hg',hF',hh',hcs'⟩ := h1'.ob b _ ho'
            obtain rfl : bb = bb' := by rw [hg] at hg'; simpa using hg'
            rw [hh] at hh'
            obtain ⟨rfl,rfl⟩ : arr = arr' ∧ e = e' := by simpa using hh'
            exact tods_sound (h1'.relabel ho' rfl (o' := .box (cs.set j (cellOf d)) false fx) rfl rfl ⟨bb,arr,e,hg,hF',hh,hcs'.set hau (V0R_mkCell hr)⟩) h
        · cases h
      · cases h

theorem zipMask_get {live : List Nat} : ∀ {fr : List V} {i0 i : Nat} {v : V},(zipMask live i0 fr)[i]? = some v → v = .dead ∨ fr[i]? = some v
  | [],i0,i,v,h => by simp [zipMask] at h
  | v0 :: fr,i0,0,v,h => by
      simp only [zipMask,List.getElem?_cons_zero,Option.some.injEq] at h
      cases hl : live.contains i0 with
      | true => rw [hl] at h; exact .inr (by simpa using h)
      | false => rw [hl] at h; exact .inl h.symm
  | v0 :: fr,i0,i + 1,v,h => by
      simp only [zipMask,List.getElem?_cons_succ] at h ⊢
      exact zipMask_get h

theorem zipMask_len {live : List Nat} : ∀ {fr : List V} {i0 : Nat},(zipMask live i0 fr).length = fr.length
  | [],_ => rfl
  | _ :: fr,i0 => by simp [zipMask,zipMask_len]

theorem Sim.mask (hs : Sim C S g F st tm w) (live : List Nat) : Sim C S g F { st with fr := zipMask live 0 st.fr } tm w :=
  { hs with
    size := by rw [zipMask_len]; exact hs.size
    fr := fun i v hv => by
      rcases zipMask_get hv with rfl | h
      · trivial
      · exact hs.fr i v h }

theorem Sim.congr (hs : Sim C S g F st tm w) {ob' : List (Option Obj)} (h : ∀ s,getOb ob' s = getOb st.ob s) : Sim C S g F { st with ob := ob' } tm w :=
  hs.fewer rfl fun s o ho => by rw [← h s]; exact ho

theorem undeeps_sound : ∀ (l : List Nat) {S : Blocks} {F : Nat → Blocks} {st : St},Sim C S g F st tm w → ∃ S' F',Sim C S' g F' { st with ob := l.foldl (fun ob s => ob.modify s (·.map Obj.undeep)) st.ob } tm w
  | [],S,F,st,hs => ⟨S,F,hs⟩
  | s :: l,S,F,st,hs => by
      have key : ∃ S' F',Sim C S' g F' { st with ob := st.ob.modify s (·.map Obj.undeep) } tm w := by
        cases ho : getOb st.ob s with
        | none => exact ⟨S,F,hs.congr fun s' => by rw [getOb_modify]; split <;> rename_i h <;> first | (subst h; rw [ho]; rfl) | rfl⟩
        | some o =>
          have same : o.undeep = o → ∃ S' F',Sim C S' g F' { st with ob := st.ob.modify s (·.map Obj.undeep) } tm w := fun e =>
            ⟨S,F,hs.congr fun s' => by rw [getOb_modify]; split <;> rename_i h <;> first | (subst h; rw [ho,Option.map_some,e]) | rfl⟩
          cases o with
          | box cs fz fx => exact same rfl
          | hol => exact same rfl
          | hlp => exact same rfl
          | arr t xs d fz fx =>
            cases fz with
            | true => exact same rfl
            | false =>
              obtain ⟨S',Fs,h1,_⟩ := hs.weakenTo ho t.flat
              refine ⟨S',_,(h1.congr fun s' => ?_ : Sim C S' g _ { (st.setOb s (some (.arr t xs (d && t.flat) false fx))) with ob := st.ob.modify s (·.map Obj.undeep) } tm w)⟩
              rw [getOb_modify]
              by_cases hss : s' = s
              · subst hss
                rw [if_pos rfl,ho]
                have hlt := (List.getElem?_eq_some_iff.1 (getOb_get ho)).1
                unfold St.setOb getOb
                rw [List.getD_eq_getElem?_getD,List.getElem?_set_self hlt]
                rfl
              · rw [if_neg hss,St.setOb,getOb_set_ne _ _ hss]
      obtain ⟨S1,F1,h1⟩ := key
      exact undeeps_sound l h1

theorem dropDead_sound {obl : List Nat} : ∀ (os : List (Option Obj)) (i : Nat) {st : St},Sim C S g F st tm w → Sim C S g F (dropDead obl i os st) tm w
  | [],i,st,hs => hs
  | o :: os,i,st,hs => by
      unfold dropDead
      refine dropDead_sound os (i + 1) ?_
      cases o with
      | none => exact hs
      | some o =>
        show Sim C S g F (bif obl.contains i then st else st.dropOb i) tm w
        cases obl.contains i
        · exact (hs.drop i).1
        · exact hs

theorem mask_sound {m : Mask} {st' : St} (hs : Sim C S g F st tm w) (h : m.app st = some st') : ∃ S' g' F',Sim C S' g' F' st' tm w := by
  unfold Mask.app at h
  obtain ⟨st1,h1,h⟩ := Option.bind_eq_some_iff.1 h
  obtain ⟨st2,h2,h⟩ := Option.bind_eq_some_iff.1 h
  obtain ⟨st3,h3,h⟩ := Option.map_eq_some_iff.1 h
  obtain ⟨g1,F1,hs1⟩ := convs_sound hs h1
  obtain ⟨g2,F2,hs2⟩ := bconvs_sound hs1 h2
  obtain ⟨S3,hs3⟩ := tods_sound hs2 h3
  have hs4 := hs3.mask m.live
  have hfz : ∀ (l : List Nat) (ob : List (Option Obj)),Frz ob (l.foldl (fun ob s => freeze (freeze ob (.box s 0)) (.arr s)) ob) := by
    intro l
    induction l with
    | nil => exact fun ob => Frz.refl ob
    | cons s l ih => exact fun ob => ((Frz.freezeN 3 ob _).trans (Frz.freezeN 3 _ _)).trans (ih _)
  have hs5 := hs4.frozen (hfz m.frzs st3.ob)
  obtain ⟨S6,F6,hs6⟩ := undeeps_sound m.undp hs5
  simp only at h
  rw [← h]
  exact ⟨S6,g2,F6,dropDead_sound _ 0 hs6⟩

theorem maskAt_sound {R : Run} (hRw : ∀ o f,R.w o f = o.bind f) {l : List (Nat × Mask)} {k : Nat} {f : St → Option Dv} {r : Dv} (hs : Sim C S g F st tm w) (h : maskAt R l k st f = some r) :
    ∃ st' S' g' F',Sim C S' g' F' st' tm w ∧ f st' = some r := by
  unfold maskAt at h
  split at h
  · rename_i m _
    rw [hRw] at h
    obtain ⟨st',h1,h2⟩ := Option.bind_eq_some_iff.1 h
    obtain ⟨S',g',F',h3⟩ := mask_sound hs h1
    exact ⟨st',S',g',F',h3,h2⟩
  · exact ⟨st,S,g,F,hs,h⟩

theorem wp_loopN {c : Code} {Q : Exit → Act → World → Prop} {a : Act} {w : World} (I : Nat → Act → World → Prop) (n : Nat) (h₀ : I n a w)
    (round : ∀ n a w,I n a w → c.wp P (Exit.then (fun a' w' => ∃ m,m < n ∧ I m a' w') Q) a w) : (Code.loop c).wp P Q a w := by
  intro b k cs
  have key : ∀ n a w,I n a w → ∃ e a' w',Q e a' w' ∧ Arrives P (lone (b.at a (.code c :: .inLoop c :: k)) cs w) b k cs e a' w' := by
    intro n
    induction n using Nat.strongRecOn with
    | _ n ih =>
      intro a w hI
      obtain ⟨e,a₁,w₁,hq,harr⟩ := round n a w hI b (.inLoop c :: k) cs
      cases e with
      | normal =>
        obtain ⟨m,hlt,hI₁⟩ := hq
        obtain ⟨e₂,a₂,w₂,hq₂,harr₂⟩ := ih m hlt a₁ w₁ hI₁
        exact ⟨e₂,a₂,w₂,hq₂,.of_steps (Steps.trans harr (.one step_inLoop)) harr₂⟩
      | exit id => exact ⟨_,a₁,w₁,hq,.pass (x := .inLoop c) rfl (fun _ _ => .inl (by simp)) harr⟩
      | goto l => exact ⟨_,a₁,w₁,hq,.pass (x := .inLoop c) rfl (fun _ _ => .inl (by simp)) harr⟩
      | ret => exact ⟨_,a₁,w₁,hq,.pass (x := .inLoop c) rfl (fun _ _ => .inl (by simp)) harr⟩
      | panic ch => exact ⟨_,a₁,w₁,hq,.pass (x := .inLoop c) rfl (fun _ _ => .inl (by simp)) harr⟩
      | outgrown => exact ⟨_,a₁,w₁,hq,.pass (x := .inLoop c) rfl (fun _ _ => .inl (by simp)) harr⟩
  obtain ⟨e,a',w',hq,harr⟩ := key n a w h₀
  exact ⟨e,a',w',hq,.of_steps (.one step_loop) harr⟩

def Ex.toExit : Ex → Exit
  | .normal => .normal
  | .exit i => .exit i
  | .ret => .ret

theorem code_sound {E : Env} (hE : EnvOk E) {R : Run} (hR : RunOk E R) (hRw : ∀ o f,R.w o f = o.bind f) {pol : Pol} {N : Nat} {r : Dv} :
    ∀ (c : Code) {S : Blocks} {g : Nat → Value} {F : Nat → Blocks} {st : St} {a : Act} {w : World} {K : Kt} {Q : Exit → Act → World → Prop},Sim C S g F st a.tmps w → evCode E R pol N c st K = some r → (∀ c a w,¬ Q (.panic c) a w) →
      (∀ e st' S' g' F' a' w',Sim C S' g' F' st' a'.tmps w' → K e st' = some r → a'.defers = a.defers → Q e.toExit a' w') → c.wp E.P Q a w := by
  intro c
  induction c with
  | skip =>
    intro S g F st a w K Q hs h hQp hQ
    exact wp_skip (hQ .normal st S g F a w hs h rfl)
  | region id ops draw =>
    intro S g F st a w K Q hs h hQp hQ
    unfold evCode at h
    cases draw with
    | false =>
      rw [cond_false] at h
      exact wp_region (ops_sound hE hR _ hs h fun st' S' g' F' a' w' h1 h2 h3 => hQ .normal st' S' g' F' a' w' h1 h2 h3)
    | true =>
      rw [cond_true] at h
      cases hap : apartOk ops with
      | false => rw [hap] at h; cases h
      | true =>
        rw [hap,cond_true] at h
        have hs' : Sim C S g F st a.tmps { w with drawn := w.drawn + 1 } := hs.world (w' := { w with drawn := w.drawn + 1 }) (Nat.le_refl _) fun _ _ => rfl
        have hz : ∀ j,(List.replicate ops.size false).getD j false = false := fun j => by
          rw [List.getD_eq_getElem?_getD,List.getElem?_replicate]; split <;> rfl
        have := any_sound hE hR hap hQp ops.size (ps := []) hs' (fun j oj _ hl => by rw [hz] at hl; cases hl) (fun p hp => by cases hp) h fun st' S' g' F' a' w' h1 h2 h3 => hQ .normal st' S' g' F' a' w' h1 h2 h3
        have h2 := wpAny_of_L _ _ _ _ _ this
        rw [List.toArray_replicate] at h2
        exact wp_region_any hE.mixed h2
  | seq x y ihx ihy =>
    intro S g F st a w K Q hs h hQp hQ
    unfold evCode at h
    refine wp_seq (ihx hs h (fun c a w hq => hQp c a w hq) fun e st' S' g' F' a' w' h1 h2 h3 => ?_)
    cases e with
    | normal =>
      obtain ⟨st2,S2,g2,F2,h4,h5⟩ := maskAt_sound hRw h1 h2
      exact ihy h4 h5 hQp fun e st3 S3 g3 F3 a3 w3 h6 h7 h8 => hQ e st3 S3 g3 F3 a3 w3 h6 h7 (h8.trans h3)
    | exit i => exact hQ (.exit i) st' S' g' F' a' w' h1 h2 h3
    | ret => exact hQ .ret st' S' g' F' a' w' h1 h2 h3
  | cond c x y ihx ihy =>
    intro S g F st a w K Q hs h hQp hQ
    unfold evCode at h
    obtain ⟨v,hv,h⟩ := Option.bind_eq_some_iff.1 h
    split at h
    · rename_i t ht
      have hc : a.eval c = .bool t := V.bool_sound ht (opd_sound hs rfl hv)
      refine wp_cond hc ?_
      have h' : (bif t then evCode E R pol N x st K else evCode E R pol N y st K) = some r := by
        cases c with
        | tmp i =>
          have hv' : st.fr[i]? = some v := hv
          have hset : st.setFr i (vB t) = st := St.setFr_same (by rw [hv',V.bool_eq ht])
          cases t with
          | true =>
            have h2 : evCode E R pol N x (st.setFr i (vB true)) K = some r := h
            rw [hset] at h2; exact h2
          | false =>
            have h2 : evCode E R pol N y (st.setFr i (vB false)) K = some r := h
            rw [hset] at h2; exact h2
        | const k => exact h
        | global k => exact h
        | func k => exact h
      cases t with
      | true => exact ihx hs h' hQp hQ
      | false => exact ihy hs h' hQp hQ
    · cases h
  | block id b ih =>
    intro S g F st a w K Q hs h hQp hQ
    unfold evCode at h
    refine wp_block (ih hs h (fun c a w hq => hQp c a w hq) fun e st' S' g' F' a' w' h1 h2 h3 => ?_)
    cases e with
    | normal =>
      obtain ⟨st2,S2,g2,F2,h4,h5⟩ := maskAt_sound hRw h1 h2
      exact hQ .normal st2 S2 g2 F2 a' w' h4 h5 h3
    | exit i =>
      show (if i = id then Q .normal a' w' else Q (.exit i) a' w')
      have h2' : (if i = id then maskAt R pol.blkM id st' fun st => K .normal st else K (.exit i) st') = some r := h2
      split
      · rename_i hi
        rw [if_pos hi] at h2'
        obtain ⟨st2,S2,g2,F2,h4,h5⟩ := maskAt_sound hRw h1 h2'
        exact hQ .normal st2 S2 g2 F2 a' w' h4 h5 h3
      · rename_i hi
        rw [if_neg hi] at h2'
        exact hQ (.exit i) st' S' g' F' a' w' h1 h2' h3
    | ret => exact hQ .ret st' S' g' F' a' w' h1 h2 h3
  | loop b ih =>
    intro S g F st a w K Q hs h hQp hQ
    unfold evCode at h
    obtain ⟨st1,S1,g1,F1,hs1,h⟩ := maskAt_sound hRw hs h
    refine wp_loopN (fun n a' w' => ∃ st' S' g' F',Sim C S' g' F' st' a'.tmps w' ∧ loopC (evCode E R pol N b) (maskAt R pol.loopM (firstRegion b)) n st' K = some r ∧ a'.defers = a.defers) N ⟨st1,S1,g1,F1,hs1,h,rfl⟩ ?_
    rintro n a' w' ⟨st',S',g',F',h1,h2,h3⟩
    cases n with
    | zero => cases h2
    | succ n =>
      unfold loopC at h2
      refine ih h1 h2 (fun c a w hq => hQp c a w hq) fun e st2 S2 g2 F2 a2 w2 h4 h5 h6 => ?_
      cases e with
      | normal =>
        obtain ⟨st3,S3,g3,F3,h7,h8⟩ := maskAt_sound hRw h4 h5
        exact ⟨n,Nat.lt_succ_self n,st3,S3,g3,F3,h7,h8,h6.trans h3⟩
      | exit i => exact hQ (.exit i) st2 S2 g2 F2 a2 w2 h4 h5 (h6.trans h3)
      | ret => exact hQ .ret st2 S2 g2 F2 a2 w2 h4 h5 (h6.trans h3)
  | exit id =>
    intro S g F st a w K Q hs h hQp hQ
    exact wp_exit (hQ (.exit id) st S g F a w hs h rfl)
  | ret =>
    intro S g F st a w K Q hs h hQp hQ
    exact wp_ret (hQ .ret st S g F a w hs h rfl)
  | _ =>
    intros
    rename_i h _ _
    cases h
end
end Ve

set_option linter.unusedVariables false
namespace Ve
open Go

section
variable {S S' : Blocks} {w w' : World} {g g' : Nat → Value} {C : Ctx} {F F' : Nat → Blocks} {st : St} {tm : Array Value} {P : Program} {ρ : Type}

def parObj (m : PM) (d : Dv) : Option Obj := match m with
  | .imm => none
  | .iob => match d.t,d.x with
    | .ptr c,x => some (.box (explode c x) false true)
    | _,_ => none
  | m => match d.t,d.x with
    | .sl u,xs => some (.arr u xs (u.flat || m == .io true || m == .take true) false (m == .io true || m == .io false))
    | _,_ => none

def parCell (m : PM) (s : Nat) (d : Dv) : V0 := match m with
  | .imm => cellOf d
  | .iob => .box s 0
  | _ => .arr s

theorem enterCell_spec {pm : List PM} {base i : Nat} {d : Dv} {ob ob' : List (Option Obj)} {c : V0} (h : enterCell pm base i d ob = some (c,ob')) :
    c = parCell (modeAt pm i) (base + i) d ∧ ∀ s o,getOb ob' s = some o → getOb ob s = some o ∨ (s = base + i ∧ parObj (modeAt pm i) d = some o) := by
  unfold enterCell at h
  obtain ⟨t,x⟩ := d
  cases hm : modeAt pm i with
  | imm =>
    rw [hm] at h
    obtain ⟨rfl,rfl⟩ : cellOf ⟨t,x⟩ = c ∧ ob = ob' := by simpa using h
    exact ⟨rfl,fun s o ho => .inl ho⟩
  | iob =>
    rw [hm] at h
    simp only at h
    split at h
    · rename_i cc x
      obtain ⟨rfl,rfl⟩ : V0.box (base + i) 0 = c ∧ ob.set (base + i) (some (.box (explode cc x) false true)) = ob' := by simpa using h
      refine ⟨rfl,fun s o ho => ?_⟩
      by_cases hs : s = base + i
      · subst hs; exact .inr ⟨rfl,by simpa [parObj] using getOb_set_eq ho⟩
      · rw [getOb_set_ne _ _ hs] at ho; exact .inl ho
    · cases h
  | io dp =>
    rw [hm] at h
    simp only at h
    split at h
    · rename_i u xs
      obtain ⟨rfl,rfl⟩ := Prod.mk.inj (Option.some.inj h)
      refine ⟨rfl,fun s o ho => ?_⟩
      by_cases hs : s = base + i
      · subst hs; exact .inr ⟨rfl,getOb_set_eq ho⟩
      · rw [getOb_set_ne _ _ hs] at ho; exact .inl ho
    · cases h
  | take dp =>
    rw [hm] at h
    simp only at h
    split at h
    · rename_i u xs
      obtain ⟨rfl,rfl⟩ := Prod.mk.inj (Option.some.inj h)
      refine ⟨rfl,fun s o ho => ?_⟩
      by_cases hs : s = base + i
      · subst hs; exact .inr ⟨rfl,getOb_set_eq ho⟩
      · rw [getOb_set_ne _ _ hs] at ho; exact .inl ho
    · cases h

theorem enterCells_spec {pm : List PM} {base : Nat} : ∀ {args : List Dv} {i : Nat} {ob ob' : List (Option Obj)} {cs : List V0},enterCells pm base i args ob = some (cs,ob') →
    cs.length = args.length ∧ (∀ (k : Nat) d c,args[k]? = some d → cs[k]? = some c → c = parCell (modeAt pm (i + k)) (base + (i + k)) d) ∧
      ∀ s o,getOb ob' s = some o → getOb ob s = some o ∨ ∃ (k : Nat) (d : Dv),args[k]? = some d ∧ s = base + (i + k) ∧ parObj (modeAt pm (i + k)) d = some o
  | [],i,ob,ob',cs,h => by
      obtain ⟨rfl,rfl⟩ := Prod.mk.inj (Option.some.inj h)
      exact ⟨rfl,by simp,fun s o ho => .inl ho⟩
  | d :: ds,i,ob,ob',cs,h => by
      unfold enterCells at h
      obtain ⟨p,hp,h⟩ := Option.bind_eq_some_iff.1 h
      obtain ⟨q,hq,h⟩ := Option.map_eq_some_iff.1 h
      obtain ⟨rfl,rfl⟩ := Prod.mk.inj h
      obtain ⟨c,ob1⟩ := p
      obtain ⟨h1,h2⟩ := enterCell_spec hp
      obtain ⟨h3,h4,h5⟩ := enterCells_spec (cs := q.1) (ob' := q.2) hq
      refine ⟨by simp [h3],fun k d' c' hd hc => ?_,fun s o ho => ?_⟩
      · cases k with
        | zero => simp at hd hc; subst hd; subst hc; exact h1
        | succ k =>
          have := h4 k d' c' (by simpa using hd) (by simpa using hc)
          rwa [show i + 1 + k = i + (k + 1) by omega] at this
      · rcases h5 s o ho with h6 | ⟨k,d',h6,h7,h8⟩
        · rcases h2 s o h6 with h9 | ⟨h9,h10⟩
          · exact .inl h9
          · exact .inr ⟨0,d,rfl,h9,h10⟩
        · exact .inr ⟨k + 1,d',by simpa using h6,by rw [show i + 1 + k = i + (k + 1) by omega] at h7; exact h7,by rwa [show i + 1 + k = i + (k + 1) by omega] at h8⟩

theorem enterV_sound : ∀ {gs : List (Bool × Nat)} {cs : List V0} {us : List Value} {fr : List V},Cs S w g cs us → enterV gs cs = some fr → ArgsR S w g fr (argsOf gs us)
  | [],cs,us,fr,hc,h => by
      cases cs with
      | nil => obtain rfl := Option.some.inj h; rfl
      | cons => simp [enterV] at h
  | (false,n) :: gs,cs,us,fr,hc,h => by
      cases cs with
      | nil => rcases n with _ | _ | n <;> simp [enterV] at h
      | cons c cs =>
        rcases n with _ | _ | n
        · simp [enterV] at h
        · have h' : (enterV gs cs).map (V.c c :: ·) = some fr := h
          obtain ⟨fr',h1,rfl⟩ := Option.map_eq_some_iff.1 h'
          obtain ⟨u,us',rfl,h2,h3⟩ := hc
          exact ⟨u,_,rfl,h2,enterV_sound h3 h1⟩
        · simp [enterV] at h
  | (true,n) :: gs,cs,us,fr,hc,h => by
      have h' : (if n ≤ cs.length then (enterV gs (cs.drop n)).map (V.agg (cs.take n) :: ·) else none) = some fr := by
        rw [← h]; cases cs <;> rfl
      split at h'
      · obtain ⟨fr',h1,rfl⟩ := Option.map_eq_some_iff.1 h'
        exact ⟨_,_,rfl,⟨us.take n,rfl,hc.take n⟩,enterV_sound (hc.drop n) h1⟩
      · cases h'

theorem ArgsR.frGet {vs : List V} {us : List Value} (h : ArgsR S w g vs us) {n : Nat} : ∀ (i : Nat) v,(vs ++ List.replicate n .undef)[i]? = some v → VR S w g v ((us.toArray ++ Array.replicate n Go.undef).getD i Go.undef) := by
  intro i v hv
  have hl := h.get.1
  have e : (us.toArray ++ Array.replicate n Go.undef).getD i Go.undef = (us ++ List.replicate n Go.undef)[i]?.getD Go.undef := by
    rw [← List.toArray_replicate,List.append_toArray]
    simp [Array.getD_eq_getD_getElem?]
  rw [e]
  rcases Nat.lt_or_ge i vs.length with hlt | hge
  · rw [List.getElem?_append_left hlt] at hv
    obtain ⟨u,hu,hr⟩ := h.get.2 i v hv
    rw [List.getElem?_append_left (by omega),hu]
    exact hr
  · rw [List.getElem?_append_right hge,List.getElem?_replicate] at hv
    split at hv
    · obtain rfl := Option.some.inj hv
      rw [List.getElem?_append_right (by omega),List.getElem?_replicate]
      split <;> rfl
    · cases hv

theorem mem_flag (u : Ty) (dp : Bool) : (u.flat || (PM.io dp == .io true) || (PM.io dp == .take true)) = (u.flat || dp) := by
  cases dp <;> cases u.flat <;> rfl
theorem mem_flag' (u : Ty) (dp : Bool) : (u.flat || (PM.take dp == .io true) || (PM.take dp == .take true)) = (u.flat || dp) := by
  cases dp <;> cases u.flat <;> rfl

theorem enter_sim {sg : Sig} {args : List Dv} {us : List Value} {FP : Nat → Blocks} {base : Nat} {ob ob' : List (Option Obj)} {cs : List V0} {fr : List V} {n m : Nat} (hm : m = n) (hsz : ∀ b,S b → b < w.heap.size) (hFP : ∀ i b,FP i b → b < w.heap.size ∧ ¬ S b) (hFd : ∀ i j b,i ≠ j → FP i b → ¬ FP j b)
    (hl : us.length = args.length) (hp : ∀ (i : Nat) d u,args[i]? = some d → us[i]? = some u → ParR S w (modeAt sg.pm i) d u (FP i)) (hob : ∀ s,getOb ob s = none)
    (hc : enterCells sg.pm base 0 args ob = some (cs,ob')) (hv : enterV sg.ps cs = some fr) :
    Sim { O := fun b => w.heap.size ≤ b ∨ ∃ i,FP i b,S0 := S,w0 := w,g0 := fun s => us.getD (s - base) Go.undef,base := fun _ h => .inl h } S (fun s => us.getD (s - base) Go.undef) (fun s b => base ≤ s ∧ FP (s - base) b)
      { fr := fr ++ List.replicate n .undef,ob := ob' } ((argsOf sg.ps us).toArray ++ Array.replicate m Go.undef) w := by
  subst hm
  obtain ⟨h1,h2,h3⟩ := enterCells_spec hc
  have hpar : ∀ s o,getOb ob' s = some o → ∃ (k : Nat) (d : Dv) (u : Value),args[k]? = some d ∧ us[k]? = some u ∧ s = base + k ∧ parObj (modeAt sg.pm k) d = some o := by
    intro s o ho
    rcases h3 s o ho with h4 | ⟨k,d,h4,h5,h6⟩
    · rw [hob] at h4; cases h4
    · have hlt := (List.getElem?_eq_some_iff.1 h4).1
      rw [Nat.zero_add] at h5 h6
      exact ⟨k,d,us[k],h4,List.getElem?_eq_getElem (by omega),h5,h6⟩
  have hgk : ∀ k u,us[k]? = some u → us.getD (base + k - base) Go.undef = u := fun k u hu => by
    rw [Nat.add_sub_cancel_left,List.getD_eq_getElem?_getD,hu]; rfl
  have hcs : Cs S w (fun s => us.getD (s - base) Go.undef) cs us := by
    have key : ∀ (cs : List V0) (us' : List Value),cs.length = us'.length → (∀ (k : Nat) c u,cs[k]? = some c → us'[k]? = some u → V0R S w (fun s => us.getD (s - base) Go.undef) c u) → Cs S w (fun s => us.getD (s - base) Go.undef) cs us' := by
      intro cs
      induction cs with
      | nil => intro us' hl _; exact List.eq_nil_of_length_eq_zero hl.symm
      | cons c cs ih =>
        intro us' hl hk
        cases us' with
        | nil => simp at hl
        | cons u us' => exact ⟨u,us',rfl,hk 0 c u rfl rfl,ih us' (by simpa using hl) fun k c' u' hc' hu' => hk (k + 1) c' u' (by simpa using hc') (by simpa using hu')⟩
    refine key cs us (by omega) fun k c u hck huk => ?_
    have hlt := (List.getElem?_eq_some_iff.1 huk).1
    have hdk := List.getElem?_eq_getElem (show k < args.length by omega)
    have hcc := h2 k _ c hdk hck
    have hpk := hp k _ u hdk huk
    rw [Nat.zero_add] at hcc
    generalize args[k] = d at hcc hpk
    obtain ⟨t,x⟩ := d
    cases hmo : modeAt sg.pm k with
    | imm =>
      rw [hmo] at hcc hpk
      rw [hcc]
      exact V0R_mkCell hpk
    | iob =>
      rw [hmo] at hcc hpk
      rw [hcc]
      cases t with
      | ptr c =>
        obtain ⟨b,arr,e,h5,_⟩ := hpk
        exact ⟨b,(hgk k u huk).trans h5,h5⟩
      | _ => exact hpk.elim
    | io dp =>
      rw [hmo] at hcc hpk
      rw [hcc]
      cases t with
      | sl t =>
        obtain ⟨A,c,h5,_⟩ := hpk
        exact ⟨(hgk k u huk).symm,A,_,c,h5⟩
      | _ => exact hpk.elim
    | take dp =>
      rw [hmo] at hcc hpk
      rw [hcc]
      cases t with
      | sl t =>
        obtain ⟨A,c,h5,_⟩ := hpk
        exact ⟨(hgk k u huk).symm,A,_,c,h5⟩
      | _ => exact hpk.elim
  have hA := enterV_sound hcs hv
  have hfrl := hA.get.1
  have hFs : ∀ s o,getOb ob' s = some o → ∀ b,(base ≤ s ∧ FP (s - base) b) → b < w.heap.size ∧ ¬ S b ∧ ∃ i,FP i b := fun s o _ b hb => ⟨(hFP _ b hb.2).1,(hFP _ b hb.2).2,_,hb.2⟩
  have hfz : ∀ s o,getOb ob' s = some o → o.frozen = false := by
    intro s o ho
    obtain ⟨k,d,u,_,_,_,h6⟩ := hpar s o ho
    obtain ⟨t,x⟩ := d
    cases hmo : modeAt sg.pm k <;> rw [hmo] at h6 <;> cases t <;> simp [parObj] at h6 <;> (subst h6; rfl)
  refine { size := by simp [hfrl],fr := fun i v hv => hA.frGet i v hv,ob := ?_,prv := fun s o ho _ b hb => ⟨(hFs s o ho b hb).2.1,.inr (hFs s o ho b hb).2.2⟩,frz := fun s o ho hf => (by rw [hfz s o ho] at hf; cases hf),dis := ?_,szF := fun s o ho b hb => (hFs s o ho b hb).1,szS := hsz,S0 := fun _ h => h,SO := fun _ h => .inl h,keep := fun _ _ _ => rfl,mono := Nat.le_refl _,kin := Kin.refl _,fx := fun _ _ _ _ => rfl }
  · intro s o ho
    obtain ⟨k,d,u,h4,h5,rfl,h6⟩ := hpar s o ho
    have hpk := hp k d u h4 h5
    have hF : ∀ b,FP k b → (base ≤ base + k ∧ FP (base + k - base) b) := fun b hb => ⟨by omega,by rw [Nat.add_sub_cancel_left]; exact hb⟩
    obtain ⟨t,x⟩ := d
    cases hmo : modeAt sg.pm k with
    | imm => rw [hmo] at h6; cases h6
    | iob =>
      rw [hmo] at h6 hpk
      cases t with
      | ptr c =>
        obtain rfl : Obj.box (explode c x) false true = o := by simpa [parObj] using h6
        obtain ⟨b,arr,e,h7,h8,h9,h10⟩ := hpk
        exact ⟨b,arr,e,(hgk k u h5).trans h7,hF b h8,h9,Cs_explode h10⟩
      | _ => exact hpk.elim
    | io dp =>
      rw [hmo] at h6 hpk
      cases t with
      | sl t =>
        obtain rfl := Option.some.inj h6
        have hpk' : OwnArr S w (t.flat || dp) t x u (FP k) := hpk
        unfold ObR
        simp only
        rw [mem_flag]
        show OwnArr S w (t.flat || dp) t x (us.getD (base + k - base) Go.undef) _
        rw [hgk k u h5]
        exact hpk'.mono (fun _ h => h) (fun _ _ => rfl) hF fun _ _ => rfl
      | _ => exact hpk.elim
    | take dp =>
      rw [hmo] at h6 hpk
      cases t with
      | sl t =>
        obtain rfl := Option.some.inj h6
        have hpk' : OwnArr S w (t.flat || dp) t x u (FP k) := hpk
        unfold ObR
        simp only
        rw [mem_flag']
        show OwnArr S w (t.flat || dp) t x (us.getD (base + k - base) Go.undef) _
        rw [hgk k u h5]
        exact hpk'.mono (fun _ h => h) (fun _ _ => rfl) hF fun _ _ => rfl
      | _ => exact hpk.elim
  · intro s s' o o' hne ho ho' _ _ b hb hb'
    obtain ⟨k,_,_,_,_,rfl,_⟩ := hpar s o ho
    obtain ⟨k',_,_,_,_,rfl,_⟩ := hpar s' o' ho'
    refine hFd _ _ b ?_ hb.2 hb'.2
    omega
end
end Ve

set_option linter.unusedVariables false
namespace Ve
open Go

section
variable {S S' : Blocks} {w w' : World} {g g' : Nat → Value} {C : Ctx} {F F' : Nat → Blocks} {st : St} {tm : Array Value} {P : Program} {ρ : Type}

def resOne (tmps : Array Value) (r : ResultVar) : Sem Value := match r with
  | .tmp t => pure (tmps.getD t Go.undef)
  | .cell a t => do loadVar t (← asAddr (tmps.getD a Go.undef))

theorem resCells_sound (hs : Sim C S g F st tm w) : ∀ {rs : List ResultVar} {gs : List (Bool × Nat)} {cs : List V0},resCells P st rs gs = some cs →
    ∃ us,Cs S w g cs us ∧ us.length = (gs.map (·.2)).sum ∧ (rs.mapM (resOne tm)).run P w = .ok (argsOf gs us) w ∧ gs.all (fun p => p.1 || p.2 == 1) = true
  | [],[],cs,h => by obtain rfl := Option.some.inj h; exact ⟨[],rfl,rfl,rfl,rfl⟩
  | [],_ :: _,cs,h => by simp [resCells] at h
  | .tmp t :: rs,[],cs,h => by simp [resCells] at h
  | .cell t ty :: rs,[],cs,h => by simp [resCells] at h
  | .tmp t :: rs,(a,n) :: gs,cs,h => by
      unfold resCells at h
      split at h
      · rename_i cs0 hv
        split at h
        · rename_i hc
          obtain ⟨rfl,rfl⟩ := hc
          obtain ⟨cs1,h1,rfl⟩ := Option.map_eq_some_iff.1 h
          obtain ⟨us1,h2,h3,h4,h5⟩ := resCells_sound hs h1
          obtain ⟨us0,hu,hc0⟩ := hs.fr t _ hv
          have hl := hc0.len
          refine ⟨us0 ++ us1,hc0.append h2,by simp [hl,h3],?_,by simpa using h5⟩
          simp only [List.mapM_cons,resOne,Sem.run_bind,Sem.run_pure,Result.andThen_ok,h4,hu,argsOf]
          rw [← hl]
          simp
        · cases h
      · rename_i v hv
        split at h
        · rename_i hc
          obtain ⟨rfl,rfl⟩ := hc
          obtain ⟨cs1,h1,rfl⟩ := Option.map_eq_some_iff.1 h
          obtain ⟨us1,h2,h3,h4,h5⟩ := resCells_sound hs h1
          refine ⟨_ :: us1,⟨_,us1,rfl,hs.fr t _ hv,h2⟩,by simp [h3]; omega,?_,by simpa using h5⟩
          simp only [List.mapM_cons,resOne,Sem.run_bind,Sem.run_pure,Result.andThen_ok,h4,argsOf]
          simp
        · cases h
      · cases h
  | .cell t ty :: rs,(a,n) :: gs,cs,h => by
      unfold resCells at h
      split at h
      · rename_i s off hv
        split at h
        · rename_i cells fz fx ho
          split at h
          · rename_i hc
            obtain ⟨hn,ha,hu,hfit,han⟩ := hc
            obtain ⟨cs1,h1,rfl⟩ := Option.map_eq_some_iff.1 h
            obtain ⟨us1,h2,h3,h4,h5⟩ := resCells_sound hs h1
            obtain ⟨b,arr,e,hg,hF,hh,hcs⟩ := hs.ob s _ ho
            obtain ⟨b',hg',hval⟩ := hs.fr t _ hv
            obtain rfl : b = b' := by rw [hg] at hg'; simpa using hg'
            obtain ⟨d,hd⟩ := Option.isSome_iff_exists.1 hu
            have hc0 : Cs S w g ((cells.drop off).take n) ((arr.toList.drop off).take n) := (hcs.drop off).take n
            have hl := hc0.len
            have hl2 : ((cells.drop off).take n).length = n := by simp; omega
            have hA : At w b 0 arr.toList := at_arr hh fun j u hu => by simpa using hu
            have hA2 := (hA.drop off).take n
            rw [Nat.zero_add] at hA2
            have hload := run_loadVar_at (P := P) hd (by rw [hl,hl2,hn]) hA2 (fun hag => by
              rw [ha] at hag
              rw [hag] at han
              have hn1 : n = 1 := by simpa using han
              subst hn1
              exact List.length_eq_one_iff.1 (by omega))
            refine ⟨(arr.toList.drop off).take n ++ us1,hc0.append h2,by simp only [List.length_append,hl,hl2,h3,List.map_cons,List.sum_cons],?_,by simp [han,h5]⟩
            have e1 : ((arr.toList.drop off).take n ++ us1).take n = (arr.toList.drop off).take n := by
              rw [List.take_append_of_le_length (by omega),List.take_of_length_le (by omega)]
            have e2 : ((arr.toList.drop off).take n ++ us1).drop n = us1 := by
              rw [List.drop_append_of_le_length (by omega),List.drop_of_length_le (by omega),List.nil_append]
            have e3 : asAddr (.pointer (some (⟨b,off,none⟩ : Addr))) = pure ⟨b,off,none⟩ := rfl
            simp only [List.mapM_cons,resOne,Sem.run_bind,hval,e3,Sem.run_pure,Result.andThen_ok,hload,h4,argsOf,e1,e2]
            unfold partV
            rw [ha]
            cases a with
            | true => rfl
            | false =>
              have hn1 : n = 1 := by simpa using han
              have : ((arr.toList.drop off).take n).length = 1 := by omega
              obtain ⟨u,hu1⟩ := List.length_eq_one_iff.1 this
              rw [hu1]; rfl
          · cases h
        · cases h
      · cases h

theorem run_results (hs : Sim C S g F st tm w) {fn : Func} {gs : List (Bool × Nat)} {cs : List V0} (h : resCells P st fn.results.toList gs = some cs) :
    ∃ us,Cs S w g cs us ∧ us.length = (gs.map (·.2)).sum ∧ (results fn tm).run P w = .ok (valOf gs us) w := by
  obtain ⟨us,h1,h2,h3,h4⟩ := resCells_sound hs h
  refine ⟨us,h1,h2,?_⟩
  have e : results fn tm = (do
      let vs ← fn.results.mapM (resOne tm)
      pure (if h : vs.size = 1 then vs[0] else .tuple vs)) := by
    unfold results
    congr 1
  rw [e,Array.mapM_eq_mapM_toList]
  simp only [Sem.run_bind,Sem.run_map,h3,Result.andThen_ok,Sem.run_pure]
  congr 1
  have hlen : ∀ (gs : List (Bool × Nat)) (us : List Value),(argsOf gs us).length = gs.length := by
    intro gs
    induction gs with
    | nil => intro us; rfl
    | cons p gs ih => intro us; obtain ⟨a,n⟩ := p; simp [argsOf,ih]
  rcases gs with _ | ⟨⟨a,n⟩,_ | ⟨q,gs⟩⟩
  · rfl
  · simp only [argsOf,valOf]
    simp only [List.map_cons,List.map_nil,List.sum_cons,List.sum_nil,Nat.add_zero] at h2
    simp [List.take_of_length_le (show us.length ≤ n by omega)]
  · have : (argsOf ((a,n) :: q :: gs) us).toArray.size ≠ 1 := by rw [List.size_toArray,hlen]; simp
    rw [dif_neg this]
    rfl

theorem outCells_get {ob : List (Option Obj)} : ∀ {ms : List RM} {cs : List V0} {ds : List Dv},outCells ob ms cs = some ds →
    ds.length = cs.length ∧ ∀ (k : Nat) c d,cs[k]? = some c → ds[k]? = some d → outCell ob (ms.getD k .imm) c = some d
  | ms,[],ds,h => by
      have : ds = [] := by unfold outCells at h; exact (Option.some.inj h).symm
      subst this; exact ⟨rfl,by simp⟩
  | ms,v :: vs,ds,h => by
      unfold outCells at h
      obtain ⟨d,hd,h⟩ := Option.bind_eq_some_iff.1 h
      obtain ⟨ds',hds,rfl⟩ := Option.map_eq_some_iff.1 h
      obtain ⟨h1,h2⟩ := outCells_get hds
      refine ⟨by simp [h1],fun k c d' hc hd' => ?_⟩
      cases k with
      | zero =>
        simp at hc hd'; subst hc; subst hd'
        have e : ms.getD 0 .imm = ms.headD .imm := by cases ms <;> rfl
        rw [e]; exact hd
      | succ k =>
        have := h2 k c d' (by simpa using hc) (by simpa using hd')
        have e : ms.tail.getD k .imm = ms.getD (k + 1) .imm := by cases ms <;> simp
        rwa [e] at this

theorem mem_outSites : ∀ {ms : List RM} {cs : List V0} {s : Nat},s ∈ outSites ms cs ↔ ∃ (k : Nat) (c : V0),cs[k]? = some c ∧ s ∈ out1 (ms.getD k .imm) c
  | ms,[],s => by simp [outSites]
  | ms,v :: vs,s => by
      unfold outSites
      have e0 : ms.getD 0 .imm = ms.headD .imm := by cases ms <;> rfl
      have e : ∀ k,ms.tail.getD k .imm = ms.getD (k + 1) .imm := fun k => by cases ms <;> simp
      rw [List.mem_append,mem_outSites]
      constructor
      · rintro (h | ⟨k,c,hc,h⟩)
        · exact ⟨0,v,rfl,by rw [e0]; exact h⟩
        · exact ⟨k + 1,c,by simpa using hc,by rw [← e]; exact h⟩
      · rintro ⟨k,c,hc,h⟩
        cases k with
        | zero => simp at hc; subst hc; rw [e0] at h; exact .inl h
        | succ k => exact .inr ⟨k,c,by simpa using hc,by rw [e]; exact h⟩

theorem outSites_inj : ∀ {ms : List RM} {cs : List V0},(outSites ms cs).Nodup → ∀ (i j : Nat) c d s,cs[i]? = some c → cs[j]? = some d → s ∈ out1 (ms.getD i .imm) c → s ∈ out1 (ms.getD j .imm) d → i = j
  | ms,[],_,i,j,c,d,s,hc,_,_,_ => by simp at hc
  | ms,v :: vs,h,i,j,c,d,s,hc,hd,h1,h2 => by
      unfold outSites at h
      rw [List.nodup_append] at h
      have e0 : ms.getD 0 .imm = ms.headD .imm := by cases ms <;> rfl
      have e : ∀ k,ms.tail.getD k .imm = ms.getD (k + 1) .imm := fun k => by cases ms <;> simp
      cases i with
      | zero =>
        cases j with
        | zero => rfl
        | succ j =>
          simp at hc hd
          subst hc
          rw [e0] at h1
          exact absurd rfl (h.2.2 s h1 s (mem_outSites.2 ⟨j,d,hd,by rw [e]; exact h2⟩))
      | succ i =>
        cases j with
        | zero =>
          simp at hc hd
          subst hd
          rw [e0] at h2
          exact absurd rfl (h.2.2 s h2 s (mem_outSites.2 ⟨i,c,hc,by rw [e]; exact h1⟩))
        | succ j =>
          simp at hc hd
          rw [outSites_inj h.2.1 i j c d s hc hd (by rw [e]; exact h1) (by rw [e]; exact h2)]

theorem mem_immLeads {ob : List (Option Obj)} : ∀ {ms : List RM} {cs : List V0} {k : Nat} {c : V0} {s : Nat},cs[k]? = some c → ms.getD k .imm = .imm → s ∈ leads ob c → s ∈ immLeads ob ms cs
  | ms,[],k,c,s,hc,_,_ => by simp at hc
  | ms,v :: vs,0,c,s,hc,hm,hs => by
      have e0 : ms.getD 0 .imm = ms.headD .imm := by cases ms <;> rfl
      simp at hc; subst hc
      unfold immLeads
      rw [← e0,hm]
      exact List.mem_append.2 (.inl hs)
  | ms,v :: vs,k + 1,c,s,hc,hm,hs => by
      have e : ms.tail.getD k .imm = ms.getD (k + 1) .imm := by cases ms <;> simp
      unfold immLeads
      exact List.mem_append.2 (.inr (mem_immLeads (k := k) (by simpa using hc) (by rw [e]; exact hm) hs))

theorem mem_ioLeads {ob : List (Option Obj)} {base : Nat} : ∀ {pm : List PM} {i k s : Nat},pm[k]? = some .iob → s ∈ (leads ob (.box (base + (i + k)) 0)).tail → s ∈ ioLeads ob base pm i
  | [],i,k,s,h,_ => by simp at h
  | m :: pm,i,0,s,h,hs => by
      simp at h; subst h
      unfold ioLeads
      exact List.mem_append.2 (.inl hs)
  | m :: pm,i,k + 1,s,h,hs => by
      unfold ioLeads
      exact List.mem_append.2 (.inr (mem_ioLeads (k := k) (by simpa using h) (by rwa [show i + 1 + k = i + (k + 1) by omega])))

theorem mem_ioList {base : Nat} : ∀ {pm : List PM} {i k : Nat} {m : PM},pm[k]? = some m → m.isIo = true → base + (i + k) ∈ ioList base pm i
  | [],i,k,m,h,_ => by simp at h
  | m :: pm,i,0,m',h,hm => by
      simp at h; subst h
      unfold ioList
      rw [hm,cond_true]
      exact List.mem_append.2 (.inl (by simp))
  | m :: pm,i,k + 1,m',h,hm => by
      unfold ioList
      have := mem_ioList (base := base) (i := i + 1) (k := k) (by simpa using h) hm
      rw [show i + 1 + k = i + (k + 1) by omega] at this
      exact List.mem_append.2 (.inr this)

theorem ios_of {ob : List (Option Obj)} {base : Nat} {GP : Nat → Blocks} {us : List Value} : ∀ {pm : List PM} {i : Nat} {q : List Dv},ioCells ob base pm i = some q →
    (∀ (k : Nat) m d,pm[k]? = some m → m.isIo = true → ioCell ob base m (i + k) = some d → ∃ u,us[i + k]? = some u ∧ IoR S w m d u (GP (i + k))) → IosR S w GP us pm i q
  | [],i,q,h,_ => trivial
  | m :: pm,i,q,h,hk => by
      unfold ioCells at h
      unfold IosR
      cases hm : m.isIo with
      | false =>
        rw [hm,cond_false] at h
        simp only [Bool.false_eq_true,if_false]
        refine ios_of h fun k m' d h1 h2 h3 => ?_
        have := hk (k + 1) m' d (by simpa using h1) h2 (by rwa [show i + (k + 1) = i + 1 + k by omega])
        rwa [show i + (k + 1) = i + 1 + k by omega] at this
      | true =>
        rw [hm,cond_true] at h
        obtain ⟨d,hd,h⟩ := Option.bind_eq_some_iff.1 h
        obtain ⟨ds,hds,rfl⟩ := Option.map_eq_some_iff.1 h
        simp only [if_true]
        obtain ⟨u,hu,hI⟩ := hk 0 m d rfl hm hd
        refine ⟨d,ds,u,rfl,hu,hI,ios_of hds fun k m' d h1 h2 h3 => ?_⟩
        have := hk (k + 1) m' d (by simpa using h1) h2 (by rwa [show i + (k + 1) = i + 1 + k by omega])
        rwa [show i + (k + 1) = i + 1 + k by omega] at this

theorem OwnArr.cut {d : Bool} {t : Ty} {xs : List t.T} {v : Value} {F : Blocks} {A A' : Option Addr} {n c hi sz : Nat} (h : OwnArr S w d t xs v F) (hv : v = .slice A n c) (hn : hi ≤ n) (hA : 0 < c → ∃ b,A = some ⟨b,0,none⟩ ∧ A' = some ⟨b,0 * sz,none⟩) :
    OwnArr S w d t (xs.take hi) (.slice A' (hi - 0) (c - 0)) F := by
  obtain ⟨A1,c1,hv1,hc1,h⟩ := h
  rw [hv] at hv1
  obtain ⟨rfl,rfl,rfl⟩ : A = A1 ∧ n = xs.length ∧ c = c1 := by simpa using hv1
  have hl : (xs.take hi).length = hi := by rw [List.length_take]; omega
  refine ⟨A',c,by rw [hl]; rfl,by rw [hl]; omega,?_⟩
  rcases h with h | ⟨b,arr,e,G,hAb,hb,hh,hs,hG,hd,he⟩
  · exact .inl h
  · by_cases hc : c = 0
    · exact .inl hc
    · obtain ⟨b',h1,h2⟩ := hA (by omega)
      rw [hAb] at h1
      obtain rfl : b = b' := by simpa using h1
      refine .inr ⟨b,arr,e,G,by rw [h2,Nat.zero_mul],hb,hh,hs,hG,hd,fun i x hx => ?_⟩
      rw [List.getElem?_take] at hx
      split at hx
      · exact he i x hx
      · cases hx

theorem finish_sound {E : Env} {sg : Sig} {fn : Func} {dv : Dv} {us : List Value} {FP : Nat → Blocks} {S0 : Blocks} {w0 : World} {hb : ∀ b,w0.heap.size ≤ b → (w0.heap.size ≤ b ∨ ∃ i,FP i b)} (hs : Sim { O := fun b => w0.heap.size ≤ b ∨ ∃ i,FP i b,S0 := S0,w0 := w0,g0 := fun s => us.getD (s - fn.ntmps) Go.undef,base := hb } S g F st tm w)
    (h : finish E sg fn st = some dv) : ∃ rus S2 GR GP,(results fn tm).run E.P w = .ok (valOf sg.rs rus) w ∧ After w0 S0 FP sg us dv w S2 rus GR GP := by
  unfold finish at h
  obtain ⟨cs,hcs0,h⟩ := Option.bind_eq_some_iff.1 h
  obtain ⟨ds,hds,h⟩ := Option.bind_eq_some_iff.1 h
  obtain ⟨q,hq,h⟩ := Option.bind_eq_some_iff.1 h
  cases hchk : nodupB (outSites sg.own cs) && (immLeads st.ob sg.own cs ++ ioLeads st.ob fn.ntmps sg.pm 0).all (fun s => !(outSites sg.own cs ++ ioList fn.ntmps sg.pm 0).contains s) with
  | false => rw [hchk] at h; cases h
  | true =>
    rw [hchk,cond_true] at h
    obtain rfl := Option.some.inj h
    simp only [Bool.and_eq_true] at hchk
    have hnd := nodupB_spec hchk.1
    have hLT : ∀ s ∈ immLeads st.ob sg.own cs ++ ioLeads st.ob fn.ntmps sg.pm 0,s ∉ outSites sg.own cs ∧ s ∉ ioList fn.ntmps sg.pm 0 := fun s hs' => by
      have := List.all_eq_true.1 hchk.2 s hs'
      simpa using this
    obtain ⟨rus,hcs,hrl,hrun⟩ := run_results hs hcs0
    obtain ⟨hdl,hdg⟩ := outCells_get hds
    have hrcl := hcs.len
    let T : Nat ⊕ Nat → Nat → Prop := fun x s => match x with
      | .inl k => ∃ c,cs[k]? = some c ∧ s ∈ out1 (sg.own.getD k .imm) c
      | .inr i => s = fn.ntmps + i ∧ ∃ m,sg.pm[i]? = some m ∧ m.isIo = true
    have hob : ∀ x s,T x s → ∃ o,getOb st.ob s = some o ∧ o.frozen = false ∧ (match x with | .inl _ => o.fixed = false | .inr _ => o.fixed = true) := by
      intro x s hT
      cases x with
      | inl k =>
        obtain ⟨c,hc,hs1⟩ := hT
        have hlt := (List.getElem?_eq_some_iff.1 hc).1
        have hd := hdg k c ds[k] hc (List.getElem?_eq_getElem (by omega))
        cases hm : sg.own.getD k .imm with
        | imm => rw [hm] at hs1; simp [out1] at hs1
        | own =>
          rw [hm] at hs1 hd
          cases c with
          | arr s' =>
            simp [out1] at hs1; subst hs1
            simp only [outCell] at hd
            split at hd
            · rename_i ho; exact ⟨_,ho,rfl,rfl⟩
            · cases hd
          | sub s' lo hi sz =>
            simp [out1] at hs1; subst hs1
            cases lo with
            | succ => cases hd
            | zero =>
              simp only [outCell] at hd
              split at hd
              · rename_i ho; exact ⟨_,ho,rfl,rfl⟩
              · cases hd
          | _ => simp [out1] at hs1
        | deep =>
          rw [hm] at hs1 hd
          cases c with
          | arr s' =>
            simp [out1] at hs1; subst hs1
            simp only [outCell] at hd
            split at hd
            · rename_i ho; exact ⟨_,ho,rfl,rfl⟩
            · cases hd
          | sub s' lo hi sz =>
            simp [out1] at hs1; subst hs1
            cases lo with
            | succ => cases hd
            | zero =>
              simp only [outCell] at hd
              split at hd
              · rename_i ho; exact ⟨_,ho,rfl,rfl⟩
              · cases hd
          | _ => simp [out1] at hs1
      | inr i =>
        obtain ⟨rfl,m,hm,hio⟩ := hT
        have key : ∀ (pm : List PM) (i0 : Nat) (q : List Dv) (k : Nat),ioCells st.ob fn.ntmps pm i0 = some q → pm[k]? = some m → ∃ d,ioCell st.ob fn.ntmps m (i0 + k) = some d := by
          intro pm
          induction pm with
          | nil => intro i0 q k _ h; simp at h
          | cons m' pm ih =>
            intro i0 q k hq hk
            unfold ioCells at hq
            cases k with
            | zero =>
              simp at hk; subst hk
              rw [hio,cond_true] at hq
              obtain ⟨d,hd,_⟩ := Option.bind_eq_some_iff.1 hq
              exact ⟨d,hd⟩
            | succ k =>
              cases hm' : m'.isIo with
              | false =>
                rw [hm',cond_false] at hq
                have := ih (i0 + 1) q k hq (by simpa using hk)
                rwa [show i0 + 1 + k = i0 + (k + 1) by omega] at this
              | true =>
                rw [hm',cond_true] at hq
                obtain ⟨d,hd,hq⟩ := Option.bind_eq_some_iff.1 hq
                obtain ⟨ds',hds',_⟩ := Option.map_eq_some_iff.1 hq
                have := ih (i0 + 1) ds' k hds' (by simpa using hk)
                rwa [show i0 + 1 + k = i0 + (k + 1) by omega] at this
        obtain ⟨d,hd⟩ := key sg.pm 0 q i hq hm
        rw [Nat.zero_add] at hd
        unfold ioCell at hd
        cases m with
        | imm => cases hio
        | take dp => cases hio
        | io dp =>
          simp only at hd
          split at hd
          · rename_i ho; exact ⟨_,ho,rfl,rfl⟩
          · cases hd
        | iob =>
          simp only at hd
          split at hd
          · rename_i ho; exact ⟨_,ho,rfl,rfl⟩
          · cases hd
    have hTinj : ∀ x y s,T x s → T y s → x = y := by
      intro x y s hx hy
      cases x with
      | inl k =>
        cases y with
        | inl k' =>
          obtain ⟨c,hc,h1⟩ := hx
          obtain ⟨c',hc',h2⟩ := hy
          rw [outSites_inj hnd k k' c c' s hc hc' h1 h2]
        | inr i =>
          obtain ⟨o,h1,_,h2⟩ := hob (.inl k) s hx
          obtain ⟨o',h3,_,h4⟩ := hob (.inr i) s hy
          rw [h1] at h3
          obtain rfl := Option.some.inj h3
          simp only at h2 h4
          rw [h2] at h4; cases h4
      | inr i =>
        cases y with
        | inl k =>
          obtain ⟨o,h1,_,h2⟩ := hob (.inr i) s hx
          obtain ⟨o',h3,_,h4⟩ := hob (.inl k) s hy
          rw [h1] at h3
          obtain rfl := Option.some.inj h3
          simp only at h2 h4
          rw [h2] at h4; cases h4
        | inr i' =>
          obtain ⟨h1,_⟩ := hx
          obtain ⟨h2,_⟩ := hy
          have : i = i' := by omega
          rw [this]
    have hTL : ∀ x s,T x s → s ∉ immLeads st.ob sg.own cs ++ ioLeads st.ob fn.ntmps sg.pm 0 := by
      intro x s hx hL
      obtain ⟨h1,h2⟩ := hLT s hL
      cases x with
      | inl k => obtain ⟨c,hc,h3⟩ := hx; exact h1 (mem_outSites.2 ⟨k,c,hc,h3⟩)
      | inr i =>
        obtain ⟨rfl,m,hm,hio⟩ := hx
        have := mem_ioList (base := fn.ntmps) (i := 0) hm hio
        rw [Nat.zero_add] at this
        exact h2 this
    let Good : Nat ⊕ Nat → Blocks → Blocks → Prop := fun x S2 G => match x with
      | .inl k => ∀ d u,ds[k]? = some d → rus[k]? = some u → OutR S2 w (sg.own.getD k .imm) d u G
      | .inr i => ∀ m d,sg.pm[i]? = some m → m.isIo = true → ioCell st.ob fn.ntmps m i = some d → ∃ u,us[i]? = some u ∧ IoR S2 w m d u G
    have hpar : ∀ x : Nat ⊕ Nat,∃ G : Blocks,(∀ b,G b → ∃ s,T x s ∧ F s b) ∧ ∀ S2 : Blocks,(∀ b,S b → S2 b) → (∀ s ∈ immLeads st.ob sg.own cs ++ ioLeads st.ob fn.ntmps sg.pm 0,∀ o,getOb st.ob s = some o → ∀ b,F s b → S2 b) →
        (∀ s b,T x s → F s b → ¬ G b → S2 b) → Good x S2 G := by
      intro x
      cases x with
      | inl k =>
        cases hc : cs[k]? with
        | none =>
          refine ⟨fun _ => False,fun _ h => h.elim,fun S2 _ _ _ d u hd hu => ?_⟩
          have := List.getElem?_eq_none_iff.1 hc
          rw [List.getElem?_eq_none (by omega)] at hu; cases hu
        | some c =>
          have hlt := (List.getElem?_eq_some_iff.1 hc).1
          obtain ⟨u0,hu0,hv⟩ := hcs.get hc
          have hd0 := hdg k c ds[k] hc (List.getElem?_eq_getElem (by omega))
          have fin : ∀ G : Blocks,(∀ b,G b → ∃ s,s ∈ out1 (sg.own.getD k .imm) c ∧ F s b) → (∀ S2 : Blocks,(∀ b,S b → S2 b) → (∀ s ∈ immLeads st.ob sg.own cs ++ ioLeads st.ob fn.ntmps sg.pm 0,∀ o,getOb st.ob s = some o → ∀ b,F s b → S2 b) →
              (∀ s b,s ∈ out1 (sg.own.getD k .imm) c → F s b → ¬ G b → S2 b) → OutR S2 w (sg.own.getD k .imm) ds[k] u0 G) →
              ∃ G : Blocks,(∀ b,G b → ∃ s,T (.inl k) s ∧ F s b) ∧ ∀ S2 : Blocks,(∀ b,S b → S2 b) → (∀ s ∈ immLeads st.ob sg.own cs ++ ioLeads st.ob fn.ntmps sg.pm 0,∀ o,getOb st.ob s = some o → ∀ b,F s b → S2 b) →
                (∀ s b,T (.inl k) s → F s b → ¬ G b → S2 b) → Good (.inl k) S2 G := by
            intro G h1 h2
            refine ⟨G,fun b hb => ?_,fun S2 hS2 hl2 hF2 d u hd hu => ?_⟩
            · obtain ⟨s,h3,h4⟩ := h1 b hb; exact ⟨s,⟨c,hc,h3⟩,h4⟩
            · rw [List.getElem?_eq_getElem (by omega)] at hd
              obtain rfl := Option.some.inj hd
              rw [hu0] at hu
              obtain rfl := Option.some.inj hu
              exact h2 S2 hS2 hl2 fun s b h3 h4 h5 => hF2 s b ⟨c,hc,h3⟩ h4 h5
          generalize ds[k] = d0 at hd0 fin
          have mainArr : ∀ (m : RM) (s : Nat),sg.own.getD k .imm = m → m ≠ .imm → c = .arr s → (match getOb st.ob s with | some (.arr t xs d false false) => if m = .deep ∧ d = false then none else some (⟨.sl t,xs⟩ : Dv) | _ => none) = some d0 →
              ∃ G : Blocks,(∀ b,G b → ∃ s,T (.inl k) s ∧ F s b) ∧ ∀ S2 : Blocks,(∀ b,S b → S2 b) → (∀ s ∈ immLeads st.ob sg.own cs ++ ioLeads st.ob fn.ntmps sg.pm 0,∀ o,getOb st.ob s = some o → ∀ b,F s b → S2 b) →
                (∀ s b,T (.inl k) s → F s b → ¬ G b → S2 b) → Good (.inl k) S2 G := by
            intro m s hm hne hcs' hq0
            subst hcs'
            split at hq0
            · rename_i t xs d ho
              split at hq0
              · cases hq0
              · rename_i hdd
                obtain rfl := Option.some.inj hq0
                have hown : OwnArr S w d t xs (g s) (F s) := hs.ob s _ ho
                obtain ⟨Fi,h1,h2⟩ := hown.hand (dp := m == .deep) (fun hdp => by
                  have hm2 : m = .deep := by cases m <;> first | rfl | cases hdp
                  cases d with
                  | true => rfl
                  | false => exact absurd ⟨hm2,rfl⟩ hdd)
                have ho1 : out1 m (.arr s) = [s] := by cases m <;> first | exact absurd rfl hne | rfl
                rw [hm] at fin
                refine fin Fi (fun b hb => ⟨s,by rw [ho1]; simp,h1 b hb⟩) fun S2 hS2 _ hF2 => ?_
                obtain ⟨rfl,_⟩ := hv
                have := h2 S2 hS2 fun b hb hn => hF2 s b (by rw [ho1]; simp) hb hn
                cases m with
                | imm => exact absurd rfl hne
                | own => exact this
                | deep => exact this
            · cases hq0
          have mainSub : ∀ (m : RM) (s hi sz : Nat),sg.own.getD k .imm = m → m ≠ .imm → c = .sub s 0 hi sz → (match getOb st.ob s with | some (.arr t xs d false false) => if m = .deep ∧ d = false then none else if sz = t.size then some (⟨.sl t,(xs.take hi).drop 0⟩ : Dv) else none | _ => none) = some d0 →
              ∃ G : Blocks,(∀ b,G b → ∃ s,T (.inl k) s ∧ F s b) ∧ ∀ S2 : Blocks,(∀ b,S b → S2 b) → (∀ s ∈ immLeads st.ob sg.own cs ++ ioLeads st.ob fn.ntmps sg.pm 0,∀ o,getOb st.ob s = some o → ∀ b,F s b → S2 b) →
                (∀ s b,T (.inl k) s → F s b → ¬ G b → S2 b) → Good (.inl k) S2 G := by
            intro m s hi sz hm hne hcs' hq0
            subst hcs'
            split at hq0
            · rename_i t xs d ho
              split at hq0
              · cases hq0
              · rename_i hdd
                split at hq0
                · rename_i hsz
                  obtain rfl := Option.some.inj hq0
                  have hown : OwnArr S w d t xs (g s) (F s) := hs.ob s _ ho
                  obtain ⟨Fi,h1,h2⟩ := hown.hand (dp := m == .deep) (fun hdp => by
                    have hm2 : m = .deep := by cases m <;> first | rfl | cases hdp
                    cases d with
                    | true => rfl
                    | false => exact absurd ⟨hm2,rfl⟩ hdd)
                  have ho1 : out1 m (.sub s 0 hi sz) = [s] := by cases m <;> first | exact absurd rfl hne | rfl
                  rw [hm] at fin
                  refine fin Fi (fun b hb => ⟨s,by rw [ho1]; simp,h1 b hb⟩) fun S2 hS2 _ hF2 => ?_
                  have := h2 S2 hS2 fun b hb hn => hF2 s b (by rw [ho1]; simp) hb hn
                  obtain ⟨A,n,cc,A',hgs,rfl,_,hhn,hA⟩ := hv
                  have := this.cut hgs hhn hA
                  cases m with
                  | imm => exact absurd rfl hne
                  | own => exact this
                  | deep => exact this
                · cases hq0
            · cases hq0
          have mainNil : ∀ (m : RM) (t : Ty),sg.own.getD k .imm = m → m ≠ .imm → c = .nils t → some (⟨.sl t,([] : List t.T)⟩ : Dv) = some d0 →
              ∃ G : Blocks,(∀ b,G b → ∃ s,T (.inl k) s ∧ F s b) ∧ ∀ S2 : Blocks,(∀ b,S b → S2 b) → (∀ s ∈ immLeads st.ob sg.own cs ++ ioLeads st.ob fn.ntmps sg.pm 0,∀ o,getOb st.ob s = some o → ∀ b,F s b → S2 b) →
                (∀ s b,T (.inl k) s → F s b → ¬ G b → S2 b) → Good (.inl k) S2 G := by
            intro m t hm hne hcs' hq0
            subst hcs'
            obtain rfl := Option.some.inj hq0
            obtain ⟨A,rfl⟩ := hv
            rw [hm] at fin
            refine fin (fun _ => False) (fun _ h => h.elim) fun S2 _ _ _ => ?_
            cases m with
            | imm => exact absurd rfl hne
            | own => exact ⟨A,0,rfl,⟨Nat.le_refl _,Nat.zero_le _⟩,.inl rfl⟩
            | deep => exact ⟨A,0,rfl,⟨Nat.le_refl _,Nat.zero_le _⟩,.inl rfl⟩
          cases hm : sg.own.getD k .imm with
          | imm =>
            rw [hm] at hd0 fin
            refine fin (fun _ => False) (fun _ h => h.elim) fun S2 hS2 hl2 _ => ?_
            exact frz_sound hs hd0 hv hS2 fun s hs' => hl2 s (List.mem_append.2 (.inl (mem_immLeads hc hm hs')))
          | own =>
            rw [hm] at hd0
            cases c with
            | arr s => exact mainArr .own s hm (by simp) rfl hd0
            | sub s lo hi sz =>
              cases lo with
              | zero => exact mainSub .own s hi sz hm (by simp) rfl hd0
              | succ => cases hd0
            | nils t => exact mainNil .own t hm (by simp) rfl hd0
            | _ => cases hd0
          | deep =>
            rw [hm] at hd0
            cases c with
            | arr s => exact mainArr .deep s hm (by simp) rfl hd0
            | sub s lo hi sz =>
              cases lo with
              | zero => exact mainSub .deep s hi sz hm (by simp) rfl hd0
              | succ => cases hd0
            | nils t => exact mainNil .deep t hm (by simp) rfl hd0
            | _ => cases hd0
      | inr i =>
        cases hm : sg.pm[i]? with
        | none => exact ⟨fun _ => False,fun _ h => h.elim,fun S2 _ _ _ m d hm' _ _ => by rw [hm] at hm'; cases hm'⟩
        | some m =>
          cases hio : m.isIo with
          | false => exact ⟨fun _ => False,fun _ h => h.elim,fun S2 _ _ _ m' d hm' hio' _ => by
              rw [hm] at hm'
              obtain rfl := Option.some.inj hm'
              rw [hio] at hio'; cases hio'⟩
          | true =>
            have hT : T (.inr i) (fn.ntmps + i) := ⟨rfl,m,hm,hio⟩
            obtain ⟨o,ho,hof,hox⟩ := hob (.inr i) _ hT
            have hfx := hs.fx _ o ho hox
            have hfx' : g (fn.ntmps + i) = us.getD i Go.undef := by
              rw [hfx]
              show us.getD (fn.ntmps + i - fn.ntmps) Go.undef = _
              rw [Nat.add_sub_cancel_left]
            have hus : ∀ u,g (fn.ntmps + i) = u → u ≠ Go.undef → us[i]? = some u := by
              intro u hu hne
              rw [hfx',List.getD_eq_getElem?_getD] at hu
              cases hui : us[i]? with
              | none => rw [hui] at hu; exact absurd hu.symm hne
              | some v => rw [hui] at hu; rw [← hu]; rfl
            cases m with
            | imm => cases hio
            | take dp => cases hio
            | io dp =>
              cases hcell : ioCell st.ob fn.ntmps (.io dp) i with
              | none => exact ⟨fun _ => False,fun _ h => h.elim,fun S2 _ _ _ m' d hm' hio' hc' => by
                  rw [hm] at hm'
                  obtain rfl := Option.some.inj hm'
                  rw [hcell] at hc'; cases hc'⟩
              | some d0 =>
                have hcell' := hcell
                unfold ioCell at hcell'
                simp only [ho] at hcell'
                split at hcell'
                · rename_i t xs d he
                  obtain rfl := Option.some.inj he
                  split at hcell'
                  · cases hcell'
                  · rename_i hdd
                    obtain rfl := Option.some.inj hcell'
                    have hown : OwnArr S w d t xs (g (fn.ntmps + i)) (F (fn.ntmps + i)) := hs.ob _ _ ho
                    obtain ⟨Fi,h1,h2⟩ := hown.hand (dp := dp) (fun hdp => by simpa [hdp] using hdd)
                    refine ⟨Fi,fun b hb => ⟨_,hT,h1 b hb⟩,fun S2 hS2 _ hF2 m' d' hm' _ hc' => ?_⟩
                    rw [hm] at hm'
                    obtain rfl := Option.some.inj hm'
                    rw [hcell] at hc'
                    obtain rfl := Option.some.inj hc'
                    have h3 := h2 S2 hS2 fun b hb hn => hF2 _ b hT hb hn
                    refine ⟨g (fn.ntmps + i),hus _ rfl ?_,h3⟩
                    obtain ⟨A,c,hv,_⟩ := hown
                    rw [hv]; intro h; cases h
                · cases hcell'
            | iob =>
              cases hcell : ioCell st.ob fn.ntmps .iob i with
              | none => exact ⟨fun _ => False,fun _ h => h.elim,fun S2 _ _ _ m' d hm' hio' hc' => by
                  rw [hm] at hm'
                  obtain rfl := Option.some.inj hm'
                  rw [hcell] at hc'; cases hc'⟩
              | some d0 =>
                have hcell' := hcell
                unfold ioCell at hcell'
                simp only [ho] at hcell'
                split at hcell'
                · rename_i cells he
                  obtain rfl := Option.some.inj he
                  obtain ⟨b,arr,e,hg,hFb,hh,hcs0⟩ := hs.ob _ _ ho
                  simp only [frz,frzN,frzWith,ho] at hcell'
                  obtain ⟨dd,hmm,rfl⟩ := Option.map_eq_some_iff.1 hcell'
                  refine ⟨fun b' => F (fn.ntmps + i) b' ∧ b' = b,fun b' hb' => ⟨_,hT,hb'.1⟩,fun S2 hS2 hl2 hF2 m' d' hm' _ hc' => ?_⟩
                  rw [hm] at hm'
                  obtain rfl := Option.some.inj hm'
                  rw [hcell] at hc'
                  obtain rfl := Option.some.inj hc'
                  refine ⟨g (fn.ntmps + i),hus _ rfl (by rw [hg]; intro h; cases h),b,arr,e,hg,⟨hFb,rfl⟩,hh,?_⟩
                  rw [List.drop_zero] at hmm
                  refine Rp_pack hmm hcs0 fun c' hc' u' d' hd' hv' => frzN_sound hs 2 hd' hv' hS2 fun s' hs' => hl2 s' ?_
                  refine List.mem_append.2 (.inr (mem_ioLeads (i := 0) hm ?_))
                  rw [Nat.zero_add]
                  simp only [leads,leadsN,ho,List.tail_cons,List.mem_flatMap]
                  exact ⟨c',hc',hs'⟩
                · cases hcell'
    have hG1 := fun x => (Classical.choose_spec (hpar x)).1
    have hG2 := fun x => (Classical.choose_spec (hpar x)).2
    generalize hGG : (fun x => Classical.choose (hpar x)) = G
    have hG1 : ∀ x b,G x b → ∃ s,T x s ∧ F s b := by subst hGG; exact hG1
    have hG2 : ∀ x,∀ S2 : Blocks,(∀ b,S b → S2 b) → (∀ s ∈ immLeads st.ob sg.own cs ++ ioLeads st.ob fn.ntmps sg.pm 0,∀ o,getOb st.ob s = some o → ∀ b,F s b → S2 b) →
        (∀ s b,T x s → F s b → ¬ G x b → S2 b) → Good x S2 (G x) := by subst hGG; exact hG2
    let S2 : Blocks := fun b => S b ∨ (∃ s ∈ immLeads st.ob sg.own cs ++ ioLeads st.ob fn.ntmps sg.pm 0,(∃ o,getOb st.ob s = some o) ∧ F s b) ∨ ∃ x s,T x s ∧ F s b ∧ ¬ G x b
    have hgood : ∀ x,Good x S2 (G x) := fun x => hG2 x S2 (fun _ h => .inl h) (fun s hs' o ho b hb => .inr (.inl ⟨s,hs',⟨o,ho⟩,hb⟩)) fun s b hT hF hn => .inr (.inr ⟨x,s,hT,hF,hn⟩)
    have hdisT : ∀ x s,T x s → ∀ s' o',s' ≠ s → getOb st.ob s' = some o' → ∀ b,F s b → ¬ F s' b := by
      intro x s hT s' o' hne ho' b hb hb'
      obtain ⟨o,ho,hof,_⟩ := hob x s hT
      cases hq : o'.frozen with
      | true => exact (hs.prv s o ho hof b hb).1 (hs.frz s' o' ho' hq b hb')
      | false => exact hs.dis s s' o o' (Ne.symm hne) ho ho' hof hq b hb hb'
    have hGS : ∀ x b,G x b → ¬ S2 b ∧ b < w.heap.size ∧ (w0.heap.size ≤ b ∨ ∃ i,FP i b) := by
      intro x b hb
      obtain ⟨s,hT,hF⟩ := hG1 x b hb
      obtain ⟨o,ho,hof,_⟩ := hob x s hT
      refine ⟨?_,hs.szF s o ho b hF,(hs.prv s o ho hof b hF).2⟩
      rintro (h1 | ⟨s',hs',⟨o',ho'⟩,hF'⟩ | ⟨y,s',hT',hF',hn⟩)
      · exact (hs.prv s o ho hof b hF).1 h1
      · exact hdisT x s hT s' o' (fun e => hTL x s hT (e ▸ hs')) ho' b hF hF'
      · by_cases hss : s' = s
        · subst hss
          have := hTinj x y s' hT hT'
          subst this
          exact hn hb
        · obtain ⟨o',ho',_⟩ := hob y s' hT'
          exact hdisT x s hT s' o' hss ho' b hF hF'
    have hGd : ∀ x y b,x ≠ y → G x b → ¬ G y b := by
      intro x y b hxy hx hy
      obtain ⟨s,hT,hF⟩ := hG1 x b hx
      obtain ⟨s',hT',hF'⟩ := hG1 y b hy
      obtain ⟨o',ho',_⟩ := hob y s' hT'
      refine hdisT x s hT s' o' (fun e => hxy ?_) ho' b hF hF'
      subst e
      exact hTinj x y s' hT hT'
    have hnres : cs.length = nres sg := by rw [← hrcl,hrl]; rfl
    refine ⟨rus,S2,fun k => G (.inl k),fun i => G (.inr i),hrun,?_⟩
    refine { mS := fun b h => .inl (hs.S0 b h),sub := ?_,szS := ?_,size := hs.mono,kin := hs.kin,keep := ?_,gr := fun k b h => hGS _ b h,gp := fun k b h => hGS _ b h,drr := fun j k b hjk => hGd _ _ b (by simpa using hjk),dpp := fun j k b hjk => hGd _ _ b (by simpa using hjk),drp := fun j k b => hGd _ _ b (by simp),len := by rw [hrl]; rfl,lenO := ?_,res := ?_,ios := ?_ }
    · rintro b (h1 | ⟨s',hs',⟨o',ho'⟩,hF'⟩ | ⟨y,s',hT',hF',hn⟩)
      · exact hs.SO b h1
      · cases hq : o'.frozen with
        | true => exact hs.SO b (hs.frz s' o' ho' hq b hF')
        | false => exact .inr (hs.prv s' o' ho' hq b hF').2
      · obtain ⟨o',ho',hof,_⟩ := hob y s' hT'
        exact .inr (hs.prv s' o' ho' hof b hF').2
    · rintro b (h1 | ⟨s',hs',⟨o',ho'⟩,hF'⟩ | ⟨y,s',hT',hF',hn⟩)
      · exact hs.szS b h1
      · exact hs.szF s' o' ho' b hF'
      · obtain ⟨o',ho',_⟩ := hob y s' hT'
        exact hs.szF s' o' ho' b hF'
    · intro b hb' hn
      exact hs.keep b hb' (by rintro (h | ⟨i,h⟩); exact absurd hb' (by show ¬ b < w0.heap.size; omega); exact hn i h)
    · rw [unpack_pack,List.length_append,hdl,hnres]; omega
    · intro k d u hk hd hu
      rw [unpack_pack,List.getElem?_append_left (by omega)] at hd
      exact hgood (.inl k) d u hd hu
    · rw [unpack_pack,List.drop_append_of_le_length (by omega),List.drop_of_length_le (by omega),List.nil_append]
      refine ios_of hq fun k m d hm hio hc => ?_
      rw [Nat.zero_add] at hc ⊢
      exact hgood (.inr k) m d hm hio hc

theorem fn_sound {E : Env} (hE : EnvOk E) {R : Run} (hR : RunOk E R) (hRw : ∀ o f,R.w o f = o.bind f) {sg : Sig} {pol : Pol} {fn : Func} {N f : Nat} {args : List Dv} {dv : Dv} (hf : E.P.funcs[f]? = some fn)
    (h : evFn E R sg pol fn N args = some dv) : Contract E.P sg f args dv := by
  intro w S us FP hS hFP hFd hl hp
  unfold evFn at h
  cases hb : fn.body with
  | none => rw [hb] at h; cases h
  | some code =>
    rw [hb] at h
    simp only at h
    obtain ⟨p,hcells,h⟩ := Option.bind_eq_some_iff.1 h
    obtain ⟨fr,hfr,h⟩ := Option.bind_eq_some_iff.1 h
    have hAl : (argsOf sg.ps us).length = fr.length := by
      have h1 : ∀ (gs : List (Bool × Nat)) (us : List Value),(argsOf gs us).length = gs.length := by
        intro gs
        induction gs with
        | nil => intro us; rfl
        | cons p gs ih => intro us; obtain ⟨a,n⟩ := p; simp [argsOf,ih]
      have h2 : ∀ (gs : List (Bool × Nat)) (cs : List V0) (fr : List V),enterV gs cs = some fr → fr.length = gs.length := by
        intro gs
        induction gs with
        | nil => intro cs fr h; cases cs with
          | nil => obtain rfl := Option.some.inj h; rfl
          | cons => simp [enterV] at h
        | cons p gs ih =>
          intro cs fr h
          obtain ⟨a,n⟩ := p
          cases a with
          | false =>
            cases cs with
            | nil => rcases n with _ | _ | n <;> simp [enterV] at h
            | cons c cs =>
              rcases n with _ | _ | n
              · simp [enterV] at h
              · have h' : (enterV gs cs).map (V.c c :: ·) = some fr := h
                obtain ⟨fr',h3,rfl⟩ := Option.map_eq_some_iff.1 h'
                simp [ih _ _ h3]
              · simp [enterV] at h
          | true =>
            have h' : (if n ≤ cs.length then (enterV gs (cs.drop n)).map (V.agg (cs.take n) :: ·) else none) = some fr := by
              rw [← h]; cases cs <;> rfl
            split at h'
            · obtain ⟨fr',h3,rfl⟩ := Option.map_eq_some_iff.1 h'
              simp [ih _ _ h3]
            · cases h'
      rw [h1,h2 _ _ _ hfr]
    have hsim := enter_sim (sg := sg) (base := fn.ntmps) (n := fn.ntmps - fr.length) (m := fn.ntmps - (argsOf sg.ps us).toArray.size) (by rw [List.size_toArray,hAl]) hS hFP hFd hl hp (fun s => by
      unfold getOb; rw [List.getD_eq_getElem?_getD,List.getElem?_replicate]; split <;> rfl) hcells hfr
    refine calls_of_wp hf hb ?_
    refine code_sound hE hR hRw code (a := { tmps := (argsOf sg.ps us).toArray ++ Array.replicate (fn.ntmps - (argsOf sg.ps us).toArray.size) Go.undef,defers := [] }) hsim h ?_ ?_
    · rintro c a w ⟨_,rus,S',GR,GP,he,_⟩
      cases he
    · intro e st' S' g' F' a' w' h1 h2 h3
      have hfin : finish E sg fn st' = some dv → a'.defers = [] ∧ ∃ v,(results fn a'.tmps).run E.P w' = .ok v w' ∧ ∃ rus S' GR GP,Ending.returned v = .returned (valOf sg.rs rus) ∧ After w S FP sg us dv w' S' rus GR GP := by
        intro h4
        obtain ⟨rus,S2,GR,GP,h5,h6⟩ := finish_sound h1 h4
        exact ⟨h3,_,h5,rus,S2,GR,GP,rfl,h6⟩
      cases e with
      | normal => exact hfin h2
      | ret => exact hfin h2
      | exit i => cases h2

theorem run_sound {E : Env} (hE : EnvOk E) (hprim : ∀ f p,E.prim f = some p → ∀ r,RunOk E (mkR r) → ∀ args dv sg,E.sig f = some sg → p (mkR r) args = some dv → Contract E.P sg f args dv) : ∀ n,RunOk E (mkR (run E n))
  | 0 => fun f args dv sg _ h => by cases h
  | n + 1 => fun f args dv sg hsg h => by
      have ih := run_sound hE hprim n
      have h' : (match E.prim f with
        | some p => p (mkR (run E n)) args
        | none => match E.fn f,E.sig f with
          | some (fn,pol),some sg => evFn E (mkR (run E n)) sg pol fn n args
          | _,_ => none) = some dv := h
      split at h'
      · rename_i p hp; exact hprim f p hp _ ih args dv sg hsg h'
      · split at h'
        · rename_i fn pol sg' hfn hsg'
          rw [hsg] at hsg'
          obtain rfl := Option.some.inj hsg'
          exact fn_sound hE ih (fun _ _ => rfl) (hE.fn f fn pol hfn) h'
        · cases h'
end
end Ve

set_option linter.unusedVariables false
namespace Ve
open Go

def Wf : (t : Ty) → t.T → Prop
  | .int k,n => (Lit.int k n).wf = true
  | .bool,_ => True
  | .str,s => s.size ≤ maxLen
  | .sl t,xs => xs.length ≤ maxLen ∧ ∀ x ∈ xs,Wf t x
  | .ptr c,x => Wf c x
  | .fn _ c,x => Wf c x
  | .lab c,x => Wf c x.2
  | .st c,x => Wf c x
  | .nil,_ => True
  | .cons a b,x => Wf a x.1 ∧ Wf b x.2

def elC : Ty → Ty
  | .st c => c
  | u => .cons u .nil

def layP (P : Program) : Nat → TypeId → Ty → Option Ty
  | 0,_,_ => none
  | n + 1,t,c => match P.underlying t with
    | some (.struct fs) => (fs.toList.foldl (fun (acc : Option (Nat × Ty)) f => acc.bind fun p => if f.offset = p.1 then (layP P n f.type p.2).map fun c' => (p.1 + P.cellsOf f.type,c') else none) (some (0,c))).bind fun p =>
        if p.1 = P.cellsOf t then some p.2 else none
    | some (.int k) => match c with
      | .cons (.int k') b => if k = k' ∧ P.cellsOf t = 1 then some b else none
      | _ => none
    | some .bool => match c with
      | .cons .bool b => if P.cellsOf t = 1 then some b else none
      | _ => none
    | some .string => match c with
      | .cons .str b => if P.cellsOf t = 1 then some b else none
      | _ => none
    | some (.slice e) => match c with
      | .cons (.sl u) b => if P.cellsOf t = 1 ∧ P.cellsOf e = u.size ∧ 0 < u.size ∧ layP P n e (elC u) = some .nil then some b else none
      | _ => none
    | _ => none

section
variable {P : Program} {W : World} {H : Type} {enc : TypeId × Value → H}

theorem trod_open : ∀ (n : Nat) (t : TypeId) (c rest : Ty) (fuel : Nat) (cs : List Value) (x : DataW H × List MemPlace),layP P n t c = some rest → DataW.trod enc P W 0 (fun _ => true) true fuel t cs = some x →
    cs.length = P.cellsOf t ∧ ∀ (y : rest.T) (ws : List Value),Rp (fun b => b < W.heap.size) W rest y ws → Wf rest y → ∃ z : c.T,Rp (fun b => b < W.heap.size) W c z (cs ++ ws) ∧ Wf c z := by
  intro n
  induction n with
  | zero => intro t c rest fuel cs x h; cases h
  | succ n ih =>
    intro t c rest fuel cs x h ht
    unfold layP at h
    split at h
    · rename_i fs hu
      obtain ⟨p,hp,h⟩ := Option.bind_eq_some_iff.1 h
      obtain ⟨xs,m,rfl,rfl,hlen,hxl,hf⟩ := DataW.trod_struct hu ht
      split at h
      · rename_i htot
        obtain rfl := Option.some.inj h
        refine ⟨hlen,?_⟩
        have none_fold : ∀ (l : List Field),l.foldl (fun (acc : Option (Nat × Ty)) f => acc.bind fun p => if f.offset = p.1 then (layP P n f.type p.2).map fun c' => (p.1 + P.cellsOf f.type,c') else none) none = none := by
          intro l; induction l with
          | nil => rfl
          | cons a l ih => exact ih
        have key : ∀ (l : List Field) (off : Nat) (c : Ty) (p : Nat × Ty),(∀ f ∈ l,∃ y,DataW.trod enc P W 0 (fun _ => true) true m f.type ((cs.drop f.offset).take (P.cellsOf f.type)) = some y) →
            l.foldl (fun (acc : Option (Nat × Ty)) f => acc.bind fun p => if f.offset = p.1 then (layP P n f.type p.2).map fun c' => (p.1 + P.cellsOf f.type,c') else none) (some (off,c)) = some p →
            off ≤ p.1 ∧ (p.1 ≤ cs.length → ∀ (y : p.2.T) (ws : List Value),Rp (fun b => b < W.heap.size) W p.2 y ws → Wf p.2 y → ∃ z : c.T,Rp (fun b => b < W.heap.size) W c z ((cs.drop off).take (p.1 - off) ++ ws) ∧ Wf c z) := by
          intro l
          induction l with
          | nil =>
            intro off c p _ h
            obtain rfl := Option.some.inj h
            exact ⟨Nat.le_refl _,fun _ y ws h1 h2 => ⟨y,by simpa using h1,h2⟩⟩
          | cons f l ihl =>
            intro off c p hall h
            rw [List.foldl_cons,Option.bind_some] at h
            simp only at h
            split at h
            · rename_i hoff
              cases hl : layP P n f.type c with
              | none => rw [hl,Option.map_none,none_fold] at h; cases h
              | some c' =>
                rw [hl,Option.map_some] at h
                obtain ⟨h1,h2⟩ := ihl _ c' p (fun f' hf' => hall f' (by simp [hf'])) h
                obtain ⟨x',hx'⟩ := hall f (by simp)
                obtain ⟨h3,h4⟩ := ih f.type c c' m _ x' hl hx'
                refine ⟨by omega,fun hle y ws hr hw => ?_⟩
                obtain ⟨z',hz',hwz'⟩ := h2 hle y ws hr hw
                obtain ⟨z,hz,hwz⟩ := h4 z' _ hz' hwz'
                refine ⟨z,?_,hwz⟩
                have e : (cs.drop off).take (p.1 - off) = (cs.drop f.offset).take (P.cellsOf f.type) ++ (cs.drop (off + P.cellsOf f.type)).take (p.1 - (off + P.cellsOf f.type)) := by
                  rw [hoff]
                  have : p.1 - off = P.cellsOf f.type + (p.1 - (off + P.cellsOf f.type)) := by omega
                  rw [this,List.take_add,List.drop_drop]
                rw [e,List.append_assoc]
                exact hz
            · rw [none_fold] at h; cases h
        have hall : ∀ f ∈ fs.toList,∃ y,DataW.trod enc P W 0 (fun _ => true) true m f.type ((cs.drop f.offset).take (P.cellsOf f.type)) = some y := by
          intro f hfm
          obtain ⟨i,hi⟩ := List.mem_iff_getElem?.1 hfm
          have hi' : fs[i]? = some f := by simpa using hi
          have hlt := (Array.getElem?_eq_some_iff.1 hi').1
          rw [hf i f hi']
          exact ⟨xs[i],List.getElem?_eq_getElem (by omega)⟩
        obtain ⟨_,h2⟩ := key fs.toList 0 c p hall hp
        intro y ws hr hw
        obtain ⟨z,hz,hwz⟩ := h2 (by omega) y ws hr hw
        refine ⟨z,?_,hwz⟩
        rw [List.drop_zero,Nat.sub_zero,htot,← hlen,List.take_length] at hz
        exact hz
      · cases h
    · rename_i k hu
      split at h
      · rename_i k' b
        split at h
        · rename_i hc
          obtain ⟨rfl,h1⟩ := hc
          obtain rfl := Option.some.inj h
          obtain ⟨v,rfl,_,hw⟩ := DataW.trod_int hu ht
          exact ⟨h1.symm,fun y ws hr hwf => ⟨(v,y),⟨[.int k v],ws,rfl,rfl,hr⟩,hw,hwf⟩⟩
        · cases h
      · cases h
    · rename_i hu
      split at h
      · rename_i b
        split at h
        · rename_i h1
          obtain rfl := Option.some.inj h
          obtain ⟨v,rfl,_⟩ := DataW.trod_bool hu ht
          exact ⟨h1.symm,fun y ws hr hwf => ⟨(v,y),⟨[.bool v],ws,rfl,rfl,hr⟩,trivial,hwf⟩⟩
        · cases h
      · cases h
    · rename_i hu
      split at h
      · rename_i b
        split at h
        · rename_i h1
          obtain rfl := Option.some.inj h
          obtain ⟨v,rfl,_,hw⟩ := DataW.trod_string hu ht
          exact ⟨h1.symm,fun y ws hr hwf => ⟨(v,y),⟨[.string v],ws,rfl,rfl,hr⟩,hw,hwf⟩⟩
        · cases h
      · cases h
    · rename_i e hu
      split at h
      · rename_i u b
        split at h
        · rename_i hc
          obtain ⟨h1,hsz,hpos,hle⟩ := hc
          obtain rfl := Option.some.inj h
          rcases DataW.trod_slice hu ht with ⟨rfl,_⟩ | ⟨a,len,cap,elems,rst,m,rfl,rfl,_,_,hlc,hcm,hel,hes,_⟩
          · exact ⟨h1.symm,fun y ws hr hwf => ⟨(([] : List u.T),y),⟨[.slice none 0 0],ws,rfl,⟨none,0,rfl,Nat.le_refl _,.inl rfl⟩,hr⟩,⟨Nat.zero_le _,by simp⟩,hwf⟩⟩
          · refine ⟨h1.symm,fun y ws hr hwf => ?_⟩
            have helem : ∀ i,i < len → ∃ (z : u.T) (us : List Value),Rp (fun b => b < W.heap.size) W u z us ∧ Wf u z ∧ (∀ j,j < u.size → W.cell? ((a.add (i * u.size)).add j) = us[j]?) := by
              intro i hi
              have h2 := hes i hi
              rw [List.getElem?_eq_getElem (by omega)] at h2
              obtain ⟨cs',hcs',hx'⟩ := Option.bind_eq_some_iff.1 h2
              rw [hsz] at hcs'
              have hcell := (World.cells?_some hcs').2.2
              have hclen := (World.cells?_some hcs').2.1
              have gen : ∀ (c' : Ty),layP P n e c' = some .nil → ∃ z : c'.T,Rp (fun b => b < W.heap.size) W c' z cs' ∧ Wf c' z := by
                intro c' hlc'
                obtain ⟨_,h4⟩ := ih e c' .nil m cs' elems[i] hlc' hx'
                obtain ⟨z,hz,hwz⟩ := h4 () [] rfl trivial
                rw [List.append_nil] at hz
                exact ⟨z,hz,hwz⟩
              have single : layP P n e (.cons u .nil) = some .nil → ∃ z : u.T,Rp (fun b => b < W.heap.size) W u z cs' ∧ Wf u z := by
                intro hl
                obtain ⟨z,⟨us1,us2,he,hz1,hz2⟩,hwz,_⟩ := gen _ hl
                cases hz2
                rw [List.append_nil] at he
                subst he
                exact ⟨z.1,hz1,hwz⟩
              have hz : ∃ z : u.T,Rp (fun b => b < W.heap.size) W u z cs' ∧ Wf u z := by
                cases u with
                | st c' => exact gen c' hle
                | _ => exact single hle
              obtain ⟨z,hz1,hz2⟩ := hz
              refine ⟨z,cs',hz1,hz2,fun j hj => ?_⟩
              rw [hcell j (by omega)]
            have hzs : ∃ zs : List u.T,zs.length = len ∧ ∀ (i : Nat) z,zs[i]? = some z → ∃ us : List Value,Rp (fun b => b < W.heap.size) W u z us ∧ Wf u z ∧ (∀ j,j < u.size → W.cell? ((a.add (i * u.size)).add j) = us[j]?) := by
              have build : ∀ k,k ≤ len → ∃ zs : List u.T,zs.length = k ∧ ∀ (i : Nat) z,zs[i]? = some z → ∃ us : List Value,Rp (fun b => b < W.heap.size) W u z us ∧ Wf u z ∧ (∀ j,j < u.size → W.cell? ((a.add (i * u.size)).add j) = us[j]?) := by
                intro k
                induction k with
                | zero => intro _; exact ⟨[],rfl,by simp⟩
                | succ k ihk =>
                  intro hk
                  obtain ⟨zs,hl,hz⟩ := ihk (by omega)
                  obtain ⟨z,us,h5,h6,h7⟩ := helem k (by omega)
                  refine ⟨zs ++ [z],by simp [hl],fun i z' hz' => ?_⟩
                  rcases Nat.lt_or_ge i k with hik | hik
                  · rw [List.getElem?_append_left (by omega)] at hz'
                    exact hz i z' hz'
                  · rw [List.getElem?_append_right (by omega)] at hz'
                    have hik0 : i - zs.length = 0 := by
                      have := (List.getElem?_eq_some_iff.1 hz').1
                      simp at this; omega
                    rw [hik0] at hz'
                    obtain rfl : z = z' := by simpa using hz'
                    obtain rfl : i = k := by omega
                    exact ⟨us,h5,h6,h7⟩
              exact build len (Nat.le_refl _)
            obtain ⟨zs,hzl,hz⟩ := hzs
            refine ⟨(zs,y),⟨[.slice (some a) len cap],ws,rfl,?_,hr⟩,⟨by show zs.length ≤ maxLen; omega,fun z hzm => ?_⟩,hwf⟩
            · refine ⟨some a,cap,by simp [hzl],by show zs.length ≤ cap; omega,?_⟩
              rcases Nat.eq_zero_or_pos len with h0 | h0
              · left; exact List.length_eq_zero_iff.1 (by show zs.length = 0; omega)
              · right
                have hz0 := hz 0 zs[0] (List.getElem?_eq_getElem (by omega))
                obtain ⟨us0,hr0,_,hc0⟩ := hz0
                have h00 := hc0 0 hpos
                have hl0 := Rp.len u _ _ hr0
                rw [List.getElem?_eq_getElem (by omega)] at h00
                have ha0 : (a.add (0 * u.size)).add 0 = a := by simp [Addr.add]
                rw [ha0] at h00
                have hspot : a.spot = none := by
                  unfold World.cell? at h00
                  split at h00
                  · cases hs : a.spot with
                    | none => rfl
                    | some s => rw [hs] at h00; simp at h00
                  · cases h00
                have hblk : a.block < W.heap.size := by
                  unfold World.cell? at h00
                  split at h00
                  · rename_i hh; exact (Array.getElem?_eq_some_iff.1 hh).1
                  · cases h00
                obtain ⟨bb,oo,sp⟩ := a
                simp only at hspot hblk
                subst hspot
                refine ⟨bb,oo,rfl,hblk,fun i z hzi => ?_⟩
                obtain ⟨us,h5,_,h7⟩ := hz i z hzi
                refine ⟨us,h5,fun j v hj => ?_⟩
                have hjl := (List.getElem?_eq_some_iff.1 hj).1
                rw [Rp.len u _ _ h5] at hjl
                have := h7 j hjl
                rw [Addr.add_lit,Addr.add_lit] at this
                rw [this]; exact hj
            · obtain ⟨i,hi⟩ := List.mem_iff_getElem?.1 hzm
              exact (hz i z hi).choose_spec.2.1
        · cases h
      · cases h
    · cases h

theorem open_arg {t : TypeId} {v : Value} {d : DataW H} {p : List MemPlace} (n : Nat) {c rest : Ty} (hl : layP P n t c = some rest) (h : DataW.Trod enc P W 0 (fun _ => true) true t v d p) {y : rest.T} {ws : List Value}
    (hy : Rp (fun b => b < W.heap.size) W rest y ws ∧ Wf rest y) : ∃ z : c.T,Rp (fun b => b < W.heap.size) W c z (v.cells.toList ++ ws) ∧ Wf c z := by
  obtain ⟨fuel,hf⟩ := h
  exact (trod_open n t c rest fuel _ _ hl hf).2 y ws hy.1 hy.2

def isChain : Ty → Bool
  | .cons _ b => isChain b
  | .nil => true
  | _ => false

theorem Rp_cells {S : Blocks} : ∀ {c : Ty} {x : c.T} {us : List Value},isChain c = true → Rp S W c x us → (chainTys c).all Ty.sc = true →
    us.length = (unpack c x).length ∧ ∀ (i : Nat) d u,(unpack c x)[i]? = some d → us[i]? = some u → Rp S W d.t d.x [u]
  | .cons a b,x,us,hc,⟨u1,u2,he,h1,h2⟩,hs => by
      subst he
      simp only [chainTys,List.all_cons,Bool.and_eq_true] at hs
      have hl1 := Rp.len a _ _ h1
      rw [sc_size hs.1] at hl1
      obtain ⟨u0,rfl⟩ := List.length_eq_one_iff.1 hl1
      obtain ⟨h3,h4⟩ := Rp_cells (c := b) hc h2 hs.2
      refine ⟨by simp [unpack,h3],fun i d u hd hu => ?_⟩
      cases i with
      | zero =>
        simp only [unpack,List.getElem?_cons_zero,Option.some.injEq] at hd
        simp at hu
        subst hd; subst hu
        exact h1
      | succ i =>
        simp only [unpack,List.getElem?_cons_succ] at hd
        exact h4 i d u hd (by simpa using hu)
  | .nil,x,us,_,h,_ => by cases h; exact ⟨rfl,fun i d u hd => by simp [unpack] at hd⟩
  | .int _,_,_,hc,_,_ => by cases hc
  | .bool,_,_,hc,_,_ => by cases hc
  | .str,_,_,hc,_,_ => by cases hc
  | .sl _,_,_,hc,_,_ => by cases hc
  | .ptr _,_,_,hc,_,_ => by cases hc
  | .fn _ _,_,_,hc,_,_ => by cases hc
  | .lab _,_,_,hc,_,_ => by cases hc
  | .st _,_,_,hc,_,_ => by cases hc

theorem argsOf_agg {cs : Array Value} {n : Nat} {gs : List (Bool × Nat)} {ws : List Value} (h : cs.size = n) : argsOf ((true,n) :: gs) ((Value.agg cs).cells.toList ++ ws) = .agg cs :: argsOf gs ws := by
  have e : (Value.agg cs).cells.toList = cs.toList := rfl
  have hl : cs.toList.length = n := by simpa using h
  simp only [argsOf,e,if_true]
  rw [List.take_append_of_le_length (by omega),List.take_of_length_le (by omega),List.drop_append_of_le_length (by omega),List.drop_of_length_le (by omega),List.nil_append]

theorem argsOf_one {v : Value} {gs : List (Bool × Nat)} {ws : List Value} : argsOf ((false,1) :: gs) (v :: ws) = v :: argsOf gs ws := by
  simp [argsOf]

theorem fn_ok {E : Env} {L : List (Option (Func × Pol))} {mask : List Bool} (hE : E.fn = fun f => L.getD f none) (h : L.map (·.map Prod.fst) = (List.range L.length).map fun i => bif mask.getD i false then E.P.funcs[i]? else none) :
    ∀ f fn pol,E.fn f = some (fn,pol) → E.P.funcs[f]? = some fn := by
  intro f fn pol hf
  rw [hE] at hf
  simp only [List.getD_eq_getElem?_getD] at hf
  cases hl : L[f]? with
  | none => rw [hl] at hf; cases hf
  | some o =>
    rw [hl] at hf
    simp only [Option.getD_some] at hf
    subst hf
    have h1 := congrArg (·[f]?) h
    have hlt := (List.getElem?_eq_some_iff.1 hl).1
    simp only [List.getElem?_map,hl,Option.map_some] at h1
    rw [List.getElem?_range hlt] at h1
    simp only [Option.map_some,Option.some.injEq] at h1
    cases hm : mask.getD f false with
    | true => rw [hm,cond_true] at h1; exact h1.symm
    | false => rw [hm,cond_false] at h1; cases h1

theorem call_ok {E : Env} {L : List (Option Sig)} (hE : E.sig = fun f => L.getD f none) (h : ((List.range L.length).all fun i => match L.getD i none with
    | none => true
    | some _ => match E.P.funcs[i]? with
      | some fn => fn.body.isSome && !(fn.name == "runtime.NumGoroutine")
      | none => false) = true) : ∀ f sg,E.sig f = some sg → ∀ (args : Array Value) (w : World),(callFunc f args).run E.P w = .ok (.enter f args) w := by
  intro f sg hf args w
  rw [hE] at hf
  have hlt : f < L.length := by
    simp only [List.getD_eq_getElem?_getD] at hf
    cases hl : L[f]? with
    | none => rw [hl] at hf; cases hf
    | some o => exact (List.getElem?_eq_some_iff.1 hl).1
  have h1 := List.all_eq_true.1 h f (List.mem_range.2 hlt)
  have hf' : L.getD f none = some sg := hf
  rw [hf'] at h1
  simp only at h1
  cases hfn : E.P.funcs[f]? with
  | none => rw [hfn] at h1; cases h1
  | some fn =>
    rw [hfn] at h1
    simp only [Bool.and_eq_true,Bool.not_eq_true'] at h1
    obtain ⟨c,hc⟩ := Option.isSome_iff_exists.1 h1.1
    have h2 : fn.name ≠ "runtime.NumGoroutine" := by simpa using h1.2
    simp [callFunc,hfn,h2,hc]

theorem law_calls {E : Env} (hE : EnvOk E) (hprim : ∀ f p,E.prim f = some p → ∀ r,RunOk E (mkR r) → ∀ args dv sg,E.sig f = some sg → p (mkR r) args = some dv → Contract E.P sg f args dv)
    {f : FuncId} {sg : Sig} (hsg : E.sig f = some sg) (hpm : sg.pm = []) (hown : sg.own = []) (hrs : sg.rs = [(false,1)]) {c : Ty} (hc : isChain c = true) (hsc : (chainTys c).all Ty.sc = true) {x : c.T}
    {N : Nat} (hrun : run E N f (unpack c x) = some ⟨.cons .bool .nil,(true,())⟩) {us : List Value} (hr : Rp (fun b => b < W.heap.size) W c x us) :
    Calls E.P f (argsOf sg.ps us).toArray W fun e w' => e = .returned (.bool true) ∧ RowKit.Below W.heap.size W w' := by
  have hcon := run_sound hE hprim N f (unpack c x) _ sg hsg hrun
  obtain ⟨hl,hg⟩ := Rp_cells hc hr hsc
  refine (hcon W (fun b => b < W.heap.size) us (fun _ _ => False) (fun _ h => h) (fun _ _ h => h.elim) (fun _ _ _ _ h => h.elim) hl (fun i d u hd hu => ?_)).mono ?_
  · rw [hpm]
    show Rp _ W d.t d.x [u]
    exact hg i d u hd hu
  · rintro e w' ⟨rus,S',GR,GP,rfl,hA⟩
    have hn : nres sg = 1 := by unfold nres; rw [hrs]; rfl
    have hl1 : rus.length = 1 := by rw [hA.len,hn]
    obtain ⟨u,rfl⟩ := List.length_eq_one_iff.1 hl1
    have hres := hA.res 0 ⟨.bool,true⟩ u (by omega) rfl rfl
    rw [hown] at hres
    have hu : u = .bool true := by
      have : Rp S' w' .bool true [u] := hres
      simpa [Rp] using this
    refine ⟨by rw [hrs,hu]; rfl,?_⟩
    exact ⟨hA.kin.1,hA.kin.2.1,hA.kin.2.2.1,hA.size,fun b hb => hA.keep b hb fun _ h => h⟩
end
end Ve

set_option linter.unusedVariables false
namespace Ve
open Go

def Evt (p : Nat → Prop) : Prop := ∃ n0,∀ n,n0 ≤ n → p n

theorem Evt.of {p : Nat → Prop} (h : ∀ n,p n) : Evt p := ⟨0,fun n _ => h n⟩
theorem Evt.mono {p q : Nat → Prop} (h : Evt p) (hpq : ∀ n,p n → q n) : Evt q := let ⟨n0,h⟩ := h; ⟨n0,fun n hn => hpq n (h n hn)⟩
theorem Evt.and {p q : Nat → Prop} (h : Evt p) (k : Evt q) : Evt fun n => p n ∧ q n :=
  let ⟨a,h⟩ := h; let ⟨b,k⟩ := k; ⟨max a b,fun n hn => ⟨h n (Nat.le_trans (Nat.le_max_left a b) hn),k n (Nat.le_trans (Nat.le_max_right a b) hn)⟩⟩
theorem Evt.succ {p : Nat → Prop} (h : Evt fun n => p (n + 1)) : Evt p := let ⟨a,h⟩ := h; ⟨a + 1,fun n hn => by
  obtain ⟨m,rfl⟩ : ∃ m,n = m + 1 := ⟨n - 1,by omega⟩
  exact h m (by omega)⟩
theorem Evt.ge (k : Nat) : Evt fun n => k ≤ n := ⟨k,fun _ h => h⟩
theorem Evt.bind {p q : Nat → Prop} (h : Evt p) (k : Evt fun n => p n → q n) : Evt q := (h.and k).mono fun _ h => h.2 h.1
theorem Evt.lt {p : Nat → Nat → Prop} {k : Nat} (h : ∀ i,i < k → Evt (p i)) : Evt fun n => ∀ i,i < k → p i n := by
  induction k with
  | zero => exact ⟨0,fun _ _ i hi => by omega⟩
  | succ k ih =>
    refine ((ih fun i hi => h i (by omega)).and (h k (by omega))).mono fun n hh i hi => ?_
    rcases Nat.lt_or_ge i k with h3 | h3
    · exact hh.1 i h3
    · obtain rfl : i = k := by omega
      exact hh.2
theorem Evt.some {p : Nat → Prop} (h : Evt p) : ∃ n,p n := let ⟨a,h⟩ := h; ⟨a,h a (Nat.le_refl _)⟩

def Ret (E : Env) (f : Nat) (args : List Dv) (d : Dv) : Prop := Evt fun n => run E n f args = .some d

theorem callT_of {E : Env} {n f : Nat} {out : Ty} {args : List Dv} {x : out.T} (h : run E n f args = some ⟨out,x⟩) : callT (mkR (run E n)) f out args = some x := by
  simp [callT,mkR,h,Dv.to,cast?]

theorem mk_ok {E : Env} {n : Nat} : (mkR (run E n)).ok := mkR_ok _

theorem loop_evt {α : Type} {L : Nat → Nat → Int → α → Option Dv} {len : Nat} {r : Option Dv} (Inv : Nat → α → Prop)
    (step : ∀ k acc,k < len → Inv k acc → (Evt fun m => ∀ n,L m (n + 1) (k : Int) acc = r) ∨ ∃ acc',Inv (k + 1) acc' ∧ Evt fun m => ∀ n,L m (n + 1) (k : Int) acc = L m n ((k + 1 : Nat) : Int) acc')
    (fin : ∀ acc,Inv len acc → Evt fun m => ∀ n,L m (n + 1) (len : Int) acc = r) :
    ∀ d k acc,k + d = len → Inv k acc → Evt fun m => ∀ n,d < n → L m n (k : Int) acc = r := by
  intro d
  induction d with
  | zero =>
    intro k acc hk hi
    obtain rfl : k = len := by omega
    refine (fin acc hi).mono fun m h n hn => ?_
    obtain ⟨n,rfl⟩ : ∃ j,n = j + 1 := ⟨n - 1,by omega⟩
    exact h n
  | succ d ih =>
    intro k acc hk hi
    rcases step k acc (by omega) hi with h | ⟨acc',hi',h⟩
    · refine h.mono fun m h n hn => ?_
      obtain ⟨n,rfl⟩ : ∃ j,n = j + 1 := ⟨n - 1,by omega⟩
      exact h n
    · refine (h.and (ih (k + 1) acc' (by omega) hi')).mono fun m ⟨h1,h2⟩ n hn => ?_
      obtain ⟨n,rfl⟩ : ∃ j,n = j + 1 := ⟨n - 1,by omega⟩
      rw [h1 n]
      exact h2 n (by omega)

theorem loop0 {α : Type} {L : Nat → Nat → Int → α → Option Dv} {len : Nat} {r : Option Dv} (Inv : Nat → α → Prop)
    (step : ∀ k acc,k < len → Inv k acc → (Evt fun m => ∀ n,L m (n + 1) (k : Int) acc = r) ∨ ∃ acc',Inv (k + 1) acc' ∧ Evt fun m => ∀ n,L m (n + 1) (k : Int) acc = L m n ((k + 1 : Nat) : Int) acc')
    (fin : ∀ acc,Inv len acc → Evt fun m => ∀ n,L m (n + 1) (len : Int) acc = r) (acc : α) (h0 : Inv 0 acc) : Evt fun m => L m m (0 : Int) acc = r := by
  have h := loop_evt Inv step fin len 0 acc (by omega) h0
  exact (h.and (Evt.ge (len + 1))).mono fun m ⟨h1,h2⟩ => h1 m (by omega)

theorem loop_ex {α : Type} {L : Nat → Nat → Int → α → Option Dv} {len : Nat} (Inv : Nat → α → Prop) (Good : Option Dv → Prop)
    (step : ∀ k acc,k < len → Inv k acc → (∃ r,Good r ∧ Evt fun m => ∀ n,L m (n + 1) (k : Int) acc = r) ∨ ∃ acc',Inv (k + 1) acc' ∧ Evt fun m => ∀ n,L m (n + 1) (k : Int) acc = L m n ((k + 1 : Nat) : Int) acc')
    (fin : ∀ acc,Inv len acc → ∃ r,Good r ∧ Evt fun m => ∀ n,L m (n + 1) (len : Int) acc = r) (acc : α) (h0 : Inv 0 acc) : ∃ r,Good r ∧ Evt fun m => L m m (0 : Int) acc = r := by
  have key : ∀ d k acc,k + d = len → Inv k acc → ∃ r,Good r ∧ Evt fun m => ∀ n,d < n → L m n (k : Int) acc = r := by
    intro d
    induction d with
    | zero =>
      intro k acc hk hi
      obtain rfl : k = len := by omega
      obtain ⟨r,hr,h⟩ := fin acc hi
      refine ⟨r,hr,h.mono fun m h n hn => ?_⟩
      obtain ⟨n,rfl⟩ : ∃ j,n = j + 1 := ⟨n - 1,by omega⟩
      exact h n
    | succ d ih =>
      intro k acc hk hi
      rcases step k acc (by omega) hi with ⟨r,hr,h⟩ | ⟨acc',hi',h⟩
      · refine ⟨r,hr,h.mono fun m h n hn => ?_⟩
        obtain ⟨n,rfl⟩ : ∃ j,n = j + 1 := ⟨n - 1,by omega⟩
        exact h n
      · obtain ⟨r,hr,h2⟩ := ih (k + 1) acc' (by omega) hi'
        refine ⟨r,hr,(h.and h2).mono fun m ⟨h1,h2⟩ n hn => ?_⟩
        obtain ⟨n,rfl⟩ : ∃ j,n = j + 1 := ⟨n - 1,by omega⟩
        rw [h1 n]
        exact h2 n (by omega)
  obtain ⟨r,hr,h⟩ := key len 0 acc (by omega) h0
  exact ⟨r,hr,(h.and (Evt.ge (len + 1))).mono fun m ⟨h1,h2⟩ => h1 m (by omega)⟩

theorem idx_nat {α : Type} {xs : List α} {k : Nat} : idx? xs (k : Int) = xs[k]? := by
  unfold idx?
  have : decide (0 ≤ (k : Int)) = true := by simp
  rw [this,cond_true,Int.toNat_natCast]

theorem idx_lt {α : Type} {xs : List α} {k : Nat} (h : k < xs.length) : idx? xs (k : Int) = some xs[k] := by
  rw [idx_nat,List.getElem?_eq_getElem h]

abbrev w64 (n : Int) : Int := IntKind.wrap .i64 n

theorem w64_small {n : Int} (h1 : -9223372036854775808 ≤ n) (h2 : n ≤ 9223372036854775807) : w64 n = n := by
  simp only [w64]
  simp only [IntKind.wrap,IntKind.bits,IntKind.signed]
  simp
  omega

theorem w64_succ {k : Nat} (h : (k : Int) < 9223372036854775807) : w64 ((k : Int) + 1) = ((k + 1 : Nat) : Int) := by
  rw [w64_small (by omega) (by omega)]; omega

theorem chk_true {ρ : Type} {b : Bool} {K : Unit → Option ρ} (h : b = true) : (chk b).bind K = K () := by subst h; rfl

theorem maxLen_eq : maxLen = 9223372036854775807 := by decide

def Sm : (t : Ty) → t.T → Prop
  | .sl t,xs => xs.length ≤ 1048576 ∧ ∀ x ∈ xs,Sm t x
  | .st c,x => Sm c x
  | .cons a b,x => Sm a x.1 ∧ Sm b x.2
  | _,_ => True

theorem take_set {α : Type} {a o : List α} {k : Nat} (hk : k < a.length) (ho : o.take k = a.take k) (hl : o.length = a.length) : (o.set k a[k]).take (k + 1) = a.take (k + 1) := by
  apply List.ext_getElem?
  intro j
  simp only [List.getElem?_take]
  split
  · rename_i hj
    by_cases hjk : j = k
    · subst hjk
      rw [List.getElem?_set_self (by omega),List.getElem?_eq_getElem hk]
    · rw [List.getElem?_set_ne (Ne.symm hjk)]
      have := congrArg (·[j]?) ho
      simp only [List.getElem?_take,show j < k by omega,if_true] at this
      exact this
  · rfl

theorem fill_loop {α : Type} {L : Nat → Nat → Int → List α → Option Dv} {a z : List α} {r : Option Dv} (hl : z.length = a.length)
    (step : ∀ k o (h : k < a.length),o.length = a.length → Evt fun m => ∀ n,L m (n + 1) (k : Int) o = L m n ((k + 1 : Nat) : Int) (o.set k a[k]))
    (fin : Evt fun m => ∀ n,L m (n + 1) (a.length : Int) a = r) : Evt fun m => L m m (0 : Int) z = r := by
  refine loop0 (len := a.length) (fun k o => o.length = a.length ∧ o.take k = a.take k) ?_ ?_ z ⟨hl,by simp⟩
  · rintro k o hk ⟨h1,h2⟩
    exact .inr ⟨_,⟨by simpa using h1,take_set hk h2 h1⟩,step k o hk h1⟩
  · rintro o ⟨h1,h2⟩
    rw [List.take_of_length_le (by omega),List.take_length] at h2
    subst h2
    exact fin

theorem same_loop {α : Type} {L : Nat → Nat → Int → Unit → Option Dv} {a b : List α} (eq : α → α → Prop) {rt rf : Option Dv} (hl : b.length = a.length)
    (ne : ∀ k (h : k < a.length) (h' : k < b.length),¬ eq a[k] b[k] → Evt fun m => ∀ n,L m (n + 1) (k : Int) () = rf)
    (step : ∀ k (h : k < a.length) (h' : k < b.length),eq a[k] b[k] → Evt fun m => ∀ n,L m (n + 1) (k : Int) () = L m n ((k + 1 : Nat) : Int) ())
    (fin : Evt fun m => ∀ n,L m (n + 1) (a.length : Int) () = rt) :
    ((∀ k (h : k < a.length) (h' : k < b.length),eq a[k] b[k]) → Evt fun m => L m m (0 : Int) () = rt) ∧ ((¬ ∀ k (h : k < a.length) (h' : k < b.length),eq a[k] b[k]) → Evt fun m => L m m (0 : Int) () = rf) := by
  constructor
  · intro h
    exact loop0 (len := a.length) (fun _ _ => True) (fun k _ hk _ => .inr ⟨(),trivial,step k hk (by omega) (h k hk (by omega))⟩) (fun _ _ => fin) () trivial
  · intro h
    refine loop0 (len := a.length) (fun k _ => ∀ j (h : j < a.length) (h' : j < b.length),j < k → eq a[j] b[j]) (fun k _ hk hi => ?_) (fun _ hi => absurd (fun k h1 h2 => hi k h1 h2 h1) h) () (fun j _ _ hj => by omega)
    by_cases he : eq a[k] b[k]
    · refine .inr ⟨(),fun j h1 h2 hj => ?_,step k hk (by omega) he⟩
      rcases Nat.lt_or_ge j k with h3 | h3
      · exact hi j h1 h2 h3
      · obtain rfl : j = k := by omega
        exact he
    · exact .inl (ne k hk (by omega) he)
theorem sz_loop {α : Type} {xs : List α} {L : Nat → Nat → Int → Int → Option Dv} {ret : Int → Option Dv} (SmE : α → Prop)
    (step : ∀ k left (hk : k < xs.length),0 ≤ left → left ≤ 1048576 → ∃ r : Int,(0 ≤ r → r ≤ left ∧ SmE xs[k]) ∧ Evt fun m => ∀ n,L m (n + 1) (k : Int) left = bif decide (r < 0) then ret (-1) else L m n ((k + 1 : Nat) : Int) r)
    (fin : ∀ left,Evt fun m => ∀ n,L m (n + 1) (xs.length : Int) left = ret left) (left0 : Int) (h0 : 0 ≤ left0) (h1 : left0 ≤ 1048576) :
    ∃ r,(Evt fun m => L m m (0 : Int) left0 = ret r) ∧ (0 ≤ r → r ≤ left0 ∧ ∀ x ∈ xs,SmE x) := by
  obtain ⟨r',⟨r,rfl,hr⟩,h⟩ := loop_ex (L := L) (len := xs.length) (fun k left => 0 ≤ left ∧ left ≤ left0 ∧ ∀ j (h : j < xs.length),j < k → SmE xs[j]) (fun o => ∃ r,o = ret r ∧ (0 ≤ r → r ≤ left0 ∧ ∀ x ∈ xs,SmE x)) (fun k left hk hi => by
    obtain ⟨i1,i2,i3⟩ := hi
    obtain ⟨r,hr,hs⟩ := step k left hk i1 (by omega)
    by_cases hneg : r < 0
    · exact .inl ⟨_,⟨-1,rfl,fun h => by omega⟩,hs.mono fun m h n => by rw [h n,decide_eq_true hneg,cond_true]⟩
    · have := hr (by omega)
      refine .inr ⟨r,⟨by omega,by omega,fun j hj hjk => ?_⟩,hs.mono fun m h n => by rw [h n,decide_eq_false hneg,cond_false]⟩
      rcases Nat.lt_or_ge j k with h3 | h3
      · exact i3 j hj h3
      · obtain rfl : j = k := by omega
        exact this.2) (fun left hi => ⟨_,⟨left,rfl,fun _ => ⟨hi.2.1,fun x hx => by
          obtain ⟨j,hj,rfl⟩ := List.mem_iff_getElem.1 hx
          exact hi.2.2 j hj hj⟩⟩,fin left⟩) left0 ⟨h0,Int.le_refl _,fun j _ hj => by omega⟩
  exact ⟨r,h,hr⟩

end Ve

set_option linter.unusedVariables false
namespace Ve
open Go

def Ev (p : (Nat → Nat) → Prop) : Prop := ∃ n0,∀ φ : Nat → Nat,(∀ i,n0 ≤ φ i) → p φ

theorem Ev.of {p : (Nat → Nat) → Prop} (h : ∀ φ,p φ) : Ev p := ⟨0,fun φ _ => h φ⟩
theorem Ev.mono {p q : (Nat → Nat) → Prop} (h : Ev p) (hpq : ∀ φ,p φ → q φ) : Ev q := let ⟨n0,h⟩ := h; ⟨n0,fun n hn => hpq n (h n hn)⟩
theorem Ev.and {p q : (Nat → Nat) → Prop} (h : Ev p) (k : Ev q) : Ev fun n => p n ∧ q n :=
  let ⟨a,h⟩ := h; let ⟨b,k⟩ := k; ⟨max a b,fun φ hn => ⟨h φ fun i => Nat.le_trans (Nat.le_max_left a b) (hn i),k φ fun i => Nat.le_trans (Nat.le_max_right a b) (hn i)⟩⟩
theorem Ev.evt {p : Nat → Prop} (h : Ev fun φ => p (φ 0)) : Evt p := let ⟨a,h⟩ := h; ⟨a,fun n hn => h (fun _ => n) fun _ => hn⟩
theorem Evt.ev {p : Nat → Prop} (h : Evt p) : Ev fun φ => p (φ 0) := let ⟨a,h⟩ := h; ⟨a,fun φ hn => h _ (hn 0)⟩

def fup (φ : Nat → Nat) (l n : Nat) : Nat → Nat := fun i => bif Nat.beq i l then n else φ i

theorem fup_self {φ : Nat → Nat} {l n : Nat} : fup φ l n l = n := by simp [fup]

theorem fup_ge {φ : Nat → Nat} {l n n0 : Nat} (h : ∀ i,n0 ≤ φ i) (hn : n0 ≤ n) : ∀ i,n0 ≤ fup φ l n i := by
  intro i; simp only [fup]; cases Nat.beq i l
  · exact h i
  · exact hn

theorem Ev.start (l : Nat) {p : (Nat → Nat) → Nat → Prop} (h : Ev fun φ => p φ (φ l)) (hp : ∀ φ n n',p (fup φ l n') n → p φ n) : Ev fun φ => p φ (φ 0) :=
  let ⟨a,h⟩ := h; ⟨a,fun φ hn => hp φ (φ 0) (φ 0) (by have := h (fup φ l (φ 0)) (fup_ge hn (hn 0)); simp only [fup_self] at this; exact this)⟩

theorem loopR (l : Nat) {σ : Type} {L : (Nat → Nat) → Nat → σ → Option Dv} (hind : ∀ φ n n' s,L (fup φ l n') n s = L φ n s) (Inv : σ → Prop) (res : σ → Option Dv) (μ : σ → Nat)
    (step : ∀ s,Inv s → (∀ s',Inv s' → μ s' < μ s → Ev fun φ => L φ (φ l) s' = res s') → Ev fun φ => L φ (φ l + 1) s = res s) :
    ∀ s,Inv s → Ev fun φ => L φ (φ l) s = res s := by
  have key : ∀ d s,μ s < d → Inv s → Ev fun φ => L φ (φ l) s = res s := by
    intro d
    induction d with
    | zero => intro s h; omega
    | succ d ih =>
      intro s hd hi
      obtain ⟨a,h⟩ := step s hi fun s' hi' hl => ih s' (by omega) hi'
      refine ⟨a + 1,fun φ hn => ?_⟩
      have h1 := hn l
      have := h (fup φ l (φ l - 1)) (fup_ge (fun i => by have := hn i; omega) (by omega))
      simp only [fup_self,hind] at this; rw [Nat.sub_add_cancel (by omega)] at this
      exact this
  exact fun s => key _ s (Nat.lt_succ_self _)

theorem ev_call {E : Env} {f : Nat} {out : Ty} {args : List Dv} {x : out.T} {K : (Nat → Nat) → out.T → Option Dv} {r : Option Dv} (h : Ret E f args ⟨out,x⟩) (k : Ev fun φ => K φ x = r) :
    Ev fun φ => (Option.bind (callT (mkR (run E (φ 0))) f out args) fun y => K φ y) = r :=
  (h.ev.and k).mono fun φ ⟨h,k⟩ => by rw [callT_of h]; exact k

theorem ev_bind {α : Type} {c : Option α} {x : α} {K : (Nat → Nat) → α → Option Dv} {r : Option Dv} (h : c = some x) (k : Ev fun φ => K φ x = r) :
    Ev fun φ => (Option.bind c fun y => K φ y) = r := k.mono fun φ k => by rw [h]; exact k

theorem ev_chk {b : Bool} {K : (Nat → Nat) → Unit → Option Dv} {r : Option Dv} (h : b = true) (k : Ev fun φ => K φ () = r) :
    Ev fun φ => (Option.bind (chk b) fun y => K φ y) = r := k.mono fun φ k => by subst h; exact k

theorem ev_t {b : Bool} {A B : (Nat → Nat) → Option Dv} {r : Option Dv} (h : b = true) (k : Ev fun φ => A φ = r) : Ev fun φ => (bif b then A φ else B φ) = r := by subst h; exact k
theorem ev_f {b : Bool} {A B : (Nat → Nat) → Option Dv} {r : Option Dv} (h : b = false) (k : Ev fun φ => B φ = r) : Ev fun φ => (bif b then A φ else B φ) = r := by subst h; exact k
theorem ev_b {b : Bool} {A B : (Nat → Nat) → Option Dv} {r : Option Dv} (t : b = true → Ev fun φ => A φ = r) (f : b = false → Ev fun φ => B φ = r) : Ev fun φ => (bif b then A φ else B φ) = r := by
  cases b
  · exact f rfl
  · exact t rfl
theorem ev_d {p : Prop} [Decidable p] {A B : (Nat → Nat) → Option Dv} {r : Option Dv} (t : p → Ev fun φ => A φ = r) (f : ¬ p → Ev fun φ => B φ = r) : Ev fun φ => (bif decide p then A φ else B φ) = r := by
  by_cases h : p
  · exact ev_t (decide_eq_true h) (t h)
  · exact ev_f (decide_eq_false h) (f h)
theorem ev_rfl {r : Option Dv} : Ev fun _ => r = r := Ev.of fun _ => rfl
theorem ev_some {r r' : Option Dv} (h : r = r') : Ev fun _ => r = r' := Ev.of fun _ => h
theorem Ev.to {A : (Nat → Nat) → Option Dv} {r r' : Option Dv} (k : Ev fun φ => A φ = r) (h : r = r') : Ev fun φ => A φ = r' := by subst h; exact k

noncomputable def pb (p : Prop) : Bool := @decide p (Classical.propDecidable p)
theorem pb_true {p : Prop} (h : p) : pb p = true := by simp [pb,h]
theorem pb_false {p : Prop} (h : ¬ p) : pb p = false := by simp [pb,h]
theorem pb_iff {p : Prop} : pb p = true ↔ p := by simp [pb]
theorem pb_not {p : Prop} : pb p = false ↔ ¬ p := by simp [pb]
theorem pb_congr {p q : Prop} (h : p ↔ q) : pb p = pb q := by rw [Bool.eq_iff_iff,pb_iff,pb_iff,h]
theorem pb_dec {p : Prop} [Decidable p] : decide p = pb p := by rw [Bool.eq_iff_iff,pb_iff,decide_eq_true_iff]
theorem eq_pb {b : Bool} {p : Prop} (h : b = true ↔ p) : b = pb p := by rw [Bool.eq_iff_iff,pb_iff,h]

theorem ret_of {E : Env} {f : Nat} {args : List Dv} {d : Dv} (h : Ev fun φ => run E (φ 0 + 1) f args = some d) : Ret E f args d := Evt.succ (Ev.evt (p := fun n => run E (n + 1) f args = some d) h)

theorem all_loop (l : Nat) {L : (Nat → Nat) → Nat → Int → Option Dv} {len : Nat} (k0 : Nat) (hk0 : k0 ≤ len) (P : Nat → Prop) {rt rf : Option Dv} (hind : ∀ φ n n' s,L (fup φ l n') n s = L φ n s)
    (bad : ∀ k,k0 ≤ k → k < len → ¬ P k → (∀ j,k0 ≤ j → j < k → P j) → Ev fun φ => L φ (φ l + 1) (k : Int) = rf)
    (good : ∀ k r,k0 ≤ k → k < len → P k → (∀ j,k0 ≤ j → j < k → P j) → (Ev fun φ => L φ (φ l) ((k + 1 : Nat) : Int) = r) → Ev fun φ => L φ (φ l + 1) (k : Int) = r)
    (fin : (∀ j,k0 ≤ j → j < len → P j) → Ev fun φ => L φ (φ l + 1) (len : Int) = rt) :
    ((∀ j,k0 ≤ j → j < len → P j) → Ev fun φ => L φ (φ l) (k0 : Int) = rt) ∧ ((¬ ∀ j,k0 ≤ j → j < len → P j) → Ev fun φ => L φ (φ l) (k0 : Int) = rf) := by
  have h := loopR l (σ := Nat) (L := fun φ n k => L φ n (k : Int)) (fun φ n n' s => hind φ n n' s) (fun k => k0 ≤ k ∧ k ≤ len ∧ ∀ j,k0 ≤ j → j < k → P j) (fun _ => bif pb (∀ j,k0 ≤ j → j < len → P j) then rt else rf) (fun k => len - k) (fun k ⟨hk,hl,hp⟩ ih => by
    by_cases hkl : k = len
    · subst hkl
      rw [pb_true hp]; exact fin hp
    · by_cases hP : P k
      · exact good k _ hk (by omega) hP hp (ih (k + 1) ⟨by omega,by omega,fun j h1 h2 => by
          by_cases hj : j = k
          · subst hj; exact hP
          · exact hp j h1 (by omega)⟩ (by omega))
      · rw [pb_false fun h => hP (h k hk (by omega))]
        exact bad k hk (by omega) hP hp) k0 ⟨Nat.le_refl _,hk0,fun j h1 h2 => by omega⟩
  constructor
  · intro hp; rw [pb_true hp] at h; exact h
  · intro hp; rw [pb_false hp] at h; exact h

theorem all_pb (l : Nat) {L : (Nat → Nat) → Nat → Int → Option Dv} {len : Nat} (k0 : Nat) (hk0 : k0 ≤ len) (P : Nat → Prop) (out : Bool → Option Dv) (hind : ∀ φ n n' s,L (fup φ l n') n s = L φ n s)
    (bad : ∀ k,k0 ≤ k → k < len → ¬ P k → (∀ j,k0 ≤ j → j < k → P j) → Ev fun φ => L φ (φ l + 1) (k : Int) = out false)
    (good : ∀ k r,k0 ≤ k → k < len → P k → (∀ j,k0 ≤ j → j < k → P j) → (Ev fun φ => L φ (φ l) ((k + 1 : Nat) : Int) = r) → Ev fun φ => L φ (φ l + 1) (k : Int) = r)
    (fin : (∀ j,k0 ≤ j → j < len → P j) → Ev fun φ => L φ (φ l + 1) (len : Int) = out true) :
    Ev fun φ => L φ (φ l) (k0 : Int) = out (pb (∀ j,k0 ≤ j → j < len → P j)) := by
  obtain ⟨h1,h2⟩ := all_loop l k0 hk0 P hind bad good fin
  by_cases h : ∀ j,k0 ≤ j → j < len → P j
  · rw [pb_true h]; exact h1 h
  · rw [pb_false h]; exact h2 h

theorem fold_loop (l : Nat) {α : Type} {L : (Nat → Nat) → Nat → Int → α → Option Dv} {len : Nat} (A : Nat → α) {r : Option Dv} (hind : ∀ φ n n' k s,L (fup φ l n') n k s = L φ n k s)
    (step : ∀ k r,k < len → (Ev fun φ => L φ (φ l) ((k + 1 : Nat) : Int) (A (k + 1)) = r) → Ev fun φ => L φ (φ l + 1) (k : Int) (A k) = r)
    (fin : Ev fun φ => L φ (φ l + 1) (len : Int) (A len) = r) :
    Ev fun φ => L φ (φ l) ((0 : Nat) : Int) (A 0) = r := by
  exact loopR l (σ := Nat) (L := fun φ n k => L φ n (k : Int) (A k)) (fun φ n n' s => hind φ n n' s _) (fun k => k ≤ len) (fun _ => r) (fun k => len - k) (fun k hk ih => by
    by_cases hkl : k = len
    · subst hkl; exact fin
    · exact step k r (by omega) (ih (k + 1) (by show k + 1 ≤ len; omega) (by show len - (k + 1) < len - k; omega))) 0 (Nat.zero_le _)

theorem find_loop (l : Nat) {L : (Nat → Nat) → Nat → Int → Option Dv} {len : Nat} (P : Nat → Prop) (r : Option Nat → Option Dv) (hind : ∀ φ n n' s,L (fup φ l n') n s = L φ n s)
    (hit : ∀ k,k < len → P k → Ev fun φ => L φ (φ l + 1) (k : Int) = r (some k))
    (go : ∀ k q,k < len → ¬ P k → (Ev fun φ => L φ (φ l) ((k + 1 : Nat) : Int) = q) → Ev fun φ => L φ (φ l + 1) (k : Int) = q)
    (fin : Ev fun φ => L φ (φ l + 1) (len : Int) = r none) :
    ∃ o : Option Nat,(∀ k,o = some k → k < len ∧ P k ∧ ∀ j,j < k → ¬ P j) ∧ (o = none → ∀ j,j < len → ¬ P j) ∧ Ev fun φ => L φ (φ l) (0 : Int) = r o := by
  have key : ∀ d k,k + d = len → (∀ j,j < k → ¬ P j) → ∃ o : Option Nat,(∀ k,o = some k → k < len ∧ P k ∧ ∀ j,j < k → ¬ P j) ∧ (o = none → ∀ j,j < len → ¬ P j) ∧ Ev fun φ => L φ (φ l) (k : Int) = r o := by
    intro d
    induction d with
    | zero =>
      intro k hk hn
      obtain rfl : k = len := by omega
      refine ⟨none,fun _ h => (nomatch h),fun _ => hn,?_⟩
      exact loopR l (σ := Unit) (L := fun φ n _ => L φ n (k : Int)) (fun φ n n' _ => hind φ n n' _) (fun _ => True) (fun _ => r none) (fun _ => 0) (fun _ _ _ => fin) () trivial
    | succ d ih =>
      intro k hk hn
      by_cases hP : P k
      · refine ⟨some k,fun j h => by obtain rfl := Option.some.inj h; exact ⟨by omega,hP,hn⟩,fun h => (nomatch h),?_⟩
        exact loopR l (σ := Unit) (L := fun φ n _ => L φ n (k : Int)) (fun φ n n' _ => hind φ n n' _) (fun _ => True) (fun _ => _) (fun _ => 0) (fun _ _ _ => hit k (by omega) hP) () trivial
      · obtain ⟨o,h1,h2,h3⟩ := ih (k + 1) (by omega) fun j hj => by
          by_cases hjk : j = k
          · subst hjk; exact hP
          · exact hn j (by omega)
        refine ⟨o,h1,h2,?_⟩
        exact loopR l (σ := Unit) (L := fun φ n _ => L φ n (k : Int)) (fun φ n n' _ => hind φ n n' _) (fun _ => True) (fun _ => _) (fun _ => 0) (fun _ _ _ => go k _ (by omega) hP h3) () trivial
  exact key len 0 (by omega) fun j hj => by omega

def o2i : Option Nat → Int | some k => k | none => -1
def idxf {α : Type} (p : α → Bool) (s : List α) : Int := o2i (s.findIdx? p)

theorem idxf_of {α : Type} {p : α → Bool} {s : List α} {o : Option Nat} (h1 : ∀ k,o = some k → k < s.length ∧ (∃ h : k < s.length,p s[k] = true) ∧ ∀ j,j < k → ¬ ∃ h : j < s.length,p s[j] = true)
    (h2 : o = none → ∀ j,j < s.length → ¬ ∃ h : j < s.length,p s[j] = true) : o2i o = idxf p s := by
  have : s.findIdx? p = o := by
    cases o with
    | none =>
      rw [List.findIdx?_eq_none_iff]
      intro x hx
      obtain ⟨j,hj,rfl⟩ := List.mem_iff_getElem.1 hx
      have := h2 rfl j hj
      cases h : p s[j]
      · rfl
      · exact absurd ⟨hj,h⟩ this
    | some k =>
      obtain ⟨a,⟨_,b⟩,c⟩ := h1 k rfl
      rw [List.findIdx?_eq_some_iff_getElem]
      exact ⟨a,b,fun j hj h => c j hj ⟨by omega,h⟩⟩
  simp only [idxf,this]

theorem idxf_nonneg {α : Type} {p : α → Bool} {s : List α} : 0 ≤ idxf p s ↔ ∃ x ∈ s,p x = true := by
  unfold idxf
  cases h : s.findIdx? p with
  | none =>
    rw [List.findIdx?_eq_none_iff] at h
    simp only [o2i,show ¬ (0 : Int) ≤ -1 by omega,false_iff]
    rintro ⟨x,hx,hp⟩
    rw [h x hx] at hp; cases hp
  | some k =>
    rw [List.findIdx?_eq_some_iff_getElem] at h
    obtain ⟨a,b,_⟩ := h
    exact ⟨fun _ => ⟨_,List.getElem_mem a,b⟩,fun _ => by simp [o2i]⟩

theorem Ev.round (l : Nat) {L : (Nat → Nat) → Nat → Option Dv} {r : Option Dv} (h : Ev fun φ => L φ (φ l + 1) = r) (hind : ∀ φ n n',L (fup φ l n') n = L φ n) : Ev fun φ => L φ (φ l) = r :=
  loopR l (σ := Unit) (L := fun φ n _ => L φ n) (fun φ n n' _ => hind φ n n') (fun _ => True) (fun _ => r) (fun _ => 0) (fun _ _ _ => h) () trivial

theorem u64_small {n : Int} (h1 : 0 ≤ n) (h2 : n ≤ 9223372036854775807) : IntKind.wrap .u64 n = n := by
  simp only [IntKind.wrap,IntKind.bits,IntKind.signed]
  simp
  omega

theorem half {i j : Nat} (h : i + j ≤ 2097152) : w64 (Int.fdiv (IntKind.wrap .u64 (w64 ((i : Int) + (j : Int)))) (2 ^ (min (Int.toNat (1 : Int)) (IntKind.bits .u64)))) = (((i + j) / 2 : Nat) : Int) := by
  have e1 : w64 ((i : Int) + (j : Int)) = (i : Int) + (j : Int) := w64_small (by omega) (by omega)
  have e2 : IntKind.wrap .u64 ((i : Int) + (j : Int)) = (i : Int) + (j : Int) := u64_small (by omega) (by omega)
  have : min (Int.toNat (1 : Int)) (IntKind.bits .u64) = 1 := by decide
  have e3 : Int.fdiv ((i : Int) + (j : Int)) (2 ^ 1) = (((i + j) / 2 : Nat) : Int) := by
    rw [Int.fdiv_eq_ediv_of_nonneg _ (by decide)]; omega
  rw [e1,e2,this,e3]
  exact w64_small (by omega) (by omega)

def pGrow (u : Ty) (_ : Run) (args : List Dv) : Option Dv := match args with
  | [d,e] => (d.to (.sl u)).bind fun x => (e.to (.int .i64)).bind fun n => if 0 ≤ (n : Int) ∧ ((List.length (α := u.T) x : Int) + n) * (64 * u.size) ≤ 70368744177664 then some ⟨.cons (.sl u) .nil,(x,())⟩ else none
  | _ => none

end Ve

set_option linter.unusedVariables false
namespace Ve
open Go

theorem ev_both {A B : (Nat → Nat) → Option Dv} {r : Option Dv} (a : Ev fun φ => A φ = r) (b : Ev fun φ => B φ = r) : Ev fun φ => both (A φ) (B φ) = r :=
  (a.and b).mono fun φ ⟨a,b⟩ => by rw [a,b]; simp [both]

def dotN (f g : Nat → Int) : Nat → Int
  | 0 => 0
  | n + 1 => dotN f g n + f n * g n

theorem mul_in {x y : Int} (hx : 0 ≤ x ∧ x ≤ 250) (hy : 0 ≤ y ∧ y ≤ 250) : 0 ≤ x * y ∧ x * y ≤ 62500 := by
  obtain ⟨a,rfl⟩ := Int.eq_ofNat_of_zero_le hx.1
  obtain ⟨b,rfl⟩ := Int.eq_ofNat_of_zero_le hy.1
  have := Nat.mul_le_mul (show a ≤ 250 by omega) (show b ≤ 250 by omega)
  have e : (a : Int) * b = ((a * b : Nat) : Int) := by simp
  rw [e]; omega

theorem dotN_le {f g : Nat → Int} : ∀ {n : Nat},(∀ l,l < n → (0 ≤ f l ∧ f l ≤ 250) ∧ 0 ≤ g l ∧ g l ≤ 250) → 0 ≤ dotN f g n ∧ dotN f g n ≤ 62500 * n
  | 0,_ => by simp [dotN]
  | n + 1,h => by
    have h1 := dotN_le (n := n) fun l hl => h l (by omega)
    have h2 := mul_in (h n (by omega)).1 (h n (by omega)).2
    simp only [dotN]; omega

theorem dotN_congr {f g f' g' : Nat → Int} : ∀ {n : Nat},(∀ l,l < n → f l = f' l ∧ g l = g' l) → dotN f g n = dotN f' g' n
  | 0,_ => rfl
  | n + 1,h => by
    simp only [dotN]
    rw [dotN_congr (n := n) fun l hl => h l (by omega),(h n (by omega)).1,(h n (by omega)).2]

def flatF (f : Nat → Nat → Int) (C : Nat) : Nat → List Int
  | 0 => []
  | i + 1 => flatF f C i ++ (List.range C).map (f i)

theorem flatF_length {f : Nat → Nat → Int} {C : Nat} : ∀ {n : Nat},(flatF f C n).length = n * C
  | 0 => by simp [flatF]
  | n + 1 => by rw [flatF,List.length_append,flatF_length,List.length_map,List.length_range,Nat.add_mul]; omega

theorem flatF_congr {f g : Nat → Nat → Int} {C : Nat} : ∀ {n : Nat},(∀ i j,i < n → j < C → f i j = g i j) → flatF f C n = flatF g C n
  | 0,_ => rfl
  | n + 1,h => by
    rw [flatF,flatF,flatF_congr (n := n) fun i j hi hj => h i j (by omega) hj]
    congr 1
    exact List.map_congr_left fun j hj => h n j (by omega) (List.mem_range.1 hj)

theorem flatF_getD {f : Nat → Nat → Int} {C : Nat} : ∀ {n i j : Nat},i < n → j < C → (flatF f C n)[i * C + j]? = some (f i j)
  | 0,_,_,h,_ => by omega
  | n + 1,i,j,h,hj => by
    rw [flatF]
    by_cases hi : i < n
    · have := flatF_getD (f := f) hi hj
      have hl := (List.getElem?_eq_some_iff.1 this).1
      rw [List.getElem?_append_left hl]; exact this
    · obtain rfl : i = n := by omega
      rw [List.getElem?_append_right (by rw [flatF_length]; omega),flatF_length,Nat.add_sub_cancel_left]
      simp [hj]

theorem flatF_row {f : Nat → Nat → Int} {C n i : Nat} (hi : i < n) : ((flatF f C n).take ((i + 1) * C)).drop (i * C) = (List.range C).map (f i) := by
  apply List.ext_getElem?
  intro j
  rw [List.getElem?_drop,List.getElem?_take]
  by_cases hj : j < C
  · rw [if_pos (by rw [Nat.add_mul]; omega),flatF_getD hi hj]; simp [hj]
  · rw [if_neg (by rw [Nat.add_mul]; omega)]
    rw [List.getElem?_eq_none (by simp; omega)]

theorem cast_mul (i K : Nat) : (i : Int) * (K : Int) = ((i * K : Nat) : Int) := by simp

theorem lt_rc {i j R C : Nat} (hi : i < R) (hj : j < C) : i * C + j < R * C := by
  have : (i + 1) * C ≤ R * C := Nat.mul_le_mul_right _ hi
  rw [Nat.add_mul] at this; omega

theorem rc_le {R C : Nat} (hR : R ≤ 32) (hC : C ≤ 32) : R * C ≤ 1024 := Nat.mul_le_mul hR hC

open Classical in
noncomputable def firstN (P : Nat → Prop) : Nat → Nat → Option Nat
  | _,0 => none
  | a,d + 1 => if P a then some a else firstN P (a + 1) d

theorem firstN_some {P : Nat → Prop} : ∀ {d a j : Nat},firstN P a d = some j → a ≤ j ∧ j < a + d ∧ P j
  | 0,a,j,h => by simp [firstN] at h
  | d + 1,a,j,h => by
    rw [firstN] at h
    split at h
    · rename_i hp
      obtain rfl := Option.some.inj h
      exact ⟨Nat.le_refl _,by omega,hp⟩
    · have := firstN_some h
      exact ⟨by omega,by omega,this.2.2⟩

theorem firstN_none {P : Nat → Prop} : ∀ {d a : Nat},firstN P a d = none → ∀ j,a ≤ j → j < a + d → ¬ P j
  | 0,a,h => fun j h1 h2 => by omega
  | d + 1,a,h => fun j h1 h2 => by
    rw [firstN] at h
    split at h
    · cases h
    · rename_i hp
      by_cases e : j = a
      · subst e; exact hp
      · exact firstN_none h j (by omega) (by omega)

theorem firstN_ex {P : Nat → Prop} {d a : Nat} (h : ∃ j,a ≤ j ∧ j < a + d ∧ P j) : ∃ j,firstN P a d = some j := by
  cases hf : firstN P a d with
  | some j => exact ⟨j,rfl⟩
  | none =>
    obtain ⟨j,h1,h2,h3⟩ := h
    exact absurd h3 (firstN_none hf j h1 h2)

def orN (rs : Nat → Option Dv) (rn : Option Dv) : Option Nat → Option Dv
  | some j => rs j
  | none => rn

theorem first_loop (l : Nat) {L : (Nat → Nat) → Nat → Int → Option Dv} {len : Nat} (P : Nat → Prop) (rs : Nat → Option Dv) (rn : Option Dv) (hind : ∀ φ n n' s,L (fup φ l n') n s = L φ n s) (a0 : Nat)
    (hit : ∀ k,a0 ≤ k → k < len → P k → Ev fun φ => L φ (φ l + 1) (k : Int) = rs k)
    (go : ∀ k q,a0 ≤ k → k < len → ¬ P k → (Ev fun φ => L φ (φ l) ((k + 1 : Nat) : Int) = q) → Ev fun φ => L φ (φ l + 1) (k : Int) = q)
    (fin : (∀ j,a0 ≤ j → j < len → ¬ P j) → Ev fun φ => L φ (φ l + 1) (len : Int) = rn) : ∀ d,a0 + d = len → Ev fun φ => L φ (φ l) (a0 : Int) = orN rs rn (firstN P a0 d) := by
  have key : ∀ d a,a0 ≤ a → a + d = len → (∀ j,a0 ≤ j → j < a → ¬ P j) → Ev fun φ => L φ (φ l) (a : Int) = orN rs rn (firstN P a d) := by
    intro d
    induction d with
    | zero =>
      intro a ha hk hn
      obtain rfl : a = len := by omega
      exact Ev.round l (L := fun φ n => L φ n (a : Int)) (fin hn) (fun φ n n' => hind φ n n' _)
    | succ d ih =>
      intro a ha hk hn
      refine Ev.round l (L := fun φ n => L φ n (a : Int)) ?_ (fun φ n n' => hind φ n n' _)
      rw [firstN]
      split
      · rename_i hp; exact hit a ha (by omega) hp
      · rename_i hp
        exact go a _ ha (by omega) hp (ih (a + 1) (by omega) (by omega) fun j h1 h2 => by
          by_cases e : j = a
          · subst e; exact hp
          · exact hn j h1 (by omega))
  exact fun d hd => key d a0 (Nat.le_refl _) hd fun j h1 h2 => by omega

theorem set_mid {α : Type} (pre : List α) (z x : α) (n : Nat) : (pre ++ List.replicate (n + 1) z).set pre.length x = (pre ++ [x]) ++ List.replicate n z := by
  rw [List.set_append_right _ _ (Nat.le_refl _),Nat.sub_self,List.replicate_succ,List.set_cons_zero,List.append_assoc]; rfl

end Ve

set_option linter.unusedVariables false
set_option linter.unusedSimpArgs false
namespace Ve
open Go

theorem to_some {d : Dv} {t : Ty} {x : t.T} (h : d.to t = some x) : d = ⟨t,x⟩ := by
  obtain ⟨t',x'⟩ := d
  simp only [Dv.to,cast?] at h
  split at h
  · rename_i e
    subst e
    simp only [Option.some.injEq] at h
    rw [h]
  · cases h

theorem grow_contract {P : Program} {f : FuncId} {u : Ty} {e : TypeId} {i0 : TypeInfo} {z : Value} (hs : i0.size = u.size) (hzs : z.cells.size = u.size) (hu : 0 < u.size) (hb : i0.bytes ≤ 64 * u.size) (hb0 : 0 < i0.bytes)
    (room : ∀ (base : Option Addr) (l c n : Nat) (w : World),l ≤ c → c ≤ 9223372036854775807 → n ≤ 9223372036854775807 → l + n ≤ c → Calls P f #[.slice base l c,.int .i64 n] w fun e w' => e = .returned (.slice base l c) ∧ w' = w)
    (grow : ∀ (base : Option Addr) (l c n : Nat) (cs : List Value) (w : World),l ≤ c → c < l + n → (l + n) * i0.bytes ≤ 140737488355328 → l + n ≤ 4611686018427387904 →
      cs.length = c * i0.size → (base = none → c = 0) → (∀ a,base = some a → ∀ (j : Nat) v,cs[j]? = some v → w.cell? (a.add j) = some v) →
      Calls P f #[.slice base l c,.int .i64 n] w fun r w' =>
        r = .returned (.slice (some ⟨w.heap.size,0,none⟩) l (grownCap w (l + n) c e)) ∧
        w' = w.drew.alloc (.cells (cs.toArray ++ Builtin.zeroCells z.cells (l + n - c) ++ Builtin.zeroCells z.cells (grownCap w (l + n) c e - (l + n))) e))
    (R : Run) {args : List Dv} {dv : Dv} (h : pGrow u R args = some dv) :
    Contract P ⟨[(false,1),(false,1)],[.take true,.imm],.cons (.sl u) .nil,[(false,1)],[.deep],[]⟩ f args dv := by
  match args,h with
  | [d,g],h =>
    simp only [pGrow,Option.bind_eq_some_iff] at h
    obtain ⟨xs,hx,n,hn,h⟩ := h
    obtain rfl := to_some hx
    obtain rfl := to_some hn
    split at h
    · rename_i hc
      obtain ⟨h0,hbig⟩ := hc
      obtain rfl := Option.some.inj h
      clear h hx hn
      intro w S us FP hS hFP hdis hlen hpar
      match us,hlen with
      | [u0,u1],_ =>
        have hp0 : OwnArr S w (u.flat || true) u xs u0 (FP 0) := hpar 0 _ _ rfl rfl
        have hp1 : [u1] = [Value.int .i64 n] := hpar 1 _ _ rfl rfl
        obtain rfl : u1 = Value.int .i64 n := by simpa using hp1
        obtain ⟨N,rfl⟩ := Int.eq_ofNat_of_zero_le h0
        rw [Bool.or_true] at hp0
        have hp0' := hp0
        obtain ⟨A,c,rfl,⟨hlc,hcm⟩,hrow⟩ := hp0
        have hcm' : c ≤ 9223372036854775807 := by simp only [maxLen] at hcm; omega
        have hbig' : (xs.length + N) * (64 * u.size) ≤ 70368744177664 := by
          have : (((xs.length + N) * (64 * u.size) : Nat) : Int) ≤ 70368744177664 := by simpa using hbig
          omega
        have hN : xs.length + N ≤ 70368744177664 := Nat.le_trans (Nat.le_mul_of_pos_right _ (by omega)) hbig'
        by_cases hroom : xs.length + N ≤ c
        · refine (room A xs.length c N w hlc hcm' (by omega) hroom).mono ?_
          rintro e w' ⟨rfl,rfl⟩
          refine ⟨[.slice A xs.length c],S,fun k b => k = 0 ∧ FP 0 b,fun _ _ => False,rfl,?_⟩
          refine { mS := fun _ h => h,sub := fun _ h => .inl h,szS := hS,size := Nat.le_refl _,kin := Kin.refl _,keep := fun _ _ _ => rfl,gr := ?_,gp := fun _ _ h => h.elim,drr := ?_,dpp := fun _ _ _ _ h => h.elim,drp := fun _ _ _ _ h => h,len := rfl,lenO := Nat.le_refl _,res := ?_,ios := trivial }
          · rintro k b ⟨_,h⟩
            exact ⟨(hFP 0 b h).2,(hFP 0 b h).1,.inr ⟨0,h⟩⟩
          · rintro j k b hjk ⟨rfl,_⟩ ⟨rfl,_⟩; exact hjk rfl
          · intro k d v hk hd hv
            obtain rfl : k = 0 := by have hk : k < 1 := hk; omega
            obtain rfl : (⟨.sl u,xs⟩ : Dv) = d := Option.some.inj hd
            obtain rfl : Value.slice A xs.length c = v := Option.some.inj hv
            show OwnArr S w' (u.flat || true) u xs _ _
            rw [Bool.or_true]
            exact OwnArr.mono (fun _ h => h) (fun _ _ => rfl) (fun _ h => ⟨rfl,h⟩) (fun _ _ => rfl) hp0'
        · have hgb : (xs.length + N) * i0.bytes ≤ 140737488355328 := Nat.le_trans (Nat.mul_le_mul_left _ hb) (by omega)
          have hold : ∃ A' : Option Addr,∃ cs : List Value,∃ Gl : Nat → Blocks,(c = 0 ∨ A = A') ∧ cs.length = c * i0.size ∧ (A = none → c = 0) ∧ (∀ a,A = some a → ∀ (j : Nat) v,cs[j]? = some v → w.cell? (a.add j) = some v) ∧
              (∀ i b,Gl i b → FP 0 b) ∧ (∀ i j b,i ≠ j → Gl i b → ¬ Gl j b) ∧ ∀ (i : Nat) x,xs[i]? = some x → ∃ us,El S w true u x us (Gl i) ∧ ∀ (j : Nat) v,us[j]? = some v → cs[i * u.size + j]? = some v := by
            rcases hrow with h0 | ⟨b,arr,e',Gl,rfl,hFb,hh,hasz,hGo,hGod,hE⟩
            · subst h0
              have hx0 : xs = [] := List.length_eq_zero_iff.1 (by omega)
              subst hx0
              exact ⟨none,[],fun _ _ => False,.inl rfl,by simp,fun _ => rfl,fun _ _ j v h => by simp at h,fun _ _ h => h.elim,fun _ _ _ _ h => h.elim,fun i x h => by simp at h⟩
            · refine ⟨_,arr.toList,Gl,.inr rfl,by rw [Array.length_toList,hasz,hs],fun h => by simp at h,fun a ha j v hj => ?_,fun i b h => (hGo i b h).1,hGod,fun i x hx => ?_⟩
              · obtain rfl : (⟨b,0,none⟩ : Addr) = a := by simpa using ha
                rw [Addr.add_lit]
                exact at_arr (o := 0) (us := arr.toList) hh (fun j u hu => by simpa using hu) j v hj
              · obtain ⟨us,h1,h2⟩ := hE i x hx
                exact ⟨us,h1,fun j v hj => by rw [Array.getElem?_toList]; exact h2 j v hj⟩
          obtain ⟨_,cs,Gl,_,hcl,hnil,hcs,hGF,hGd,hE⟩ := hold
          have hge := grownCap_ge w (xs.length + N) c e
          have hcm2 := grownCap_le_maxLen w (xs.length + N) c e (by unfold maxLen; omega)
          have hcall := grow A xs.length c N cs w hlc (by omega) hgb (by omega) hcl hnil hcs
          generalize grownCap w (xs.length + N) c e = nc at hcall hge hcm2
          refine hcall.mono ?_
          rintro r w' ⟨rfl,rfl⟩
          have hcsz : (cs.toArray ++ Builtin.zeroCells z.cells (xs.length + N - c) ++ Builtin.zeroCells z.cells (nc - (xs.length + N))).size = nc * u.size := by
            simp only [Array.size_append,List.size_toArray,size_zeroCells,hzs,hcl,hs,← Nat.add_mul]
            congr 1; omega
          have hget : ∀ (j : Nat) v,cs[j]? = some v → (cs.toArray ++ Builtin.zeroCells z.cells (xs.length + N - c) ++ Builtin.zeroCells z.cells (nc - (xs.length + N)))[j]? = some v := by
            intro j v hj
            have hjl := (List.getElem?_eq_some_iff.1 hj).1
            rw [Array.getElem?_append_left (by simp; omega),Array.getElem?_append_left (by simpa using hjl)]
            simpa using hj
          generalize (cs.toArray ++ Builtin.zeroCells z.cells (xs.length + N - c) ++ Builtin.zeroCells z.cells (nc - (xs.length + N))) = cells at hcsz hget
          have hkeep : ∀ b,b < w.heap.size → (w.drew.alloc (.cells cells e)).heap[b]? = w.heap[b]? := fun b hb => by show (w.heap.push _)[b]? = _; rw [Array.getElem?_push,if_neg (by omega)]
          have hsz : (w.drew.alloc (.cells cells e)).heap.size = w.heap.size + 1 := by show (w.heap.push _).size = _; simp
          refine ⟨[.slice (some ⟨w.heap.size,0,none⟩) xs.length nc],S,fun k b => k = 0 ∧ (FP 0 b ∨ b = w.heap.size),fun _ _ => False,rfl,?_⟩
          refine { mS := fun _ h => h,sub := fun _ h => .inl h,szS := fun b h => by have := hS b h; omega,size := by omega,kin := ⟨rfl,rfl,rfl,Nat.le_succ _⟩,keep := fun b hb _ => hkeep b hb,gr := ?_,gp := fun _ _ h => h.elim,drr := ?_,dpp := fun _ _ _ _ h => h.elim,drp := fun _ _ _ _ h => h,len := rfl,lenO := Nat.le_refl _,res := ?_,ios := trivial }
          · rintro k b ⟨_,h | rfl⟩
            · exact ⟨(hFP 0 b h).2,by have := (hFP 0 b h).1; omega,.inr ⟨0,h⟩⟩
            · exact ⟨fun h => by have := hS _ h; omega,by omega,.inl (Nat.le_refl _)⟩
          · rintro j k b hjk ⟨rfl,_⟩ ⟨rfl,_⟩; exact hjk rfl
          · intro k d v hk hd hv
            obtain rfl : k = 0 := by have hk : k < 1 := hk; omega
            obtain rfl : (⟨.sl u,xs⟩ : Dv) = d := Option.some.inj hd
            obtain rfl : Value.slice (some ⟨w.heap.size,0,none⟩) xs.length nc = v := Option.some.inj hv
            show OwnArr S _ (u.flat || true) u xs _ _
            rw [Bool.or_true]
            refine ⟨_,nc,rfl,⟨by omega,hcm2⟩,.inr ⟨w.heap.size,cells,e,Gl,rfl,⟨rfl,.inr rfl⟩,heap_alloc_new w.drew _,hcsz,fun i b h => ⟨⟨rfl,.inl (hGF i b h)⟩,fun he => by have := (hFP 0 b (hGF i b h)).1; omega⟩,hGd,fun i x hx => ?_⟩⟩
            obtain ⟨us,h1,h2⟩ := hE i x hx
            exact ⟨us,h1.mono (fun _ h => h) (fun b h => hkeep b (hS b h)) (fun _ h => h) (fun b h => hkeep b (hFP 0 b (hGF i b h)).1),fun j v hj => hget _ v (h2 j v hj)⟩
    · cases h

end Ve

set_option linter.unusedVariables false
set_option linter.unusedSimpArgs false
namespace Ve
open Go

abbrev tI : Ty := .int .i64
abbrev tL : Ty := .sl (.int .i64)
abbrev oM : Ty := .cons tI (.cons tL .nil)

def markRows (m : Nat) (R : Run) : List (List Int) → Int → Option (Int × List (List Int))
  | [],k => some (k,[])
  | x :: xs,k => (callT R m oM [⟨tL,x⟩,⟨tI,k⟩]).bind fun r => (markRows m R xs r.1).map fun q => (q.1,r.2.1 :: q.2)

def pMarkSS (m : Nat) (R : Run) (args : List Dv) : Option Dv := match args with
  | [d,e] => (d.to (.sl tL)).bind fun xs => (e.to tI).bind fun k => (markRows m R xs k).map fun q => ⟨.cons tI (.cons (.sl tL) .nil),(q.1,q.2,())⟩
  | _ => none

theorem markRows_length {m : Nat} {R : Run} : ∀ {xs : List (List Int)} {k : Int} {q},markRows m R xs k = some q → q.2.length = xs.length
  | [],k,q,h => by simp only [markRows,Option.some.injEq] at h; subst h; rfl
  | x :: xs,k,q,h => by
    simp only [markRows,Option.bind_eq_some_iff,Option.map_eq_some_iff] at h
    obtain ⟨r,_,q',hq,rfl⟩ := h
    simp [markRows_length hq]

theorem callT_run {R : Run} {f : Nat} {out : Ty} {args : List Dv} {x : out.T} (h : callT R f out args = some x) : R.r f args = some ⟨out,x⟩ := by
  simp only [callT,Option.bind_eq_some_iff] at h
  obtain ⟨d,hd,h⟩ := h
  rw [hd,to_some h]

structure MkInv (S : Blocks) (w : World) (F : Blocks) (b : Nat) (arr : Array Value) (xs Y : List (List Int)) (i : Nat) (wr : World) (Sr : Blocks) (H : Nat → Blocks) : Prop where
  mS : ∀ x,S x → Sr x
  sub : ∀ x,Sr x → S x ∨ w.heap.size ≤ x ∨ F x
  szS : ∀ x,Sr x → x < wr.heap.size
  size : w.heap.size ≤ wr.heap.size
  kin : Kin w wr
  keep : ∀ x,x < w.heap.size → ¬ F x → wr.heap[x]? = w.heap[x]?
  outer : wr.heap[b]? = w.heap[b]?
  nb : ¬ Sr b
  hH : ∀ j x,H j x → x ≠ b ∧ x < wr.heap.size ∧ ¬ Sr x ∧ (F x ∨ w.heap.size ≤ x)
  dis : ∀ i j x,i ≠ j → H i x → ¬ H j x
  rows : ∀ j (h : j < xs.length) (h' : j < Y.length),∃ u,arr[j]? = some u ∧ OwnArr Sr wr true tI (if j < i then Y[j] else xs[j]) u (H j)

theorem mark_contract {P : Program} {f m : FuncId}
    (walk : ∀ (b n c : Nat) (A : Option Addr),(0 < n → A = some ⟨b,0,none⟩) → n ≤ c → n ≤ 9223372036854775807 → ∀ (Inv : Nat → Int → World → Prop) (k : Int) (w : World),Inv 0 k w →
      (∀ i k' wr,i < n → Inv i k' wr → ∃ u,wr.cell? ⟨b,i,none⟩ = some u ∧ Calls P m #[u,.int .i64 k'] wr fun e w' => ∃ k2,e = .returned (.int .i64 k2) ∧ Inv (i + 1) k2 w') →
      Calls P f #[.slice A n c,.int .i64 k] w fun e w' => ∃ k2,e = .returned (.int .i64 k2) ∧ Inv n k2 w')
    {R : Run} (hR : ∀ args dv,R.r m args = some dv → Contract P ⟨[(false,1),(false,1)],[.io true,.imm],oM,[(false,1)],[],[]⟩ m args dv)
    {args : List Dv} {dv : Dv} (h : pMarkSS m R args = some dv) :
    Contract P ⟨[(false,1),(false,1)],[.io true,.imm],.cons tI (.cons (.sl tL) .nil),[(false,1)],[],[]⟩ f args dv := by
  match args,h with
  | [d,g],h =>
    simp only [pMarkSS,Option.bind_eq_some_iff,Option.map_eq_some_iff] at h
    obtain ⟨xs,hx,k,hk,⟨K,Y⟩,hq,rfl⟩ := h
    obtain rfl := to_some hx
    obtain rfl := to_some hk
    have hYl := markRows_length hq
    simp only at hYl
    intro w S us FP hS hFP hdis hlen hpar
    match us,hlen with
    | [u0,u1],_ =>
      have hp0 : OwnArr S w true tL xs u0 (FP 0) := hpar 0 _ _ rfl rfl
      have hp1 : [u1] = [Value.int .i64 k] := hpar 1 _ _ rfl rfl
      obtain rfl : u1 = Value.int .i64 k := by simpa using hp1
      obtain ⟨A,c,rfl,⟨hlc,hcm⟩,hrow⟩ := hp0
      have hxl : xs.length ≤ 9223372036854775807 := by simp only [maxLen] at hcm; omega
      rcases hrow with hc0 | ⟨b,arr,e,G,rfl,hFb,hh,hasz,hGo,hGd,hE⟩
      · -- no rows
        have hx0 : xs = [] := List.length_eq_zero_iff.1 (by omega)
        subst hx0
        simp only [markRows,Option.some.injEq,Prod.mk.injEq] at hq
        obtain ⟨rfl,rfl⟩ := hq
        refine (walk 0 0 c A (fun h => absurd h (by omega)) (by omega) (by omega) (fun i k' wr => k' = k ∧ wr = w) k w ⟨rfl,rfl⟩ (fun i k' wr hi => absurd hi (by omega))).mono ?_
        rintro e w' ⟨k2,rfl,rfl,rfl⟩
        refine ⟨[.int .i64 k2],S,fun _ _ => False,fun _ _ => False,rfl,?_⟩
        refine { mS := fun _ h => h,sub := fun _ h => .inl h,szS := hS,size := Nat.le_refl _,kin := Kin.refl _,keep := fun _ _ _ => rfl,gr := fun _ _ h => h.elim,gp := fun _ _ h => h.elim,drr := fun _ _ _ _ h => h.elim,dpp := fun _ _ _ _ h => h.elim,drp := fun _ _ _ h => h.elim,len := rfl,lenO := (by decide : 1 ≤ 2),res := ?_,ios := ?_ }
        · intro j d v hj hd hv
          have hj : j < 1 := hj
          obtain rfl : j = 0 := by omega
          obtain rfl : (⟨tI,k2⟩ : Dv) = d := Option.some.inj hd
          obtain rfl : Value.int .i64 k2 = v := Option.some.inj hv
          rfl
        · exact ⟨_,_,_,rfl,rfl,⟨A,c,rfl,⟨hlc,hcm⟩,.inl hc0⟩,trivial⟩
      · have hbw : b < w.heap.size := (hFP 0 b hFb).1
        have start : MkInv S w (FP 0) b arr xs Y 0 w S (fun j => fun x => j < xs.length ∧ G j x) := {
          mS := fun _ h => h,sub := fun _ h => .inl h,szS := hS,size := Nat.le_refl _,kin := Kin.refl _,keep := fun _ _ _ => rfl,outer := rfl,nb := (hFP 0 b hFb).2
          hH := fun j x ⟨_,h⟩ => ⟨(hGo j x h).2,(hFP 0 x (hGo j x h).1).1,(hFP 0 x (hGo j x h).1).2,.inl (hGo j x h).1⟩
          dis := fun i j x hij ⟨_,h1⟩ ⟨_,h2⟩ => hGd i j x hij h1 h2
          rows := fun j hj hj' => by
            obtain ⟨us,h1,h2⟩ := hE j xs[j] (List.getElem?_eq_getElem hj)
            have h1' : DRp w tL xs[j] us (G j) := h1
            have hl := h1.len
            match us,hl with
            | [u],_ =>
              refine ⟨u,by have := h2 0 u rfl; simpa [Ty.size] using this,?_⟩
              rw [if_neg (by omega)]
              exact OwnArr.mono (fun _ h => h) (fun _ _ => rfl) (fun _ h => ⟨hj,h⟩) (fun _ _ => rfl) (DRp_sl.1 h1') }
        refine (walk b xs.length c (some ⟨b,0,none⟩) (fun _ => rfl) hlc hxl (fun i k' wr => markRows m R (xs.drop i) k' = some (K,Y.drop i) ∧ ∃ Sr H,MkInv S w (FP 0) b arr xs Y i wr Sr H) k w ⟨hq,S,_,start⟩ ?_).mono ?_
        · rintro i k' wr hi ⟨hmr,Sr,H,I⟩
          have hiY : i < Y.length := by omega
          obtain ⟨u,hu,hown⟩ := I.rows i hi hiY
          rw [if_neg (by omega)] at hown
          rw [List.drop_eq_getElem_cons hi,List.drop_eq_getElem_cons hiY] at hmr
          simp only [markRows,Option.bind_eq_some_iff,Option.map_eq_some_iff,Prod.mk.injEq,List.cons.injEq] at hmr
          obtain ⟨r,hr,⟨q1,q2⟩,hq2,hq3,hY,hY2⟩ := hmr
          simp only at hq3 hY2
          subst hq3 hY2
          have hcon := hR _ _ (callT_run hr) wr Sr [u,.int .i64 k'] (fun j => fun x => j = 0 ∧ H i x) I.szS (fun j x ⟨_,h⟩ => ⟨(I.hH i x h).2.1,(I.hH i x h).2.2.1⟩) (fun j j' x hjj ⟨h1,_⟩ ⟨h2,_⟩ => hjj (h1.trans h2.symm)) rfl (fun j d v hd hv => by
            match j,hd,hv with
            | 0,hd,hv =>
              obtain rfl : (⟨tL,xs[i]⟩ : Dv) = d := Option.some.inj hd
              obtain rfl : u = v := Option.some.inj hv
              exact OwnArr.mono (fun _ h => h) (fun _ _ => rfl) (fun _ h => ⟨rfl,h⟩) (fun _ _ => rfl) hown
            | 1,hd,hv =>
              obtain rfl : (⟨tI,k'⟩ : Dv) = d := Option.some.inj hd
              obtain rfl : Value.int .i64 k' = v := Option.some.inj hv
              rfl)
          refine ⟨u,?_,hcon.mono ?_⟩
          · have hb2 : wr.heap[b]? = some (.cells arr e (0,0)) := by rw [I.outer]; exact hh
            have := at_arr (o := i) (us := [u]) hb2 (fun j v hv => by
              match j,hv with
              | 0,hv => obtain rfl : u = v := Option.some.inj hv; simpa using hu) 0 u rfl
            simpa using this
          · rintro e2 w' ⟨rus,S2,GR,GP,rfl,aft⟩
            have hrus : rus = [.int .i64 r.1] := by
              have hl := aft.len
              match rus,hl with
              | [v],_ =>
                have : [v] = [Value.int .i64 r.1] := aft.res 0 ⟨tI,r.1⟩ v (Nat.zero_lt_one) rfl rfl
                exact this
            subst hrus
            refine ⟨r.1,rfl,hq2,S2,fun j => if j = i then GP 0 else H j,?_⟩
            obtain ⟨d,ds,u',hds,hu',hio,_⟩ := aft.ios
            obtain rfl : (⟨tL,r.2.1⟩ : Dv) = d := (List.cons.inj hds).1
            obtain rfl : u = u' := Option.some.inj hu'
            have hio : OwnArr S2 w' true tI r.2.1 u (GP 0) := hio
            have kept : ∀ x,x < wr.heap.size → ¬ H i x → w'.heap[x]? = wr.heap[x]? := fun x h1 h2 => aft.keep x h1 fun j ⟨_,h⟩ => h2 h
            have s2 : ∀ x,S2 x → Sr x ∨ wr.heap.size ≤ x ∨ H i x := fun x h => (aft.sub x h).imp id fun h => h.imp id fun ⟨_,_,h⟩ => h
            have gp : ∀ x,GP 0 x → ¬ S2 x ∧ x < w'.heap.size ∧ (wr.heap.size ≤ x ∨ H i x) := fun x h => by
              obtain ⟨h1,h2,h3⟩ := aft.gp 0 x h
              exact ⟨h1,h2,h3.imp id fun ⟨_,_,h⟩ => h⟩
            have hbr : b < wr.heap.size := Nat.lt_of_lt_of_le hbw I.size
            have hbH : ∀ j,¬ H j b := fun j h => (I.hH j b h).1 rfl
            have hszw := aft.size
            exact {
              mS := fun x h => aft.mS x (I.mS x h)
              sub := fun x h => by
                rcases s2 x h with h | h | h
                · exact I.sub x h
                · exact .inr (.inl (Nat.le_trans I.size h))
                · exact (I.hH i x h).2.2.2.elim (fun h => .inr (.inr h)) fun h => .inr (.inl h)
              szS := aft.szS
              size := Nat.le_trans I.size aft.size
              kin := I.kin.trans aft.kin
              keep := fun x h1 h2 => by
                rw [kept x (Nat.lt_of_lt_of_le h1 I.size) fun h => (I.hH i x h).2.2.2.elim h2 fun h => by omega]
                exact I.keep x h1 h2
              outer := by rw [kept b hbr (hbH i)]; exact I.outer
              nb := fun h => by
                rcases s2 b h with h | h | h
                · exact I.nb h
                · omega
                · exact hbH i h
              hH := fun j x h => by
                by_cases hj : j = i
                · simp only [hj,if_true] at h
                  obtain ⟨h1,h2,h3⟩ := gp x h
                  refine ⟨?_,h2,h1,?_⟩
                  · rcases h3 with h3 | h3
                    · rintro rfl; omega
                    · exact (I.hH i x h3).1
                  · rcases h3 with h3 | h3
                    · exact .inr (Nat.le_trans I.size h3)
                    · exact (I.hH i x h3).2.2.2
                · simp only [hj,if_false] at h
                  obtain ⟨h1,h2,h3,h4⟩ := I.hH j x h
                  refine ⟨h1,Nat.lt_of_lt_of_le h2 aft.size,fun hs => ?_,h4⟩
                  rcases s2 x hs with hs | hs | hs
                  · exact h3 hs
                  · omega
                  · exact I.dis j i x hj h hs
              dis := fun j j' x hjj h1 h2 => by
                by_cases hj : j = i
                · by_cases hj' : j' = i
                  · exact hjj (hj.trans hj'.symm)
                  · simp only [hj,if_true] at h1
                    simp only [hj',if_false] at h2
                    rcases (gp x h1).2.2 with h3 | h3
                    · have := (I.hH j' x h2).2.1; omega
                    · exact I.dis i j' x (fun e => hj' e.symm) h3 h2
                · by_cases hj' : j' = i
                  · simp only [hj,if_false] at h1
                    simp only [hj',if_true] at h2
                    rcases (gp x h2).2.2 with h3 | h3
                    · have := (I.hH j x h1).2.1; omega
                    · exact I.dis i j x (fun e => hj e.symm) h3 h1
                  · simp only [hj,if_false] at h1
                    simp only [hj',if_false] at h2
                    exact I.dis j j' x hjj h1 h2
              rows := fun j hj hj' => by
                by_cases hji : j = i
                · subst hji
                  refine ⟨u,hu,?_⟩
                  simp only [if_true]
                  rw [if_pos (by omega),← hY]
                  exact hio
                · obtain ⟨v,hv,ho⟩ := I.rows j hj hj'
                  refine ⟨v,hv,?_⟩
                  simp only [hji,if_false]
                  have e : (if j < i + 1 then Y[j] else xs[j]) = if j < i then Y[j] else xs[j] := by
                    by_cases h1 : j < i
                    · rw [if_pos h1,if_pos (by omega)]
                    · rw [if_neg h1,if_neg (by omega)]
                  rw [e]
                  exact OwnArr.mono aft.mS (fun x h => kept x (I.szS x h) fun hh => (I.hH i x hh).2.2.1 h) (fun _ h => h) (fun x h => kept x (I.hH j x h).2.1 fun hh => I.dis j i x hji h hh) ho }
        · rintro e2 w' ⟨k2,rfl,hmr,Sr,H,I⟩
          rw [List.drop_length,← hYl,List.drop_length] at hmr
          simp only [markRows,Option.some.injEq,Prod.mk.injEq,and_true] at hmr
          subst hmr
          refine ⟨[.int .i64 k2],Sr,fun _ _ => False,fun j x => j = 0 ∧ (x = b ∨ ∃ j,H j x),rfl,?_⟩
          refine { mS := I.mS,sub := fun x h => (I.sub x h).imp id fun h => h.imp id fun h => ⟨0,h⟩,szS := I.szS,size := I.size,kin := I.kin,keep := fun x h1 h2 => I.keep x h1 (h2 0),gr := fun _ _ h => h.elim,gp := ?_,drr := fun _ _ _ _ h => h.elim,dpp := ?_,drp := fun _ _ _ h => h.elim,len := rfl,lenO := (by decide : 1 ≤ 2),res := ?_,ios := ?_ }
          · rintro j x ⟨_,rfl | ⟨j',h⟩⟩
            · exact ⟨I.nb,Nat.lt_of_lt_of_le hbw I.size,.inr ⟨0,hFb⟩⟩
            · obtain ⟨_,h2,h3,h4⟩ := I.hH j' x h
              exact ⟨h3,h2,h4.elim (fun h => .inr ⟨0,h⟩) .inl⟩
          · rintro j j' x hjj ⟨rfl,_⟩ ⟨rfl,_⟩; exact hjj rfl
          · intro j d v hj hd hv
            have hj : j < 1 := hj
            obtain rfl : j = 0 := by omega
            obtain rfl : (⟨tI,k2⟩ : Dv) = d := Option.some.inj hd
            obtain rfl : Value.int .i64 k2 = v := Option.some.inj hv
            rfl
          · refine ⟨_,_,_,rfl,rfl,⟨some ⟨b,0,none⟩,c,by rw [hYl],⟨by rw [hYl]; exact hlc,hcm⟩,.inr ⟨b,arr,e,H,rfl,⟨rfl,.inl rfl⟩,by rw [I.outer]; exact hh,hasz,fun j x h => ⟨⟨rfl,.inr ⟨j,h⟩⟩,(I.hH j x h).1⟩,I.dis,fun j x hx => ?_⟩⟩,trivial⟩
            have hx : Y[j]? = some x := hx
            have hjY : j < Y.length := (List.getElem?_eq_some_iff.1 hx).1
            rw [List.getElem?_eq_getElem hjY] at hx
            obtain rfl := Option.some.inj hx
            obtain ⟨v,hv,ho⟩ := I.rows j (by omega) hjY
            rw [if_pos (by omega)] at ho
            refine ⟨[v],DRp_sl.2 ho,fun q u' hu' => ?_⟩
            match q,hu' with
            | 0,hu' => obtain rfl : v = u' := Option.some.inj hu'; simpa [Ty.size] using hv

end Ve

set_option linter.unusedVariables false
set_option linter.unusedSimpArgs false
namespace Ve
open Go

abbrev tM : Ty := .st (.cons (.int .i64) (.cons (.int .i64) (.cons (.int .i64) (.cons (.sl (.int .i64)) .nil))))
abbrev MatT := Int × Int × Int × List Int × Unit

def markRowsM (m : Nat) (R : Run) : List MatT → Int → Option (Int × List MatT)
  | [],k => some (k,[])
  | x :: xs,k => if 0 ≤ k ∧ k ≤ 4611686018427387904 then (callT R m oM [⟨tL,x.2.2.2.1⟩,⟨tI,k + 1 + 1 + 1⟩]).bind fun r => (markRowsM m R xs r.1).map fun q => (q.1,(k,k + 1,k + 1 + 1,r.2.1,()) :: q.2) else none

def pMarkMS (m : Nat) (R : Run) (args : List Dv) : Option Dv := match args with
  | [d,e] => (d.to (.sl tM)).bind fun xs => (e.to tI).bind fun k => (markRowsM m R xs k).map fun q => ⟨.cons tI (.cons (.sl tM) .nil),(q.1,q.2,())⟩
  | _ => none

theorem markRowsM_length {m : Nat} {R : Run} : ∀ {xs : List MatT} {k : Int} {q},markRowsM m R xs k = some q → q.2.length = xs.length
  | [],k,q,h => by simp only [markRowsM,Option.some.injEq] at h; subst h; rfl
  | x :: xs,k,q,h => by
    rw [markRowsM] at h
    split at h
    · simp only [Option.bind_eq_some_iff,Option.map_eq_some_iff] at h
      obtain ⟨r,_,q',hq,rfl⟩ := h
      simp [markRowsM_length hq]
    · cases h

def MatAt (w : World) (ar : Array Value) (j : Nat) (x : MatT) (S : Blocks) (G : Blocks) : Prop :=
  ∃ u,ar[j * 4]? = some (.int .i64 x.1) ∧ ar[j * 4 + 1]? = some (.int .i64 x.2.1) ∧ ar[j * 4 + 2]? = some (.int .i64 x.2.2.1) ∧ ar[j * 4 + 3]? = some u ∧ OwnArr S w true tI x.2.2.2.1 u G

theorem matAt_of {S : Blocks} {w : World} {ar : Array Value} {j : Nat} {x : MatT} {us : List Value} {G : Blocks} (h1 : El S w true tM x us G) (h2 : ∀ (q : Nat) u,us[q]? = some u → ar[j * 4 + q]? = some u) : MatAt w ar j x S G := by
  obtain ⟨a1,b1,F1,F2,rfl,f1,f2,_,d1,a2,b2,F3,F4,rfl,f3,f4,_,d2,a3,b3,F5,F6,rfl,f5,f6,_,d3,a4,b4,F7,F8,rfl,f7,f8,_,d4,rfl⟩ := h1
  have e1 : a1 = [.int .i64 x.1] := d1
  have e2 : a2 = [.int .i64 x.2.1] := d2
  have e3 : a3 = [.int .i64 x.2.2.1] := d3
  have hl : a4.length = 1 := El.len (S := S) (d := true) (t := tL) d4
  match a4,hl with
  | [u],_ =>
    subst e1 e2 e3
    refine ⟨u,h2 0 _ rfl,h2 1 _ rfl,h2 2 _ rfl,h2 3 _ rfl,?_⟩
    exact OwnArr.mono (fun _ h => h) (fun _ _ => rfl) (fun b h => f2 b (f4 b (f6 b (f7 b h)))) (fun _ _ => rfl) (DRp_sl.1 d4)

theorem of_matAt {S : Blocks} {w : World} {ar : Array Value} {j : Nat} {x : MatT} {G : Blocks} (h : MatAt w ar j x S G) : ∃ us,El S w true tM x us G ∧ ∀ (q : Nat) u,us[q]? = some u → ar[j * 4 + q]? = some u := by
  obtain ⟨u,h1,h2,h3,h4,ho⟩ := h
  refine ⟨[.int .i64 x.1,.int .i64 x.2.1,.int .i64 x.2.2.1,u],?_,fun q v hq => ?_⟩
  · refine ⟨[.int .i64 x.1],[.int .i64 x.2.1,.int .i64 x.2.2.1,u],fun _ => False,G,rfl,fun _ h => h.elim,fun _ h => h,fun _ h => h.elim,rfl,?_⟩
    refine ⟨[.int .i64 x.2.1],[.int .i64 x.2.2.1,u],fun _ => False,G,rfl,fun _ h => h.elim,fun _ h => h,fun _ h => h.elim,rfl,?_⟩
    refine ⟨[.int .i64 x.2.2.1],[u],fun _ => False,G,rfl,fun _ h => h.elim,fun _ h => h,fun _ h => h.elim,rfl,?_⟩
    exact ⟨[u],[],G,fun _ => False,rfl,fun _ h => h,fun _ h => h.elim,fun _ _ h => h,DRp_sl.2 ho,rfl⟩
  · match q,hq with
    | 0,hq => obtain rfl := Option.some.inj hq; exact h1
    | 1,hq => obtain rfl := Option.some.inj hq; exact h2
    | 2,hq => obtain rfl := Option.some.inj hq; exact h3
    | 3,hq => obtain rfl := Option.some.inj hq; exact h4

theorem setCell_other {w : World} {b o : Nat} {v : Value} {x : Nat} (h : x ≠ b) : (w.setCell ⟨b,o,none⟩ v).heap[x]? = w.heap[x]? := by
  unfold World.setCell
  simp only [Array.getElem?_modify]
  rw [if_neg (Ne.symm h)]

structure MkInvM (S : Blocks) (w : World) (F : Blocks) (b : Nat) (e : TypeId) (n : Nat) (xs Y : List MatT) (i : Nat) (wr : World) (Sr : Blocks) (H : Nat → Blocks) (ar : Array Value) : Prop where
  mS : ∀ x,S x → Sr x
  sub : ∀ x,Sr x → S x ∨ w.heap.size ≤ x ∨ F x
  szS : ∀ x,Sr x → x < wr.heap.size
  size : w.heap.size ≤ wr.heap.size
  kin : Kin w wr
  keep : ∀ x,x < w.heap.size → ¬ F x → wr.heap[x]? = w.heap[x]?
  outer : wr.heap[b]? = some (.cells ar e (0,0))
  asz : ar.size = n
  nb : ¬ Sr b
  hH : ∀ j x,H j x → x ≠ b ∧ x < wr.heap.size ∧ ¬ Sr x ∧ (F x ∨ w.heap.size ≤ x)
  dis : ∀ i j x,i ≠ j → H i x → ¬ H j x
  rows : ∀ j (h : j < xs.length) (h' : j < Y.length),MatAt wr ar j (if j < i then Y[j] else xs[j]) Sr (H j)

theorem markM_contract {P : Program} {f m : FuncId}
    (walk : ∀ (b n c : Nat) (A : Option Addr),(0 < n → A = some ⟨b,0,none⟩) → n ≤ c → n ≤ 9223372036854775807 → ∀ (Inv : Nat → Int → World → Prop) (k : Int) (w : World),Inv 0 k w →
      (∀ i k' wr,i < n → Inv i k' wr → 0 ≤ k' ∧ k' ≤ 4611686018427387904) →
      (∀ i k' wr,i < n → Inv i k' wr → ∃ v0 v1 v2 u,wr.cell? ⟨b,i * 4,none⟩ = some v0 ∧ wr.cell? ⟨b,i * 4 + 1,none⟩ = some v1 ∧ wr.cell? ⟨b,i * 4 + 2,none⟩ = some v2 ∧ wr.cell? ⟨b,i * 4 + 3,none⟩ = some u ∧
        wr.frozen? ⟨b,i * 4,none⟩ = false ∧ wr.frozen? ⟨b,i * 4 + 1,none⟩ = false ∧ wr.frozen? ⟨b,i * 4 + 2,none⟩ = false ∧
        Calls P m #[u,.int .i64 (k' + 1 + 1 + 1)] (((wr.setCell ⟨b,i * 4,none⟩ (.int .i64 k')).setCell ⟨b,i * 4 + 1,none⟩ (.int .i64 (k' + 1))).setCell ⟨b,i * 4 + 2,none⟩ (.int .i64 (k' + 1 + 1))) fun e w' => ∃ k2,e = .returned (.int .i64 k2) ∧ Inv (i + 1) k2 w') →
      Calls P f #[.slice A n c,.int .i64 k] w fun e w' => ∃ k2,e = .returned (.int .i64 k2) ∧ Inv n k2 w')
    {R : Run} (hR : ∀ args dv,R.r m args = some dv → Contract P ⟨[(false,1),(false,1)],[.io true,.imm],oM,[(false,1)],[],[]⟩ m args dv)
    {args : List Dv} {dv : Dv} (h : pMarkMS m R args = some dv) :
    Contract P ⟨[(false,1),(false,1)],[.io true,.imm],.cons tI (.cons (.sl tM) .nil),[(false,1)],[],[]⟩ f args dv := by
  match args,h with
  | [d,g],h =>
    simp only [pMarkMS,Option.bind_eq_some_iff,Option.map_eq_some_iff] at h
    obtain ⟨xs,hx,k,hk,⟨K,Y⟩,hq,rfl⟩ := h
    obtain rfl := to_some hx
    obtain rfl := to_some hk
    have hYl := markRowsM_length hq
    simp only at hYl
    intro w S us FP hS hFP hdis hlen hpar
    match us,hlen with
    | [u0,u1],_ =>
      have hp0 : OwnArr S w true tM xs u0 (FP 0) := hpar 0 _ _ rfl rfl
      have hp1 : [u1] = [Value.int .i64 k] := hpar 1 _ _ rfl rfl
      obtain rfl : u1 = Value.int .i64 k := by simpa using hp1
      obtain ⟨A,c,rfl,⟨hlc,hcm⟩,hrow⟩ := hp0
      have hxl : xs.length ≤ 9223372036854775807 := by simp only [maxLen] at hcm; omega
      rcases hrow with hc0 | ⟨b,arr,e,G,rfl,hFb,hh,hasz,hGo,hGd,hE⟩
      · -- no rows
        have hx0 : xs = [] := List.length_eq_zero_iff.1 (by omega)
        subst hx0
        simp only [markRowsM,Option.some.injEq,Prod.mk.injEq] at hq
        obtain ⟨rfl,rfl⟩ := hq
        refine (walk 0 0 c A (fun h => absurd h (by omega)) (by omega) (by omega) (fun i k' wr => k' = k ∧ wr = w) k w ⟨rfl,rfl⟩ (fun i k' wr hi => absurd hi (by omega)) (fun i k' wr hi => absurd hi (by omega))).mono ?_
        rintro e w' ⟨k2,rfl,rfl,rfl⟩
        refine ⟨[.int .i64 k2],S,fun _ _ => False,fun _ _ => False,rfl,?_⟩
        refine { mS := fun _ h => h,sub := fun _ h => .inl h,szS := hS,size := Nat.le_refl _,kin := Kin.refl _,keep := fun _ _ _ => rfl,gr := fun _ _ h => h.elim,gp := fun _ _ h => h.elim,drr := fun _ _ _ _ h => h.elim,dpp := fun _ _ _ _ h => h.elim,drp := fun _ _ _ h => h.elim,len := rfl,lenO := (by decide : 1 ≤ 2),res := ?_,ios := ?_ }
        · intro j d v hj hd hv
          have hj : j < 1 := hj
          obtain rfl : j = 0 := by omega
          obtain rfl : (⟨tI,k2⟩ : Dv) = d := Option.some.inj hd
          obtain rfl : Value.int .i64 k2 = v := Option.some.inj hv
          rfl
        · exact ⟨_,_,_,rfl,rfl,⟨A,c,rfl,⟨hlc,hcm⟩,.inl hc0⟩,trivial⟩
      · have hbw : b < w.heap.size := (hFP 0 b hFb).1
        have start : MkInvM S w (FP 0) b e (c * 4) xs Y 0 w S (fun j => fun x => j < xs.length ∧ G j x) arr := {
          mS := fun _ h => h,sub := fun _ h => .inl h,szS := hS,size := Nat.le_refl _,kin := Kin.refl _,keep := fun _ _ _ => rfl,outer := hh,asz := hasz,nb := (hFP 0 b hFb).2
          hH := fun j x ⟨_,h⟩ => ⟨(hGo j x h).2,(hFP 0 x (hGo j x h).1).1,(hFP 0 x (hGo j x h).1).2,.inl (hGo j x h).1⟩
          dis := fun i j x hij ⟨_,h1⟩ ⟨_,h2⟩ => hGd i j x hij h1 h2
          rows := fun j hj hj' => by
            obtain ⟨us,h1,h2⟩ := hE j xs[j] (List.getElem?_eq_getElem hj)
            rw [if_neg (by omega)]
            obtain ⟨u,r1,r2,r3,r4,ho⟩ := matAt_of h1 h2
            exact ⟨u,r1,r2,r3,r4,OwnArr.mono (fun _ h => h) (fun _ _ => rfl) (fun _ h => ⟨hj,h⟩) (fun _ _ => rfl) ho⟩ }
        refine (walk b xs.length c (some ⟨b,0,none⟩) (fun _ => rfl) hlc hxl (fun i k' wr => markRowsM m R (xs.drop i) k' = some (K,Y.drop i) ∧ ∃ Sr H ar,MkInvM S w (FP 0) b e (c * 4) xs Y i wr Sr H ar) k w ⟨hq,S,_,_,start⟩ ?_ ?_).mono ?_
        · rintro i k' wr hi ⟨hmr,_⟩
          have hiY : i < Y.length := by omega
          rw [List.drop_eq_getElem_cons hi,List.drop_eq_getElem_cons hiY,markRowsM] at hmr
          split at hmr
          · assumption
          · cases hmr
        · rintro i k' wr hi ⟨hmr,Sr,H,ar,I⟩
          have hiY : i < Y.length := by omega
          obtain ⟨u,p0,p1,p2,hu,hown⟩ := I.rows i hi hiY
          rw [if_neg (by omega)] at p0 p1 p2 hown
          rw [List.drop_eq_getElem_cons hi,List.drop_eq_getElem_cons hiY,markRowsM] at hmr
          split at hmr
          rotate_left
          · cases hmr
          simp only [Option.bind_eq_some_iff,Option.map_eq_some_iff,Prod.mk.injEq,List.cons.injEq] at hmr
          obtain ⟨r,hr,⟨q1,q2⟩,hq2,hq3,hY,hY2⟩ := hmr
          simp only at hq3 hY2
          subst hq3 hY2
          have cellAt : ∀ o,wr.cell? ⟨b,o,none⟩ = ar[o]? := fun o => by simp [World.cell?,I.outer]
          have frz : ∀ o,wr.frozen? ⟨b,o,none⟩ = false := fun o => by simp [World.frozen?,I.outer]
          refine ⟨_,_,_,u,(cellAt _).trans p0,(cellAt _).trans p1,(cellAt _).trans p2,(cellAt _).trans hu,frz _,frz _,frz _,?_⟩
          obtain ⟨w3,hw3⟩ : ∃ w3,w3 = (((wr.setCell ⟨b,i * 4,none⟩ (.int .i64 k')).setCell ⟨b,i * 4 + 1,none⟩ (.int .i64 (k' + 1))).setCell ⟨b,i * 4 + 2,none⟩ (.int .i64 (k' + 1 + 1))) := ⟨_,rfl⟩
          rw [← hw3]
          obtain ⟨ar3,har3⟩ : ∃ ar3,ar3 = ((ar.setIfInBounds (i * 4) (Value.int .i64 k')).setIfInBounds (i * 4 + 1) (.int .i64 (k' + 1))).setIfInBounds (i * 4 + 2) (.int .i64 (k' + 1 + 1)) := ⟨_,rfl⟩
          have hb3 : w3.heap[b]? = some (.cells ar3 e (0,0)) := by
            rw [hw3,har3]
            exact heap_setCell_same _ _ _ _ _ _ (heap_setCell_same _ _ _ _ _ _ (heap_setCell_same _ _ _ _ _ _ I.outer))
          have ho3 : ∀ x,x ≠ b → w3.heap[x]? = wr.heap[x]? := fun x hx => by
            rw [hw3,setCell_other hx,setCell_other hx,setCell_other hx]
          have hs3 : w3.heap.size = wr.heap.size := by rw [hw3]; simp [World.setCell]
          have k3 : Kin wr w3 := by rw [hw3]; exact ⟨rfl,rfl,rfl,Nat.le_refl _⟩
          have l3 : i * 4 + 3 < ar.size := (Array.getElem?_eq_some_iff.1 hu).1
          have asz3 : ar3.size = ar.size := by rw [har3]; simp
          have ne3 : ∀ o,o ≠ i * 4 → o ≠ i * 4 + 1 → o ≠ i * 4 + 2 → ar3[o]? = ar[o]? := fun o h1 h2 h3 => by
            rw [har3,Array.getElem?_setIfInBounds_ne (by omega),Array.getElem?_setIfInBounds_ne (by omega),Array.getElem?_setIfInBounds_ne (by omega)]
          have g0 : ar3[i * 4]? = some (.int .i64 k') := by
            rw [har3,Array.getElem?_setIfInBounds_ne (by omega),Array.getElem?_setIfInBounds_ne (by omega),Array.getElem?_setIfInBounds_self_of_lt (by omega)]
          have g1 : ar3[i * 4 + 1]? = some (.int .i64 (k' + 1)) := by
            rw [har3,Array.getElem?_setIfInBounds_ne (by omega),Array.getElem?_setIfInBounds_self_of_lt (by simp; omega)]
          have g2 : ar3[i * 4 + 2]? = some (.int .i64 (k' + 1 + 1)) := by
            rw [har3,Array.getElem?_setIfInBounds_self_of_lt (by simp; omega)]
          clear hw3 har3
          have hown : OwnArr Sr w3 true tI xs[i].2.2.2.1 u (H i) := OwnArr.mono (fun _ h => h) (fun x h => ho3 x fun hx => I.nb (hx ▸ h)) (fun _ h => h) (fun x h => ho3 x (I.hH i x h).1) hown
          have hcon := hR _ _ (callT_run hr) w3 Sr [u,.int .i64 (k' + 1 + 1 + 1)] (fun j => fun x => j = 0 ∧ H i x) (fun x h => by rw [hs3]; exact I.szS x h) (fun j x ⟨_,h⟩ => ⟨by rw [hs3]; exact (I.hH i x h).2.1,(I.hH i x h).2.2.1⟩) (fun j j' x hjj ⟨h1,_⟩ ⟨h2,_⟩ => hjj (h1.trans h2.symm)) rfl (fun j d v hd hv => by
            match j,hd,hv with
            | 0,hd,hv =>
              obtain rfl : (⟨tL,xs[i].2.2.2.1⟩ : Dv) = d := Option.some.inj hd
              obtain rfl : u = v := Option.some.inj hv
              exact OwnArr.mono (fun _ h => h) (fun _ _ => rfl) (fun _ h => ⟨rfl,h⟩) (fun _ _ => rfl) hown
            | 1,hd,hv =>
              obtain rfl : (⟨tI,k' + 1 + 1 + 1⟩ : Dv) = d := Option.some.inj hd
              obtain rfl : Value.int .i64 (k' + 1 + 1 + 1) = v := Option.some.inj hv
              rfl)
          refine hcon.mono ?_
          · rintro e2 w' ⟨rus,S2,GR,GP,rfl,aft⟩
            have hrus : rus = [.int .i64 r.1] := by
              have hl := aft.len
              match rus,hl with
              | [v],_ =>
                have : [v] = [Value.int .i64 r.1] := aft.res 0 ⟨tI,r.1⟩ v (Nat.zero_lt_one) rfl rfl
                exact this
            subst hrus
            refine ⟨r.1,rfl,hq2,S2,fun j => if j = i then GP 0 else H j,ar3,?_⟩
            obtain ⟨d,ds,u',hds,hu',hio,_⟩ := aft.ios
            obtain rfl : (⟨tL,r.2.1⟩ : Dv) = d := (List.cons.inj hds).1
            obtain rfl : u = u' := Option.some.inj hu'
            have hio : OwnArr S2 w' true tI r.2.1 u (GP 0) := hio
            have kept3 : ∀ x,x < wr.heap.size → ¬ H i x → w'.heap[x]? = w3.heap[x]? := fun x h1 h2 => aft.keep x (by rw [hs3]; exact h1) fun j ⟨_,h⟩ => h2 h
            have kept : ∀ x,x < wr.heap.size → x ≠ b → ¬ H i x → w'.heap[x]? = wr.heap[x]? := fun x h1 hx h2 => (kept3 x h1 h2).trans (ho3 x hx)
            have s2 : ∀ x,S2 x → Sr x ∨ wr.heap.size ≤ x ∨ H i x := fun x h => (aft.sub x h).imp id fun h => h.imp (fun h => by rw [hs3] at h; exact h) fun ⟨_,_,h⟩ => h
            have gp : ∀ x,GP 0 x → ¬ S2 x ∧ x < w'.heap.size ∧ (wr.heap.size ≤ x ∨ H i x) := fun x h => by
              obtain ⟨h1,h2,h3⟩ := aft.gp 0 x h
              exact ⟨h1,h2,h3.imp (fun h => by rw [hs3] at h; exact h) fun ⟨_,_,h⟩ => h⟩
            have hbr : b < wr.heap.size := Nat.lt_of_lt_of_le hbw I.size
            have hbH : ∀ j,¬ H j b := fun j h => (I.hH j b h).1 rfl
            have hszw := aft.size
            rw [hs3] at hszw
            exact {
              mS := fun x h => aft.mS x (I.mS x h)
              sub := fun x h => by
                rcases s2 x h with h | h | h
                · exact I.sub x h
                · exact .inr (.inl (Nat.le_trans I.size h))
                · exact (I.hH i x h).2.2.2.elim (fun h => .inr (.inr h)) fun h => .inr (.inl h)
              szS := aft.szS
              size := Nat.le_trans I.size hszw
              kin := I.kin.trans (k3.trans aft.kin)
              keep := fun x h1 h2 => by
                rw [kept x (Nat.lt_of_lt_of_le h1 I.size) (fun hx => h2 (hx ▸ hFb)) fun h => (I.hH i x h).2.2.2.elim h2 fun h => by omega]
                exact I.keep x h1 h2
              outer := by rw [kept3 b hbr (hbH i)]; exact hb3
              asz := asz3.trans I.asz
              nb := fun h => by
                rcases s2 b h with h | h | h
                · exact I.nb h
                · omega
                · exact hbH i h
              hH := fun j x h => by
                by_cases hj : j = i
                · simp only [hj,if_true] at h
                  obtain ⟨h1,h2,h3⟩ := gp x h
                  refine ⟨?_,h2,h1,?_⟩
                  · rcases h3 with h3 | h3
                    · rintro rfl; omega
                    · exact (I.hH i x h3).1
                  · rcases h3 with h3 | h3
                    · exact .inr (Nat.le_trans I.size h3)
                    · exact (I.hH i x h3).2.2.2
                · simp only [hj,if_false] at h
                  obtain ⟨h1,h2,h3,h4⟩ := I.hH j x h
                  refine ⟨h1,Nat.lt_of_lt_of_le h2 hszw,fun hs => ?_,h4⟩
                  rcases s2 x hs with hs | hs | hs
                  · exact h3 hs
                  · omega
                  · exact I.dis j i x hj h hs
              dis := fun j j' x hjj h1 h2 => by
                by_cases hj : j = i
                · by_cases hj' : j' = i
                  · exact hjj (hj.trans hj'.symm)
                  · simp only [hj,if_true] at h1
                    simp only [hj',if_false] at h2
                    rcases (gp x h1).2.2 with h3 | h3
                    · have := (I.hH j' x h2).2.1; omega
                    · exact I.dis i j' x (fun e => hj' e.symm) h3 h2
                · by_cases hj' : j' = i
                  · simp only [hj,if_false] at h1
                    simp only [hj',if_true] at h2
                    rcases (gp x h2).2.2 with h3 | h3
                    · have := (I.hH j x h1).2.1; omega
                    · exact I.dis i j x (fun e => hj e.symm) h3 h1
                  · simp only [hj,if_false] at h1
                    simp only [hj',if_false] at h2
                    exact I.dis j j' x hjj h1 h2
              rows := fun j hj hj' => by
                by_cases hji : j = i
                · subst hji
                  simp only [if_true]
                  rw [if_pos (by omega),← hY]
                  exact ⟨u,g0,g1,g2,by rw [ne3 _ (by omega) (by omega) (by omega)]; exact hu,hio⟩
                · obtain ⟨v,t0,t1,t2,hv,ho⟩ := I.rows j hj hj'
                  simp only [hji,if_false]
                  have e : (if j < i + 1 then Y[j] else xs[j]) = if j < i then Y[j] else xs[j] := by
                    by_cases h1 : j < i
                    · rw [if_pos h1,if_pos (by omega)]
                    · rw [if_neg h1,if_neg (by omega)]
                  rw [e]
                  refine ⟨v,by rw [ne3 _ (by omega) (by omega) (by omega)]; exact t0,by rw [ne3 _ (by omega) (by omega) (by omega)]; exact t1,by rw [ne3 _ (by omega) (by omega) (by omega)]; exact t2,by rw [ne3 _ (by omega) (by omega) (by omega)]; exact hv,?_⟩
                  exact OwnArr.mono aft.mS (fun x h => kept x (I.szS x h) (fun hx => I.nb (hx ▸ h)) fun hh => (I.hH i x hh).2.2.1 h) (fun _ h => h) (fun x h => kept x (I.hH j x h).2.1 (I.hH j x h).1 fun hh => I.dis j i x hji h hh) ho }
        · rintro e2 w' ⟨k2,rfl,hmr,Sr,H,ar,I⟩
          rw [List.drop_length,← hYl,List.drop_length] at hmr
          simp only [markRowsM,Option.some.injEq,Prod.mk.injEq,and_true] at hmr
          subst hmr
          refine ⟨[.int .i64 k2],Sr,fun _ _ => False,fun j x => j = 0 ∧ (x = b ∨ ∃ j,H j x),rfl,?_⟩
          refine { mS := I.mS,sub := fun x h => (I.sub x h).imp id fun h => h.imp id fun h => ⟨0,h⟩,szS := I.szS,size := I.size,kin := I.kin,keep := fun x h1 h2 => I.keep x h1 (h2 0),gr := fun _ _ h => h.elim,gp := ?_,drr := fun _ _ _ _ h => h.elim,dpp := ?_,drp := fun _ _ _ h => h.elim,len := rfl,lenO := (by decide : 1 ≤ 2),res := ?_,ios := ?_ }
          · rintro j x ⟨_,rfl | ⟨j',h⟩⟩
            · exact ⟨I.nb,Nat.lt_of_lt_of_le hbw I.size,.inr ⟨0,hFb⟩⟩
            · obtain ⟨_,h2,h3,h4⟩ := I.hH j' x h
              exact ⟨h3,h2,h4.elim (fun h => .inr ⟨0,h⟩) .inl⟩
          · rintro j j' x hjj ⟨rfl,_⟩ ⟨rfl,_⟩; exact hjj rfl
          · intro j d v hj hd hv
            have hj : j < 1 := hj
            obtain rfl : j = 0 := by omega
            obtain rfl : (⟨tI,k2⟩ : Dv) = d := Option.some.inj hd
            obtain rfl : Value.int .i64 k2 = v := Option.some.inj hv
            rfl
          · refine ⟨_,_,_,rfl,rfl,⟨some ⟨b,0,none⟩,c,by rw [hYl],⟨by rw [hYl]; exact hlc,hcm⟩,.inr ⟨b,ar,e,H,rfl,⟨rfl,.inl rfl⟩,I.outer,I.asz,fun j x h => ⟨⟨rfl,.inr ⟨j,h⟩⟩,(I.hH j x h).1⟩,I.dis,fun j x hx => ?_⟩⟩,trivial⟩
            have hx : Y[j]? = some x := hx
            have hjY : j < Y.length := (List.getElem?_eq_some_iff.1 hx).1
            rw [List.getElem?_eq_getElem hjY] at hx
            obtain rfl := Option.some.inj hx
            have hrow := I.rows j (by omega) hjY
            rw [if_pos (by omega)] at hrow
            exact of_matAt hrow

end Ve

set_option linter.unusedVariables false
set_option linter.unusedSimpArgs false
namespace Ve
open Go

def sortI (xs : List Int) : List Int := xs.mergeSort fun x y => decide (x ≤ y)

def pSortI (R : Run) (args : List Dv) : Option Dv := match args with
  | [d] => (d.to tL).bind fun xs => (chk (decide (xs.length ≤ 1048576))).map fun _ => ⟨.cons tL .nil,(sortI xs,())⟩
  | _ => none

theorem sortI_contract {P : Program} {f : FuncId}
    (walk : ∀ (blk cap : Nat) (zs : List Int) (w : World),Sort.Holds (Value.int .i64) w blk 0 zs.toArray → blk < w.heap.size → zs.length < 4611686018427387904 →
      Calls P f #[.slice (some ⟨blk,0,none⟩) zs.length cap] w fun e w' => e = .returned (.tuple #[]) ∧ ∃ n os,w' = Sort.grow (Sort.putRow (Value.int .i64) (Sort.ahead w n) blk 0 (zs.mergeSort fun x y => decide (x ≤ y)).toArray) os)
    (nothing : ∀ (A : Option Addr) (cap : Nat) (w : World),Calls P f #[.slice A 0 cap] w fun e w' => e = .returned (.tuple #[]) ∧ w'.heap = w.heap ∧ Kin w w')
    {R : Run} {args : List Dv} {dv : Dv} (h : pSortI R args = some dv) : Contract P ⟨[(false,1)],[.io true],.cons tL .nil,[],[],[]⟩ f args dv := by
  match args,h with
  | [d],h =>
    simp only [pSortI,Option.bind_eq_some_iff,Option.map_eq_some_iff] at h
    obtain ⟨xs,hx,_,hck,rfl⟩ := h
    obtain rfl := to_some hx
    have hxl : xs.length ≤ 1048576 := by
      by_cases h : xs.length ≤ 1048576
      · exact h
      · simp [chk,h] at hck
    have hsl : (sortI xs).length = xs.length := List.length_mergeSort _
    intro w S us FP hS hFP hdis hlen hpar
    match us,hlen with
    | [u0],_ =>
      have hp0 : OwnArr S w true tI xs u0 (FP 0) := hpar 0 _ _ rfl rfl
      obtain ⟨A,c,rfl,⟨hlc,hcm⟩,hrow⟩ := hp0
      rcases hrow with hc0 | ⟨b,arr,e,G,rfl,hFb,hh,hasz,hGo,hGd,hE⟩
      · have hx0 : xs = [] := List.length_eq_zero_iff.1 (by omega)
        subst hx0
        refine (nothing A c w).mono ?_
        rintro e w' ⟨rfl,hw,hk⟩
        refine ⟨[],S,fun _ _ => False,fun _ _ => False,rfl,?_⟩
        refine { mS := fun _ h => h,sub := fun _ h => .inl h,szS := fun b h => by rw [hw]; exact hS b h,size := by rw [hw]; exact Nat.le_refl _,kin := hk,keep := fun _ _ _ => by rw [hw],gr := fun _ _ h => h.elim,gp := fun _ _ h => h.elim,drr := fun _ _ _ _ h => h.elim,dpp := fun _ _ _ _ h => h.elim,drp := fun _ _ _ h => h.elim,len := rfl,lenO := Nat.zero_le _,res := fun k d u hk => absurd hk (Nat.not_lt_zero k),ios := ?_ }
        exact ⟨_,_,_,rfl,rfl,⟨A,c,by rw [hsl],⟨by rw [hsl]; exact hlc,hcm⟩,.inl hc0⟩,trivial⟩
      · have hbw : b < w.heap.size := (hFP 0 b hFb).1
        have hasz' : arr.size = c := by rw [hasz]; simp [Ty.size]
        have hcell : ∀ j (hj : j < xs.length),arr[j]? = some (.int .i64 xs[j]) := fun j hj => by
          obtain ⟨us,h1,h2⟩ := hE j xs[j] (List.getElem?_eq_getElem hj)
          have h1 : us = [Value.int .i64 xs[j]] := h1
          subst h1
          have := h2 0 _ rfl
          simpa [Ty.size] using this
        have hH : Sort.Holds (Value.int .i64) w b 0 xs.toArray := fun j hj => by
          have hj : j < xs.length := by simpa using hj
          have h1 := hcell j hj
          constructor
          · have := at_arr (o := 0) (us := arr.toList) hh (fun j u hu => by simpa using hu) j (.int .i64 xs[j]) (by simpa using h1)
            rw [getElem!_pos _ _ (by simpa using hj)]
            simpa using this
          · simp [World.frozen?,hh]
        refine (walk b c xs w hH hbw (by omega)).mono ?_
        rintro e2 w' ⟨rfl,n,os,rfl⟩
        have hput : ∀ cs : Array Value,Sort.putCells (Value.int .i64) 0 (sortI xs).toArray cs = cs.mapIdx fun k x => if k < xs.length then Value.int .i64 (sortI xs).toArray[k]! else x := fun cs => by
          unfold Sort.putCells
          congr 1
          funext k x
          simp [hsl]
        have hheap : (Sort.grow (Sort.putRow (Value.int .i64) (Sort.ahead w n) b 0 (sortI xs).toArray) os).heap = (w.heap.modify b (Sort.onCells (Sort.putCells (Value.int .i64) 0 (sortI xs).toArray))) ++ os := rfl
        have hsz : w.heap.size ≤ (Sort.grow (Sort.putRow (Value.int .i64) (Sort.ahead w n) b 0 (sortI xs).toArray) os).heap.size := by rw [hheap]; simp
        have hother : ∀ b',b' < w.heap.size → b' ≠ b → (Sort.grow (Sort.putRow (Value.int .i64) (Sort.ahead w n) b 0 (sortI xs).toArray) os).heap[b']? = w.heap[b']? := fun b' h1 h2 => by
          rw [hheap,Array.getElem?_append_left (by simpa using h1),Array.getElem?_modify,if_neg (Ne.symm h2)]
        have hnew : (Sort.grow (Sort.putRow (Value.int .i64) (Sort.ahead w n) b 0 (sortI xs).toArray) os).heap[b]? = some (.cells (Sort.putCells (Value.int .i64) 0 (sortI xs).toArray arr) e (0,0)) := by
          rw [hheap,Array.getElem?_append_left (by simpa using hbw),Array.getElem?_modify,if_pos rfl,hh]; rfl
        have hkin : Kin w (Sort.grow (Sort.putRow (Value.int .i64) (Sort.ahead w n) b 0 (sortI xs).toArray) os) := ⟨rfl,rfl,rfl,Nat.le_add_right _ _⟩
        show ∃ rus S' GR GP,_ ∧ After w S FP _ _ _ (Sort.grow (Sort.putRow (Value.int .i64) (Sort.ahead w n) b 0 (sortI xs).toArray) os) S' rus GR GP
        generalize Sort.grow (Sort.putRow (Value.int .i64) (Sort.ahead w n) b 0 (sortI xs).toArray) os = w' at hsz hother hnew hkin
        refine ⟨[],S,fun _ _ => False,fun j x => j = 0 ∧ x = b,rfl,?_⟩
        refine { mS := fun _ h => h,sub := fun _ h => .inl h,szS := fun b h => Nat.lt_of_lt_of_le (hS b h) hsz,size := hsz,kin := hkin,keep := fun b' h1 h2 => hother b' h1 fun e => h2 0 (e ▸ hFb),gr := fun _ _ h => h.elim,gp := ?_,drr := fun _ _ _ _ h => h.elim,dpp := ?_,drp := fun _ _ _ h => h.elim,len := rfl,lenO := Nat.zero_le _,res := fun k d u hk => absurd hk (Nat.not_lt_zero k),ios := ?_ }
        · rintro j x ⟨_,rfl⟩
          exact ⟨(hFP 0 x hFb).2,Nat.lt_of_lt_of_le hbw hsz,.inr ⟨0,hFb⟩⟩
        · rintro j j' x hjj ⟨rfl,_⟩ ⟨rfl,_⟩; exact hjj rfl
        · refine ⟨_,_,_,rfl,rfl,⟨some ⟨b,0,none⟩,c,by rw [hsl],⟨by rw [hsl]; exact hlc,hcm⟩,.inr ⟨b,_,e,fun _ _ => False,rfl,⟨rfl,rfl⟩,hnew,?_,fun _ _ h => h.elim,fun _ _ _ _ h => h.elim,fun j x hx => ?_⟩⟩,trivial⟩
          · rw [hput]; simp [hasz]
          · have hx : (sortI xs)[j]? = some x := hx
            obtain ⟨hjl,hjx⟩ := List.getElem?_eq_some_iff.1 hx
            refine ⟨[.int .i64 x],rfl,fun q u' hu' => ?_⟩
            match q,hu' with
            | 0,hu' =>
              obtain rfl : Value.int .i64 x = u' := Option.some.inj hu'
              rw [hput,Array.getElem?_mapIdx]
              have hja : j * Ty.size tI + 0 = j := by simp [Ty.size]
              rw [hja,hcell j (by omega),Option.map_some,if_pos (by omega),getElem!_pos _ _ (by simpa using hjl)]
              simp [hjx]

end Ve

set_option linter.unusedVariables false
set_option linter.unusedSimpArgs false
namespace Ve
open Go

def compF (acc : List Int) (x : Int) : List Int := if acc.getLast? = some x then acc else acc ++ [x]
def compI (xs : List Int) : List Int := xs.foldl compF []

theorem compactUpTo_get (d : Array Int) : ∀ m,m ≤ d.size → (Go.Lib.compactUpTo d m).getLast? = if m = 0 then none else some d[m - 1]!
  | 0,_ => rfl
  | m + 1,h => by
    rw [Go.Lib.compactUpTo_succ]
    by_cases hk : Go.Lib.keeps d m = true
    · simp [hk]
    · have hk' : Go.Lib.keeps d m = false := by simpa using hk
      rw [if_neg hk,List.append_nil,compactUpTo_get d m (by omega)]
      have hm : m ≠ 0 := by
        rintro rfl
        rw [Go.Lib.keeps_lt_one d 0 (by omega)] at hk'; cases hk'
      rw [if_neg hm,if_neg (by omega)]
      congr 1
      by_cases he : d[m]! = d[m - 1]!
      · simpa using he.symm
      · rw [Go.Lib.keeps_pos he] at hk'; cases hk'

theorem compact_eq (xs : List Int) : Go.Lib.compact xs = compI xs := by
  unfold Go.Lib.compact compI
  have key : ∀ m,m ≤ xs.length → Go.Lib.compactUpTo xs.toArray m = (xs.take m).foldl compF [] := by
    intro m
    induction m with
    | zero => intro _; simp [Go.Lib.compactUpTo]
    | succ m ih =>
      intro hm
      have hl := compactUpTo_get xs.toArray m (by simpa using Nat.le_of_succ_le hm)
      have hx : xs.toArray[m]! = xs[m] := by rw [getElem!_pos _ _ (by simp; omega)]; simp
      rw [Go.Lib.compactUpTo_succ,List.take_succ_eq_append_getElem (by omega),List.foldl_append,← ih (by omega),List.foldl_cons,List.foldl_nil,hx]
      unfold compF
      rw [hl]
      by_cases h0 : m = 0
      · subst h0
        rw [if_pos (Go.Lib.keeps_lt_one _ 0 (by omega))]
        simp
      · rw [if_neg h0]
        by_cases he : xs.toArray[m]! = xs.toArray[m - 1]!
        · have e1 : some xs.toArray[m - 1]! = some xs[m] := by rw [← he,hx]
          simp only [Go.Lib.keeps_neg (show 0 < m by omega) he,if_pos e1,Bool.false_eq_true,if_false,List.append_nil]
        · have e1 : ¬ some xs.toArray[m - 1]! = some xs[m] := fun h => he (by rw [hx]; exact (Option.some.inj h).symm)
          simp only [Go.Lib.keeps_pos he,if_neg e1,if_true]
  have := key xs.length (Nat.le_refl _)
  rwa [List.take_length] at this

def pCompI (R : Run) (args : List Dv) : Option Dv := match args with
  | [d] => (d.to tL).bind fun xs => (chk (decide (xs.length ≤ 1048576))).map fun _ => ⟨.cons tL .nil,(compI xs,())⟩
  | _ => none

theorem compI_length (xs : List Int) : (compI xs).length ≤ xs.length := by
  unfold compI
  have key : ∀ (xs acc : List Int),(xs.foldl compF acc).length ≤ acc.length + xs.length := by
    intro xs
    induction xs with
    | nil => intro acc; simp
    | cons x xs ih =>
      intro acc
      rw [List.foldl_cons]
      refine Nat.le_trans (ih _) ?_
      unfold compF
      split <;> simp <;> omega
  simpa using key xs []

theorem own_holds {S : Blocks} {w : World} {xs : List Int} {b : Nat} {arr : Array Value} {e : TypeId} {G : Nat → Blocks} (hh : w.heap[b]? = some (.cells arr e (0,0)))
    (hE : ∀ i x,xs[i]? = some x → ∃ us,El S w true tI x us (G i) ∧ ∀ j u,us[j]? = some u → arr[i * Ty.size tI + j]? = some u) :
    (∀ j (hj : j < xs.length),arr[j]? = some (.int .i64 xs[j])) ∧ Sort.Holds (Value.int .i64) w b 0 xs.toArray := by
  have hcell : ∀ j (hj : j < xs.length),arr[j]? = some (.int .i64 xs[j]) := fun j hj => by
    obtain ⟨us,h1,h2⟩ := hE j xs[j] (List.getElem?_eq_getElem hj)
    have h1 : us = [Value.int .i64 xs[j]] := h1
    subst h1
    have := h2 0 _ rfl
    simpa [Ty.size] using this
  refine ⟨hcell,fun j hj => ?_⟩
  have hj : j < xs.length := by simpa using hj
  have h1 := hcell j hj
  constructor
  · have := at_arr (o := 0) (us := arr.toList) hh (fun j u hu => by simpa using hu) j (.int .i64 xs[j]) (by simpa using h1)
    rw [getElem!_pos _ _ (by simpa using hj)]
    simpa using this
  · simp [World.frozen?,hh]

theorem compI_contract {P : Program} {f : FuncId}
    (walk : ∀ (blk cap : Nat) (zs : List Int) (w : World),Sort.Holds (Value.int .i64) w blk 0 zs.toArray → zs.length ≤ 9223372036854775807 → zs.length ≤ cap →
      Calls P f #[.slice (some ⟨blk,0,none⟩) zs.length cap] w fun e w' => e = .returned (.slice (some ⟨blk,0,none⟩) (Go.Lib.compact zs).length cap) ∧ ∃ q,w' = Sort.putRow (Value.int .i64) (Sort.ahead w q) blk 0 (Go.Lib.compact zs ++ List.replicate (zs.length - (Go.Lib.compact zs).length) 0).toArray)
    (nothing : ∀ (A : Option Addr) (cap : Nat) (w : World),Calls P f #[.slice A 0 cap] w fun e w' => e = .returned (.slice A 0 cap) ∧ w' = w)
    {R : Run} {args : List Dv} {dv : Dv} (h : pCompI R args = some dv) : Contract P ⟨[(false,1)],[.take true],.cons tL .nil,[(false,1)],[.deep],[]⟩ f args dv := by
  match args,h with
  | [d],h =>
    simp only [pCompI,Option.bind_eq_some_iff,Option.map_eq_some_iff] at h
    obtain ⟨xs,hx,_,hck,rfl⟩ := h
    obtain rfl := to_some hx
    have hxl : xs.length ≤ 1048576 := by
      by_cases h : xs.length ≤ 1048576
      · exact h
      · simp [chk,h] at hck
    have hcl := compI_length xs
    intro w S us FP hS hFP hdis hlen hpar
    match us,hlen with
    | [u0],_ =>
      have hp0 : OwnArr S w true tI xs u0 (FP 0) := hpar 0 _ _ rfl rfl
      obtain ⟨A,c,rfl,⟨hlc,hcm⟩,hrow⟩ := hp0
      rcases hrow with hc0 | ⟨b,arr,e,G,rfl,hFb,hh,hasz,hGo,hGd,hE⟩
      · have hx0 : xs = [] := List.length_eq_zero_iff.1 (by omega)
        subst hx0
        refine (nothing A c w).mono ?_
        rintro e w' ⟨rfl,rfl⟩
        refine ⟨[.slice A 0 c],S,fun _ _ => False,fun _ _ => False,rfl,?_⟩
        refine { mS := fun _ h => h,sub := fun _ h => .inl h,szS := hS,size := Nat.le_refl _,kin := Kin.refl _,keep := fun _ _ _ => rfl,gr := fun _ _ h => h.elim,gp := fun _ _ h => h.elim,drr := fun _ _ _ _ h => h.elim,dpp := fun _ _ _ _ h => h.elim,drp := fun _ _ _ h => h.elim,len := rfl,lenO := Nat.le_refl _,res := ?_,ios := trivial }
        intro k d v hk hd hv
        obtain rfl : k = 0 := by have hk : k < 1 := hk; omega
        obtain rfl : (⟨tL,[]⟩ : Dv) = d := Option.some.inj hd
        obtain rfl : Value.slice A 0 c = v := Option.some.inj hv
        exact ⟨A,c,rfl,⟨hlc,hcm⟩,.inl hc0⟩
      · have hbw : b < w.heap.size := (hFP 0 b hFb).1
        have hasz' : arr.size = c := by rw [hasz]; simp [Ty.size]
        obtain ⟨hcell,hH⟩ := own_holds hh hE
        refine (walk b c xs w hH (by omega) hlc).mono ?_
        rintro e2 w' ⟨rfl,q,rfl⟩
        rw [compact_eq]
        obtain ⟨ds,hds⟩ : ∃ ds,ds = compI xs ++ List.replicate (xs.length - (compI xs).length) 0 := ⟨_,rfl⟩
        rw [← hds]
        have hdl : ds.length = xs.length := by rw [hds]; simp; omega
        have hput : ∀ cs : Array Value,Sort.putCells (Value.int .i64) 0 ds.toArray cs = cs.mapIdx fun k x => if k < xs.length then Value.int .i64 ds.toArray[k]! else x := fun cs => by
          unfold Sort.putCells
          congr 1
          funext k x
          simp [hdl]
        have hheap : (Sort.putRow (Value.int .i64) (Sort.ahead w q) b 0 ds.toArray).heap = w.heap.modify b (Sort.onCells (Sort.putCells (Value.int .i64) 0 ds.toArray)) := rfl
        have hsz : w.heap.size ≤ (Sort.putRow (Value.int .i64) (Sort.ahead w q) b 0 ds.toArray).heap.size := by rw [hheap]; simp
        have hother : ∀ b',b' ≠ b → (Sort.putRow (Value.int .i64) (Sort.ahead w q) b 0 ds.toArray).heap[b']? = w.heap[b']? := fun b' h2 => by
          rw [hheap,Array.getElem?_modify,if_neg (Ne.symm h2)]
        have hnew : (Sort.putRow (Value.int .i64) (Sort.ahead w q) b 0 ds.toArray).heap[b]? = some (.cells (Sort.putCells (Value.int .i64) 0 ds.toArray arr) e (0,0)) := by
          rw [hheap,Array.getElem?_modify,if_pos rfl,hh]; rfl
        have hkin : Kin w (Sort.putRow (Value.int .i64) (Sort.ahead w q) b 0 ds.toArray) := ⟨rfl,rfl,rfl,Nat.le_add_right _ _⟩
        generalize Sort.putRow (Value.int .i64) (Sort.ahead w q) b 0 ds.toArray = w' at hsz hother hnew hkin
        refine ⟨[.slice (some ⟨b,0,none⟩) (compI xs).length c],S,fun j x => j = 0 ∧ x = b,fun _ _ => False,rfl,?_⟩
        refine { mS := fun _ h => h,sub := fun _ h => .inl h,szS := fun b h => Nat.lt_of_lt_of_le (hS b h) hsz,size := hsz,kin := hkin,keep := fun b' h1 h2 => hother b' fun e => h2 0 (e ▸ hFb),gr := ?_,gp := fun _ _ h => h.elim,drr := ?_,dpp := fun _ _ _ _ h => h.elim,drp := fun _ _ _ _ h => h,len := rfl,lenO := Nat.le_refl _,res := ?_,ios := trivial }
        · rintro j x ⟨_,rfl⟩
          exact ⟨(hFP 0 x hFb).2,Nat.lt_of_lt_of_le hbw hsz,.inr ⟨0,hFb⟩⟩
        · rintro j j' x hjj ⟨rfl,_⟩ ⟨rfl,_⟩; exact hjj rfl
        · intro k d v hk hd hv
          obtain rfl : k = 0 := by have hk : k < 1 := hk; omega
          obtain rfl : (⟨tL,compI xs⟩ : Dv) = d := Option.some.inj hd
          obtain rfl : Value.slice (some ⟨b,0,none⟩) (compI xs).length c = v := Option.some.inj hv
          refine ⟨some ⟨b,0,none⟩,c,rfl,⟨Nat.le_trans hcl hlc,hcm⟩,.inr ⟨b,_,e,fun _ _ => False,rfl,⟨rfl,rfl⟩,hnew,?_,fun _ _ h => h.elim,fun _ _ _ _ h => h.elim,fun j x hx => ?_⟩⟩
          · rw [hput]; simp [hasz]
          · have hx : (compI xs)[j]? = some x := hx
            obtain ⟨hjl,hjx⟩ := List.getElem?_eq_some_iff.1 hx
            refine ⟨[.int .i64 x],rfl,fun q u' hu' => ?_⟩
            match q,hu' with
            | 0,hu' =>
              obtain rfl : Value.int .i64 x = u' := Option.some.inj hu'
              rw [hput,Array.getElem?_mapIdx]
              have hja : j * Ty.size tI + 0 = j := by simp [Ty.size]
              have hd : ds.toArray[j]! = x := by
                rw [getElem!_pos _ _ (by simp; omega)]
                simp only [List.getElem_toArray]
                simp only [hds]
                rw [List.getElem_append_left hjl]; exact hjx
              rw [hja,hcell j (by omega),Option.map_some,if_pos (by omega),hd]

end Ve

set_option linter.unusedVariables false
set_option linter.unusedSimpArgs false
namespace Ve
open Go

abbrev tLL : Ty := .sl (.sl (.int .i64))
def cmpN (a b : Int) : Int := if a < b then -1 else if b < a then 1 else 0
def lexN : List Int → List Int → Int
  | [],[] => 0
  | [],_ :: _ => -1
  | _ :: _,[] => 1
  | x :: xs,y :: ys => if x < y then -1 else if y < x then 1 else lexN xs ys
def cmpX (a b : List Int) : Int := if cmpN a.length b.length ≠ 0 then cmpN a.length b.length else lexN a b

theorem cmpN_zero {a b : Int} : cmpN a b = 0 ↔ a = b := by unfold cmpN; split <;> (try split) <;> omega
theorem cmpN_neg {a b : Int} : cmpN b a = - cmpN a b := by unfold cmpN; split <;> split <;> (try split) <;> omega
theorem cmpN_lt {a b : Int} : cmpN a b < 0 ↔ a < b := by unfold cmpN; split <;> (try split) <;> omega
theorem lexN_eq : ∀ {a b : List Int},lexN a b = 0 ↔ a = b
  | [],[] => by simp [lexN]
  | [],_ :: _ => by simp [lexN]
  | _ :: _,[] => by simp [lexN]
  | x :: xs,y :: ys => by
    have := @lexN_eq xs ys
    simp only [lexN,List.cons.injEq]
    split
    · constructor
      · intro h; omega
      · rintro ⟨rfl,_⟩; omega
    · split
      · constructor
        · intro h; omega
        · rintro ⟨rfl,_⟩; omega
      · rw [this]; constructor
        · intro h; exact ⟨by omega,h⟩
        · exact fun h => h.2
theorem lexN_neg : ∀ {a b : List Int},lexN b a = - lexN a b
  | [],[] => by simp [lexN]
  | [],_ :: _ => by simp [lexN]
  | _ :: _,[] => by simp [lexN]
  | x :: xs,y :: ys => by
    have := @lexN_neg xs ys
    simp only [lexN]
    split <;> split <;> (try split) <;> omega
theorem lexN_trans : ∀ {a b c : List Int},lexN a b < 0 → lexN b c < 0 → lexN a c < 0
  | [],[],c,h,_ => by simp [lexN] at h
  | [],_ :: _,[],_,h => by simp [lexN] at h
  | [],_ :: _,_ :: _,_,_ => by simp [lexN]
  | _ :: _,[],_,h,_ => by simp [lexN] at h
  | _ :: _,_ :: _,[],_,h => by simp [lexN] at h
  | x :: xs,y :: ys,z :: zs,h1,h2 => by
    have := @lexN_trans xs ys zs
    simp only [lexN] at h1 h2 ⊢
    split at h1 <;> split at h2 <;> (try split at h1) <;> (try split at h2) <;> (try split) <;> (try split) <;> first | omega | (exact this h1 h2)
theorem cmpX_zero {a b : List Int} : cmpX a b = 0 ↔ a = b := by
  unfold cmpX
  split
  · rename_i h
    exact ⟨fun h' => absurd h' h,fun h' => absurd (cmpN_zero.2 (by rw [h'])) h⟩
  · exact lexN_eq
theorem cmpX_neg {a b : List Int} : cmpX b a = - cmpX a b := by
  unfold cmpX
  rw [@cmpN_neg a.length b.length]
  split <;> split <;> first | omega | exact lexN_neg
theorem cmpX_lt {a b : List Int} : cmpX a b < 0 ↔ a.length < b.length ∨ a.length = b.length ∧ lexN a b < 0 := by
  unfold cmpX
  split
  · rename_i h
    rw [cmpN_lt]
    rw [Ne,cmpN_zero] at h
    omega
  · rename_i h
    rw [Classical.not_not,cmpN_zero] at h
    omega
theorem cmpX_trans {a b c : List Int} (h1 : cmpX a b < 0) (h2 : cmpX b c < 0) : cmpX a c < 0 := by
  rw [cmpX_lt] at *
  rcases h1 with h1 | ⟨h1,h1'⟩ <;> rcases h2 with h2 | ⟨h2,h2'⟩
  · left; omega
  · left; omega
  · left; omega
  · right; exact ⟨by omega,lexN_trans h1' h2'⟩
theorem cmpX_ntrans {a b c : List Int} (h1 : ¬ cmpX a b < 0) (h2 : ¬ cmpX b c < 0) : ¬ cmpX a c < 0 := by
  intro h
  have e1 := @cmpX_neg a b
  have e2 := @cmpX_neg b c
  by_cases z : cmpX a b = 0
  · rw [cmpX_zero.1 z] at h; exact h2 h
  · exact h2 (cmpX_trans (by omega) h)

def leX (a b : List Int) : Bool := decide (cmpX a b ≤ 0)
def sortF (xs : List (List Int)) : List (List Int) := xs.mergeSort leX

theorem sortF_pair (xs : List (List Int)) : (sortF xs).Pairwise (fun a b => leX a b = true) := by
  refine List.pairwise_mergeSort (fun a b c h1 h2 => ?_) (fun a b => ?_) xs
  · have h1 : cmpX a b ≤ 0 := of_decide_eq_true h1
    have h2 : cmpX b c ≤ 0 := of_decide_eq_true h2
    have e1 := @cmpX_neg a b
    have e2 := @cmpX_neg b c
    have e3 := @cmpX_neg a c
    have := cmpX_ntrans (a := c) (b := b) (c := a) (by omega) (by omega)
    exact decide_eq_true (by omega)
  · have e1 := @cmpX_neg a b
    unfold leX
    by_cases h : cmpX a b ≤ 0
    · rw [decide_eq_true h]; rfl
    · rw [decide_eq_true (show cmpX b a ≤ 0 by omega),Bool.or_true]

theorem sortF_eq {xs ys : List (List Int)} (hp : ys.Perm xs) (hs : ys.Pairwise (fun a b => leX a b = true)) : ys = sortF xs :=
  List.Perm.eq_of_pairwise (le := fun a b => leX a b = true) (fun a b _ _ h1 h2 => by
    have h1 : cmpX a b ≤ 0 := of_decide_eq_true h1
    have h2 : cmpX b a ≤ 0 := of_decide_eq_true h2
    have e1 := @cmpX_neg a b
    exact cmpX_zero.1 (by omega)) hs (sortF_pair xs) (hp.trans (List.mergeSort_perm xs leX).symm)

theorem sortF_length (xs : List (List Int)) : (sortF xs).length = xs.length := List.length_mergeSort _

open Classical in
noncomputable def pSortF (m : Nat) (R : Run) (args : List Dv) : Option Dv := match args with
  | [d,e] => (d.to tLL).bind fun xs => if xs.length ≤ 1048576 ∧ e = ⟨.fn m .nil,()⟩ ∧ ∀ x ∈ xs,∀ y ∈ xs,R.r m [⟨tL,x⟩,⟨tL,y⟩] = some ⟨.cons tI .nil,(cmpX x y,())⟩ then some ⟨.cons tLL .nil,(sortF xs,())⟩ else none
  | _ => none

theorem world_ext {W W' : World} (h : ∀ b,b < W.heap.size → W'.heap[b]? = W.heap[b]?) (hs : W.heap.size ≤ W'.heap.size) (hk : Kin W W') : ∃ q os,W' = Sort.grow (W.drewN q) os := by
  obtain ⟨k1,k2,k3,k4⟩ := hk
  refine ⟨W'.drawn - W.drawn,W'.heap.extract W.heap.size W'.heap.size,?_⟩
  have hh : W'.heap = W.heap ++ W'.heap.extract W.heap.size W'.heap.size := by
    apply Array.ext_getElem?
    intro i
    by_cases hi : i < W.heap.size
    · rw [h i hi,Array.getElem?_append_left hi]
    · rw [Array.getElem?_append_right (by omega),Array.getElem?_extract]
      by_cases hi2 : i < W'.heap.size
      · rw [if_pos (by omega)]; congr 1; omega
      · rw [if_neg (by omega),Array.getElem?_eq_none (by omega)]
  have hd : W.drawn + (W'.drawn - W.drawn) = W'.drawn := by omega
  generalize W'.heap.extract W.heap.size W'.heap.size = os at hh
  cases W' with
  | mk heap tape drawn os' output =>
    cases W with
    | mk heap0 tape0 drawn0 os0 output0 =>
      simp only at k1 k2 k3 k4 hh hd
      subst k1 k2 k3 hh
      simp only [Sort.grow,World.drewN]
      rw [hd]

theorem sortF_contract {P : Program} {f m : FuncId}
    (walk : ∀ (enc : Nat → Value),Go.Proofs.OneCell enc → ∀ (cf : Nat → Nat → Int),Sort.SWO (Go.Proofs.ltOf cf) → ∀ (blk cap : Nat) (d : Array Nat) (w : World),Go.Proofs.CmpLays1 P m #[] enc cf blk 0 d.size w → Sort.Holds enc w blk 0 d → blk < w.heap.size → d.size < 4611686018427387904 →
      Calls P f #[.slice (some ⟨blk,0,none⟩) d.size cap,.func (.func m) #[] #[]] w fun e w' => e = .returned (.tuple #[]) ∧ ∃ d' n os,Sort.PermIn 0 d.size d d' ∧ Sort.SortedIn (Go.Proofs.ltOf cf) 0 d.size d' ∧ w' = Go.Proofs.sortWorld enc w blk 0 n d' os)
    (nothing : ∀ (A : Option Addr) (cap : Nat) (fv : Value) (w : World),Calls P f #[.slice A 0 cap,fv] w fun e w' => e = .returned (.tuple #[]) ∧ w'.heap = w.heap ∧ Kin w w')
    {R : Run} (hR : ∀ args dv,R.r m args = some dv → Contract P ⟨[(false,1),(false,1)],[],.cons tI .nil,[(false,1)],[],[]⟩ m args dv)
    {args : List Dv} {dv : Dv} (h : pSortF m R args = some dv) : Contract P ⟨[(false,1),(false,1)],[.io true,.imm],.cons tLL .nil,[],[],[]⟩ f args dv := by
  match args,h with
  | [d,e0],h =>
    simp only [pSortF,Option.bind_eq_some_iff] at h
    obtain ⟨xs,hx,h⟩ := h
    obtain rfl := to_some hx
    split at h
    · rename_i hc
      obtain ⟨hxl,rfl,hcmp⟩ := hc
      obtain rfl := Option.some.inj h
      have hsl := sortF_length xs
      intro w S us FP hS hFP hdis hlen hpar
      match us,hlen with
      | [u0,u1],_ =>
        have hp0 : OwnArr S w true tL xs u0 (FP 0) := hpar 0 _ _ rfl rfl
        have hp1 : Rp S w (.fn m .nil) () [u1] := hpar 1 _ _ rfl rfl
        obtain ⟨us1,hus1,hnil⟩ := hp1
        have hnil : us1 = [] := hnil
        subst hnil
        obtain rfl : u1 = .func (.func m) #[] #[] := by simpa using hus1
        obtain ⟨A,c,rfl,⟨hlc,hcm⟩,hrow⟩ := hp0
        rcases hrow with hc0 | ⟨b,arr,e,G,rfl,hFb,hh,hasz,hGo,hGd,hE⟩
        · have hx0 : xs = [] := List.length_eq_zero_iff.1 (by omega)
          subst hx0
          refine (nothing A c _ w).mono ?_
          rintro e w' ⟨rfl,hw,hk⟩
          refine ⟨[],S,fun _ _ => False,fun _ _ => False,rfl,?_⟩
          refine { mS := fun _ h => h,sub := fun _ h => .inl h,szS := fun b h => by rw [hw]; exact hS b h,size := by rw [hw]; exact Nat.le_refl _,kin := hk,keep := fun _ _ _ => by rw [hw],gr := fun _ _ h => h.elim,gp := fun _ _ h => h.elim,drr := fun _ _ _ _ h => h.elim,dpp := fun _ _ _ _ h => h.elim,drp := fun _ _ _ h => h.elim,len := rfl,lenO := Nat.zero_le _,res := fun k d u hk => absurd hk (Nat.not_lt_zero k),ios := ?_ }
          exact ⟨_,_,_,rfl,rfl,⟨A,c,by rw [hsl],⟨by rw [hsl]; exact hlc,hcm⟩,.inl hc0⟩,trivial⟩
        · have hbw : b < w.heap.size := (hFP 0 b hFb).1
          have hasz' : arr.size = c := by rw [hasz]; simp [Ty.size]
          have hcell : ∀ j (hj : j < xs.length),∃ u,arr[j]? = some u ∧ DRp w tL xs[j] [u] (G j) := fun j hj => by
            obtain ⟨us,h1,h2⟩ := hE j xs[j] (List.getElem?_eq_getElem hj)
            have h1 : DRp w tL xs[j] us (G j) := h1
            have hl := h1.len
            match us,hl with
            | [u],_ => exact ⟨u,by have := h2 0 u rfl; simpa [Ty.size] using this,h1⟩
          by_cases hn0 : xs.length = 0
          · have hx0 : xs = [] := List.length_eq_zero_iff.1 hn0
            subst hx0
            refine (nothing _ c _ w).mono ?_
            rintro e2 w' ⟨rfl,hw,hk⟩
            refine ⟨[],S,fun _ _ => False,fun j x => j = 0 ∧ FP 0 x,rfl,?_⟩
            refine { mS := fun _ h => h,sub := fun _ h => .inl h,szS := fun b h => by rw [hw]; exact hS b h,size := by rw [hw]; exact Nat.le_refl _,kin := hk,keep := fun _ _ _ => by rw [hw],gr := fun _ _ h => h.elim,gp := ?_,drr := fun _ _ _ _ h => h.elim,dpp := ?_,drp := fun _ _ _ h => h.elim,len := rfl,lenO := Nat.zero_le _,res := fun k d u hk => absurd hk (Nat.not_lt_zero k),ios := ?_ }
            · rintro j x ⟨_,hx⟩; exact ⟨(hFP 0 x hx).2,by rw [hw]; exact (hFP 0 x hx).1,.inr ⟨0,hx⟩⟩
            · rintro j j' x hjj ⟨rfl,_⟩ ⟨rfl,_⟩; exact hjj rfl
            · exact ⟨_,_,_,rfl,rfl,⟨some ⟨b,0,none⟩,c,by rw [hsl],⟨by rw [hsl]; exact hlc,hcm⟩,.inr ⟨b,arr,e,fun _ _ => False,rfl,⟨rfl,hFb⟩,by rw [hw]; exact hh,hasz,fun _ _ h => h.elim,fun _ _ _ _ h => h.elim,fun j x hx => by
                have hl : (sortF ([] : List (List Int))).length = 0 := hsl
                rw [List.length_eq_zero_iff.1 hl] at hx; simp at hx⟩⟩,trivial⟩
          have ix : ∀ i,min i (xs.length - 1) < xs.length := fun i => by omega
          obtain ⟨enc,henc⟩ : ∃ enc : Nat → Value,enc = fun i => arr.getD (min i (xs.length - 1)) Go.undef := ⟨_,rfl⟩
          have encOf : ∀ i,∃ u,enc i = u ∧ arr[min i (xs.length - 1)]? = some u ∧ DRp w tL (xs[min i (xs.length - 1)]'(ix i)) [u] (G (min i (xs.length - 1))) := fun i => by
            obtain ⟨u,h1,h2⟩ := hcell _ (ix i)
            refine ⟨u,?_,h1,h2⟩
            rw [henc]
            simp only [Array.getD_eq_getD_getElem?,h1,Option.getD_some]
          have h1c : Go.Proofs.OneCell enc := fun i => by
            obtain ⟨u,e1,_,hd⟩ := encOf i
            rw [e1]
            obtain ⟨A',c',hv,_⟩ := hd
            obtain rfl : u = .slice A' _ c' := by simpa using hv
            rfl
          obtain ⟨cf,hcf⟩ : ∃ cf : Nat → Nat → Int,cf = fun i j => cmpX (xs[min i (xs.length - 1)]'(ix i)) (xs[min j (xs.length - 1)]'(ix j)) := ⟨_,rfl⟩
          have hO : Sort.SWO (Go.Proofs.ltOf cf) := by
            constructor
            · intro x; rw [hcf]; refine decide_eq_false ?_; show ¬ cmpX _ _ < 0; rw [cmpX_zero.2 rfl]; omega
            · intro x y z h1 h2; rw [hcf] at *; exact decide_eq_true (cmpX_trans (of_decide_eq_true h1) (of_decide_eq_true h2))
            · intro x y z h1 h2; rw [hcf] at *; exact decide_eq_false (cmpX_ntrans (of_decide_eq_false h1) (of_decide_eq_false h2))
          have hsw : ∀ (q : Nat) (os : Array Go.Obj) (dk : Array Nat),(∀ bb,bb < w.heap.size → bb ≠ b → (Go.Proofs.sortWorld enc w b 0 q dk os).heap[bb]? = w.heap[bb]?) ∧ w.heap.size ≤ (Go.Proofs.sortWorld enc w b 0 q dk os).heap.size ∧ Kin w (Go.Proofs.sortWorld enc w b 0 q dk os) ∧
              (Go.Proofs.sortWorld enc w b 0 q dk os).heap[b]? = some (.cells (Sort.putCells enc 0 dk arr) e (0,0)) := fun q os dk => by
            have hheap : (Go.Proofs.sortWorld enc w b 0 q dk os).heap = (w.heap.modify b (Sort.onCells (Sort.putCells enc 0 dk))) ++ os := rfl
            refine ⟨fun bb h1 h2 => ?_,by rw [hheap]; simp,⟨rfl,rfl,rfl,Nat.le_add_right _ _⟩,?_⟩
            · rw [hheap,Array.getElem?_append_left (by simpa using h1),Array.getElem?_modify,if_neg (Ne.symm h2)]
            · rw [hheap,Array.getElem?_append_left (by simpa using hbw),Array.getElem?_modify,if_pos rfl,hh]; rfl
          have hG : ∀ i bb,G i bb → bb < w.heap.size ∧ bb ≠ b := fun i bb h => ⟨(hFP 0 bb (hGo i bb h).1).1,(hGo i bb h).2⟩
          have hlays : Go.Proofs.CmpLays1 P m #[] enc cf b 0 (Array.range xs.length).size w := by
            intro q os dk hdk x y
            obtain ⟨s1,s2,s3,s4⟩ := hsw q os dk
            obtain ⟨ux,ex,_,dx⟩ := encOf x
            obtain ⟨uy,ey,_,dy⟩ := encOf y
            have hcon := hR _ _ (hcmp _ (List.getElem_mem (ix x)) _ (List.getElem_mem (ix y))) (Go.Proofs.sortWorld enc w b 0 q dk os) (fun bb => ∃ i,G i bb) [enc x,enc y] (fun _ _ => False) (fun bb ⟨i,h⟩ => Nat.lt_of_lt_of_le (hG i bb h).1 s2) (fun _ _ h => h.elim) (fun _ _ _ _ h => h.elim) rfl (fun j dd v hd hv => by
              have lift : ∀ (i : Nat) (X : List Int) (u : Value),DRp w tL X [u] (G i) → Rp (fun bb => ∃ i,G i bb) (Go.Proofs.sortWorld enc w b 0 q dk os) tL X [u] := fun i X u hX =>
                Rp.mono (fun _ h => h) (fun bb ⟨i,h⟩ => s1 bb (hG i bb h).1 (hG i bb h).2) tL X [u] (DRp.freeze (S := fun bb => ∃ i,G i bb) tL X [u] (fun bb h => ⟨i,h⟩) hX)
              match j,hd,hv with
              | 0,hd,hv =>
                obtain rfl : (⟨tL,_⟩ : Dv) = dd := Option.some.inj hd
                obtain rfl : enc x = v := Option.some.inj hv
                rw [ex]; exact lift _ _ _ dx
              | 1,hd,hv =>
                obtain rfl : (⟨tL,_⟩ : Dv) = dd := Option.some.inj hd
                obtain rfl : enc y = v := Option.some.inj hv
                rw [ey]; exact lift _ _ _ dy)
            refine Calls.mono hcon ?_
            rintro e2 w2 ⟨rus,S2,GR,GP,rfl,aft⟩
            have hrus : rus = [.int .i64 (cf x y)] := by
              have hl := aft.len
              match rus,hl with
              | [v],_ =>
                have : [v] = [Value.int .i64 _] := aft.res 0 ⟨tI,_⟩ v Nat.zero_lt_one rfl rfl
                rw [this,hcf]
            subst hrus
            exact ⟨rfl,world_ext (fun bb hb => aft.keep bb hb fun _ h => h) aft.size aft.kin⟩
          have hH : Sort.Holds enc w b 0 (Array.range xs.length) := fun j hj => by
            have hj : j < xs.length := by simpa using hj
            obtain ⟨u,e1,h1,_⟩ := encOf j
            have hm : min j (xs.length - 1) = j := by omega
            rw [hm] at h1
            constructor
            · have := at_arr (o := 0) (us := arr.toList) hh (fun j u hu => by simpa using hu) j u (by simpa using h1)
              rw [getElem!_pos _ _ (by simpa using hj)]
              simpa [e1] using this
            · simp [World.frozen?,hh]
          have hcall := walk enc h1c cf hO b c (Array.range xs.length) w hlays hH hbw (by simp; omega)
          rw [Array.size_range] at hcall
          refine hcall.mono ?_
          rintro e2 w' ⟨rfl,d',q,os,hperm,hsorted,rfl⟩
          obtain ⟨s1,s2,s3,s4⟩ := hsw q os d'
          generalize Go.Proofs.sortWorld enc w b 0 q d' os = w' at s1 s2 s3 s4
          obtain ⟨hd1,_,hd3⟩ := hperm
          rw [Array.size_range] at hd1
          have hpl : d'.toList.Perm (List.range xs.length) := by
            have e1 : d'.extract 0 xs.length = d' := by rw [← hd1,Array.extract_size]
            have e2 : (Array.range xs.length).extract 0 xs.length = Array.range xs.length := by
              conv => lhs; arg 3; rw [← Array.size_range (n := xs.length)]
              rw [Array.extract_size]
            rw [e1,e2,Array.toList_range] at hd3
            exact hd3
          have hdl : d'.toList.length = xs.length := by simpa using hd1
          have hlt : ∀ i (hi : i < d'.toList.length),d'.toList[i] < xs.length := fun i hi => List.mem_range.1 (hpl.mem_iff.1 (List.getElem_mem hi))
          have hinj : ∀ i j (hi : i < d'.toList.length) (hj : j < d'.toList.length),d'.toList[i] = d'.toList[j] → i = j := fun i j hi hj hij => by
            have hnd : d'.toList.Nodup := hpl.nodup_iff.2 List.nodup_range
            have hp := List.pairwise_iff_getElem.1 hnd
            rcases Nat.lt_trichotomy i j with h | h | h
            · exact absurd hij (hp i j hi hj h)
            · exact h
            · exact absurd hij.symm (hp j i hj hi h)
          obtain ⟨ys,hys⟩ : ∃ ys,ys = d'.toList.map fun k => xs.getD k [] := ⟨_,rfl⟩
          have hyx : ys.Perm xs := by
            have e : (List.range xs.length).map (fun k => xs.getD k []) = xs := by
              apply List.ext_getElem
              · simp
              · intro i h1 h2
                rw [List.getElem_map,List.getElem_range,List.getD_eq_getElem?_getD,List.getElem?_eq_getElem h2]; rfl
            have := hpl.map fun k => xs.getD k []
            rw [e,← hys] at this
            exact this
          have hget : ∀ i (hi : i < d'.toList.length),d'[i]! = d'.toList[i] := fun i hi => by
            rw [getElem!_pos _ _ (by simpa using hi)]; rfl
          have hyp : ys.Pairwise (fun a b => leX a b = true) := by
            rw [List.pairwise_iff_getElem]
            intro i j hi hj hij
            have hi' : i < d'.toList.length := by rw [hys,List.length_map] at hi; exact hi
            have hj' : j < d'.toList.length := by rw [hys,List.length_map] at hj; exact hj
            have := hsorted i j (Nat.zero_le _) hij (by omega)
            rw [hget i hi',hget j hj',hcf] at this
            have hni := of_decide_eq_false this
            have li := hlt i hi'
            have lj := hlt j hj'
            have mi : min d'.toList[i] (xs.length - 1) = d'.toList[i] := by omega
            have mj : min d'.toList[j] (xs.length - 1) = d'.toList[j] := by omega
            simp only [mi,mj] at hni
            have ei : ys[i] = xs[d'.toList[i]] := by
              simp only [hys,List.getElem_map]
              rw [List.getD_eq_getElem?_getD,List.getElem?_eq_getElem li]; rfl
            have ej : ys[j] = xs[d'.toList[j]] := by
              simp only [hys,List.getElem_map]
              rw [List.getD_eq_getElem?_getD,List.getElem?_eq_getElem lj]; rfl
            have e3 := @cmpX_neg xs[d'.toList[i]] xs[d'.toList[j]]
            rw [ei,ej]
            exact decide_eq_true (by omega)
          have hyS : ys = sortF xs := sortF_eq hyx hyp
          rw [← hyS]
          have hyl : ys.length = xs.length := by rw [hys,List.length_map]; exact hdl
          have hput : ∀ cs : Array Value,Sort.putCells enc 0 d' cs = cs.mapIdx fun k x => if k < xs.length then enc d'[k]! else x := fun cs => by
            unfold Sort.putCells
            congr 1
            funext k x
            simp [hd1]
          refine ⟨[],S,fun _ _ => False,fun j x => j = 0 ∧ (x = b ∨ ∃ i,G i x),rfl,?_⟩
          refine { mS := fun _ h => h,sub := fun _ h => .inl h,szS := fun b h => Nat.lt_of_lt_of_le (hS b h) s2,size := s2,kin := s3,keep := fun b' h1 h2 => s1 b' h1 fun e => h2 0 (e ▸ hFb),gr := fun _ _ h => h.elim,gp := ?_,drr := fun _ _ _ _ h => h.elim,dpp := ?_,drp := fun _ _ _ h => h.elim,len := rfl,lenO := Nat.zero_le _,res := fun k d u hk => absurd hk (Nat.not_lt_zero k),ios := ?_ }
          · rintro j x ⟨_,rfl | ⟨i,hi⟩⟩
            · exact ⟨(hFP 0 x hFb).2,Nat.lt_of_lt_of_le hbw s2,.inr ⟨0,hFb⟩⟩
            · exact ⟨(hFP 0 x (hGo i x hi).1).2,Nat.lt_of_lt_of_le (hG i x hi).1 s2,.inr ⟨0,(hGo i x hi).1⟩⟩
          · rintro j j' x hjj ⟨rfl,_⟩ ⟨rfl,_⟩; exact hjj rfl
          · refine ⟨_,_,_,rfl,rfl,⟨some ⟨b,0,none⟩,c,by rw [hyl],⟨by rw [hyl]; exact hlc,hcm⟩,.inr ⟨b,_,e,fun i x => i < xs.length ∧ G d'[i]! x,rfl,⟨rfl,.inl rfl⟩,s4,?_,?_,?_,fun j x hx => ?_⟩⟩,trivial⟩
            · rw [hput]; simp [hasz]
            · rintro i x ⟨_,hx⟩; exact ⟨⟨rfl,.inr ⟨_,hx⟩⟩,(hG _ x hx).2⟩
            · rintro i j x hij ⟨hi,h1⟩ ⟨hj,h2⟩
              have hi' : i < d'.toList.length := by omega
              have hj' : j < d'.toList.length := by omega
              rw [hget i hi'] at h1
              rw [hget j hj'] at h2
              exact hGd _ _ x (fun e => hij (hinj i j hi' hj' e)) h1 h2
            · have hx : ys[j]? = some x := hx
              obtain ⟨hjl,hjx⟩ := List.getElem?_eq_some_iff.1 hx
              have hj' : j < d'.toList.length := by omega
              have lj := hlt j hj'
              obtain ⟨u,e1,e2,hd⟩ := encOf d'.toList[j]
              have mj : min d'.toList[j] (xs.length - 1) = d'.toList[j] := by omega
              simp only [mj] at e2 hd
              have ej : x = xs[d'.toList[j]] := by
                rw [← hjx]
                simp only [hys,List.getElem_map]
                rw [List.getD_eq_getElem?_getD,List.getElem?_eq_getElem lj]; rfl
              refine ⟨[u],?_,fun r u' hu' => ?_⟩
              · show DRp w' tL x [u] _
                rw [ej]
                refine DRp.mono tL _ [u] (fun bb h => ⟨by omega,by rw [hget j hj']; exact h⟩) (fun bb h => s1 bb (hG _ bb h).1 (hG _ bb h).2) hd
              · match r,hu' with
                | 0,hu' =>
                  obtain rfl : u = u' := Option.some.inj hu'
                  rw [hput,Array.getElem?_mapIdx]
                  have hja : j * Ty.size tL + 0 = j := by simp [Ty.size]
                  obtain ⟨v,hv,_⟩ := hcell j (by omega)
                  rw [hja,hv,Option.map_some,if_pos (by omega),hget j hj',e1]
    · cases h

end Ve

set_option linter.unusedVariables false
set_option linter.unusedSimpArgs false
namespace Ve
open Go

open Classical in
noncomputable def pCompF (m : Nat) (R : Run) (args : List Dv) : Option Dv := match args with
  | [d,e] => (d.to tLL).bind fun xs => if xs.length ≤ 1048576 ∧ e = ⟨.fn m .nil,()⟩ ∧ ∀ (i : Nat) (h : i + 1 < xs.length),R.r m [⟨tL,xs[i + 1]⟩,⟨tL,xs[i]⟩] = some ⟨.cons .bool .nil,(false,())⟩ then some ⟨.cons tLL .nil,(xs,())⟩ else none
  | _ => none

theorem compF_contract {P : Program} {f m : FuncId}
    (walk : ∀ (b n c : Nat),2 ≤ n → n ≤ c → n ≤ 4611686018427387904 → ∀ (Inv : Nat → World → Prop) (w : World),Inv 1 w → (∀ k w',Inv k w' → Inv k w'.drew) →
      (∀ k w',1 ≤ k → k < n → Inv k w' → ∃ u v,w'.cell? ⟨b,k,none⟩ = some u ∧ w'.cell? ⟨b,k - 1,none⟩ = some v ∧ Calls P m #[u,v] w' fun e w'' => e = .returned (.bool false) ∧ Inv (k + 1) w'') →
      Calls P f #[.slice (some ⟨b,0,none⟩) n c,.func (.func m) #[] #[]] w fun e w' => e = .returned (.slice (some ⟨b,0,none⟩) n c) ∧ Inv n w')
    (short : ∀ (A : Option Addr) (n c : Nat),n < 2 → ∀ (fv : Value) (w : World),Calls P f #[.slice A n c,fv] w fun e w' => e = .returned (.slice A n c) ∧ w' = w)
    {R : Run} (hR : ∀ args dv,R.r m args = some dv → Contract P ⟨[(false,1),(false,1)],[],.cons .bool .nil,[(false,1)],[],[]⟩ m args dv)
    {args : List Dv} {dv : Dv} (h : pCompF m R args = some dv) : Contract P ⟨[(false,1),(false,1)],[.take true,.imm],.cons tLL .nil,[(false,1)],[.deep],[]⟩ f args dv := by
  match args,h with
  | [d,e0],h =>
    simp only [pCompF,Option.bind_eq_some_iff] at h
    obtain ⟨xs,hx,h⟩ := h
    obtain rfl := to_some hx
    split at h
    · rename_i hc
      obtain ⟨hxl,rfl,hcmp⟩ := hc
      obtain rfl := Option.some.inj h
      intro w S us FP hS hFP hdis hlen hpar
      match us,hlen with
      | [u0,u1],_ =>
        have hp0 : OwnArr S w true tL xs u0 (FP 0) := hpar 0 _ _ rfl rfl
        have hp1 : Rp S w (.fn m .nil) () [u1] := hpar 1 _ _ rfl rfl
        obtain ⟨us1,hus1,hnil⟩ := hp1
        have hnil : us1 = [] := hnil
        subst hnil
        obtain rfl : u1 = .func (.func m) #[] #[] := by simpa using hus1
        have back : ∀ (w' : World),(∀ b,b < w.heap.size → w'.heap[b]? = w.heap[b]?) → w.heap.size ≤ w'.heap.size → Kin w w' →
            ∃ rus S' GR GP,(.returned u0 : Ending) = .returned (valOf [(false,1)] rus) ∧ After w S FP ⟨[(false,1),(false,1)],[.take true,.imm],.cons tLL .nil,[(false,1)],[.deep],[]⟩ [u0,.func (.func m) #[] #[]] ⟨.cons tLL .nil,(xs,())⟩ w' S' rus GR GP := fun w' h1 h2 h3 => by
          refine ⟨[u0],S,fun j x => j = 0 ∧ FP 0 x,fun _ _ => False,rfl,?_⟩
          refine { mS := fun _ h => h,sub := fun _ h => .inl h,szS := fun b h => Nat.lt_of_lt_of_le (hS b h) h2,size := h2,kin := h3,keep := fun b h _ => h1 b h,gr := ?_,gp := fun _ _ h => h.elim,drr := ?_,dpp := fun _ _ _ _ h => h.elim,drp := fun _ _ _ _ h => h,len := rfl,lenO := Nat.le_refl _,res := ?_,ios := trivial }
          · rintro j x ⟨_,hx⟩; exact ⟨(hFP 0 x hx).2,Nat.lt_of_lt_of_le (hFP 0 x hx).1 h2,.inr ⟨0,hx⟩⟩
          · rintro j j' x hjj ⟨rfl,_⟩ ⟨rfl,_⟩; exact hjj rfl
          · intro k d v hk hd hv
            obtain rfl : k = 0 := by have hk : k < 1 := hk; omega
            obtain rfl : (⟨tLL,xs⟩ : Dv) = d := Option.some.inj hd
            obtain rfl : u0 = v := Option.some.inj hv
            exact OwnArr.mono (fun _ h => h) (fun b h => h1 b (hS b h)) (fun b h => ⟨rfl,h⟩) (fun b h => h1 b (hFP 0 b h).1) hp0
        have hp0' := hp0
        obtain ⟨A,c,rfl,⟨hlc,hcm⟩,hrow⟩ := hp0'
        by_cases hn2 : xs.length < 2
        · refine (short A xs.length c hn2 _ w).mono ?_
          rintro e w' ⟨rfl,rfl⟩
          exact back w' (fun _ _ => rfl) (Nat.le_refl _) (Kin.refl _)
        · rcases hrow with hc0 | ⟨b,arr,e,G,rfl,hFb,hh,hasz,hGo,hGd,hE⟩
          · omega
          · have hcell : ∀ j (hj : j < xs.length),∃ u,arr[j]? = some u ∧ DRp w tL xs[j] [u] (G j) := fun j hj => by
              obtain ⟨us,h1,h2⟩ := hE j xs[j] (List.getElem?_eq_getElem hj)
              have h1 : DRp w tL xs[j] us (G j) := h1
              have hl := h1.len
              match us,hl with
              | [u],_ => exact ⟨u,by have := h2 0 u rfl; simpa [Ty.size] using this,h1⟩
            have hcat : ∀ (w' : World),w'.heap[b]? = w.heap[b]? → ∀ j u,arr[j]? = some u → w'.cell? ⟨b,j,none⟩ = some u := fun w' hw j u hu => by
              have := at_arr (w := w') (o := 0) (us := arr.toList) (by rw [hw]; exact hh) (fun j u hu => by simpa using hu) j u (by simpa using hu)
              simpa using this
            have hG : ∀ i bb,G i bb → bb < w.heap.size := fun i bb h => (hFP 0 bb (hGo i bb h).1).1
            have hbw : b < w.heap.size := (hFP 0 b hFb).1
            refine (walk b xs.length c (by omega) hlc (by omega) (fun _ w' => (∀ b,b < w.heap.size → w'.heap[b]? = w.heap[b]?) ∧ w.heap.size ≤ w'.heap.size ∧ Kin w w') w ⟨fun _ _ => rfl,Nat.le_refl _,Kin.refl _⟩ (fun k w' ⟨h1,h2,h3⟩ => ⟨h1,h2,h3.1,h3.2.1,h3.2.2.1,Nat.le_succ_of_le h3.2.2.2⟩) ?_).mono ?_
            · rintro k w' hk1 hkn ⟨h1,h2,h3⟩
              obtain ⟨k,rfl⟩ : ∃ q,k = q + 1 := ⟨k - 1,by omega⟩
              obtain ⟨ux,hux,dx⟩ := hcell (k + 1) hkn
              obtain ⟨uy,huy,dy⟩ := hcell k (by omega)
              refine ⟨ux,uy,hcat w' (h1 b hbw) _ _ hux,hcat w' (h1 b hbw) _ _ huy,?_⟩
              have hcon := hR _ _ (hcmp k hkn) w' (fun bb => ∃ i,G i bb) [ux,uy] (fun _ _ => False) (fun bb ⟨i,h⟩ => Nat.lt_of_lt_of_le (hG i bb h) h2) (fun _ _ h => h.elim) (fun _ _ _ _ h => h.elim) rfl (fun j dd v hd hv => by
                have lift : ∀ (i : Nat) (X : List Int) (u : Value),DRp w tL X [u] (G i) → Rp (fun bb => ∃ i,G i bb) w' tL X [u] := fun i X u hX =>
                  Rp.mono (fun _ h => h) (fun bb ⟨i,h⟩ => h1 bb (hG i bb h)) tL X [u] (DRp.freeze (S := fun bb => ∃ i,G i bb) tL X [u] (fun bb h => ⟨i,h⟩) hX)
                match j,hd,hv with
                | 0,hd,hv =>
                  obtain rfl : (⟨tL,_⟩ : Dv) = dd := Option.some.inj hd
                  obtain rfl : ux = v := Option.some.inj hv
                  exact lift _ _ _ dx
                | 1,hd,hv =>
                  obtain rfl : (⟨tL,_⟩ : Dv) = dd := Option.some.inj hd
                  obtain rfl : uy = v := Option.some.inj hv
                  exact lift _ _ _ dy)
              refine Calls.mono hcon ?_
              rintro e2 w2 ⟨rus,S2,GR,GP,rfl,aft⟩
              have hrus : rus = [.bool false] := by
                have hl := aft.len
                match rus,hl with
                | [v],_ =>
                  have : [v] = [Value.bool false] := aft.res 0 ⟨.bool,_⟩ v Nat.zero_lt_one rfl rfl
                  exact this
              subst hrus
              exact ⟨rfl,fun b hb => (aft.keep b (by omega) fun _ h => h).trans (h1 b hb),Nat.le_trans h2 aft.size,h3.trans aft.kin⟩
            · rintro e2 w' ⟨rfl,h1,h2,h3⟩
              exact back w' h1 h2 h3
    · cases h

end Ve
