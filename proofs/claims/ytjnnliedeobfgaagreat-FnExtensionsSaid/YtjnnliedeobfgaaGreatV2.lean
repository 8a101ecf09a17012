import Derived.Test.YtjnnliedeobfgaaGreatV1
import Derived.ChangeArms
import Derived.ChangeSlices
import Derived.ChangeOld
import Derived.OpenShut
import Derived.Below
import Derived.Carry
import Derived.Lib.AppendZerosOnto
set_option linter.unusedVariables false
set_option linter.unusedSimpArgs false
namespace Ve
open Go
section
variable {S S':qaf} {w w':World} {g g':Nat→Value} {C:Ctx} {F F':Nat→qaf} {st:St} {tm:Array Value} {P:Program} {ρ:Type}
theorem Sim.relabel(hs:Sim C S g F st tm w){s:Nat}{o o':Obj}(ho:qaj st.ob s=some o)(hf:o.frozen=false)(hf':o'.frozen=false)(hx:o'.fixed=o.fixed)(hob:ObR S w g F s o') :
  Sim C S g F (st.setOb s (some o')) tm w:=by
 have:=hs.set s o o' (F s) (w':=w) ho (zaf _) (fun _ _=>rfl) (fun _ _ _ _ _ _=>rfl) (fun _ _ _=>rfl) hf' (fun h=>hs.fx s o ho (hx ▸ h)) (by rw[qeb];exact hob)
  (fun b hb=>⟨(hs.prv s o ho hf b hb).1,(hs.prv s o ho hf b hb).2,hs.szF s o ho b hb⟩) (fun s' p hne hp hpf b hb hb'=>hs.dis s s' o p (Ne.symm hne) ho hp hf hpf b hb hb')
 rwa [qeb] at this
theorem qre(hs:Sim C S g F st tm w)(site:Nat)(t:Ty)(dp:Bool)(A:Option Addr) :
  Sim C S (upd g site (.slice A 0 0)) (upd F site fun _=>False) (st.newOb site (.arr t [] dp false false)) tm w:=by
 refine hs.newG (w':=w) site _ _ _ (zaf _) (fun _ _ _=>rfl) rfl rfl ?_ (fun _ h=>h.elim)
 unfold ObR;simp only[qan]
 exact⟨A,0,rfl,⟨zaf _,zaE _⟩,.inl rfl⟩
theorem qfM:∀ {l:List (Nat×Nat×Ty×Bool)} {g:Nat→Value} {F:Nat→qaf} {st st':St},Sim C S g F st tm w→qpE l st=some st'→∃ g' F',Sim C S g' F' st' tm w
  | [],g,F,st,st',hs,h=>by obtain rfl:=zad h;exact⟨g,F,hs⟩
  | (slot,site,t,dp)::l,g,F,st,st',hs,h=>by
      unfold qpE at h
      split at h
      · split at h
        · exact qfM hs h
        · cases h
      · rename_i u hv
        split at h
        · obtain⟨A,hA⟩:=hs.fr slot _ hv
          have h1:=qre hs site t dp A
          refine qfM (h1.setFr slot (.c (.arr site)) fun v' hv'=>?_) h
          exact⟨by rw[qan];exact hA,A,0,0,hA⟩
        · cases h
      · cases h
theorem qe0:∀ {l:List (Nat×Nat×Nat×Ty×Bool)} {g:Nat→Value} {F:Nat→qaf} {st st':St},Sim C S g F st tm w→qlQ l st=some st'→∃ g' F',Sim C S g' F' st' tm w
  | [],g,F,st,st',hs,h=>by obtain rfl:=zad h;exact⟨g,F,hs⟩
  | (bs,cell,site,t,dp)::l,g,F,st,st',hs,h=>by
      unfold qlQ at h
      split at h
      · rename_i cs fx ho
        split at h
        · split at h
          · exact qe0 hs h
          · cases h
        · rename_i u hv
          split at h
          · rename_i hc
            obtain⟨hu,hne⟩:=hc
            simp only at h
            split at h
            · rename_i cs1 fx1 ho1
              obtain⟨b,arr,e,hg,hF,hh,hcs⟩:=hs.ob bs _ ho
              obtain⟨v,hav,A,rfl⟩:=hcs.get hv
              have h1:=qre hs site t dp A
              obtain⟨b1,arr1,e1,hg1,hF1,hh1,hcs1⟩:=h1.ob bs _ ho1
              have hbb:b1=b:=by
                rw[qav _ _ (Ne.symm hne)] at hg1
                rw[hg] at hg1
                simpa using hg1.symm
              subst hbb
              rw[hh] at hh1
              obtain⟨rfl,rfl⟩:arr=arr1∧e=e1:=by simpa using hh1
              refine qe0 (h1.relabel ho1 rfl (o':=.box (cs1.set cell (.arr site)) false fx1) rfl rfl ⟨b1,arr,e,hg1,hF1,hh,?_⟩) h
              have key:∀ {cs:List V0} {us:List Value} {i:Nat} {c:V0} {u:Value},Cs S w (upd g site (.slice A 0 0)) cs us→us[i]? = some u→V0R S w (upd g site (.slice A 0 0)) c u→Cs S w (upd g site (.slice A 0 0)) (cs.set i c) us:=by
                intro cs
                induction cs with
                | nil=>intro us i c u h _ _;exact h
                | cons c0 cs ih =>
                  rintro us i c u ⟨u0,us',rfl,h1,h2⟩ hu hc
                  cases i with
                  | zero=>simp at hu;subst hu;exact⟨u0,us',rfl,hc,h2⟩
                  | succ i=>exact⟨u0,us',rfl,h1,ih h2 (by simpa using hu) hc⟩
              exact key hcs1 hav ⟨by rw[qan],A,0,0,rfl⟩
            · cases h
          · cases h
        · cases h
      · cases h
theorem Cs.set:∀ {cs:List V0} {us:List Value} {i:Nat} {c:V0} {u:Value},Cs S w g cs us→us[i]? = some u→V0R S w g c u→Cs S w g (cs.set i c) us
  | [],us,i,c,u,h,_,_=>h
  | c0::cs,us,i,c,u,⟨u0,us',he,h1,h2⟩,hu,hc=>by
      subst he
      cases i with
      | zero=>simp at hu;subst hu;exact⟨u0,us',rfl,hc,h2⟩
      | succ i=>exact⟨u0,us',rfl,h1,Cs.set h2 (by simpa using hu) hc⟩
theorem qgo:∀(n:Nat) (ob:List (Option Obj)) (v:V0) (s:Nat),s∉qbr n ob v→qaj (freezeN n ob v) s=qaj ob s
 | 0,ob,v,s,_=>rfl
 | n+1,ob,v,s,h=>by
  have mod:∀ s',s≠s'→qaj (ob.modify s' (·.map Obj.freeze)) s=qaj ob s:=fun s' hne=>by rw[qbM,if_neg hne]
  cases v with
  | arr s'=>exact mod s' (by simpa [qbr] using h)
  | sub s' _ _ _=>exact mod s' (by simpa [qbr] using h)
  | elt s' _ _ _=>exact mod s' (by simpa [qbr] using h)
  | box s' off =>
   simp only[qbr] at h
   simp only[freezeN]
   cases ho:qaj ob s' with
   | none=>rfl
   | some o =>
    rw[ho] at h
    cases o with
    | arr t xs d fz fx=>rfl
    | hol=>rfl
    | hlp=>rfl
    | box cs fz fx =>
     simp only[zaM,zbq,not_or] at h
     have fold:∀(l:List V0) (ob1:List (Option Obj)),Frz ob ob1→(∀ c∈l,s∉qbr n ob c)→qaj (l.foldl (freezeN n) ob1) s=qaj ob1 s:=by
      intro l
      induction l with
      | nil=>intro ob1 _ _;rfl
      | cons c l ih =>
       intro ob1 h1 h2
       rw[zbP,ih _ (h1.trans (Frz.freezeN n ob1 c)) fun c' hc'=>h2 c' (by simp[hc'])]
       exact qgo n ob1 c s (by rw[qdP h1];exact h2 c (by simp))
     simp only
     rw[fold cs _ (Frz.modify ob s') fun c hc hs=>h.2 ⟨c,hc,hs⟩]
     exact mod s' h.1
  | _=>rfl
theorem qdU:∀ {l:List (Nat×Nat)} {S:qaf} {st st':St},Sim C S g F st tm w→qrI l st=some st'→∃ S',Sim C S' g F st' tm w
  | [],S,st,st',hs,h=>by obtain rfl:=zad h;exact⟨S,hs⟩
  | (b,j)::l,S,st,st',hs,h=>by
      unfold qrI at h
      split at h
      · split at h
        · exact qdU hs h
        · rename_i c _ hc
          obtain⟨d,hd,h⟩:=zab.1 h
          obtain⟨S',h1,h2,h3⟩:=hs.freezes [c]
          have h1':Sim C S' g F { st with ob:=freeze st.ob c } tm w:=h1
          have hr:=qdV hs hd (hs.fr _ _ hc) h2.mS (h3 c (by simp))
          exact qdU (h1'.setFr (b-1000000) (.c (qcy d)) fun _ _=>qdQ hr) h
        · cases h
      split at h
      · rename_i cs fx ho
        split at h
        · exact qdU hs h
        · rename_i c _ hc
          obtain⟨d,hd,h⟩:=zab.1 h
          split at h
          · cases h
          · rename_i hnl
            have hnl':b∉qd9 st.ob c:=by simpa using hnl
            obtain⟨bb,arr,e,hg,hF,hh,hcs⟩:=hs.ob b _ ho
            obtain⟨u,hau,hv⟩:=hcs.get hc
            obtain⟨S',h1,h2,h3⟩:=hs.freezes [c]
            have h1':Sim C S' g F { st with ob:=freeze st.ob c } tm w:=h1
            have hr:=qdV hs hd hv h2.mS (h3 c (by simp))
            have ho':qaj (freeze st.ob c) b=some (.box cs false fx):=by
              unfold freeze
              rw[qgo 3 st.ob c b hnl'];exact ho
            obtain⟨bb',arr',e',hg',hF',hh',hcs'⟩:=h1'.ob b _ ho'
            obtain rfl:bb=bb':=by rw[hg] at hg';simpa using hg'
            rw[hh] at hh'
            obtain⟨rfl,rfl⟩:arr=arr'∧e=e':=by simpa using hh'
            exact qdU (h1'.relabel ho' rfl (o':=.box (cs.set j (qcy d)) false fx) rfl rfl ⟨bb,arr,e,hg,hF',hh,hcs'.set hau (qdQ hr)⟩) h
        · cases h
      · cases h
theorem qiu{live:List Nat}:∀ {fr:List V} {i0 i:Nat} {v:V},(qec live i0 fr)[i]? = some v→v=.dead∨fr[i]? = some v
  | [],i0,i,v,h=>by simp[qec] at h
  | v0::fr,i0,0,v,h=>by
      simp only[qec,List.getElem?_cons_zero,Option.some.injEq] at h
      cases hl:live.contains i0 with
      | true=>rw[hl] at h;exact .inr (by simpa using h)
      | false=>rw[hl] at h;exact .inl h.symm
  | v0::fr,i0,i+1,v,h=>by
      simp only[qec,List.getElem?_cons_succ] at h ⊢
      exact qiu h
theorem qh8{live:List Nat}:∀ {fr:List V} {i0:Nat},(qec live i0 fr).length=fr.length
 | [],_=>rfl
 | _::fr,i0=>by simp[qec,qh8]
theorem Sim.mask(hs:Sim C S g F st tm w)(live:List Nat):Sim C S g F { st with fr:=qec live 0 st.fr } tm w :=
 { hs with
  size:=by rw[qh8];exact hs.size
  fr:=fun i v hv=>by
   rcases qiu hv with rfl | h
   ·trivial
   ·exact hs.fr i v h }
theorem Sim.congr(hs:Sim C S g F st tm w){ob':List (Option Obj)}(h:∀ s,qaj ob' s=qaj st.ob s):Sim C S g F { st with ob:=ob' } tm w :=
 hs.fewer rfl fun s o ho=>by rw[← h s];exact ho
theorem qf4:∀(l:List Nat) {S:qaf} {F:Nat→qaf} {st:St},Sim C S g F st tm w→∃ S' F',Sim C S' g F' { st with ob:=l.foldl (fun ob s=>ob.modify s (·.map Obj.undeep)) st.ob } tm w
  | [],S,F,st,hs=>⟨S,F,hs⟩
  | s::l,S,F,st,hs=>by
      have key:∃ S' F',Sim C S' g F' { st with ob:=st.ob.modify s (·.map Obj.undeep) } tm w:=by
        cases ho:qaj st.ob s with
        | none=>exact⟨S,F,hs.congr fun s'=>by rw[qbM];split<;>rename_i h<;>first | (subst h;rw[ho];rfl) | rfl⟩
        | some o =>
          have same:o.undeep=o→∃ S' F',Sim C S' g F' { st with ob:=st.ob.modify s (·.map Obj.undeep) } tm w:=fun e =>
            ⟨S,F,hs.congr fun s'=>by rw[qbM];split<;>rename_i h<;>first | (subst h;rw[ho,zbO,e]) | rfl⟩
          cases o with
          | box cs fz fx=>exact same rfl
          | hol=>exact same rfl
          | hlp=>exact same rfl
          | arr t xs d fz fx =>
            cases fz with
            | true=>exact same rfl
            | false =>
              obtain⟨S',Fs,h1,_⟩:=hs.weakenTo ho t.flat
              refine⟨S',_,(h1.congr fun s'=>?_:Sim C S' g _ { (st.setOb s (some (.arr t xs (d&&t.flat) false fx))) with ob:=st.ob.modify s (·.map Obj.undeep) } tm w)⟩
              rw[qbM]
              by_cases hss:s'=s
              · subst hss
                rw[if_pos rfl,ho]
                have hlt:=(zak.1 (qgt ho)).1
                unfold St.setOb qaj
                rw[zaa,zaJ hlt]
                rfl
              · rw[if_neg hss,St.setOb,qap _ _ hss]
      obtain⟨S1,F1,h1⟩:=key
      exact qf4 l h1
theorem qfq{obl:List Nat}:∀(os:List (Option Obj)) (i:Nat) {st:St},Sim C S g F st tm w→Sim C S g F (qhR obl i os st) tm w
  | [],i,st,hs=>hs
  | o::os,i,st,hs=>by
      unfold qhR
      refine qfq os (i+1) ?_
      cases o with
      | none=>exact hs
      | some o =>
        show Sim C S g F (bif obl.contains i then st else st.dropOb i) tm w
        cases obl.contains i
        · exact(hs.drop i).1
        · exact hs
theorem qn8{m:Mask}{st':St}(hs:Sim C S g F st tm w)(h:m.app st=some st'):∃ S' g' F',Sim C S' g' F' st' tm w:=by
 unfold Mask.app at h
 obtain⟨st1,h1,h⟩:=zab.1 h
 obtain⟨st2,h2,h⟩:=zab.1 h
 obtain⟨st3,h3,h⟩:=zan.1 h
 obtain⟨g1,F1,hs1⟩:=qfM hs h1
 obtain⟨g2,F2,hs2⟩:=qe0 hs1 h2
 obtain⟨S3,hs3⟩:=qdU hs2 h3
 have hs4:=hs3.mask m.live
 have hfz:∀(l:List Nat) (ob:List (Option Obj)),Frz ob (l.foldl (fun ob s=>freeze (freeze ob (.box s 0)) (.arr s)) ob):=by
  intro l
  induction l with
  | nil=>exact fun ob=>Frz.refl ob
  | cons s l ih=>exact fun ob=>((Frz.freezeN 3 ob _).trans (Frz.freezeN 3 _ _)).trans (ih _)
 have hs5:=hs4.frozen (hfz m.frzs st3.ob)
 obtain⟨S6,F6,hs6⟩:=qf4 m.undp hs5
 simp only at h
 rw[← h]
 exact⟨S6,g2,F6,qfq _ 0 hs6⟩
theorem qcO{R:Run}(hRw:∀ o f,R.w o f=o.bind f){l:List (Nat×Mask)}{k:Nat}{f:St→Option Dv}{r:Dv}(hs:Sim C S g F st tm w)(h:qhf R l k st f=some r) :
  ∃ st' S' g' F',Sim C S' g' F' st' tm w∧f st'=some r:=by
 unfold qhf at h
 split at h
 ·rename_i m _
  rw[hRw] at h
  obtain⟨st',h1,h2⟩:=zab.1 h
  obtain⟨S',g',F',h3⟩:=qn8 hs h1
  exact⟨st',S',g',F',h3,h2⟩
 ·exact⟨st,S,g,F,hs,h⟩
theorem qp9{c:Code}{Q:Exit→Act→World→Prop}{a:Act}{w:World}(I:Nat→Act→World→Prop)(n:Nat)(h₀:I n a w)
  (round:∀ n a w,I n a w→c.wp P (Exit.then (fun a' w'=>∃ m,m<n∧I m a' w') Q) a w):(Code.loop c).wp P Q a w:=by
 intro b k cs
 have key:∀ n a w,I n a w→∃ e a' w',Q e a' w'∧Arrives P (lone (b.at a (.code c::.inLoop c::k)) cs w) b k cs e a' w':=by
  intro n
  induction n using Nat.strongRecOn with
  | _ n ih =>
   intro a w hI
   obtain⟨e,a₁,w₁,hq,harr⟩:=round n a w hI b (.inLoop c::k) cs
   cases e with
   | normal =>
    obtain⟨m,hlt,hI₁⟩:=hq
    obtain⟨e₂,a₂,w₂,hq₂,harr₂⟩:=ih m hlt a₁ w₁ hI₁
    exact⟨e₂,a₂,w₂,hq₂,.of_steps (Steps.trans harr (.one step_inLoop)) harr₂⟩
   | exit id=>exact⟨_,a₁,w₁,hq,.pass (x:=.inLoop c) rfl (fun _ _=>.inl (by simp)) harr⟩
   | goto l=>exact⟨_,a₁,w₁,hq,.pass (x:=.inLoop c) rfl (fun _ _=>.inl (by simp)) harr⟩
   | ret=>exact⟨_,a₁,w₁,hq,.pass (x:=.inLoop c) rfl (fun _ _=>.inl (by simp)) harr⟩
   | panic ch=>exact⟨_,a₁,w₁,hq,.pass (x:=.inLoop c) rfl (fun _ _=>.inl (by simp)) harr⟩
   | outgrown=>exact⟨_,a₁,w₁,hq,.pass (x:=.inLoop c) rfl (fun _ _=>.inl (by simp)) harr⟩
 obtain⟨e,a',w',hq,harr⟩:=key n a w h₀
 exact⟨e,a',w',hq,.of_steps (.one step_loop) harr⟩
def Ex.toExit:Ex→Exit
 | .normal=>.normal
 | .exit i=>.exit i
 | .ret=>.ret
theorem qnY{E:Env}(hE:EnvOk E){R:Run}(hR:qi2 E R)(hRw:∀ o f,R.w o f=o.bind f){pol:Pol}{N:Nat}{r:Dv} :
  ∀(c:Code) {S:qaf} {g:Nat→Value} {F:Nat→qaf} {st:St} {a:Act} {w:World} {K:Kt} {Q:Exit→Act→World→Prop},Sim C S g F st a.tmps w→qcc E R pol N c st K=some r→(∀ c a w,¬ Q (.panic c) a w) →
   (∀ e st' S' g' F' a' w',Sim C S' g' F' st' a'.tmps w'→K e st'=some r→a'.defers=a.defers→Q e.toExit a' w')→c.wp E.P Q a w:=by
 intro c
 induction c with
 | skip =>
  intro S g F st a w K Q hs h hQp hQ
  exact wp_skip (hQ .normal st S g F a w hs h rfl)
 | region id ops draw =>
  intro S g F st a w K Q hs h hQp hQ
  unfold qcc at h
  cases draw with
  | false =>
   rw[cond_false] at h
   exact wp_region (ql3 hE hR _ hs h fun st' S' g' F' a' w' h1 h2 h3=>hQ .normal st' S' g' F' a' w' h1 h2 h3)
  | true =>
   rw[cond_true] at h
   cases hap:qiG ops with
   | false=>rw[hap] at h;cases h
   | true =>
    rw[hap,cond_true] at h
    have hs':Sim C S g F st a.tmps { w with drawn:=w.drawn+1 }:=hs.world (w':={ w with drawn:=w.drawn+1 }) (zaf _) fun _ _=>rfl
    have hz:∀ j,(List.replicate ops.size false).getD j false=false:=fun j=>by
     rw[zaa,zaB];split<;>rfl
    have:=qi7 hE hR hap hQp ops.size (ps:=[]) hs' (fun j oj _ hl=>by rw[hz] at hl;cases hl) (fun p hp=>by cases hp) h fun st' S' g' F' a' w' h1 h2 h3=>hQ .normal st' S' g' F' a' w' h1 h2 h3
    have h2:=qjL _ _ _ _ _ this
    rw[List.toArray_replicate] at h2
    exact wp_region_any hE.mixed h2
 | seq x y ihx ihy =>
  intro S g F st a w K Q hs h hQp hQ
  unfold qcc at h
  refine wp_seq (ihx hs h (fun c a w hq=>hQp c a w hq) fun e st' S' g' F' a' w' h1 h2 h3=>?_)
  cases e with
  | normal =>
   obtain⟨st2,S2,g2,F2,h4,h5⟩:=qcO hRw h1 h2
   exact ihy h4 h5 hQp fun e st3 S3 g3 F3 a3 w3 h6 h7 h8=>hQ e st3 S3 g3 F3 a3 w3 h6 h7 (h8.trans h3)
  | exit i=>exact hQ (.exit i) st' S' g' F' a' w' h1 h2 h3
  | ret=>exact hQ .ret st' S' g' F' a' w' h1 h2 h3
 | cond c x y ihx ihy =>
  intro S g F st a w K Q hs h hQp hQ
  unfold qcc at h
  obtain⟨v,hv,h⟩:=zab.1 h
  split at h
  ·rename_i t ht
   have hc:a.eval c=.bool t:=V.bool_sound ht (qdR hs rfl hv)
   refine wp_cond hc ?_
   have h':(bif t then qcc E R pol N x st K else qcc E R pol N y st K)=some r:=by
    cases c with
    | tmp i =>
     have hv':st.fr[i]? = some v:=hv
     have hset:st.setFr i (vB t)=st:=St.setFr_same (by rw[hv',V.bool_eq ht])
     cases t with
     | true =>
      have h2:qcc E R pol N x (st.setFr i (vB true)) K=some r:=h
      rw[hset] at h2;exact h2
     | false =>
      have h2:qcc E R pol N y (st.setFr i (vB false)) K=some r:=h
      rw[hset] at h2;exact h2
    | const k=>exact h
    | global k=>exact h
    | func k=>exact h
   cases t with
   | true=>exact ihx hs h' hQp hQ
   | false=>exact ihy hs h' hQp hQ
  ·cases h
 | block id b ih =>
  intro S g F st a w K Q hs h hQp hQ
  unfold qcc at h
  refine wp_block (ih hs h (fun c a w hq=>hQp c a w hq) fun e st' S' g' F' a' w' h1 h2 h3=>?_)
  cases e with
  | normal =>
   obtain⟨st2,S2,g2,F2,h4,h5⟩:=qcO hRw h1 h2
   exact hQ .normal st2 S2 g2 F2 a' w' h4 h5 h3
  | exit i =>
   show(if i=id then Q .normal a' w' else Q (.exit i) a' w')
   have h2':(if i=id then qhf R pol.blkM id st' fun st=>K .normal st else K (.exit i) st')=some r:=h2
   split
   ·rename_i hi
    rw[if_pos hi] at h2'
    obtain⟨st2,S2,g2,F2,h4,h5⟩:=qcO hRw h1 h2'
    exact hQ .normal st2 S2 g2 F2 a' w' h4 h5 h3
   ·rename_i hi
    rw[if_neg hi] at h2'
    exact hQ (.exit i) st' S' g' F' a' w' h1 h2' h3
  | ret=>exact hQ .ret st' S' g' F' a' w' h1 h2 h3
 | loop b ih =>
  intro S g F st a w K Q hs h hQp hQ
  unfold qcc at h
  obtain⟨st1,S1,g1,F1,hs1,h⟩:=qcO hRw hs h
  refine qp9 (fun n a' w'=>∃ st' S' g' F',Sim C S' g' F' st' a'.tmps w'∧qpi (qcc E R pol N b) (qhf R pol.loopM (qbD b)) n st' K=some r∧a'.defers=a.defers) N ⟨st1,S1,g1,F1,hs1,h,rfl⟩ ?_
  rintro n a' w' ⟨st',S',g',F',h1,h2,h3⟩
  cases n with
  | zero=>cases h2
  | succ n =>
   unfold qpi at h2
   refine ih h1 h2 (fun c a w hq=>hQp c a w hq) fun e st2 S2 g2 F2 a2 w2 h4 h5 h6=>?_
   cases e with
   | normal =>
    obtain⟨st3,S3,g3,F3,h7,h8⟩:=qcO hRw h4 h5
    exact⟨n,zbK n,st3,S3,g3,F3,h7,h8,h6.trans h3⟩
   | exit i=>exact hQ (.exit i) st2 S2 g2 F2 a2 w2 h4 h5 (h6.trans h3)
   | ret=>exact hQ .ret st2 S2 g2 F2 a2 w2 h4 h5 (h6.trans h3)
 | exit id =>
  intro S g F st a w K Q hs h hQp hQ
  exact wp_exit (hQ (.exit id) st S g F a w hs h rfl)
 | ret =>
  intro S g F st a w K Q hs h hQp hQ
  exact wp_ret (hQ .ret st S g F a w hs h rfl)
 | _ =>
  intros
  rename_i h _ _
  cases h
end
end Ve
namespace Ve
open Go
section
variable {S S':qaf} {w w':World} {g g':Nat→Value} {C:Ctx} {F F':Nat→qaf} {st:St} {tm:Array Value} {P:Program} {ρ:Type}
def qjD(m:PM)(d:Dv):Option Obj:=match m with
 | .imm=>none
 | .iob=>match d.t,d.x with
  | .ptr c,x=>some (.box (qbf c x) false true)
  | _,_=>none
 | m=>match d.t,d.x with
  | .sl u,xs=>some (.arr u xs (u.flat || m==.io true || m==.take true) false (m==.io true || m==.io false))
  | _,_=>none
def qo5(m:PM)(s:Nat)(d:Dv):V0:=match m with
 | .imm=>qcy d
 | .iob=>.box s 0
 | _=>.arr s
theorem qjj{pm:List PM}{base i:Nat}{d:Dv}{ob ob':List (Option Obj)}{c:V0}(h:qi6 pm base i d ob=some (c,ob')) :
  c=qo5 (qaA pm i) (base+i) d∧∀ s o,qaj ob' s=some o→qaj ob s=some o∨(s=base+i∧qjD (qaA pm i) d=some o):=by
 unfold qi6 at h
 obtain⟨t,x⟩:=d
 cases hm:qaA pm i with
 | imm =>
  rw[hm] at h
  obtain⟨rfl,rfl⟩:qcy ⟨t,x⟩=c∧ob=ob':=by simpa using h
  exact⟨rfl,fun s o ho=>.inl ho⟩
 | iob =>
  rw[hm] at h
  simp only at h
  split at h
  ·rename_i cc x
   obtain⟨rfl,rfl⟩:V0.box (base+i) 0=c∧ob.set (base+i) (some (.box (qbf cc x) false true))=ob':=by simpa using h
   refine⟨rfl,fun s o ho=>?_⟩
   by_cases hs:s=base+i
   ·subst hs;exact .inr ⟨rfl,by simpa [qjD] using qaQ ho⟩
   ·rw[qap _ _ hs] at ho;exact .inl ho
  ·cases h
 | io dp =>
  rw[hm] at h
  simp only at h
  split at h
  ·rename_i u xs
   obtain⟨rfl,rfl⟩:=Prod.mk.inj (zad h)
   refine⟨rfl,fun s o ho=>?_⟩
   by_cases hs:s=base+i
   ·subst hs;exact .inr ⟨rfl,qaQ ho⟩
   ·rw[qap _ _ hs] at ho;exact .inl ho
  ·cases h
 | take dp =>
  rw[hm] at h
  simp only at h
  split at h
  ·rename_i u xs
   obtain⟨rfl,rfl⟩:=Prod.mk.inj (zad h)
   refine⟨rfl,fun s o ho=>?_⟩
   by_cases hs:s=base+i
   ·subst hs;exact .inr ⟨rfl,qaQ ho⟩
   ·rw[qap _ _ hs] at ho;exact .inl ho
  ·cases h
theorem qe1{pm:List PM}{base:Nat}:∀ {args:List Dv} {i:Nat} {ob ob':List (Option Obj)} {cs:List V0},qdT pm base i args ob=some (cs,ob') →
    cs.length=args.length∧(∀(k:Nat) d c,args[k]? = some d→cs[k]? = some c→c=qo5 (qaA pm (i+k)) (base+(i+k)) d) ∧
      ∀ s o,qaj ob' s=some o→qaj ob s=some o∨∃(k:Nat) (d:Dv),args[k]? = some d∧s=base+(i+k)∧qjD (qaA pm (i+k)) d=some o
  | [],i,ob,ob',cs,h=>by
      obtain⟨rfl,rfl⟩:=Prod.mk.inj (zad h)
      exact⟨rfl,by simp,fun s o ho=>.inl ho⟩
  | d::ds,i,ob,ob',cs,h=>by
      unfold qdT at h
      obtain⟨p,hp,h⟩:=zab.1 h
      obtain⟨q,hq,h⟩:=zan.1 h
      obtain⟨rfl,rfl⟩:=Prod.mk.inj h
      obtain⟨c,ob1⟩:=p
      obtain⟨h1,h2⟩:=qjj hp
      obtain⟨h3,h4,h5⟩:=qe1 (cs:=q.1) (ob':=q.2) hq
      refine⟨by simp[h3],fun k d' c' hd hc=>?_,fun s o ho=>?_⟩
      · cases k with
        | zero=>simp at hd hc;subst hd;subst hc;exact h1
        | succ k =>
          have:=h4 k d' c' (by simpa using hd) (by simpa using hc)
          rwa [show i+1+k=i+(k+1) by omega] at this
      · rcases h5 s o ho with h6 | ⟨k,d',h6,h7,h8⟩
        · rcases h2 s o h6 with h9 | ⟨h9,h10⟩
          · exact .inl h9
          · exact .inr ⟨0,d,rfl,h9,h10⟩
        · exact .inr ⟨k+1,d',by simpa using h6,by rw[show i+1+k=i+(k+1) by omega] at h7;exact h7,by rwa [show i+1+k=i+(k+1) by omega] at h8⟩
theorem qeT:∀ {gs:List (Bool×Nat)} {cs:List V0} {us:List Value} {fr:List V},Cs S w g cs us→qcx gs cs=some fr→qfz S w g fr (qaY gs us)
  | [],cs,us,fr,hc,h=>by
      cases cs with
      | nil=>obtain rfl:=zad h;rfl
      | cons=>simp[qcx] at h
  | (false,n)::gs,cs,us,fr,hc,h=>by
      cases cs with
      | nil=>rcases n with _ | _ | n<;>simp[qcx] at h
      | cons c cs =>
        rcases n with _ | _ | n
        · simp[qcx] at h
        · have h':(qcx gs cs).map (V.c c::·)=some fr:=h
          obtain⟨fr',h1,rfl⟩:=zan.1 h'
          obtain⟨u,us',rfl,h2,h3⟩:=hc
          exact⟨u,_,rfl,h2,qeT h3 h1⟩
        · simp[qcx] at h
  | (true,n)::gs,cs,us,fr,hc,h=>by
      have h':(if n≤cs.length then(qcx gs (cs.drop n)).map (V.agg (cs.take n)::·) else none)=some fr:=by
        rw[← h];cases cs<;>rfl
      split at h'
      · obtain⟨fr',h1,rfl⟩:=zan.1 h'
        exact⟨_,_,rfl,⟨us.take n,rfl,hc.take n⟩,qeT (hc.drop n) h1⟩
      · cases h'
theorem qfz.frGet{vs:List V}{us:List Value}(h:qfz S w g vs us){n:Nat}:∀(i:Nat) v,(vs++List.replicate n .undef)[i]? = some v→VR S w g v ((us.toArray++Array.replicate n Go.undef).getD i Go.undef):=by
 intro i v hv
 have hl:=h.get.1
 have e:(us.toArray++Array.replicate n Go.undef).getD i Go.undef=(us++List.replicate n Go.undef)[i]?.getD Go.undef:=by
  rw[← List.toArray_replicate,List.append_toArray]
  simp[Array.getD_eq_getD_getElem?]
 rw[e]
 rcases zbt i vs.length with hlt | hge
 ·rw[zao hlt] at hv
  obtain⟨u,hu,hr⟩:=h.get.2 i v hv
  rw[zao (by omega),hu]
  exact hr
 ·rw[zap hge,zaB] at hv
  split at hv
  ·obtain rfl:=zad hv
   rw[zap (by omega),zaB]
   split<;>rfl
  ·cases hv
theorem qp1(u:Ty)(dp:Bool):(u.flat || (PM.io dp==.io true) || (PM.io dp==.take true))=(u.flat || dp):=by
 cases dp<;>cases u.flat<;>rfl
theorem qpI(u:Ty)(dp:Bool):(u.flat || (PM.take dp==.io true) || (PM.take dp==.take true))=(u.flat || dp):=by
 cases dp<;>cases u.flat<;>rfl
theorem qo3{sg:Sig}{args:List Dv}{us:List Value}{FP:Nat→qaf}{base:Nat}{ob ob':List (Option Obj)}{cs:List V0}{fr:List V}{n m:Nat}(hm:m=n)(hsz:∀ b,S b→b<w.heap.size)(hFP:∀ i b,FP i b→b<w.heap.size∧¬ S b)(hFd:∀ i j b,i≠j→FP i b→¬ FP j b)
  (hl:us.length=args.length) (hp:∀(i:Nat) d u,args[i]? = some d→us[i]? = some u→qr1 S w (qaA sg.pm i) d u (FP i)) (hob:∀ s,qaj ob s=none)
  (hc:qdT sg.pm base 0 args ob=some (cs,ob')) (hv:qcx sg.ps cs=some fr) :
  Sim { O:=fun b=>w.heap.size≤b∨∃ i,FP i b,S0:=S,w0:=w,g0:=fun s=>us.getD (s-base) Go.undef,base:=fun _ h=>.inl h } S (fun s=>us.getD (s-base) Go.undef) (fun s b=>base≤s∧FP (s-base) b)
   { fr:=fr++List.replicate n .undef,ob:=ob' } ((qaY sg.ps us).toArray++Array.replicate m Go.undef) w:=by
 subst hm
 obtain⟨h1,h2,h3⟩:=qe1 hc
 have hpar:∀ s o,qaj ob' s=some o→∃(k:Nat) (d:Dv) (u:Value),args[k]? = some d∧us[k]? = some u∧s=base+k∧qjD (qaA sg.pm k) d=some o:=by
  intro s o ho
  rcases h3 s o ho with h4 | ⟨k,d,h4,h5,h6⟩
  ·rw[hob] at h4;cases h4
  ·have hlt:=(zak.1 h4).1
   rw[zaX] at h5 h6
   exact⟨k,d,us[k],h4,zag (by omega),h5,h6⟩
 have hgk:∀ k u,us[k]? = some u→us.getD (base+k-base) Go.undef=u:=fun k u hu=>by
  rw[zaQ,zaa,hu];rfl
 have hcs:Cs S w (fun s=>us.getD (s-base) Go.undef) cs us:=by
  have key:∀(cs:List V0) (us':List Value),cs.length=us'.length→(∀(k:Nat) c u,cs[k]? = some c→us'[k]? = some u→V0R S w (fun s=>us.getD (s-base) Go.undef) c u)→Cs S w (fun s=>us.getD (s-base) Go.undef) cs us':=by
   intro cs
   induction cs with
   | nil=>intro us' hl _;exact zce hl.symm
   | cons c cs ih =>
    intro us' hl hk
    cases us' with
    | nil=>simp at hl
    | cons u us'=>exact⟨u,us',rfl,hk 0 c u rfl rfl,ih us' (by simpa using hl) fun k c' u' hc' hu'=>hk (k+1) c' u' (by simpa using hc') (by simpa using hu')⟩
  refine key cs us (by omega) fun k c u hck huk=>?_
  have hlt:=(zak.1 huk).1
  have hdk:=zag (show k<args.length by omega)
  have hcc:=h2 k _ c hdk hck
  have hpk:=hp k _ u hdk huk
  rw[zaX] at hcc
  generalize args[k]=d at hcc hpk
  obtain⟨t,x⟩:=d
  cases hmo:qaA sg.pm k with
  | imm =>
   rw[hmo] at hcc hpk
   rw[hcc]
   exact qdQ hpk
  | iob =>
   rw[hmo] at hcc hpk
   rw[hcc]
   cases t with
   | ptr c =>
    obtain⟨b,arr,e,h5,_⟩:=hpk
    exact⟨b,(hgk k u huk).trans h5,h5⟩
   | _=>exact hpk.elim
  | io dp =>
   rw[hmo] at hcc hpk
   rw[hcc]
   cases t with
   | sl t =>
    obtain⟨A,c,h5,_⟩:=hpk
    exact⟨(hgk k u huk).symm,A,_,c,h5⟩
   | _=>exact hpk.elim
  | take dp =>
   rw[hmo] at hcc hpk
   rw[hcc]
   cases t with
   | sl t =>
    obtain⟨A,c,h5,_⟩:=hpk
    exact⟨(hgk k u huk).symm,A,_,c,h5⟩
   | _=>exact hpk.elim
 have hA:=qeT hcs hv
 have hfrl:=hA.get.1
 have hFs:∀ s o,qaj ob' s=some o→∀ b,(base≤s∧FP (s-base) b)→b<w.heap.size∧¬ S b∧∃ i,FP i b:=fun s o _ b hb=>⟨(hFP _ b hb.2).1,(hFP _ b hb.2).2,_,hb.2⟩
 have hfz:∀ s o,qaj ob' s=some o→o.frozen=false:=by
  intro s o ho
  obtain⟨k,d,u,_,_,_,h6⟩:=hpar s o ho
  obtain⟨t,x⟩:=d
  cases hmo:qaA sg.pm k<;>rw[hmo] at h6<;>cases t<;>simp[qjD] at h6<;>(subst h6;rfl)
 refine { size:=by simp[hfrl],fr:=fun i v hv=>hA.frGet i v hv,ob:=?_,prv:=fun s o ho _ b hb=>⟨(hFs s o ho b hb).2.1,.inr (hFs s o ho b hb).2.2⟩,frz:=fun s o ho hf=>(by rw[hfz s o ho] at hf;cases hf),dis:=?_,szF:=fun s o ho b hb=>(hFs s o ho b hb).1,szS:=hsz,S0:=fun _ h=>h,SO:=fun _ h=>.inl h,keep:=fun _ _ _=>rfl,mono:=zaf _,kin:=Kin.refl _,fx:=fun _ _ _ _=>rfl }
 ·intro s o ho
  obtain⟨k,d,u,h4,h5,rfl,h6⟩:=hpar s o ho
  have hpk:=hp k d u h4 h5
  have hF:∀ b,FP k b→(base≤base+k∧FP (base+k-base) b):=fun b hb=>⟨by omega,by rw[zaQ];exact hb⟩
  obtain⟨t,x⟩:=d
  cases hmo:qaA sg.pm k with
  | imm=>rw[hmo] at h6;cases h6
  | iob =>
   rw[hmo] at h6 hpk
   cases t with
   | ptr c =>
    obtain rfl:Obj.box (qbf c x) false true=o:=by simpa [qjD] using h6
    obtain⟨b,arr,e,h7,h8,h9,h10⟩:=hpk
    exact⟨b,arr,e,(hgk k u h5).trans h7,hF b h8,h9,qch h10⟩
   | _=>exact hpk.elim
  | io dp =>
   rw[hmo] at h6 hpk
   cases t with
   | sl t =>
    obtain rfl:=zad h6
    have hpk':qat S w (t.flat || dp) t x u (FP k):=hpk
    unfold ObR
    simp only
    rw[qp1]
    show qat S w (t.flat || dp) t x (us.getD (base+k-base) Go.undef) _
    rw[hgk k u h5]
    exact hpk'.mono (fun _ h=>h) (fun _ _=>rfl) hF fun _ _=>rfl
   | _=>exact hpk.elim
  | take dp =>
   rw[hmo] at h6 hpk
   cases t with
   | sl t =>
    obtain rfl:=zad h6
    have hpk':qat S w (t.flat || dp) t x u (FP k):=hpk
    unfold ObR
    simp only
    rw[qpI]
    show qat S w (t.flat || dp) t x (us.getD (base+k-base) Go.undef) _
    rw[hgk k u h5]
    exact hpk'.mono (fun _ h=>h) (fun _ _=>rfl) hF fun _ _=>rfl
   | _=>exact hpk.elim
 ·intro s s' o o' hne ho ho' _ _ b hb hb'
  obtain⟨k,_,_,_,_,rfl,_⟩:=hpar s o ho
  obtain⟨k',_,_,_,_,rfl,_⟩:=hpar s' o' ho'
  refine hFd _ _ b ?_ hb.2 hb'.2
  omega
end
end Ve
namespace Ve
open Go
section
variable {S S':qaf} {w w':World} {g g':Nat→Value} {C:Ctx} {F F':Nat→qaf} {st:St} {tm:Array Value} {P:Program} {ρ:Type}
def qlI(tmps:Array Value)(r:ResultVar):Sem Value:=match r with
 | .tmp t=>pure (tmps.getD t Go.undef)
 | .cell a t=>do loadVar t (← asAddr (tmps.getD a Go.undef))
theorem qcK(hs:Sim C S g F st tm w):∀ {rs:List ResultVar} {gs:List (Bool×Nat)} {cs:List V0},qcq P st rs gs=some cs →
    ∃ us,Cs S w g cs us∧us.length=(gs.map (·.2)).sum∧(rs.mapM (qlI tm)).run P w=.ok (qaY gs us) w∧gs.all (fun p=>p.1 || p.2==1)=true
  | [],[],cs,h=>by obtain rfl:=zad h;exact⟨[],rfl,rfl,rfl,rfl⟩
  | [],_::_,cs,h=>by simp[qcq] at h
  | .tmp t::rs,[],cs,h=>by simp[qcq] at h
  | .cell t ty::rs,[],cs,h=>by simp[qcq] at h
  | .tmp t::rs,(a,n)::gs,cs,h=>by
      unfold qcq at h
      split at h
      · rename_i cs0 hv
        split at h
        · rename_i hc
          obtain⟨rfl,rfl⟩:=hc
          obtain⟨cs1,h1,rfl⟩:=zan.1 h
          obtain⟨us1,h2,h3,h4,h5⟩:=qcK hs h1
          obtain⟨us0,hu,hc0⟩:=hs.fr t _ hv
          have hl:=hc0.len
          refine⟨us0++us1,hc0.append h2,by simp[hl,h3],?_,by simpa using h5⟩
          simp only[List.mapM_cons,qlI,Sem.run_bind,Sem.run_pure,Result.andThen_ok,h4,hu,qaY]
          rw[← hl]
          simp
        · cases h
      · rename_i v hv
        split at h
        · rename_i hc
          obtain⟨rfl,rfl⟩:=hc
          obtain⟨cs1,h1,rfl⟩:=zan.1 h
          obtain⟨us1,h2,h3,h4,h5⟩:=qcK hs h1
          refine⟨_::us1,⟨_,us1,rfl,hs.fr t _ hv,h2⟩,by simp[h3];omega,?_,by simpa using h5⟩
          simp only[List.mapM_cons,qlI,Sem.run_bind,Sem.run_pure,Result.andThen_ok,h4,qaY]
          simp
        · cases h
      · cases h
  | .cell t ty::rs,(a,n)::gs,cs,h=>by
      unfold qcq at h
      split at h
      · rename_i s off hv
        split at h
        · rename_i cells fz fx ho
          split at h
          · rename_i hc
            obtain⟨hn,ha,hu,hfit,han⟩:=hc
            obtain⟨cs1,h1,rfl⟩:=zan.1 h
            obtain⟨us1,h2,h3,h4,h5⟩:=qcK hs h1
            obtain⟨b,arr,e,hg,hF,hh,hcs⟩:=hs.ob s _ ho
            obtain⟨b',hg',hval⟩:=hs.fr t _ hv
            obtain rfl:b=b':=by rw[hg] at hg';simpa using hg'
            obtain⟨d,hd⟩:=Option.isSome_iff_exists.1 hu
            have hc0:Cs S w g ((cells.drop off).take n) ((arr.toList.drop off).take n):=(hcs.drop off).take n
            have hl:=hc0.len
            have hl2:((cells.drop off).take n).length=n:=by simp;omega
            have hA:At w b 0 arr.toList:=qeu hh fun j u hu=>by simpa using hu
            have hA2:=(hA.drop off).take n
            rw[zaX] at hA2
            have hload:=qbJ (P:=P) hd (by rw[hl,hl2,hn]) hA2 (fun hag=>by
              rw[ha] at hag
              rw[hag] at han
              have hn1:n=1:=by simpa using han
              subst hn1
              exact zch.1 (by omega))
            refine⟨(arr.toList.drop off).take n++us1,hc0.append h2,by simp only[zal,hl,hl2,h3,zbi,List.sum_cons],?_,by simp[han,h5]⟩
            have e1:((arr.toList.drop off).take n++us1).take n=(arr.toList.drop off).take n:=by
              rw[zcf (by omega),zav (by omega)]
            have e2:((arr.toList.drop off).take n++us1).drop n=us1:=by
              rw[zcg (by omega),zbk (by omega),zcm]
            have e3:asAddr (.pointer (some (⟨b,off,none⟩:Addr)))=pure ⟨b,off,none⟩:=rfl
            simp only[List.mapM_cons,qlI,Sem.run_bind,hval,e3,Sem.run_pure,Result.andThen_ok,hload,h4,qaY,e1,e2]
            unfold qfJ
            rw[ha]
            cases a with
            | true=>rfl
            | false =>
              have hn1:n=1:=by simpa using han
              have:((arr.toList.drop off).take n).length=1:=by omega
              obtain⟨u,hu1⟩:=zch.1 this
              rw[hu1];rfl
          · cases h
        · cases h
      · cases h
theorem qmP(hs:Sim C S g F st tm w){fn:Func}{gs:List (Bool×Nat)}{cs:List V0}(h:qcq P st fn.results.toList gs=some cs) :
    ∃ us,Cs S w g cs us∧us.length=(gs.map (·.2)).sum∧(results fn tm).run P w=.ok (qnR gs us) w:=by
  obtain⟨us,h1,h2,h3,h4⟩:=qcK hs h
  refine⟨us,h1,h2,?_⟩
  have e:results fn tm=(do
      let vs ← fn.results.mapM (qlI tm)
      pure (if h:vs.size=1 then vs[0] else .tuple vs)):=by
    unfold results
    congr 1
  rw[e,Array.mapM_eq_mapM_toList]
  simp only[Sem.run_bind,Sem.run_map,h3,Result.andThen_ok,Sem.run_pure]
  congr 1
  have hlen:∀(gs:List (Bool×Nat)) (us:List Value),(qaY gs us).length=gs.length:=by
    intro gs
    induction gs with
    | nil=>intro us;rfl
    | cons p gs ih=>intro us;obtain⟨a,n⟩:=p;simp[qaY,ih]
  rcases gs with _ | ⟨⟨a,n⟩,_ | ⟨q,gs⟩⟩
  · rfl
  · simp only[qaY,qnR]
    simp only[zbi,List.map_nil,List.sum_cons,List.sum_nil,zbv] at h2
    simp[zav (show us.length≤n by omega)]
  · have:(qaY ((a,n)::q::gs) us).toArray.size≠1:=by rw[List.size_toArray,hlen];simp
    rw[dif_neg this]
    rfl
theorem qho{ob:List (Option Obj)}:∀ {ms:List RM} {cs:List V0} {ds:List Dv},qgk ob ms cs=some ds →
    ds.length=cs.length∧∀(k:Nat) c d,cs[k]? = some c→ds[k]? = some d→qfa ob (ms.getD k .imm) c=some d
  | ms,[],ds,h=>by
      have:ds=[]:=by unfold qgk at h;exact(zad h).symm
      subst this;exact⟨rfl,by simp⟩
  | ms,v::vs,ds,h=>by
      unfold qgk at h
      obtain⟨d,hd,h⟩:=zab.1 h
      obtain⟨ds',hds,rfl⟩:=zan.1 h
      obtain⟨h1,h2⟩:=qho hds
      refine⟨by simp[h1],fun k c d' hc hd'=>?_⟩
      cases k with
      | zero =>
        simp at hc hd';subst hc;subst hd'
        have e:ms.getD 0 .imm=ms.headD .imm:=by cases ms<;>rfl
        rw[e];exact hd
      | succ k =>
        have:=h2 k c d' (by simpa using hc) (by simpa using hd')
        have e:ms.tail.getD k .imm=ms.getD (k+1) .imm:=by cases ms<;>simp
        rwa [e] at this
theorem qdD:∀ {ms:List RM} {cs:List V0} {s:Nat},s∈qcp ms cs↔∃(k:Nat) (c:V0),cs[k]? = some c∧s∈qkB (ms.getD k .imm) c
  | ms,[],s=>by simp[qcp]
  | ms,v::vs,s=>by
      unfold qcp
      have e0:ms.getD 0 .imm=ms.headD .imm:=by cases ms<;>rfl
      have e:∀ k,ms.tail.getD k .imm=ms.getD (k+1) .imm:=fun k=>by cases ms<;>simp
      rw[zam,qdD]
      constructor
      · rintro(h | ⟨k,c,hc,h⟩)
        · exact⟨0,v,rfl,by rw[e0];exact h⟩
        · exact⟨k+1,c,by simpa using hc,by rw[← e];exact h⟩
      · rintro⟨k,c,hc,h⟩
        cases k with
        | zero=>simp at hc;subst hc;rw[e0] at h;exact .inl h
        | succ k=>exact .inr ⟨k,c,by simpa using hc,by rw[e];exact h⟩
theorem qhk:∀ {ms:List RM} {cs:List V0},(qcp ms cs).Nodup→∀(i j:Nat) c d s,cs[i]? = some c→cs[j]? = some d→s∈qkB (ms.getD i .imm) c→s∈qkB (ms.getD j .imm) d→i=j
  | ms,[],_,i,j,c,d,s,hc,_,_,_=>by simp at hc
  | ms,v::vs,h,i,j,c,d,s,hc,hd,h1,h2=>by
      unfold qcp at h
      rw[List.nodup_append] at h
      have e0:ms.getD 0 .imm=ms.headD .imm:=by cases ms<;>rfl
      have e:∀ k,ms.tail.getD k .imm=ms.getD (k+1) .imm:=fun k=>by cases ms<;>simp
      cases i with
      | zero =>
        cases j with
        | zero=>rfl
        | succ j =>
          simp at hc hd
          subst hc
          rw[e0] at h1
          exact absurd rfl (h.2.2 s h1 s (qdD.2 ⟨j,d,hd,by rw[e];exact h2⟩))
      | succ i =>
        cases j with
        | zero =>
          simp at hc hd
          subst hd
          rw[e0] at h2
          exact absurd rfl (h.2.2 s h2 s (qdD.2 ⟨i,c,hc,by rw[e];exact h1⟩))
        | succ j =>
          simp at hc hd
          rw[qhk h.2.1 i j c d s hc hd (by rw[e];exact h1) (by rw[e];exact h2)]
theorem qhl{ob:List (Option Obj)}:∀ {ms:List RM} {cs:List V0} {k:Nat} {c:V0} {s:Nat},cs[k]? = some c→ms.getD k .imm=.imm→s∈qd9 ob c→s∈qba ob ms cs
  | ms,[],k,c,s,hc,_,_=>by simp at hc
  | ms,v::vs,0,c,s,hc,hm,hs=>by
      have e0:ms.getD 0 .imm=ms.headD .imm:=by cases ms<;>rfl
      simp at hc;subst hc
      unfold qba
      rw[← e0,hm]
      exact zam.2 (.inl hs)
  | ms,v::vs,k+1,c,s,hc,hm,hs=>by
      have e:ms.tail.getD k .imm=ms.getD (k+1) .imm:=by cases ms<;>simp
      unfold qba
      exact zam.2 (.inr (qhl (k:=k) (by simpa using hc) (by rw[e];exact hm) hs))
theorem qgv{ob:List (Option Obj)}:∀ {ms:List RM} {cs:List V0} {k:Nat} {c:V0} {s:Nat},cs[k]? = some c→ms.getD k .imm=.bx→s∈(qd9 ob c).tail→s∈qba ob ms cs
  | ms,[],k,c,s,hc,_,_=>by simp at hc
  | ms,v::vs,0,c,s,hc,hm,hs=>by
      have e0:ms.getD 0 .imm=ms.headD .imm:=by cases ms<;>rfl
      simp at hc;subst hc
      unfold qba
      rw[← e0,hm]
      exact zam.2 (.inl hs)
  | ms,v::vs,k+1,c,s,hc,hm,hs=>by
      have e:ms.tail.getD k .imm=ms.getD (k+1) .imm:=by cases ms<;>simp
      unfold qba
      exact zam.2 (.inr (qgv (k:=k) (by simpa using hc) (by rw[e];exact hm) hs))
theorem qjc{ob:List (Option Obj)}{base:Nat}:∀ {pm:List PM} {i k s:Nat},pm[k]? = some .iob→s∈(qd9 ob (.box (base+(i+k)) 0)).tail→s∈qb1 ob base pm i
  | [],i,k,s,h,_=>by simp at h
  | m::pm,i,0,s,h,hs=>by
      simp at h;subst h
      unfold qb1
      exact zam.2 (.inl hs)
  | m::pm,i,k+1,s,h,hs=>by
      unfold qb1
      exact zam.2 (.inr (qjc (k:=k) (by simpa using h) (by rwa [show i+1+k=i+(k+1) by omega])))
theorem qjw{base:Nat}:∀ {pm:List PM} {i k:Nat} {m:PM},pm[k]? = some m→m.isIo=true→base+(i+k)∈qiJ base pm i
  | [],i,k,m,h,_=>by simp at h
  | m::pm,i,0,m',h,hm=>by
      simp at h;subst h
      unfold qiJ
      rw[hm,cond_true]
      exact zam.2 (.inl (by simp))
  | m::pm,i,k+1,m',h,hm=>by
      unfold qiJ
      have:=qjw (base:=base) (i:=i+1) (k:=k) (by simpa using h) hm
      rw[show i+1+k=i+(k+1) by omega] at this
      exact zam.2 (.inr this)
theorem qoX{ob:List (Option Obj)}{base:Nat}{GP:Nat→qaf}{us:List Value}:∀ {pm:List PM} {i:Nat} {q:List Dv},qfN ob base pm i=some q →
    (∀(k:Nat) m d,pm[k]? = some m→m.isIo=true→qgu ob base m (i+k)=some d→∃ u,us[i+k]? = some u∧IoR S w m d u (GP (i+k)))→qhB S w GP us pm i q
  | [],i,q,h,_=>trivial
  | m::pm,i,q,h,hk=>by
      unfold qfN at h
      unfold qhB
      cases hm:m.isIo with
      | false =>
        rw[hm,cond_false] at h
        simp only[zci,if_false]
        refine qoX h fun k m' d h1 h2 h3=>?_
        have:=hk (k+1) m' d (by simpa using h1) h2 (by rwa [show i+(k+1)=i+1+k by omega])
        rwa [show i+(k+1)=i+1+k by omega] at this
      | true =>
        rw[hm,cond_true] at h
        obtain⟨d,hd,h⟩:=zab.1 h
        obtain⟨ds,hds,rfl⟩:=zan.1 h
        simp only[if_true]
        obtain⟨u,hu,hI⟩:=hk 0 m d rfl hm hd
        refine⟨d,ds,u,rfl,hu,hI,qoX hds fun k m' d h1 h2 h3=>?_⟩
        have:=hk (k+1) m' d (by simpa using h1) h2 (by rwa [show i+(k+1)=i+1+k by omega])
        rwa [show i+(k+1)=i+1+k by omega] at this
theorem qat.cut{d:Bool}{t:Ty}{xs:List t.T}{v:Value}{F:qaf}{A A':Option Addr}{n c hi sz:Nat}(h:qat S w d t xs v F)(hv:v=.slice A n c)(hn:hi≤n)(hA:0<c→∃ b,A=some ⟨b,0,none⟩∧A'=some ⟨b,0*sz,none⟩) :
  qat S w d t (xs.take hi) (.slice A' (hi-0) (c-0)) F:=by
 obtain⟨A1,c1,hv1,hc1,h⟩:=h
 rw[hv] at hv1
 obtain⟨rfl,rfl,rfl⟩:A=A1∧n=xs.length∧c=c1:=by simpa using hv1
 have hl:(xs.take hi).length=hi:=by rw[zax];omega
 refine⟨A',c,by rw[hl];rfl,by rw[hl];omega,?_⟩
 rcases h with h | ⟨b,arr,e,G,hAb,hb,hh,hs,hG,hd,he⟩
 ·exact .inl h
 ·by_cases hc:c=0
  ·exact .inl hc
  ·obtain⟨b',h1,h2⟩:=hA (by omega)
   rw[hAb] at h1
   obtain rfl:b=b':=by simpa using h1
   refine .inr ⟨b,arr,e,G,by rw[h2,Nat.zero_mul],hb,hh,hs,hG,hd,fun i x hx=>?_⟩
   rw[zbf] at hx
   split at hx
   ·exact he i x hx
   ·cases hx
theorem qlk{E:Env}{sg:Sig}{fn:Func}{dv:Dv}{us:List Value}{FP:Nat→qaf}{S0:qaf}{w0:World}{hb:∀ b,w0.heap.size≤b→(w0.heap.size≤b∨∃ i,FP i b)}(hs:Sim { O:=fun b=>w0.heap.size≤b∨∃ i,FP i b,S0:=S0,w0:=w0,g0:=fun s=>us.getD (s-fn.ntmps) Go.undef,base:=hb } S g F st tm w)
    (h:qnn E sg fn st=some dv):∃ rus S2 GR GP,(results fn tm).run E.P w=.ok (qnR sg.rs rus) w∧After w0 S0 FP sg us dv w S2 rus GR GP:=by
  unfold qnn at h
  obtain⟨cs,hcs0,h⟩:=zab.1 h
  obtain⟨ds,hds,h⟩:=zab.1 h
  obtain⟨q,hq,h⟩:=zab.1 h
  cases hchk:qjK (qcp sg.own cs)&&(qba st.ob sg.own cs++qb1 st.ob fn.ntmps sg.pm 0).all (fun s=>!(qcp sg.own cs++qiJ fn.ntmps sg.pm 0).contains s) with
  | false=>rw[hchk] at h;cases h
  | true =>
    rw[hchk,cond_true] at h
    obtain rfl:=zad h
    simp only[zah] at hchk
    have hnd:=qfD hchk.1
    have hLT:∀ s∈qba st.ob sg.own cs++qb1 st.ob fn.ntmps sg.pm 0,s∉qcp sg.own cs∧s∉qiJ fn.ntmps sg.pm 0:=fun s hs'=>by
      have:=zbl.1 hchk.2 s hs'
      simpa using this
    obtain⟨rus,hcs,hrl,hrun⟩:=qmP hs hcs0
    obtain⟨hdl,hdg⟩:=qho hds
    have hrcl:=hcs.len
    let T:Nat ⊕ Nat→Nat→Prop:=fun x s=>match x with
      | .inl k=>∃ c,cs[k]? = some c∧s∈qkB (sg.own.getD k .imm) c
      | .inr i=>s=fn.ntmps+i∧∃ m,sg.pm[i]? = some m∧m.isIo=true
    have hob:∀ x s,T x s→∃ o,qaj st.ob s=some o∧o.frozen=false∧(match x with | .inl _=>o.fixed=false | .inr _=>o.fixed=true):=by
      intro x s hT
      cases x with
      | inl k =>
        obtain⟨c,hc,hs1⟩:=hT
        have hlt:=(zak.1 hc).1
        have hd:=hdg k c ds[k] hc (zag (by omega))
        cases hm:sg.own.getD k .imm with
        | imm=>rw[hm] at hs1;simp[qkB] at hs1
        | bx =>
          rw[hm] at hs1 hd
          cases c with
          | box s' off =>
            simp[qkB] at hs1;subst hs1
            cases off with
            | succ=>cases hd
            | zero =>
              simp only[qfa] at hd
              split at hd
              · rename_i ho;exact⟨_,ho,rfl,rfl⟩
              · cases hd
          | _=>simp[qkB] at hs1
        | own =>
          rw[hm] at hs1 hd
          cases c with
          | arr s' =>
            simp[qkB] at hs1;subst hs1
            simp only[qfa] at hd
            split at hd
            · rename_i ho;exact⟨_,ho,rfl,rfl⟩
            · cases hd
          | sub s' lo hi sz =>
            simp[qkB] at hs1;subst hs1
            cases lo with
            | succ=>cases hd
            | zero =>
              simp only[qfa] at hd
              split at hd
              · rename_i ho;exact⟨_,ho,rfl,rfl⟩
              · cases hd
          | _=>simp[qkB] at hs1
        | deep =>
          rw[hm] at hs1 hd
          cases c with
          | arr s' =>
            simp[qkB] at hs1;subst hs1
            simp only[qfa] at hd
            split at hd
            · rename_i ho;exact⟨_,ho,rfl,rfl⟩
            · cases hd
          | sub s' lo hi sz =>
            simp[qkB] at hs1;subst hs1
            cases lo with
            | succ=>cases hd
            | zero =>
              simp only[qfa] at hd
              split at hd
              · rename_i ho;exact⟨_,ho,rfl,rfl⟩
              · cases hd
          | _=>simp[qkB] at hs1
      | inr i =>
        obtain⟨rfl,m,hm,hio⟩:=hT
        have key:∀(pm:List PM) (i0:Nat) (q:List Dv) (k:Nat),qfN st.ob fn.ntmps pm i0=some q→pm[k]? = some m→∃ d,qgu st.ob fn.ntmps m (i0+k)=some d:=by
          intro pm
          induction pm with
          | nil=>intro i0 q k _ h;simp at h
          | cons m' pm ih =>
            intro i0 q k hq hk
            unfold qfN at hq
            cases k with
            | zero =>
              simp at hk;subst hk
              rw[hio,cond_true] at hq
              obtain⟨d,hd,_⟩:=zab.1 hq
              exact⟨d,hd⟩
            | succ k =>
              cases hm':m'.isIo with
              | false =>
                rw[hm',cond_false] at hq
                have:=ih (i0+1) q k hq (by simpa using hk)
                rwa [show i0+1+k=i0+(k+1) by omega] at this
              | true =>
                rw[hm',cond_true] at hq
                obtain⟨d,hd,hq⟩:=zab.1 hq
                obtain⟨ds',hds',_⟩:=zan.1 hq
                have:=ih (i0+1) ds' k hds' (by simpa using hk)
                rwa [show i0+1+k=i0+(k+1) by omega] at this
        obtain⟨d,hd⟩:=key sg.pm 0 q i hq hm
        rw[zaX] at hd
        unfold qgu at hd
        cases m with
        | imm=>cases hio
        | take dp=>cases hio
        | io dp =>
          simp only at hd
          split at hd
          · rename_i ho;exact⟨_,ho,rfl,rfl⟩
          · cases hd
        | iob =>
          simp only at hd
          split at hd
          · rename_i ho;exact⟨_,ho,rfl,rfl⟩
          · cases hd
    have hTinj:∀ x y s,T x s→T y s→x=y:=by
      intro x y s hx hy
      cases x with
      | inl k =>
        cases y with
        | inl k' =>
          obtain⟨c,hc,h1⟩:=hx
          obtain⟨c',hc',h2⟩:=hy
          rw[qhk hnd k k' c c' s hc hc' h1 h2]
        | inr i =>
          obtain⟨o,h1,_,h2⟩:=hob (.inl k) s hx
          obtain⟨o',h3,_,h4⟩:=hob (.inr i) s hy
          rw[h1] at h3
          obtain rfl:=zad h3
          simp only at h2 h4
          rw[h2] at h4;cases h4
      | inr i =>
        cases y with
        | inl k =>
          obtain⟨o,h1,_,h2⟩:=hob (.inr i) s hx
          obtain⟨o',h3,_,h4⟩:=hob (.inl k) s hy
          rw[h1] at h3
          obtain rfl:=zad h3
          simp only at h2 h4
          rw[h2] at h4;cases h4
        | inr i' =>
          obtain⟨h1,_⟩:=hx
          obtain⟨h2,_⟩:=hy
          have:i=i':=by omega
          rw[this]
    have hTL:∀ x s,T x s→s∉qba st.ob sg.own cs++qb1 st.ob fn.ntmps sg.pm 0:=by
      intro x s hx hL
      obtain⟨h1,h2⟩:=hLT s hL
      cases x with
      | inl k=>obtain⟨c,hc,h3⟩:=hx;exact h1 (qdD.2 ⟨k,c,hc,h3⟩)
      | inr i =>
        obtain⟨rfl,m,hm,hio⟩:=hx
        have:=qjw (base:=fn.ntmps) (i:=0) hm hio
        rw[zaX] at this
        exact h2 this
    let Good:Nat ⊕ Nat→qaf→qaf→Prop:=fun x S2 G=>match x with
      | .inl k=>∀ d u,ds[k]? = some d→rus[k]? = some u→qnz S2 w (sg.own.getD k .imm) d u G
      | .inr i=>∀ m d,sg.pm[i]? = some m→m.isIo=true→qgu st.ob fn.ntmps m i=some d→∃ u,us[i]? = some u∧IoR S2 w m d u G
    have hpar:∀ x:Nat ⊕ Nat,∃ G:qaf,(∀ b,G b→∃ s,T x s∧F s b)∧∀ S2:qaf,(∀ b,S b→S2 b)→(∀ s∈qba st.ob sg.own cs++qb1 st.ob fn.ntmps sg.pm 0,∀ o,qaj st.ob s=some o→∀ b,F s b→S2 b) →
        (∀ s b,T x s→F s b→¬ G b→S2 b)→Good x S2 G:=by
      intro x
      cases x with
      | inl k =>
        cases hc:cs[k]? with
        | none =>
          refine⟨fun _=>False,fun _ h=>h.elim,fun S2 _ _ _ d u hd hu=>?_⟩
          have:=List.getElem?_eq_none_iff.1 hc
          rw[zaw (by omega)] at hu;cases hu
        | some c =>
          have hlt:=(zak.1 hc).1
          obtain⟨u0,hu0,hv⟩:=hcs.get hc
          have hd0:=hdg k c ds[k] hc (zag (by omega))
          have fin:∀ G:qaf,(∀ b,G b→∃ s,s∈qkB (sg.own.getD k .imm) c∧F s b)→(∀ S2:qaf,(∀ b,S b→S2 b)→(∀ s∈qba st.ob sg.own cs++qb1 st.ob fn.ntmps sg.pm 0,∀ o,qaj st.ob s=some o→∀ b,F s b→S2 b) →
              (∀ s b,s∈qkB (sg.own.getD k .imm) c→F s b→¬ G b→S2 b)→qnz S2 w (sg.own.getD k .imm) ds[k] u0 G) →
              ∃ G:qaf,(∀ b,G b→∃ s,T (.inl k) s∧F s b)∧∀ S2:qaf,(∀ b,S b→S2 b)→(∀ s∈qba st.ob sg.own cs++qb1 st.ob fn.ntmps sg.pm 0,∀ o,qaj st.ob s=some o→∀ b,F s b→S2 b) →
                (∀ s b,T (.inl k) s→F s b→¬ G b→S2 b)→Good (.inl k) S2 G:=by
            intro G h1 h2
            refine⟨G,fun b hb=>?_,fun S2 hS2 hl2 hF2 d u hd hu=>?_⟩
            · obtain⟨s,h3,h4⟩:=h1 b hb;exact⟨s,⟨c,hc,h3⟩,h4⟩
            · rw[zag (by omega)] at hd
              obtain rfl:=zad hd
              rw[hu0] at hu
              obtain rfl:=zad hu
              exact h2 S2 hS2 hl2 fun s b h3 h4 h5=>hF2 s b ⟨c,hc,h3⟩ h4 h5
          generalize ds[k]=d0 at hd0 fin
          have mainArr:∀(m:RM) (s:Nat),sg.own.getD k .imm=m→(m=.own∨m=.deep)→c=.arr s→(match qaj st.ob s with | some (.arr t xs d false false)=>if m=.deep∧d=false then none else some (⟨.sl t,xs⟩:Dv) | _=>none)=some d0 →
              ∃ G:qaf,(∀ b,G b→∃ s,T (.inl k) s∧F s b)∧∀ S2:qaf,(∀ b,S b→S2 b)→(∀ s∈qba st.ob sg.own cs++qb1 st.ob fn.ntmps sg.pm 0,∀ o,qaj st.ob s=some o→∀ b,F s b→S2 b) →
                (∀ s b,T (.inl k) s→F s b→¬ G b→S2 b)→Good (.inl k) S2 G:=by
            intro m s hm hne hcs' hq0
            subst hcs'
            split at hq0
            · rename_i t xs d ho
              split at hq0
              · cases hq0
              · rename_i hdd
                obtain rfl:=zad hq0
                have hown:qat S w d t xs (g s) (F s):=hs.ob s _ ho
                obtain⟨Fi,h1,h2⟩:=hown.hand (dp:=m==.deep) (fun hdp=>by
                  have hm2:m=.deep:=by cases m<;>first | rfl | cases hdp
                  cases d with
                  | true=>rfl
                  | false=>exact absurd ⟨hm2,rfl⟩ hdd)
                have ho1:qkB m (.arr s)=[s]:=by rcases hne with rfl | rfl<;>rfl
                rw[hm] at fin
                refine fin Fi (fun b hb=>⟨s,by rw[ho1];simp,h1 b hb⟩) fun S2 hS2 _ hF2=>?_
                obtain⟨rfl,_⟩:=hv
                have:=h2 S2 hS2 fun b hb hn=>hF2 s b (by rw[ho1];simp) hb hn
                rcases hne with rfl | rfl
                · exact this
                · exact this
            · cases hq0
          have mainSub:∀(m:RM) (s hi sz:Nat),sg.own.getD k .imm=m→(m=.own∨m=.deep)→c=.sub s 0 hi sz→(match qaj st.ob s with | some (.arr t xs d false false)=>if m=.deep∧d=false then none else if sz=t.size then some (⟨.sl t,(xs.take hi).drop 0⟩:Dv) else none | _=>none)=some d0 →
              ∃ G:qaf,(∀ b,G b→∃ s,T (.inl k) s∧F s b)∧∀ S2:qaf,(∀ b,S b→S2 b)→(∀ s∈qba st.ob sg.own cs++qb1 st.ob fn.ntmps sg.pm 0,∀ o,qaj st.ob s=some o→∀ b,F s b→S2 b) →
                (∀ s b,T (.inl k) s→F s b→¬ G b→S2 b)→Good (.inl k) S2 G:=by
            intro m s hi sz hm hne hcs' hq0
            subst hcs'
            split at hq0
            · rename_i t xs d ho
              split at hq0
              · cases hq0
              · rename_i hdd
                split at hq0
                · rename_i hsz
                  obtain rfl:=zad hq0
                  have hown:qat S w d t xs (g s) (F s):=hs.ob s _ ho
                  obtain⟨Fi,h1,h2⟩:=hown.hand (dp:=m==.deep) (fun hdp=>by
                    have hm2:m=.deep:=by cases m<;>first | rfl | cases hdp
                    cases d with
                    | true=>rfl
                    | false=>exact absurd ⟨hm2,rfl⟩ hdd)
                  have ho1:qkB m (.sub s 0 hi sz)=[s]:=by rcases hne with rfl | rfl<;>rfl
                  rw[hm] at fin
                  refine fin Fi (fun b hb=>⟨s,by rw[ho1];simp,h1 b hb⟩) fun S2 hS2 _ hF2=>?_
                  have:=h2 S2 hS2 fun b hb hn=>hF2 s b (by rw[ho1];simp) hb hn
                  obtain⟨A,n,cc,A',hgs,rfl,_,hhn,hA⟩:=hv
                  have:=this.cut hgs hhn hA
                  rcases hne with rfl | rfl
                  · exact this
                  · exact this
                · cases hq0
            · cases hq0
          have mainNil:∀(m:RM) (t:Ty),sg.own.getD k .imm=m→(m=.own∨m=.deep)→c=.nils t→some (⟨.sl t,([]:List t.T)⟩:Dv)=some d0 →
              ∃ G:qaf,(∀ b,G b→∃ s,T (.inl k) s∧F s b)∧∀ S2:qaf,(∀ b,S b→S2 b)→(∀ s∈qba st.ob sg.own cs++qb1 st.ob fn.ntmps sg.pm 0,∀ o,qaj st.ob s=some o→∀ b,F s b→S2 b) →
                (∀ s b,T (.inl k) s→F s b→¬ G b→S2 b)→Good (.inl k) S2 G:=by
            intro m t hm hne hcs' hq0
            subst hcs'
            obtain rfl:=zad hq0
            obtain⟨A,rfl⟩:=hv
            rw[hm] at fin
            refine fin (fun _=>False) (fun _ h=>h.elim) fun S2 _ _ _=>?_
            rcases hne with rfl | rfl
            · exact⟨A,0,rfl,⟨zaf _,zaE _⟩,.inl rfl⟩
            · exact⟨A,0,rfl,⟨zaf _,zaE _⟩,.inl rfl⟩
          cases hm:sg.own.getD k .imm with
          | bx =>
            rw[hm] at hd0 fin
            cases c with
            | box s off =>
              cases off with
              | succ=>cases hd0
              | zero =>
                simp only[qfa] at hd0
                split at hd0
                · rename_i cells0 ho
                  obtain⟨b,arr,e,hg,hFb,hh,hcs0⟩:=hs.ob _ _ ho
                  simp only[frz,qoQ,qbK,ho] at hd0
                  obtain⟨dd,hmm,rfl⟩:=zan.1 hd0
                  obtain⟨b',hg',rfl⟩:=hv
                  obtain rfl:b=b':=by rw[hg] at hg';simpa using hg'
                  refine fin (fun b'=>F s b'∧b'=b) (fun b' hb'=>⟨s,by simp[qkB],hb'.1⟩) fun S2 hS2 hl2 _=>?_
                  refine⟨b,arr,e,rfl,⟨hFb,rfl⟩,hh,?_⟩
                  rw[zcp] at hmm
                  refine qfA hmm hcs0 fun c' hc' u' d' hd' hv'=>qc6 hs 2 hd' hv' hS2 fun s' hs'=>hl2 s' ?_
                  refine zam.2 (.inl (qgv hc hm ?_))
                  simp only[qd9,qbr,ho,List.tail_cons,zbq]
                  exact⟨c',hc',hs'⟩
                · cases hd0
            | _=>cases hd0
          | imm =>
            rw[hm] at hd0 fin
            refine fin (fun _=>False) (fun _ h=>h.elim) fun S2 hS2 hl2 _=>?_
            exact qdV hs hd0 hv hS2 fun s hs'=>hl2 s (zam.2 (.inl (qhl hc hm hs')))
          | own =>
            rw[hm] at hd0
            cases c with
            | arr s=>exact mainArr .own s hm (by simp) rfl hd0
            | sub s lo hi sz =>
              cases lo with
              | zero=>exact mainSub .own s hi sz hm (by simp) rfl hd0
              | succ=>cases hd0
            | nils t=>exact mainNil .own t hm (by simp) rfl hd0
            | _=>cases hd0
          | deep =>
            rw[hm] at hd0
            cases c with
            | arr s=>exact mainArr .deep s hm (by simp) rfl hd0
            | sub s lo hi sz =>
              cases lo with
              | zero=>exact mainSub .deep s hi sz hm (by simp) rfl hd0
              | succ=>cases hd0
            | nils t=>exact mainNil .deep t hm (by simp) rfl hd0
            | _=>cases hd0
      | inr i =>
        cases hm:sg.pm[i]? with
        | none=>exact⟨fun _=>False,fun _ h=>h.elim,fun S2 _ _ _ m d hm' _ _=>by rw[hm] at hm';cases hm'⟩
        | some m =>
          cases hio:m.isIo with
          | false=>exact⟨fun _=>False,fun _ h=>h.elim,fun S2 _ _ _ m' d hm' hio' _=>by
              rw[hm] at hm'
              obtain rfl:=zad hm'
              rw[hio] at hio';cases hio'⟩
          | true =>
            have hT:T (.inr i) (fn.ntmps+i):=⟨rfl,m,hm,hio⟩
            obtain⟨o,ho,hof,hox⟩:=hob (.inr i) _ hT
            have hfx:=hs.fx _ o ho hox
            have hfx':g (fn.ntmps+i)=us.getD i Go.undef:=by
              rw[hfx]
              show us.getD (fn.ntmps+i-fn.ntmps) Go.undef=_
              rw[zaQ]
            have hus:∀ u,g (fn.ntmps+i)=u→u≠Go.undef→us[i]? = some u:=by
              intro u hu hne
              rw[hfx',zaa] at hu
              cases hui:us[i]? with
              | none=>rw[hui] at hu;exact absurd hu.symm hne
              | some v=>rw[hui] at hu;rw[← hu];rfl
            cases m with
            | imm=>cases hio
            | take dp=>cases hio
            | io dp =>
              cases hcell:qgu st.ob fn.ntmps (.io dp) i with
              | none=>exact⟨fun _=>False,fun _ h=>h.elim,fun S2 _ _ _ m' d hm' hio' hc'=>by
                  rw[hm] at hm'
                  obtain rfl:=zad hm'
                  rw[hcell] at hc';cases hc'⟩
              | some d0 =>
                have hcell':=hcell
                unfold qgu at hcell'
                simp only[ho] at hcell'
                split at hcell'
                · rename_i t xs d he
                  obtain rfl:=zad he
                  split at hcell'
                  · cases hcell'
                  · rename_i hdd
                    obtain rfl:=zad hcell'
                    have hown:qat S w d t xs (g (fn.ntmps+i)) (F (fn.ntmps+i)):=hs.ob _ _ ho
                    obtain⟨Fi,h1,h2⟩:=hown.hand (dp:=dp) (fun hdp=>by simpa [hdp] using hdd)
                    refine⟨Fi,fun b hb=>⟨_,hT,h1 b hb⟩,fun S2 hS2 _ hF2 m' d' hm' _ hc'=>?_⟩
                    rw[hm] at hm'
                    obtain rfl:=zad hm'
                    rw[hcell] at hc'
                    obtain rfl:=zad hc'
                    have h3:=h2 S2 hS2 fun b hb hn=>hF2 _ b hT hb hn
                    refine⟨g (fn.ntmps+i),hus _ rfl ?_,h3⟩
                    obtain⟨A,c,hv,_⟩:=hown
                    rw[hv];intro h;cases h
                · cases hcell'
            | iob =>
              cases hcell:qgu st.ob fn.ntmps .iob i with
              | none=>exact⟨fun _=>False,fun _ h=>h.elim,fun S2 _ _ _ m' d hm' hio' hc'=>by
                  rw[hm] at hm'
                  obtain rfl:=zad hm'
                  rw[hcell] at hc';cases hc'⟩
              | some d0 =>
                have hcell':=hcell
                unfold qgu at hcell'
                simp only[ho] at hcell'
                split at hcell'
                · rename_i cells he
                  obtain rfl:=zad he
                  obtain⟨b,arr,e,hg,hFb,hh,hcs0⟩:=hs.ob _ _ ho
                  simp only[frz,qoQ,qbK,ho] at hcell'
                  obtain⟨dd,hmm,rfl⟩:=zan.1 hcell'
                  refine⟨fun b'=>F (fn.ntmps+i) b'∧b'=b,fun b' hb'=>⟨_,hT,hb'.1⟩,fun S2 hS2 hl2 hF2 m' d' hm' _ hc'=>?_⟩
                  rw[hm] at hm'
                  obtain rfl:=zad hm'
                  rw[hcell] at hc'
                  obtain rfl:=zad hc'
                  refine⟨g (fn.ntmps+i),hus _ rfl (by rw[hg];intro h;cases h),b,arr,e,hg,⟨hFb,rfl⟩,hh,?_⟩
                  rw[zcp] at hmm
                  refine qfA hmm hcs0 fun c' hc' u' d' hd' hv'=>qc6 hs 2 hd' hv' hS2 fun s' hs'=>hl2 s' ?_
                  refine zam.2 (.inr (qjc (i:=0) hm ?_))
                  rw[zaX]
                  simp only[qd9,qbr,ho,List.tail_cons,zbq]
                  exact⟨c',hc',hs'⟩
                · cases hcell'
    have hG1:=fun x=>(Classical.choose_spec (hpar x)).1
    have hG2:=fun x=>(Classical.choose_spec (hpar x)).2
    generalize hGG:(fun x=>Classical.choose (hpar x))=G
    have hG1:∀ x b,G x b→∃ s,T x s∧F s b:=by subst hGG;exact hG1
    have hG2:∀ x,∀ S2:qaf,(∀ b,S b→S2 b)→(∀ s∈qba st.ob sg.own cs++qb1 st.ob fn.ntmps sg.pm 0,∀ o,qaj st.ob s=some o→∀ b,F s b→S2 b) →
        (∀ s b,T x s→F s b→¬ G x b→S2 b)→Good x S2 (G x):=by subst hGG;exact hG2
    let S2:qaf:=fun b=>S b∨(∃ s∈qba st.ob sg.own cs++qb1 st.ob fn.ntmps sg.pm 0,(∃ o,qaj st.ob s=some o)∧F s b)∨∃ x s,T x s∧F s b∧¬ G x b
    have hgood:∀ x,Good x S2 (G x):=fun x=>hG2 x S2 (fun _ h=>.inl h) (fun s hs' o ho b hb=>.inr (.inl ⟨s,hs',⟨o,ho⟩,hb⟩)) fun s b hT hF hn=>.inr (.inr ⟨x,s,hT,hF,hn⟩)
    have hdisT:∀ x s,T x s→∀ s' o',s'≠s→qaj st.ob s'=some o'→∀ b,F s b→¬ F s' b:=by
      intro x s hT s' o' hne ho' b hb hb'
      obtain⟨o,ho,hof,_⟩:=hob x s hT
      cases hq:o'.frozen with
      | true=>exact(hs.prv s o ho hof b hb).1 (hs.frz s' o' ho' hq b hb')
      | false=>exact hs.dis s s' o o' (Ne.symm hne) ho ho' hof hq b hb hb'
    have hGS:∀ x b,G x b→¬ S2 b∧b<w.heap.size∧(w0.heap.size≤b∨∃ i,FP i b):=by
      intro x b hb
      obtain⟨s,hT,hF⟩:=hG1 x b hb
      obtain⟨o,ho,hof,_⟩:=hob x s hT
      refine⟨?_,hs.szF s o ho b hF,(hs.prv s o ho hof b hF).2⟩
      rintro(h1 | ⟨s',hs',⟨o',ho'⟩,hF'⟩ | ⟨y,s',hT',hF',hn⟩)
      · exact(hs.prv s o ho hof b hF).1 h1
      · exact hdisT x s hT s' o' (fun e=>hTL x s hT (e ▸ hs')) ho' b hF hF'
      · by_cases hss:s'=s
        · subst hss
          have:=hTinj x y s' hT hT'
          subst this
          exact hn hb
        · obtain⟨o',ho',_⟩:=hob y s' hT'
          exact hdisT x s hT s' o' hss ho' b hF hF'
    have hGd:∀ x y b,x≠y→G x b→¬ G y b:=by
      intro x y b hxy hx hy
      obtain⟨s,hT,hF⟩:=hG1 x b hx
      obtain⟨s',hT',hF'⟩:=hG1 y b hy
      obtain⟨o',ho',_⟩:=hob y s' hT'
      refine hdisT x s hT s' o' (fun e=>hxy ?_) ho' b hF hF'
      subst e
      exact hTinj x y s' hT hT'
    have hnres:cs.length=qnq sg:=by rw[← hrcl,hrl];rfl
    refine⟨rus,S2,fun k=>G (.inl k),fun i=>G (.inr i),hrun,?_⟩
    refine { mS:=fun b h=>.inl (hs.S0 b h),sub:=?_,szS:=?_,size:=hs.mono,kin:=hs.kin,keep:=?_,gr:=fun k b h=>hGS _ b h,gp:=fun k b h=>hGS _ b h,drr:=fun j k b hjk=>hGd _ _ b (by simpa using hjk),dpp:=fun j k b hjk=>hGd _ _ b (by simpa using hjk),drp:=fun j k b=>hGd _ _ b (by simp),len:=by rw[hrl];rfl,lenO:=?_,res:=?_,ios:=?_ }
    · rintro b (h1 | ⟨s',hs',⟨o',ho'⟩,hF'⟩ | ⟨y,s',hT',hF',hn⟩)
      · exact hs.SO b h1
      · cases hq:o'.frozen with
        | true=>exact hs.SO b (hs.frz s' o' ho' hq b hF')
        | false=>exact .inr (hs.prv s' o' ho' hq b hF').2
      · obtain⟨o',ho',hof,_⟩:=hob y s' hT'
        exact .inr (hs.prv s' o' ho' hof b hF').2
    · rintro b (h1 | ⟨s',hs',⟨o',ho'⟩,hF'⟩ | ⟨y,s',hT',hF',hn⟩)
      · exact hs.szS b h1
      · exact hs.szF s' o' ho' b hF'
      · obtain⟨o',ho',_⟩:=hob y s' hT'
        exact hs.szF s' o' ho' b hF'
    · intro b hb' hn
      exact hs.keep b hb' (by rintro(h | ⟨i,h⟩);exact absurd hb' (by show ¬ b<w0.heap.size;omega);exact hn i h)
    · rw[qeq,zal,hdl,hnres];omega
    · intro k d u hk hd hu
      rw[qeq,zao (by omega)] at hd
      exact hgood (.inl k) d u hd hu
    · rw[qeq,zcg (by omega),zbk (by omega),zcm]
      refine qoX hq fun k m d hm hio hc=>?_
      rw[zaX] at hc ⊢
      exact hgood (.inr k) m d hm hio hc
theorem qqn{E:Env}(hE:EnvOk E){R:Run}(hR:qi2 E R)(hRw:∀ o f,R.w o f=o.bind f){sg:Sig}{pol:Pol}{fn:Func}{N f:Nat}{args:List Dv}{dv:Dv}(hf:E.P.funcs[f]? = some fn)
  (h:qsB E R sg pol fn N args=some dv):qds E.P sg f args dv:=by
 intro w S us FP hS hFP hFd hl hp
 unfold qsB at h
 cases hb:fn.body with
 | none=>rw[hb] at h;cases h
 | some code =>
  rw[hb] at h
  simp only at h
  obtain⟨p,hcells,h⟩:=zab.1 h
  obtain⟨fr,hfr,h⟩:=zab.1 h
  have hAl:(qaY sg.ps us).length=fr.length:=by
   have h1:∀(gs:List (Bool×Nat)) (us:List Value),(qaY gs us).length=gs.length:=by
    intro gs
    induction gs with
    | nil=>intro us;rfl
    | cons p gs ih=>intro us;obtain⟨a,n⟩:=p;simp[qaY,ih]
   have h2:∀(gs:List (Bool×Nat)) (cs:List V0) (fr:List V),qcx gs cs=some fr→fr.length=gs.length:=by
    intro gs
    induction gs with
    | nil=>intro cs fr h;cases cs with
     | nil=>obtain rfl:=zad h;rfl
     | cons=>simp[qcx] at h
    | cons p gs ih =>
     intro cs fr h
     obtain⟨a,n⟩:=p
     cases a with
     | false =>
      cases cs with
      | nil=>rcases n with _ | _ | n<;>simp[qcx] at h
      | cons c cs =>
       rcases n with _ | _ | n
       ·simp[qcx] at h
       ·have h':(qcx gs cs).map (V.c c::·)=some fr:=h
        obtain⟨fr',h3,rfl⟩:=zan.1 h'
        simp[ih _ _ h3]
       ·simp[qcx] at h
     | true =>
      have h':(if n≤cs.length then(qcx gs (cs.drop n)).map (V.agg (cs.take n)::·) else none)=some fr:=by
       rw[← h];cases cs<;>rfl
      split at h'
      ·obtain⟨fr',h3,rfl⟩:=zan.1 h'
       simp[ih _ _ h3]
      ·cases h'
   rw[h1,h2 _ _ _ hfr]
  have hsim:=qo3 (sg:=sg) (base:=fn.ntmps) (n:=fn.ntmps-fr.length) (m:=fn.ntmps-(qaY sg.ps us).toArray.size) (by rw[List.size_toArray,hAl]) hS hFP hFd hl hp (fun s=>by
   unfold qaj;rw[zaa,zaB];split<;>rfl) hcells hfr
  refine calls_of_wp hf hb ?_
  refine qnY hE hR hRw code (a:={ tmps:=(qaY sg.ps us).toArray++Array.replicate (fn.ntmps-(qaY sg.ps us).toArray.size) Go.undef,defers:=[] }) hsim h ?_ ?_
  ·rintro c a w ⟨_,rus,S',GR,GP,he,_⟩
   cases he
  ·intro e st' S' g' F' a' w' h1 h2 h3
   have hfin:qnn E sg fn st'=some dv→a'.defers=[]∧∃ v,(results fn a'.tmps).run E.P w'=.ok v w'∧∃ rus S' GR GP,Ending.returned v=.returned (qnR sg.rs rus)∧After w S FP sg us dv w' S' rus GR GP:=by
    intro h4
    obtain⟨rus,S2,GR,GP,h5,h6⟩:=qlk h1 h4
    exact⟨h3,_,h5,rus,S2,GR,GP,rfl,h6⟩
   cases e with
   | normal=>exact hfin h2
   | ret=>exact hfin h2
   | exit i=>cases h2
theorem qlv{E:Env}(hE:EnvOk E)(hprim:∀ f p,E.prim f=some p→∀ r,qi2 E (mkR r)→∀ args dv sg,E.sig f=some sg→p (mkR r) args=some dv→qds E.P sg f args dv):∀ n,qi2 E (mkR (run E n))
  | 0=>fun f args dv sg _ h=>by cases h
  | n+1=>fun f args dv sg hsg h=>by
      have ih:=qlv hE hprim n
      have h':(match E.prim f with
        | some p=>p (mkR (run E n)) args
        | none=>match E.fn f,E.sig f with
          | some (fn,pol),some sg=>qsB E (mkR (run E n)) sg pol fn n args
          | _,_=>none)=some dv:=h
      split at h'
      · rename_i p hp;exact hprim f p hp _ ih args dv sg hsg h'
      · split at h'
        · rename_i fn pol sg' hfn hsg'
          rw[hsg] at hsg'
          obtain rfl:=zad hsg'
          exact qqn hE ih (fun _ _=>rfl) (hE.fn f fn pol hfn) h'
        · cases h'
end
end Ve
namespace Ve
open Go
def Wf:(t:Ty)→t.T→Prop
 | .int k,n=>(Lit.int k n).wf=true
 | .bool,_=>True
 | .str,s=>s.size≤maxLen
 | .sl t,xs=>xs.length≤maxLen∧∀ x∈xs,Wf t x
 | .ptr c,x=>Wf c x
 | .fn _ c,x=>Wf c x
 | .lab c,x=>Wf c x.2
 | .st c,x=>Wf c x
 | .nil,_=>True
 | .cons a b,x=>Wf a x.1∧Wf b x.2
def elC:Ty→Ty
 | .st c=>c
 | u=>.cons u .nil
def qpX(P:Program):Nat→TypeId→Ty→Option Ty
  | 0,_,_=>none
  | n+1,t,c=>match P.underlying t with
    | some (.struct fs)=>(fs.toList.foldl (fun(acc:Option (Nat×Ty)) f=>acc.bind fun p=>if f.offset=p.1 then(qpX P n f.type p.2).map fun c'=>(p.1+P.cellsOf f.type,c') else none) (some (0,c))).bind fun p =>
        if p.1=P.cellsOf t then some p.2 else none
    | some (.int k)=>match c with
      | .cons (.int k') b=>if k=k'∧P.cellsOf t=1 then some b else none
      | _=>none
    | some .bool=>match c with
      | .cons .bool b=>if P.cellsOf t=1 then some b else none
      | _=>none
    | some .string=>match c with
      | .cons .str b=>if P.cellsOf t=1 then some b else none
      | _=>none
    | some (.slice e)=>match c with
      | .cons (.sl u) b=>if P.cellsOf t=1∧P.cellsOf e=u.size∧0<u.size∧qpX P n e (elC u)=some .nil then some b else none
      | _=>none
    | _=>none
section
variable {P:Program} {W:World} {H:Type} {enc:TypeId×Value→H}
theorem qoD:∀(n:Nat) (t:TypeId) (c rest:Ty) (fuel:Nat) (cs:List Value) (x:DataW H×List MemPlace),qpX P n t c=some rest→DataW.trod enc P W 0 (fun _=>true) true fuel t cs=some x →
    cs.length=P.cellsOf t∧∀(y:rest.T) (ws:List Value),Rp (fun b=>b<W.heap.size) W rest y ws→Wf rest y→∃ z:c.T,Rp (fun b=>b<W.heap.size) W c z (cs++ws)∧Wf c z:=by
  intro n
  induction n with
  | zero=>intro t c rest fuel cs x h;cases h
  | succ n ih =>
    intro t c rest fuel cs x h ht
    unfold qpX at h
    split at h
    · rename_i fs hu
      obtain⟨p,hp,h⟩:=zab.1 h
      obtain⟨xs,m,rfl,rfl,hlen,hxl,hf⟩:=DataW.trod_struct hu ht
      split at h
      · rename_i htot
        obtain rfl:=zad h
        refine⟨hlen,?_⟩
        have none_fold:∀(l:List Field),l.foldl (fun(acc:Option (Nat×Ty)) f=>acc.bind fun p=>if f.offset=p.1 then(qpX P n f.type p.2).map fun c'=>(p.1+P.cellsOf f.type,c') else none) none=none:=by
          intro l;induction l with
          | nil=>rfl
          | cons a l ih=>exact ih
        have key:∀(l:List Field) (off:Nat) (c:Ty) (p:Nat×Ty),(∀ f∈l,∃ y,DataW.trod enc P W 0 (fun _=>true) true m f.type ((cs.drop f.offset).take (P.cellsOf f.type))=some y) →
            l.foldl (fun(acc:Option (Nat×Ty)) f=>acc.bind fun p=>if f.offset=p.1 then(qpX P n f.type p.2).map fun c'=>(p.1+P.cellsOf f.type,c') else none) (some (off,c))=some p →
            off≤p.1∧(p.1≤cs.length→∀(y:p.2.T) (ws:List Value),Rp (fun b=>b<W.heap.size) W p.2 y ws→Wf p.2 y→∃ z:c.T,Rp (fun b=>b<W.heap.size) W c z ((cs.drop off).take (p.1-off)++ws)∧Wf c z):=by
          intro l
          induction l with
          | nil =>
            intro off c p _ h
            obtain rfl:=zad h
            exact⟨zaf _,fun _ y ws h1 h2=>⟨y,by simpa using h1,h2⟩⟩
          | cons f l ihl =>
            intro off c p hall h
            rw[zbP,zbr] at h
            simp only at h
            split at h
            · rename_i hoff
              cases hl:qpX P n f.type c with
              | none=>rw[hl,Option.map_none,none_fold] at h;cases h
              | some c' =>
                rw[hl,zbO] at h
                obtain⟨h1,h2⟩:=ihl _ c' p (fun f' hf'=>hall f' (by simp[hf'])) h
                obtain⟨x',hx'⟩:=hall f (by simp)
                obtain⟨h3,h4⟩:=ih f.type c c' m _ x' hl hx'
                refine⟨by omega,fun hle y ws hr hw=>?_⟩
                obtain⟨z',hz',hwz'⟩:=h2 hle y ws hr hw
                obtain⟨z,hz,hwz⟩:=h4 z' _ hz' hwz'
                refine⟨z,?_,hwz⟩
                have e:(cs.drop off).take (p.1-off)=(cs.drop f.offset).take (P.cellsOf f.type)++(cs.drop (off+P.cellsOf f.type)).take (p.1-(off+P.cellsOf f.type)):=by
                  rw[hoff]
                  have:p.1-off=P.cellsOf f.type+(p.1-(off+P.cellsOf f.type)):=by omega
                  rw[this,List.take_add,List.drop_drop]
                rw[e,zaF]
                exact hz
            · rw[none_fold] at h;cases h
        have hall:∀ f∈fs.toList,∃ y,DataW.trod enc P W 0 (fun _=>true) true m f.type ((cs.drop f.offset).take (P.cellsOf f.type))=some y:=by
          intro f hfm
          obtain⟨i,hi⟩:=zcl.1 hfm
          have hi':fs[i]? = some f:=by simpa using hi
          have hlt:=(zbY.1 hi').1
          rw[hf i f hi']
          exact⟨xs[i],zag (by omega)⟩
        obtain⟨_,h2⟩:=key fs.toList 0 c p hall hp
        intro y ws hr hw
        obtain⟨z,hz,hwz⟩:=h2 (by omega) y ws hr hw
        refine⟨z,?_,hwz⟩
        rw[zcp,Nat.sub_zero,htot,← hlen,zcq] at hz
        exact hz
      · cases h
    · rename_i k hu
      split at h
      · rename_i k' b
        split at h
        · rename_i hc
          obtain⟨rfl,h1⟩:=hc
          obtain rfl:=zad h
          obtain⟨v,rfl,_,hw⟩:=DataW.trod_int hu ht
          exact⟨h1.symm,fun y ws hr hwf=>⟨(v,y),⟨[.int k v],ws,rfl,rfl,hr⟩,hw,hwf⟩⟩
        · cases h
      · cases h
    · rename_i hu
      split at h
      · rename_i b
        split at h
        · rename_i h1
          obtain rfl:=zad h
          obtain⟨v,rfl,_⟩:=DataW.trod_bool hu ht
          exact⟨h1.symm,fun y ws hr hwf=>⟨(v,y),⟨[.bool v],ws,rfl,rfl,hr⟩,trivial,hwf⟩⟩
        · cases h
      · cases h
    · rename_i hu
      split at h
      · rename_i b
        split at h
        · rename_i h1
          obtain rfl:=zad h
          obtain⟨v,rfl,_,hw⟩:=DataW.trod_string hu ht
          exact⟨h1.symm,fun y ws hr hwf=>⟨(v,y),⟨[.string v],ws,rfl,rfl,hr⟩,hw,hwf⟩⟩
        · cases h
      · cases h
    · rename_i e hu
      split at h
      · rename_i u b
        split at h
        · rename_i hc
          obtain⟨h1,hsz,hpos,hle⟩:=hc
          obtain rfl:=zad h
          rcases DataW.trod_slice hu ht with ⟨rfl,_⟩ | ⟨a,len,cap,elems,rst,m,rfl,rfl,_,_,hlc,hcm,hel,hes,_⟩
          · exact⟨h1.symm,fun y ws hr hwf=>⟨(([]:List u.T),y),⟨[.slice none 0 0],ws,rfl,⟨none,0,rfl,zaf _,.inl rfl⟩,hr⟩,⟨zaE _,by simp⟩,hwf⟩⟩
          · refine⟨h1.symm,fun y ws hr hwf=>?_⟩
            have helem:∀ i,i<len→∃(z:u.T) (us:List Value),Rp (fun b=>b<W.heap.size) W u z us∧Wf u z∧(∀ j,j<u.size→W.cell? ((a.add (i*u.size)).add j)=us[j]?):=by
              intro i hi
              have h2:=hes i hi
              rw[zag (by omega)] at h2
              obtain⟨cs',hcs',hx'⟩:=zab.1 h2
              rw[hsz] at hcs'
              have hcell:=(World.cells?_some hcs').2.2
              have hclen:=(World.cells?_some hcs').2.1
              have gen:∀(c':Ty),qpX P n e c'=some .nil→∃ z:c'.T,Rp (fun b=>b<W.heap.size) W c' z cs'∧Wf c' z:=by
                intro c' hlc'
                obtain⟨_,h4⟩:=ih e c' .nil m cs' elems[i] hlc' hx'
                obtain⟨z,hz,hwz⟩:=h4 () [] rfl trivial
                rw[zbm] at hz
                exact⟨z,hz,hwz⟩
              have single:qpX P n e (.cons u .nil)=some .nil→∃ z:u.T,Rp (fun b=>b<W.heap.size) W u z cs'∧Wf u z:=by
                intro hl
                obtain⟨z,⟨us1,us2,he,hz1,hz2⟩,hwz,_⟩:=gen _ hl
                cases hz2
                rw[zbm] at he
                subst he
                exact⟨z.1,hz1,hwz⟩
              have hz:∃ z:u.T,Rp (fun b=>b<W.heap.size) W u z cs'∧Wf u z:=by
                cases u with
                | st c'=>exact gen c' hle
                | _=>exact single hle
              obtain⟨z,hz1,hz2⟩:=hz
              refine⟨z,cs',hz1,hz2,fun j hj=>?_⟩
              rw[hcell j (by omega)]
            have hzs:∃ zs:List u.T,zs.length=len∧∀(i:Nat) z,zs[i]? = some z→∃ us:List Value,Rp (fun b=>b<W.heap.size) W u z us∧Wf u z∧(∀ j,j<u.size→W.cell? ((a.add (i*u.size)).add j)=us[j]?):=by
              have build:∀ k,k≤len→∃ zs:List u.T,zs.length=k∧∀(i:Nat) z,zs[i]? = some z→∃ us:List Value,Rp (fun b=>b<W.heap.size) W u z us∧Wf u z∧(∀ j,j<u.size→W.cell? ((a.add (i*u.size)).add j)=us[j]?):=by
                intro k
                induction k with
                | zero=>intro _;exact⟨[],rfl,by simp⟩
                | succ k ihk =>
                  intro hk
                  obtain⟨zs,hl,hz⟩:=ihk (by omega)
                  obtain⟨z,us,h5,h6,h7⟩:=helem k (by omega)
                  refine⟨zs++[z],by simp[hl],fun i z' hz'=>?_⟩
                  rcases zbt i k with hik | hik
                  · rw[zao (by omega)] at hz'
                    exact hz i z' hz'
                  · rw[zap (by omega)] at hz'
                    have hik0:i-zs.length=0:=by
                      have:=(zak.1 hz').1
                      simp at this;omega
                    rw[hik0] at hz'
                    obtain rfl:z=z':=by simpa using hz'
                    obtain rfl:i=k:=by omega
                    exact⟨us,h5,h6,h7⟩
              exact build len (zaf _)
            obtain⟨zs,hzl,hz⟩:=hzs
            refine⟨(zs,y),⟨[.slice (some a) len cap],ws,rfl,?_,hr⟩,⟨by show zs.length≤maxLen;omega,fun z hzm=>?_⟩,hwf⟩
            · refine⟨some a,cap,by simp[hzl],by show zs.length≤cap;omega,?_⟩
              rcases Nat.eq_zero_or_pos len with h0 | h0
              · left;exact zaW.1 (by show zs.length=0;omega)
              · right
                have hz0:=hz 0 zs[0] (zag (by omega))
                obtain⟨us0,hr0,_,hc0⟩:=hz0
                have h00:=hc0 0 hpos
                have hl0:=Rp.len u _ _ hr0
                rw[zag (by omega)] at h00
                have ha0:(a.add (0*u.size)).add 0=a:=by simp[Addr.add]
                rw[ha0] at h00
                have hspot:a.spot=none:=by
                  unfold World.cell? at h00
                  split at h00
                  · cases hs:a.spot with
                    | none=>rfl
                    | some s=>rw[hs] at h00;simp at h00
                  · cases h00
                have hblk:a.block<W.heap.size:=by
                  unfold World.cell? at h00
                  split at h00
                  · rename_i hh;exact(zbY.1 hh).1
                  · cases h00
                obtain⟨bb,oo,sp⟩:=a
                simp only at hspot hblk
                subst hspot
                refine⟨bb,oo,rfl,hblk,fun i z hzi=>?_⟩
                obtain⟨us,h5,_,h7⟩:=hz i z hzi
                refine⟨us,h5,fun j v hj=>?_⟩
                have hjl:=(zak.1 hj).1
                rw[Rp.len u _ _ h5] at hjl
                have:=h7 j hjl
                rw[Addr.add_lit,Addr.add_lit] at this
                rw[this];exact hj
            · obtain⟨i,hi⟩:=zcl.1 hzm
              exact(hz i z hi).choose_spec.2.1
        · cases h
      · cases h
    · cases h
theorem qsD{t:TypeId}{v:Value}{d:DataW H}{p:List MemPlace}(n:Nat){c rest:Ty}(hl:qpX P n t c=some rest)(h:DataW.Trod enc P W 0 (fun _=>true) true t v d p){y:rest.T}{ws:List Value}
  (hy:Rp (fun b=>b<W.heap.size) W rest y ws∧Wf rest y):∃ z:c.T,Rp (fun b=>b<W.heap.size) W c z (v.cells.toList++ws)∧Wf c z:=by
 obtain⟨fuel,hf⟩:=h
 exact(qoD n t c rest fuel _ _ hl hf).2 y ws hy.1 hy.2
def qmZ:Ty→Bool
 | .cons _ b=>qmZ b
 | .nil=>true
 | _=>false
theorem qnm{S:qaf}:∀ {c:Ty} {x:c.T} {us:List Value},qmZ c=true→Rp S W c x us→(qcV c).all Ty.sc=true →
    us.length=(qbx c x).length∧∀(i:Nat) d u,(qbx c x)[i]? = some d→us[i]? = some u→Rp S W d.t d.x [u]
  | .cons a b,x,us,hc,⟨u1,u2,he,h1,h2⟩,hs=>by
      subst he
      simp only[qcV,List.all_cons,zah] at hs
      have hl1:=Rp.len a _ _ h1
      rw[qpS hs.1] at hl1
      obtain⟨u0,rfl⟩:=zch.1 hl1
      obtain⟨h3,h4⟩:=qnm (c:=b) hc h2 hs.2
      refine⟨by simp[qbx,h3],fun i d u hd hu=>?_⟩
      cases i with
      | zero =>
        simp only[qbx,List.getElem?_cons_zero,Option.some.injEq] at hd
        simp at hu
        subst hd;subst hu
        exact h1
      | succ i =>
        simp only[qbx,List.getElem?_cons_succ] at hd
        exact h4 i d u hd (by simpa using hu)
  | .nil,x,us,_,h,_=>by cases h;exact⟨rfl,fun i d u hd=>by simp[qbx] at hd⟩
  | .int _,_,_,hc,_,_=>by cases hc
  | .bool,_,_,hc,_,_=>by cases hc
  | .str,_,_,hc,_,_=>by cases hc
  | .sl _,_,_,hc,_,_=>by cases hc
  | .ptr _,_,_,hc,_,_=>by cases hc
  | .fn _ _,_,_,hc,_,_=>by cases hc
  | .lab _,_,_,hc,_,_=>by cases hc
  | .st _,_,_,hc,_,_=>by cases hc
theorem qr2{cs:Array Value}{n:Nat}{gs:List (Bool×Nat)}{ws:List Value}(h:cs.size=n):qaY ((true,n)::gs) ((Value.agg cs).cells.toList++ws)=.agg cs::qaY gs ws:=by
 have e:(Value.agg cs).cells.toList=cs.toList:=rfl
 have hl:cs.toList.length=n:=by simpa using h
 simp only[qaY,e,if_true]
 rw[zcf (by omega),zav (by omega),zcg (by omega),zbk (by omega),zcm]
theorem qr0{v:Value}{gs:List (Bool×Nat)}{ws:List Value}:qaY ((false,1)::gs) (v::ws)=v::qaY gs ws:=by
 simp[qaY]
theorem qs2{E:Env}{L:List (Option (Func×Pol))}{mask:List Bool}(hE:E.fn=fun f=>L.getD f none)(h:L.map (·.map Prod.fst)=(List.range L.length).map fun i=>bif mask.getD i false then E.P.funcs[i]? else none) :
  ∀ f fn pol,E.fn f=some (fn,pol)→E.P.funcs[f]? = some fn:=by
 intro f fn pol hf
 rw[hE] at hf
 simp only[zaa] at hf
 cases hl:L[f]? with
 | none=>rw[hl] at hf;cases hf
 | some o =>
  rw[hl] at hf
  simp only[zcr] at hf
  subst hf
  have h1:=congrArg (·[f]?) h
  have hlt:=(zak.1 hl).1
  simp only[zaD,hl,zbO] at h1
  rw[zbg hlt] at h1
  simp only[zbO,Option.some.injEq] at h1
  cases hm:mask.getD f false with
  | true=>rw[hm,cond_true] at h1;exact h1.symm
  | false=>rw[hm,cond_false] at h1;cases h1
theorem qsH{E:Env}{L:List (Option Sig)}(hE:E.sig=fun f=>L.getD f none) (h:((List.range L.length).all fun i=>match L.getD i none with
  | none=>true
  | some _=>match E.P.funcs[i]? with
   | some fn => fn.body.isSome && !(fn.name == "runtime.NumGoroutine")
   | none=>false)=true):∀ f sg,E.sig f=some sg→∀(args:Array Value) (w:World),(callFunc f args).run E.P w=.ok (.enter f args) w:=by
 intro f sg hf args w
 rw[hE] at hf
 have hlt:f<L.length:=by
  simp only[zaa] at hf
  cases hl:L[f]? with
  | none=>rw[hl] at hf;cases hf
  | some o=>exact(zak.1 hl).1
 have h1:=zbl.1 h f (zaG.2 hlt)
 have hf':L.getD f none=some sg:=hf
 rw[hf'] at h1
 simp only at h1
 cases hfn:E.P.funcs[f]? with
 | none=>rw[hfn] at h1;cases h1
 | some fn =>
  rw[hfn] at h1
  simp only[zah,zbU] at h1
  obtain⟨c,hc⟩:=Option.isSome_iff_exists.1 h1.1
  have h2 : fn.name ≠ "runtime.NumGoroutine" := by simpa using h1.2
  simp[callFunc,hfn,h2,hc]
theorem qr7{E:Env}(hE:EnvOk E)(hprim:∀ f p,E.prim f=some p→∀ r,qi2 E (mkR r)→∀ args dv sg,E.sig f=some sg→p (mkR r) args=some dv→qds E.P sg f args dv)
  {f:FuncId} {sg:Sig} (hsg:E.sig f=some sg) (hpm:sg.pm=[]) (hown:sg.own=[]) (hrs:sg.rs=[(false,1)]) {c:Ty} (hc:qmZ c=true) (hsc:(qcV c).all Ty.sc=true) {x:c.T}
  {N:Nat} (hrun:run E N f (qbx c x)=some ⟨.cons .bool .nil,(true,())⟩) {us:List Value} (hr:Rp (fun b=>b<W.heap.size) W c x us) :
  Calls E.P f (qaY sg.ps us).toArray W fun e w'=>e=.returned (.bool true)∧RowKit.Below W.heap.size W w':=by
 have hcon:=qlv hE hprim N f (qbx c x) _ sg hsg hrun
 obtain⟨hl,hg⟩:=qnm hc hr hsc
 refine(hcon W (fun b=>b<W.heap.size) us (fun _ _=>False) (fun _ h=>h) (fun _ _ h=>h.elim) (fun _ _ _ _ h=>h.elim) hl (fun i d u hd hu=>?_)).mono ?_
 ·rw[hpm]
  show Rp _ W d.t d.x [u]
  exact hg i d u hd hu
 ·rintro e w' ⟨rus,S',GR,GP,rfl,hA⟩
  have hn:qnq sg=1:=by unfold qnq;rw[hrs];rfl
  have hl1:rus.length=1:=by rw[hA.len,hn]
  obtain⟨u,rfl⟩:=zch.1 hl1
  have hres:=hA.res 0 ⟨.bool,true⟩ u (by omega) rfl rfl
  rw[hown] at hres
  have hu:u=.bool true:=by
   have:Rp S' w' .bool true [u]:=hres
   simpa [Rp] using this
  refine⟨by rw[hrs,hu];rfl,?_⟩
  exact⟨hA.kin.1,hA.kin.2.1,hA.kin.2.2.1,hA.size,fun b hb=>hA.keep b hb fun _ h=>h⟩
end
end Ve
namespace Ve
open Go
def Evt(p:Nat→Prop):Prop:=∃ n0,∀ n,n0≤n→p n
theorem Evt.of{p:Nat→Prop}(h:∀ n,p n):Evt p:=⟨0,fun n _=>h n⟩
theorem Evt.mono{p q:Nat→Prop}(h:Evt p)(hpq:∀ n,p n→q n):Evt q:=let ⟨n0,h⟩:=h;⟨n0,fun n hn=>hpq n (h n hn)⟩
theorem Evt.and{p q:Nat→Prop}(h:Evt p)(k:Evt q):Evt fun n=>p n∧q n :=
 let ⟨a,h⟩:=h;let ⟨b,k⟩:=k;⟨max a b,fun n hn=>⟨h n (zaP (Nat.le_max_left a b) hn),k n (zaP (Nat.le_max_right a b) hn)⟩⟩
theorem Evt.succ{p:Nat→Prop}(h:Evt fun n=>p (n+1)):Evt p:=let ⟨a,h⟩:=h;⟨a+1,fun n hn=>by
 obtain⟨m,rfl⟩:∃ m,n=m+1:=⟨n-1,by omega⟩
 exact h m (by omega)⟩
theorem Evt.ge(k:Nat):Evt fun n=>k≤n:=⟨k,fun _ h=>h⟩
theorem Evt.bind{p q:Nat→Prop}(h:Evt p)(k:Evt fun n=>p n→q n):Evt q:=(h.and k).mono fun _ h=>h.2 h.1
theorem Evt.lt{p:Nat→Nat→Prop}{k:Nat}(h:∀ i,i<k→Evt (p i)):Evt fun n=>∀ i,i<k→p i n:=by
 induction k with
 | zero=>exact⟨0,fun _ _ i hi=>by omega⟩
 | succ k ih =>
  refine((ih fun i hi=>h i (by omega)).and (h k (by omega))).mono fun n hh i hi=>?_
  rcases zbt i k with h3 | h3
  ·exact hh.1 i h3
  ·obtain rfl:i=k:=by omega
   exact hh.2
theorem Evt.some{p:Nat→Prop}(h:Evt p):∃ n,p n:=let ⟨a,h⟩:=h;⟨a,h a (zaf _)⟩
def Ret(E:Env)(f:Nat)(args:List Dv)(d:Dv):Prop:=Evt fun n=>run E n f args=.some d
theorem qqo{E:Env}{n f:Nat}{out:Ty}{args:List Dv}{x:out.T}(h:run E n f args=some ⟨out,x⟩):qlP (mkR (run E n)) f out args=some x:=by
 simp[qlP,mkR,h,Dv.to,cast?]
theorem qae{E:Env}{n:Nat}:(mkR (run E n)).ok:=qst _
theorem qqg{α:Type}{L:Nat→Nat→Int→α→Option Dv}{len:Nat}{r:Option Dv}(Inv:Nat→α→Prop)
  (step:∀ k acc,k<len→Inv k acc→(Evt fun m=>∀ n,L m (n+1) (k:Int) acc=r)∨∃ acc',Inv (k+1) acc'∧Evt fun m=>∀ n,L m (n+1) (k:Int) acc=L m n ((k+1:Nat):Int) acc')
  (fin:∀ acc,Inv len acc→Evt fun m=>∀ n,L m (n+1) (len:Int) acc=r) :
  ∀ d k acc,k+d=len→Inv k acc→Evt fun m=>∀ n,d<n→L m n (k:Int) acc=r:=by
 intro d
 induction d with
 | zero =>
  intro k acc hk hi
  obtain rfl:k=len:=by omega
  refine(fin acc hi).mono fun m h n hn=>?_
  obtain⟨n,rfl⟩:∃ j,n=j+1:=⟨n-1,by omega⟩
  exact h n
 | succ d ih =>
  intro k acc hk hi
  rcases step k acc (by omega) hi with h | ⟨acc',hi',h⟩
  ·refine h.mono fun m h n hn=>?_
   obtain⟨n,rfl⟩:∃ j,n=j+1:=⟨n-1,by omega⟩
   exact h n
  ·refine(h.and (ih (k+1) acc' (by omega) hi')).mono fun m ⟨h1,h2⟩ n hn=>?_
   obtain⟨n,rfl⟩:∃ j,n=j+1:=⟨n-1,by omega⟩
   rw[h1 n]
   exact h2 n (by omega)
theorem qrU{α:Type}{L:Nat→Nat→Int→α→Option Dv}{len:Nat}{r:Option Dv}(Inv:Nat→α→Prop)
  (step:∀ k acc,k<len→Inv k acc→(Evt fun m=>∀ n,L m (n+1) (k:Int) acc=r)∨∃ acc',Inv (k+1) acc'∧Evt fun m=>∀ n,L m (n+1) (k:Int) acc=L m n ((k+1:Nat):Int) acc')
  (fin:∀ acc,Inv len acc→Evt fun m=>∀ n,L m (n+1) (len:Int) acc=r) (acc:α) (h0:Inv 0 acc):Evt fun m=>L m m (0:Int) acc=r:=by
 have h:=qqg Inv step fin len 0 acc (by omega) h0
 exact(h.and (Evt.ge (len+1))).mono fun m ⟨h1,h2⟩=>h1 m (by omega)
theorem qrE{α:Type}{L:Nat→Nat→Int→α→Option Dv}{len:Nat}(Inv:Nat→α→Prop)(Good:Option Dv→Prop)
  (step:∀ k acc,k<len→Inv k acc→(∃ r,Good r∧Evt fun m=>∀ n,L m (n+1) (k:Int) acc=r)∨∃ acc',Inv (k+1) acc'∧Evt fun m=>∀ n,L m (n+1) (k:Int) acc=L m n ((k+1:Nat):Int) acc')
  (fin:∀ acc,Inv len acc→∃ r,Good r∧Evt fun m=>∀ n,L m (n+1) (len:Int) acc=r) (acc:α) (h0:Inv 0 acc):∃ r,Good r∧Evt fun m=>L m m (0:Int) acc=r:=by
 have key:∀ d k acc,k+d=len→Inv k acc→∃ r,Good r∧Evt fun m=>∀ n,d<n→L m n (k:Int) acc=r:=by
  intro d
  induction d with
  | zero =>
   intro k acc hk hi
   obtain rfl:k=len:=by omega
   obtain⟨r,hr,h⟩:=fin acc hi
   refine⟨r,hr,h.mono fun m h n hn=>?_⟩
   obtain⟨n,rfl⟩:∃ j,n=j+1:=⟨n-1,by omega⟩
   exact h n
  | succ d ih =>
   intro k acc hk hi
   rcases step k acc (by omega) hi with ⟨r,hr,h⟩ | ⟨acc',hi',h⟩
   ·refine⟨r,hr,h.mono fun m h n hn=>?_⟩
    obtain⟨n,rfl⟩:∃ j,n=j+1:=⟨n-1,by omega⟩
    exact h n
   ·obtain⟨r,hr,h2⟩:=ih (k+1) acc' (by omega) hi'
    refine⟨r,hr,(h.and h2).mono fun m ⟨h1,h2⟩ n hn=>?_⟩
    obtain⟨n,rfl⟩:∃ j,n=j+1:=⟨n-1,by omega⟩
    rw[h1 n]
    exact h2 n (by omega)
 obtain⟨r,hr,h⟩:=key len 0 acc (by omega) h0
 exact⟨r,hr,(h.and (Evt.ge (len+1))).mono fun m ⟨h1,h2⟩=>h1 m (by omega)⟩
theorem qaT{α:Type}{xs:List α}{k:Nat}:idx? xs (k:Int)=xs[k]?:=by
 unfold idx?
 have:decide (0≤(k:Int))=true:=by simp
 rw[this,cond_true,zai]
theorem qak{α:Type}{xs:List α}{k:Nat}(h:k<xs.length):idx? xs (k:Int)=some xs[k]:=by
 rw[qaT,zag h]
abbrev w64(n:Int):Int:=IntKind.wrap .i64 n
theorem qag{n:Int}(h1:-9223372036854775808≤n)(h2:n≤9223372036854775807):w64 n=n:=by
 simp only[w64]
 simp only[IntKind.wrap,IntKind.bits,IntKind.signed]
 simp
 omega
theorem qad{k:Nat}(h:(k:Int)<9223372036854775807):w64 ((k:Int)+1)=((k+1:Nat):Int):=by
 rw[qag (by omega) (by omega)];omega
theorem qsC{ρ:Type}{b:Bool}{K:Unit→Option ρ}(h:b=true):(chk b).bind K=K ():=by subst h;rfl
theorem qsv:maxLen=9223372036854775807:=by decide
def Sm:(t:Ty)→t.T→Prop
 | .sl t,xs=>xs.length≤1048576∧∀ x∈xs,Sm t x
 | .st c,x=>Sm c x
 | .cons a b,x=>Sm a x.1∧Sm b x.2
 | _,_=>True
theorem qqh{α:Type}{a o:List α}{k:Nat}(hk:k<a.length)(ho:o.take k=a.take k)(hl:o.length=a.length):(o.set k a[k]).take (k+1)=a.take (k+1):=by
 apply zbF
 intro j
 simp only[zbf]
 split
 ·rename_i hj
  by_cases hjk:j=k
  ·subst hjk
   rw[zaJ (by omega),zag hk]
  ·rw[zaV (Ne.symm hjk)]
   have:=congrArg (·[j]?) ho
   simp only[zbf,show j<k by omega,if_true] at this
   exact this
 ·rfl
theorem qsl{α:Type}{L:Nat→Nat→Int→List α→Option Dv}{a z:List α}{r:Option Dv}(hl:z.length=a.length)
  (step:∀ k o (h:k<a.length),o.length=a.length→Evt fun m=>∀ n,L m (n+1) (k:Int) o=L m n ((k+1:Nat):Int) (o.set k a[k]))
  (fin:Evt fun m=>∀ n,L m (n+1) (a.length:Int) a=r):Evt fun m=>L m m (0:Int) z=r:=by
 refine qrU (len:=a.length) (fun k o=>o.length=a.length∧o.take k=a.take k) ?_ ?_ z ⟨hl,by simp⟩
 ·rintro k o hk ⟨h1,h2⟩
  exact .inr ⟨_,⟨by simpa using h1,qqh hk h2 h1⟩,step k o hk h1⟩
 ·rintro o ⟨h1,h2⟩
  rw[zav (by omega),zcq] at h2
  subst h2
  exact fin
theorem qr8{α:Type}{L:Nat→Nat→Int→Unit→Option Dv}{a b:List α}(eq:α→α→Prop){rt rf:Option Dv}(hl:b.length=a.length)
  (ne:∀ k (h:k<a.length) (h':k<b.length),¬ eq a[k] b[k]→Evt fun m=>∀ n,L m (n+1) (k:Int) ()=rf)
  (step:∀ k (h:k<a.length) (h':k<b.length),eq a[k] b[k]→Evt fun m=>∀ n,L m (n+1) (k:Int) ()=L m n ((k+1:Nat):Int) ())
  (fin:Evt fun m=>∀ n,L m (n+1) (a.length:Int) ()=rt) :
  ((∀ k (h:k<a.length) (h':k<b.length),eq a[k] b[k])→Evt fun m=>L m m (0:Int) ()=rt)∧((¬ ∀ k (h:k<a.length) (h':k<b.length),eq a[k] b[k])→Evt fun m=>L m m (0:Int) ()=rf):=by
 constructor
 ·intro h
  exact qrU (len:=a.length) (fun _ _=>True) (fun k _ hk _=>.inr ⟨(),trivial,step k hk (by omega) (h k hk (by omega))⟩) (fun _ _=>fin) () trivial
 ·intro h
  refine qrU (len:=a.length) (fun k _=>∀ j (h:j<a.length) (h':j<b.length),j<k→eq a[j] b[j]) (fun k _ hk hi=>?_) (fun _ hi=>absurd (fun k h1 h2=>hi k h1 h2 h1) h) () (fun j _ _ hj=>by omega)
  by_cases he:eq a[k] b[k]
  ·refine .inr ⟨(),fun j h1 h2 hj=>?_,step k hk (by omega) he⟩
   rcases zbt j k with h3 | h3
   ·exact hi j h1 h2 h3
   ·obtain rfl:j=k:=by omega
    exact he
  ·exact .inl (ne k hk (by omega) he)
theorem qsK{α:Type}{xs:List α}{L:Nat→Nat→Int→Int→Option Dv}{ret:Int→Option Dv}(SmE:α→Prop)
  (step:∀ k left (hk:k<xs.length),0≤left→left≤1048576→∃ r:Int,(0≤r→r≤left∧SmE xs[k])∧Evt fun m=>∀ n,L m (n+1) (k:Int) left=bif decide (r<0) then ret (-1) else L m n ((k+1:Nat):Int) r)
  (fin:∀ left,Evt fun m=>∀ n,L m (n+1) (xs.length:Int) left=ret left) (left0:Int) (h0:0≤left0) (h1:left0≤1048576) :
  ∃ r,(Evt fun m=>L m m (0:Int) left0=ret r)∧(0≤r→r≤left0∧∀ x∈xs,SmE x):=by
 obtain⟨r',⟨r,rfl,hr⟩,h⟩:=qrE (L:=L) (len:=xs.length) (fun k left=>0≤left∧left≤left0∧∀ j (h:j<xs.length),j<k→SmE xs[j]) (fun o=>∃ r,o=ret r∧(0≤r→r≤left0∧∀ x∈xs,SmE x)) (fun k left hk hi=>by
  obtain⟨i1,i2,i3⟩:=hi
  obtain⟨r,hr,hs⟩:=step k left hk i1 (by omega)
  by_cases hneg:r<0
  ·exact .inl ⟨_,⟨-1,rfl,fun h=>by omega⟩,hs.mono fun m h n=>by rw[h n,zac hneg,cond_true]⟩
  ·have:=hr (by omega)
   refine .inr ⟨r,⟨by omega,by omega,fun j hj hjk=>?_⟩,hs.mono fun m h n=>by rw[h n,zae hneg,cond_false]⟩
   rcases zbt j k with h3 | h3
   ·exact i3 j hj h3
   ·obtain rfl:j=k:=by omega
    exact this.2) (fun left hi=>⟨_,⟨left,rfl,fun _=>⟨hi.2.1,fun x hx=>by
     obtain⟨j,hj,rfl⟩:=zaC.1 hx
     exact hi.2.2 j hj hj⟩⟩,fin left⟩) left0 ⟨h0,Int.le_refl _,fun j _ hj=>by omega⟩
 exact⟨r,h,hr⟩
end Ve
namespace Ve
open Go
def Ev(p:(Nat→Nat)→Prop):Prop:=∃ n0,∀ φ:Nat→Nat,(∀ i,n0≤φ i)→p φ
theorem Ev.of{p:(Nat→Nat)→Prop}(h:∀ φ,p φ):Ev p:=⟨0,fun φ _=>h φ⟩
theorem Ev.mono{p q:(Nat→Nat)→Prop}(h:Ev p)(hpq:∀ φ,p φ→q φ):Ev q:=let ⟨n0,h⟩:=h;⟨n0,fun n hn=>hpq n (h n hn)⟩
theorem Ev.and{p q:(Nat→Nat)→Prop}(h:Ev p)(k:Ev q):Ev fun n=>p n∧q n :=
 let ⟨a,h⟩:=h;let ⟨b,k⟩:=k;⟨max a b,fun φ hn=>⟨h φ fun i=>zaP (Nat.le_max_left a b) (hn i),k φ fun i=>zaP (Nat.le_max_right a b) (hn i)⟩⟩
theorem Ev.evt{p:Nat→Prop}(h:Ev fun φ=>p (φ 0)):Evt p:=let ⟨a,h⟩:=h;⟨a,fun n hn=>h (fun _=>n) fun _=>hn⟩
theorem Evt.ev{p:Nat→Prop}(h:Evt p):Ev fun φ=>p (φ 0):=let ⟨a,h⟩:=h;⟨a,fun φ hn=>h _ (hn 0)⟩
def fup(φ:Nat→Nat)(l n:Nat):Nat→Nat:=fun i=>bif Nat.beq i l then n else φ i
theorem qnA{φ:Nat→Nat}{l n:Nat}:fup φ l n l=n:=by simp[fup]
theorem qqW{φ:Nat→Nat}{l n n0:Nat}(h:∀ i,n0≤φ i)(hn:n0≤n):∀ i,n0≤fup φ l n i:=by
 intro i;simp only[fup];cases Nat.beq i l
 ·exact h i
 ·exact hn
theorem Ev.start(l:Nat){p:(Nat→Nat)→Nat→Prop}(h:Ev fun φ=>p φ (φ l))(hp:∀ φ n n',p (fup φ l n') n→p φ n):Ev fun φ=>p φ (φ 0) :=
 let ⟨a,h⟩:=h;⟨a,fun φ hn=>hp φ (φ 0) (φ 0) (by have:=h (fup φ l (φ 0)) (qqW hn (hn 0));simp only[qnA] at this;exact this)⟩
theorem qe4(l:Nat){σ:Type}{L:(Nat→Nat)→Nat→σ→Option Dv}(hind:∀ φ n n' s,L (fup φ l n') n s=L φ n s)(Inv:σ→Prop)(res:σ→Option Dv)(μ:σ→Nat)
  (step:∀ s,Inv s→(∀ s',Inv s'→μ s'<μ s→Ev fun φ=>L φ (φ l) s'=res s')→Ev fun φ=>L φ (φ l+1) s=res s) :
  ∀ s,Inv s→Ev fun φ=>L φ (φ l) s=res s:=by
 have key:∀ d s,μ s<d→Inv s→Ev fun φ=>L φ (φ l) s=res s:=by
  intro d
  induction d with
  | zero=>intro s h;omega
  | succ d ih =>
   intro s hd hi
   obtain⟨a,h⟩:=step s hi fun s' hi' hl=>ih s' (by omega) hi'
   refine⟨a+1,fun φ hn=>?_⟩
   have h1:=hn l
   have:=h (fup φ l (φ l-1)) (qqW (fun i=>by have:=hn i;omega) (by omega))
   simp only[qnA,hind] at this;rw[Nat.sub_add_cancel (by omega)] at this
   exact this
 exact fun s=>key _ s (zbK _)
theorem qaa{E:Env}{f:Nat}{out:Ty}{args:List Dv}{x:out.T}{K:(Nat→Nat)→out.T→Option Dv}{r:Option Dv}(h:Ret E f args ⟨out,x⟩)(k:Ev fun φ=>K φ x=r) :
  Ev fun φ=>(Option.bind (qlP (mkR (run E (φ 0))) f out args) fun y=>K φ y)=r :=
 (h.ev.and k).mono fun φ ⟨h,k⟩=>by rw[qqo h];exact k
theorem qab{α:Type}{c:Option α}{x:α}{K:(Nat→Nat)→α→Option Dv}{r:Option Dv}(h:c=some x)(k:Ev fun φ=>K φ x=r) :
  Ev fun φ=>(Option.bind c fun y=>K φ y)=r:=k.mono fun φ k=>by rw[h];exact k
theorem qao{b:Bool}{K:(Nat→Nat)→Unit→Option Dv}{r:Option Dv}(h:b=true)(k:Ev fun φ=>K φ ()=r) :
  Ev fun φ=>(Option.bind (chk b) fun y=>K φ y)=r:=k.mono fun φ k=>by subst h;exact k
theorem qax{b:Bool}{A B:(Nat→Nat)→Option Dv}{r:Option Dv}(h:b=true)(k:Ev fun φ=>A φ=r):Ev fun φ=>(bif b then A φ else B φ)=r:=by subst h;exact k
theorem qaB{b:Bool}{A B:(Nat→Nat)→Option Dv}{r:Option Dv}(h:b=false)(k:Ev fun φ=>B φ=r):Ev fun φ=>(bif b then A φ else B φ)=r:=by subst h;exact k
theorem qbS{b:Bool}{A B:(Nat→Nat)→Option Dv}{r:Option Dv}(t:b=true→Ev fun φ=>A φ=r)(f:b=false→Ev fun φ=>B φ=r):Ev fun φ=>(bif b then A φ else B φ)=r:=by
 cases b
 ·exact f rfl
 ·exact t rfl
theorem qew{p:Prop}[Decidable p]{A B:(Nat→Nat)→Option Dv}{r:Option Dv}(t:p→Ev fun φ=>A φ=r)(f:¬ p→Ev fun φ=>B φ=r):Ev fun φ=>(bif decide p then A φ else B φ)=r:=by
 by_cases h:p
 ·exact qax (zac h) (t h)
 ·exact qaB (zae h) (f h)
theorem qal{r:Option Dv}:Ev fun _=>r=r:=Ev.of fun _=>rfl
theorem qah{r r':Option Dv}(h:r=r'):Ev fun _=>r=r':=Ev.of fun _=>h
theorem Ev.to{A:(Nat→Nat)→Option Dv}{r r':Option Dv}(k:Ev fun φ=>A φ=r)(h:r=r'):Ev fun φ=>A φ=r':=by subst h;exact k
noncomputable def pb(p:Prop):Bool:=@decide p (Classical.propDecidable p)
theorem qaK{p:Prop}(h:p):pb p=true:=by simp[pb,h]
theorem qaq{p:Prop}(h:¬ p):pb p=false:=by simp[pb,h]
theorem qaD{p:Prop}:pb p=true↔p:=by simp[pb]
theorem qa0{p:Prop}:pb p=false↔¬ p:=by simp[pb]
theorem qaN{p q:Prop}(h:p↔q):pb p=pb q:=by rw[Bool.eq_iff_iff,qaD,qaD,h]
theorem qfn{p:Prop}[Decidable p]:decide p=pb p:=by rw[Bool.eq_iff_iff,qaD,decide_eq_true_iff]
theorem qfy{b:Bool}{p:Prop}(h:b=true↔p):b=pb p:=by rw[Bool.eq_iff_iff,qaD,h]
theorem qai{E:Env}{f:Nat}{args:List Dv}{d:Dv}(h:Ev fun φ=>run E (φ 0+1) f args=some d):Ret E f args d:=Evt.succ (Ev.evt (p:=fun n=>run E (n+1) f args=some d) h)
theorem qkh(l:Nat){L:(Nat→Nat)→Nat→Int→Option Dv}{len:Nat}(k0:Nat)(hk0:k0≤len)(P:Nat→Prop){rt rf:Option Dv}(hind:∀ φ n n' s,L (fup φ l n') n s=L φ n s)
    (bad:∀ k,k0≤k→k<len→¬ P k→(∀ j,k0≤j→j<k→P j)→Ev fun φ=>L φ (φ l+1) (k:Int)=rf)
    (good:∀ k r,k0≤k→k<len→P k→(∀ j,k0≤j→j<k→P j)→(Ev fun φ=>L φ (φ l) ((k+1:Nat):Int)=r)→Ev fun φ=>L φ (φ l+1) (k:Int)=r)
    (fin:(∀ j,k0≤j→j<len→P j)→Ev fun φ=>L φ (φ l+1) (len:Int)=rt) :
    ((∀ j,k0≤j→j<len→P j)→Ev fun φ=>L φ (φ l) (k0:Int)=rt)∧((¬ ∀ j,k0≤j→j<len→P j)→Ev fun φ=>L φ (φ l) (k0:Int)=rf):=by
  have h:=qe4 l (σ:=Nat) (L:=fun φ n k=>L φ n (k:Int)) (fun φ n n' s=>hind φ n n' s) (fun k=>k0≤k∧k≤len∧∀ j,k0≤j→j<k→P j) (fun _=>bif pb (∀ j,k0≤j→j<len→P j) then rt else rf) (fun k=>len-k) (fun k ⟨hk,hl,hp⟩ ih=>by
    by_cases hkl:k=len
    · subst hkl
      rw[qaK hp];exact fin hp
    · by_cases hP:P k
      · exact good k _ hk (by omega) hP hp (ih (k+1) ⟨by omega,by omega,fun j h1 h2=>by
          by_cases hj:j=k
          · subst hj;exact hP
          · exact hp j h1 (by omega)⟩ (by omega))
      · rw[qaq fun h=>hP (h k hk (by omega))]
        exact bad k hk (by omega) hP hp) k0 ⟨zaf _,hk0,fun j h1 h2=>by omega⟩
  constructor
  · intro hp;rw[qaK hp] at h;exact h
  · intro hp;rw[qaq hp] at h;exact h
theorem qdk(l:Nat){L:(Nat→Nat)→Nat→Int→Option Dv}{len:Nat}(k0:Nat)(hk0:k0≤len)(P:Nat→Prop)(out:Bool→Option Dv)(hind:∀ φ n n' s,L (fup φ l n') n s=L φ n s)
  (bad:∀ k,k0≤k→k<len→¬ P k→(∀ j,k0≤j→j<k→P j)→Ev fun φ=>L φ (φ l+1) (k:Int)=out false)
  (good:∀ k r,k0≤k→k<len→P k→(∀ j,k0≤j→j<k→P j)→(Ev fun φ=>L φ (φ l) ((k+1:Nat):Int)=r)→Ev fun φ=>L φ (φ l+1) (k:Int)=r)
  (fin:(∀ j,k0≤j→j<len→P j)→Ev fun φ=>L φ (φ l+1) (len:Int)=out true) :
  Ev fun φ=>L φ (φ l) (k0:Int)=out (pb (∀ j,k0≤j→j<len→P j)):=by
 obtain⟨h1,h2⟩:=qkh l k0 hk0 P hind bad good fin
 by_cases h:∀ j,k0≤j→j<len→P j
 ·rw[qaK h];exact h1 h
 ·rw[qaq h];exact h2 h
theorem qam(l:Nat){α:Type}{L:(Nat→Nat)→Nat→Int→α→Option Dv}{len:Nat}(A:Nat→α){r:Option Dv}(hind:∀ φ n n' k s,L (fup φ l n') n k s=L φ n k s)
  (step:∀ k r,k<len→(Ev fun φ=>L φ (φ l) ((k+1:Nat):Int) (A (k+1))=r)→Ev fun φ=>L φ (φ l+1) (k:Int) (A k)=r)
  (fin:Ev fun φ=>L φ (φ l+1) (len:Int) (A len)=r) :
  Ev fun φ=>L φ (φ l) ((0:Nat):Int) (A 0)=r:=by
 exact qe4 l (σ:=Nat) (L:=fun φ n k=>L φ n (k:Int) (A k)) (fun φ n n' s=>hind φ n n' s _) (fun k=>k≤len) (fun _=>r) (fun k=>len-k) (fun k hk ih=>by
  by_cases hkl:k=len
  ·subst hkl;exact fin
  ·exact step k r (by omega) (ih (k+1) (by show k+1≤len;omega) (by show len-(k+1)<len-k;omega))) 0 (zaE _)
theorem qb4(l:Nat){L:(Nat→Nat)→Nat→Int→Option Dv}{len:Nat}(P:Nat→Prop)(r:Option Nat→Option Dv)(hind:∀ φ n n' s,L (fup φ l n') n s=L φ n s)
    (hit:∀ k,k<len→P k→Ev fun φ=>L φ (φ l+1) (k:Int)=r (some k))
    (go:∀ k q,k<len→¬ P k→(Ev fun φ=>L φ (φ l) ((k+1:Nat):Int)=q)→Ev fun φ=>L φ (φ l+1) (k:Int)=q)
    (fin:Ev fun φ=>L φ (φ l+1) (len:Int)=r none) :
    ∃ o:Option Nat,(∀ k,o=some k→k<len∧P k∧∀ j,j<k→¬ P j)∧(o=none→∀ j,j<len→¬ P j)∧Ev fun φ=>L φ (φ l) (0:Int)=r o:=by
  have key:∀ d k,k+d=len→(∀ j,j<k→¬ P j)→∃ o:Option Nat,(∀ k,o=some k→k<len∧P k∧∀ j,j<k→¬ P j)∧(o=none→∀ j,j<len→¬ P j)∧Ev fun φ=>L φ (φ l) (k:Int)=r o:=by
    intro d
    induction d with
    | zero =>
      intro k hk hn
      obtain rfl:k=len:=by omega
      refine⟨none,fun _ h=>(nomatch h),fun _=>hn,?_⟩
      exact qe4 l (σ:=Unit) (L:=fun φ n _=>L φ n (k:Int)) (fun φ n n' _=>hind φ n n' _) (fun _=>True) (fun _=>r none) (fun _=>0) (fun _ _ _=>fin) () trivial
    | succ d ih =>
      intro k hk hn
      by_cases hP:P k
      · refine⟨some k,fun j h=>by obtain rfl:=zad h;exact⟨by omega,hP,hn⟩,fun h=>(nomatch h),?_⟩
        exact qe4 l (σ:=Unit) (L:=fun φ n _=>L φ n (k:Int)) (fun φ n n' _=>hind φ n n' _) (fun _=>True) (fun _=>_) (fun _=>0) (fun _ _ _=>hit k (by omega) hP) () trivial
      · obtain⟨o,h1,h2,h3⟩:=ih (k+1) (by omega) fun j hj=>by
          by_cases hjk:j=k
          · subst hjk;exact hP
          · exact hn j (by omega)
        refine⟨o,h1,h2,?_⟩
        exact qe4 l (σ:=Unit) (L:=fun φ n _=>L φ n (k:Int)) (fun φ n n' _=>hind φ n n' _) (fun _=>True) (fun _=>_) (fun _=>0) (fun _ _ _=>go k _ (by omega) hP h3) () trivial
  exact key len 0 (by omega) fun j hj=>by omega
def o2i:Option Nat→Int | some k=>k | none=>-1
def qjz{α:Type}(p:α→Bool)(s:List α):Int:=o2i (s.findIdx? p)
theorem qdI{α:Type}{p:α→Bool}{s:List α}{o:Option Nat}(h1:∀ k,o=some k→k<s.length∧(∃ h:k<s.length,p s[k]=true)∧∀ j,j<k→¬ ∃ h:j<s.length,p s[j]=true)
  (h2:o=none→∀ j,j<s.length→¬ ∃ h:j<s.length,p s[j]=true):o2i o=qjz p s:=by
 have:s.findIdx? p=o:=by
  cases o with
  | none =>
   rw[List.findIdx?_eq_none_iff]
   intro x hx
   obtain⟨j,hj,rfl⟩:=zaC.1 hx
   have:=h2 rfl j hj
   cases h:p s[j]
   ·rfl
   ·exact absurd ⟨hj,h⟩ this
  | some k =>
   obtain⟨a,⟨_,b⟩,c⟩:=h1 k rfl
   rw[zbz]
   exact⟨a,b,fun j hj h=>c j hj ⟨by omega,h⟩⟩
 simp only[qjz,this]
theorem qcb{α:Type}{p:α→Bool}{s:List α}:0≤qjz p s↔∃ x∈s,p x=true:=by
 unfold qjz
 cases h:s.findIdx? p with
 | none =>
  rw[List.findIdx?_eq_none_iff] at h
  simp only[o2i,show ¬ (0:Int)≤-1 by omega,false_iff]
  rintro⟨x,hx,hp⟩
  rw[h x hx] at hp;cases hp
 | some k =>
  rw[zbz] at h
  obtain⟨a,b,_⟩:=h
  exact⟨fun _=>⟨_,zaj a,b⟩,fun _=>by simp[o2i]⟩
theorem Ev.round(l:Nat){L:(Nat→Nat)→Nat→Option Dv}{r:Option Dv}(h:Ev fun φ=>L φ (φ l+1)=r)(hind:∀ φ n n',L (fup φ l n') n=L φ n):Ev fun φ=>L φ (φ l)=r :=
 qe4 l (σ:=Unit) (L:=fun φ n _=>L φ n) (fun φ n n' _=>hind φ n n') (fun _=>True) (fun _=>r) (fun _=>0) (fun _ _ _=>h) () trivial
theorem qmg{n:Int}(h1:0≤n)(h2:n≤9223372036854775807):IntKind.wrap .u64 n=n:=by
 simp only[IntKind.wrap,IntKind.bits,IntKind.signed]
 simp
 omega
theorem qs5{i j:Nat}(h:i+j≤2097152):w64 (Int.fdiv (IntKind.wrap .u64 (w64 ((i:Int)+(j:Int)))) (2 ^ (min (Int.toNat (1:Int)) (IntKind.bits .u64))))=(((i+j) / 2:Nat):Int):=by
 have e1:w64 ((i:Int)+(j:Int))=(i:Int)+(j:Int):=qag (by omega) (by omega)
 have e2:IntKind.wrap .u64 ((i:Int)+(j:Int))=(i:Int)+(j:Int):=qmg (by omega) (by omega)
 have:min (Int.toNat (1:Int)) (IntKind.bits .u64)=1:=by decide
 have e3:Int.fdiv ((i:Int)+(j:Int)) (2 ^ 1)=(((i+j) / 2:Nat):Int):=by
  rw[Int.fdiv_eq_ediv_of_nonneg _ (by decide)];omega
 rw[e1,e2,this,e3]
 exact qag (by omega) (by omega)
def qn0(u:Ty)(_:Run)(args:List Dv):Option Dv:=match args with
 | [d,e]=>(d.to (.sl u)).bind fun x=>(e.to (.int .i64)).bind fun n=>if 0≤(n:Int)∧((List.length (α:=u.T) x:Int)+n)*(64*u.size)≤70368744177664 then some ⟨.cons (.sl u) .nil,(x,())⟩ else none
 | _=>none
end Ve
namespace Ve
open Go
theorem qb8{A B:(Nat→Nat)→Option Dv}{r:Option Dv}(a:Ev fun φ=>A φ=r)(b:Ev fun φ=>B φ=r):Ev fun φ=>qq2 (A φ) (B φ)=r :=
 (a.and b).mono fun φ ⟨a,b⟩=>by rw[a,b];simp[qq2]
def qaG(f g:Nat→Int):Nat→Int
 | 0=>0
 | n+1=>qaG f g n+f n*g n
theorem qet{x y:Int}(hx:0≤x∧x≤250)(hy:0≤y∧y≤250):0≤x*y∧x*y≤62500:=by
 obtain⟨a,rfl⟩:=zaL hx.1
 obtain⟨b,rfl⟩:=zaL hy.1
 have:=zbd (show a≤250 by omega) (show b≤250 by omega)
 have e:(a:Int)*b=((a*b:Nat):Int):=by simp
 rw[e];omega
theorem qio{f g:Nat→Int}:∀ {n:Nat},(∀ l,l<n→(0≤f l∧f l≤250)∧0≤g l∧g l≤250)→0≤qaG f g n∧qaG f g n≤62500*n
 | 0,_=>by simp[qaG]
 | n+1,h=>by
  have h1:=qio (n:=n) fun l hl=>h l (by omega)
  have h2:=qet (h n (by omega)).1 (h n (by omega)).2
  simp only[qaG];omega
theorem qaw{f g f' g':Nat→Int}:∀ {n:Nat},(∀ l,l<n→f l=f' l∧g l=g' l)→qaG f g n=qaG f' g' n
 | 0,_=>rfl
 | n+1,h=>by
  simp only[qaG]
  rw[qaw (n:=n) fun l hl=>h l (by omega),(h n (by omega)).1,(h n (by omega)).2]
def qar(f:Nat→Nat→Int)(C:Nat):Nat→List Int
 | 0=>[]
 | i+1=>qar f C i++(List.range C).map (f i)
theorem qas{f:Nat→Nat→Int}{C:Nat}:∀ {n:Nat},(qar f C n).length=n*C
 | 0=>by simp[qar]
 | n+1=>by rw[qar,zal,qas,zaR,zaU,zar];omega
theorem qaL{f g:Nat→Nat→Int}{C:Nat}:∀ {n:Nat},(∀ i j,i<n→j<C→f i j=g i j)→qar f C n=qar g C n
 | 0,_=>rfl
 | n+1,h=>by
  rw[qar,qar,qaL (n:=n) fun i j hi hj=>h i j (by omega) hj]
  congr 1
  exact zbu fun j hj=>h n j (by omega) (zaG.1 hj)
theorem qbX{f:Nat→Nat→Int}{C:Nat}:∀ {n i j:Nat},i<n→j<C→(qar f C n)[i*C+j]? = some (f i j)
 | 0,_,_,h,_=>by omega
 | n+1,i,j,h,hj=>by
  rw[qar]
  by_cases hi:i<n
  ·have:=qbX (f:=f) hi hj
   have hl:=(zak.1 this).1
   rw[zao hl];exact this
  ·obtain rfl:i=n:=by omega
   rw[zap (by rw[qas];omega),qas,zaQ]
   simp[hj]
theorem qlS{f:Nat→Nat→Int}{C n i:Nat}(hi:i<n):((qar f C n).take ((i+1)*C)).drop (i*C)=(List.range C).map (f i):=by
 apply zbF
 intro j
 rw[zaY,zbf]
 by_cases hj:j<C
 ·rw[if_pos (by rw[zar];omega),qbX hi hj];simp[hj]
 ·rw[if_neg (by rw[zar];omega)]
  rw[zaw (by simp;omega)]
theorem qa3(i K:Nat):(i:Int)*(K:Int)=((i*K:Nat):Int):=by simp
theorem qeU{i j R C:Nat}(hi:i<R)(hj:j<C):i*C+j<R*C:=by
 have:(i+1)*C≤R*C:=zaq _ hi
 rw[zar] at this;omega
theorem qcP{R C:Nat}(hR:R≤32)(hC:C≤32):R*C≤1024:=zbd hR hC
open Classical in
noncomputable def qaP(P:Nat→Prop):Nat→Nat→Option Nat
 | _,0=>none
 | a,d+1=>if P a then some a else qaP P (a+1) d
theorem qaz{P:Nat→Prop}:∀ {d a j:Nat},qaP P a d=some j→a≤j∧j<a+d∧P j
 | 0,a,j,h=>by simp[qaP] at h
 | d+1,a,j,h=>by
  rw[qaP] at h
  split at h
  ·rename_i hp
   obtain rfl:=zad h
   exact⟨zaf _,by omega,hp⟩
  ·have:=qaz h
   exact⟨by omega,by omega,this.2.2⟩
theorem qcA{P:Nat→Prop}:∀ {d a:Nat},qaP P a d=none→∀ j,a≤j→j<a+d→¬ P j
 | 0,a,h=>fun j h1 h2=>by omega
 | d+1,a,h=>fun j h1 h2=>by
  rw[qaP] at h
  split at h
  ·cases h
  ·rename_i hp
   by_cases e:j=a
   ·subst e;exact hp
   ·exact qcA h j (by omega) (by omega)
theorem qb3{P:Nat→Prop}{d a:Nat}(h:∃ j,a≤j∧j<a+d∧P j):∃ j,qaP P a d=some j:=by
 cases hf:qaP P a d with
 | some j=>exact⟨j,rfl⟩
 | none =>
  obtain⟨j,h1,h2,h3⟩:=h
  exact absurd h3 (qcA hf j h1 h2)
def orN(rs:Nat→Option Dv)(rn:Option Dv):Option Nat→Option Dv
 | some j=>rs j
 | none=>rn
theorem qce(l:Nat){L:(Nat→Nat)→Nat→Int→Option Dv}{len:Nat}(P:Nat→Prop)(rs:Nat→Option Dv)(rn:Option Dv)(hind:∀ φ n n' s,L (fup φ l n') n s=L φ n s)(a0:Nat)
  (hit:∀ k,a0≤k→k<len→P k→Ev fun φ=>L φ (φ l+1) (k:Int)=rs k)
  (go:∀ k q,a0≤k→k<len→¬ P k→(Ev fun φ=>L φ (φ l) ((k+1:Nat):Int)=q)→Ev fun φ=>L φ (φ l+1) (k:Int)=q)
  (fin:(∀ j,a0≤j→j<len→¬ P j)→Ev fun φ=>L φ (φ l+1) (len:Int)=rn):∀ d,a0+d=len→Ev fun φ=>L φ (φ l) (a0:Int)=orN rs rn (qaP P a0 d):=by
 have key:∀ d a,a0≤a→a+d=len→(∀ j,a0≤j→j<a→¬ P j)→Ev fun φ=>L φ (φ l) (a:Int)=orN rs rn (qaP P a d):=by
  intro d
  induction d with
  | zero =>
   intro a ha hk hn
   obtain rfl:a=len:=by omega
   exact Ev.round l (L:=fun φ n=>L φ n (a:Int)) (fin hn) (fun φ n n'=>hind φ n n' _)
  | succ d ih =>
   intro a ha hk hn
   refine Ev.round l (L:=fun φ n=>L φ n (a:Int)) ?_ (fun φ n n'=>hind φ n n' _)
   rw[qaP]
   split
   ·rename_i hp;exact hit a ha (by omega) hp
   ·rename_i hp
    exact go a _ ha (by omega) hp (ih (a+1) (by omega) (by omega) fun j h1 h2=>by
     by_cases e:j=a
     ·subst e;exact hp
     ·exact hn j h1 (by omega))
 exact fun d hd=>key d a0 (zaf _) hd fun j h1 h2=>by omega
theorem qrM{α:Type}(pre:List α)(z x:α)(n:Nat):(pre++List.replicate (n+1) z).set pre.length x=(pre++[x])++List.replicate n z:=by
 rw[List.set_append_right _ _ (zaf _),zbW,List.replicate_succ,List.set_cons_zero,zaF];rfl
end Ve
namespace Ve
open Go
theorem to_some{d:Dv}{t:Ty}{x:t.T}(h:d.to t=some x):d=⟨t,x⟩:=by
 obtain⟨t',x'⟩:=d
 simp only[Dv.to,cast?] at h
 split at h
 ·rename_i e
  subst e
  simp only[Option.some.injEq] at h
  rw[h]
 ·cases h
theorem qkz{P:Program}{f:FuncId}{u:Ty}{e:TypeId}{i0:TypeInfo}{z:Value}(hs:i0.size=u.size)(hzs:z.cells.size=u.size)(hu:0<u.size)(hb:i0.bytes≤64*u.size)(hb0:0<i0.bytes)
    (room:∀(base:Option Addr) (l c n:Nat) (w:World),l≤c→c≤9223372036854775807→n≤9223372036854775807→l+n≤c→Calls P f #[.slice base l c,.int .i64 n] w fun e w'=>e=.returned (.slice base l c)∧w'=w)
    (grow:∀(base:Option Addr) (l c n:Nat) (cs:List Value) (w:World),l≤c→c<l+n→(l+n)*i0.bytes≤140737488355328→l+n≤4611686018427387904 →
      cs.length=c*i0.size→(base=none→c=0)→(∀ a,base=some a→∀(j:Nat) v,cs[j]? = some v→w.cell? (a.add j)=some v) →
      Calls P f #[.slice base l c,.int .i64 n] w fun r w' =>
        r=.returned (.slice (some ⟨w.heap.size,0,none⟩) l (grownCap w (l+n) c e)) ∧
        w'=w.drew.alloc (.cells (cs.toArray++Builtin.zeroCells z.cells (l+n-c)++Builtin.zeroCells z.cells (grownCap w (l+n) c e-(l+n))) e))
    (R:Run) {args:List Dv} {dv:Dv} (h:qn0 u R args=some dv) :
    qds P ⟨[(false,1),(false,1)],[.take true,.imm],.cons (.sl u) .nil,[(false,1)],[.deep],[]⟩ f args dv:=by
  match args,h with
  | [d,g],h =>
    simp only[qn0,zab] at h
    obtain⟨xs,hx,n,hn,h⟩:=h
    obtain rfl:=to_some hx
    obtain rfl:=to_some hn
    split at h
    · rename_i hc
      obtain⟨h0,hbig⟩:=hc
      obtain rfl:=zad h
      clear h hx hn
      intro w S us FP hS hFP hdis hlen hpar
      match us,hlen with
      | [u0,u1],_ =>
        have hp0:qat S w (u.flat || true) u xs u0 (FP 0):=hpar 0 _ _ rfl rfl
        have hp1:[u1]=[Value.int .i64 n]:=hpar 1 _ _ rfl rfl
        obtain rfl:u1=Value.int .i64 n:=by simpa using hp1
        obtain⟨N,rfl⟩:=zaL h0
        rw[Bool.or_true] at hp0
        have hp0':=hp0
        obtain⟨A,c,rfl,⟨hlc,hcm⟩,hrow⟩:=hp0
        have hcm':c≤9223372036854775807:=by simp only[maxLen] at hcm;omega
        have hbig':(xs.length+N)*(64*u.size)≤70368744177664:=by
          have:(((xs.length+N)*(64*u.size):Nat):Int)≤70368744177664:=by simpa using hbig
          omega
        have hN:xs.length+N≤70368744177664:=zaP (Nat.le_mul_of_pos_right _ (by omega)) hbig'
        by_cases hroom:xs.length+N≤c
        · refine(room A xs.length c N w hlc hcm' (by omega) hroom).mono ?_
          rintro e w' ⟨rfl,rfl⟩
          refine⟨[.slice A xs.length c],S,fun k b=>k=0∧FP 0 b,fun _ _=>False,rfl,?_⟩
          refine { mS:=fun _ h=>h,sub:=fun _ h=>.inl h,szS:=hS,size:=zaf _,kin:=Kin.refl _,keep:=fun _ _ _=>rfl,gr:=?_,gp:=fun _ _ h=>h.elim,drr:=?_,dpp:=fun _ _ _ _ h=>h.elim,drp:=fun _ _ _ _ h=>h,len:=rfl,lenO:=zaf _,res:=?_,ios:=trivial }
          · rintro k b ⟨_,h⟩
            exact⟨(hFP 0 b h).2,(hFP 0 b h).1,.inr ⟨0,h⟩⟩
          · rintro j k b hjk ⟨rfl,_⟩ ⟨rfl,_⟩;exact hjk rfl
          · intro k d v hk hd hv
            obtain rfl:k=0:=by have hk:k<1:=hk;omega
            obtain rfl:(⟨.sl u,xs⟩:Dv)=d:=zad hd
            obtain rfl:Value.slice A xs.length c=v:=zad hv
            show qat S w' (u.flat || true) u xs _ _
            rw[Bool.or_true]
            exact qat.mono (fun _ h=>h) (fun _ _=>rfl) (fun _ h=>⟨rfl,h⟩) (fun _ _=>rfl) hp0'
        · have hgb:(xs.length+N)*i0.bytes≤140737488355328:=zaP (Nat.mul_le_mul_left _ hb) (by omega)
          have hold:∃ A':Option Addr,∃ cs:List Value,∃ Gl:Nat→qaf,(c=0∨A=A')∧cs.length=c*i0.size∧(A=none→c=0)∧(∀ a,A=some a→∀(j:Nat) v,cs[j]? = some v→w.cell? (a.add j)=some v) ∧
              (∀ i b,Gl i b→FP 0 b)∧(∀ i j b,i≠j→Gl i b→¬ Gl j b)∧∀(i:Nat) x,xs[i]? = some x→∃ us,El S w true u x us (Gl i)∧∀(j:Nat) v,us[j]? = some v→cs[i*u.size+j]? = some v:=by
            rcases hrow with h0 | ⟨b,arr,e',Gl,rfl,hFb,hh,hasz,hGo,hGod,hE⟩
            · subst h0
              have hx0:xs=[]:=zaW.1 (by omega)
              subst hx0
              exact⟨none,[],fun _ _=>False,.inl rfl,by simp,fun _=>rfl,fun _ _ j v h=>by simp at h,fun _ _ h=>h.elim,fun _ _ _ _ h=>h.elim,fun i x h=>by simp at h⟩
            · refine⟨_,arr.toList,Gl,.inr rfl,by rw[zbj,hasz,hs],fun h=>by simp at h,fun a ha j v hj=>?_,fun i b h=>(hGo i b h).1,hGod,fun i x hx=>?_⟩
              · obtain rfl:(⟨b,0,none⟩:Addr)=a:=by simpa using ha
                rw[Addr.add_lit]
                exact qeu (o:=0) (us:=arr.toList) hh (fun j u hu=>by simpa using hu) j v hj
              · obtain⟨us,h1,h2⟩:=hE i x hx
                exact⟨us,h1,fun j v hj=>by rw[zck];exact h2 j v hj⟩
          obtain⟨_,cs,Gl,_,hcl,hnil,hcs,hGF,hGd,hE⟩:=hold
          have hge:=grownCap_ge w (xs.length+N) c e
          have hcm2:=grownCap_le_maxLen w (xs.length+N) c e (by unfold maxLen;omega)
          have hcall:=grow A xs.length c N cs w hlc (by omega) hgb (by omega) hcl hnil hcs
          generalize grownCap w (xs.length+N) c e=nc at hcall hge hcm2
          refine hcall.mono ?_
          rintro r w' ⟨rfl,rfl⟩
          have hcsz:(cs.toArray++Builtin.zeroCells z.cells (xs.length+N-c)++Builtin.zeroCells z.cells (nc-(xs.length+N))).size=nc*u.size:=by
            simp only[Array.size_append,List.size_toArray,size_zeroCells,hzs,hcl,hs,← zar]
            congr 1;omega
          have hget:∀(j:Nat) v,cs[j]? = some v→(cs.toArray++Builtin.zeroCells z.cells (xs.length+N-c)++Builtin.zeroCells z.cells (nc-(xs.length+N)))[j]? = some v:=by
            intro j v hj
            have hjl:=(zak.1 hj).1
            rw[zbX (by simp;omega),zbX (by simpa using hjl)]
            simpa using hj
          generalize (cs.toArray++Builtin.zeroCells z.cells (xs.length+N-c)++Builtin.zeroCells z.cells (nc-(xs.length+N)))=cells at hcsz hget
          have hkeep:∀ b,b<w.heap.size→(w.drew.alloc (.cells cells e)).heap[b]? = w.heap[b]?:=fun b hb=>by show(w.heap.push _)[b]? = _;rw[Array.getElem?_push,if_neg (by omega)]
          have hsz:(w.drew.alloc (.cells cells e)).heap.size=w.heap.size+1:=by show(w.heap.push _).size=_;simp
          refine⟨[.slice (some ⟨w.heap.size,0,none⟩) xs.length nc],S,fun k b=>k=0∧(FP 0 b∨b=w.heap.size),fun _ _=>False,rfl,?_⟩
          refine { mS:=fun _ h=>h,sub:=fun _ h=>.inl h,szS:=fun b h=>by have:=hS b h;omega,size:=by omega,kin:=⟨rfl,rfl,rfl,Nat.le_succ _⟩,keep:=fun b hb _=>hkeep b hb,gr:=?_,gp:=fun _ _ h=>h.elim,drr:=?_,dpp:=fun _ _ _ _ h=>h.elim,drp:=fun _ _ _ _ h=>h,len:=rfl,lenO:=zaf _,res:=?_,ios:=trivial }
          · rintro k b ⟨_,h | rfl⟩
            · exact⟨(hFP 0 b h).2,by have:=(hFP 0 b h).1;omega,.inr ⟨0,h⟩⟩
            · exact⟨fun h=>by have:=hS _ h;omega,by omega,.inl (zaf _)⟩
          · rintro j k b hjk ⟨rfl,_⟩ ⟨rfl,_⟩;exact hjk rfl
          · intro k d v hk hd hv
            obtain rfl:k=0:=by have hk:k<1:=hk;omega
            obtain rfl:(⟨.sl u,xs⟩:Dv)=d:=zad hd
            obtain rfl:Value.slice (some ⟨w.heap.size,0,none⟩) xs.length nc=v:=zad hv
            show qat S _ (u.flat || true) u xs _ _
            rw[Bool.or_true]
            refine⟨_,nc,rfl,⟨by omega,hcm2⟩,.inr ⟨w.heap.size,cells,e,Gl,rfl,⟨rfl,.inr rfl⟩,heap_alloc_new w.drew _,hcsz,fun i b h=>⟨⟨rfl,.inl (hGF i b h)⟩,fun he=>by have:=(hFP 0 b (hGF i b h)).1;omega⟩,hGd,fun i x hx=>?_⟩⟩
            obtain⟨us,h1,h2⟩:=hE i x hx
            exact⟨us,h1.mono (fun _ h=>h) (fun b h=>hkeep b (hS b h)) (fun _ h=>h) (fun b h=>hkeep b (hFP 0 b (hGF i b h)).1),fun j v hj=>hget _ v (h2 j v hj)⟩
    · cases h
abbrev tI:Ty:=.int .i64
abbrev tL:Ty:=.sl (.int .i64)
abbrev tLL:Ty:=.sl (.sl (.int .i64))
abbrev oM:Ty:=.cons tI (.cons tL .nil)
end Ve
