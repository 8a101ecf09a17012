import Derived.Test.YtagdejckmpipbaaGreatDoorV0
import Derived.Laws.BytesString
import Derived.Lib.ConvBytes
set_option linter.unusedVariables false
set_option linter.unusedSimpArgs false
namespace Ve
open Go
section
variable {S S':qab} {w w':World} {g g':Nat→Value} {C:Ctx} {F F':Nat→qab} {st:St} {tm:Array Value} {P:Program} {ρ:Type}
theorem qji(hs:Sim C S g F st tm w){t:Ty}{y:t.T}{v:V}{Y:Value}(h:qrd st.ob t v=some y)(hok:v.ok=true)(hv:VR S w g v Y)(hS:∀ b,S b→S' b)
  (hL:∀ c∈v.cells,∀ s∈qdJ st.ob c,∀ o,qad st.ob s=some o→∀ b,F s b→S' b):Rp S' w t y Y.cells.toList:=by
 have hc:=hv.cells hok
 cases v with
 | c v0 =>
  have h':qf7 st.ob t v0=some y:=by cases t<;>exact h
  have e:Y.cells=#[Y]:=qfO (V0R.sc (v:=v0) hv hok).1
  rw[e]
  exact qck hs h' hv hS (hL v0 (by simp[V.cells]))
 | agg cs =>
  cases t with
  | st c=>exact qfY hs hS (c:=c) h hc hL
  | _=>cases h
 | tup vs=>simp[V.ok] at hok
theorem El.absorbE{t:Ty}{y:t.T}{v:V}{Y:Value}{d:Bool}{G:qab}(hv:VR S w g v Y)(hok:v.ok=true)(h:qrd st.ob t v=some y)
  (h1:∀ {c:Ty} {x:c.T} {us:List Value},qfP st.ob c v.cells=some x→Cs S w g v.cells us→El S' w d c x us G)
  (h2:∀ {t:Ty} {x:t.T} {v0:V0} {u:Value},v.cells=[v0]→qf7 st.ob t v0=some x→V0R S w g v0 u→El S' w d t x [u] G) :
  El S' w d t y Y.cells.toList G:=by
 have hc:=hv.cells hok
 cases v with
 | c v0 =>
  have h':qf7 st.ob t v0=some y:=by cases t<;>exact h
  have e:Y.cells=#[Y]:=qfO (V0R.sc (v:=v0) hv hok).1
  rw[e]
  exact h2 rfl h' hv
 | agg cs =>
  cases t with
  | st c =>
   have:=h1 (c:=c) (x:=y) h hc
   cases d<;>exact this
  | _=>cases h
 | tup vs=>simp[V.ok] at hok
theorem Sim.weakenTo(hs:Sim C S g F st tm w){s:Nat}{t:Ty}{xs:List t.T}{d fx:Bool}(ho:qad st.ob s=some (.arr t xs d false fx))(d2:Bool) :
  ∃ S',∃ Fs:qab,Sim C S' g (upd F s Fs) (st.setOb s (some (.arr t xs (d&&d2) false fx))) tm w∧(∀ b,S b→S' b)∧(∀ b,S' b→S b∨F s b)∧(∀ b,Fs b→F s b):=by
 have hob:qar S w d t xs (g s) (F s):=hs.ob s _ ho
 have same:(d&&d2)=d→∃ S',∃ Fs:qab,Sim C S' g (upd F s Fs) (st.setOb s (some (.arr t xs (d&&d2) false fx))) tm w∧(∀ b,S b→S' b)∧(∀ b,S' b→S b∨F s b)∧(∀ b,Fs b→F s b):=by
  intro e
  rw[e,St.setOb_same ho]
  exact⟨S,F s,by rw[qcv];exact hs,fun _ h=>h,fun _ h=>.inl h,fun _ h=>h⟩
 cases d with
 | false=>exact same rfl
 | true =>
  cases d2 with
  | true=>exact same rfl
  | false =>
   obtain⟨F',hF',hw⟩:=hob.weaken
   have ho':=hw (fun b=>S b∨(F s b∧¬ F' b)) (fun b h=>.inl h) (fun b h1 h2=>.inr ⟨h1,h2⟩)
   refine⟨fun b=>S b∨(F s b∧¬ F' b),F',hs.setS s _ _ F' ho rfl (fun b h=>.inl h) (fun b h=>h) hF' rfl (fun hx=>hs.fx s _ ho hx) ?_,fun b h=>.inl h,fun b h=>h.imp id (·.1),hF'⟩
   unfold ObR;simp only[qaj];exact ho'
theorem Sim.storeG(hs:Sim C S g F st tm w){s:Nat}{o o':Obj}(ho:qad st.ob s=some o)(hof:o.frozen=false){b:Nat}(hb:F s b)(cs:Array Value)(G:qab)
  (hG:∀ b,G b→¬ S b∧C.O b∧b<w.heap.size∧∀ s' p,qad st.ob s'=some p→p.frozen=false→¬ F s' b)
  (hf:o'.frozen=false) (hx:o'.fixed=o.fixed) (hob:ObR S (w.setRow b cs) g (upd F s fun b=>F s b∨G b) s o') :
  Sim C S g (upd F s fun b=>F s b∨G b) (st.setOb s (some o')) tm (w.setRow b cs):=by
 have hp:=hs.prv s o ho hof
 have hne:∀ b',S b'→b'≠b:=fun b' h' e=>(hp b hb).1 (e ▸ h')
 have hsz:(w.setRow b cs).heap.size=w.heap.size:=size_setRow w b cs
 refine hs.set s o o' (fun b=>F s b∨G b) (w':=w.setRow b cs) ho (by rw[hsz];exact Nat.le_refl _) (fun b' h'=>setRow_other w b b' cs (hne b' h'))
  (fun s' p hn hp' b' h'=>setRow_other w b b' cs fun e=>?_)
  (fun b' _ hO=>setRow_other w b b' cs fun e=>hO (e ▸ (hp b hb).2)) hf (fun h'=>hs.fx s o ho (hx ▸ h')) hob ?_ ?_
 ·subst e
  cases hpf:p.frozen with
  | true=>exact hne _ (hs.frz s' p hp' hpf _ h') rfl
  | false=>exact hs.dis s' s p o hn hp' ho hpf hof _ h' hb
 ·rintro b' (h' | h')
  ·exact⟨(hp b' h').1,(hp b' h').2,by rw[hsz];exact hs.szF s o ho b' h'⟩
  ·exact⟨(hG b' h').1,(hG b' h').2.1,by rw[hsz];exact(hG b' h').2.2.1⟩
 ·rintro s' p hn hp' hpf b' (h' | h') h''
  ·exact hs.dis s' s p o hn hp' ho hpf hof b' h'' h'
  ·exact(hG b' h').2.2.2 s' p hp' hpf h''
theorem qar.block{d:Bool}{t:Ty}{xs:List t.T}{b n c:Nat}{Fs:qab}(h:qar S w d t xs (.slice (some ⟨b,0,none⟩) n c) Fs){i:Nat}(hi:i<n) :
  ∃ arr e,Fs b∧w.heap[b]? = some (.cells arr e (0,0))∧arr.size=c*t.size∧n=xs.length∧n≤c:=by
 obtain⟨A,c',hv,hc,h⟩:=h
 obtain⟨rfl,rfl,rfl⟩:some ⟨b,0,none⟩=A∧n=xs.length∧c=c':=by simpa using hv
 rcases h with h | ⟨b',arr,e,G,hA,hb,hh,hsz,_⟩
 ·omega
 ·obtain rfl:b=b':=by simpa using hA
  exact⟨arr,e,hb,hh,hsz,rfl,hc.1⟩
theorem cast?_some{t u:Ty}{x:t.T}{y:u.T}(h:cast? t u x=some y):∃ e:t=u,y=e ▸ x:=by
 unfold cast? at h
 by_cases e:t=u
 ·simp only[e,dif_pos] at h
  exact⟨e,(Option.some.inj h).symm⟩
 ·simp[e] at h
theorem qff.fill{t:Ty}{xs:List t.T}{n c:Nat}{Fs Gx:qab}{b:Nat}{arr:Array Value}{e:TypeId}{i:Nat}{y:t.T}{us:List Value}{cs:Array Value}
  (h:qff w t xs i (.slice (some ⟨b,0,none⟩) n c) Fs) (hh:w.heap[b]? = some (.cells arr e (0,0))) (hin:i<n)
  (hcs:cs.toList=putCells arr.toList (i*t.size) us) (hy:DRp w t y us Gx) (hG:∀ b',Gx b'→b'≠b∧¬ Fs b') :
  qar S (w.setRow b cs) true t (xs.set i y) (.slice (some ⟨b,0,none⟩) n c) (fun b'=>Fs b'∨Gx b'):=by
 obtain⟨b',c',arr',e',G,hv,hc,hb,hh',hsz,hGG,hd,he⟩:=h
 obtain⟨rfl,rfl,rfl⟩:b=b'∧n=xs.length∧c=c':=by simpa using hv
 have hul:=hy.len
 rw[hh] at hh'
 obtain⟨rfl,rfl⟩:arr=arr'∧e=e':=by simpa using hh'
 have hfit:i*t.size+us.length≤arr.toList.length:=by
  rw[hul]
  have:(i+1)*t.size≤c*t.size:=Nat.mul_le_mul_right _ (by omega)
  rw[Nat.add_mul] at this
  simp only[Array.length_toList,hsz];omega
 have hget:∀ j:Nat,cs[j]? = if i*t.size≤j∧j<i*t.size+us.length then us[j-i*t.size]? else arr[j]?:=by
  intro j
  have:=qc3 (j:=j) hfit
  rw[← hcs] at this
  simpa using this
 refine⟨_,c,by rw[List.length_set],by rw[List.length_set];exact hc,.inr ⟨b,cs,e,fun j=>if j=i then Gx else fun b'=>j≠i∧G j b',rfl,.inl hb,setRow_heap w b arr cs e _ hh,?_,?_,?_,?_⟩⟩
 ·have:=congrArg List.length hcs
  simp only[Array.length_toList,putCells,List.length_append,List.length_take,List.length_drop] at this
  simp only[Array.length_toList] at hfit
  omega
 ·intro j b' hj
  by_cases hji:j=i
  ·simp only[hji,if_true] at hj;exact⟨.inr hj,(hG b' hj).1⟩
  ·simp only[hji,if_false] at hj;exact⟨.inl (hGG j b' hj.2).1,(hGG j b' hj.2).2⟩
 ·intro j k b' hjk hj hk
  by_cases hji:j=i
  ·simp only[hji,if_true] at hj
   have hki:k≠i:=fun e=>hjk (hji.trans e.symm)
   simp only[hki,if_false] at hk
   exact(hG b' hj).2 (hGG k b' hk.2).1
  ·simp only[hji,if_false] at hj
   by_cases hki:k=i
   ·simp only[hki,if_true] at hk;exact(hG b' hk).2 (hGG j b' hj.2).1
   ·simp only[hki,if_false] at hk;exact hd j k b' hjk hj.2 hk.2
 ·intro j x hx
  by_cases hji:j=i
  ·subst hji
   rw[List.getElem?_set_self (by omega)] at hx
   obtain rfl:=Option.some.inj hx
   refine⟨us,?_,fun q u hq=>?_⟩
   ·simp only[if_true]
    exact DRp.mono t _ us (fun _ h=>h) (fun b' h'=>setRow_other w b b' cs (hG b' h').1) hy
   ·have hql:=(List.getElem?_eq_some_iff.1 hq).1
    rw[hget,if_pos (by omega)]
    rw[Nat.add_sub_cancel_left];exact hq
  ·rw[List.getElem?_set_ne (Ne.symm hji)] at hx
   obtain⟨us',h1,h2⟩:=he j x hji hx
   refine⟨us',?_,fun q u hq=>?_⟩
   ·simp only[hji,if_false]
    exact DRp.mono t _ us' (fun _ h=>⟨hji,h⟩) (fun b' h'=>setRow_other w b b' cs (hGG j b' h').2) h1
   ·have hql:=(List.getElem?_eq_some_iff.1 hq).1
    rw[h1.len] at hql
    rw[hget,hul,if_neg (qpk hql hji)]
    exact h2 q u hq
theorem qho{o:Oper}{t:TypeId}{x y:Operand}{s i:Nat}{vy:V}{a:Act}{K:V→St→Option ρ}{r:ρ}(hs:Sim C S g F st a.tmps w)(ho:o.op=.store t x y)
  (hx:VR S w g (.c (.elt s i 0 1)) (a.eval x)) (hy:VR S w g vy (a.eval y)) (h:qiy P t s i vy st (fun st=>K .undef st)=some r)
  {M:List Nat} (hM1:s∈M) (hM2:∀ c∈vy.cells,∀ s'∈c.site,s'∈M):qb2 P o a C S g F st w K r M:=by
 unfold qiy at h
 split at h
 ·rename_i u xs j hob
  split at h
  ·rename_i d
   split at h
   ·rename_i u' ys hod
    obtain⟨ys',hys,h⟩:=Option.bind_eq_some_iff.1 h
    obtain⟨e1,rfl⟩:=cast?_some hys
    cases e1
    split at h
    ·rename_i hP
     obtain⟨hij,hK⟩:=qaQ h
     clear h
     obtain rfl:i=j:=by simpa using hij
     have hsd:d≠s:=fun e=>by subst e;rw[hob] at hod;cases hod
     have hdM:d∈M:=hM2 (.arr d) (by simp[V.cells]) d (by simp[V0.site])
     have hhol:qff w (.sl u) xs i (g s) (F s):=hs.ob s _ hob
     have hown:qar S w true u ys (g d) (F d):=hs.ob d _ hod
     obtain⟨b,n,c,hg,hin,hX⟩:=hx
     obtain⟨hYg,A,n2,c2,hY⟩:=hy
     have hhol':=hhol
     rw[hg] at hhol'
     obtain⟨b',c',arr,e,G,hv,hc,hF,hh,hasz,_⟩:=hhol
     rw[hg] at hv
     obtain⟨rfl,rfl,rfl⟩:b=b'∧n=xs.length∧c=c':=by simpa using hv
     have hcl:(a.eval y).cells.toList=[g d]:=by rw[hY] at hYg ⊢;rw[← hYg];rfl
     have hasz':arr.size=c:=by rw[hasz];simp[Ty.size]
     have hone:(g d).oneCell'=true:=by rw[← hYg,hY];rfl
     have hX':a.eval x=.pointer (some ⟨b,i*(Ty.sl u).size,none⟩):=by rw[hX];simp[Ty.size]
     have hrun:=qc4 (P:=P) (t:=t) (X:=a.eval y) (d:=.bool) (.inl (by rw[hP];exact Nat.one_ne_zero)) hh (by rw[hcl,hP];rfl) (off:=i*(Ty.sl u).size) (by rw[hP];simp only[Ty.size];omega) (by rw[hcl];intro v hv;rw[List.mem_singleton] at hv;subst hv;exact hone)
     have hexec:∀ w2,(storeVar t ⟨b,i*(Ty.sl u).size,none⟩ (a.eval y)).run P w=.ok () w2→(execOp a.eval o).run P w=.ok .skip w2:=by
      intro w2 h2
      simp only[execOp,ho,hX',Instr.storeAt,Instr.sureAddr,Sem.run_bind,Sem.run_pure,Result.andThen_ok,h2]
     have hput:(arr.toList.take (i*(Ty.sl u).size)++(a.eval y).cells.toList++arr.toList.drop (i*(Ty.sl u).size+P.cellsOf t)).toArray.toList=putCells arr.toList (i*(Ty.sl u).size) [g d]:=by
      unfold putCells;rw[hcl,hP];rfl
     generalize (arr.toList.take (i*(Ty.sl u).size)++(a.eval y).cells.toList++arr.toList.drop (i*(Ty.sl u).size+P.cellsOf t)).toArray=cs at hrun hput
     have hps:=hs.prv s _ hob rfl
     have hpd:=hs.prv d _ hod rfl
     have hdis:∀ b',F d b'→¬ F s b':=hs.dis d s _ _ hsd hod hob rfl rfl
     have hset:=hhol'.fill (S:=S) hh hin hput (qjA.2 hown) fun b' hb'=>⟨fun e=>hdis b' hb' (e ▸ hF),hdis b' hb'⟩
     have hdrop:=(hs.drop d).1
     have hob2:qad (st.dropOb d).ob s=some (.hol (.sl u) xs i false):=by
      unfold St.dropOb
      rw[St.setOb,qam _ _ hsd.symm]
      unfold St.kill
      rw[qek,hob]
      rfl
     have hback:∀ s' p,qad (st.dropOb d).ob s'=some p→p.frozen=false→s'≠d∧∃ p',qad st.ob s'=some p'∧p'.frozen=false:=by
      intro s' p hp hpf
      by_cases hss:s'=d
      ·subst hss
       unfold St.dropOb at hp
       have:=qaC hp
       cases this
      ·unfold St.dropOb at hp
       rw[St.setOb,qam _ _ hss] at hp
       obtain⟨o'',h1,rfl⟩:=qaZ hp
       rw[Obj.frozen_kill] at hpf
       exact⟨hss,o'',h1,hpf⟩
     have hfin:=hdrop.storeG (o':=.arr (.sl u) (xs.set i ys) true false false) hob2 rfl (b:=b) hF cs (F d)
      (fun b' hb'=>⟨(hpd b' hb').1,(hpd b' hb').2,hs.szF d _ hod b' hb',fun s' p hp hpf hb2=>by
       obtain⟨hne,p',hp',hpf'⟩:=hback s' p hp hpf
       exact hs.dis d s' _ p' hne.symm hod hp' rfl hpf' b' hb' hb2⟩) rfl rfl (by
      unfold ObR;simp only[qaj];rw[hg];exact hset)
     refine qb2.skip ⟨.undef,_,S,g,_,_,hexec _ hrun,hfin,rfl,hK,fun _ h=>h,fun b' hb' hk=>setRow_other w b b' cs fun e=>hk s hM1 _ hob (e ▸ hF),fun b' h'=>setRow_other w b b' cs fun e=>(hps b hF).1 (e ▸ h'),fun s' p hp hpf b' hb'=>?_,by rw[size_setRow];exact Nat.le_refl _⟩
     by_cases hss:s'=s
     ·subst hss
      rw[qaj] at hb'
      rcases hb' with hb' | hb'
      ·exact .inr (.inl ⟨_,hob,rfl,hb'⟩)
      ·exact .inr (.inr ⟨d,hdM,_,hod,hb'⟩)
     ·rw[qav _ _ hss] at hb'
      rw[St.setOb,qam _ _ hss] at hp
      obtain⟨_,p',hp',hpf'⟩:=hback s' p hp hpf
      exact .inr (.inl ⟨p',hp',hpf',hb'⟩)
    ·cases h
   ·cases h
  ·cases h
 ·cases h
theorem qdB{v:Ty}{xs:List v.T}{u:Value}{N:qab}(hN:DRp w (.sl v) xs [u] N):∀(t:Ty) {y y':t.T} {us:List Value} {G:qab},
  qcQ ⟨.sl v,xs⟩ t y=some y'→DRp w t y us G→(∀ b,N b→¬ G b)→∃ us0 ul,us=us0++[ul]∧DRp w t y' (us0++[u]) (fun b=>G b∨N b)
 | .st c,y,y',us,G,h,hd,hx=>qdB hN c (y:=y) (y':=y') h hd hx
 | .cons a .nil,y,y',us,G,h,hd,hx=>by
  simp only[qcQ,Option.map_eq_some_iff] at h
  obtain⟨x,hx2,rfl⟩:=h
  have ha:=cast?_some hx2
  obtain⟨e,rfl⟩:=ha
  have e:(.sl v:Ty)=a:=e
  subst e
  obtain⟨us1,ws,F1,F2,rfl,h1,h2,h3,h4,h5⟩:=hd
  have h5:ws=[]:=h5
  subst h5
  obtain⟨A,c,hv,_⟩:=h4
  refine⟨[],.slice A (List.length y.1) c,by rw[hv];rfl,[u],[],N,fun _=>False,rfl,fun b h=>.inr h,fun b h=>h.elim,fun b _ h=>h,hN,rfl⟩
 | .cons a (.cons b c),y,y',us,G,h,hd,hx=>by
  simp only[qcQ,Option.map_eq_some_iff] at h
  obtain⟨z,hz,rfl⟩:=h
  obtain⟨us1,ws,F1,F2,rfl,h1,h2,h3,h4,h5⟩:=hd
  obtain⟨ws0,ul,rfl,h6⟩:=qdB hN (.cons b c) hz h5 fun b hb hF=>hx b hb (h2 b hF)
  refine⟨us1++ws0,ul,by simp,us1,ws0++[u],F1,fun b=>F2 b∨N b,by simp,fun b h=>.inl (h1 b h),fun b h=>h.imp (h2 b) id,fun b hF h=>h.elim (h3 b hF) fun hn=>hx b hn (h1 b hF),h4,h6⟩
 | .int _,_,_,_,_,h,_,_=>by cases h
 | .bool,_,_,_,_,h,_,_=>by cases h
 | .str,_,_,_,_,h,_,_=>by cases h
 | .sl _,_,_,_,_,h,_,_=>by cases h
 | .ptr _,_,_,_,_,h,_,_=>by cases h
 | .fn _ _,_,_,_,_,h,_,_=>by cases h
 | .lab _,_,_,_,_,h,_,_=>by cases h
 | .cons _ (.lab _),_,_,_,_,h,_,_=>by cases h
 | .nil,_,_,_,_,h,_,_=>by cases h
 | .cons _ (.int _),_,_,_,_,h,_,_=>by cases h
 | .cons _ .bool,_,_,_,_,h,_,_=>by cases h
 | .cons _ .str,_,_,_,_,h,_,_=>by cases h
 | .cons _ (.sl _),_,_,_,_,h,_,_=>by cases h
 | .cons _ (.ptr _),_,_,_,_,h,_,_=>by cases h
 | .cons _ (.fn _ _),_,_,_,_,h,_,_=>by cases h
 | .cons _ (.st _),_,_,_,_,h,_,_=>by cases h
theorem qev{w:World}:∀(t:Ty) (y:t.T) (us:List Value) (G:qab),DRp w t y us G→∀ {v:Ty} {ys:List v.T},qja t y=some ⟨.sl v,ys⟩ →
  ∃ ws u,∃ G0 GL:qab,us=ws++[u]∧(∀ b,G0 b→G b)∧(∀ b,GL b→G b)∧(∀ b,G0 b→¬ GL b)∧DRp w (.sl v) ys [u] GL∧qio w t y ws G0
 | .st c,y,us,G,h,v,ys,hl=>by
  obtain⟨ws,u,G0,GL,h1,h2,h3,h4,h5,h6⟩:=qev c y us G h (v:=v) (ys:=ys) hl
  exact⟨ws,u,G0,GL,h1,h2,h3,h4,h5,fun w' v ys y' u N k1 k2 k3 k4=>h6 w' v ys y' u N k1 k2 k3 k4⟩
 | .cons a .nil,y,us,G,h,v,ys,hl=>by
  simp only[qja,Option.some.injEq,Dv.mk.injEq] at hl
  obtain⟨rfl,hy⟩:=hl
  obtain rfl:=eq_of_heq hy
  obtain⟨us1,ws,F1,F2,rfl,h1,h2,h3,h4,h5⟩:=h
  have h5:ws=[]:=h5
  subst h5
  have h4':=h4
  obtain⟨A,c,hv,_⟩:=h4'
  refine⟨[],.slice A y.1.length c,fun _=>False,F1,by rw[hv];rfl,fun _ h=>h.elim,h1,fun _ h=>h.elim,by rw[← hv];exact h4,?_⟩
  intro w' v' ys' y' u N k1 k2 k3 k4
  simp only[qcQ,Option.map_eq_some_iff] at k3
  obtain⟨z,hz,rfl⟩:=k3
  obtain⟨e1,rfl⟩:=cast?_some hz
  have e1:(.sl v':Ty)=.sl v:=e1
  cases e1
  exact⟨[u],[],N,fun _=>False,rfl,fun b h=>.inr h,fun b h=>h.elim,fun b _ h=>h,k4,rfl⟩
 | .cons a (.cons b c),y,us,G,h,v,ys,hl=>by
  obtain⟨us1,ws,F1,F2,rfl,h1,h2,h3,h4,h5⟩:=h
  obtain⟨ws0,u,G0,GL,rfl,g2,g3,g4,g5,g6⟩:=qev (.cons b c) y.2 ws F2 h5 (v:=v) (ys:=ys) hl
  refine⟨us1++ws0,u,fun b=>F1 b∨G0 b,GL,by simp,fun b h=>h.elim (h1 b) fun h=>h2 b (g2 b h),fun b h=>h2 b (g3 b h),fun b h h'=>h.elim (fun h=>h3 b h (g3 b h')) fun h=>g4 b h h',g5,?_⟩
  intro w' v' ys' y' u' N k1 k2 k3 k4
  simp only[qcQ,Option.map_eq_some_iff] at k3
  obtain⟨z,hz,rfl⟩:=k3
  have:=g6 w' v' ys' z u' N (fun b hb=>k1 b (.inr hb)) (fun b hb h=>k2 b hb (.inr h)) hz k4
  refine⟨us1,ws0++[u'],F1,fun b=>G0 b∨N b,by simp,fun b h=>.inl (.inl h),fun b h=>h.elim (fun h=>.inl (.inr h)) .inr,fun b h h'=>h'.elim (fun h'=>h3 b h (g2 b h')) fun h'=>k2 b h' (.inl h),DRp.mono a y.1 us1 (fun _ h=>h) (fun b hb=>k1 b (.inl hb)) h4,this⟩
 | .int _,_,_,_,_,_,_,h=>by cases h
 | .bool,_,_,_,_,_,_,h=>by cases h
 | .str,_,_,_,_,_,_,h=>by cases h
 | .sl _,_,_,_,_,_,_,h=>by cases h
 | .ptr _,_,_,_,_,_,_,h=>by cases h
 | .fn _ _,_,_,_,_,_,_,h=>by cases h
 | .lab _,_,_,_,_,_,_,h=>by cases h
 | .nil,_,_,_,_,_,_,h=>by cases h
 | .cons _ (.int _),_,_,_,_,_,_,h=>by cases h
 | .cons _ .bool,_,_,_,_,_,_,h=>by cases h
 | .cons _ .str,_,_,_,_,_,_,h=>by cases h
 | .cons _ (.sl _),_,_,_,_,_,_,h=>by cases h
 | .cons _ (.ptr _),_,_,_,_,_,_,h=>by cases h
 | .cons _ (.fn _ _),_,_,_,_,_,_,h=>by cases h
 | .cons _ (.st _),_,_,_,_,_,_,h=>by cases h
 | .cons _ (.lab _),_,_,_,_,_,_,h=>by cases h
theorem qar.putLast{u v:Ty}{xs:List u.T}{ys:List v.T}{n c:Nat}{Fs N:qab}{b:Nat}{arr:Array Value}{e:TypeId}{i:Nat}{y y':u.T}{X:Value}{cs:Array Value}
  (h:qar S w true u xs (.slice (some ⟨b,0,none⟩) n c) Fs) (hh:w.heap[b]? = some (.cells arr e (0,0))) (hin:i<n) (hy:xs[i]? = some y) (hset:qcQ ⟨.sl v,ys⟩ u y=some y')
  (hX:DRp w (.sl v) ys [X] N) (hN:∀ b',N b'→b'≠b∧¬ Fs b') (hp:0<u.size) (hsz:cs.size=arr.size) (hcs:∀ j:Nat,cs[j]? = if j=i*u.size+(u.size-1) then some X else arr[j]?) :
  qar S (w.setRow b cs) true u (xs.set i y') (.slice (some ⟨b,0,none⟩) n c) (fun b'=>Fs b'∨N b'):=by
 obtain⟨A,c',hv,hc,hrow⟩:=h
 obtain⟨rfl,rfl,rfl⟩:some ⟨b,0,none⟩=A∧n=xs.length∧c=c':=by simpa using hv
 rcases hrow with hc0 | ⟨b2,arr2,e2,G,hb2,hFb,hh2,hasz,hG,hGd,hE⟩
 ·omega
 ·obtain rfl:b=b2:=by simpa using hb2
  rw[hh] at hh2
  obtain⟨rfl,rfl⟩:arr=arr2∧e=e2:=by simpa using hh2
  obtain⟨us,hd,hcell⟩:=hE i y hy
  have hd:DRp w u y us (G i):=hd
  obtain⟨us0,ul,rfl,hd2⟩:=qdB hX u hset hd fun b' hb' hg=>(hN b' hb').2 (hG i b' hg).1
  have hlen:=hd.len
  rw[List.length_append,List.length_singleton] at hlen
  refine⟨_,c,by rw[List.length_set],by rw[List.length_set];exact hc,.inr ⟨b,cs,e,fun j=>if j=i then fun b'=>G i b'∨N b' else G j,rfl,.inl hFb,setRow_heap w b arr cs e _ hh,by rw[hsz,hasz],?_,?_,?_⟩⟩
  ·intro j b' hj
   by_cases hji:j=i
   ·simp only[hji,if_true] at hj
    rcases hj with hj | hj
    ·exact⟨.inl (hG i b' hj).1,(hG i b' hj).2⟩
    ·exact⟨.inr hj,(hN b' hj).1⟩
   ·simp only[hji,if_false] at hj;exact⟨.inl (hG j b' hj).1,(hG j b' hj).2⟩
  ·intro j k b' hjk hj hk
   by_cases hji:j=i
   ·have hki:k≠i:=fun e=>hjk (hji.trans e.symm)
    simp only[hji,if_true] at hj
    simp only[hki,if_false] at hk
    rcases hj with hj | hj
    ·exact hGd i k b' (fun e=>hki e.symm) hj hk
    ·exact(hN b' hj).2 (hG k b' hk).1
   ·simp only[hji,if_false] at hj
    by_cases hki:k=i
    ·simp only[hki,if_true] at hk
     rcases hk with hk | hk
     ·exact hGd j i b' hji hj hk
     ·exact(hN b' hk).2 (hG j b' hj).1
    ·simp only[hki,if_false] at hk;exact hGd j k b' hjk hj hk
  ·intro j x hx
   by_cases hji:j=i
   ·subst hji
    rw[List.getElem?_set_self (by omega)] at hx
    obtain rfl:=Option.some.inj hx
    refine⟨us0++[X],?_,fun q t hq=>?_⟩
    ·simp only[if_true]
     refine DRp.mono u _ (us0++[X]) (fun _ h=>h) (fun b' h'=>setRow_other w b b' cs ?_) hd2
     rcases h' with h' | h'
     ·exact(hG j b' h').2
     ·exact(hN b' h').1
    ·rw[hcs]
     by_cases hq2:q<us0.length
     ·rw[List.getElem?_append_left hq2] at hq
      rw[if_neg (by omega)]
      exact hcell q t (by rw[List.getElem?_append_left hq2];exact hq)
     ·rw[List.getElem?_append_right (by omega)] at hq
      have hq0:q-us0.length=0:=Classical.byContradiction fun hn=>by
       rw[List.getElem?_eq_none (by simp;omega)] at hq;cases hq
      rw[hq0] at hq
      obtain rfl:X=t:=Option.some.inj hq
      rw[if_pos (by omega)]
   ·rw[List.getElem?_set_ne (Ne.symm hji)] at hx
    obtain⟨us',h1,h2⟩:=hE j x hx
    have h1:DRp w u x us' (G j):=h1
    refine⟨us',?_,fun q t hq=>?_⟩
    ·simp only[hji,if_false]
     exact DRp.mono u _ us' (fun _ h=>h) (fun b' h'=>setRow_other w b b' cs (hG j b' h').2) h1
    ·have hql:=(List.getElem?_eq_some_iff.1 hq).1
     rw[h1.len] at hql
     have hne:j*u.size+q≠i*u.size+(u.size-1):=by
      intro e
      rcases Nat.lt_or_gt_of_ne hji with hlt | hlt
      ·have:(j+1)*u.size≤i*u.size:=Nat.mul_le_mul_right _ hlt
       rw[Nat.add_mul] at this;omega
      ·have:(i+1)*u.size≤j*u.size:=Nat.mul_le_mul_right _ hlt
       rw[Nat.add_mul] at this;omega
     rw[hcs,if_neg hne]
     exact h2 q t hq
theorem qf8{o:Oper}{t:TypeId}{x y:Operand}{s i off sz:Nat}{v0:V0}{a:Act}{K:V→St→Option ρ}{r:ρ}(hs:Sim C S g F st a.tmps w)(ho:o.op=.store t x y)
  (hx:VR S w g (.c (.elt s i off sz)) (a.eval x)) (hy:VR S w g (.c v0) (a.eval y)) (h:qe6 st s i off sz (P.cellsOf t) v0 (fun st=>K .undef st)=some r)
  {M:List Nat} (hM1:s∈M) (hM2:∀ s'∈v0.site,s'∈M):qb2 P o a C S g F st w K r M:=by
 unfold qe6 at h
 obtain⟨S1,G,hs1,hSS,hob1,hG,hE1,hE2⟩:=qen hs [v0]
 split at h
 ·rename_i st1 habs
  rw[habs] at hs1 hob1 hG hE2
  simp only at hs1 hob1 hG hE2
  split at h
  ·rename_i u xs fx ho1
   split at h
   ·rename_i tt hlt
    split at h
    ·rename_i hc
     obtain⟨hn1,hoff,hsz,hsc⟩:=hc
     obtain⟨ys,hys,h⟩:=Option.bind_eq_some_iff.1 h
     obtain⟨ye,hye,h⟩:=Option.bind_eq_some_iff.1 h
     obtain⟨y',hset,h⟩:=Option.bind_eq_some_iff.1 h
     have hy:V0R S w g v0 (a.eval y):=hy
     have hX:DRp w (.sl tt) ys [a.eval y] G:=hE2 rfl hys hy
     obtain⟨b,n,c,hg,hin,hXp⟩:=hx
     have hown1:qar S1 w true u xs (g s) (F s):=hs1.ob s _ ho1
     rw[hg] at hown1
     obtain⟨arr,e,hF,hh,hasz,hnx,hnc⟩:=hown1.block hin
     have hup:0<u.size:=by omega
     have hfit:i*u.size+u.size≤arr.size:=by
      have:(i+1)*u.size≤c*u.size:=Nat.mul_le_mul_right _ (by omega)
      rw[Nat.add_mul] at this
      omega
     have hcell:(a.eval y).cells=#[a.eval y]:=qfO (V0R.sc (v:=v0) hy hsc).1
     have hone:∀ q∈(a.eval y).cells.toList,q.oneCell'=true:=by
      rw[hcell];intro q hq
      obtain rfl:q=a.eval y:=by simpa using hq
      obtain⟨n1,n2⟩:=V0R.sc (v:=v0) hy hsc
      cases hv:a.eval y<;>first | rfl | exact absurd hv (n1 _) | exact absurd hv (n2 _)
     have hX':a.eval x=.pointer (some ⟨b,i*u.size+off,none⟩):=by rw[hXp,hsz]
     have hrun:=qc4 (P:=P) (t:=t) (X:=a.eval y) (d:=.bool) (.inl (by omega)) hh (by rw[hcell,hn1];rfl) (off:=i*u.size+off) (by omega) hone
     have hexec:∀ w2,(storeVar t ⟨b,i*u.size+off,none⟩ (a.eval y)).run P w=.ok () w2→(execOp a.eval o).run P w=.ok .skip w2:=by
      intro w2 h2
      simp only[execOp,ho,hX',Instr.storeAt,Instr.sureAddr,Sem.run_bind,Sem.run_pure,Result.andThen_ok,h2]
     obtain⟨cs,hcs⟩:∃ cs,cs=(arr.toList.take (i*u.size+off)++(a.eval y).cells.toList++arr.toList.drop (i*u.size+off+P.cellsOf t)).toArray:=⟨_,rfl⟩
     rw[← hcs] at hrun
     have hcsz:cs.size=arr.size:=by rw[hcs,hcell,hn1];simp;omega
     have hcsg:∀ j:Nat,cs[j]? = if j=i*u.size+(u.size-1) then some (a.eval y) else arr[j]?:=by
      intro j
      have ho2:i*u.size+(u.size-1)=i*u.size+off:=by omega
      rw[ho2,hcs,hcell,hn1]
      have hl:(arr.toList.take (i*u.size+off)).length=i*u.size+off:=by simp;omega
      simp only[List.getElem?_toArray,List.append_assoc]
      by_cases h1:j<i*u.size+off
      ·rw[if_neg (by omega),List.getElem?_append_left (by omega),List.getElem?_take_of_lt h1,Array.getElem?_toList]
      ·rw[List.getElem?_append_right (by omega),hl]
       by_cases h2:j=i*u.size+off
       ·rw[if_pos h2,h2,Nat.sub_self];rfl
       ·rw[if_neg h2,List.getElem?_append_right (by simp;omega),List.getElem?_drop,Array.getElem?_toList]
        congr 1
        simp;omega
     have hpr:=hs1.prv s _ ho1 rfl
     have hGF:∀ b',G b'→¬ F s b':=fun b' h'=>(hG b' h').2.2.2.1 s _ ho1 rfl
     have hfin0:=hown1.putLast hh hin hye hset hX (fun b' h'=>⟨fun e=>hGF b' h' (e ▸ hF),hGF b' h'⟩) hup hcsz hcsg
     have hfin:=hs1.storeG (o':=.arr u (xs.set i y') true false fx) ho1 rfl (b:=b) hF cs G (fun b' h'=>⟨(hG b' h').1,(hG b' h').2.1,(hG b' h').2.2.1,fun s' p hp hpf=>(hG b' h').2.2.2.1 s' p hp hpf⟩) rfl rfl (by
      unfold ObR;simp only[qaj];rw[hg];exact hfin0)
     obtain⟨os,hos,hosf⟩:=hob1 s _ ho1
     refine qb2.skip ⟨.undef,_,S1,g,_,_,hexec _ hrun,hfin,rfl,h,hSS,fun b' hb' hk=>setRow_other w b b' cs fun e=>hk s hM1 _ hos (e ▸ hF),fun b' h'=>setRow_other w b b' cs fun e=>(hpr b hF).1 (e ▸ hSS b' h'),fun s' p hp hpf b' hb'=>?_,by rw[size_setRow];exact Nat.le_refl _⟩
     by_cases hss:s'=s
     ·subst hss
      rw[qaj] at hb'
      rcases hb' with hb' | hb'
      ·exact .inr (.inl ⟨_,hos,hosf rfl,hb'⟩)
      ·obtain⟨v,hv,s2,hs2',o2,ho2,hF2⟩:=(hG b' hb').2.2.2.2
       rw[List.mem_singleton] at hv
       subst hv
       exact .inr (.inr ⟨s2,hM2 s2 hs2',o2,ho2,hF2⟩)
     ·rw[qav _ _ hss] at hb'
      rw[St.setOb,qam _ _ hss] at hp
      obtain⟨p',hp',hpf'⟩:=hob1 s' p hp
      exact .inr (.inl ⟨p',hp',hpf' hpf,hb'⟩)
    ·cases h
   ·cases h
  ·cases h
 ·cases h
theorem qmr{o:Oper}{t:TypeId}{x y:Operand}{s i off sz:Nat}{vy:V}{a:Act}{K:V→St→Option ρ}{r:ρ}(hs:Sim C S g F st a.tmps w)(ho:o.op=.store t x y)
    (hx:VR S w g (.c (.elt s i off sz)) (a.eval x)) (hy:VR S w g vy (a.eval y)) (h:qiq P t (.c (.elt s i off sz)) vy st (fun st=>K .undef st)=some r)
    {M:List Nat} (hM1:s∈M) (hM2:∀ c∈vy.cells,∀ s'∈c.site,s'∈M):qb2 P o a C S g F st w K r M:=by
  unfold qiq at h
  simp only at h
  split at h
  · rename_i u xs d fx hob
    split at h
    · rename_i hc
      obtain⟨h0,hl,rfl,hun,hsn,hok,hsc⟩:=hc
      obtain⟨y',hfrz,h⟩:=Option.bind_eq_some_iff.1 h
      obtain⟨b,n,c,hg,hin,hX⟩:=hx
      have hown:qar S w d u xs (g s) (F s):=hs.ob s _ hob
      have hown':=hown
      rw[hg] at hown'
      obtain⟨arr,e,hF,hh,hasz,hnx,hnc⟩:=hown'.block hin
      have hcy:=hy.cells hok
      have hlen:=hcy.len
      have hul:(a.eval y).cells.toList.length=u.size:=by rw[hlen,hl,hun]
      have hfit:i*u.size+u.size≤arr.size:=by
        have:(i+1)*u.size≤c*u.size:=Nat.mul_le_mul_right _ (by omega)
        rw[Nat.add_mul] at this
        omega
      have hX':a.eval x=.pointer (some ⟨b,i*u.size,none⟩):=by rw[hX,hsn,hun];rfl
      have hrun:=qc4 (P:=P) (t:=t) (X:=a.eval y) (d:=.bool) (.inl h0) hh (by rw[hlen,hl]) (off:=i*u.size) (by omega) (hcy.oneCells hsc)
      have hexec:∀ w2,(storeVar t ⟨b,i*u.size,none⟩ (a.eval y)).run P w=.ok () w2→(execOp a.eval o).run P w=.ok .skip w2:=by
        intro w2 h2
        simp only[execOp,ho,hX',Instr.storeAt,Instr.sureAddr,Sem.run_bind,Sem.run_pure,Result.andThen_ok,h2]
      have hput:(arr.toList.take (i*u.size)++(a.eval y).cells.toList++arr.toList.drop (i*u.size+P.cellsOf t)).toArray.toList=putCells arr.toList (i*u.size) (a.eval y).cells.toList:=by
        unfold putCells;rw[hul,hun]
      generalize (arr.toList.take (i*u.size)++(a.eval y).cells.toList++arr.toList.drop (i*u.size+P.cellsOf t)).toArray=cs at hrun hput
      have hpr:=hs.prv s _ hob rfl
      cases hfl:u.flat with
      | true =>
        rw[hfl,cond_true] at h
        have hy1:=qji hs (S':=fun _=>True) hfrz hok hy (fun _ _=>trivial) (fun _ _ _ _ _ _ _ _=>trivial)
        have hy2:El S w d u y' (a.eval y).cells.toList (fun _=>False):=El.flat (d:=false) (S:=fun _=>True) (w:=w) (G:=fun _=>False) hfl hy1
        have hset:=hown'.setElem hh hin hput hy2 (fun b' h' e=>(hpr b hF).1 (e ▸ h')) (fun _ h=>h.elim)
        obtain⟨h1,h2⟩:=hs.store (o':=.arr u (xs.set i y') d false fx) hob rfl hF cs rfl rfl (by
          unfold ObR;simp only;rw[hg]
          exact hset.mono (fun _ h=>h) (fun _ _=>rfl) (fun b' h'=>h'.elim id False.elim) fun _ _=>rfl)
        exact qb2.skip ⟨.undef,_,S,g,F,_,hexec _ hrun,h1,rfl,h,h2.weaken fun s' hs'=>by simp at hs';subst hs';exact hM1⟩
      | false =>
        rw[hfl,cond_false] at h
        obtain⟨S1,G,hs1,hSS,hob1,hG,hE1,hE2⟩:=qen hs vy.cells
        have hEl:=El.absorbE hy hok hfrz hE1 hE2
        generalize qbS st vy.cells=r1 at *
        split at h
        · rename_i u1 xs1 d1 fx1 ho1
          obtain⟨xs2,hx2,h⟩:=Option.bind_eq_some_iff.1 h
          obtain⟨e1,rfl⟩:=cast?_some hx2
          cases e1
          have hown1:qar S1 w d1 u xs1 (g s) (F s):=hs1.ob s _ ho1
          obtain⟨S2,Fs,hs2,hS2,hS2',hFs⟩:=hs1.weakenTo ho1 r1.1
          have hGF:∀ b',G b'→¬ F s b':=fun b' h'=>(hG b' h').2.2.2.1 s _ ho1 rfl
          have hGS:∀ b',G b'→¬ S2 b':=fun b' h' h''=>(hS2' b' h'').elim (hG b' h').1 (hGF b' h')
          have hun2:∀ s' p,qad (r1.2.setOb s (some (.arr u xs1 (d1&&r1.1) false fx1))).ob s'=some p→p.frozen=false→∀ b',upd F s Fs s' b'→F s' b'∧∃ p',qad r1.2.ob s'=some p'∧p'.frozen=false:=by
            intro s' p hp hpf b' hb'
            by_cases hss:s'=s
            · subst hss;rw[qaj] at hb';exact⟨hFs b' hb',_,ho1,rfl⟩
            · rw[qav _ _ hss] at hb'
              rw[St.setOb,qam _ _ hss] at hp
              exact⟨hb',p,hp,hpf⟩
          have key:∃ S3,∃ G3:qab,Sim C S3 g (upd F s Fs) (r1.2.setOb s (some (.arr u xs1 (d1&&r1.1) false fx1))) a.tmps w∧(∀ b,S b→S3 b) ∧
              El S3 w (d1&&r1.1) u y' (a.eval y).cells.toList G3∧(∀ b,G3 b→G b)∧(∀ b,G3 b→¬ S3 b):=by
            cases hd:d1&&r1.1 with
            | true =>
              obtain⟨rfl,hr1⟩:d1=true∧r1.1=true:=by simpa using hd
              rw[hr1] at hEl
              rw[hd] at hs2
              exact⟨S2,G,hs2,fun b h=>hS2 b (hSS b h),hEl,fun _ h=>h,hGS⟩
            | false =>
              rw[hd] at hs2
              have hun2':=hun2
              rw[hd] at hun2'
              refine⟨fun b=>S2 b∨G b,fun _=>False,hs2.extS (fun _ h=>.inl h) ?_ ?_ ?_,fun b h=>.inl (hS2 b (hSS b h)),?_,fun _ h=>h.elim,fun _ h=>h.elim⟩
              · rintro b' (h' | h')
                · exact hs2.szS b' h'
                · exact(hG b' h').2.2.1
              · rintro b' (h' | h')
                · exact hs2.SO b' h'
                · exact .inr (hG b' h').2.1
              · rintro s' p hp hpf b' hb' (h' | h')
                · exact(hs2.prv s' p hp hpf b' hb').1 h'
                · obtain⟨hb2,p',hp2,hpf2⟩:=hun2' s' p hp hpf b' hb'
                  exact(hG b' h').2.2.2.1 s' p' hp2 hpf2 hb2
              · exact(hEl.mono (S':=fun b=>S2 b∨G b) (fun b h=>.inl (hS2 b h)) (fun _ _=>rfl) (fun _ h=>h) fun _ _=>rfl).freeze fun b h=>.inr h
          obtain⟨S3,G3,hs3,hS3,hEl3,hG3,hG3S⟩:=key
          have ho3:qad (r1.2.setOb s (some (.arr u xs1 (d1&&r1.1) false fx1))).ob s=some (.arr u xs1 (d1&&r1.1) false fx1):=by
            have:=qcn ho1
            have hlt:=(List.getElem?_eq_some_iff.1 this).1
            unfold St.setOb qad
            rw[List.getD_eq_getElem?_getD,List.getElem?_set_self hlt]
            rfl
          have hown3:qar S3 w (d1&&r1.1) u xs1 (g s) (Fs):=by
            have:=hs3.ob s _ ho3
            unfold ObR at this;simp only[qaj] at this;exact this
          rw[hg] at hown3
          obtain⟨arr3,e3,hF3,hh3,_⟩:=hown3.block hin
          have hpr3:=hs3.prv s _ ho3 rfl
          rw[qaj] at hpr3
          have hset:=hown3.setElem hh hin hput hEl3 (fun b' h' e=>(hpr3 b hF3).1 (e ▸ h')) (fun b' h'=>⟨fun e=>hGF b' (hG3 b' h') (e ▸ hFs b hF3),fun h''=>hGF b' (hG3 b' h') (hFs b' h'')⟩)
          have hfin:=hs3.storeG (o':=.arr u (xs1.set i y') (d1&&r1.1) false fx1) ho3 rfl (b:=b) (by rw[qaj];exact hF3) cs G3
            (fun b' h'=>⟨hG3S b' h',(hG b' (hG3 b' h')).2.1,(hG b' (hG3 b' h')).2.2.1,fun s' p hp hpf hb'=>by
              obtain⟨hb2,p',hp2,hpf2⟩:=hun2 s' p hp hpf b' hb'
              exact(hG b' (hG3 b' h')).2.2.2.1 s' p' hp2 hpf2 hb2⟩) rfl rfl (by
            unfold ObR;simp only[qaj];rw[hg];exact hset)
          have hst:(r1.2.setOb s (some (.arr u xs1 (d1&&r1.1) false fx1))).setOb s (some (.arr u (xs1.set i y') (d1&&r1.1) false fx1))=r1.2.setOb s (some (.arr u (xs1.set i y') (d1&&r1.1) false fx1)):=by
            unfold St.setOb;simp
          rw[hst] at hfin
          refine qb2.skip ⟨.undef,_,S3,g,_,_,hexec _ hrun,hfin,rfl,h,hS3,fun b' hb' hk=>setRow_other w b b' cs fun e=>hk s hM1 _ hob (e ▸ hF),fun b' h'=>setRow_other w b b' cs fun e=>(hpr b hF).1 (e ▸ h'),fun s' p hp hpf b' hb'=>?_,by rw[size_setRow];exact Nat.le_refl _⟩
          by_cases hss:s'=s
          · subst hss
            rw[qaj,qaj] at hb'
            rcases hb' with hb' | hb'
            · exact .inr (.inl ⟨_,hob,rfl,hFs b' hb'⟩)
            · obtain⟨v,hv,s2,hs2',o2,ho2,hF2⟩:=(hG b' (hG3 b' hb')).2.2.2.2
              exact .inr (.inr ⟨s2,hM2 v hv s2 hs2',o2,ho2,hF2⟩)
          · rw[qav _ _ hss,qav _ _ hss] at hb'
            rw[St.setOb,qam _ _ hss] at hp
            obtain⟨p',hp',hpf'⟩:=hob1 s' p hp
            exact .inr (.inl ⟨p',hp',hpf' hpf,hb'⟩)
        · cases h
    · split at h
      · split at h
        · exact qf8 hs ho hx hy h hM1 fun s' hs'=>hM2 _ List.mem_cons_self s' hs'
        · cases h
      · cases h
  · split at h
    · rename_i hc
      obtain⟨rfl,rfl⟩:=hc
      exact qho hs ho hx hy h hM1 hM2
    · cases h
  · cases h
end
end Ve
namespace Ve
open Go
section
variable {S S':qab} {w w':World} {g g':Nat→Value} {C:Ctx} {F F':Nat→qab} {st:St} {tm:Array Value} {P:Program} {ρ:Type}
theorem qhJ{ob:List (Option Obj)}{t:Ty}:∀ {vs:List V} {xs:List t.T},qoS ob t vs=some xs→xs.length=vs.length∧∀(i:Nat) x,xs[i]? = some x→∃ v,vs[i]? = some v∧qrd ob t v=some x
  | [],xs,h=>by obtain rfl:=Option.some.inj h;exact⟨rfl,fun i x hx=>by simp at hx⟩
  | v::vs,xs,h=>by
      unfold qoS at h
      obtain⟨x,hx,h⟩:=Option.bind_eq_some_iff.1 h
      obtain⟨xs',hxs,rfl⟩:=Option.map_eq_some_iff.1 h
      obtain⟨h1,h2⟩:=qhJ hxs
      refine⟨by simp[h1],fun i y hy=>?_⟩
      cases i with
      | zero=>simp at hy;subst hy;exact⟨v,rfl,hx⟩
      | succ i=>simp at hy;simpa using h2 i y hy
theorem qfc.get:∀ {vs:List V} {us:List Value},qfc S w g vs us→us.length=vs.length∧∀(i:Nat) v,vs[i]? = some v→∃ u,us[i]? = some u∧VR S w g v u
  | [],us,h=>by cases h;exact⟨rfl,fun i v hv=>by simp at hv⟩
  | v::vs,us,⟨u,us',he,h1,h2⟩=>by
      subst he
      obtain⟨h3,h4⟩:=qfc.get h2
      refine⟨by simp[h3],fun i y hy=>?_⟩
      cases i with
      | zero=>simp at hy;subst hy;exact⟨u,rfl,h1⟩
      | succ i=>simp at hy;simpa using h4 i y hy
theorem qd4{ob:List (Option Obj)}:∀ {a b:List V0} {l:List Nat},qaP ob (a++b)=some l →
    ∃ la lb,qaP ob a=some la∧qaP ob b=some lb∧l=la++lb∧∀ s∈la,s∉lb
  | [],b,l,h=>⟨[],l,rfl,h,rfl,fun s hs=>by cases hs⟩
  | v::a,b,l,h=>by
      rw[List.cons_append] at h
      unfold qaP at h
      obtain⟨l1,e1,h⟩:=Option.bind_eq_some_iff.1 h
      obtain⟨l2,e2,h⟩:=Option.bind_eq_some_iff.1 h
      split at h
      · rename_i hd
        obtain rfl:=Option.some.inj h
        obtain⟨la,lb,h1,h2,rfl,h4⟩:=qd4 e2
        have hd':∀ s∈l1,s∉la++lb:=fun s hs=>by
          have:=List.all_eq_true.1 hd s hs
          simpa using this
        refine⟨l1++la,lb,?_,h2,by simp,fun s hs=>?_⟩
        · unfold qaP
          rw[e1,Option.bind_some,h1,Option.bind_some,if_pos]
          refine List.all_eq_true.2 fun s hs=>?_
          have:=hd' s hs
          simp at this
          simpa using this.1
        · rcases List.mem_append.1 hs with hs | hs
          · have:=hd' s hs
            simp at this
            exact this.2
          · exact h4 s hs
      · cases h
theorem qeG{ob:List (Option Obj)}:∀ {vs:List V} {l:List Nat},qaP ob (vs.flatMap V.cells)=some l →
    ∃ L:Nat→List Nat,(∀(i:Nat) v,vs[i]? = some v→qaP ob v.cells=some (L i))∧(∀ i s,s∈L i→s∈l)∧∀ i j s,i≠j→s∈L i→s∉L j
  | [],l,h=>⟨fun _=>[],by simp,by simp,by simp⟩
  | v::vs,l,h=>by
      rw[List.flatMap_cons] at h
      obtain⟨la,lb,h1,h2,rfl,h4⟩:=qd4 h
      obtain⟨L,h5,h6,h7⟩:=qeG h2
      refine⟨fun i=>match i with | 0=>la | i+1=>L i,fun i v' hv=>?_,fun i s hs=>?_,fun i j s hij hs=>?_⟩
      · cases i with
        | zero=>simp at hv;subst hv;exact h1
        | succ i=>simp at hv;exact h5 i v' hv
      · cases i with
        | zero=>exact List.mem_append.2 (.inl hs)
        | succ i=>exact List.mem_append.2 (.inr (h6 i s hs))
      · cases i with
        | zero =>
          cases j with
          | zero=>exact absurd rfl hij
          | succ j=>exact fun hj=>h4 s hs (h6 j s hj)
        | succ i =>
          cases j with
          | zero=>exact fun hj=>h4 s hj (h6 i s hs)
          | succ j=>exact h7 i j s (fun e=>hij (by rw[e])) hs
theorem qfN{ob:List (Option Obj)}:∀ {vs:List V0} {l:List Nat},qaP ob vs=some l→∀ s∈l,∃ v∈vs,s∈v.site
  | [],l,h=>by obtain rfl:=Option.some.inj h;intro s hs;cases hs
  | v::vs,l,h=>by
      unfold qaP at h
      obtain⟨l1,e1,h⟩:=Option.bind_eq_some_iff.1 h
      obtain⟨l2,e2,h⟩:=Option.bind_eq_some_iff.1 h
      split at h
      · obtain rfl:=Option.some.inj h
        intro s hs
        rcases List.mem_append.1 hs with hs | hs
        · refine⟨v,by simp,?_⟩
          unfold qe8 at e1
          split at e1
          · split at e1
            · obtain rfl:=Option.some.inj e1;exact hs
            · cases e1
          · obtain rfl:=Option.some.inj e1;cases hs
          · split at e1
            · obtain rfl:=Option.some.inj e1;cases hs
            · cases e1
          · cases e1
        · obtain⟨v',hv',h3⟩:=qfN e2 s hs
          exact⟨v',by simp[hv'],h3⟩
      · cases h
theorem qth(hs:Sim C S g F st tm w){t:Ty}{y:t.T}{v:V}{Y:Value}{l:List Nat}(hv:VR S w g v Y)(hok:v.ok=true)(ho:qaP st.ob v.cells=some l)(h:qrd st.ob t v=some y) :
  DRp w t y Y.cells.toList (Un F l):=by
 refine El.absorbE (d:=true) (S':=S) (G:=Un F l) hv hok h (fun hf hc=>qs0 hs ho hf hc) (fun hc hf hv=>?_)
 rw[hc] at ho
 unfold qaP at ho
 obtain⟨l1,e1,ho⟩:=Option.bind_eq_some_iff.1 ho
 simp only[qaP,Option.bind_some] at ho
 split at ho
 ·obtain rfl:=Option.some.inj ho
  rw[List.append_nil]
  exact qs1 hs e1 hf hv
 ·cases ho
theorem qkg(hs:Sim C S g F st tm w){vs:List V}{Ys:List Value}{u:Ty}{xs:List u.T}(hR:qfc S w g vs Ys)(hok:∀ v∈vs,v.ok=true)(hf:qoS st.ob u vs=some xs) :
  ∃ S',∃ G:Nat→qab,Sim C S' g F (qbS st (vs.flatMap V.cells)).2 tm w∧(∀ b,S b→S' b) ∧
   (∀ s o,qad (qbS st (vs.flatMap V.cells)).2.ob s=some o→∃ o',qad st.ob s=some o'∧(o.frozen=false→o'.frozen=false)) ∧
   (∀ i b,G i b→¬ S' b∧C.O b∧b<w.heap.size∧(∀ s o,qad (qbS st (vs.flatMap V.cells)).2.ob s=some o→o.frozen=false→¬ F s b) ∧
    ∃ v∈vs.flatMap V.cells,∃ s∈v.site,∃ o,qad st.ob s=some o∧F s b) ∧
   (∀ i j b,i≠j→G i b→¬ G j b) ∧
   ∀(i:Nat) x,xs[i]? = some x→∃ Y,Ys[i]? = some Y∧El S' w (qbS st (vs.flatMap V.cells)).1 u x Y.cells.toList (G i):=by
 have key:∀(i:Nat) x,xs[i]? = some x→∃ v Y,vs[i]? = some v∧qrd st.ob u v=some x∧Ys[i]? = some Y∧VR S w g v Y∧v.ok=true:=by
  intro i x hx
  obtain⟨v,hv,hfv⟩:=(qhJ hf).2 i x hx
  obtain⟨Y,hY,hr⟩:=hR.get.2 i v hv
  exact⟨v,Y,hv,hfv,hY,hr,hok v (List.mem_of_getElem? hv)⟩
 unfold qbS
 cases ho:qaP st.ob (vs.flatMap V.cells) with
 | some l =>
  simp only
  obtain⟨h1,h2⟩:=Sim.drops l hs
  obtain⟨L,hL1,hL2,hL3⟩:=qeG ho
  refine⟨S,fun i=>Un F (L i),h1,fun _ h=>h,fun s o h=>?_,fun i b hb=>?_,fun i j b hij hi hj=>?_,fun i x hx=>?_⟩
  ·obtain⟨_,o',h3,h4⟩:=h2 s o h
   exact⟨o',h3,fun h5=>h4.trans h5⟩
  ·obtain⟨s,hsl,hF⟩:=hb
   have hsl':=hL2 i s hsl
   obtain⟨t,zs,hl⟩:=qbO ho s hsl'
   have hp:=hs.prv s _ hl rfl b hF
   refine⟨hp.1,hp.2,hs.szF s _ hl b hF,fun s' o h3 hfr hF'=>?_,?_⟩
   ·obtain⟨hn,o',h4,h5⟩:=h2 s' o h3
    have hne:s≠s':=fun e=>hn (e ▸ hsl')
    exact hs.dis s s' _ _ hne hl h4 rfl (h5.trans hfr) b hF hF'
   ·obtain⟨v,hv,hsv⟩:=qfN ho s hsl'
    exact⟨v,hv,s,hsv,_,hl,hF⟩
  ·obtain⟨s,hsl,hF⟩:=hi
   obtain⟨s',hsl',hF'⟩:=hj
   obtain⟨t,zs,hl⟩:=qbO ho s (hL2 i s hsl)
   obtain⟨t',zs',hl'⟩:=qbO ho s' (hL2 j s' hsl')
   have hne:s≠s':=fun e=>hL3 i j s hij hsl (e ▸ hsl')
   exact hs.dis s s' _ _ hne hl hl' rfl rfl b hF hF'
  ·obtain⟨v,Y,hv,hfv,hY,hr,hk⟩:=key i x hx
   exact⟨Y,hY,qth hs hr hk (hL1 i v hv) hfv⟩
 | none =>
  simp only
  obtain⟨S',h1,h2,h3⟩:=hs.freezes (vs.flatMap V.cells)
  refine⟨S',fun _ _=>False,h1,h2.mS,fun s o h=>?_,fun i b hb=>hb.elim,fun _ _ _ _ h=>h.elim,fun i x hx=>?_⟩
  ·have hf:Frz st.ob ((vs.flatMap V.cells).foldl freeze st.ob):=Frz.foldl (Frz.freezeN 3) _ st.ob
   rcases hf s with e | ⟨o1,e1,e2⟩
   ·exact⟨o,e ▸ h,fun h=>h⟩
   ·refine⟨o1,e1,fun hfr=>?_⟩
    rw[h] at e2
    obtain rfl:=Option.some.inj e2
    rw[Obj.freeze_frozen] at hfr;cases hfr
  ·obtain⟨v,Y,hv,hfv,hY,hr,hk⟩:=key i x hx
   exact⟨Y,hY,qji hs hfv hk hr h2.mS fun c hc=>h3 c (List.mem_flatMap.2 ⟨v,List.mem_of_getElem? hv,hc⟩)⟩
theorem Sim.newG(h:Sim C S g F st tm w)(s:Nat)(o:Obj)(v:Value)(Fs:qab)(hsz:w.heap.size≤w'.heap.size)
  (hb:∀ b,b<w.heap.size→(∀ o',qad st.ob s=some o'→o'.frozen=false→¬ F s b)→w'.heap[b]? = w.heap[b]?)
  (hf:o.frozen=false) (hx:o.fixed=false) (hob:ObR S w' (upd g s v) (upd F s Fs) s o)
  (hFs:∀ b,Fs b→(w.heap.size≤b∧b<w'.heap.size)∨(¬ S b∧C.O b∧b<w.heap.size∧∀ s' p,s'≠s→qad st.ob s'=some p→p.frozen=false→¬ F s' b)) (hkin:Kin w w':=by first | exact⟨rfl,rfl,rfl,Nat.le_refl _⟩ | exact⟨rfl,rfl,rfl,Nat.le_succ _⟩) :
  Sim C S (upd g s v) (upd F s Fs) ((st.kill s).setOb s (some o)) tm w':=by
 have hS:∀ b,S b→w'.heap[b]? = w.heap[b]?:=fun b h'=>hb b (h.szS b h') fun o' ho' hf' hF=>(h.prv s o' ho' hf' b hF).1 h'
 refine h.new s (some o) v Fs hsz hS (fun s' o' hne ho' b hF=>?_) (fun b hlt hO=>?_) ?_ hkin
 ·cases hq:o'.frozen with
  | true=>exact hS b (h.frz s' o' ho' hq b hF)
  | false=>exact hb b (h.szF s' o' ho' b hF) fun o2 ho2 hf2 hF2=>h.dis s' s o' o2 hne ho' ho2 hq hf2 b hF hF2
 ·exact hb b (Nat.lt_of_lt_of_le hlt h.mono) fun o' ho' hf' hF=>hO (h.prv s o' ho' hf' b hF).2
 ·intro o' he
  obtain rfl:=Option.some.inj he
  refine⟨hf,hx,hob,fun b hF=>?_,fun s' o'' hne ho'' hfr b hF hF'=>?_⟩
  ·rcases hFs b hF with ⟨h1,h2⟩ | ⟨h1,h2,h3,_⟩
   ·exact⟨fun hS'=>absurd (h.szS b hS') (by omega),C.base b (Nat.le_trans h.mono h1),h2⟩
   ·exact⟨h1,h2,Nat.lt_of_lt_of_le h3 hsz⟩
  ·rcases hFs b hF with ⟨h1,h2⟩ | ⟨_,_,_,h4⟩
   ·exact absurd (h.szF s' o'' ho'' b hF') (by omega)
   ·exact h4 s' o'' hne ho'' hfr hF'
theorem qeR{fr:List V}{ty:TypeId}{el:Operand→Value}(hev:∀ x v,opd P fr ty x=some v→VR S w g v (el x)) :
    ∀ {parts:List (Nat×Operand)} {n:Nat} {vs:List V},qct P fr ty parts n=some vs→qfc S w g vs (parts.map fun p=>el p.2)∧(∀ v∈vs,v.ok=true)∧vs.length=parts.length
  | [],n,vs,h=>by obtain rfl:=Option.some.inj h;exact⟨rfl,by simp,rfl⟩
  | (i,x)::parts,n,vs,h=>by
      unfold qct at h
      split at h
      · obtain⟨v,hv,h⟩:=Option.bind_eq_some_iff.1 h
        split at h
        · cases h
        · rename_i hok
          obtain⟨vs',hvs,rfl⟩:=Option.map_eq_some_iff.1 h
          obtain⟨h1,h2,h3⟩:=qeR hev hvs
          refine⟨⟨_,_,rfl,hev x v hv,h1⟩,fun v' hv'=>?_,by simp[h3]⟩
          rcases List.mem_cons.1 hv' with rfl | hv'
          · simpa using hok
          · exact h2 v' hv'
      · cases h
theorem qjh{fr:List V}{ty:TypeId}{el:Operand→Value}{m:Nat}:∀ {parts:List (Nat×Operand)} {n:Nat} {vs:List V} {don tail:List Value},qct P fr ty parts n=some vs →
    don.length=n*m→tail.length=parts.length*m→(∀ p∈parts,(el p.2).cells.size=m) →
    Instr.fill (fun i=>some (i*m,m)) (don++tail).toArray (parts.map fun p=>(p.1,el p.2))=some (don++parts.flatMap fun p=>(el p.2).cells.toList).toArray
  | [],n,vs,don,tail,h,hd,ht,hc=>by
      have:tail=[]:=List.eq_nil_of_length_eq_zero (by simpa using ht)
      subst this
      simp[Instr.fill]
  | (i,x)::parts,n,vs,don,tail,h,hd,ht,hc=>by
      unfold qct at h
      split at h
      · rename_i hin
        subst hin
        obtain⟨v,hv,h⟩:=Option.bind_eq_some_iff.1 h
        split at h
        · cases h
        · obtain⟨vs',hvs,rfl⟩:=Option.map_eq_some_iff.1 h
          have hx:(el x).cells.size=m:=hc (i,x) (by simp)
          have ht':tail.length=parts.length*m+m:=by rw[ht,List.length_cons,Nat.add_mul,Nat.one_mul]
          rw[List.map_cons,qlD (n:=m) (off:=i*m) rfl hx (by simp;omega)]
          have e1:(don++tail).toArray.toList.take (i*m)=don:=by
            simp only[List.take_append_of_le_length (Nat.le_of_eq hd.symm)]
            rw[← hd];exact List.take_length
          have e2:(don++tail).toArray.toList.drop (i*m+m)=tail.drop m:=by
            rw[← hd]
            simp only[List.drop_append]
            simp
          rw[e1,e2]
          have:=qjh (m:=m) (don:=don++(el x).cells.toList) (tail:=tail.drop m) hvs (by simp[hd,hx,Nat.add_mul]) (by simp[ht']) (fun p hp=>hc p (by simp[hp]))
          rw[this]
          simp
      · cases h
theorem qm3{α:Type}{m:Nat}{f:α→List Value}:∀ {l:List α} (_:∀ p∈l,(f p).length=m) {i:Nat} {p:α},l[i]? = some p→∀ j u,(f p)[j]? = some u→(l.flatMap f)[i*m+j]? = some u
  | [],_,i,p,h,j,u,hu=>by simp at h
  | q::l,hl,0,p,h,j,u,hu=>by
      simp at h;subst h
      rw[List.flatMap_cons,List.getElem?_append_left (by have:=(List.getElem?_eq_some_iff.1 hu).1;omega)]
      simpa using hu
  | q::l,hl,i+1,p,h,j,u,hu=>by
      simp at h
      have hq:=hl q (by simp)
      rw[List.flatMap_cons,List.getElem?_append_right (by rw[hq,Nat.add_mul];omega),hq,Nat.add_mul,Nat.one_mul,show i*m+m+j-m=i*m+j by omega]
      exact qm3 (fun p hp=>hl p (by simp[hp])) h j u hu
theorem V.unlab_sound{v:V}{u:Value}(h:VR S w g v u)(ho:v.ok=true):VR S w g v.unlab u∧v.unlab.ok=true∧∀ c∈v.unlab.cells,∀ s∈c.site,∃ c'∈v.cells,s∈c'.site:=by
 cases v with
 | c v0 =>
  cases v0 with
  | d t x =>
   cases t with
   | lab t =>
    by_cases ht:t.sc=true
    ·have e:V.unlab (.c (.d (.lab t) x))=.c (.d t x.2):=by simp[V.unlab,V0.unlab,ht]
     rw[e]
     exact⟨h.2,ht,fun c hc s hs=>by simp[V.cells] at hc;subst hc;cases hs⟩
    ·have e:V.unlab (.c (.d (.lab t) x))=.c (.d (.lab t) x):=by simp[V.unlab,V0.unlab,ht]
     rw[e]
     exact⟨h,ho,fun c hc s hs=>⟨c,hc,hs⟩⟩
   | _=>exact⟨h,ho,fun c hc s hs=>⟨c,hc,hs⟩⟩
  | _=>exact⟨h,ho,fun c hc s hs=>⟨c,hc,hs⟩⟩
 | _=>exact⟨h,ho,fun c hc s hs=>⟨c,hc,hs⟩⟩
theorem qla{M:List Nat}{len:Nat}(lb:Bool):∀ {vs:List V} {Ys:List Value},qfc S w g vs Ys→(∀ v∈vs,v.ok=true)→vs.length=len→(∀ c∈vs.flatMap V.cells,∀ s'∈c.site,s'∈M) →
  qfc S w g (bif lb then vs else vs.map V.unlab) Ys∧(∀ v∈(bif lb then vs else vs.map V.unlab),v.ok=true)∧(bif lb then vs else vs.map V.unlab).length=len∧∀ c∈(bif lb then vs else vs.map V.unlab).flatMap V.cells,∀ s'∈c.site,s'∈M:=by
 cases lb with
 | true=>exact fun h1 h2 h3 h4=>⟨h1,h2,h3,h4⟩
 | false =>
  simp only[cond_false]
  intro vs
  induction vs generalizing len with
  | nil=>exact fun h1 h2 h3 h4=>⟨h1,h2,h3,h4⟩
  | cons v vs ih =>
   rintro Ys ⟨Y,Ys',rfl,h1,h1'⟩ h2 h3 h4
   obtain⟨a1,a2,a3⟩:=V.unlab_sound h1 (h2 v List.mem_cons_self)
   obtain⟨b1,b2,b3,b4⟩:=ih (len:=vs.length) h1' (fun v hv=>h2 v (List.mem_cons_of_mem _ hv)) rfl fun c hc=>h4 c (by simp only[List.flatMap_cons,List.mem_append];exact .inr hc)
   refine⟨⟨Y,Ys',rfl,a1,b1⟩,fun x hx=>?_,by simpa using h3,fun c hc s hs=>?_⟩
   ·rcases List.mem_cons.1 hx with rfl | hx
    ·exact a2
    ·exact b2 x hx
   ·simp only[List.map_cons,List.flatMap_cons,List.mem_append] at hc
    rcases hc with hc | hc
    ·obtain⟨c',hc',hs'⟩:=a3 c hc s hs
     exact h4 c' (by simp only[List.flatMap_cons,List.mem_append];exact .inl hc') s hs'
    ·exact b4 c hc s hs
theorem qfe{o:Oper}{t:TypeId}{len:Nat}{parts:Array (Nat×Operand)}{lb:Bool}{a:Act}{K:V→St→Option ρ}{r:ρ}(hs:Sim C S g F st a.tmps w)(ho:o.op=.buildSlice t len parts)
    (hev:∀ ty x v,opd P st.fr ty x=some v→VR S w g v (a.eval x)) (h:qd8 P t len parts.toList lb o.dst st K=some r)
    {M:List Nat} (hM:∀ ty vs,qct P st.fr ty parts.toList 0=some vs→∀ c∈vs.flatMap V.cells,∀ s'∈c.site,s'∈M):qb2 P o a C S g F st w K r M:=by
  unfold qd8 at h
  split at h
  · rename_i e u site he hdst
    split at h
    · rename_i hlen
      obtain⟨hpl,hbig⟩:=hlen
      obtain⟨vs0,hvs0,h⟩:=Option.bind_eq_some_iff.1 h
      obtain⟨xs,hxs,h⟩:=Option.bind_eq_some_iff.1 h
      obtain⟨hu,_,hcells,hpos,hbpos,d,hde⟩:=qjw he
      obtain⟨inf,z,hi,hz,hzs,_⟩:=qjj he
      have hvs:=hvs0
      obtain⟨hR0,hok0,hvl0⟩:=qeR (hev e) hvs0
      have hM0:=hM e vs0 hvs0
      obtain⟨hR,hok,hvl,hMv⟩:=qla lb hR0 hok0 hvl0 hM0
      generalize (bif lb then vs0 else vs0.map V.unlab)=vs at *
      obtain⟨S1,G,hs1,hSS,hob1,hG,hGd,hEl⟩:=qkg hs hR hok hxs
      have hM':=hMv
      simp only at h
      generalize qbS st (vs.flatMap V.cells)=r1 at *
      have hxl:xs.length=len:=by rw[(qhJ hxs).1,hvl,hpl]
      have hsize:∀ p∈parts.toList,(a.eval p.2).cells.size=u.size:=by
        intro p hp
        obtain⟨i,hip⟩:=List.mem_iff_getElem?.1 hp
        have hlt:i<xs.length:=by rw[hxl,← hpl];exact(List.getElem?_eq_some_iff.1 hip).1
        obtain⟨Y,hY,hE⟩:=hEl i xs[i] (List.getElem?_eq_getElem hlt)
        have:=hE.len
        rw[List.getElem?_map,hip] at hY
        obtain rfl:=Option.some.inj hY
        simpa using this
      have hrun:(Instr.buildSlice t len (parts.map fun p=>(p.1,a.eval p.2))).run P w =
          .ok (.slice (some ⟨w.heap.size,0,none⟩) len len) (w.alloc (.cells (parts.toList.flatMap fun p=>(a.eval p.2).cells.toList).toArray e)):=by
        have hfill:∀ zs:List Value,zs.length=len*u.size→Instr.fill (fun i=>some (i*u.size,u.size)) zs.toArray (List.map (fun p=>(p.1,a.eval p.2)) parts.toList)=some (parts.toList.flatMap fun p=>(a.eval p.2).cells.toList).toArray:=by
          intro zs hzl
          have:=qjh (el:=a.eval) (m:=u.size) (don:=[]) (tail:=zs) hvs (by simp) (by rw[hzl,hpl]) hsize
          simpa using this
        have hnb:¬ (2 ^ 24<len*u.size):=by omega
        have hszr:=qb0 hde w
        rw[hcells] at hszr
        have harr:∀ zc:Array Value,((Array.range (len*u.size)).map fun k=>zc[k%zc.size]!)=((List.range (len*u.size)).map fun k=>zc[k%zc.size]!).toArray:=by
          intro zc;apply Array.ext';simp[Array.toList_range]
        by_cases h0:len*u.size=0
        · have hf:=hfill [] (by simp[h0])
          simp only[Instr.buildSlice,Sem.run_bind,run_underlying hu,Result.andThen_ok,hszr,h0]
          have:Array.range 0=#[]:=rfl
          simp[this,hf,newRow,run_newObj]
        · have hf:=hfill ((List.range (len*u.size)).map fun k=>z.cells[k%z.cells.size]!) (by simp)
          have hzv:(zeroValue e).run P w=.ok z w:=by simp[zeroValue,typeInfo,hi,hz]
          simp only[Instr.buildSlice,Sem.run_bind,run_underlying hu,Result.andThen_ok,hszr,if_neg h0,hzv]
          simp[hnb,harr,hf,hzv,newRow,run_newObj]
      have hfl:∀ p∈parts.toList,(a.eval p.2).cells.toList.length=u.size:=fun p hp=>by simpa using hsize p hp
      have hrow:∀(i:Nat) x,xs[i]? = some x→∃ us:List Value,(∀(j:Nat) v,us[j]? = some v→(parts.toList.flatMap fun p=>(a.eval p.2).cells.toList).toArray[i*u.size+j]? = some v)∧El S1 w r1.1 u x us (G i):=by
        intro i x hx
        obtain⟨Y,hY,hE⟩:=hEl i x hx
        rw[List.getElem?_map] at hY
        obtain⟨p,hp,rfl⟩:=Option.map_eq_some_iff.1 hY
        refine⟨_,fun j v hv=>?_,hE⟩
        simpa using qm3 (f:=fun p:Nat×Operand=>(a.eval p.2).cells.toList) hfl hp j v hv
      have hasz:(parts.toList.flatMap fun p=>(a.eval p.2).cells.toList).toArray.size=len*u.size:=by
        have:∀ l:List (Nat×Operand),(∀ p∈l,(a.eval p.2).cells.toList.length=u.size)→(l.flatMap fun p=>(a.eval p.2).cells.toList).length=l.length*u.size:=by
          intro l
          induction l with
          | nil=>intro _;simp
          | cons p l ih=>intro hl;rw[List.flatMap_cons,List.length_append,hl p (by simp),ih fun q hq=>hl q (by simp[hq]),List.length_cons,Nat.add_mul];omega
        rw[← hpl]
        simpa using this parts.toList hfl
      generalize (parts.toList.flatMap fun p=>(a.eval p.2).cells.toList).toArray=arr at hrun hrow hasz
      have hold:∀ b,b<w.heap.size→(w.alloc (.cells arr e)).heap[b]? = w.heap[b]?:=fun b hb=>heap_alloc_old w _ b hb
      have hsz:(w.alloc (.cells arr e)).heap.size=w.heap.size+1:=by show(w.heap.push _).size=_;simp
      have hlm:len≤maxLen:=by
        have:len≤len*u.size:=Nat.le_mul_of_pos_right _ hpos
        simp only[maxLen];omega
      have hex:(execOp a.eval o).run P w=.ok (.value (.slice (some ⟨w.heap.size,0,none⟩) len len)) (w.alloc (.cells arr e)):=by
        simp only[execOp,ho];rw[Sem.run_bind,hrun];rfl
      have hob:∃ Gn:Nat→qab,(∀ i b,Gn i b→G i b)∧qar S1 (w.alloc (.cells arr e)) (u.flat || r1.1) u xs (.slice (some ⟨w.heap.size,0,none⟩) len len) (fun b=>b=w.heap.size∨∃ i,Gn i b):=by
        have hmk:∀(Gn:Nat→qab),(∀ i b,Gn i b→G i b)→(∀(i:Nat) x us,xs[i]? = some x→El S1 w r1.1 u x us (G i)→El S1 w (u.flat || r1.1) u x us (Gn i)) →
            qar S1 (w.alloc (.cells arr e)) (u.flat || r1.1) u xs (.slice (some ⟨w.heap.size,0,none⟩) len len) (fun b=>b=w.heap.size∨∃ i,Gn i b):=by
          intro Gn hGn hE
          refine⟨_,len,by rw[hxl],⟨by rw[hxl];exact Nat.le_refl _,hlm⟩,.inr ⟨w.heap.size,arr,e,Gn,rfl,.inl rfl,heap_alloc_new w _,hasz,fun i b hb=>⟨.inr ⟨i,hb⟩,fun e=>?_⟩,fun i j b hij hi hj=>hGd i j b hij (hGn i b hi) (hGn j b hj),fun i x hx=>?_⟩⟩
          · have:=(hG i b (hGn i b hb)).2.2.1;omega
          · obtain⟨us,h1,h2⟩:=hrow i x hx
            exact⟨us,(hE i x us hx h2).mono (fun _ h=>h) (fun b hb=>hold b (hs1.szS b hb)) (fun _ h=>h) fun b hb=>hold b (hG i b (hGn i b hb)).2.2.1,h1⟩
        cases hfl:u.flat with
        | true =>
          rw[hfl] at hmk
          exact⟨fun _ _=>False,fun _ _ h=>h.elim,hmk _ (fun _ _ h=>h.elim) fun i x us _ hE=>hE.flat hfl⟩
        | false =>
          rw[hfl] at hmk
          exact⟨G,fun _ _ h=>h,hmk G (fun _ _ h=>h) fun i x us _ hE=>hE⟩
      obtain⟨Gn,hGn,hown⟩:=hob
      have hfin:=hs1.newG (w':=w.alloc (.cells arr e)) site (.arr u xs (u.flat || r1.1) false false) (.slice (some ⟨w.heap.size,0,none⟩) len len) (fun b=>b=w.heap.size∨∃ i,Gn i b)
        (by rw[hsz];omega) (fun b hb _=>hold b hb) rfl rfl (by unfold ObR;simp only[qaj];exact hown) (by
          rintro b (hb | ⟨i,hb⟩)
          · exact .inl ⟨by omega,by rw[hsz];omega⟩
          · have:=hG i b (hGn i b hb)
            exact .inr ⟨this.1,this.2.1,this.2.2.1,fun s' p _ hp hpf=>this.2.2.2.1 s' p hp hpf⟩)
      refine qb2.value ⟨_,.c (.arr site),_,S1,_,_,_,hex,hfin,⟨(qaj _ _ _).symm,_,_,_,rfl⟩,h,hSS,fun b hb _=>hold b hb,fun b hb=>hold b (hs.szS b hb),fun s' p hp hpf b hb=>?_,by rw[hsz];omega⟩
      by_cases hss:s'=site
      · subst hss
        rw[qaj] at hb
        rcases hb with hb | ⟨i,hb⟩
        · exact .inl (by omega)
        · obtain⟨v,hv,s2,hs2,o2,ho2,hF2⟩:=(hG i b (hGn i b hb)).2.2.2.2
          exact .inr (.inr ⟨s2,hM' v hv s2 hs2,o2,ho2,hF2⟩)
      · rw[qav _ _ hss] at hb
        rw[St.setOb,qam _ _ hss] at hp
        obtain⟨p',hp',rfl⟩:=qaZ hp
        rw[Obj.frozen_kill] at hpf
        obtain⟨p2,hp2,hpf2⟩:=hob1 s' p' hp'
        exact .inr (.inl ⟨p2,hp2,hpf2 hpf,hb⟩)
    · cases h
  · cases h
theorem qin{o:Oper}{t:TypeId}{x:Operand}{vx:V}{d:Nat}{a:Act}{K:V→St→Option ρ}{r:ρ}(hs:Sim C S g F st a.tmps w)(ho:o.op=.load t x)
  (hx:VR S w g vx (a.eval x)) (h:qhN P t vx d st K=some r) {M:List Nat} (hM:∀ c∈vx.cells,∀ s∈c.site,s∈M):qb2 P o a C S g F st w K r M:=by
 unfold qhN at h
 split at h
 ·rename_i s i off sz
  split at h
  ·rename_i e0 u xs hu hob
   split at h
   ·rename_i hc
    obtain⟨rfl,rfl,hP,hAg⟩:=hc
    obtain⟨y,hy,hK⟩:=Option.bind_eq_some_iff.1 h
    clear h
    have hsM:s∈M:=hM (.elt s i 0 1) (by simp[V.cells]) s (by simp[V0.site])
    obtain⟨b,n,c,hg,hin,hX⟩:=hx
    have hown:qar S w true (.sl u) xs (g s) (F s):=hs.ob s _ hob
    obtain⟨A,c',hv,hcc,hrow⟩:=hown
    have hil:=(List.getElem?_eq_some_iff.1 hy).1
    rcases hrow with h0 | ⟨b',arr,e',G,hA',hF,hh,hasz,hGG,hd,he⟩
    ·omega
    ·subst hA'
     have hv':=hv
     rw[hg] at hv'
     obtain⟨rfl,rfl,rfl⟩:b=b'∧n=xs.length∧c=c':=by simpa using hv'
     obtain⟨us,h1,h2⟩:=he i y hy
     have h1:DRp w (.sl u) y us (G i):=h1
     have hl:=h1.len
     match us,hl with
     | [v],_ =>
      have hrow:=(qjA (S:=S)).1 h1
      have hslice:∃ A n c,v=.slice A n c:=by obtain⟨A2,c2,e2,_⟩:=hrow;exact⟨_,_,_,e2⟩
      have hps:=hs.prv s _ hob rfl
      have hrun:(execOp a.eval o).run P w=.ok (.value v) w:=by
       have hA2:At w b (i*(Ty.sl u).size) [v]:=qc0 hh fun j u hu=>h2 j u hu
       have:=qbk (P:=P) hu (by rw[hP];rfl) hA2 fun _=>⟨v,rfl⟩
       have hX':a.eval x=.pointer (some ⟨b,i*(Ty.sl u).size,none⟩):=by rw[hX];simp[Ty.size]
       simp only[execOp,ho,hX',Instr.loadAt,Instr.sureAddr,Sem.run_bind,Sem.run_pure,Result.andThen_ok,this]
       simp[qlO,hAg]
      have hs1:=hs.setS (S':=S) s _ (.hol (.sl u) xs i false) (fun b'=>F s b'∧¬ G i b') hob rfl (fun _ h=>h) (fun b h=>.inl h) (fun b h=>h.1) rfl (fun h=>by cases h) (by
       unfold ObR;simp only[qaj];rw[hg]
       exact⟨b,c,arr,e',fun j b'=>j≠i∧G j b',rfl,hcc,⟨hF,fun h=>(hGG i b h).2 rfl⟩,hh,hasz,fun j b' h=>⟨⟨(hGG j b' h.2).1,fun h'=>hd j i b' h.1 h.2 h'⟩,(hGG j b' h.2).2⟩,fun j k b' hjk h h'=>hd j k b' hjk h.2 h'.2,fun j x hj hx =>
        let ⟨us,k1,k2⟩:=he j x hx
        ⟨us,DRp.mono _ x us (fun _ h=>⟨hj,h⟩) (fun _ _=>rfl) k1,k2⟩⟩)
      have hfin:=hs1.newG (w':=w) d (.arr u y true false false) v (G i) (Nat.le_refl _) (fun _ _ _=>rfl) rfl rfl (by unfold ObR;simp only[qaj];exact hrow) (fun b' hb'=>.inr ⟨(hps b' (hGG i b' hb').1).1,(hps b' (hGG i b' hb').1).2,hs.szF s _ hob b' (hGG i b' hb').1,fun s' p hne hp hpf hb2=>by
       by_cases hss:s'=s
       ·subst hss
        rw[qaj] at hb2
        exact hb2.2 hb'
       ·rw[qav _ _ hss] at hb2
        rw[St.setOb,qam _ _ hss] at hp
        exact hs.dis s' s p _ hss hp hob hpf rfl b' hb2 (hGG i b' hb').1⟩) (Kin.refl _)
      refine qb2.value ⟨v,.c (.arr d),_,S,_,_,w,hrun,hfin,⟨(qaj _ _ _).symm,hslice⟩,hK,fun _ h=>h,fun _ _ _=>rfl,fun _ _=>rfl,fun s' p hp hpf b' hb'=>?_,Nat.le_refl _⟩
      by_cases hsd:s'=d
      ·subst hsd
       rw[qaj] at hb'
       exact .inr (.inr ⟨s,hsM,_,hob,(hGG i b' hb').1⟩)
      ·rw[qav _ _ hsd] at hb'
       rw[St.setOb,qam _ _ hsd] at hp
       obtain⟨p',hp',rfl⟩:=qaZ hp
       rw[Obj.frozen_kill] at hpf
       by_cases hss:s'=s
       ·subst hss
        rw[qaj] at hb'
        exact .inr (.inl ⟨_,hob,rfl,hb'.1⟩)
       ·rw[qav _ _ hss] at hb'
        rw[St.setOb,qam _ _ hss] at hp'
        exact .inr (.inl ⟨p',hp',hpf,hb'⟩)
   ·cases h
  ·cases h
 ·cases h
theorem ql1{o:Oper}{t:TypeId}{x:Operand}{s i off sz:Nat}{a:Act}{K:V→St→Option ρ}{r:ρ}(hs:Sim C S g F st a.tmps w)(ho:o.op=.load t x)
  (hx:VR S w g (.c (.elt s i off sz)) (a.eval x)) (h:qpK P t s i off sz st K=some r) {M:List Nat}:qb2 P o a C S g F st w K r M:=by
 unfold qpK at h
 split at h
 ·rename_i e0 u xs hu hob
  split at h
  ·rename_i hc
   obtain⟨rfl,hszu,hP,hAg⟩:=hc
   obtain⟨y,hy,h⟩:=Option.bind_eq_some_iff.1 h
   obtain⟨l,hl,h⟩:=Option.bind_eq_some_iff.1 h
   split at h
   ·rename_i v ys
    have hK:=h
    clear h
    obtain⟨b,n,c,hg,hin,hX⟩:=hx
    have hown:qar S w true u xs (g s) (F s):=hs.ob s _ hob
    obtain⟨A,c',hv,hcc,hrow⟩:=hown
    have hil:=(List.getElem?_eq_some_iff.1 hy).1
    rcases hrow with h0 | ⟨b',arr,e',G,hA',hF,hh,hasz,hGG,hd,he⟩
    ·omega
    ·subst hA'
     have hv':=hv
     rw[hg] at hv'
     obtain⟨rfl,rfl,rfl⟩:b=b'∧n=xs.length∧c=c':=by simpa using hv'
     obtain⟨us,h1,h2⟩:=he i y hy
     have h1:DRp w u y us (G i):=h1
     obtain⟨ws,v0,G0,GL,rfl,g2,g3,g4,g5,g6⟩:=qev u y us (G i) h1 hl
     have hwl:ws.length=off:=by have:=h1.len;simp at this;omega
     have hrow:=(qjA (S:=S)).1 g5
     have hslice:∃ A c,v0=.slice A ys.length c:=by obtain⟨A2,c2,e2,_⟩:=hrow;exact⟨_,_,e2⟩
     have hrun:(execOp a.eval o).run P w=.ok (.value v0) w:=by
      have hA2:At w b (i*(off+1)+off) [v0]:=qc0 hh fun j u' hu'=>by
       match j,hu' with
       | 0,hu' =>
        obtain rfl:=Option.some.inj hu'
        have:=h2 off v0 (by rw[List.getElem?_append_right (by omega),hwl,Nat.sub_self];rfl)
        rw[hszu]
        simpa using this
       | j+1,hu'=>simp at hu'
      have:=qbk (P:=P) hu (by rw[hP];rfl) hA2 fun _=>⟨v0,rfl⟩
      have hX':a.eval x=.pointer (some ⟨b,i*(off+1)+off,none⟩):=by rw[hX]
      simp only[execOp,ho,hX',Instr.loadAt,Instr.sureAddr,Sem.run_bind,Sem.run_pure,Result.andThen_ok,this]
      simp[qlO,hAg]
     exact qb2.value ⟨v0,.c (.ln (List.length ys)),st,S,g,F,w,hrun,hs,hslice,hK,Moved.refl _⟩
   ·cases h
  ·cases h
 ·cases h
theorem qgV{o:Oper}{t:TypeId}{x:Operand}{s i off sz d:Nat}{a:Act}{K:V→St→Option ρ}{r:ρ}(hs:Sim C S g F st a.tmps w)(ho:o.op=.load t x)
  (hx:VR S w g (.c (.elt s i off sz)) (a.eval x)) (h:qf4 P t s i off sz d st K=some r) {M:List Nat} (hsM:s∈M):qb2 P o a C S g F st w K r M:=by
 unfold qf4 at h
 split at h
 ·rename_i e0 u xs hu hob
  split at h
  ·rename_i hc
   obtain⟨rfl,hszu,hP,hAg,hds⟩:=hc
   obtain⟨y,hy,h⟩:=Option.bind_eq_some_iff.1 h
   obtain⟨l,hl,h⟩:=Option.bind_eq_some_iff.1 h
   split at h
   ·rename_i v ys
    have hK:=h
    clear h
    obtain⟨b,n,c,hg,hin,hX⟩:=hx
    have hown:qar S w true u xs (g s) (F s):=hs.ob s _ hob
    obtain⟨A,c',hv,hcc,hrow⟩:=hown
    have hil:=(List.getElem?_eq_some_iff.1 hy).1
    rcases hrow with h0 | ⟨b',arr,e',G,hA',hF,hh,hasz,hGG,hd,he⟩
    ·omega
    ·subst hA'
     have hv':=hv
     rw[hg] at hv'
     obtain⟨rfl,rfl,rfl⟩:b=b'∧n=xs.length∧c=c':=by simpa using hv'
     obtain⟨us,h1,h2⟩:=he i y hy
     have h1:DRp w u y us (G i):=h1
     obtain⟨ws,v0,G0,GL,rfl,g2,g3,g4,g5,g6⟩:=qev u y us (G i) h1 hl
     have hwl:ws.length=off:=by have:=h1.len;simp at this;omega
     have hrow:=(qjA (S:=S)).1 g5
     have hslice:∃ A n c,v0=.slice A n c:=by obtain⟨A2,c2,e2,_⟩:=hrow;exact⟨_,_,_,e2⟩
     have hps:=hs.prv s _ hob rfl
     have hrun:(execOp a.eval o).run P w=.ok (.value v0) w:=by
      have hA2:At w b (i*(off+1)+off) [v0]:=qc0 hh fun j u' hu'=>by
       match j,hu' with
       | 0,hu' =>
        obtain rfl:=Option.some.inj hu'
        have:=h2 off v0 (by rw[List.getElem?_append_right (by omega),hwl,Nat.sub_self];rfl)
        rw[hszu]
        simpa using this
       | j+1,hu'=>simp at hu'
      have:=qbk (P:=P) hu (by rw[hP];rfl) hA2 fun _=>⟨v0,rfl⟩
      have hX':a.eval x=.pointer (some ⟨b,i*(off+1)+off,none⟩):=by rw[hX]
      simp only[execOp,ho,hX',Instr.loadAt,Instr.sureAddr,Sem.run_bind,Sem.run_pure,Result.andThen_ok,this]
      simp[qlO,hAg]
     have hGs:∀ j b',(if j=i then G0 else G j) b'→G j b':=fun j b' hb'=>by
      by_cases hji:j=i
      ·rw[if_pos hji] at hb';subst hji;exact g2 b' hb'
      ·rwa [if_neg hji] at hb'
     have hGL:∀ j b',(if j=i then G0 else G j) b'→¬ GL b':=fun j b' hb' hL=>by
      by_cases hji:j=i
      ·rw[if_pos hji] at hb';exact g4 b' hb' hL
      ·rw[if_neg hji] at hb';exact hd j i b' hji hb' (g3 b' hL)
     have hs1:=hs.setS (S':=S) s _ (.hol u xs i false) (fun b'=>F s b'∧¬ GL b') hob rfl (fun _ h=>h) (fun b h=>.inl h) (fun b h=>h.1) rfl (fun h=>by cases h) (by
      unfold ObR;simp only[qaj];rw[hg]
      exact⟨b,c,arr,e',fun j b'=>j≠i∧G j b',rfl,hcc,⟨hF,fun h=>(hGG i b (g3 b h)).2 rfl⟩,hh,hasz,fun j b' h=>⟨⟨(hGG j b' h.2).1,fun h'=>hd j i b' h.1 h.2 (g3 b' h')⟩,(hGG j b' h.2).2⟩,fun j k b' hjk h h'=>hd j k b' hjk h.2 h'.2,fun j x hj hx =>
       let ⟨us,k1,k2⟩:=he j x hx
       ⟨us,DRp.mono _ x us (fun _ h=>⟨hj,h⟩) (fun _ _=>rfl) k1,k2⟩⟩)
     have hnew:=hs1.newG (w':=w) d (.arr v ys true false false) v0 GL (Nat.le_refl _) (fun _ _ _=>rfl) rfl rfl (by unfold ObR;simp only[qaj];exact hrow) (fun b' hb'=>.inr ⟨(hps b' (hGG i b' (g3 b' hb')).1).1,(hps b' (hGG i b' (g3 b' hb')).1).2,hs.szF s _ hob b' (hGG i b' (g3 b' hb')).1,fun s' p _ hp hpf hb2=>by
      by_cases hss:s'=s
      ·subst hss
       rw[qaj] at hb2
       exact hb2.2 hb'
      ·rw[qav _ _ hss] at hb2
       rw[St.setOb,qam _ _ hss] at hp
       exact hs.dis s' s p _ hss hp hob hpf rfl b' hb2 (hGG i b' (g3 b' hb')).1⟩) (Kin.refl _)
     have hob2:qad ((st.setOb s (some (.hol u xs i false))).newOb d (.arr v ys true false false)).ob s=some (.hol u xs i false):=by
      unfold St.newOb
      rw[St.setOb,qam _ _ (Ne.symm hds)]
      unfold St.kill
      rw[qek]
      have:qad (st.setOb s (some (.hol u xs i false))).ob s=some (.hol u xs i false):=by
       unfold St.setOb qad
       have hl:s<st.ob.length:=by
        by_cases hl:s<st.ob.length
        ·exact hl
        ·unfold qad at hob
         rw[List.getD_eq_getElem?_getD,List.getElem?_eq_none (by omega)] at hob;cases hob
       rw[List.getD_eq_getElem?_getD,List.getElem?_set_self hl];rfl
      rw[this];rfl
     have hfin:=hnew.setS (S':=S) s _ (.hlp u xs i d false) (fun b'=>F s b'∧¬ GL b') hob2 rfl (fun _ h=>h) (fun b h=>.inl h) (fun b' h=>by rw[qav _ _ (Ne.symm hds),qaj];exact h) rfl (fun h=>by cases h) (by
      unfold ObR;simp only[qaj];rw[qav _ _ (Ne.symm hds),hg]
      refine⟨b,c,arr,e',fun j=>if j=i then G0 else G j,rfl,hcc,⟨hF,fun h=>(hGG i b (g3 b h)).2 rfl⟩,hh,hasz,fun j b' h=>⟨⟨(hGG j b' (hGs j b' h)).1,hGL j b' h⟩,(hGG j b' (hGs j b' h)).2⟩,fun j k b' hjk h h'=>hd j k b' hjk (hGs j b' h) (hGs k b' h'),fun j x hj hx=>?_,y,ws,hy,fun k u' hk=>h2 k u' hk,?_⟩
      ·obtain⟨us,k1,k2⟩:=he j x hx
       refine⟨us,?_,k2⟩
       simp only[if_neg hj];exact k1
      ·simp only[if_true];exact g6)
     have hst:((St.kill d (st.setOb s (some (.hol u xs i false)))).setOb d (some (.arr v ys true false false))).setOb s (some (.hlp u xs i d false))=(st.newOb d (.arr v ys true false false)).setOb s (some (.hlp u xs i d false)):=by
      unfold St.newOb St.setOb St.kill
      simp only[List.map_set,St.mk.injEq,true_and]
      rw[List.set_comm _ _ (Ne.symm hds),List.set_set,List.set_comm _ _ hds]
     rw[hst] at hfin
     refine qb2.value ⟨v0,.c (.arr d),_,S,_,_,w,hrun,hfin,⟨(qaj _ _ _).symm,hslice⟩,hK,fun _ h=>h,fun _ _ _=>rfl,fun _ _=>rfl,fun s' p hp hpf b' hb'=>?_,Nat.le_refl _⟩
     by_cases hss:s'=s
     ·subst hss
      rw[qaj] at hb'
      exact .inr (.inl ⟨_,hob,rfl,hb'.1⟩)
     ·rw[qav _ _ hss] at hb'
      by_cases hsd:s'=d
      ·subst hsd
       rw[qaj] at hb'
       exact .inr (.inr ⟨s,hsM,_,hob,(hGG i b' (g3 b' hb')).1⟩)
      ·rw[qav _ _ hsd,qav _ _ hss] at hb'
       rw[St.setOb,qam _ _ hss] at hp
       unfold St.newOb at hp
       rw[St.setOb,qam _ _ hsd] at hp
       obtain⟨p',hp',rfl⟩:=qaZ hp
       rw[Obj.frozen_kill] at hpf
       exact .inr (.inl ⟨p',hp',hpf,hb'⟩)
   ·cases h
  ·cases h
 ·cases h
end
end Ve
namespace Ve
open Go
section
variable {S S':qab} {w w':World} {g g':Nat→Value} {C:Ctx} {F F':Nat→qab} {st:St} {tm:Array Value} {P:Program} {ρ:Type}
theorem Rp.one{S:qab}{w:World}:∀(t:Ty) (x:t.T) (us:List Value),Rp S w t x us→∀ u∈us,u.oneCell'=true
  | .int _,_,_,h,u,hu=>by cases h;simp at hu;subst hu;rfl
  | .bool,_,_,h,u,hu=>by cases h;simp at hu;subst hu;rfl
  | .str,_,_,h,u,hu=>by cases h;simp at hu;subst hu;rfl
  | .sl _,_,_,⟨_,_,hv,_⟩,u,hu=>by subst hv;simp at hu;subst hu;rfl
  | .ptr _,_,_,⟨_,_,_,hv,_⟩,u,hu=>by subst hv;simp at hu;subst hu;rfl
  | .fn _ _,_,_,⟨_,hv,_⟩,u,hu=>by subst hv;simp at hu;subst hu;rfl
  | .lab t,x,us,⟨_,h⟩,u,hu=>Rp.one t x.2 us h u hu
  | .st c,x,vs,h,u,hu=>Rp.one c x vs h u hu
  | .nil,_,_,h,u,hu=>by cases h;cases hu
  | .cons a b,x,vs,⟨us,ws,hv,h1,h2⟩,u,hu=>by
      subst hv
      rcases List.mem_append.1 hu with hu | hu
      · exact Rp.one a x.1 us h1 u hu
      · exact Rp.one b x.2 ws h2 u hu
theorem El.one{d:Bool}{t:Ty}{x:t.T}{us:List Value}{G:qab}(h:El S w d t x us G):∀ u∈us,u.oneCell'=true:=by
 cases d with
 | false=>exact Rp.one t x us h
 | true=>exact Rp.one t x us (DRp.freeze (S:=fun _=>True) t x us (fun _ _=>trivial) h)
theorem qir(m:Nat)(Q:Nat→List Value→Prop):∀ n,(∀ i,i<n→∃ us,us.length=m∧Q i us) →
    ∃ news:List Value,news.length=n*m∧(∀ i,i<n→∃ us,us.length=m∧Q i us∧∀(j:Nat) v,us[j]? = some v→news[i*m+j]? = some v) ∧
      ∀(k:Nat) v,news[k]? = some v→∃ i us j,i<n∧Q i us∧us[j]? = some v∧k=i*m+j
  | 0,_=>⟨[],by simp,fun i hi=>by omega,fun k v h=>by simp at h⟩
  | n+1,h=>by
      obtain⟨news,h1,h2,h3⟩:=qir m Q n fun i hi=>h i (by omega)
      obtain⟨us,hul,hQ⟩:=h n (by omega)
      refine⟨news++us,by rw[List.length_append,h1,hul,Nat.add_mul,Nat.one_mul],fun i hi=>?_,fun k v hk=>?_⟩
      · rcases Nat.lt_or_ge i n with hlt | hge
        · obtain⟨us',hl',hQ',hg'⟩:=h2 i hlt
          refine⟨us',hl',hQ',fun j v hj=>?_⟩
          have:=hg' j v hj
          rw[List.getElem?_append_left (List.getElem?_eq_some_iff.1 this).1]
          exact this
        · obtain rfl:i=n:=by omega
          refine⟨us,hul,hQ,fun j v hj=>?_⟩
          rw[List.getElem?_append_right (by omega),h1,Nat.add_sub_cancel_left]
          exact hj
      · rcases Nat.lt_or_ge k news.length with hlt | hge
        · rw[List.getElem?_append_left hlt] at hk
          obtain⟨i,us',j,hi,hQ',hj,he⟩:=h3 k v hk
          exact⟨i,us',j,by omega,hQ',hj,he⟩
        · rw[List.getElem?_append_right hge] at hk
          exact⟨n,us,k-news.length,by omega,hQ,hk,by omega⟩
def Src(S:qab)(w:World)(d:Bool)(u:Ty)(ys:List u.T)(X:Value)(G:qab):Prop :=
 ∃ A c,X=.slice A ys.length c∧(ys=[]∨∃ b o news,∃ Gi:Nat→qab,A=some ⟨b,o,none⟩∧news.length=ys.length*u.size∧At w b o news∧(∀ i b,Gi i b→G b) ∧
  (∀ i j b,i≠j→Gi i b→¬ Gi j b)∧(∀(i:Nat) x,ys[i]? = some x→∃ us,El S w d u x us (Gi i)∧∀(j:Nat) v,us[j]? = some v→news[i*u.size+j]? = some v)∧∀ v∈news,v.oneCell'=true)
theorem Src.of_parts{d:Bool}{u:Ty}{ys:List u.T}{b o:Nat}{G:qab}(Gi:Nat→qab)(h1:∀ i b,Gi i b→G b)(h2:∀ i j b,i≠j→Gi i b→¬ Gi j b)
  (h3:∀(i:Nat) x,ys[i]? = some x→∃ us,El S w d u x us (Gi i)∧At w b (o+i*u.size) us) :
  ∃ news:List Value,∃ Gi:Nat→qab,news.length=ys.length*u.size∧At w b o news∧(∀ i b,Gi i b→G b) ∧
  (∀ i j b,i≠j→Gi i b→¬ Gi j b)∧(∀(i:Nat) x,ys[i]? = some x→∃ us,El S w d u x us (Gi i)∧∀(j:Nat) v,us[j]? = some v→news[i*u.size+j]? = some v)∧∀ v∈news,v.oneCell'=true:=by
 obtain⟨news,hl,hg,hb⟩:=qir u.size (fun i us=>(∃ x,ys[i]? = some x∧El S w d u x us (Gi i))∧At w b (o+i*u.size) us) ys.length (fun i hi=>by
  obtain⟨us,hE,hA⟩:=h3 i ys[i] (List.getElem?_eq_getElem hi)
  exact⟨us,hE.len,⟨_,List.getElem?_eq_getElem hi,hE⟩,hA⟩)
 refine⟨news,Gi,hl,fun k v hk=>?_,h1,h2,fun i x hx=>?_,fun v hv=>?_⟩
 ·obtain⟨i,us,j,hi,⟨_,hA⟩,hj,rfl⟩:=hb k v hk
  have:=hA j v hj
  rwa [Nat.add_assoc] at this
 ·have hi:=(List.getElem?_eq_some_iff.1 hx).1
  obtain⟨us,_,⟨⟨x',hx',hE⟩,_⟩,hj⟩:=hg i hi
  rw[hx] at hx'
  obtain rfl:=Option.some.inj hx'
  exact⟨us,hE,hj⟩
 ·obtain⟨k,hk⟩:=List.mem_iff_getElem?.1 hv
  obtain⟨i,us,j,hi,⟨⟨x,_,hE⟩,_⟩,hj,_⟩:=hb k v hk
  exact hE.one v (List.mem_of_getElem? hj)
theorem Src.of_el{d:Bool}{u:Ty}{ys:List u.T}{X:Value}{G:qab}(h:El S w d (.sl u) ys [X] G):Src S w d u ys X G:=by
 cases d with
 | false =>
  obtain⟨A,c,hv,hc,hx⟩:=h
  obtain rfl:X=.slice A ys.length c:=by simpa using hv
  refine⟨A,c,rfl,hx.imp id ?_⟩
  rintro⟨b,o,hA,hb,he⟩
  obtain⟨news,Gi,h1⟩:=Src.of_parts (S:=S) (w:=w) (d:=false) (b:=b) (o:=o) (G:=G) (ys:=ys) (fun _ _=>False) (fun _ _ h=>h.elim) (fun _ _ _ _ h=>h.elim) he
  exact⟨b,o,news,Gi,hA,h1⟩
 | true =>
  obtain⟨A,c,hv,hc,hx⟩:=h
  obtain rfl:X=.slice A ys.length c:=by simpa using hv
  refine⟨A,c,rfl,?_⟩
  rcases hx with hx | ⟨b,arr,e,Gi,hA,hb,hh,hsz,hG,hd,he⟩
  ·left;exact List.length_eq_zero_iff.1 (by omega)
  ·right
   obtain⟨news,Gi',h1⟩:=Src.of_parts (S:=S) (w:=w) (d:=true) (b:=b) (o:=0) (G:=G) (ys:=ys) Gi (fun i b h=>(hG i b h).1) hd (fun i x hx=>by
    obtain⟨us,hE,hj⟩:=he i x hx
    exact⟨us,hE,by rw[Nat.zero_add];exact qc0 hh hj⟩)
   exact⟨b,0,news,Gi',hA,h1⟩
theorem Src.of_flat{d:Bool}{u:Ty}{ys:List u.T}{X:Value}{S0:qab}(hfl:u.flat=true)(h:Rp S0 w (.sl u) ys [X]):Src S w d u ys X (fun _=>False):=by
 obtain⟨A,c,hv,hc,hx⟩:=h
 obtain rfl:X=.slice A ys.length c:=by simpa using hv
 refine⟨A,c,rfl,hx.imp id ?_⟩
 rintro⟨b,o,hA,hb,he⟩
 obtain⟨news,Gi,h1⟩:=Src.of_parts (S:=S) (w:=w) (d:=d) (b:=b) (o:=o) (G:=fun _=>False) (ys:=ys) (fun _ _=>False) (fun _ _ h=>h) (fun _ _ _ _ h=>h.elim) (fun i x hx=>by
  obtain⟨us,hE,hA⟩:=he i x hx
  exact⟨us,El.flat (d:=false) (S:=S0) (w:=w) (G:=fun _=>False) hfl hE,hA⟩)
 exact⟨b,o,news,Gi,hA,h1⟩
theorem qef{t ty e:TypeId}{i:TypeInfo}(ht:P.underlying t=some (.slice e))(hi:P.info? e=some i)(A A':Option Addr)(n c c':Nat)(hn:n≤c) :
  (Builtin.append_ #[t,t] ty #[.slice A n c,.slice A' 0 c']).run P w=.ok (.slice A n c) w:=by
 cases A<;>cases A'<;>simp[Builtin.append_,run_underlying ht,Go.sizeOf,typeInfo,hi,Builtin.lenOf,hn,Builtin.firstCells,loadCells,loadCellsFrom,storeCells]
theorem qiC{t ty e:TypeId}{i:TypeInfo}{z:Value}{u:Ty}(ht:P.underlying t=some (.slice e))(hi:P.info? e=some i)(hz:i.zero=some z)(hzs:z.cells.size=u.size)
    (hisz:i.size=u.size) (hpos:0<u.size) (hbpos:0<i.bytes) {d:Bool} {xs ys:List u.T} {v X:Value} {Fs G:qab} (hown:qar S w d u xs v Fs) (hsrc:Src S w d u ys X G)
    (hS:∀ b,S b→b<w.heap.size∧¬ Fs b) (hF:∀ b,Fs b→b<w.heap.size) (hG:∀ b,G b→b<w.heap.size∧¬ Fs b)
    (hby:(xs.length+ys.length)*i.bytes≤70368744177664) :
    ∃ v' w',(Builtin.append_ #[t,t] ty #[v,X]).run P w=.ok v' w'∧(∃ A n c,v'=.slice A n c)∧qar S w' d u (xs++ys) v' (fun b=>Fs b∨G b∨(b=w.heap.size∧b<w'.heap.size)) ∧
      (∀ b,b<w.heap.size→¬ Fs b→w'.heap[b]? = w.heap[b]?)∧w.heap.size≤w'.heap.size∧Kin w w':=by
  obtain⟨A,c,rfl,hc,hrow⟩:=hown
  obtain⟨A',c',rfl,hsr⟩:=hsrc
  have hmaxn:xs.length+ys.length≤maxLen:=(qlk hbpos hby).1
  rcases hsr with rfl | ⟨b',o',news,Gi,rfl,hnl,hnA,hGi,hGd,hnE,hn1⟩
  · refine⟨_,w,qef ht hi A A' xs.length c c' hc.1,⟨_,_,_,rfl⟩,?_,fun _ _ _=>rfl,Nat.le_refl _,Kin.refl _⟩
    rw[List.append_nil]
    exact qar.mono (F:=Fs) (fun _ h=>h) (fun _ _=>rfl) (fun _ h=>.inl h) (fun _ _=>rfl) ⟨A,c,rfl,hc,hrow⟩
  · have hnews:∀(j:Nat) v,news[j]? = some v→w.cell? ((⟨b',o',none⟩:Addr).add j)=some v:=fun j v hj=>by rw[Addr.add_lit];exact hnA j v hj
    by_cases hm0:ys.length=0
    · obtain rfl:ys=[]:=List.length_eq_zero_iff.1 hm0
      refine⟨_,w,qef ht hi A (some ⟨b',o',none⟩) xs.length c c' hc.1,⟨_,_,_,rfl⟩,?_,fun _ _ _=>rfl,Nat.le_refl _,Kin.refl _⟩
      rw[List.append_nil]
      exact qar.mono (F:=Fs) (fun _ h=>h) (fun _ _=>rfl) (fun _ h=>.inl h) (fun _ _=>rfl) ⟨A,c,rfl,hc,hrow⟩
    by_cases hroom:xs.length+ys.length≤c
    · rcases hrow with h0 | ⟨b,arr,e',Gl,rfl,hFb,hh,hasz,hGo,hGod,hE⟩
      · omega
      · have hfit:xs.length*u.size+news.length≤arr.size:=by rw[hnl,hasz,← Nat.add_mul];exact Nat.mul_le_mul_right _ hroom
        have hst:=run_storeCells_at P b (xs.length*u.size) e' news 0 arr w hh (by simpa using hfit) hn1
        simp only[Nat.add_zero] at hst
        have hf:=run_firstCells_some (P:=P) w i.size ys.length ⟨b',o',none⟩ ys.length c' news (by rw[hisz];exact hnl) hnews
        have hrun:(Builtin.append_ #[t,t] ty #[.slice (some ⟨b,0,none⟩) xs.length c,.slice (some ⟨b',o',none⟩) ys.length c']).run P w =
            .ok (.slice (some ⟨b,0,none⟩) (xs.length+ys.length) c) (w.setRow b (arr.toList.take (xs.length*u.size)++news++arr.toList.drop (xs.length*u.size+news.length)).toArray):=by
          rw[hisz] at hf
          simp[Builtin.append_,run_underlying ht,Go.sizeOf,typeInfo,hi,hisz,Builtin.lenOf,hroom,hf,Addr.add_lit,hst]
        have hget:∀ j,j<xs.length*u.size→(arr.toList.take (xs.length*u.size)++news++arr.toList.drop (xs.length*u.size+news.length)).toArray[j]? = arr[j]?:=by
          intro j hj
          have hl:(arr.toList.take (xs.length*u.size)).length=xs.length*u.size:=by simp;omega
          simp only[List.getElem?_toArray,List.append_assoc]
          rw[List.getElem?_append_left (by omega),List.getElem?_take_of_lt hj,Array.getElem?_toList]
        have hget2:∀(j:Nat) v,news[j]? = some v→(arr.toList.take (xs.length*u.size)++news++arr.toList.drop (xs.length*u.size+news.length)).toArray[xs.length*u.size+j]? = some v:=by
          intro j v hj
          have hl:(arr.toList.take (xs.length*u.size)).length=xs.length*u.size:=by simp;omega
          have hjl:=(List.getElem?_eq_some_iff.1 hj).1
          simp only[List.getElem?_toArray,List.append_assoc]
          rw[List.getElem?_append_right (by omega),hl,Nat.add_sub_cancel_left,List.getElem?_append_left hjl]
          exact hj
        have hcsz:(arr.toList.take (xs.length*u.size)++news++arr.toList.drop (xs.length*u.size+news.length)).toArray.size=arr.size:=by
          simp;omega
        generalize (arr.toList.take (xs.length*u.size)++news++arr.toList.drop (xs.length*u.size+news.length)).toArray=cs at hrun hget hget2 hcsz
        have hoth:∀ b2,b2≠b→(w.setRow b cs).heap[b2]? = w.heap[b2]?:=fun b2 h=>setRow_other w b b2 cs h
        refine⟨_,_,hrun,⟨_,_,_,rfl⟩,⟨_,c,by rw[List.length_append],⟨by rw[List.length_append];exact hroom,hc.2⟩,.inr ⟨b,cs,e',fun j=>if j<xs.length then Gl j else Gi (j-xs.length),rfl,.inl hFb,setRow_heap w b arr cs e' _ hh,by rw[hcsz,hasz],?_,?_,?_⟩⟩,
          fun b2 _ hn=>hoth b2 fun e=>hn (e ▸ hFb),by rw[size_setRow];exact Nat.le_refl _,rfl,rfl,rfl,Nat.le_refl _⟩
        · intro j b2 hj
          by_cases hlt:j<xs.length
          · simp only[hlt,if_true] at hj;exact⟨.inl (hGo j b2 hj).1,(hGo j b2 hj).2⟩
          · simp only[hlt,if_false] at hj;exact⟨.inr (.inl (hGi _ b2 hj)),fun e=>(hG b2 (hGi _ b2 hj)).2 (e ▸ hFb)⟩
        · intro j k b2 hjk hj hk
          by_cases hlt:j<xs.length<;>by_cases hlt2:k<xs.length<;>simp only[hlt,hlt2,if_true,if_false] at hj hk
          · exact hGod j k b2 hjk hj hk
          · exact(hG b2 (hGi _ b2 hk)).2 (hGo j b2 hj).1
          · exact(hG b2 (hGi _ b2 hj)).2 (hGo k b2 hk).1
          · exact hGd _ _ b2 (by omega) hj hk
        · intro j x hx
          by_cases hlt:j<xs.length
          · rw[List.getElem?_append_left hlt] at hx
            obtain⟨us,h1,h2⟩:=hE j x hx
            refine⟨us,?_,fun q v hq=>?_⟩
            · simp only[hlt,if_true]
              exact h1.mono (fun _ h=>h) (fun b2 h=>hoth b2 fun e=>(hS b2 h).2 (e ▸ hFb)) (fun _ h=>h) fun b2 h=>hoth b2 (hGo j b2 h).2
            · have hql:=(List.getElem?_eq_some_iff.1 hq).1
              rw[h1.len] at hql
              have:(j+1)*u.size≤xs.length*u.size:=Nat.mul_le_mul_right _ hlt
              rw[Nat.add_mul] at this
              rw[hget _ (by omega)]
              exact h2 q v hq
          · rw[List.getElem?_append_right (by omega)] at hx
            obtain⟨us,h1,h2⟩:=hnE (j-xs.length) x hx
            refine⟨us,?_,fun q v hq=>?_⟩
            · simp only[hlt,if_false]
              exact h1.mono (fun _ h=>h) (fun b2 h=>hoth b2 fun e=>(hS b2 h).2 (e ▸ hFb)) (fun _ h=>h) fun b2 h=>hoth b2 fun e=>(hG b2 (hGi _ b2 h)).2 (e ▸ hFb)
            · have:=hget2 _ v (h2 q v hq)
              have e:xs.length*u.size+((j-xs.length)*u.size+q)=j*u.size+q:=by
                rw[← Nat.add_assoc,← Nat.add_mul];congr 2;omega
              rwa [e] at this
    · have hby2:(xs.length+ys.length)*i.bytes≤140737488355328:=by omega
      have hfits:=growslice_fits (old:=c) (need:=xs.length+ys.length) (bytes:=i.bytes) (by omega) hby2
      have hmx:((xs.length+ys.length:Nat):Int)≤9223372036854775807:=by simp only[maxLen] at hmaxn;omega
      have holds:∃ olds:List Value,∃ Gl:Nat→qab,olds.length=xs.length*u.size∧(∀ ad,A=some ad→∀(j:Nat) v,olds[j]? = some v→w.cell? (ad.add j)=some v)∧(A=none→olds=[]∧c=0) ∧
          (∀ i b,Gl i b→Fs b)∧(∀ i j b,i≠j→Gl i b→¬ Gl j b)∧∀(i:Nat) x,xs[i]? = some x→∃ us,El S w d u x us (Gl i)∧∀(j:Nat) v,us[j]? = some v→olds[i*u.size+j]? = some v:=by
        rcases hrow with h0 | ⟨b,arr,e',Gl,rfl,hFb,hh,hasz,hGo,hGod,hE⟩
        · have hx0:xs=[]:=List.length_eq_zero_iff.1 (by omega)
          subst hx0
          exact⟨[],fun _ _=>False,by simp,fun _ _ j v h=>by simp at h,fun _=>⟨rfl,h0⟩,fun _ _ h=>h.elim,fun _ _ _ _ h=>h.elim,fun i x h=>by simp at h⟩
        · have hle:xs.length*u.size≤arr.size:=by rw[hasz];exact Nat.mul_le_mul_right _ hc.1
          refine⟨arr.toList.take (xs.length*u.size),Gl,by simp;omega,fun ad had j v hj=>?_,fun h=>by simp at h,fun i b h=>(hGo i b h).1,hGod,fun i x hx=>?_⟩
          · obtain rfl:(⟨b,0,none⟩:Addr)=ad:=by simpa using had
            rw[Addr.add_lit]
            rw[List.getElem?_take] at hj
            split at hj
            · exact qc0 (o:=0) (us:=arr.toList) hh (fun j u hu=>by simpa using hu) j v hj
            · cases hj
          · obtain⟨us,h1,h2⟩:=hE i x hx
            refine⟨us,h1,fun q v hq=>?_⟩
            have hql:=(List.getElem?_eq_some_iff.1 hq).1
            rw[h1.len] at hql
            have hil:=(List.getElem?_eq_some_iff.1 hx).1
            have:(i+1)*u.size≤xs.length*u.size:=Nat.mul_le_mul_right _ hil
            rw[Nat.add_mul] at this
            rw[List.getElem?_take_of_lt (by omega),Array.getElem?_toList]
            exact h2 q v hq
      obtain⟨olds,Gl,hol,hoa,hon,hGoF,hGod,hoE⟩:=holds
      have hrun:(Builtin.append_ #[t,t] ty #[.slice A xs.length c,.slice (some ⟨b',o',none⟩) ys.length c']).run P w =
          .ok (.slice (some ⟨w.heap.size,0,none⟩) (xs.length+ys.length) (grownCap w (xs.length+ys.length) c e))
            (w.drew.alloc (.cells (olds.toArray++news.toArray++Builtin.zeroCells z.cells (grownCap w (xs.length+ys.length) c e-(xs.length+ys.length))) e)):=by
        cases A with
        | some ad=>exact run_append_grow (P:=P) w t ty e i z ht hi hz ad xs.length c olds (by rw[hisz];exact hol) (hoa ad rfl) ⟨b',o',none⟩ ys.length c' news (by rw[hisz];exact hnl) hnews (by omega) hmx hfits
        | none =>
          obtain⟨rfl,rfl⟩:=hon rfl
          have hx0:xs.length=0:=by omega
          rw[hx0] at *
          have hb3:ys.length*i.bytes≤281474976710656:=Nat.le_trans (Nat.le_trans (Nat.mul_le_mul_right _ (Nat.le_add_left _ _)) hby) (by decide)
          have:=run_append_nil (P:=P) w t ty e i z ht hi hz ⟨b',o',none⟩ ys.length c' news (by rw[hisz];exact hnl) hnews (by omega) (by omega) hb3
          simpa using this
      have hge:=grownCap_ge w (xs.length+ys.length) c e
      have hcm:=grownCap_le_maxLen w (xs.length+ys.length) c e hmaxn
      generalize grownCap w (xs.length+ys.length) c e=nc at hrun hge hcm
      have hcsz:(olds.toArray++news.toArray++Builtin.zeroCells z.cells (nc-(xs.length+ys.length))).size=nc*u.size:=by
        simp only[Array.size_append,List.size_toArray,size_zeroCells,hzs,hol,hnl,← Nat.add_mul]
        congr 1;omega
      have hget:∀(j:Nat) v,olds[j]? = some v→(olds.toArray++news.toArray++Builtin.zeroCells z.cells (nc-(xs.length+ys.length)))[j]? = some v:=by
        intro j v hj
        have hjl:=(List.getElem?_eq_some_iff.1 hj).1
        rw[Array.getElem?_append_left (by simp;omega),Array.getElem?_append_left (by simpa using hjl)]
        simpa using hj
      have hget2:∀(j:Nat) v,news[j]? = some v→(olds.toArray++news.toArray++Builtin.zeroCells z.cells (nc-(xs.length+ys.length)))[xs.length*u.size+j]? = some v:=by
        intro j v hj
        have hjl:=(List.getElem?_eq_some_iff.1 hj).1
        rw[Array.getElem?_append_left (by simp;omega),Array.getElem?_append_right (by simp;omega)]
        simpa [hol] using hj
      generalize (olds.toArray++news.toArray++Builtin.zeroCells z.cells (nc-(xs.length+ys.length)))=cs at hrun hcsz hget hget2
      have hold:∀ b,b<w.heap.size→(w.drew.alloc (.cells cs e)).heap[b]? = w.heap[b]?:=fun b hb=>heap_alloc_old w.drew _ b hb
      have hsz:(w.drew.alloc (.cells cs e)).heap.size=w.heap.size+1:=by show(w.heap.push _).size=_;simp
      refine⟨_,_,hrun,⟨_,_,_,rfl⟩,⟨_,nc,by rw[List.length_append],⟨by rw[List.length_append];exact hge,hcm⟩,.inr ⟨w.heap.size,cs,e,fun j=>if j<xs.length then Gl j else Gi (j-xs.length),rfl,.inr (.inr ⟨rfl,by omega⟩),heap_alloc_new w.drew _,hcsz,?_,?_,?_⟩⟩,
        fun b hb _=>hold b hb,by omega,rfl,rfl,rfl,Nat.le_succ _⟩
      · intro j b2 hj
        by_cases hlt:j<xs.length
        · simp only[hlt,if_true] at hj;exact⟨.inl (hGoF j b2 hj),fun e=>by have:=hF b2 (hGoF j b2 hj);omega⟩
        · simp only[hlt,if_false] at hj;exact⟨.inr (.inl (hGi _ b2 hj)),fun e=>by have:=(hG b2 (hGi _ b2 hj)).1;omega⟩
      · intro j k b2 hjk hj hk
        by_cases hlt:j<xs.length<;>by_cases hlt2:k<xs.length<;>simp only[hlt,hlt2,if_true,if_false] at hj hk
        · exact hGod j k b2 hjk hj hk
        · exact(hG b2 (hGi _ b2 hk)).2 (hGoF j b2 hj)
        · exact(hG b2 (hGi _ b2 hj)).2 (hGoF k b2 hk)
        · exact hGd _ _ b2 (by omega) hj hk
      · intro j x hx
        by_cases hlt:j<xs.length
        · rw[List.getElem?_append_left hlt] at hx
          obtain⟨us,h1,h2⟩:=hoE j x hx
          refine⟨us,?_,fun q v hq=>hget _ v (h2 q v hq)⟩
          simp only[hlt,if_true]
          exact h1.mono (fun _ h=>h) (fun b2 h=>hold b2 (hS b2 h).1) (fun _ h=>h) fun b2 h=>hold b2 (hF b2 (hGoF j b2 h))
        · rw[List.getElem?_append_right (by omega)] at hx
          obtain⟨us,h1,h2⟩:=hnE (j-xs.length) x hx
          refine⟨us,?_,fun q v hq=>?_⟩
          · simp only[hlt,if_false]
            exact h1.mono (fun _ h=>h) (fun b2 h=>hold b2 (hS b2 h).1) (fun _ h=>h) fun b2 h=>hold b2 (hG b2 (hGi _ b2 h)).1
          · have:=hget2 _ v (h2 q v hq)
            have e:xs.length*u.size+((j-xs.length)*u.size+q)=j*u.size+q:=by
              rw[← Nat.add_assoc,← Nat.add_mul];congr 2;omega
            rwa [e] at this
end
end Ve
namespace Ve
open Go
section
variable {S S':qab} {w w':World} {g g':Nat→Value} {C:Ctx} {F F':Nat→qab} {st:St} {tm:Array Value} {P:Program} {ρ:Type}
theorem Src.mono{d:Bool}{u:Ty}{ys:List u.T}{X:Value}{G G':qab}(hG:∀ b,G b→G' b)(h:Src S w d u ys X G):Src S w d u ys X G':=by
 obtain⟨A,c,hX,h⟩:=h
 exact⟨A,c,hX,h.imp id fun⟨b,o,news,Gi,h1,h2,h3,h4,h5⟩=>⟨b,o,news,Gi,h1,h2,h3,fun i b h=>hG b (h4 i b h),h5⟩⟩
theorem Sim.freeG(hs:Sim C S g F st tm w){G:qab}(hG:∀ b,G b→C.O b∧b<w.heap.size∧∀ s p,qad st.ob s=some p→p.frozen=false→¬ F s b) :
  Sim C (fun b=>S b∨G b) g F st tm w:=by
 refine hs.extS (fun _ h=>.inl h) ?_ ?_ ?_
 ·rintro b (h | h)
  ·exact hs.szS b h
  ·exact(hG b h).2.1
 ·rintro b (h | h)
  ·exact hs.SO b h
  ·exact .inr (hG b h).1
 ·rintro s p hp hpf b hb (h | h)
  ·exact(hs.prv s p hp hpf b hb).1 h
  ·exact(hG b h).2.2 s p hp hpf hb
theorem St.kill_setOb(st:St)(s:Nat)(o:Option Obj)(o':Option Obj):((st.setOb s o).kill s).setOb s o'=(st.kill s).setOb s o':=by
 unfold St.setOb St.kill
 simp[List.map_set]
theorem qiN{o:Oper}{t:TypeId}{vs vx:V}{Sv Xv:Value}{a:Act}{K:V→St→Option ρ}{r:ρ}(hs:Sim C S g F st a.tmps w)(hS:VR S w g vs Sv)(hX:VR S w g vx Xv)
    (hexec:∀ v' w',(Builtin.append_ #[t,t] o.type #[Sv,Xv]).run P w=.ok v' w'→(execOp a.eval o).run P w=.ok (.value v') w') (h:qg0 P t vs vx o.dst st K=some r)
    {M:List Nat} (hM1:∀ c∈vs.cells,∀ s∈c.site,s∈M) (hM2:∀ c∈vx.cells,∀ s∈c.site,s∈M):qb2 P o a C S g F st w K r M:=by
  unfold qg0 at h
  split at h
  · rename_i e u he
    obtain⟨hu,_,hcells,hpos,hbpos,d,hde⟩:=qjw he
    obtain⟨inf,z,hi,hz,hzs,hisz,hiby⟩:=qjj he
    rw[← hiby] at hbpos
    split at h
    · rename_i xc
      obtain⟨ys,hys,h⟩:=Option.bind_eq_some_iff.1 h
      simp only[← hiby] at h
      have stepA:∃ S1,∃ G:qab,Sim C S1 g F (bif u.flat then(true,st) else qbS st [xc]).2 a.tmps w∧(∀ b,S b→S1 b) ∧
          (∀ s o,qad (bif u.flat then(true,st) else qbS st [xc]).2.ob s=some o→∃ o',qad st.ob s=some o'∧(o.frozen=false→o'.frozen=false)) ∧
          (∀ b,G b→¬ S1 b∧C.O b∧b<w.heap.size∧(∀ s o,qad (bif u.flat then(true,st) else qbS st [xc]).2.ob s=some o→o.frozen=false→¬ F s b) ∧
            ∃ s∈M,∃ o,qad st.ob s=some o∧F s b) ∧
          ∀(d2:Bool) (S2:qab),(∀ b,S1 b→S2 b)→(d2=true→(u.flat || (bif u.flat then(true,st) else qbS st [xc]).1)=true)→(d2=false→∀ b,G b→S2 b) →
            Src S2 w d2 u ys Xv (fun b=>d2=true∧G b):=by
        cases hfl:u.flat with
        | true =>
          simp only[cond_true]
          refine⟨S,fun _=>False,hs,fun _ h=>h,fun s o h=>⟨o,h,fun h=>h⟩,fun _ h=>h.elim,fun d2 S2 hS2 _ _=>?_⟩
          have:=qck hs (S':=fun _=>True) hys hX (fun _ _=>trivial) (fun _ _ _ _ _ _=>trivial)
          exact(Src.of_flat (S:=S2) (d:=d2) hfl this).mono fun _ h=>h.elim
        | false =>
          simp only[cond_false,Bool.false_or]
          obtain⟨S1,G,hs1,hSS,hob1,hG,_,hE2⟩:=qen hs [xc]
          have hEl:=hE2 (v:=xc) rfl hys hX
          refine⟨S1,G,hs1,hSS,hob1,fun b hb=>?_,fun d2 S2 hS2 hd hd'=>?_⟩
          · obtain⟨h1,h2,h3,h4,v,hv,s,hsv,o,ho,hF⟩:=hG b hb
            obtain rfl:v=xc:=by simpa using hv
            exact⟨h1,h2,h3,h4,s,hM2 v (by simp[V.cells]) s hsv,o,ho,hF⟩
          · cases d2 with
            | true =>
              rw[hd rfl] at hEl
              exact(Src.of_el (S:=S2) (d:=true) hEl).mono fun _ h=>⟨rfl,h⟩
            | false =>
              have:Rp S2 w (.sl u) ys [Xv]:=(hEl.mono (S':=S2) hS2 (fun _ _=>rfl) (fun _ h=>h) fun _ _=>rfl).freeze (hd' rfl)
              exact Src.of_el (S:=S2) (d:=false) (G:=_) this
      obtain⟨S1,G,hs1,hSS,hob1,hG,hsrc⟩:=stepA
      generalize (bif u.flat then(true,st) else qbS st [xc])=r1 at *
      have stepB:∀(d2:Bool) {F2:Nat→qab} {S2:qab} {st2:St},Sim C S2 g F2 st2 a.tmps w→(∀ b,S1 b→S2 b)→(d2=true→(u.flat || r1.1)=true) →
          (∀ b,G b→¬ S2 b∧∀ s p,qad st2.ob s=some p→p.frozen=false→¬ F2 s b) →
          ∃ S3,∃ G3:qab,Sim C S3 g F2 st2 a.tmps w∧(∀ b,S2 b→S3 b)∧Src S3 w d2 u ys Xv G3∧(∀ b,G3 b→G b∧¬ S3 b):=by
        intro d2 F2 S2 st2 hs2 hS12 hd hG2
        cases d2 with
        | true=>exact⟨S2,G,hs2,fun _ h=>h,(hsrc true S2 hS12 hd (fun h=>by cases h)).mono fun _ h=>h.2,fun b h=>⟨h,(hG2 b h).1⟩⟩
        | false =>
          refine⟨fun b=>S2 b∨G b,fun _=>False,hs2.freeG fun b h=>⟨(hG b h).2.1,(hG b h).2.2.1,(hG2 b h).2⟩,fun _ h=>.inl h,
            (hsrc false _ (fun b h=>.inl (hS12 b h)) (fun h=>by cases h) fun _ b h=>.inr h).mono fun _ h=>(nomatch h.1),fun _ h=>h.elim⟩
      split at h
      · -- onto nil
        rename_i ty
        split at h
        · rename_i site hdst
          obtain⟨hck,h⟩:=qaQ h
          obtain⟨A,rfl⟩:=hS
          obtain⟨S3,G3,hs3,hS3,hsr,hG3⟩:=stepB (u.flat || r1.1) hs1 (fun _ h=>h) (fun h=>h) fun b h=>⟨(hG b h).1,(hG b h).2.2.2.1⟩
          have hown:qar S3 w (u.flat || r1.1) u [] (.slice A 0 0) (fun _=>False):=⟨A,0,rfl,⟨Nat.le_refl _,Nat.zero_le _⟩,.inl rfl⟩
          obtain⟨v',w',hrun,hsl,hown',hkp,hsz,hkin⟩:=qiC (P:=P) (t:=t) (ty:=o.type) hu hi hz hzs hisz hpos hbpos hown hsr (fun b h=>⟨hs3.szS b h,id⟩) (fun _ h=>h.elim) (fun b h=>⟨(hG b (hG3 b h).1).2.2.1,id⟩) (by simpa using hck)
          rw[List.nil_append] at hown'
          have hfin:=hs3.newG (w':=w') site (.arr u ys (u.flat || r1.1) false false) v' (fun b=>False∨G3 b∨(b=w.heap.size∧b<w'.heap.size)) hsz (fun b hb _=>hkp b hb id) rfl rfl (by unfold ObR;simp only[qaj];exact hown') (by
            rintro b (hb | hb | hb)
            · exact hb.elim
            · have:=hG b (hG3 b hb).1
              exact .inr ⟨(hG3 b hb).2,this.2.1,this.2.2.1,fun s' p _ hp hpf=>this.2.2.2.1 s' p hp hpf⟩
            · exact .inl ⟨by omega,hb.2⟩) hkin
          refine qb2.value ⟨v',.c (.arr site),_,S3,_,_,_,hexec _ _ hrun,hfin,⟨(qaj _ _ _).symm,hsl⟩,h,fun b h=>hS3 b (hSS b h),fun b hb _=>hkp b hb id,fun b hb=>hkp b (hs.szS b hb) id,fun s' p hp hpf b hb=>?_,hsz⟩
          by_cases hss:s'=site
          · subst hss
            rw[qaj] at hb
            rcases hb with hb | hb | hb
            · exact hb.elim
            · exact .inr (.inr (hG b (hG3 b hb).1).2.2.2.2)
            · exact .inl (by omega)
          · rw[qav _ _ hss] at hb
            rw[St.setOb,qam _ _ hss] at hp
            obtain⟨p',hp',rfl⟩:=qaZ hp
            rw[Obj.frozen_kill] at hpf
            obtain⟨p2,hp2,hpf2⟩:=hob1 s' p' hp'
            exact .inr (.inl ⟨p2,hp2,hpf2 hpf,hb⟩)
        · cases h
      · -- onto a row
        rename_i s _
        split at h
        · rename_i u1 xs d1 ho1
          obtain⟨xs1,hx1,h⟩:=Option.bind_eq_some_iff.1 h
          obtain⟨e1,rfl⟩:=cast?_some hx1
          cases e1
          obtain⟨hck,h⟩:=qaQ h
          obtain⟨rfl,_⟩:=hS
          cases hrf:xc.refs s with
          | true=>rw[hrf] at h;cases h
          | false =>
            rw[hrf,cond_false] at h
            have hsM:s∈M:=hM1 (.arr s) (by simp[V.cells]) s (by simp[V0.site])
            obtain⟨S2,Fs,hs2,hS2,hS2',hFs⟩:=hs1.weakenTo ho1 (u.flat || r1.1)
            have hGF:∀ b',G b'→¬ F s b':=fun b' h'=>(hG b' h').2.2.2.1 s _ ho1 rfl
            have hun2:∀ s' p,qad (r1.2.setOb s (some (.arr u xs (d1&&(u.flat || r1.1)) false false))).ob s'=some p→p.frozen=false→∀ b',upd F s Fs s' b'→F s' b'∧∃ p',qad r1.2.ob s'=some p'∧p'.frozen=false:=by
              intro s' p hp hpf b' hb'
              by_cases hss:s'=s
              · subst hss;rw[qaj] at hb';exact⟨hFs b' hb',_,ho1,rfl⟩
              · rw[qav _ _ hss] at hb'
                rw[St.setOb,qam _ _ hss] at hp
                exact⟨hb',p,hp,hpf⟩
            obtain⟨S3,G3,hs3,hS3,hsr,hG3⟩:=stepB (d1&&(u.flat || r1.1)) hs2 hS2 (fun h=>by simp only[Bool.and_eq_true] at h;exact h.2) fun b h =>
              ⟨fun h'=>(hS2' b h').elim (hG b h).1 (hGF b h),fun s' p hp hpf hb=>by
                obtain⟨hb2,p',hp',hpf'⟩:=hun2 s' p hp hpf b hb
                exact(hG b h).2.2.2.1 s' p' hp' hpf' hb2⟩
            have ho3:qad (r1.2.setOb s (some (.arr u xs (d1&&(u.flat || r1.1)) false false))).ob s=some (.arr u xs (d1&&(u.flat || r1.1)) false false):=by
              have hlt:=(List.getElem?_eq_some_iff.1 (qcn ho1)).1
              unfold St.setOb qad
              rw[List.getD_eq_getElem?_getD,List.getElem?_set_self hlt]
              rfl
            have hown3:qar S3 w (d1&&(u.flat || r1.1)) u xs (g s) Fs:=by
              have:=hs3.ob s _ ho3
              unfold ObR at this;simp only[qaj] at this;exact this
            have hpr3:=hs3.prv s _ ho3 rfl
            rw[qaj] at hpr3
            have hFsz:∀ b,Fs b→b<w.heap.size:=fun b hb=>hs1.szF s _ ho1 b (hFs b hb)
            obtain⟨v',w',hrun,hsl,hown',hkp,hsz,hkin⟩:=qiC (P:=P) (t:=t) (ty:=o.type) hu hi hz hzs hisz hpos hbpos hown3 hsr (fun b h=>⟨hs3.szS b h,fun hF=>(hpr3 b hF).1 h⟩) hFsz
              (fun b h=>⟨(hG b (hG3 b h).1).2.2.1,fun hF=>hGF b (hG3 b h).1 (hFs b hF)⟩) (by simpa using hck)
            have hfin:=hs3.newG (w':=w') s (.arr u (xs++ys) (d1&&(u.flat || r1.1)) false false) v' (fun b=>Fs b∨G3 b∨(b=w.heap.size∧b<w'.heap.size)) hsz
              (fun b hb hn=>hkp b hb fun hF=>hn _ ho3 rfl (by rw[qaj];exact hF)) rfl rfl (by unfold ObR;simp only[qaj];exact hown') (by
              rintro b (hb | hb | hb)
              · refine .inr ⟨(hpr3 b hb).1,(hpr3 b hb).2,hFsz b hb,fun s' p hne hp hpf hb'=>?_⟩
                exact hs3.dis s s' _ p (Ne.symm hne) ho3 hp rfl hpf b (by rw[qaj];exact hb) hb'
              · have:=hG b (hG3 b hb).1
                refine .inr ⟨(hG3 b hb).2,this.2.1,this.2.2.1,fun s' p _ hp hpf hb'=>?_⟩
                obtain⟨hb2,p',hp',hpf'⟩:=hun2 s' p hp hpf b hb'
                exact this.2.2.2.1 s' p' hp' hpf' hb2
              · exact .inl ⟨by omega,hb.2⟩) hkin
            rw[St.kill_setOb] at hfin
            obtain⟨os,hos,hosf⟩:=hob1 s _ ho1
            refine qb2.value ⟨v',.c (.arr s),_,S3,_,_,_,hexec _ _ hrun,hfin,⟨(qaj _ _ _).symm,hsl⟩,h,fun b h=>hS3 b (hS2 b (hSS b h)),fun b hb hk=>hkp b hb fun hF=>hk s hsM os hos (hFs b hF),
              fun b hb=>hkp b (hs.szS b hb) fun hF=>(hpr3 b hF).1 (hS3 b (hS2 b (hSS b hb))),fun s' p hp hpf b hb=>?_,hsz⟩
            by_cases hss:s'=s
            · subst hss
              rw[qaj] at hb
              rcases hb with hb | hb | hb
              · exact .inr (.inl ⟨os,hos,hosf rfl,hFs b hb⟩)
              · exact .inr (.inr (hG b (hG3 b hb).1).2.2.2.2)
              · exact .inl (by omega)
            · rw[qav _ _ hss,qav _ _ hss] at hb
              rw[St.setOb,qam _ _ hss] at hp
              obtain⟨p',hp',rfl⟩:=qaZ hp
              rw[Obj.frozen_kill] at hpf
              obtain⟨p2,hp2,hpf2⟩:=hob1 s' p' hp'
              exact .inr (.inl ⟨p2,hp2,hpf2 hpf,hb⟩)
        · cases h
      · cases h
    · cases h
  · cases h
end
end Ve
namespace Ve
open Go
section
variable {S S':qab} {w w':World} {g g':Nat→Value} {C:Ctx} {F F':Nat→qab} {st:St} {tm:Array Value} {P:Program} {ρ:Type}
theorem qar.splice{d:Bool}{t:Ty}{xs zs:List t.T}{n c:Nat}{Fs:qab}{b:Nat}{arr:Array Value}{e:TypeId}{lo:Nat}{news:List Value}{cs:Array Value}(hfl:t.flat=true)
  (h:qar S w d t xs (.slice (some ⟨b,0,none⟩) n c) Fs) (hh:w.heap[b]? = some (.cells arr e (0,0))) (hc0:0<c) (hlo:lo+zs.length≤n)
  (hcs:cs.toList=putCells arr.toList (lo*t.size) news) (hnl:news.length=zs.length*t.size)
  (hz:∀(i:Nat) x,zs[i]? = some x→∃ us,El S w false t x us (fun _=>False)∧∀(j:Nat) v,us[j]? = some v→news[i*t.size+j]? = some v) :
  qar S (w.setRow b cs) d t (xs.take lo++zs++xs.drop (lo+zs.length)) (.slice (some ⟨b,0,none⟩) n c) Fs:=by
 obtain⟨A,c',hv,hc,h⟩:=h
 obtain⟨rfl,rfl,rfl⟩:some ⟨b,0,none⟩=A∧n=xs.length∧c=c':=by simpa using hv
 rcases h with h | ⟨b',arr',e',G,hA,hb,hh',hsz,hGG,hd,he⟩
 ·omega
 ·obtain rfl:b=b':=by simpa using hA
  rw[hh] at hh'
  obtain⟨rfl,rfl⟩:arr=arr'∧e=e':=by simpa using hh'
  have hmul:(lo+zs.length)*t.size≤c*t.size:=Nat.mul_le_mul_right _ (by omega)
  rw[Nat.add_mul] at hmul
  have hfit:lo*t.size+news.length≤arr.toList.length:=by rw[hnl];simp only[Array.length_toList,hsz];omega
  have hget:∀ j:Nat,cs[j]? = if lo*t.size≤j∧j<lo*t.size+news.length then news[j-lo*t.size]? else arr[j]?:=by
   intro j
   have:=qc3 (j:=j) hfit
   rw[← hcs] at this
   simpa using this
  have hlen:(xs.take lo++zs++xs.drop (lo+zs.length)).length=xs.length:=by simp;omega
  refine⟨_,c,by rw[hlen],by rw[hlen];exact hc,.inr ⟨b,cs,e,G,rfl,hb,setRow_heap w b arr cs e _ hh,?_,hGG,hd,?_⟩⟩
  ·have:=congrArg List.length hcs
   simp only[Array.length_toList,putCells,List.length_append,List.length_take,List.length_drop] at this
   simp only[Array.length_toList] at hfit
   omega
  ·intro j x hx
   have hl1:(xs.take lo).length=lo:=by simp;omega
   by_cases h1:j<lo
   ·rw[List.append_assoc,List.getElem?_append_left (by omega),List.getElem?_take_of_lt h1] at hx
    obtain⟨us,hE,hg⟩:=he j x hx
    refine⟨us,hE.flat hfl,fun q u hq=>?_⟩
    have hql:=(List.getElem?_eq_some_iff.1 hq).1
    rw[hE.len] at hql
    have:(j+1)*t.size≤lo*t.size:=Nat.mul_le_mul_right _ h1
    rw[Nat.add_mul] at this
    rw[hget,if_neg (by omega)]
    exact hg q u hq
   ·by_cases h2:j<lo+zs.length
    ·rw[List.append_assoc,List.getElem?_append_right (by omega),hl1,List.getElem?_append_left (by omega)] at hx
     obtain⟨us,hE,hg⟩:=hz (j-lo) x hx
     refine⟨us,hE.flat hfl,fun q u hq=>?_⟩
     have hq2:=hg q u hq
     have hql:=(List.getElem?_eq_some_iff.1 hq2).1
     have e1:j*t.size+q=lo*t.size+((j-lo)*t.size+q):=by
      rw[← Nat.add_assoc,← Nat.add_mul];congr 2;omega
     rw[hget,e1,if_pos (by omega),Nat.add_sub_cancel_left]
     exact hq2
    ·rw[List.getElem?_append_right (by simp;omega),List.getElem?_drop] at hx
     have e1:lo+zs.length+(j-(xs.take lo++zs).length)=j:=by simp;omega
     rw[e1] at hx
     obtain⟨us,hE,hg⟩:=he j x hx
     refine⟨us,hE.flat hfl,fun q u hq=>?_⟩
     have:(lo+zs.length)*t.size≤j*t.size:=Nat.mul_le_mul_right _ (by omega)
     rw[Nat.add_mul] at this
     rw[hget,if_neg (by rw[hnl];omega)]
     exact hg q u hq
theorem Src.take{u:Ty}{ys:List u.T}{X:Value}{G:qab}(h:Src S w false u ys X G)(k:Nat)(hk:k≤ys.length)(hk0:k≠0) :
  ∃ b o c news,X=.slice (some ⟨b,o,none⟩) ys.length c∧news.length=k*u.size∧At w b o news∧(∀ v∈news,v.oneCell'=true) ∧
   ∀(i:Nat) x,(ys.take k)[i]? = some x→∃ us,El S w false u x us (fun _=>False)∧∀(j:Nat) v,us[j]? = some v→news[i*u.size+j]? = some v:=by
 obtain⟨A,c,rfl,h⟩:=h
 rcases h with rfl | ⟨b,o,news,Gi,rfl,hl,hA,_,_,hE,h1⟩
 ·simp at hk;omega
 ·have hle:k*u.size≤ys.length*u.size:=Nat.mul_le_mul_right _ hk
  refine⟨b,o,c,news.take (k*u.size),rfl,by simp;omega,hA.take _,fun v hv=>h1 v (List.mem_of_mem_take hv),fun i x hx=>?_⟩
  rw[List.getElem?_take] at hx
  split at hx
  ·rename_i hik
   obtain⟨us,hE1,hg⟩:=hE i x hx
   refine⟨us,hE1,fun j v hj=>?_⟩
   have hjl:=(List.getElem?_eq_some_iff.1 hj).1
   rw[hE1.len] at hjl
   have:(i+1)*u.size≤k*u.size:=Nat.mul_le_mul_right _ hik
   rw[Nat.add_mul] at this
   rw[List.getElem?_take_of_lt (by omega)]
   exact hg j v hj
  ·cases hx
theorem qkL{o:Oper}{t t2:TypeId}{vd vx:V}{Dv Xv:Value}{a:Act}{K:V→St→Option ρ}{r:ρ}(hs:Sim C S g F st a.tmps w)(hD:VR S w g vd Dv)(hX:VR S w g vx Xv)
    (hexec:∀ v' w',(Builtin.copy_ #[t,t2] o.type #[Dv,Xv]).run P w=.ok v' w'→(execOp a.eval o).run P w=.ok (.value v') w') (h:qmY P t vd vx st K=some r)
    {M:List Nat} (hM1:∀ c∈vd.cells,∀ s∈c.site,s∈M):qb2 P o a C S g F st w K r M:=by
  unfold qmY at h
  split at h
  · rename_i e u he
    obtain⟨hu,_,hcells,hpos,hbpos,d,hde⟩:=qdF he
    obtain⟨inf,z,hi,hz,hzs,hisz,hiby⟩:=qim he
    split at h
    · rename_i hfl
      split at h
      · rename_i dst srcc
        have main:∀(s lo hi:Nat) (A':Option Addr) (cc:Nat),s∈M→Dv=.slice A' (hi-lo) cc→(∃ A n c,g s=.slice A n c∧(lo<c→∃ b,A=some ⟨b,0,none⟩∧A'=some ⟨b,lo*u.size,none⟩)) →
            (match qad st.ob s with
              | some (.arr u' xs d false fx)=>bif srcc.refs s then none else(cast? (.sl u') (.sl u) xs).bind fun xs=>(qf7 st.ob (.sl u) srcc).bind fun ys =>
                  (chk (decide (lo≤hi)&&decide (hi≤xs.length))).bind fun _ =>
                    K (vI .i64 (min ys.length (hi-lo):Nat)) (st.setOb s (some (.arr u (xs.take lo++ys.take (hi-lo)++xs.drop (lo+(ys.take (hi-lo)).length)) d false fx)))
              | _=>none)=some r→qb2 P o a C S g F st w K r M:=by
          intro s lo hi2 A' cc hsM hDv hg h
          split at h
          · rename_i u1 xs1 d1 fx1 ho1
            cases hrf:srcc.refs s with
            | true=>rw[hrf] at h;cases h
            | false =>
              rw[hrf,cond_false] at h
              obtain⟨xs2,hx2,h⟩:=Option.bind_eq_some_iff.1 h
              obtain⟨e1,rfl⟩:=cast?_some hx2
              cases e1
              obtain⟨ys,hys,h⟩:=Option.bind_eq_some_iff.1 h
              obtain⟨hck,h⟩:=qaQ h
              simp only[Bool.and_eq_true,decide_eq_true_eq] at hck
              obtain⟨A,n,c,hgs,hA⟩:=hg
              have hown:qar S w d1 u xs1 (g s) (F s):=hs.ob s _ ho1
              rw[hgs] at hown
              have hnx:n=xs1.length∧n≤c:=by
                obtain⟨A2,c2,hv,hc,_⟩:=hown
                obtain⟨rfl,rfl,rfl⟩:A=A2∧n=xs1.length∧c=c2:=by simpa using hv
                exact⟨rfl,hc.1⟩
              have hsrc0:=qck hs (S':=fun _=>True) hys hX (fun _ _=>trivial) (fun _ _ _ _ _ _=>trivial)
              have hsrc:=Src.of_flat (S:=S) (d:=false) hfl hsrc0
              have hxl:∃ Ax cx,Xv=.slice Ax ys.length cx:=by obtain⟨Ax,cx,hX,_⟩:=hsrc;exact⟨Ax,cx,hX⟩
              have htl:(ys.take (hi2-lo)).length=min ys.length (hi2-lo):=by simp[Nat.min_comm]
              have hszr:=qb0 hde w
              rw[hcells] at hszr
              by_cases hm0:min ys.length (hi2-lo)=0
              · -- nothing
                obtain⟨Ax,cx,hXv⟩:=hxl
                have ht0:ys.take (hi2-lo)=[]:=List.length_eq_zero_iff.1 (by omega)
                rw[ht0] at h
                simp only[List.append_nil,List.length_nil,Nat.add_zero,List.take_append_drop] at h
                rw[St.setOb_same ho1] at h
                have hn0:Nat.min ys.length (hi2-lo)=0:=hm0
                refine qb2.value ⟨goInt 0,_,st,S,g,F,w,hexec _ _ ?_,hs,?_,h,Moved.refl _⟩
                · rw[hDv,hXv]
                  cases A'<;>cases Ax<;>simp[Builtin.copy_,run_underlying hu,Builtin.lenOf,Builtin.firstCells,hszr,hn0,loadCells,loadCellsFrom,storeCells]
                · rw[hm0];rfl
              · obtain⟨b',o',c',news,rfl,hnl,hnA,hn1,hnE⟩:=hsrc.take (min ys.length (hi2-lo)) (Nat.min_le_left _ _) hm0
                have hlc:lo<c:=by omega
                obtain⟨b,rfl,rfl⟩:=hA hlc
                obtain⟨arr,e',hFb,hh,hasz,_,_⟩:=hown.block (i:=lo) (by omega)
                have htk:ys.take (min ys.length (hi2-lo))=ys.take (hi2-lo):=by
                  exact List.take_eq_take_iff.2 (by omega)
                rw[htk] at hnE
                have hfit:lo*u.size+news.length≤arr.size:=by
                  have:(lo+min ys.length (hi2-lo))*u.size≤c*u.size:=Nat.mul_le_mul_right _ (by omega)
                  rw[Nat.add_mul] at this
                  rw[hnl,hasz];omega
                have hst:=run_storeCells_at P b (lo*u.size) e' news 0 arr w hh (by simpa using hfit) hn1
                simp only[Nat.add_zero] at hst
                have hnews:∀(j:Nat) v,news[j]? = some v→w.cell? ((⟨b',o',none⟩:Addr).add j)=some v:=fun j v hj=>by rw[Addr.add_lit];exact hnA j v hj
                have hf:=run_loadCells_list (P:=P) w ⟨b',o',none⟩ news hnews
                have hrun:(Builtin.copy_ #[t,t2] o.type #[Dv,.slice (some ⟨b',o',none⟩) ys.length c']).run P w =
                    .ok (goInt (min ys.length (hi2-lo):Nat)) (w.setRow b (arr.toList.take (lo*u.size)++news++arr.toList.drop (lo*u.size+news.length)).toArray):=by
                  have hmn:Nat.min ys.length (hi2-lo)=min ys.length (hi2-lo):=rfl
                  rw[hDv]
                  simp[Builtin.copy_,run_underlying hu,Builtin.lenOf,Builtin.firstCells,hszr,hmn,← hnl,hf,hst]
                have hput:(arr.toList.take (lo*u.size)++news++arr.toList.drop (lo*u.size+news.length)).toArray.toList=putCells arr.toList (lo*u.size) news:=by simp[putCells]
                generalize (arr.toList.take (lo*u.size)++news++arr.toList.drop (lo*u.size+news.length)).toArray=cs at hrun hput
                have hspl:=hown.splice (zs:=ys.take (hi2-lo)) hfl hh (by omega) (by omega) hput (by rw[hnl,htl]) hnE
                obtain⟨h1,h2⟩:=hs.store (o':=.arr u (xs1.take lo++ys.take (hi2-lo)++xs1.drop (lo+(ys.take (hi2-lo)).length)) d1 false fx1) ho1 rfl hFb cs rfl rfl (by
                  unfold ObR;simp only;rw[hgs];exact hspl)
                exact qb2.value ⟨_,_,_,S,g,F,_,hexec _ _ hrun,h1,by rfl,h,h2.weaken fun s' hs'=>by simp at hs';subst hs';exact hsM⟩
          · cases h
        split at h
        · rename_i s lo hi2 sz
          split at h
          · rename_i hsz
            obtain⟨A,n,c,A',hg,hDv,hlh,hn,hA⟩:=hD
            exact main s lo hi2 A' (c-lo) (hM1 (.sub s lo hi2 sz) (by simp[V.cells]) s (by simp[V0.site])) hDv ⟨A,n,c,hg,fun hlc=>by rw[← hsz];exact hA hlc⟩ h
          · cases h
        · rename_i s
          split at h
          · rename_i u2 xs2 d2 fz2 fx2 ho2
            obtain⟨hDv,A,n,c,hAn⟩:=hD
            have hown:qar S w d2 u2 xs2 (g s) (F s):=hs.ob s _ ho2
            obtain⟨A2,c2,hv,hc,hrow⟩:=hown
            refine main s 0 xs2.length A2 c2 (hM1 (.arr s) (by simp[V.cells]) s (by simp[V0.site])) (by rw[hDv,hv];rfl) ⟨A2,xs2.length,c2,hv,fun h0=>?_⟩ h
            rcases hrow with h0' | ⟨b,_,_,_,hA,_⟩
            · omega
            · exact⟨b,hA,by rw[hA,Nat.zero_mul]⟩
          · cases h
        · cases h
      · cases h
    · cases h
  · cases h
theorem qar.spliceN{t:Ty}{xs zs:List t.T}{n c:Nat}{Fs:qab}{b:Nat}{arr:Array Value}{e:TypeId}{lo:Nat}{news:List Value}{cs:Array Value}(hSb:¬ S b)
  (h:qar S w false t xs (.slice (some ⟨b,0,none⟩) n c) Fs) (hh:w.heap[b]? = some (.cells arr e (0,0))) (hc0:0<c) (hlo:lo+zs.length≤n)
  (hcs:cs.toList=putCells arr.toList (lo*t.size) news) (hnl:news.length=zs.length*t.size)
  (hz:∀(i:Nat) x,zs[i]? = some x→∃ us,El S w false t x us (fun _=>False)∧∀(j:Nat) v,us[j]? = some v→news[i*t.size+j]? = some v) :
  qar S (w.setRow b cs) false t (xs.take lo++zs++xs.drop (lo+zs.length)) (.slice (some ⟨b,0,none⟩) n c) Fs:=by
 have keep:∀ {x:t.T} {us:List Value} {G G':qab},El S w false t x us G→El S (w.setRow b cs) false t x us G':=fun hE=>Rp.mono (fun _ h=>h) (fun b' hb'=>by
  have hne:b'≠b:=fun e=>hSb (e ▸ hb')
  exact setRow_other w b b' cs hne) _ _ _ hE
 obtain⟨A,c',hv,hc,h⟩:=h
 obtain⟨rfl,rfl,rfl⟩:some ⟨b,0,none⟩=A∧n=xs.length∧c=c':=by simpa using hv
 rcases h with h | ⟨b',arr',e',G,hA,hb,hh',hsz,hGG,hd,he⟩
 ·omega
 ·obtain rfl:b=b':=by simpa using hA
  rw[hh] at hh'
  obtain⟨rfl,rfl⟩:arr=arr'∧e=e':=by simpa using hh'
  have hmul:(lo+zs.length)*t.size≤c*t.size:=Nat.mul_le_mul_right _ (by omega)
  rw[Nat.add_mul] at hmul
  have hfit:lo*t.size+news.length≤arr.toList.length:=by rw[hnl];simp only[Array.length_toList,hsz];omega
  have hget:∀ j:Nat,cs[j]? = if lo*t.size≤j∧j<lo*t.size+news.length then news[j-lo*t.size]? else arr[j]?:=by
   intro j
   have:=qc3 (j:=j) hfit
   rw[← hcs] at this
   simpa using this
  have hlen:(xs.take lo++zs++xs.drop (lo+zs.length)).length=xs.length:=by simp;omega
  refine⟨_,c,by rw[hlen],by rw[hlen];exact hc,.inr ⟨b,cs,e,G,rfl,hb,setRow_heap w b arr cs e _ hh,?_,hGG,hd,?_⟩⟩
  ·have:=congrArg List.length hcs
   simp only[Array.length_toList,putCells,List.length_append,List.length_take,List.length_drop] at this
   simp only[Array.length_toList] at hfit
   omega
  ·intro j x hx
   have hl1:(xs.take lo).length=lo:=by simp;omega
   by_cases h1:j<lo
   ·rw[List.append_assoc,List.getElem?_append_left (by omega),List.getElem?_take_of_lt h1] at hx
    obtain⟨us,hE,hg⟩:=he j x hx
    refine⟨us,keep hE,fun q u hq=>?_⟩
    have hql:=(List.getElem?_eq_some_iff.1 hq).1
    rw[hE.len] at hql
    have:(j+1)*t.size≤lo*t.size:=Nat.mul_le_mul_right _ h1
    rw[Nat.add_mul] at this
    rw[hget,if_neg (by omega)]
    exact hg q u hq
   ·by_cases h2:j<lo+zs.length
    ·rw[List.append_assoc,List.getElem?_append_right (by omega),hl1,List.getElem?_append_left (by omega)] at hx
     obtain⟨us,hE,hg⟩:=hz (j-lo) x hx
     refine⟨us,keep hE,fun q u hq=>?_⟩
     have hq2:=hg q u hq
     have hql:=(List.getElem?_eq_some_iff.1 hq2).1
     have e1:j*t.size+q=lo*t.size+((j-lo)*t.size+q):=by
      rw[← Nat.add_assoc,← Nat.add_mul];congr 2;omega
     rw[hget,e1,if_pos (by omega),Nat.add_sub_cancel_left]
     exact hq2
    ·rw[List.getElem?_append_right (by simp;omega),List.getElem?_drop] at hx
     have e1:lo+zs.length+(j-(xs.take lo++zs).length)=j:=by simp;omega
     rw[e1] at hx
     obtain⟨us,hE,hg⟩:=he j x hx
     refine⟨us,keep hE,fun q u hq=>?_⟩
     have:(lo+zs.length)*t.size≤j*t.size:=Nat.mul_le_mul_right _ (by omega)
     rw[Nat.add_mul] at this
     rw[hget,if_neg (by rw[hnl];omega)]
     exact hg q u hq
theorem qjQ{o:Oper}{t:TypeId}{vd:V}{Dv:Value}{a:Act}{K:V→St→Option ρ}{r:ρ}(hs:Sim C S g F st a.tmps w)(hD:VR S w g vd Dv)
    (hexec:∀ v' w',(Builtin.clear_ #[t] o.type #[Dv]).run P w=.ok v' w'→(execOp a.eval o).run P w=.ok (.value v') w') (h:qkq P t vd st K=some r)
    {M:List Nat} (hM1:∀ c∈vd.cells,∀ s∈c.site,s∈M):qb2 P o a C S g F st w K r M:=by
  unfold qkq at h
  split at h
  · rename_i s lo hi sz
    split at h
    · rename_i u xs fx ho1
      split at h
      · rename_i e u' he
        split at h
        · rename_i z hz0
          split at h
          · rename_i hcond
            obtain⟨rfl,rfl,hzok⟩:=hcond
            obtain⟨hck,h⟩:=qaQ h
            simp only[Bool.and_eq_true,decide_eq_true_eq] at hck
            obtain⟨hu,_,hcells,hpos,hbpos,d,hde⟩:=qdF he
            obtain⟨inf,hinf,hz⟩:=Option.bind_eq_some_iff.1 hz0
            have hzc:z.cells.toList=[.slice none 0 0]:=by
              rcases hl:z.cells.toList with _ | ⟨v,_ | ⟨v',vs⟩⟩
              · rw[hl] at hzok;simp[qbT] at hzok
              · rw[hl] at hzok
                simp only[qbT,Bool.and_true] at hzok
                cases v<;>simp[qcL] at hzok
                rename_i A n c
                cases A<;>cases n<;>cases c<;>simp at hzok ⊢
              · rw[hl] at hzok;simp[qbT] at hzok
            have hzv:(zeroValue e).run P w=.ok z w:=by simp[zeroValue,typeInfo,hinf,hz]
            obtain⟨A,n,c,A',hgs,hDv,hlh,hn,hA⟩:=hD
            have hown:qar S w false (.lab (.sl u)) xs (g s) (F s):=hs.ob s _ ho1
            rw[hgs] at hown
            have hnx:n=xs.length∧n≤c:=by
              obtain⟨A2,c2,hv,hc,_⟩:=hown
              obtain⟨rfl,rfl,rfl⟩:A=A2∧n=xs.length∧c=c2:=by simpa using hv
              exact⟨rfl,hc.1⟩
            have hsM:s∈M:=hM1 (.sub s lo hi 1) (by simp[V.cells]) s (by simp[V0.site])
            by_cases hm0:hi-lo=0
            · have hrun:(Builtin.clear_ #[t] o.type #[Dv]).run P w=.ok (.tuple #[]) w:=by
                rw[hDv,hm0]
                cases A'<;>simp[Builtin.clear_,run_underlying hu]
              have hl0:xs.take lo++List.replicate (hi-lo) ((Value.slice none 0 0,[]):(Ty.lab (.sl u)).T)++xs.drop hi=xs:=by
                rw[hm0,show hi=lo by omega];simp
              rw[hl0,St.setOb_same ho1] at h
              exact qb2.value ⟨_,.tup [],st,S,g,F,w,hexec _ _ hrun,hs,⟨[],rfl,rfl⟩,h,Moved.refl _⟩
            · have hlc:lo<c:=by omega
              obtain⟨b,rfl,rfl⟩:=hA hlc
              obtain⟨arr,e',hFb,hh,hasz,_,_⟩:=hown.block (i:=lo) (by omega)
              have hSb:¬ S b:=(hs.prv s _ ho1 rfl b hFb).1
              have hts:(Ty.lab (.sl u)).size=1:=rfl
              rw[hts] at hasz
              have hzl:(Builtin.zeroCells z.cells (hi-lo)).toList=List.replicate (hi-lo) (Value.slice none 0 0):=by
                have hz1:z.cells=#[.slice none 0 0]:=by apply Array.ext';exact hzc
                unfold Builtin.zeroCells
                rw[hz1]
                apply List.ext_getElem
                · simp
                · intro i h1 h2
                  simp[Nat.mod_one]
              have hnl:(List.replicate (hi-lo) (Value.slice none 0 0)).length=hi-lo:=List.length_replicate
              have hst:=run_storeCells_at P b (lo*1) e' (List.replicate (hi-lo) (Value.slice none 0 0)) 0 arr w hh (by simp only[hnl];omega) (fun v hv=>by rw[(List.mem_replicate.1 hv).2];rfl)
              simp only[Nat.add_zero] at hst
              have hrun:(Builtin.clear_ #[t] o.type #[Dv]).run P w =
                  .ok (.tuple #[]) (w.setRow b (arr.toList.take (lo*1)++List.replicate (hi-lo) (Value.slice none 0 0)++arr.toList.drop (lo*1+(List.replicate (hi-lo) (Value.slice none 0 0)).length)).toArray):=by
                rw[hDv]
                obtain⟨m,hm⟩:∃ m,hi-lo=m+1:=⟨hi-lo-1,by omega⟩
                have hzl2:=hzl
                rw[hm] at hzl2 hst ⊢
                have hst2:=hst
                simp at hst2
                simp[Builtin.clear_,run_underlying hu,hzv,hzl2,hst2]
              have hput:(arr.toList.take (lo*1)++List.replicate (hi-lo) (Value.slice none 0 0)++arr.toList.drop (lo*1+(List.replicate (hi-lo) (Value.slice none 0 0)).length)).toArray.toList=putCells arr.toList (lo*1) (List.replicate (hi-lo) (Value.slice none 0 0)):=by simp[putCells]
              generalize (arr.toList.take (lo*1)++List.replicate (hi-lo) (Value.slice none 0 0)++arr.toList.drop (lo*1+(List.replicate (hi-lo) (Value.slice none 0 0)).length)).toArray=cs at hrun hput
              have hspl:=hown.spliceN (zs:=List.replicate (hi-lo) ((Value.slice none 0 0,[]):(Ty.lab (.sl u)).T)) hSb hh (by omega) (by simp only[List.length_replicate];omega) hput (by simp[hts]) (fun i x hx=>by
                rw[List.getElem?_replicate] at hx
                split at hx
                · rename_i hi'
                  obtain rfl:=Option.some.inj hx
                  refine⟨[.slice none 0 0],⟨rfl,none,0,rfl,Nat.le_refl _,.inl rfl⟩,fun j v hv=>?_⟩
                  match j,hv with
                  | 0,hv =>
                    obtain rfl:=Option.some.inj hv
                    rw[hts,List.getElem?_replicate,if_pos (by omega)]
                  | j+1,hv=>simp at hv
                · cases hx)
              rw[List.length_replicate,show lo+(hi-lo)=hi by omega] at hspl
              obtain⟨h1,h2⟩:=hs.store (o':=.arr (.lab (.sl u)) (xs.take lo++List.replicate (hi-lo) ((Value.slice none 0 0,[]):(Ty.lab (.sl u)).T)++xs.drop hi) false false fx) ho1 rfl hFb cs rfl rfl (by
                unfold ObR;simp only;rw[hgs];exact hspl)
              exact qb2.value ⟨_,.tup [],_,S,g,F,_,hexec _ _ hrun,h1,⟨[],rfl,rfl⟩,h,h2.weaken fun s' hs'=>by simp at hs';subst hs';exact hsM⟩
          · cases h
        · cases h
      · cases h
    · cases h
  · cases h
theorem qn2(ns:List Int)(s:ByteArray):ns.foldl (fun r n=>r.push (UInt8.ofNat n.toNat)) s=⟨s.data++(ns.map fun n=>UInt8.ofNat n.toNat).toArray⟩:=by
 induction ns generalizing s with
 | nil=>simp
 | cons n ns ih =>
  rw[List.foldl_cons,ih]
  simp[ByteArray.push]
theorem Sim.grow(hs:Sim C S g F st tm w)(hsz:w.heap.size≤w'.heap.size)(hb:∀ b,b<w.heap.size→w'.heap[b]? = w.heap[b]?)(hkin:Kin w w':=by first | exact⟨rfl,rfl,rfl,Nat.le_refl _⟩ | exact⟨rfl,rfl,rfl,Nat.le_succ _⟩) :
  Sim C (fun b=>S b∨(w.heap.size≤b∧b<w'.heap.size)) g F st tm w':=by
 refine(hs.world hsz hb hkin).extS (fun _ h=>.inl h) ?_ ?_ ?_
 ·rintro b (h | h)
  ·exact Nat.lt_of_lt_of_le (hs.szS b h) hsz
  ·exact h.2
 ·rintro b (h | h)
  ·exact hs.SO b h
  ·exact .inr (C.base b (Nat.le_trans hs.mono h.1))
 ·rintro s o ho hf b hb (h | h)
  ·exact(hs.prv s o ho hf b hb).1 h
  ·have:=hs.szF s o ho b hb;omega
theorem qhh{o:Oper}{src dst:TypeId}{vx:V}{X:Value}{a:Act}{K:V→St→Option ρ}{r:ρ}(hs:Sim C S g F st a.tmps w)(hX:VR S w g vx X)
  (hexec:∀ v' w',(convert src dst X).run P w=.ok v' w'→(execOp a.eval o).run P w=.ok (.value v') w') (h:qhu P src dst vx st (fun v=>K v st)=some r) (M:List Nat):qb2 P o a C S g F st w K r M:=by
 unfold qhu at h
 split at h
 ·rename_i d1 k hsrc hdst
  split at h
  ·rename_i k1 n hn
   obtain rfl:=V.int_sound hn hX
   refine qb2.value ⟨.int k (k.wrap n),vI k (k.wrap n),st,S,g,F,w,hexec _ _ ?_,hs,rfl,h,Moved.refl _⟩
   simp[convert,run_underlying hsrc,run_underlying hdst,Conv.intToInt]
  ·cases h
 ·rename_i e hsrc hdst
  split at h
  ·rename_i xc he
   obtain⟨ys,hys,h⟩:=Option.bind_eq_some_iff.1 h
   have hsrc0:=qck hs (S':=fun _=>True) hys hX (fun _ _=>trivial) (fun _ _ _ _ _ _=>trivial)
   refine qb2.value ⟨.string ⟨(ys.map fun n:Int=>UInt8.ofNat n.toNat).toArray⟩,vS ⟨(ys.map fun n:Int=>UInt8.ofNat n.toNat).toArray⟩,st,S,g,F,w,hexec _ _ ?_,hs,rfl,h,Moved.refl _⟩
   obtain⟨A,c,hv,hc,hx⟩:=hsrc0
   obtain rfl:X=.slice A ys.length c:=by simpa using hv
   rw[run_convert_bytes_string w src dst e A ys.length c hsrc he hdst]
   have hfold:=qn2 ys ByteArray.empty
   cases A with
   | none =>
    have:ys=[]:=by
     rcases hx with h | ⟨b,o,hA,_⟩
     ·exact h
     ·cases hA
    subst this
    rfl
   | some ad =>
    have hl:(loadCells ad ys.length).run P w=.ok (ys.map (Value.int .u8)).toArray w:=by
     rcases hx with rfl | ⟨b,o',hA,_,hE⟩
     ·rfl
     ·obtain rfl:ad=⟨b,o',none⟩:=by simpa using hA
      have:=run_loadCells_list (P:=P) w ⟨b,o',none⟩ (ys.map (Value.int .u8)) (fun j v hj=>by
       rw[List.getElem?_map] at hj
       obtain⟨y,hy,rfl⟩:=Option.map_eq_some_iff.1 hj
       obtain⟨us,hr,hat⟩:=hE j y hy
       cases hr
       rw[Addr.add_lit]
       simpa [Ty.size] using hat 0 _ rfl)
      simpa using this
    rw[run_bytesToString w ad ys.length c ys hl,hfold]
    simp
  ·cases h
 ·rename_i e hsrc hdst
  split at h
  ·rename_i s he hstr
   obtain rfl:=V.str_sound hstr hX
   have hold:∀ b,b<w.heap.size→(Lib.bytesWorld w e s).heap[b]? = w.heap[b]?:=fun b hb=>Lib.bytesWorld_at_old w e s b hb
   have hsz:=Lib.bytesWorld_size w e s
   have hs':=hs.grow (w':=Lib.bytesWorld w e s) (by omega) hold
   refine qb2.value ⟨_,_,st,_,g,F,_,hexec _ _ (Lib.run_convert_string_bytes w src dst e s hsrc hdst he),hs',?_,h,
    ⟨fun _ h=>.inl h,fun b hb _=>hold b hb,fun b hb=>hold b (hs.szS b hb),fun s' o' ho hf b hb=>.inr (.inl ⟨o',ho,hf,hb⟩),by omega⟩⟩
   have hll:(s.toList.map fun b=>(b.toNat:Int)).length=s.size:=by
    simp[ByteArray.toList_eq]
   refine⟨_,_,by rw[hll],by rw[hll];exact grownCap_ge w s.size 0 e,.inr ⟨w.heap.size,0,rfl,.inr ⟨Nat.le_refl _,by omega⟩,fun i x hx=>?_⟩⟩
   rw[List.getElem?_map] at hx
   obtain⟨y,hy,rfl⟩:=Option.map_eq_some_iff.1 hx
   have hil:i<s.size:=by
    have:=(List.getElem?_eq_some_iff.1 hy).1
    rw[List.length_map] at hll
    omega
   refine⟨[.int .u8 y.toNat],rfl,fun j v hj=>?_⟩
   have hj0:j=0:=by
    have:=(List.getElem?_eq_some_iff.1 hj).1
    simp at this;exact this
   subst hj0
   obtain rfl:Value.int .u8 y.toNat=v:=by simpa using hj
   have:=Lib.bytesWorld_cell w e s i hil
   have hd:s.data.toList.getD i 0=y:=by
    rw[ByteArray.toList_eq] at hy
    rw[List.getD_eq_getElem?_getD,hy];rfl
   rw[hd] at this
   simpa [Ty.size] using this
  ·cases h
 ·cases h
theorem qsY{vs:List V}{us:List Value}(h:qfc S w g vs us)(hc:vs.all V.isC=true):Cs S w g (vs.flatMap V.cells) us:=by
 induction vs generalizing us with
 | nil=>exact h
 | cons v vs ih =>
  obtain⟨u,us',rfl,h1,h2⟩:=h
  simp only[List.all_cons,Bool.and_eq_true] at hc
  cases v with
  | c v0=>exact⟨u,us',rfl,h1,ih h2 hc.2⟩
  | agg cs=>simp[V.isC] at hc
  | tup vs=>simp[V.isC] at hc
theorem qgS{o:Oper}{f:FuncId}{captured:Array Operand}{vs:List V}{a:Act}{ds:List Dv}{K:V→St→Option ρ}{r:ρ}(hs:Sim C S g F st a.tmps w)(ho:o.op=.makeFunc (.func f) #[] captured)
  (hR:qfc S w g vs (captured.toList.map a.eval)) (hc:vs.all V.isC=true) (hm:(vs.flatMap V.cells).mapM (frz st.ob)=some ds)
  (h:K (.c (.d (.fn f (qdS ds).t) (qdS ds).x)) { st with ob:=(vs.flatMap V.cells).foldl freeze st.ob }=some r) (M:List Nat):qb2 P o a C S g F st w K r M:=by
 obtain⟨S',h1,h2,h3⟩:=hs.freezes (vs.flatMap V.cells)
 have hcs:=qsY hR hc
 have hp:Rp S' w (qdS ds).t (qdS ds).x (captured.toList.map a.eval):=qd0 hm hcs fun c hc u d hd hv=>qdr hs hd hv h2.mS (h3 c hc)
 refine qb2.value ⟨.func (.func f) #[] (captured.map a.eval),_,_,S',g,F,w,?_,h1,?_,h,h2.weaken fun _ h=>by cases h⟩
 ·simp[execOp,ho,Instr.makeFunc]
 ·refine⟨_,?_,hp⟩
  rw[← List.map_toArray,Array.toArray_toList]
end
end Ve
namespace Ve
open Go
def qaR:List (Bool×Nat)→List Value→List Value
 | [],_=>[]
 | (a,n)::gs,us=>(if a then .agg (us.take n).toArray else us.headD Go.undef)::qaR gs (us.drop n)
def qmE(gs:List (Bool×Nat))(us:List Value):Value:=match gs with
 | [(a,_)]=>if a then .agg us.toArray else us.headD Go.undef
 | gs=>.tuple (qaR gs us).toArray
def IoR(S:qab)(w:World)(m:PM)(d:Dv)(u:Value)(G:qab):Prop:=match m with
 | .imm=>False
 | .iob=>(match d.t,d.x with
  | .ptr c,x=>∃ b arr e,u=.pointer (some ⟨b,0,none⟩)∧G b∧w.heap[b]? = some (.cells arr e (0,0))∧Rp S w c x arr.toList
  | _,_=>False)
 | .iobo k=>(match d.t,d.x with
  | .ptr c,x=>qnV S w c x k u G
  | _,_=>False)
 | .io dp | .take dp=>(match d.t,d.x with
  | .sl t,xs=>qar S w (t.flat || dp) t xs u G
  | _,_=>False)
def qr2(S:qab)(w:World)(m:PM)(d:Dv)(u:Value)(G:qab):Prop:=match m with
 | .imm=>Rp S w d.t d.x [u]
 | m=>IoR S w m d u G
def qnn(S:qab)(w:World)(m:RM)(d:Dv)(u:Value)(G:qab):Prop:=match m with
 | .imm=>Rp S w d.t d.x [u]
 | .bx=>IoR S w .iob d u G
 | m=>(match d.t,d.x with
  | .sl t,xs=>qar S w (t.flat || m==.deep) t xs u G
  | _,_=>False)
def qgK(S:qab)(w:World)(GP:Nat→qab)(us:List Value):List PM→Nat→List Dv→Prop
 | [],_,_=>True
 | m::pm,i,ds=>if m.isIo then ∃ d ds' u,ds=d::ds'∧us[i]? = some u∧IoR S w m d u (GP i)∧qgK S w GP us pm (i+1) ds' else qgK S w GP us pm (i+1) ds
structure After (w:World) (S:qab) (FP:Nat→qab) (sg:Sig) (us:List Value) (dv:Dv) (w':World) (S':qab) (rus:List Value) (GR GP:Nat→qab):Prop where
 mS:∀ b,S b→S' b
 sub:∀ b,S' b→S b∨w.heap.size≤b∨∃ i,FP i b
 szS:∀ b,S' b→b<w'.heap.size
 size:w.heap.size≤w'.heap.size
 kin:qmJ sg.dr w w'
 keep:∀ b,b<w.heap.size→(∀ i,¬ FP i b)→w'.heap[b]? = w.heap[b]?
 gr:∀ k b,GR k b→¬ S' b∧b<w'.heap.size∧(w.heap.size≤b∨∃ i,FP i b)
 gp:∀ k b,GP k b→¬ S' b∧b<w'.heap.size∧(w.heap.size≤b∨∃ i,FP i b)
 drr:∀ j k b,j≠k→GR j b→¬ GR k b
 dpp:∀ j k b,j≠k→GP j b→¬ GP k b
 drp:∀ j k b,GR j b→¬ GP k b
 len:rus.length=qmV sg
 lenO:qmV sg≤(qbv dv.t dv.x).length
 res:∀(k:Nat) d u,k<qmV sg→(qbv dv.t dv.x)[k]? = some d→rus[k]? = some u→qnn S' w' (sg.own.getD k .imm) d u (GR k)
 ios:qgK S' w' GP us sg.pm 0 ((qbv dv.t dv.x).drop (qmV sg))
def Gl(gs:Gls)(w:World)(S:qab):Prop:=∀ p∈gs,S p.1∧∃ cs e fz,w.heap[p.1]? = some (.cells cs e fz)∧p.2 cs
theorem Gl.mono{gs:Gls}{S S':qab}{w w':World}(h:Gl gs w S)(hS:∀ b,S b→S' b)(hw:∀ b,S b→w'.heap[b]? = w.heap[b]?):Gl gs w' S':=fun p hp=>by
 obtain⟨h1,cs,e,fz,h2,h3⟩:=h p hp
 exact⟨hS _ h1,cs,e,fz,(hw _ h1).trans h2,h3⟩
def qaO(gs:Gls)(P:Program)(sg:Sig)(f:FuncId)(args:List Dv)(dv:Dv):Prop :=
 ∀(w:World) (S:qab) (us:List Value) (FP:Nat→qab),Gl gs w S→(∀ b,S b→b<w.heap.size)→(∀ i b,FP i b→b<w.heap.size∧¬ S b)→(∀ i j b,i≠j→FP i b→¬ FP j b) →
  us.length=args.length→(∀(i:Nat) d u,args[i]? = some d→us[i]? = some u→qr2 S w (qaz sg.pm i) d u (FP i)) →
  Calls P f (qaR sg.ps us).toArray w fun e w'=>∃ rus S' GR GP,e=.returned (qmE sg.rs rus)∧After w S FP sg us dv w' S' rus GR GP
section
variable {S S':qab} {w w':World} {g g':Nat→Value} {C:Ctx} {F F':Nat→qab} {st:St} {tm:Array Value} {P:Program} {ρ:Type}
theorem qfA:∀ {gs:List (Bool×Nat)} {us vs:List Value} {hs:List (Bool×Nat)},us.length=(gs.map (·.2)).sum→gs.all (fun p=>p.1 || p.2==1)=true→qaR (gs++hs) (us++vs)=qaR gs us++qaR hs vs
  | [],us,vs,hs,h,_=>by
      have:us=[]:=List.eq_nil_of_length_eq_zero (by simpa using h)
      subst this
      rfl
  | (a,n)::gs,us,vs,hs,h,hg=>by
      simp only[List.map_cons,List.sum_cons] at h
      simp only[List.all_cons,Bool.and_eq_true] at hg
      simp only[List.cons_append,qaR]
      rw[List.take_append_of_le_length (by omega),List.drop_append_of_le_length (by omega),qfA (by simp;omega) hg.2]
      cases a with
      | true=>rfl
      | false =>
        have hn:n=1:=by simpa using hg.1
        cases us with
        | nil=>simp at h;omega
        | cons u us=>rfl
theorem qhi:∀ {us:List Value} {α:Type} {l:List α},l.length=us.length→qaR (l.map fun _=>(false,1)) us=us
  | [],_,[],_=>rfl
  | u::us,_,a::l,h=>by
      simp only[List.map_cons,qaR]
      have:=qhi (us:=us) (l:=l) (by simpa using h)
      simp[this]
  | [],_,_::_,h=>by simp at h
  | _::_,_,[],h=>by simp at h
theorem qjx:∀ {vs:List V} {Ys:List Value},qfc S w g vs Ys→(vs.map V.shape).all (fun p=>p.1 || p.2==1)=true →
    ∃ us,Cs S w g (vs.flatMap V.cells) us∧Ys=qaR (vs.map V.shape) us∧us.length=((vs.map V.shape).map (·.2)).sum
  | [],Ys,h,_=>by cases h;exact⟨[],rfl,rfl,rfl⟩
  | v::vs,Ys,⟨Y,Ys',he,h1,h2⟩,ha=>by
      subst he
      simp only[List.map_cons,List.all_cons,Bool.and_eq_true] at ha
      obtain⟨us,hc,hy,hl⟩:=qjx h2 ha.2
      cases v with
      | c v0 =>
        refine⟨Y::us,⟨Y,us,rfl,h1,hc⟩,?_,?_⟩
        · simp[qaR,V.shape,hy]
        · simp[V.shape,hl];omega
      | agg cs =>
        obtain⟨us1,rfl,hcs⟩:=h1
        have hlen:=hcs.len
        refine⟨us1++us,hcs.append hc,?_,?_⟩
        · simp[qaR,V.shape,hy,hlen.symm]
        · simp[V.shape,hl,hlen]
      | tup ts=>simp[V.shape] at ha
theorem qlv:∀ {gs:List (Bool×Nat)} {cs:List V0} {us:List Value},Cs S w g cs us→gs.all (fun p=>p.1 || p.2==1)=true→us.length=(gs.map (·.2)).sum→ql3 S w g (qj6 gs cs) (qaR gs us)
  | [],cs,us,_,_,_=>rfl
  | (a,n)::gs,cs,us,h,ha,hl=>by
      simp only[List.map_cons,List.sum_cons] at hl
      simp only[List.all_cons,Bool.and_eq_true] at ha
      refine⟨_,_,rfl,?_,qlv (h.drop n) ha.2 (by simp;omega)⟩
      cases a with
      | true=>exact⟨us.take n,rfl,h.take n⟩
      | false =>
        obtain rfl:n=1:=by simpa using ha.1
        cases us with
        | nil=>simp at hl;omega
        | cons u us =>
          have:=h.take 1
          simpa [GrR] using this
theorem qjS{gs:List (Bool×Nat)}{cs:List V0}{us:List Value}{v:V}(h:Cs S w g cs us)(ha:gs.all (fun p=>p.1 || p.2==1)=true)(hl:us.length=(gs.map (·.2)).sum)
  (hv:qpD gs cs=some v):VR S w g v (qmE gs us):=by
 have gen:∀ gs,gs.all (fun p=>p.1 || p.2==1)=true→us.length=(gs.map (·.2)).sum→VR S w g (.tup (qj6 gs cs)) (.tuple (qaR gs us).toArray):=fun gs ha hl=>⟨_,rfl,qlv h ha hl⟩
 rcases gs with _ | ⟨⟨a,n⟩,_ | ⟨q,gs⟩⟩
 ·obtain rfl:=Option.some.inj hv;exact gen [] ha hl
 ·have hv':cellsV a cs=some v:=hv
  exact(qgF hv' h).1
 ·obtain rfl:=Option.some.inj hv;exact gen _ ha hl
theorem qgt:∀ {c:Ty} {x:c.T},(qbv c x).map (·.t)=qcx c
 | .cons a b,x=>by simp[qbv,qcx,qgt]
 | .nil,_=>rfl
 | .int _,_=>rfl
 | .bool,_=>rfl
 | .str,_=>rfl
 | .sl _,_=>rfl
 | .ptr _,_=>rfl
 | .fn _ _,_=>rfl
 | .lab _,_=>rfl
 | .st _,_=>rfl
theorem qdt:∀(ds:List Dv),qbv (qdS ds).t (qdS ds).x=ds
  | []=>rfl
  | d::ds=>by
      show(⟨d.t,d.x⟩:Dv)::qbv (qdS ds).t (qdS ds).x=d::ds
      rw[qdt ds]
theorem qh0{ob:List (Option Obj)}{pm:List PM}{pt:List Ty}:∀ {cells:List V0} {i0:Nat} {args:List Dv},qkv ob pm pt i0 cells=some args →
    args.length=cells.length∧∀(i:Nat) c d,cells[i]? = some c→args[i]? = some d→qem ob (qaz pm (i0+i)) (pt.getD (i0+i) .nil) c=some d
  | [],i0,args,h=>by obtain rfl:=Option.some.inj h;exact⟨rfl,by simp⟩
  | v::vs,i0,args,h=>by
      unfold qkv at h
      obtain⟨d,hd,h⟩:=Option.bind_eq_some_iff.1 h
      obtain⟨ds,hds,rfl⟩:=Option.map_eq_some_iff.1 h
      obtain⟨h1,h2⟩:=qh0 hds
      refine⟨by simp[h1],fun i c d' hc hd'=>?_⟩
      cases i with
      | zero=>simp at hc hd';subst hc;subst hd';exact hd
      | succ i=>simp at hc hd';have:=h2 i c d' hc hd';rwa [show i0+1+i=i0+(i+1) by omega] at this
theorem qq3:∀ {c' c:Ty} {x:c.T} {y:c'.T} {us:List Value},pre? c' c x=some y→Rp S w c x us→∃ k,Rp S w c' y (us.take k)
  | .nil,c,x,y,us,h,hr=>⟨0,rfl⟩
  | .cons a b,.cons a' b',x,y,us,h,⟨u1,u2,he,h1,h2⟩=>by
      simp only[pre?] at h
      obtain⟨y1,hy1,h⟩:=Option.bind_eq_some_iff.1 h
      obtain⟨y2,hy2,rfl⟩:=Option.map_eq_some_iff.1 h
      obtain⟨e,rfl⟩:=cast?_some hy1
      cases e
      obtain⟨k,hk⟩:=qq3 hy2 h2
      subst he
      refine⟨u1.length+k,u1,u2.take k,?_,h1,hk⟩
      rw[List.take_append,List.take_of_length_le (by omega)]
      congr 2;omega
  | .cons _ _,.nil,_,_,_,h,_=>by simp[pre?] at h
  | .cons _ _,.int _,_,_,_,h,_=>by simp[pre?] at h
  | .cons _ _,.bool,_,_,_,h,_=>by simp[pre?] at h
  | .cons _ _,.str,_,_,_,h,_=>by simp[pre?] at h
  | .cons _ _,.sl _,_,_,_,h,_=>by simp[pre?] at h
  | .cons _ _,.ptr _,_,_,_,h,_=>by simp[pre?] at h
  | .cons _ _,.fn _ _,_,_,_,h,_=>by simp[pre?] at h
  | .cons _ _,.lab _,_,_,_,h,_=>by simp[pre?] at h
  | .cons _ _,.st _,_,_,_,h,_=>by simp[pre?] at h
  | .int _,_,_,_,_,h,_=>by simp[pre?] at h
  | .bool,_,_,_,_,h,_=>by simp[pre?] at h
  | .str,_,_,_,_,h,_=>by simp[pre?] at h
  | .sl _,_,_,_,_,h,_=>by simp[pre?] at h
  | .ptr _,_,_,_,_,h,_=>by simp[pre?] at h
  | .fn _ _,_,_,_,_,h,_=>by simp[pre?] at h
  | .lab _,_,_,_,_,h,_=>by simp[pre?] at h
  | .st _,_,_,_,_,h,_=>by simp[pre?] at h
theorem qpn{t:Ty}{d:Dv}{vs:List Value}(h:Rp S w d.t d.x vs):Rp S w (qm2 t d).t (qm2 t d).x vs:=by
 obtain⟨t',x⟩:=d
 cases t with
 | ptr c' =>
  cases t' with
  | ptr c =>
   have e:qm2 (.ptr c') ⟨.ptr c,x⟩=(match pre? c' c x with
    | some y=>(⟨.ptr c',y⟩:Dv)
    | none=>⟨.ptr c,x⟩):=rfl
   rw[e]
   split
   ·rename_i y hy
    obtain⟨b,o,us,hv,hb,h1,h2⟩:=h
    obtain⟨k,hk⟩:=qq3 hy h1
    exact⟨b,o,us.take k,hv,hb,hk,h2.take k⟩
   ·exact h
  | lab _=>exact h.2
  | _=>exact h
 | _ =>
  cases t' with
  | lab _=>exact h.2
  | _=>exact h
theorem qcC{pm:List PM}:∀ {cells:List V0} {i0:Nat} {s:Nat},s∈qa6 pm i0 cells↔∃(i:Nat) (c:V0),cells[i]? = some c∧s∈qbn (qaz pm (i0+i)) c
  | [],i0,s=>by simp[qa6]
  | v::vs,i0,s=>by
      unfold qa6
      rw[List.mem_append,qcC]
      constructor
      · rintro(h | ⟨i,c,hc,h⟩)
        · exact⟨0,v,rfl,h⟩
        · exact⟨i+1,c,by simpa using hc,by rwa [show i0+1+i=i0+(i+1) by omega] at h⟩
      · rintro⟨i,c,hc,h⟩
        cases i with
        | zero=>simp at hc;subst hc;exact .inl h
        | succ i=>exact .inr ⟨i,c,by simpa using hc,by rwa [show i0+1+i=i0+(i+1) by omega]⟩
theorem qeW:∀ {l:List Nat},qjm l=true→l.Nodup
  | [],_=>List.nodup_nil
  | a::l,h=>by
      simp only[qjm,Bool.and_eq_true] at h
      refine List.nodup_cons.2 ⟨by simpa using h.1,qeW h.2⟩
theorem qjD{pm:List PM}:∀ {cells:List V0} {i0:Nat},(qa6 pm i0 cells).Nodup→∀(i j:Nat) c d s,cells[i]? = some c→cells[j]? = some d→s∈qbn (qaz pm (i0+i)) c→s∈qbn (qaz pm (i0+j)) d→i=j
  | [],i0,_,i,j,c,d,s,hc,_,_,_=>by simp at hc
  | v::vs,i0,h,i,j,c,d,s,hc,hd,h1,h2=>by
      unfold qa6 at h
      rw[List.nodup_append] at h
      cases i with
      | zero =>
        cases j with
        | zero=>rfl
        | succ j =>
          simp at hc hd
          subst hc
          exact absurd rfl (h.2.2 s h1 s (qcC.2 ⟨j,d,hd,by rwa [show i0+1+j=i0+(j+1) by omega]⟩))
      | succ i =>
        cases j with
        | zero =>
          simp at hc hd
          subst hd
          exact absurd rfl (h.2.2 s h2 s (qcC.2 ⟨i,c,hc,by rwa [show i0+1+i=i0+(i+1) by omega]⟩))
        | succ j =>
          simp at hc hd
          rw[qjD h.2.1 i j c d s hc hd (by rwa [show i0+1+i=i0+(i+1) by omega]) (by rwa [show i0+1+j=i0+(j+1) by omega])]
theorem qnm{ob:List (Option Obj)}{pm:List PM}:∀ {cells:List V0} {i0:Nat} {i:Nat} {c:V0} {s:Nat},cells[i]? = some c→s∈qpb ob (qaz pm (i0+i)) c→s∈qme ob pm i0 cells
  | [],i0,i,c,s,hc,_=>by simp at hc
  | v::vs,i0,i,c,s,hc,h=>by
      unfold qme
      cases i with
      | zero=>simp at hc;subst hc;exact List.mem_append.2 (.inl h)
      | succ i=>exact List.mem_append.2 (.inr (qnm (i:=i) (by simpa using hc) (by rwa [show i0+1+i=i0+(i+1) by omega])))
theorem qar.hand{d dp:Bool}{t:Ty}{xs:List t.T}{v:Value}{Fs:qab}(h:qar S w d t xs v Fs)(hd:dp=true→d=true) :
  ∃ Fi:qab,(∀ b,Fi b→Fs b)∧∀ S':qab,(∀ b,S b→S' b)→(∀ b,Fs b→¬ Fi b→S' b)→qar S' w (t.flat || dp) t xs v Fi:=by
 cases hfl:t.flat with
 | true=>exact⟨Fs,fun _ h=>h,fun S' _ _=>h.flat hfl⟩
 | false =>
  cases dp with
  | true =>
   rw[hd rfl] at h
   exact⟨Fs,fun _ h=>h,fun S' hS _=>h.mono hS (fun _ _=>rfl) (fun _ h=>h) fun _ _=>rfl⟩
  | false =>
   obtain⟨F',h1,h2⟩:=h.weaken
   exact⟨F',h1,fun S' hS hF=>h2 S' hS hF⟩
def qce(l:List Nat)(st:St):St:=l.foldl (fun st s=>st.setOb s none) st
theorem qcW:∀(l:List Nat) (st:St) (s:Nat),qad (qce l st).ob s=if s∈l then none else qad st.ob s
  | [],st,s=>by simp[qce]
  | a::l,st,s=>by
      show qad (qce l (st.setOb a none)).ob s=_
      rw[qcW]
      by_cases h1:s∈l
      · simp[h1]
      · simp only[h1,if_false,List.mem_cons,or_false]
        by_cases h2:s=a
        · subst h2
          simp only[if_true]
          cases ho:qad (st.setOb s none).ob s with
          | none=>rfl
          | some o=>have:=qaC ho;cases this
        · simp only[h2,if_false]
          rw[St.setOb,qam _ _ h2]
theorem qfH:∀(l:List Nat) (st:St),(qce l st).fr=st.fr
 | [],st=>rfl
 | a::l,st=>by show(qce l (st.setOb a none)).fr=_;rw[qfH];rfl
theorem Sim.fewer(hs:Sim C S g F st tm w){st':St}(hfr:st'.fr=st.fr)(hob:∀ s o,qad st'.ob s=some o→qad st.ob s=some o):Sim C S g F st' tm w where
 size:=by rw[hfr];exact hs.size
 fr i v hv:=hs.fr i v (by rw[← hfr];exact hv)
 ob s o ho:=hs.ob s o (hob s o ho)
 prv s o ho:=hs.prv s o (hob s o ho)
 frz s o ho:=hs.frz s o (hob s o ho)
 dis s s' o o' hne ho ho':=hs.dis s s' o o' hne (hob s o ho) (hob s' o' ho')
 szF s o ho:=hs.szF s o (hob s o ho)
 szS:=hs.szS
 S0:=hs.S0
 SO:=hs.SO
 keep:=hs.keep
 mono:=hs.mono
 kin:=hs.kin
 fx s o ho:=hs.fx s o (hob s o ho)
theorem Sim.world'(h:Sim C S g F st tm w)(hsz:w.heap.size≤w'.heap.size)(hbS:∀ b,S b→w'.heap[b]? = w.heap[b]?)(hbF:∀ s o,qad st.ob s=some o→∀ b,F s b→w'.heap[b]? = w.heap[b]?)
  (hk:∀ b,b<C.w0.heap.size→¬ C.O b→w'.heap[b]? = w.heap[b]?) (hkin:qmJ C.dr w w'):Sim C S g F st tm w' where
 size:=h.size
 fr i v hv:=(h.fr i v hv).imp fun _ _ h'=>h'.mono (fun _ h=>h) hbS
 ob s o ho:=(h.ob s o ho).mono (fun _ h=>h) hbS fun b hb'=>hbF s o ho b hb'
 prv:=h.prv
 frz:=h.frz
 dis:=h.dis
 szF s o ho b hb':=Nat.lt_of_lt_of_le (h.szF s o ho b hb') hsz
 szS b hb':=Nat.lt_of_lt_of_le (h.szS b hb') hsz
 S0:=h.S0
 SO:=h.SO
 keep b hb1 hb2:=by rw[hk b hb1 hb2];exact h.keep b hb1 hb2
 mono:=Nat.le_trans h.mono hsz
 kin:=h.kin.trans hkin
 fx:=h.fx
theorem Sim.back(h:Sim C S g F st tm w)(s:Nat)(o':Obj)(Fs:qab)(hf:o'.frozen=false)(hx:o'.fixed=true→g s=C.g0 s)(ho:ObR S w g (upd F s Fs) s o')
  (hp:∀ b,Fs b→¬ S b∧C.O b∧b<w.heap.size) (hd:∀ s' p,s'≠s→qad st.ob s'=some p→p.frozen=false→∀ b,Fs b→¬ F s' b) {st':St} (hfr:st'.fr=st.fr)
  (hob:∀ s' p,qad st'.ob s'=some p→(s'=s∧p=o')∨(s'≠s∧qad st.ob s'=some p)) :
  Sim C S g (upd F s Fs) st' tm w:=by
 refine { size:=by rw[hfr];exact h.size,fr:=fun i v hv=>h.fr i v (by rw[← hfr];exact hv),ob:=?_,prv:=?_,frz:=?_,dis:=?_,szF:=?_,szS:=h.szS,S0:=h.S0,SO:=h.SO,keep:=h.keep,mono:=h.mono,kin:=h.kin,fx:=?_ }
 ·intro s' p he
  rcases hob s' p he with ⟨rfl,rfl⟩ | ⟨hne,h1⟩
  ·exact ho
  ·have:=h.ob s' p h1
   cases p with
   | box cs f _=>obtain⟨b,arr,e,a1,a2,a3⟩:=this;exact⟨b,arr,e,a1,by rw[qav _ _ hne];exact a2,a3⟩
   | arr t xs d fz fx=>unfold ObR at this ⊢;simp only;rw[qav _ _ hne];exact this
   | hol t xs i fz=>unfold ObR at this ⊢;simp only;rw[qav _ _ hne];exact this
   | hlp t xs i d fz=>unfold ObR at this ⊢;simp only;rw[qav _ _ hne];exact this
   | bxo c x k a fz fx=>unfold ObR at this ⊢;simp only;rw[qav _ _ hne];exact this
 ·intro s' p he hf' b hb
  rcases hob s' p he with ⟨rfl,rfl⟩ | ⟨hne,h1⟩
  ·rw[qaj] at hb;exact⟨(hp b hb).1,(hp b hb).2.1⟩
  ·rw[qav _ _ hne] at hb;exact h.prv s' p h1 hf' b hb
 ·intro s' p he hf' b hb
  rcases hob s' p he with ⟨rfl,rfl⟩ | ⟨hne,h1⟩
  ·rw[hf] at hf';cases hf'
  ·rw[qav _ _ hne] at hb;exact h.frz s' p h1 hf' b hb
 ·intro s1 s2 o1 o2 hne h1 h2 f1 f2 b hb
  rcases hob s1 o1 h1 with ⟨rfl,rfl⟩ | ⟨hn1,e1⟩
  ·rcases hob s2 o2 h2 with ⟨rfl,_⟩ | ⟨hn2,e2⟩
   ·exact absurd rfl hne
   ·rw[qaj] at hb;rw[qav _ _ hn2];exact hd s2 o2 hn2 e2 f2 b hb
  ·rw[qav _ _ hn1] at hb
   rcases hob s2 o2 h2 with ⟨rfl,rfl⟩ | ⟨hn2,e2⟩
   ·rw[qaj];exact fun hb'=>hd s1 o1 hn1 e1 f1 b hb' hb
   ·rw[qav _ _ hn2];exact h.dis s1 s2 o1 o2 hne e1 e2 f1 f2 b hb
 ·intro s' p he b hb
  rcases hob s' p he with ⟨rfl,rfl⟩ | ⟨hne,h1⟩
  ·rw[qaj] at hb;exact(hp b hb).2.2
  ·rw[qav _ _ hne] at hb;exact h.szF s' p h1 b hb
 ·intro s' p he hf'
  rcases hob s' _ he with ⟨rfl,rfl⟩ | ⟨hne,h1⟩
  ·exact hx hf'
  ·exact h.fx s' p h1 hf'
theorem qiz{pm:List PM}:∀ {cells:List V0} {i0:Nat} {st:St},Sim C S g F st tm w→Sim C S g F (qk0 pm i0 cells st) tm w ∧
    ∀ s o,qad (qk0 pm i0 cells st).ob s=some o→(∃ o',qad st.ob s=some o'∧o'.frozen=o.frozen∧o'.fixed=o.fixed) ∧
      ∀(i:Nat) c,cells[i]? = some c→∀ dp,qaz pm (i0+i)=.take dp→c≠.arr s
  | [],i0,st,h=>⟨h,fun s o ho=>⟨⟨o,ho,rfl,rfl⟩,by simp⟩⟩
  | v::vs,i0,st,h=>by
      unfold qk0
      have key:∀ st':St,Sim C S g F st' tm w→(∀ s o,qad st'.ob s=some o→(∃ o',qad st.ob s=some o'∧o'.frozen=o.frozen∧o'.fixed=o.fixed)∧(∀ dp,qaz pm i0=.take dp→v≠.arr s)) →
          Sim C S g F (qk0 pm (i0+1) vs st') tm w∧∀ s o,qad (qk0 pm (i0+1) vs st').ob s=some o→(∃ o',qad st.ob s=some o'∧o'.frozen=o.frozen∧o'.fixed=o.fixed) ∧
            ∀(i:Nat) c,(v::vs)[i]? = some c→∀ dp,qaz pm (i0+i)=.take dp→c≠.arr s:=by
        intro st' h' hst
        obtain⟨h1,h2⟩:=qiz (pm:=pm) (cells:=vs) (i0:=i0+1) h'
        refine⟨h1,fun s o ho=>?_⟩
        obtain⟨⟨o1,e1,e2,e3⟩,h3⟩:=h2 s o ho
        obtain⟨⟨o2,f1,f2,f3⟩,h4⟩:=hst s o1 e1
        refine⟨⟨o2,f1,f2.trans e2,f3.trans e3⟩,fun i c hc dp hm=>?_⟩
        cases i with
        | zero=>simp at hc;subst hc;exact h4 dp hm
        | succ i=>exact h3 i c (by simpa using hc) dp (by rwa [show i0+1+i=i0+(i+1) by omega])
      split
      · rename_i dp s hm
        refine key _ (h.drop s).1 fun s' o ho=>?_
        by_cases hss:s'=s
        · subst hss
          have:=qaC ho
          cases this
        · unfold St.dropOb at ho
          rw[St.setOb,qam _ _ hss] at ho
          obtain⟨o',h1,rfl⟩:=qaZ ho
          exact⟨⟨o',h1,(Obj.frozen_kill _ _).symm,(Obj.fixed_kill _ _).symm⟩,fun _ _ e=>hss (by cases e;rfl)⟩
      · rename_i hno
        refine key _ h fun s o ho=>⟨⟨o,ho,rfl,rfl⟩,fun dp hm e=>?_⟩
        exact hno dp s hm e
end
end Ve
namespace Ve
open Go
section
variable {S S':qab} {w w':World} {g g':Nat→Value} {C:Ctx} {F F':Nat→qab} {st:St} {tm:Array Value} {P:Program} {ρ:Type}
def qaU(pm:List PM):Nat→List V0→List Nat
 | _,[]=>[]
 | i,v::vs=>(if (qaz pm i).isIo then qbn (qaz pm i) v else [])++qaU pm (i+1) vs
theorem qeF{pm:List PM}:∀ {cells:List V0} {i0 s:Nat},s∈qaU pm i0 cells→s∈qa6 pm i0 cells
  | [],_,_,h=>by simp[qaU] at h
  | v::vs,i0,s,h=>by
      unfold qaU at h
      unfold qa6
      rcases List.mem_append.1 h with h | h
      · split at h
        · exact List.mem_append.2 (.inl h)
        · cases h
      · exact List.mem_append.2 (.inr (qeF h))
theorem Cs.head{c:V0}{cs:List V0}{us:List Value}(h:Cs S w g (c::cs) us):∃ u us',us=u::us'∧V0R S w g c u∧Cs S w g cs us':=h
theorem qkV{α:Type}{l:List α}{i:Nat}{a x:α}{r:List α}(h:l.drop i=a::r):l.getD i x=a∧l.drop (i+1)=r:=by
  constructor
  · have:l[i]? = some a:=by
      have:=congrArg (·[0]?) h
      simpa using this
    rw[List.getD_eq_getElem?_getD,this];rfl
  · have:=congrArg (List.drop 1) h
    simpa [Nat.add_comm] using this
theorem qjV{α:Type}{l:List α}{i:Nat}{x:α}(h:l.drop i=[]):l.getD i x=x:=by
 have:l.length≤i:=List.drop_eq_nil_iff.1 h
 rw[List.getD_eq_getElem?_getD,List.getElem?_eq_none this];rfl
theorem qhK{pm:List PM}{GP:Nat→qab}{usAll:List Value}(hdpp:∀ j k b,j≠k→GP j b→¬ GP k b):∀(cells:List V0) (i0:Nat) (ds:List Dv) (us:List Value) (st st3:St) (F:Nat→qab),
    Sim C S g F (qce (qaU pm i0 cells) st) tm w→(qa6 pm i0 cells).Nodup→Cs S' w' g cells us→usAll.drop i0=us→qgK S w GP usAll (pm.drop i0) i0 ds →
    (∀ s o,qad st.ob s=some o→o.fixed=true→g s=C.g0 s) →
    (∀ i,i0≤i→∀ b,GP i b→¬ S b∧C.O b∧b<w.heap.size∧∀ s p,qad (qce (qaU pm i0 cells) st).ob s=some p→p.frozen=false→¬ F s b) →
    ios pm i0 cells (ds.map qb4) st=some st3 →
    ∃ F',Sim C S g F' st3 tm w∧∀ s p,qad st3.ob s=some p→p.frozen=false→∀ b,F' s b→(∃ p',qad (qce (qaU pm i0 cells) st).ob s=some p'∧p'.frozen=false∧F s b)∨∃ i,GP i b
  | [],i0,ds,us,st,st3,F,hs,_,_,_,_,_,_,h=>by
      obtain rfl:=Option.some.inj h
      exact⟨F,hs,fun s p hp hpf b hb=>.inl ⟨p,hp,hpf,hb⟩⟩
  | v::vs,i0,ds,us,st,st3,F,hs,hnd,hcs,hus,hio,hfx,hGP,h=>by
      obtain⟨u0,us',rfl,hv,hcs'⟩:=hcs.head
      have hus':usAll.drop (i0+1)=us':=by
        have:=congrArg (List.drop 1) hus
        simpa [Nat.add_comm] using this
      have hu0:usAll[i0]? = some u0:=by
        have:=congrArg (·[0]?) hus
        simpa using this
      have hnd':(qa6 pm (i0+1) vs).Nodup:=by
        unfold qa6 at hnd;exact(List.nodup_append.1 hnd).2.1
      have skip:(qaz pm i0).isIo=false→ios pm (i0+1) vs (ds.map qb4) st=some st3→∃ F',Sim C S g F' st3 tm w∧∀ s p,qad st3.ob s=some p→p.frozen=false→∀ b,F' s b→(∃ p',qad (qce (qaU pm i0 (v::vs)) st).ob s=some p'∧p'.frozen=false∧F s b)∨∃ i,GP i b:=by
        intro hm h
        have e:qaU pm i0 (v::vs)=qaU pm (i0+1) vs:=by simp[qaU,hm]
        rw[e] at hs hGP ⊢
        refine qhK hdpp vs (i0+1) ds us' st st3 F hs hnd' hcs' hus' ?_ hfx (fun i hi=>hGP i (by omega)) h
        cases hd:pm.drop i0 with
        | nil =>
          have:pm.drop (i0+1)=[]:=by
            have:pm.length≤i0:=List.drop_eq_nil_iff.1 hd
            exact List.drop_eq_nil_iff.2 (by omega)
          rw[this];trivial
        | cons m r =>
          obtain⟨e1,e2⟩:=qkV (x:=PM.imm) hd
          rw[hd] at hio
          unfold qgK at hio
          have hm':m.isIo=false:=by rw[← e1];exact hm
          rw[hm'] at hio
          rw[e2];exact hio
      have back:∀(s:Nat) (o':Obj) (d:Dv) (ds':List Dv),qbn (qaz pm i0) v=[s]→(qaz pm i0).isIo=true→ds=d::ds'→o'.frozen=false→(o'.fixed=true→g s=C.g0 s)→qgK S w GP usAll (pm.drop (i0+1)) (i0+1) ds' →
          ObR S w g (upd F s (GP i0)) s o'→ios pm (i0+1) vs (ds'.map qb4) (st.setOb s (some o'))=some st3 →
          ∃ F',Sim C S g F' st3 tm w∧∀ s p,qad st3.ob s=some p→p.frozen=false→∀ b,F' s b→(∃ p',qad (qce (qaU pm i0 (v::vs)) st).ob s=some p'∧p'.frozen=false∧F s b)∨∃ i,GP i b:=by
        intro s o' d ds' hh1 hm hds hof hox hio' hob h
        have e:qaU pm i0 (v::vs)=s::qaU pm (i0+1) vs:=by simp[qaU,hm,hh1]
        rw[e] at hs hGP ⊢
        have hsn:s∉qaU pm (i0+1) vs:=fun hin=>by
          unfold qa6 at hnd
          rw[hh1] at hnd
          exact(List.nodup_append.1 hnd).2.2 s (by simp) s (qeF hin) rfl
        have hobs:∀ s' p,qad (qce (qaU pm (i0+1) vs) (st.setOb s (some o'))).ob s'=some p→(s'=s∧p=o')∨(s'≠s∧qad (qce (s::qaU pm (i0+1) vs) st).ob s'=some p):=by
          intro s' p hp
          rw[qcW] at hp
          split at hp
          · cases hp
          · rename_i hn
            by_cases hss:s'=s
            · subst hss;exact .inl ⟨rfl,by have:=qaC hp;simpa using this.symm⟩
            · rw[St.setOb,qam _ _ hss] at hp
              refine .inr ⟨hss,?_⟩
              rw[qcW,if_neg (by simp[hss,hn])]
              exact hp
        have hs2:=hs.back s o' (GP i0) hof hox hob (fun b hb=>⟨(hGP i0 (Nat.le_refl _) b hb).1,(hGP i0 (Nat.le_refl _) b hb).2.1,(hGP i0 (Nat.le_refl _) b hb).2.2.1⟩)
          (fun s' p _ hp hpf b hb=>(hGP i0 (Nat.le_refl _) b hb).2.2.2 s' p hp hpf) (st':=qce (qaU pm (i0+1) vs) (st.setOb s (some o'))) (by rw[qfH,qfH];rfl) hobs
        obtain⟨F',h1,h2⟩:=qhK hdpp vs (i0+1) ds' us' (st.setOb s (some o')) st3 _ hs2 hnd' hcs' hus' hio' (fun s' o2 ho2 hx2=>by
            by_cases hss:s'=s
            · subst hss
              have:=qaC ho2
              obtain rfl:o'=o2:=by simpa using this
              exact hox hx2
            · rw[St.setOb,qam _ _ hss] at ho2
              exact hfx s' o2 ho2 hx2) (fun i hi b hb=>⟨(hGP i (by omega) b hb).1,(hGP i (by omega) b hb).2.1,(hGP i (by omega) b hb).2.2.1,fun s' p hp hpf=>by
            rcases hobs s' p hp with ⟨rfl,rfl⟩ | ⟨hne,hp'⟩
            · rw[qaj];exact hdpp i i0 b (by omega) hb
            · rw[qav _ _ hne];exact(hGP i (by omega) b hb).2.2.2 s' p hp' hpf⟩) h
        refine⟨F',h1,fun s' p hp hpf b hb=>?_⟩
        rcases h2 s' p hp hpf b hb with ⟨p',hp',hpf',hb'⟩ | h3
        · rcases hobs s' p' hp' with ⟨rfl,rfl⟩ | ⟨hne,hp''⟩
          · rw[qaj] at hb';exact .inr ⟨i0,hb'⟩
          · rw[qav _ _ hne] at hb';exact .inl ⟨p',hp'',hpf',hb'⟩
        · exact .inr h3
      have hdr:∀ m,qaz pm i0=m→m.isIo=true→∃ d ds',ds=d::ds'∧IoR S w m d u0 (GP i0)∧qgK S w GP usAll (pm.drop (i0+1)) (i0+1) ds':=by
        intro m hm hio1
        cases hd:pm.drop i0 with
        | nil =>
          have:=qjV (x:=PM.imm) hd
          unfold qaz at hm
          rw[this] at hm;subst hm;cases hio1
        | cons m' r =>
          obtain⟨e1,e2⟩:=qkV (x:=PM.imm) hd
          rw[hd] at hio
          unfold qgK at hio
          have hm':m'=m:=by rw[← e1];exact hm
          subst hm'
          rw[hio1,if_pos rfl] at hio
          obtain⟨d,ds',u,hds,hu,hI,hrest⟩:=hio
          rw[hu0] at hu
          obtain rfl:=Option.some.inj hu
          exact⟨d,ds',hds,hI,by rw[e2];exact hrest⟩
      unfold ios at h
      split at h
      · rename_i dp hm
        obtain⟨d,ds',rfl,hI,hio'⟩:=hdr _ hm rfl
        obtain⟨t,x⟩:=d
        unfold IoR at hI
        simp only at hI
        split at hI
        · rename_i t xs
          cases v with
          | arr s =>
            simp only[List.map_cons,qb4,qgq] at h
            split at h
            · rename_i fx hos
              obtain⟨rfl,hsl⟩:=hv
              refine back s (.arr t xs (t.flat || dp) false fx) _ _ (by rw[hm];rfl) (by rw[hm];rfl) rfl rfl (fun hx=>hfx s _ hos hx) hio' ?_ h
              unfold ObR;simp only[qaj];exact hI
            · cases h
          | _=>cases h
        · exact hI.elim
      · rename_i hm
        obtain⟨d,ds',rfl,hI,hio'⟩:=hdr _ hm rfl
        obtain⟨t,x⟩:=d
        unfold IoR at hI
        simp only at hI
        split at hI
        · rename_i c x
          cases v with
          | box s off =>
            simp only[List.map_cons,qb4,qgq] at h
            split at h
            · rename_i cs0 fx hos
              obtain⟨b,arr,e,hu,hG,hh,hr⟩:=hI
              obtain⟨b',hg,hu'⟩:=hv
              rw[hu'] at hu
              obtain⟨rfl,rfl⟩:b'=b∧off=0:=by simpa using hu
              refine back s (.box (qaJ c x) false fx) _ _ (by rw[hm];rfl) (by rw[hm];rfl) rfl rfl (fun hx=>hfx s _ hos hx) hio' ?_ h
              exact⟨b',arr,e,hg,by rw[qaj];exact hG,hh,qbP hr⟩
            · cases h
          | _=>cases h
        · exact hI.elim
      · rename_i k hm
        obtain⟨d,ds',rfl,hI,hio'⟩:=hdr _ hm rfl
        obtain⟨t,x⟩:=d
        unfold IoR at hI
        simp only at hI
        split at hI
        · rename_i c x
          cases v with
          | box s off =>
            simp only[List.map_cons,qb4,qgq] at h
            split at h
            · rename_i c0 x0 k0 a0 fx hos
              obtain⟨b',hg,hu'⟩:=hv
              refine back s (.bxo c x k a0 false fx) _ _ (by rw[hm];rfl) (by rw[hm];rfl) rfl rfl (fun hx=>hfx s _ hos hx) hio' ?_ h
              have hI':qnV S w c x k u0 (GP i0):=hI
              have hgs:g s=u0:=by
                obtain⟨b,arr,e,G,h1,h2⟩:=hI'
                rw[hu'] at h1
                obtain⟨rfl,rfl⟩:b'=b∧off=0:=by simpa using h1
                rw[hg,hu']
              unfold ObR;simp only[qaj];rw[hgs];exact hI'
            · cases h
          | _=>cases h
        · exact hI.elim
      · rename_i h1 h2 h3
        refine skip ?_ h
        cases hm:qaz pm i0 with
        | imm=>rfl
        | take dp=>rfl
        | io dp=>exact absurd hm (h1 dp)
        | iob=>exact absurd hm h2
        | iobo k=>exact absurd hm (h3 k)
theorem IoR.box{d:Dv}{u:Value}{G:qab}(h:IoR S w .iob d u G):∃ c x b arr e,d=⟨.ptr c,x⟩∧u=.pointer (some ⟨b,0,none⟩)∧G b∧w.heap[b]? = some (.cells arr e (0,0))∧Rp S w c x arr.toList:=by
 obtain⟨t,x⟩:=d
 cases t with
 | ptr c =>
  obtain⟨b,arr,e,h1,h2,h3,h4⟩:=h
  exact⟨c,x,b,arr,e,rfl,h1,h2,h3,h4⟩
 | _=>exact h.elim
theorem qnn.mono{m:RM}{d:Dv}{u:Value}{G:qab}(hS:∀ b,S b→S' b)(h:qnn S w m d u G):qnn S' w m d u G:=by
 obtain⟨t,x⟩:=d
 cases m with
 | imm=>exact Rp.mono hS (fun _ _=>rfl) t x _ h
 | own=>cases t<;>first | exact(qar.mono hS (fun _ _=>rfl) (fun _ h=>h) (fun _ _=>rfl) h) | exact h.elim
 | deep=>cases t<;>first | exact(qar.mono hS (fun _ _=>rfl) (fun _ h=>h) (fun _ _=>rfl) h) | exact h.elim
 | bx =>
  obtain⟨c,x',b,arr,e,he,h1,h2,h3,h4⟩:=IoR.box h
  cases he
  exact⟨b,arr,e,h1,h2,h3,Rp.mono hS (fun _ _=>rfl) c x' _ h4⟩
theorem qnn.freeze{m:RM}{d:Dv}{u:Value}{G:qab}(h:qnn S w m d u G):Rp (fun b=>S b∨G b) w d.t d.x [u]:=by
 obtain⟨t,x⟩:=d
 cases m with
 | imm=>exact Rp.mono (fun _ h=>.inl h) (fun _ _=>rfl) t x _ h
 | own=>cases t<;>first | exact(qar.freeze (F:=G) (fun _ h=>.inr h) (qar.mono (F:=G) (fun _ h=>.inl h) (fun _ _=>rfl) (fun _ h=>h) (fun _ _=>rfl) h)) | exact h.elim
 | deep=>cases t<;>first | exact(qar.freeze (F:=G) (fun _ h=>.inr h) (qar.mono (F:=G) (fun _ h=>.inl h) (fun _ _=>rfl) (fun _ h=>h) (fun _ _=>rfl) h)) | exact h.elim
 | bx =>
  obtain⟨c,x',b,arr,e,he,h1,h2,h3,h4⟩:=IoR.box h
  cases he
  refine⟨b,0,arr.toList,by rw[h1],.inr h2,Rp.mono (fun _ h=>.inl h) (fun _ _=>rfl) c x' _ h4,qc0 h3 fun j u hu=>by simpa using hu⟩
theorem qdD{own:List RM}{GR:Nat→qab}(hdrr:∀ j k b,j≠k→GR j b→¬ GR k b):∀(ds:List Dv) (k0:Nat) (os:List (Option Nat)) (us:List Value) (acc:List V0) (uacc:List Value) (st:St) (S:qab) (g:Nat→Value) (F:Nat→qab) (p:List V0×St),
    Sim C S g F st tm w→Cs S w g acc uacc→us.length=ds.length→(∀(k:Nat) d u,ds[k]? = some d→us[k]? = some u→qnn S w (own.getD (k0+k) .imm) d u (GR (k0+k))) →
    (∀ k,k0≤k→∀ b,GR k b→¬ S b∧C.O b∧b<w.heap.size∧∀ s p,qad st.ob s=some p→p.frozen=false→¬ F s b) →
    qbZ (own.drop k0) os (ds.map qb4) acc st=some p →
    ∃ S' g' F',Sim C S' g' F' p.2 tm w∧Cs S' w g' p.1 (uacc++us)∧(∀ b,S b→S' b)∧∀ s q,qad p.2.ob s=some q→q.frozen=false→∀ b,F' s b→(∃ q',qad st.ob s=some q'∧q'.frozen=false∧F s b)∨∃ k,GR k b
  | [],k0,os,us,acc,uacc,st,S,g,F,p,hs,hacc,hl,_,_,h=>by
      have:us=[]:=List.eq_nil_of_length_eq_zero (by simpa using hl)
      subst this
      obtain rfl:=Option.some.inj h
      exact⟨S,g,F,hs,by simpa using hacc,fun _ h=>h,fun s q hq hqf b hb=>.inl ⟨q,hq,hqf,hb⟩⟩
  | d::ds,k0,os,us,acc,uacc,st,S,g,F,p,hs,hacc,hl,hout,hGR,h=>by
      cases us with
      | nil=>simp at hl
      | cons u us =>
        have hd:=hout 0 d u rfl rfl
        simp only[Nat.add_zero] at hd
        have htail:(own.drop k0).tail=own.drop (k0+1):=by simp
        have hhead:(own.drop k0).headD .imm=own.getD k0 .imm:=by
          rw[List.getD_eq_getElem?_getD]
          cases hdr:own.drop k0 with
          | nil =>
            have:own.length≤k0:=List.drop_eq_nil_iff.1 hdr
            rw[List.getElem?_eq_none this];rfl
          | cons m r =>
            have:=congrArg (·[0]?) hdr
            simp only[List.getElem?_drop,Nat.add_zero] at this
            rw[this];rfl
        have hl':us.length=ds.length:=by simpa using hl
        simp only[List.map_cons] at h
        unfold qbZ at h
        have hG0:=hGR k0 (Nat.le_refl _)
        have hout':∀ S1:qab,(∀ b,S b→S1 b)→∀(k:Nat) d u,ds[k]? = some d→us[k]? = some u→qnn S1 w (own.getD (k0+1+k) .imm) d u (GR (k0+1+k)):=by
          intro S1 h1 k d' u' hd' hu'
          have:=hout (k+1) d' u' (by simpa using hd') (by simpa using hu')
          rw[show k0+1+k=k0+(k+1) by omega]
          exact this.mono h1
        split at h
        · rw[htail] at h
          have hs1:=hs.freeG (G:=GR k0) fun b hb=>⟨(hG0 b hb).2.1,(hG0 b hb).2.2.1,(hG0 b hb).2.2.2⟩
          have hmono:∀ v u,V0R S w g v u→V0R (fun b=>S b∨GR k0 b) w g v u:=fun v u h=>h.mono (fun _ h=>.inl h) fun _ _=>rfl
          have hv:V0R (fun b=>S b∨GR k0 b) w g (qb4 d) u:=qcB hd.freeze
          obtain⟨S',g',F',h1,h2,h3,h4⟩:=qdD hdrr ds (k0+1) os.tail us (acc++[qb4 d]) (uacc++[u]) st _ g F p hs1 ((Cs.imp (p:=fun _ _=>True) hmono hacc).append ⟨u,[],rfl,hv,rfl⟩) hl'
            (hout' _ fun _ h=>.inl h) (fun k hk b hb=>⟨fun hb'=>hb'.elim (hGR k (by omega) b hb).1 (hdrr k k0 b (by omega) hb),(hGR k (by omega) b hb).2.1,(hGR k (by omega) b hb).2.2⟩) h
          exact⟨S',g',F',h1,by simpa using h2,fun b hb=>h3 b (.inl hb),h4⟩
        · rename_i site hsite
          rw[hhead,htail] at h
          obtain⟨t,x⟩:=d
          have main:∀(m:RM) (t:Ty) (xs:List t.T),qar S w (t.flat || m==.deep) t xs u (GR k0) →
              qbZ (own.drop (k0+1)) os.tail (ds.map qb4) (acc.map (·.kill site)++[.arr site]) (st.newOb site (.arr t xs (t.flat || m==.deep) false false))=some p →
              ∃ S' g' F',Sim C S' g' F' p.2 tm w∧Cs S' w g' p.1 (uacc++u::us)∧(∀ b,S b→S' b)∧∀ s q,qad p.2.ob s=some q→q.frozen=false→∀ b,F' s b→(∃ q',qad st.ob s=some q'∧q'.frozen=false∧F s b)∨∃ k,GR k b:=by
            intro m t xs hown h
            have hs1:=hs.newG (w':=w) site (.arr t xs (t.flat || m==.deep) false false) u (GR k0) (Nat.le_refl _) (fun _ _ _=>rfl) rfl rfl (by unfold ObR;simp only[qaj];exact hown)
              (fun b hb=>.inr ⟨(hG0 b hb).1,(hG0 b hb).2.1,(hG0 b hb).2.2.1,fun s' q _ hq hqf=>(hG0 b hb).2.2.2 s' q hq hqf⟩)
            have hv:V0R S w (upd g site u) (.arr site) u:=⟨(qaj _ _ _).symm,by obtain⟨A,c,hv,_⟩:=hown;exact⟨A,_,c,hv⟩⟩
            have hobs:∀ s q,qad (st.newOb site (.arr t xs (t.flat || m==.deep) false false)).ob s=some q→q.frozen=false→∀ b,upd F site (GR k0) s b→(∃ q',qad st.ob s=some q'∧q'.frozen=false∧F s b)∨GR k0 b:=by
              intro s q hq hqf b hb
              by_cases hss:s=site
              · subst hss;rw[qaj] at hb;exact .inr hb
              · rw[qav _ _ hss] at hb
                unfold St.newOb at hq
                rw[St.setOb,qam _ _ hss] at hq
                obtain⟨q',hq',rfl⟩:=qaZ hq
                rw[Obj.frozen_kill] at hqf
                exact .inl ⟨q',hq',hqf,hb⟩
            obtain⟨S',g',F',h1,h2,h3,h4⟩:=qdD hdrr ds (k0+1) os.tail us (acc.map (·.kill site)++[.arr site]) (uacc++[u]) _ S _ _ p hs1 ((Cs.map (fun _ _ h=>h.killUpd site u) hacc).append ⟨u,[],rfl,hv,rfl⟩) hl'
              (hout' S fun _ h=>h) (fun k hk b hb=>⟨(hGR k (by omega) b hb).1,(hGR k (by omega) b hb).2.1,(hGR k (by omega) b hb).2.2.1,fun s q hq hqf hb'=>by
                rcases hobs s q hq hqf b hb' with ⟨q',hq',hqf',hb''⟩ | hb''
                · exact(hGR k (by omega) b hb).2.2.2 s q' hq' hqf' hb''
                · exact hdrr k k0 b (by omega) hb hb''⟩) h
            refine⟨S',g',F',h1,by simpa using h2,h3,fun s q hq hqf b hb=>?_⟩
            rcases h4 s q hq hqf b hb with ⟨q',hq',hqf',hb'⟩ | h5
            · rcases hobs s q' hq' hqf' b hb' with h6 | h6
              · exact .inl h6
              · exact .inr ⟨k0,h6⟩
            · exact .inr h5
          have mainB:∀(c:Ty) (x:c.T) (b:Nat) (arr:Array Value) (e:TypeId),u=.pointer (some ⟨b,0,none⟩)→GR k0 b→w.heap[b]? = some (.cells arr e (0,0))→Rp S w c x arr.toList →
              qbZ (own.drop (k0+1)) os.tail (ds.map qb4) (acc.map (·.kill site)++[.box site 0]) (st.newOb site (.box (qaJ c x) false false))=some p →
              ∃ S' g' F',Sim C S' g' F' p.2 tm w∧Cs S' w g' p.1 (uacc++u::us)∧(∀ b,S b→S' b)∧∀ s q,qad p.2.ob s=some q→q.frozen=false→∀ b,F' s b→(∃ q',qad st.ob s=some q'∧q'.frozen=false∧F s b)∨∃ k,GR k b:=by
            intro c x b0 arr e h1 h2 h3 h4 h
            have hs1:=hs.newG (w':=w) site (.box (qaJ c x) false false) u (GR k0) (Nat.le_refl _) (fun _ _ _=>rfl) rfl rfl (by
                unfold ObR;simp only[qaj];exact⟨b0,arr,e,h1,h2,h3,qbP h4⟩)
              (fun b hb=>.inr ⟨(hG0 b hb).1,(hG0 b hb).2.1,(hG0 b hb).2.2.1,fun s' q _ hq hqf=>(hG0 b hb).2.2.2 s' q hq hqf⟩)
            have hv:V0R S w (upd g site u) (.box site 0) u:=⟨b0,by rw[qaj];exact h1,h1⟩
            have hobs:∀ s q,qad (st.newOb site (.box (qaJ c x) false false)).ob s=some q→q.frozen=false→∀ b,upd F site (GR k0) s b→(∃ q',qad st.ob s=some q'∧q'.frozen=false∧F s b)∨GR k0 b:=by
              intro s q hq hqf b hb
              by_cases hss:s=site
              · subst hss;rw[qaj] at hb;exact .inr hb
              · rw[qav _ _ hss] at hb
                unfold St.newOb at hq
                rw[St.setOb,qam _ _ hss] at hq
                obtain⟨q',hq',rfl⟩:=qaZ hq
                rw[Obj.frozen_kill] at hqf
                exact .inl ⟨q',hq',hqf,hb⟩
            obtain⟨S',g',F',h1,h2,h3,h4⟩:=qdD hdrr ds (k0+1) os.tail us (acc.map (·.kill site)++[.box site 0]) (uacc++[u]) _ S _ _ p hs1 ((Cs.map (fun _ _ h=>h.killUpd site u) hacc).append ⟨u,[],rfl,hv,rfl⟩) hl'
              (hout' S fun _ h=>h) (fun k hk b hb=>⟨(hGR k (by omega) b hb).1,(hGR k (by omega) b hb).2.1,(hGR k (by omega) b hb).2.2.1,fun s q hq hqf hb'=>by
                rcases hobs s q hq hqf b hb' with ⟨q',hq',hqf',hb''⟩ | hb''
                · exact(hGR k (by omega) b hb).2.2.2 s q' hq' hqf' hb''
                · exact hdrr k k0 b (by omega) hb hb''⟩) h
            refine⟨S',g',F',h1,by simpa using h2,h3,fun s q hq hqf b hb=>?_⟩
            rcases h4 s q hq hqf b hb with ⟨q',hq',hqf',hb'⟩ | h5
            · rcases hobs s q' hq' hqf' b hb' with h6 | h6
              · exact .inl h6
              · exact .inr ⟨k0,h6⟩
            · exact .inr h5
          cases hm:own.getD k0 .imm with
          | imm=>rw[hm] at h;cases h
          | bx =>
            rw[hm] at h hd
            obtain⟨c,x',b,arr,e,he,h1,h2,h3,h4⟩:=IoR.box hd
            cases he
            exact mainB c x' b arr e h1 h2 h3 h4 h
          | own =>
            rw[hm] at h hd
            cases t with
            | sl t=>exact main .own t x hd h
            | _=>exact hd.elim
          | deep =>
            rw[hm] at h hd
            cases t with
            | sl t=>exact main .deep t x hd h
            | _=>exact hd.elim
theorem qkt{va:V}{K:St→Option ρ}{r:ρ}(hs:Sim C S g F st tm w)(h:qh4 va st K=some r) :
    ∃ F2 st2,Sim C S g F2 st2 tm w∧K st2=some r∧∀ s' p,qad st2.ob s'=some p→p.frozen=false→∀ b,F2 s' b→(∃ p',qad st.ob s'=some p'∧p'.frozen=false∧F s' b)∨∃ d,(∃ c∈va.cells,d∈c.site)∧∃ p',qad st.ob d=some p'∧p'.frozen=false∧F d b:=by
  have same:∀ {K:St→Option ρ},K st=some r→∃ F2 st2,Sim C S g F2 st2 tm w∧K st2=some r∧∀ s' p,qad st2.ob s'=some p→p.frozen=false→∀ b,F2 s' b→(∃ p',qad st.ob s'=some p'∧p'.frozen=false∧F s' b)∨∃ d,(∃ c∈va.cells,d∈c.site)∧∃ p',qad st.ob d=some p'∧p'.frozen=false∧F d b :=
    fun h=>⟨F,st,hs,h,fun s' p hp hpf b hb=>.inl ⟨p,hp,hpf,hb⟩⟩
  unfold qh4 at h
  split at h
  · rename_i d i0 off0 sz0
    split at h
    · rename_i s hfind
      split at h
      · rename_i t xs i d' v ys hob hod
        split at h
        · rename_i hc
          obtain⟨rfl,hsd⟩:=hc
          obtain⟨y,hy,h⟩:=Option.bind_eq_some_iff.1 h
          obtain⟨y',hy',hK⟩:=Option.bind_eq_some_iff.1 h
          have hh:=hs.ob s _ hob
          unfold ObR at hh
          obtain⟨b,c,arr,e,G,g1,g2,g3,g4,g5,g6,g7,g8,y2,ws,g9,g10,g11⟩:=hh
          obtain rfl:y2=y:=Option.some.inj (g9.symm.trans hy)
          have hown:qar S w true v ys (g d') (F d'):=hs.ob d' _ hod
          have hdis:∀ b',F d' b'→¬ F s b':=hs.dis d' s _ _ (Ne.symm hsd) hod hob rfl rfl
          have hlast:=g11 w v ys y' (g d') (F d') (fun _ _=>rfl) (fun b' hb' h'=>hdis b' hb' (g6 i b' h').1) hy' (qjA.2 hown)
          have hps:=hs.prv s _ hob rfl
          have hpd:=hs.prv d' _ hod rfl
          have hdrop:=(hs.drop d').1
          have hback:∀ s' p,qad (st.dropOb d').ob s'=some p→s'≠d'∧∃ p',qad st.ob s'=some p'∧p.frozen=p'.frozen:=by
            intro s' p hp
            by_cases hss:s'=d'
            · subst hss
              unfold St.dropOb at hp
              have:=qaC hp
              cases this
            · unfold St.dropOb at hp
              rw[St.setOb,qam _ _ hss] at hp
              obtain⟨o'',h1,rfl⟩:=qaZ hp
              exact⟨hss,o'',h1,Obj.frozen_kill _ _⟩
          have hnew:qar S w true t (xs.set i y') (g s) (fun b'=>F s b'∨F d' b'):=by
            rw[g1]
            have hil:=(List.getElem?_eq_some_iff.1 hy).1
            refine⟨_,c,by rw[List.length_set],by rw[List.length_set];exact g2,.inr ⟨b,arr,e,fun j=>if j=i then(fun b'=>G i b'∨F d' b') else G j,rfl,.inl g3,g4,g5,?_,?_,?_⟩⟩
            · intro j b' hj
              by_cases hji:j=i
              · simp only[hji,if_true] at hj
                rcases hj with hj | hj
                · exact⟨.inl (g6 i b' hj).1,(g6 i b' hj).2⟩
                · exact⟨.inr hj,fun e=>hdis b' hj (e ▸ g3)⟩
              · simp only[hji,if_false] at hj;exact⟨.inl (g6 j b' hj).1,(g6 j b' hj).2⟩
            · intro j k b' hjk hj hk
              by_cases hji:j=i
              · have hki:k≠i:=fun e=>hjk (hji.trans e.symm)
                simp only[hji,if_true] at hj
                simp only[hki,if_false] at hk
                rcases hj with hj | hj
                · exact g7 i k b' hki.symm hj hk
                · exact hdis b' hj (g6 k b' hk).1
              · simp only[hji,if_false] at hj
                by_cases hki:k=i
                · simp only[hki,if_true] at hk
                  rcases hk with hk | hk
                  · exact g7 j i b' hji hj hk
                  · exact hdis b' hk (g6 j b' hj).1
                · simp only[hki,if_false] at hk;exact g7 j k b' hjk hj hk
            · intro j x hx
              by_cases hji:j=i
              · subst hji
                rw[List.getElem?_set_self hil] at hx
                obtain rfl:=Option.some.inj hx
                refine⟨ws++[g d'],?_,g10⟩
                simp only[if_true];exact hlast
              · rw[List.getElem?_set_ne (Ne.symm hji)] at hx
                obtain⟨us,k1,k2⟩:=g8 j x hji hx
                refine⟨us,?_,k2⟩
                simp only[hji,if_false];exact k1
          have hfin:=hdrop.back s (.arr t (xs.set i y') true false false) (fun b'=>F s b'∨F d' b') (st':=(st.dropOb d').setOb s (some (.arr t (xs.set i y') true false false))) rfl (fun h=>by cases h) (by
              unfold ObR;simp only[qaj];exact hnew) (fun b' hb'=>by
              rcases hb' with hb' | hb'
              · exact⟨(hps b' hb').1,(hps b' hb').2,hs.szF s _ hob b' hb'⟩
              · exact⟨(hpd b' hb').1,(hpd b' hb').2,hs.szF d' _ hod b' hb'⟩) (fun s' p hne hp hpf b' hb' hF=>by
              obtain⟨h1,p',hp',hpe⟩:=hback s' p hp
              rw[hpe] at hpf
              rcases hb' with hb' | hb'
              · exact hs.dis s s' _ p' hne.symm hob hp' rfl hpf b' hb' hF
              · exact hs.dis d' s' _ p' h1.symm hod hp' rfl hpf b' hb' hF) rfl (fun s' p hp=>by
              by_cases hss:s'=s
              · subst hss
                exact .inl ⟨rfl,by rw[St.setOb] at hp;exact(by simpa using qaC hp:_=p).symm⟩
              · rw[St.setOb,qam _ _ hss] at hp
                exact .inr ⟨hss,hp⟩)
          refine⟨_,_,hfin,hK,fun s' p hp hpf b' hb'=>?_⟩
          by_cases hss:s'=s
          · subst hss
            rw[qaj] at hb'
            rcases hb' with hb' | hb'
            · exact .inl ⟨_,hob,rfl,hb'⟩
            · exact .inr ⟨d',⟨.elt d' i0 off0 sz0,by simp[V.cells],by simp[V0.site]⟩,_,hod,rfl,hb'⟩
          · rw[qav _ _ hss] at hb'
            rw[St.setOb,qam _ _ hss] at hp
            obtain⟨_,p',hp',hpe⟩:=hback s' p hp
            exact .inl ⟨p',hp',hpe ▸ hpf,hb'⟩
        · cases h
      · cases h
    · exact same h
  · exact same h
theorem qb2.back{o:Oper}{a:Act}{va:V}{K:V→St→Option ρ}{r:ρ}{M:List Nat}(h:qb2 P o a C S g F st w (fun v st=>qh4 va st fun st=>K v st) r M)(hM:∀ c∈va.cells,∀ s∈c.site,s∈M):qb2 P o a C S g F st w K r M:=by
 intro next Q hn
 refine h next Q ?_
 intro u v st' S' g' F' w' hs' hv hk hm
 obtain⟨F2,st2,h1,h2,h3⟩:=qkt hs' hk
 refine hn u v st2 S' g' F2 w' h1 hv h2 ⟨hm.mS,hm.keep,hm.keepS,fun s' p hp hpf b hb=>?_,hm.size⟩
 rcases h3 s' p hp hpf b hb with ⟨p',hp',hpf',hb'⟩ | ⟨d,⟨c,hc,hd⟩,p',hp',hpf',hb'⟩
 ·exact hm.mF s' p' hp' hpf' b hb'
 ·rcases hm.mF d p' hp' hpf' b hb' with h4 | ⟨o4,h4,_,h5⟩ | h4
  ·exact .inl h4
  ·exact .inr (.inr ⟨d,hM c hc d hd,o4,h4,h5⟩)
  ·exact .inr (.inr h4)
theorem Cs.set:∀ {cs:List V0} {us:List Value} {i:Nat} {c:V0} {u:Value},Cs S w g cs us→us[i]? = some u→V0R S w g c u→Cs S w g (cs.set i c) us
  | [],us,i,c,u,h,_,_=>h
  | c0::cs,us,i,c,u,⟨u0,us',he,h1,h2⟩,hu,hc=>by
      subst he
      cases i with
      | zero=>simp at hu;subst hu;exact⟨u0,us',rfl,hc,h2⟩
      | succ i=>exact⟨u0,us',rfl,h1,Cs.set h2 (by simpa using hu) hc⟩
theorem qar.cut{d:Bool}{t:Ty}{xs:List t.T}{v:Value}{F:qab}{A A':Option Addr}{n c hi sz:Nat}(h:qar S w d t xs v F)(hv:v=.slice A n c)(hn:hi≤n)(hA:0<c→∃ b,A=some ⟨b,0,none⟩∧A'=some ⟨b,0*sz,none⟩) :
  qar S w d t (xs.take hi) (.slice A' (hi-0) (c-0)) F:=by
 obtain⟨A1,c1,hv1,hc1,h⟩:=h
 rw[hv] at hv1
 obtain⟨rfl,rfl,rfl⟩:A=A1∧n=xs.length∧c=c1:=by simpa using hv1
 have hl:(xs.take hi).length=hi:=by rw[List.length_take];omega
 refine⟨A',c,by rw[hl];rfl,by rw[hl];omega,?_⟩
 rcases h with h | ⟨b,arr,e,G,hAb,hb,hh,hs,hG,hd,he⟩
 ·exact .inl h
 ·by_cases hc:c=0
  ·exact .inl hc
  ·obtain⟨b',h1,h2⟩:=hA (by omega)
   rw[hAb] at h1
   obtain rfl:b=b':=by simpa using h1
   refine .inr ⟨b,arr,e,G,by rw[h2,Nat.zero_mul],hb,hh,hs,hG,hd,fun i x hx=>?_⟩
   rw[List.getElem?_take] at hx
   split at hx
   ·exact he i x hx
   ·cases hx
theorem qj1{va v:V}{u:Value}{st0:St}(hs:Sim C S g F st tm w)(hv:VR S w g v u) :
  ∃ g',Sim C S g' F (qdd va st0 v st).2 tm w∧VR S w g' (qdd va st0 v st).1 u ∧
   ∀ s' p,qad (qdd va st0 v st).2.ob s'=some p→p.frozen=false→∃ p',qad st.ob s'=some p'∧p'.frozen=false:=by
 have same:∃ g',Sim C S g' F st tm w∧VR S w g' v u∧∀ s' p,qad st.ob s'=some p→p.frozen=false→∃ p',qad st.ob s'=some p'∧p'.frozen=false :=
  ⟨g,hs,hv,fun s' p h1 h2=>⟨p,h1,h2⟩⟩
 unfold qdd
 split
 ·rename_i s off
  split
  ·split
   ·rename_i a _
    split
    ·rename_i cs fx t xs d hob hoa
     split
     ·rename_i a' hi sz hsub
      split
      ·rename_i hc
       obtain⟨rfl,hne⟩:=hc
       obtain⟨b,arr,e,hg,hF,hh,hcs⟩:=hs.ob s _ hob
       obtain⟨y,hy,hyv⟩:=hcs.get hsub
       obtain⟨A,n,c,A',h1,h2,h3,h4,h5⟩:=hyv
       have hown:qar S w d t xs (g a') (F a'):=hs.ob a' _ hoa
       have hcut:=hown.cut h1 h4 h5
       rw[← h2] at hcut
       have hprv:=hs.prv a' _ hoa rfl
       have hsz:=hs.szF a' _ hoa
       have k1:=hs.newG (w':=w) a' (.arr t (xs.take hi) d false false) y (F a') (Nat.le_refl _) (fun _ _ _=>rfl) rfl rfl (by unfold ObR;simp only[qaj];exact hcut)
        (fun b' hb'=>.inr ⟨(hprv b' hb').1,(hprv b' hb').2,hsz b' hb',fun s' p hn hp hpf hF=>hs.dis a' s' _ p (Ne.symm hn) hoa hp rfl hpf b' hb' hF⟩)
       rw[qcv] at k1
       have hsl:s<st.ob.length:=(List.getElem?_eq_some_iff.1 (qcn hob)).1
       have hob2:qad (st.newOb a' (.arr t (xs.take hi) d false false)).ob s=some (.box (cs.map (·.kill a')) false fx):=by
        unfold St.newOb
        rw[St.setOb,qam _ _ (Ne.symm hne),St.kill,qek,hob];rfl
       have hcs2:Cs S w (upd g a' y) (cs.map (·.kill a')) arr.toList:=Cs.map (fun _ _ hv=>V0R.killUpd a' y hv) hcs
       have k2:=k1.setS (S':=S) s _ (.box ((cs.map (·.kill a')).set off (.arr a')) false fx) (F s) hob2 rfl (fun _ h=>h) (fun _ h=>.inl h) (fun b' h=>h) rfl (fun h=>by rw[qav _ _ (Ne.symm hne)];exact hs.fx s _ hob h) (by
        refine⟨b,arr,e,by rw[qav _ _ (Ne.symm hne)];exact hg,by rw[qaj];exact hF,hh,hcs2.set hy ⟨(qaj _ _ _).symm,A',_,_,h2⟩⟩)
       rw[qcv] at k2
       refine⟨_,k2,VR.map (f:=V0.kill a') (f':=V.kill a') (fun _=>rfl) (fun _=>rfl) (fun _=>rfl) (fun _ _ hv=>V0R.killUpd a' y hv) hv,fun s' p hp hpf=>?_⟩
       by_cases hss:s'=s
       ·subst hss;exact⟨_,hob,rfl⟩
       ·rw[St.setOb,qam _ _ hss] at hp
        by_cases hsa:s'=a'
        ·subst hsa;exact⟨_,hoa,rfl⟩
        ·unfold St.newOb at hp
         rw[St.setOb,qam _ _ hsa] at hp
         obtain⟨o'',h6,rfl⟩:=qaZ hp
         rw[Obj.frozen_kill] at hpf
         exact⟨o'',h6,hpf⟩
      ·exact same
     ·exact same
    ·exact same
   ·exact same
  ·exact same
 ·exact same
theorem qb2.cut{o:Oper}{a:Act}{va:V}{st0:St}{K:V→St→Option ρ}{r:ρ}{M:List Nat}(h:qb2 P o a C S g F st w (fun v st=>K (qdd va st0 v st).1 (qdd va st0 v st).2) r M):qb2 P o a C S g F st w K r M:=by
 intro next Q hn
 refine h next Q ?_
 intro u v st' S' g' F' w' hs' hv hk hm
 obtain⟨g2,h1,h2,h3⟩:=qj1 (va:=va) (st0:=st0) hs' hv
 refine hn u _ _ S' g2 F' w' h1 h2 hk ⟨hm.mS,hm.keep,hm.keepS,fun s' p hp hpf b hb=>?_,hm.size⟩
 obtain⟨p',hp',hpf'⟩:=h3 s' p hp hpf
 exact hm.mF s' p' hp' hpf' b hb
theorem qeO{c:V0}{d:Dv}{u:Value}(h:qkI c=some d)(hv:V0R S w g c u):Rp S w d.t d.x [u]:=by
 cases c with
 | d t x=>obtain rfl:=Option.some.inj h;exact hv
 | ip c x off =>
  cases off with
  | succ=>cases h
  | zero =>
   obtain rfl:=Option.some.inj h
   obtain⟨b,o,us,h1,h2,h3,h4⟩:=hv
   exact⟨b,o,us,by rw[h1];rfl,h2,h3,h4⟩
 | nils t =>
  obtain rfl:=Option.some.inj h
  obtain⟨A,rfl⟩:=hv
  exact⟨A,0,rfl,Nat.le_refl _,.inl rfl⟩
 | _=>cases h
theorem qds{ob:List (Option Obj)}{s:Nat}(o:Option Obj)(h:s<ob.length):qad (ob.set s o) s=o:=by
 unfold qad
 simp only[List.getD_eq_getElem?_getD]
 rw[List.getElem?_set_self h];rfl
theorem qgy{ob:List (Option Obj)}{a:Nat}{u:Ty}{xs:List u.T}{d:Bool}{G:qab}(ha:qad ob a=some (.arr u xs d false false))(hown:qar S w false u xs (g a) G):∀ {k:Nat} {cs:List V0} {us:List Value} {r:Dv},
    qlI ob k cs=some r→cs[k]? = some (.arr a)→Cs S w g cs us→RpK S w G k r.t r.x us
  | 0,cs,us,r,h,hk,hcs=>by
      cases cs with
      | nil=>simp at hk
      | cons c cs =>
        simp at hk;subst hk
        simp only[qlI,ha] at h
        obtain⟨ds,hm,rfl⟩:=Option.map_eq_some_iff.1 h
        obtain⟨v,us',rfl,⟨h1,_⟩,h2⟩:=hcs
        exact⟨v,us',rfl,by rw[h1];exact hown,qd0 hm h2 fun c' _ u' d' hd' hv'=>qeO hd' hv'⟩
  | k+1,cs,us,r,h,hk,hcs=>by
      cases cs with
      | nil=>simp at hk
      | cons c cs =>
        simp only[qlI] at h
        obtain⟨d',hd,h⟩:=Option.bind_eq_some_iff.1 h
        cases hsc:d'.t.sc with
        | false=>rw[hsc] at h;cases h
        | true =>
          rw[hsc,cond_true] at h
          obtain⟨r',hr,rfl⟩:=Option.map_eq_some_iff.1 h
          obtain⟨v,us',rfl,h1,h2⟩:=hcs
          exact⟨hsc,v,us',rfl,qeO hd h1,qgy ha hown hr (by simpa using hk) h2⟩
theorem qeM{s k:Nat}{st':St}(hs:Sim C S g F st tm w)(h:qg3 s k st=some st') :
    ∃ a S' F',(∃ cs fx,qad st.ob s=some (.box cs false fx)∧cs[k]? = some (.arr a))∧a≠s∧(∃ o,qad st.ob a=some o∧o.frozen=false)∧Sim C S' g F' st' tm w∧(∀ b,S b→S' b)∧(∀ b,S' b→S b∨F a b) ∧
      (∃ o,qad st'.ob s=some o∧o.frozen=false) ∧
      ∀ s' p,qad st'.ob s'=some p→∃ p',qad st.ob s'=some p'∧p'.frozen=p.frozen∧∀ b,F' s' b→F s' b∨(s'=s∧F a b):=by
  unfold qg3 at h
  split at h
  · rename_i cs fx hob
    split at h
    · rename_i a hk
      split at h
      · rename_i u xs d hoa
        split at h
        · cases h
        · rename_i hne
          obtain⟨r,hr,rfl⟩:=Option.map_eq_some_iff.1 h
          obtain⟨S',Fs,hs1,hSS,hSS2,hFs⟩:=hs.weakenTo hoa false
          rw[Bool.and_false] at hs1
          have hget1:∀ s',s'≠a→qad (st.setOb a (some (.arr u xs false false false))).ob s'=qad st.ob s':=fun s' hn=>by rw[St.setOb,qam _ _ hn]
          have hlen:a<st.ob.length:=by
            have:=qcn hoa
            exact(List.getElem?_eq_some_iff.1 this).1
          have hgeta:qad (st.setOb a (some (.arr u xs false false false))).ob a=some (.arr u xs false false false):=qds _ hlen
          have hob1:qad (st.setOb a (some (.arr u xs false false false))).ob s=some (.box cs false fx):=by rw[hget1 s (Ne.symm hne)];exact hob
          have hown:qar S' w false u xs (g a) Fs:=by
            have:=hs1.ob a _ hgeta
            unfold ObR at this;simp only[qaj] at this;exact this
          obtain⟨b,arr,e,hg,hFb,hh,hcs⟩:=hs1.ob s _ hob1
          rw[qav _ _ (Ne.symm hne)] at hFb
          have hRp:RpK S' w Fs k r.t r.x arr.toList:=qgy hoa hown hr hk hcs
          have hps:=hs1.prv s _ hob1 rfl
          have hpa:=hs1.prv a _ hgeta rfl
          have hza:=hs1.szF a _ hgeta
          have hzs:=hs1.szF s _ hob1
          rw[qav _ _ (Ne.symm hne)] at hps hzs
          rw[qaj] at hpa hza
          have hdis:∀ b',Fs b'→¬ F s b':=fun b' h1 h2=>hs.dis a s _ _ hne hoa hob rfl rfl b' (hFs b' h1) h2
          have hdrop:=(hs1.drop a).1
          have hback:∀ s' p,qad ((st.setOb a (some (.arr u xs false false false))).dropOb a).ob s'=some p→s'≠a∧∃ p',qad st.ob s'=some p'∧p'.frozen=p.frozen:=by
            intro s' p hp
            by_cases hss:s'=a
            · subst hss
              unfold St.dropOb at hp
              have:=qaC hp
              cases this
            · unfold St.dropOb at hp
              rw[St.setOb,qam _ _ hss] at hp
              obtain⟨o'',h1,rfl⟩:=qaZ hp
              rw[hget1 s' hss] at h1
              exact⟨hss,o'',h1,(Obj.frozen_kill _ _).symm⟩
          have hfin:=hdrop.back s (.bxo r.t r.x k a false fx) (fun b'=>F s b'∨Fs b') (st':=((st.setOb a (some (.arr u xs false false false))).dropOb a).setOb s (some (.bxo r.t r.x k a false fx))) rfl (fun h=>hs.fx s _ hob h) (by
              unfold ObR;simp only[qaj]
              exact⟨b,arr,e,Fs,hg,.inl hFb,hh,fun b' hb'=>⟨.inr hb',fun e=>hdis b' hb' (e ▸ hFb)⟩,hRp⟩) (fun b' hb'=>by
              rcases hb' with hb' | hb'
              · exact⟨(hps b' hb').1,(hps b' hb').2,hzs b' hb'⟩
              · exact⟨(hpa b' hb').1,(hpa b' hb').2,hza b' hb'⟩) (fun s' p hne' hp hpf b' hb' hF=>by
              obtain⟨h1,p',hp',hpe⟩:=hback s' p hp
              rw[← hpe] at hpf
              rw[qav _ _ h1] at hF
              rcases hb' with hb' | hb'
              · exact hs.dis s s' _ p' hne'.symm hob hp' rfl hpf b' hb' hF
              · exact hs.dis a s' _ p' h1.symm hoa hp' rfl hpf b' (hFs b' hb') hF) rfl (fun s' p hp=>by
              by_cases hss:s'=s
              · subst hss
                exact .inl ⟨rfl,by rw[St.setOb] at hp;exact(by simpa using qaC hp:_=p).symm⟩
              · rw[St.setOb,qam _ _ hss] at hp
                exact .inr ⟨hss,hp⟩)
          have hslen:s<(((st.setOb a (some (.arr u xs false false false))).dropOb a).ob).length:=by
            have h1:=(List.getElem?_eq_some_iff.1 (qcn hob)).1
            simpa [St.dropOb,St.setOb,St.kill] using h1
          refine⟨a,S',_,⟨cs,fx,hob,hk⟩,hne,⟨_,hoa,rfl⟩,hfin,hSS,hSS2,⟨.bxo r.t r.x k a false fx,?_,rfl⟩,fun s' p hp=>?_⟩
          · exact qds _ hslen
          · by_cases hss:s'=s
            · subst hss
              have hp2:some (Obj.bxo r.t r.x k a false fx)=some p:=by rw[St.setOb] at hp;exact qaC hp
              obtain rfl:=Option.some.inj hp2
              refine⟨_,hob,rfl,fun b' hb'=>?_⟩
              rw[qaj] at hb'
              rcases hb' with hb' | hb'
              · exact .inl hb'
              · exact .inr ⟨rfl,hFs b' hb'⟩
            · rw[St.setOb,qam _ _ hss] at hp
              obtain⟨h1,p',hp',hpe⟩:=hback s' p hp
              refine⟨p',hp',hpe,fun b' hb'=>?_⟩
              rw[qav _ _ hss,qav _ _ h1] at hb'
              exact .inl hb'
      · cases h
    · cases h
  · cases h
theorem qpp{a:Nat}{G:qab}:∀ {k:Nat} {c:Ty} {x:c.T} {us:List Value},RpK S w G k c x us→∃ u xs v,qrp k c x=some ⟨.sl u,xs⟩∧qar S w false u xs v G ∧
    ∀ g:Nat→Value,g a=v→Cs S w g ((qaJ c x).set k (.arr a)) us∧(qaJ c x).length=us.length
  | 0,.cons (.sl u) b,x,us,⟨v,us',h1,h2,h3⟩=>by
      refine⟨u,x.1,v,rfl,h2,fun g hg=>?_⟩
      subst h1
      have e:=qbP (g:=g) h3
      obtain⟨A,c,hv,_⟩:=h2
      refine⟨⟨v,us',rfl,⟨hg.symm,A,_,c,hv⟩,e⟩,?_⟩
      show(qaJ b x.2).length+1=_
      rw[← e.len];rfl
  | k+1,.cons t b,x,us,⟨hsc,v,us',h1,h2,h3⟩=>by
      obtain⟨u,xs,v',e1,e2,e3⟩:=qpp (a:=a) h3
      refine⟨u,xs,v',e1,e2,fun g hg=>?_⟩
      subst h1
      obtain⟨e4,e5⟩:=e3 g hg
      have hx:qaJ (.cons t b) x=qgq t x.1::qaJ b x.2:=by
        show qdC t x.1++qaJ b x.2=_
        unfold qdC;rw[hsc];rfl
      rw[hx]
      exact⟨⟨v,us',rfl,qcB h2,e4⟩,by simp[e5]⟩
theorem qiW:∀ {cs:List V0} {us:List Value},cs.length=us.length→Cs S w g (cs.map fun _=>.dead) us
 | [],[],_=>rfl
 | [],_::_,h=>by simp at h
 | _::_,[],h=>by simp at h
 | _::cs,u::us,h=>⟨u,us,rfl,trivial,qiW (by simpa using h)⟩
theorem qfu{s:Nat}{v:V}{u:Value}(hs:Sim C S g F st tm w)(hv:VR S w g v u) :
  ∃ g' F',Sim C S g' F' (qgc s v st).2 tm w∧VR S w g' (qgc s v st).1 u ∧
   ∀ s' o',qad (qgc s v st).2.ob s'=some o'→o'.frozen=false→∀ b,F' s' b→(∃ o,qad st.ob s'=some o∧o.frozen=false∧F s' b)∨(∃ o,qad st.ob s=some o∧o.frozen=false∧F s b):=by
 have same:∃ g' F',Sim C S g' F' st tm w∧VR S w g' v u∧∀ s' o',qad st.ob s'=some o'→o'.frozen=false→∀ b,F' s' b→(∃ o,qad st.ob s'=some o∧o.frozen=false∧F s' b)∨(∃ o,qad st.ob s=some o∧o.frozen=false∧F s b) :=
  ⟨g,F,hs,hv,fun s' o' ho hf b hb=>.inl ⟨o',ho,hf,hb⟩⟩
 unfold qgc
 split
 ·rename_i c x k a fx hob
  split
  ·rename_i t xs howa
   split
   ·exact same
   ·rename_i hne
    have hB:qnV S w c x k (g s) (F s):=hs.ob s _ hob
    obtain⟨b,arr,e,G,hg,hFb,hh,hG,hRp⟩:=hB
    obtain⟨t',xs',val,e1,e2,e3⟩:=qpp (a:=a) hRp
    rw[howa] at e1
    obtain⟨rfl,e1'⟩:t=t'∧HEq xs xs':=by
     have:=Option.some.inj e1
     injection this with h1 h2
     injection h1 with h1
     exact⟨h1,h2⟩
    obtain rfl:=eq_of_heq e1'
    have hlen:(qaJ c x).length=arr.toList.length:=(e3 (fun _=>val) rfl).2
    have hprv:=hs.prv s _ hob rfl
    have hszs:=hs.szF s _ hob
    have h1:=hs.setS (S':=S) s _ (.box ((qaJ c x).map fun _=>.dead) false fx) (fun b'=>F s b'∧b'=b) hob rfl (fun _ h=>h) (fun _ h=>.inl h) (fun b' h=>h.1) rfl (fun h=>hs.fx s _ hob h) (by
     refine⟨b,arr,e,hg,by rw[qaj];exact⟨hFb,rfl⟩,hh,qiW hlen⟩)
    have hd:qar S w t.flat t xs val G:=by
     cases hf:t.flat with
     | true=>exact e2.flat hf
     | false=>exact e2
    have h2:=h1.newG (w':=w) a (.arr t xs t.flat false false) val G (Nat.le_refl _) (fun _ _ _=>rfl) rfl rfl (by unfold ObR;simp only[qaj];exact hd)
     (fun b' hb'=>.inr ⟨(hprv b' (hG b' hb').1).1,(hprv b' (hG b' hb').1).2,hszs b' (hG b' hb').1,fun s' p hn hp hpf hF=>by
      by_cases hss:s'=s
      ·subst hss;rw[qaj] at hF;exact(hG b' hb').2 hF.2
      ·rw[qav _ _ hss] at hF
       rw[St.setOb,qam _ _ hss] at hp
       exact hs.dis s s' _ p (Ne.symm hss) hob hp rfl hpf b' (hG b' hb').1 hF⟩)
    have hsl:s<st.ob.length:=(List.getElem?_eq_some_iff.1 (qcn hob)).1
    have hob2:qad ((st.setOb s (some (.box ((qaJ c x).map fun _=>.dead) false fx))).newOb a (.arr t xs t.flat false false)).ob s=some (.box (((qaJ c x).map fun _=>V0.dead).map (·.kill a)) false fx):=by
     unfold St.newOb
     rw[St.setOb,qam _ _ (Ne.symm hne),St.kill,qek]
     rw[St.setOb,qds _ hsl];rfl
    have h3:=h2.setS (S':=S) s _ (.box ((qaJ c x).set k (.arr a)) false fx) (fun b'=>F s b'∧b'=b) hob2 rfl (fun _ h=>h) (fun _ h=>.inl h) (fun b' h=>by rw[qav _ _ (Ne.symm hne),qaj];exact h) rfl (fun h=>by rw[qav _ _ (Ne.symm hne)];exact hs.fx s _ hob h) (by
     refine⟨b,arr,e,by rw[qav _ _ (Ne.symm hne)];exact hg,by rw[qaj];exact⟨hFb,rfl⟩,hh,(e3 _ (qaj _ _ _)).1⟩)
    refine⟨_,_,h3,VR.map (f:=V0.kill a) (f':=V.kill a) (fun _=>rfl) (fun _=>rfl) (fun _=>rfl) (fun _ _ hv=>V0R.killUpd a val hv) hv,fun s' o' ho hf b' hb'=>?_⟩
    by_cases hss:s'=s
    ·subst hss;rw[qaj] at hb';exact .inr ⟨_,hob,rfl,hb'.1⟩
    ·rw[qav _ _ hss] at hb'
     by_cases hsa:s'=a
     ·subst hsa;rw[qaj] at hb';exact .inr ⟨_,hob,rfl,(hG b' hb').1⟩
     ·rw[qav _ _ hsa,qav _ _ hss] at hb'
      rw[St.setOb,qam _ _ hss] at ho
      unfold St.newOb at ho
      rw[St.setOb,qam _ _ hsa] at ho
      obtain⟨o'',h4,rfl⟩:=qaZ ho
      rw[St.setOb,qam _ _ hss] at h4
      rw[Obj.frozen_kill] at hf
      exact .inl ⟨o'',h4,hf,hb'⟩
  ·exact same
 ·exact same
end
end Ve
namespace Ve
open Go
section
variable {S S':qab} {w w':World} {g g':Nat→Value} {C:Ctx} {F F':Nat→qab} {st:St} {tm:Array Value} {P:Program} {ρ:Type}
theorem qar.deepAny{t:Ty}{xs:List t.T}{v:Value}{Fs:qab}(h:qar S w true t xs v Fs):qar S' w true t xs v Fs:=by
 unfold qar El at *
 exact h
def qlN(m:RM)(t:Ty):Bool:=match m,t with
  | .imm,t=>t.flat
  | .own,.sl t=>t.flat
  | .own,_=>false
  | .deep,_=>true
  | .bx,.ptr c=>c.flat
  | .bx,_=>false
theorem qhk:∀ {ts:List Ty} {ms:List RM},qhy ms ts=true→∀(k:Nat) t,ts[k]? = some t→qlN (ms.getD k .imm) t=true
  | [],ms,h,k,t,hk=>by simp at hk
  | t'::ts,ms,h,0,t,hk=>by
      simp at hk;subst hk
      unfold qhy at h
      simp only[Bool.and_eq_true] at h
      have e:ms.getD 0 .imm=ms.headD .imm:=by cases ms<;>rfl
      rw[e];exact h.1
  | t'::ts,ms,h,k+1,t,hk=>by
      unfold qhy at h
      simp only[Bool.and_eq_true] at h
      have:=qhk h.2 k t (by simpa using hk)
      have e:ms.tail.getD k .imm=ms.getD (k+1) .imm:=by cases ms<;>simp
      rwa [e] at this
theorem qnn.any{m:RM}{d:Dv}{u:Value}{G:qab}(h:qnn S w m d u G)(hc:qlN m d.t=true):qnn S' w m d u G:=by
 obtain⟨t,x⟩:=d
 cases m with
 | imm=>exact Rp.flat t x _ hc h
 | own =>
  cases t with
  | sl t=>exact qar.flat hc h
  | _=>exact h.elim
 | deep =>
  cases t with
  | sl t =>
   have e:(t.flat || (RM.deep==RM.deep))=true:=by rw[show(RM.deep==RM.deep)=true from rfl,Bool.or_true]
   have h':qar S w (t.flat || (RM.deep==RM.deep)) t x u G:=h
   rw[e] at h'
   have:qar S' w (t.flat || (RM.deep==RM.deep)) t x u G:=by rw[e];exact h'.deepAny
   exact this
  | _=>exact h.elim
 | bx =>
  obtain⟨c,x',b,arr,e,he,h1,h2,h3,h4⟩:=IoR.box h
  cases he
  exact⟨b,arr,e,h1,h2,h3,Rp.flat c x' _ hc h4⟩
theorem qgK.mono{GP:Nat→qab}{us:List Value}(f:∀ m d u i,IoR S w m d u (GP i)→IoR S' w m d u (GP i)):∀ {pm:List PM} {i:Nat} {ds:List Dv},qgK S w GP us pm i ds→qgK S' w GP us pm i ds
  | [],i,ds,h=>trivial
  | m::pm,i,ds,h=>by
      unfold qgK at h ⊢
      split
      · rename_i hm
        rw[if_pos hm] at h
        obtain⟨d,ds',u,h1,h2,h3,h4⟩:=h
        exact⟨d,ds',u,h1,h2,f m d u i h3,qgK.mono f h4⟩
      · rename_i hm
        rw[if_neg hm] at h
        exact qgK.mono f h
theorem qgK.any{GP:Nat→qab}{us:List Value}:∀ {pm:List PM} {i:Nat} {ds:List Dv},qcS pm (ds.map (·.t))=true→qgK S w GP us pm i ds→qgK S' w GP us pm i ds
  | [],i,ds,_,h=>trivial
  | m::pm,i,ds,hc,h=>by
      unfold qgK at h ⊢
      cases m with
      | imm=>exact qgK.any (pm:=pm) hc h
      | take dp=>exact qgK.any (pm:=pm) hc h
      | io dp =>
        simp only[PM.isIo,if_true] at h ⊢
        obtain⟨d,ds',u,rfl,h2,h3,h4⟩:=h
        simp only[List.map_cons,qcS,Bool.and_eq_true] at hc
        refine⟨d,ds',u,rfl,h2,?_,qgK.any hc.2 h4⟩
        obtain⟨t,x⟩:=d
        cases t with
        | sl t =>
          have h3':qar S w (t.flat || dp) t x u (GP i):=h3
          have:qar S' w (t.flat || dp) t x u (GP i):=by
            cases hf:t.flat with
            | true=>exact h3'.flat hf
            | false =>
              have hdp:dp=true:=by
                have:=hc.1
                simp only[hf,Bool.or_false] at this
                exact this
              subst hdp
              rw[Bool.or_true] at h3'
              rw[Bool.or_true]
              exact h3'.deepAny
          exact this
        | _=>exact h3.elim
      | iob =>
        simp only[PM.isIo,if_true] at h ⊢
        obtain⟨d,ds',u,rfl,h2,h3,h4⟩:=h
        simp only[List.map_cons,qcS,Bool.and_eq_true] at hc
        refine⟨d,ds',u,rfl,h2,?_,qgK.any hc.2 h4⟩
        obtain⟨t,x⟩:=d
        cases t with
        | ptr c =>
          obtain⟨b,arr,e,h5,h6,h7,h8⟩:=h3
          exact⟨b,arr,e,h5,h6,h7,Rp.flat c x _ hc.1 h8⟩
        | _=>exact h3.elim
      | iobo k =>
        simp only[PM.isIo,if_true] at h
        obtain⟨d,ds',u,rfl,_⟩:=h
        cases hc
theorem cast?_self{t u:Ty}{x:t.T}{y:u.T}(h:cast? t u x=some y):qbv t x=qbv u y:=by
 obtain⟨e,rfl⟩:=cast?_some h
 cases e
 rfl
theorem qoF{l h:List Nat}:∀(ob:List (Option Obj)),Frz ob (l.foldl (fun ob s=>bif h.contains s then ob else ob.modify s (·.map Obj.freeze)) ob):=by
 induction l with
 | nil=>exact fun ob=>Frz.refl ob
 | cons a l ih =>
  intro ob
  rw[List.foldl_cons]
  refine Frz.trans ?_ (ih _)
  cases h.contains a
  ·exact Frz.modify ob a
  ·exact Frz.refl ob
theorem qi3{h:List Nat}:∀(l:List Nat) (ob:List (Option Obj)),(∀ s∈l,s∉h)→∀ s o,qad (l.foldl (fun ob s=>bif h.contains s then ob else ob.modify s (·.map Obj.freeze)) ob) s=some o →
    (s∈l→o.frozen=true)∧(s∉l→qad ob s=some o)
  | [],ob,_,s,o,ho=>⟨fun h=>by simp at h,fun _=>ho⟩
  | a::l,ob,hl,s,o,ho=>by
      rw[List.foldl_cons] at ho
      have ha:h.contains a=false:=by
        have:=hl a (by simp)
        simpa using this
      rw[ha,cond_false] at ho
      obtain⟨h1,h2⟩:=qi3 l _ (fun s hs=>hl s (by simp[hs])) s o ho
      by_cases hsl:s∈l
      · exact⟨fun _=>h1 hsl,fun hn=>absurd (List.mem_cons_of_mem _ hsl) hn⟩
      · have ho2:=h2 hsl
        rw[qbN] at ho2
        by_cases hsa:s=a
        · subst hsa
          rw[if_pos rfl] at ho2
          obtain⟨o',_,rfl⟩:=Option.map_eq_some_iff.1 ho2
          exact⟨fun _=>Obj.freeze_frozen _,fun hn=>absurd (by simp) hn⟩
        · rw[if_neg hsa] at ho2
          exact⟨fun hm=>by simp[hsa,hsl] at hm,fun _=>ho2⟩
theorem qfv{gl:Gls}{E:Env}{R:Run}{pol:Pol}{o:Oper}{f:Nat}{gs:List (Bool×Nat)}{cells:List V0}{us:List Value}{a:Act}{K:V→St→Option ρ}{r:ρ}
    (hR:∀ f args dv sg,E.sig f=some sg→R.r f args=some dv→qaO gl P sg f args dv) (hG:∀ S g F st tm w,Sim C S g F st tm w→Gl gl w S) (hD:C.dr=pol.dr) (hs:Sim C S g F st a.tmps w) (hcs:Cs S w g cells us)
    (hexec:∀ sg,E.sig f=some sg→gs=sg.ps→(execOp a.eval o).run P w=.ok (.enter f (qaR gs us).toArray) w) (h:qfX E R pol f gs cells o.dst st K=some r)
    {M:List Nat} (hM:∀ sg,E.sig f=some sg→∀ s∈qa6 sg.pm 0 cells,s∈M):qb2 P o a C S g F st w K r M:=by
  unfold qfX at h
  split at h
  · cases h
  · rename_i sg hsg
    simp only at h
    split at h
    · rename_i hcond
      obtain⟨hgs,hdr,hnd,hlh,hg1,hr1⟩:=hcond
      obtain⟨args,hargs,h⟩:=Option.bind_eq_some_iff.1 h
      obtain⟨rv,hrv,h⟩:=Option.bind_eq_some_iff.1 h
      obtain⟨st3,hios,h⟩:=Option.bind_eq_some_iff.1 h
      obtain⟨p,hadopt,h⟩:=Option.bind_eq_some_iff.1 h
      obtain⟨v,hv,hk⟩:=Option.bind_eq_some_iff.1 h
      unfold qgg at hrv
      obtain⟨dv,hdv,hto⟩:=Option.bind_eq_some_iff.1 hrv
      have hun:qbv dv.t dv.x=qbv sg.out rv:=cast?_self hto
      rw[← hun] at hios hadopt
      have hcon:=hR f args dv sg hsg hdv
      have hexec':=hexec sg hsg hgs
      have hM':=hM sg hsg
      have hnd':=qeW hnd
      have hlh':∀ s∈qme st.ob sg.pm 0 cells,s∉qa6 sg.pm 0 cells:=fun s hs'=>by
        have:=List.all_eq_true.1 hlh s hs'
        simpa using this
      obtain⟨halen,hag⟩:=qh0 hargs
      have hulen:=hcs.len
      have hobj:∀(i:Nat) c s,cells[i]? = some c→s∈qbn (qaz sg.pm i) c→∃ o,qad st.ob s=some o∧o.frozen=false:=by
        intro i c s hc hh
        have hlt:=(List.getElem?_eq_some_iff.1 hc).1
        have hd:=hag i c args[i] hc (List.getElem?_eq_getElem (by omega))
        rw[Nat.zero_add] at hd
        generalize sg.pt.getD i .nil=pti at hd
        cases hm:qaz sg.pm i with
        | imm=>rw[hm] at hh;simp[qbn] at hh
        | io dp =>
          rw[hm] at hh hd
          cases c with
          | arr s' =>
            simp[qbn] at hh;subst hh
            simp only[qem] at hd
            split at hd
            · rename_i ho;exact⟨_,ho,rfl⟩
            · cases hd
          | _=>simp[qbn] at hh
        | take dp =>
          rw[hm] at hh hd
          cases c with
          | arr s' =>
            simp[qbn] at hh;subst hh
            simp only[qem] at hd
            split at hd
            · rename_i ho;exact⟨_,ho,rfl⟩
            · cases hd
          | _=>simp[qbn] at hh
        | iob =>
          rw[hm] at hh hd
          cases c with
          | box s' off =>
            simp[qbn] at hh;subst hh
            cases off with
            | succ off=>cases hd
            | zero =>
              simp only[qem] at hd
              split at hd
              · rename_i ho;exact⟨_,ho,rfl⟩
              · cases hd
          | arr s'=>cases hd
          | _=>simp[qbn] at hh
        | iobo k =>
          rw[hm] at hh hd
          cases c with
          | box s' off =>
            simp[qbn] at hh;subst hh
            cases off with
            | succ off=>cases hd
            | zero =>
              simp only[qem] at hd
              split at hd
              · rename_i ho;exact⟨_,ho,rfl⟩
              · cases hd
          | _=>simp[qbn] at hh
      have hpar:∀ i:Nat,∃ Fi:qab,(∀ b,Fi b→∃ c s,cells[i]? = some c∧s∈qbn (qaz sg.pm i) c∧F s b) ∧
          ∀ S1:qab,(∀ b,S b→S1 b)→(∀ s∈qme st.ob sg.pm 0 cells,∀ o,qad st.ob s=some o→∀ b,F s b→S1 b) →
            (∀ c s b,cells[i]? = some c→s∈qbn (qaz sg.pm i) c→F s b→¬ Fi b→S1 b)→∀ d u,args[i]? = some d→us[i]? = some u→qr2 S1 w (qaz sg.pm i) d u Fi:=by
        intro i
        cases hc:cells[i]? with
        | none =>
          refine⟨fun _=>False,fun _ h=>h.elim,fun S1 _ _ _ d u hd hu=>?_⟩
          have:=List.getElem?_eq_none_iff.1 hc
          rw[List.getElem?_eq_none (by omega)] at hu;cases hu
        | some c =>
          have hlt:=(List.getElem?_eq_some_iff.1 hc).1
          obtain⟨u0,hu0,hvu⟩:=hcs.get hc
          have hd0:=hag i c args[i] hc (List.getElem?_eq_getElem (by omega))
          rw[Nat.zero_add] at hd0
          generalize sg.pt.getD i .nil=pti at hd0
          have hlent:=fun s (hs':s∈qpb st.ob (qaz sg.pm i) c)=>qnm (ob:=st.ob) (pm:=sg.pm) (i0:=0) hc (by rwa [Nat.zero_add])
          have fin:∀ Fi:qab,(∀ b,Fi b→∃ s,s∈qbn (qaz sg.pm i) c∧F s b)→(∀ S1:qab,(∀ b,S b→S1 b)→(∀ s∈qpb st.ob (qaz sg.pm i) c,∀ o,qad st.ob s=some o→∀ b,F s b→S1 b) →
              (∀ s b,s∈qbn (qaz sg.pm i) c→F s b→¬ Fi b→S1 b)→qr2 S1 w (qaz sg.pm i) args[i] u0 Fi)→∃ Fi:qab,(∀ b,Fi b→∃ c' s,some c=some c'∧s∈qbn (qaz sg.pm i) c'∧F s b) ∧
          ∀ S1:qab,(∀ b,S b→S1 b)→(∀ s∈qme st.ob sg.pm 0 cells,∀ o,qad st.ob s=some o→∀ b,F s b→S1 b) →
            (∀ c' s b,some c=some c'→s∈qbn (qaz sg.pm i) c'→F s b→¬ Fi b→S1 b)→∀ d u,args[i]? = some d→us[i]? = some u→qr2 S1 w (qaz sg.pm i) d u Fi:=by
            intro Fi h1 h2
            refine⟨Fi,fun b hb=>?_,fun S1 hS1 hl1 hF1 d u hd hu=>?_⟩
            · obtain⟨s,h3,h4⟩:=h1 b hb
              exact⟨c,s,rfl,h3,h4⟩
            · rw[List.getElem?_eq_getElem (by omega)] at hd
              obtain rfl:=Option.some.inj hd
              rw[hu0] at hu
              obtain rfl:=Option.some.inj hu
              exact h2 S1 hS1 (fun s hs'=>hl1 s (hlent s hs')) fun s b h3 h4 h5=>hF1 c s b rfl h3 h4 h5
          generalize args[i]=d0 at hd0 fin
          cases hm:qaz sg.pm i with
          | imm =>
            rw[hm] at hd0 fin
            obtain⟨d1,hd1,rfl⟩:=Option.map_eq_some_iff.1 hd0
            refine fin (fun _=>False) (fun _ h=>h.elim) fun S1 hS1 hl1 _=>?_
            exact qpn (qdr hs hd1 hvu hS1 hl1)
          | io dp =>
            rw[hm] at hd0 fin
            cases c with
            | arr s =>
              simp only[qem] at hd0
              split at hd0
              · rename_i t xs d fx ho
                split at hd0
                · cases hd0
                · rename_i hdd
                  obtain rfl:=Option.some.inj hd0
                  have hown:qar S w d t xs (g s) (F s):=hs.ob s _ ho
                  obtain⟨Fi,h1,h2⟩:=hown.hand (dp:=dp) (fun hdp=>by simpa [hdp] using hdd)
                  refine fin Fi (fun b hb=>⟨s,by simp[qbn],h1 b hb⟩) fun S1 hS1 _ hF1=>?_
                  obtain⟨rfl,_⟩:=hvu
                  exact h2 S1 hS1 fun b hb hn=>hF1 s b (by simp[qbn]) hb hn
              · cases hd0
            | _=>cases hd0
          | take dp =>
            rw[hm] at hd0 fin
            cases c with
            | arr s =>
              simp only[qem] at hd0
              split at hd0
              · rename_i t xs d ho
                split at hd0
                · cases hd0
                · rename_i hdd
                  obtain rfl:=Option.some.inj hd0
                  have hown:qar S w d t xs (g s) (F s):=hs.ob s _ ho
                  obtain⟨Fi,h1,h2⟩:=hown.hand (dp:=dp) (fun hdp=>by simpa [hdp] using hdd)
                  refine fin Fi (fun b hb=>⟨s,by simp[qbn],h1 b hb⟩) fun S1 hS1 _ hF1=>?_
                  obtain⟨rfl,_⟩:=hvu
                  exact h2 S1 hS1 fun b hb hn=>hF1 s b (by simp[qbn]) hb hn
              · cases hd0
            | nils t =>
              simp only[qem] at hd0
              obtain rfl:=Option.some.inj hd0
              obtain⟨A,rfl⟩:=hvu
              refine fin (fun _=>False) (fun _ h=>h.elim) fun S1 _ _ _=>?_
              exact⟨A,0,rfl,⟨Nat.le_refl _,Nat.zero_le _⟩,.inl rfl⟩
            | _=>cases hd0
          | iob =>
            rw[hm] at hd0 fin
            cases c with
            | box s off =>
              cases off with
              | succ off=>cases hd0
              | zero =>
                simp only[qem] at hd0
                split at hd0
                · rename_i cells0 fx0 ho
                  obtain⟨b,arr,e,hg,hF,hh,hcs0⟩:=hs.ob s _ ho
                  obtain⟨b',hg',rfl⟩:=hvu
                  obtain rfl:b=b':=by rw[hg] at hg';simpa using hg'
                  simp only[frz,qpm,qbI,ho] at hd0
                  obtain⟨ds,hmm,rfl⟩:=Option.map_eq_some_iff.1 hd0
                  refine fin (fun b'=>F s b'∧b'=b) (fun b' hb'=>⟨s,by simp[qbn],hb'.1⟩) fun S1 hS1 hl1 hF1=>?_
                  refine⟨b,arr,e,rfl,⟨hF,rfl⟩,hh,?_⟩
                  rw[List.drop_zero] at hmm
                  refine qd0 hmm hcs0 fun c' hc' u' d' hd' hv'=>qcD hs 2 hd' hv' hS1 fun s' hs'=>hl1 s' ?_
                  simp only[qpb,qdJ,qbs,ho,List.tail_cons,List.mem_flatMap]
                  exact⟨c',hc',hs'⟩
                · cases hd0
            | _=>cases hd0
          | iobo k =>
            rw[hm] at hd0 fin
            cases c with
            | box s off =>
              cases off with
              | succ off=>cases hd0
              | zero =>
                simp only[qem] at hd0
                split at hd0
                · rename_i c0 x0 k0 a0 fx0 ho
                  split at hd0
                  · rename_i hk
                    subst hk
                    obtain rfl:=Option.some.inj hd0
                    have hob:qnV S w c0 x0 k0 (g s) (F s):=hs.ob s _ ho
                    obtain⟨b',hg',rfl⟩:=hvu
                    refine fin (F s) (fun b' hb'=>⟨s,by simp[qbn],hb'⟩) fun S1 hS1 _ _=>?_
                    rw[hg'] at hob
                    exact hob.mono hS1 (fun _ _=>rfl) (fun _ h=>h) fun _ _=>rfl
                  · cases hd0
                · cases hd0
            | _=>cases hd0
      have hFi1:∀ i,(∀ b,(Classical.choose (hpar i)) b→∃ c s,cells[i]? = some c∧s∈qbn (qaz sg.pm i) c∧F s b):=fun i=>(Classical.choose_spec (hpar i)).1
      have hFi2:=fun i=>(Classical.choose_spec (hpar i)).2
      generalize hFP:(fun i=>Classical.choose (hpar i))=FP
      have hFi1:∀ i b,FP i b→∃ c s,cells[i]? = some c∧s∈qbn (qaz sg.pm i) c∧F s b:=by subst hFP;exact hFi1
      have hFi2 : ∀ i, ∀ S1 : qab   , (∀ b, S b → S1 b) → (∀ s ∈ qme  st.ob sg.pm 0 cells, ∀ o, qad   st.ob s = some o → ∀ b, F s b → S1 b) →
            (∀ c s b,cells[i]? = some c→s∈qbn (qaz sg.pm i) c→F s b→¬ FP i b→S1 b)→∀ d u,args[i]? = some d→us[i]? = some u→qr2 S1 w (qaz sg.pm i) d u (FP i):=by subst hFP;exact hFi2
      let S1:qab:=fun b=>S b∨(∃ s∈qme st.ob sg.pm 0 cells,(∃ o,qad st.ob s=some o)∧F s b)∨∃ i c s,cells[i]? = some c∧s∈qbn (qaz sg.pm i) c∧F s b∧¬ FP i b
      have hhm:∀(i:Nat) c s,cells[i]? = some c→s∈qbn (qaz sg.pm i) c→s∈qa6 sg.pm 0 cells:=fun i c s hc hh=>qcC.2 ⟨i,c,hc,by rwa [Nat.zero_add]⟩
      have hinj:∀(i j:Nat) c d s,cells[i]? = some c→cells[j]? = some d→s∈qbn (qaz sg.pm i) c→s∈qbn (qaz sg.pm j) d→i=j:=fun i j c d s hc hd h1 h2 =>
        qjD hnd' i j c d s hc hd (by rwa [Nat.zero_add]) (by rwa [Nat.zero_add])
      have hdisH:∀(i:Nat) c s,cells[i]? = some c→s∈qbn (qaz sg.pm i) c→∀ s' o',s'≠s→qad st.ob s'=some o'→∀ b,F s b→¬ F s' b:=by
        intro i c s hc hh s' o' hne ho' b hb hb'
        obtain⟨o,ho,hof⟩:=hobj i c s hc hh
        cases hq:o'.frozen with
        | true=>exact(hs.prv s o ho hof b hb).1 (hs.frz s' o' ho' hq b hb')
        | false=>exact hs.dis s s' o o' (Ne.symm hne) ho ho' hof hq b hb hb'
      have hFPS1:∀ i b,FP i b→¬ S1 b:=by
        intro i b hb hS1
        obtain⟨c,s,hc,hh,hF⟩:=hFi1 i b hb
        obtain⟨o,ho,hof⟩:=hobj i c s hc hh
        rcases hS1 with h1 | ⟨s',hs',⟨o',ho'⟩,hF'⟩ | ⟨j,c',s',hc',hh',hF',hn⟩
        · exact(hs.prv s o ho hof b hF).1 h1
        · exact hdisH i c s hc hh s' o' (fun e=>hlh' s' hs' (e ▸ hhm i c s hc hh)) ho' b hF hF'
        · by_cases hss:s'=s
          · subst hss
            have:=hinj i j c c' s' hc hc' hh hh'
            subst this
            exact hn hb
          · obtain⟨o',ho',_⟩:=hobj j c' s' hc' hh'
            exact hdisH i c s hc hh s' o' hss ho' b hF hF'
      have hFPd:∀ i j b,i≠j→FP i b→¬ FP j b:=by
        intro i j b hij hi hj
        obtain⟨c,s,hc,hh,hF⟩:=hFi1 i b hi
        obtain⟨c',s',hc',hh',hF'⟩:=hFi1 j b hj
        obtain⟨o',ho',_⟩:=hobj j c' s' hc' hh'
        refine hdisH i c s hc hh s' o' (fun e=>hij ?_) ho' b hF hF'
        subst e
        exact hinj i j c c' s' hc hc' hh hh'
      have hFPsz:∀ i b,FP i b→b<w.heap.size:=by
        intro i b hb
        obtain⟨c,s,hc,hh,hF⟩:=hFi1 i b hb
        obtain⟨o,ho,_⟩:=hobj i c s hc hh
        exact hs.szF s o ho b hF
      have hS1sz:∀ b,S1 b→b<w.heap.size:=by
        rintro b (h1 | ⟨s',hs',⟨o',ho'⟩,hF'⟩ | ⟨j,c',s',hc',hh',hF',hn⟩)
        · exact hs.szS b h1
        · exact hs.szF s' o' ho' b hF'
        · obtain⟨o',ho',_⟩:=hobj j c' s' hc' hh'
          exact hs.szF s' o' ho' b hF'
      have hFPO:∀ i b,FP i b→C.O b:=by
        intro i b hb
        obtain⟨c,s,hc,hh,hF⟩:=hFi1 i b hb
        obtain⟨o,ho,hof⟩:=hobj i c s hc hh
        exact(hs.prv s o ho hof b hF).2
      have hS1O:∀ b,S1 b→C.S0 b∨C.O b:=by
        rintro b (h1 | ⟨s',hs',⟨o',ho'⟩,hF'⟩ | ⟨j,c',s',hc',hh',hF',hn⟩)
        · exact hs.SO b h1
        · cases hq:o'.frozen with
          | true=>exact hs.SO b (hs.frz s' o' ho' hq b hF')
          | false=>exact .inr (hs.prv s' o' ho' hq b hF').2
        · obtain⟨o',ho',hof⟩:=hobj j c' s' hc' hh'
          exact .inr (hs.prv s' o' ho' hof b hF').2
      have hcalls:=hcon w S1 us FP ((hG _ _ _ _ _ _ hs).mono (fun _ h=>.inl h) fun _ _=>rfl) hS1sz (fun i b hb=>⟨hFPsz i b hb,hFPS1 i b hb⟩) hFPd (by omega) (fun i d u hd hu =>
        hFi2 i S1 (fun _ h=>.inl h) (fun s hs' o ho b hb=>.inr (.inl ⟨s,hs',⟨o,ho⟩,hb⟩)) (fun c s b hc hh hF hn=>.inr (.inr ⟨i,c,s,hc,hh,hF,hn⟩)) d u hd hu)
      intro next Q hn
      unfold Oper.wp
      rw[hexec']
      show Calls P f (qaR gs us).toArray w _
      rw[hgs]
      refine hcalls.mono ?_
      rintro e w' ⟨rus,S2,GR,GP,rfl,hA⟩
      show next _ _
      obtain⟨ht1,ht2⟩:=qiz (pm:=sg.pm) (i0:=0) (cells:=cells) hs
      generalize qk0 sg.pm 0 cells st=st1 at ht1 ht2 hios
      have hst2:∃ st2:St,(bif sg.closed then st1 else { st1 with ob:=(qme st.ob sg.pm 0 cells).foldl (fun ob s=>bif (qa6 sg.pm 0 cells).contains s then ob else ob.modify s (·.map Obj.freeze)) st1.ob })=st2 ∧
          ∃ SB SA:qab,Sim C SB g F st2 a.tmps w∧(∀ b,S b→SB b)∧(∀ b,SB b→S1 b)∧(∀ b,SB b→SA b)∧(∀ b,SA b→SB b∨S2 b)∧st2.fr=st1.fr ∧
          (∀(k:Nat) d u,k<qmV sg→(qbv dv.t dv.x)[k]? = some d→rus[k]? = some u→qnn SA w' (sg.own.getD k .imm) d u (GR k))∧qgK SA w' GP us sg.pm 0 ((qbv dv.t dv.x).drop (qmV sg)) ∧
          (∀ s o,qad st2.ob s=some o→(∃ o',qad st.ob s=some o'∧(o.frozen=false→o'.frozen=false)∧o'.fixed=o.fixed)∧(∀(i:Nat) c,cells[i]? = some c→∀ dp,qaz sg.pm i=.take dp→c≠.arr s)) ∧
          (∀ s o,qad st2.ob s=some o→o.frozen=false→s∉qa6 sg.pm 0 cells→∀ b,F s b→¬ SA b):=by
        have hbase:∀ s o,qad st1.ob s=some o→(∃ o',qad st.ob s=some o'∧(o.frozen=false→o'.frozen=false)∧o'.fixed=o.fixed)∧(∀(i:Nat) c,cells[i]? = some c→∀ dp,qaz sg.pm i=.take dp→c≠.arr s):=by
          intro s o ho
          obtain⟨⟨o',h1,h2,h3⟩,h4⟩:=ht2 s o ho
          exact⟨⟨o',h1,fun h=>h2.trans h,h3⟩,fun i c hc dp hm=>h4 i c hc dp (by rwa [Nat.zero_add])⟩
        cases hcl:sg.closed with
        | true =>
          rw[cond_true]
          unfold Sig.closed at hcl
          simp only[Bool.and_eq_true] at hcl
          have hty:qcx sg.out=(qbv dv.t dv.x).map (·.t):=by rw[hun,qgt]
          refine⟨st1,rfl,S,S,ht1,fun _ h=>h,fun _ h=>.inl h,fun _ h=>h,fun _ h=>.inl h,rfl,fun k d u hk hd hu=>?_,?_,hbase,fun s o ho hof _ b hb=>(ht1.prv s o ho hof b hb).1⟩
          · refine(hA.res k d u hk hd hu).any (qhk hcl.1 k d.t ?_)
            rw[hty,List.getElem?_take_of_lt hk,List.getElem?_map,hd];rfl
          · refine hA.ios.any ?_
            have:=hcl.2
            rw[hty,← List.map_drop] at this
            exact this
        | false =>
          rw[cond_false]
          have hfz:=qoF (l:=qme st.ob sg.pm 0 cells) (h:=qa6 sg.pm 0 cells) st1.ob
          have hlf:=qi3 (h:=qa6 sg.pm 0 cells) (qme st.ob sg.pm 0 cells) st1.ob hlh'
          have hsf:=ht1.frozen hfz
          refine⟨_,rfl,_,fun b=>(S b∨∃ s o o',qad st1.ob s=some o∧qad ((qme st.ob sg.pm 0 cells).foldl (fun ob s=>bif (qa6 sg.pm 0 cells).contains s then ob else ob.modify s (·.map Obj.freeze)) st1.ob) s=some o'∧o'.frozen=true∧F s b)∨S2 b,hsf,fun _ h=>.inl h,?_,fun _ h=>.inl h,fun _ h=>h,rfl,fun k d u hk hd hu=>(hA.res k d u hk hd hu).mono fun _ h=>.inr h,?_,?_,?_⟩
          · rintro b (h1 | ⟨s,o,o',h1,h2,h3,h4⟩)
            · exact .inl h1
            · obtain⟨h5,h6⟩:=hlf s o' h2
              obtain⟨⟨o2,h7,h8,_⟩,_⟩:=ht2 s o h1
              by_cases hsl:s∈qme st.ob sg.pm 0 cells
              · exact .inr (.inl ⟨s,hsl,⟨o2,h7⟩,h4⟩)
              · have:=h6 hsl
                rw[h1] at this
                obtain rfl:=Option.some.inj this
                exact .inl (hs.frz s o2 h7 (h8.trans h3) b h4)
          · refine hA.ios.mono fun m d u i hI=>?_
            obtain⟨t,x⟩:=d
            cases m with
            | imm=>exact hI.elim
            | iob =>
              cases t with
              | ptr c =>
                obtain⟨b,arr,e,h5,h6,h7,h8⟩:=hI
                exact⟨b,arr,e,h5,h6,h7,Rp.mono (fun _ h=>.inr h) (fun _ _=>rfl) c x _ h8⟩
              | _=>exact hI.elim
            | iobo k =>
              cases t with
              | ptr c =>
                have hI':qnV S2 w' c x k u (GP i):=hI
                exact hI'.mono (fun _ h=>.inr h) (fun _ _=>rfl) (fun _ h=>h) fun _ _=>rfl
              | _=>exact hI.elim
            | io dp =>
              cases t with
              | sl t =>
                have hI':qar S2 w' (t.flat || dp) t x u (GP i):=hI
                exact(hI'.mono (fun _ h=>.inr h) (fun _ _=>rfl) (fun _ h=>h) fun _ _=>rfl)
              | _=>exact hI.elim
            | take dp =>
              cases t with
              | sl t =>
                have hI':qar S2 w' (t.flat || dp) t x u (GP i):=hI
                exact(hI'.mono (fun _ h=>.inr h) (fun _ _=>rfl) (fun _ h=>h) fun _ _=>rfl)
              | _=>exact hI.elim
          · intro s o ho
            rcases hfz s with e | ⟨o1,e1,e2⟩
            · exact hbase s o (e ▸ ho)
            · obtain⟨⟨o',h1,h2,h3⟩,h4⟩:=hbase s o1 e1
              rw[show qad _ s=some o from ho] at e2
              obtain rfl:=Option.some.inj e2
              exact⟨⟨o',h1,(fun h=>(by rw[Obj.freeze_frozen] at h;cases h)),h3.trans (Obj.freeze_fixed _).symm⟩,h4⟩
          · rintro s o ho hof hnh b hb (h1 | h1)
            · exact(hsf.prv s o ho hof b hb).1 h1
            · obtain⟨h5,h6⟩:=hlf s o ho
              have hsl:s∉qme st.ob sg.pm 0 cells:=fun h=>by rw[h5 h] at hof;cases hof
              have ho1:=h6 hsl
              obtain⟨⟨o2,h7,h8,_⟩,_⟩:=hbase s o ho1
              have ho2f:=h8 hof
              rcases hA.sub b h1 with h9 | h9 | ⟨i,h9⟩
              · rcases h9 with h9 | ⟨s',hs',⟨o',ho'⟩,hF'⟩ | ⟨j,c',s',hc',hh',hF',hn⟩
                · exact(hs.prv s o2 h7 ho2f b hb).1 h9
                · have hne:s≠s':=fun e=>hsl (e ▸ hs')
                  cases hq:o'.frozen with
                  | true=>exact(hs.prv s o2 h7 ho2f b hb).1 (hs.frz s' o' ho' hq b hF')
                  | false=>exact hs.dis s s' o2 o' hne h7 ho' ho2f hq b hb hF'
                · exact hdisH j c' s' hc' hh' s o2 (fun e=>hnh (e ▸ hhm j c' s' hc' hh')) h7 b hF' hb
              · have:=hs.szF s o2 h7 b hb;omega
              · obtain⟨c',s',hc',hh',hF'⟩:=hFi1 i b h9
                exact hdisH i c' s' hc' hh' s o2 (fun e=>hnh (e ▸ hhm i c' s' hc' hh')) h7 b hF' hb
      obtain⟨st2,hst2e,SB,SA,hsB,hSB,hSB1,hBA,hAB,hfr2,hres,hiosR,hbase,hpA⟩:=hst2
      rw[hst2e] at hios
      have hforg:∀ s o,qad (qce (qaU sg.pm 0 cells) st2).ob s=some o→qad st2.ob s=some o∧s∉qa6 sg.pm 0 cells:=by
        intro s o ho
        rw[qcW] at ho
        split at ho
        · cases ho
        · rename_i hni
          refine⟨ho,fun hh=>?_⟩
          obtain⟨i,c,hc,hh⟩:=qcC.1 hh
          rw[Nat.zero_add] at hh
          cases hio:(qaz sg.pm i).isIo with
          | true =>
            apply hni
            have key:∀(cells:List V0) (i0 i:Nat),cells[i]? = some c→(qaz sg.pm (i0+i)).isIo=true→s∈qbn (qaz sg.pm (i0+i)) c→s∈qaU sg.pm i0 cells:=by
              intro cells
              induction cells with
              | nil=>intro i0 i hc;simp at hc
              | cons v vs ih =>
                intro i0 i hc hio hh
                unfold qaU
                cases i with
                | zero=>simp at hc;subst hc;rw[Nat.add_zero] at hio hh;rw[if_pos hio];exact List.mem_append.2 (.inl hh)
                | succ i=>exact List.mem_append.2 (.inr (ih (i0+1) i (by simpa using hc) (by rwa [show i0+1+i=i0+(i+1) by omega]) (by rwa [show i0+1+i=i0+(i+1) by omega])))
            exact key cells 0 i hc (by rwa [Nat.zero_add]) (by rwa [Nat.zero_add])
          | false =>
            cases hm:qaz sg.pm i with
            | imm=>rw[hm] at hh;simp[qbn] at hh
            | io dp=>rw[hm] at hio;cases hio
            | iob=>rw[hm] at hio;cases hio
            | iobo k=>rw[hm] at hio;cases hio
            | take dp =>
              rw[hm] at hh
              have:=(hbase s o ho).2 i c hc dp hm
              cases c with
              | arr s'=>simp[qbn] at hh;subst hh;exact this rfl
              | _=>simp[qbn] at hh
      have hsf:Sim C SB g F (qce (qaU sg.pm 0 cells) st2) a.tmps w:=hsB.fewer (qfH _ _) fun s o ho=>(hforg s o ho).1
      have hkeepS1:∀ b,S1 b→w'.heap[b]? = w.heap[b]?:=fun b hb=>hA.keep b (hS1sz b hb) fun i hi=>hFPS1 i b hi hb
      have hsw:Sim C SB g F (qce (qaU sg.pm 0 cells) st2) a.tmps w':=by
        refine hsf.world' hA.size (fun b hb=>hkeepS1 b (hSB1 b hb)) (fun s o ho b hb=>?_) (fun b hb hO=>hA.keep b (Nat.lt_of_lt_of_le hb hs.mono) fun i hi=>hO (hFPO i b hi)) (hA.kin.weak fun e=>by rw[hD] at e;rw[e] at hdr;simpa using hdr)
        obtain⟨ho2,hnh⟩:=hforg s o ho
        obtain⟨⟨o2,h7,_,_⟩,_⟩:=hbase s o ho2
        refine hA.keep b (hs.szF s o2 h7 b hb) fun i hi=>?_
        obtain⟨c',s',hc',hh',hF'⟩:=hFi1 i b hi
        exact hdisH i c' s' hc' hh' s o2 (fun e=>hnh (e ▸ hhm i c' s' hc' hh')) h7 b hF' hb
      have hSAsz:∀ b,SA b→b<w'.heap.size:=fun b hb=>(hAB b hb).elim (fun h=>hsw.szS b h) (hA.szS b)
      have hsA:Sim C SA g F (qce (qaU sg.pm 0 cells) st2) a.tmps w':=by
        refine hsw.extS hBA hSAsz (fun b hb=>?_) fun s o ho hof b hb=>hpA s o (hforg s o ho).1 hof (hforg s o ho).2 b hb
        rcases hAB b hb with h1 | h1
        · exact hsw.SO b h1
        · rcases hA.sub b h1 with h2 | h2 | ⟨i,h2⟩
          · exact hS1O b h2
          · exact .inr (C.base b (Nat.le_trans hs.mono h2))
          · exact .inr (hFPO i b h2)
      have hnewO:∀ b,(w.heap.size≤b∨∃ i,FP i b)→C.O b:=fun b hb=>hb.elim (fun h=>C.base b (Nat.le_trans hs.mono h)) fun⟨i,h⟩=>hFPO i b h
      have hnewF:∀ b,(w.heap.size≤b∨∃ i,FP i b)→∀ s o,qad (qce (qaU sg.pm 0 cells) st2).ob s=some o→¬ F s b:=by
        intro b hb s o ho hF
        obtain⟨ho2,hnh⟩:=hforg s o ho
        obtain⟨⟨o2,h7,_,_⟩,_⟩:=hbase s o ho2
        rcases hb with h1 | ⟨i,h1⟩
        · have:=hs.szF s o2 h7 b hF;omega
        · obtain⟨c',s',hc',hh',hF'⟩:=hFi1 i b h1
          exact hdisH i c' s' hc' hh' s o2 (fun e=>hnh (e ▸ hhm i c' s' hc' hh')) h7 b hF' hF
      have hnewS:∀ b,(w.heap.size≤b∨∃ i,FP i b)→¬ S2 b→¬ SA b:=by
        intro b hb hn hSA
        rcases hAB b hSA with h1 | h1
        · have h2:=hSB1 b h1
          rcases hb with h3 | ⟨i,h3⟩
          · have:=hS1sz b h2;omega
          · exact hFPS1 i b h3 h2
        · exact hn h1
      rw[← List.map_drop] at hios
      obtain⟨F3,hs3,hF3⟩:=qhK (S':=S) (w':=w) (usAll:=us) hA.dpp cells 0 ((qbv dv.t dv.x).drop (qmV sg)) us st2 st3 F hsA hnd' hcs (by simp) (by simpa using hiosR) (fun s o ho hx=>by
          obtain⟨⟨o2,h7,_,h9⟩,_⟩:=hbase s o ho
          exact hs.fx s o2 h7 (h9.trans hx)) (fun i _ b hb=>⟨hnewS b (hA.gp i b hb).2.2 (hA.gp i b hb).1,hnewO b (hA.gp i b hb).2.2,(hA.gp i b hb).2.1,fun s o ho _=>hnewF b (hA.gp i b hb).2.2 s o ho⟩) hios
      rw[← List.map_take] at hadopt
      obtain⟨S4,g4,F4,hs4,hc4,hS4,hF4⟩:=qdD hA.drr ((qbv dv.t dv.x).take (qmV sg)) 0 ((o.dst.bind fun d=>pol.adopt.lookup d).getD []) rus [] [] st3 SA g F3 p hs3 rfl (by rw[hA.len,List.length_take];have:=hA.lenO;omega) (fun k d u hd hu=>by
          rw[List.getElem?_take] at hd
          split at hd
          · rename_i hk;rw[Nat.zero_add];exact hres k d u hk hd hu
          · cases hd) (fun k _ b hb=>⟨hnewS b (hA.gr k b hb).2.2 (hA.gr k b hb).1,hnewO b (hA.gr k b hb).2.2,(hA.gr k b hb).2.1,fun s q hq hqf hb'=>by
            rcases hF3 s q hq hqf b hb' with ⟨q',hq',hqf',hb''⟩ | ⟨i,hi⟩
            · exact hnewF b (hA.gr k b hb).2.2 s q' hq' hb''
            · exact hA.drp k i b hb hi⟩) hadopt
      rw[List.nil_append] at hc4
      have hvr:=qjS hc4 hr1 hA.len hv
      refine hn _ v p.2 S4 g4 F4 w' hs4 hvr hk ⟨fun b hb=>hS4 b (hBA b (hSB b hb)),fun b hb hkk=>hA.keep b hb fun i hi=>?_,fun b hb=>hkeepS1 b (.inl hb),fun s q hq hqf b hb=>?_,hA.size⟩
      · obtain⟨c',s',hc',hh',hF'⟩:=hFi1 i b hi
        obtain⟨o',ho',_⟩:=hobj i c' s' hc' hh'
        exact hkk s' (hM' s' (hhm i c' s' hc' hh')) o' ho' hF'
      · have hnew:(w.heap.size≤b∨∃ i,FP i b)→w.heap.size≤b∨(∃ o,qad st.ob s=some o∧o.frozen=false∧F s b)∨∃ s∈M,∃ o,qad st.ob s=some o∧F s b:=by
          rintro(h1 | ⟨i,h1⟩)
          · exact .inl h1
          · obtain⟨c',s',hc',hh',hF'⟩:=hFi1 i b h1
            obtain⟨o',ho',_⟩:=hobj i c' s' hc' hh'
            exact .inr (.inr ⟨s',hM' s' (hhm i c' s' hc' hh'),o',ho',hF'⟩)
        rcases hF4 s q hq hqf b hb with ⟨q',hq',hqf',hb'⟩ | ⟨k,hk'⟩
        · rcases hF3 s q' hq' hqf' b hb' with ⟨q2,hq2,hqf2,hb2⟩ | ⟨i,hi⟩
          · obtain⟨⟨o2,h7,h8,_⟩,_⟩:=hbase s q2 (hforg s q2 hq2).1
            exact .inr (.inl ⟨o2,h7,h8 hqf2,hb2⟩)
          · exact hnew (hA.gp i b hi).2.2
        · exact hnew (hA.gr k b hk').2.2
    · cases h
theorem qk4{pm:List PM}:∀ {cells:List V0} {i0 s k:Nat},(s,k)∈qiO pm i0 cells→s∈qa6 pm i0 cells
  | [],i0,s,k,h=>by simp[qiO] at h
  | v::vs,i0,s,k,h=>by
      unfold qiO at h
      unfold qa6
      rcases List.mem_append.1 h with h | h
      · refine List.mem_append.2 (.inl ?_)
        cases hm:qaz pm i0 with
        | iobo k' =>
          rw[hm] at h
          cases v with
          | box s' off =>
            cases off with
            | zero =>
              simp only[List.mem_singleton,Prod.mk.injEq] at h
              simp[qbn,h.1]
            | succ=>cases h
          | _=>cases h
        | _=>rw[hm] at h;cases h
      · exact List.mem_append.2 (.inr (qk4 h))
theorem qly{gl:Gls}{E:Env}{R:Run}{pol:Pol}{o:Oper}{f:Nat}{gs:List (Bool×Nat)}{cells:List V0}{us:List Value}{a:Act}{K:V→St→Option ρ}{r:ρ}
    (hR:∀ f args dv sg,E.sig f=some sg→R.r f args=some dv→qaO gl P sg f args dv) (hG:∀ S g F st tm w,Sim C S g F st tm w→Gl gl w S) (hD:C.dr=pol.dr) (hs:Sim C S g F st a.tmps w) (hcs:Cs S w g cells us)
    (hexec:∀ sg,E.sig f=some sg→gs=sg.ps→(execOp a.eval o).run P w=.ok (.enter f (qaR gs us).toArray) w) (h:qjr E R pol f gs cells o.dst st K=some r)
    {M:List Nat} (hM:∀ sg,E.sig f=some sg→∀ s∈qa6 sg.pm 0 cells++qsg st.ob sg.pm cells,s∈M):qb2 P o a C S g F st w K r M:=by
  unfold qjr at h
  split at h
  · cases h
  · rename_i sg hsg
    split at h
    · exact qfv hR hG hD hs hcs hexec h fun sg' hsg' s hs'=>hM sg' hsg' s (List.mem_append.2 (.inl hs'))
    · rename_i s k hio
      obtain⟨st0,hcl,h⟩:=Option.bind_eq_some_iff.1 h
      obtain⟨a0,S0,F0,⟨cs,fx,hob,hk⟩,hne,⟨oa,hoa,hoaf⟩,hs0,hSS,hSS2,⟨ob0,hob0,hobf⟩,hF0⟩:=qeM hs hcl
      have hsM:s∈M:=hM sg hsg s (List.mem_append.2 (.inl (qk4 (k:=k) (by rw[hio];simp))))
      have haM:a0∈M:=by
        refine hM sg hsg a0 (List.mem_append.2 (.inr ?_))
        unfold qsg
        rw[hio]
        simp[hob,hk]
      have hcs0:Cs S0 w g cells us:=Cs.imp (p:=fun _ _=>True) (fun v u hv=>hv.mono hSS fun _ _=>rfl) hcs
      have hD:=qfv (M:=M) hR hG hD hs0 hcs0 hexec h fun sg' hsg' s' hs'=>hM sg' hsg' s' (List.mem_append.2 (.inl hs'))
      intro next Q hn
      refine hD next Q fun u v st' S' g' F' w' h1 h2 h3 h4=>?_
      obtain⟨g2,F2,h5,h6,h7⟩:=qfu (s:=s) h1 h2
      refine hn u _ _ S' g2 F2 w' h5 h6 h3 ⟨fun b hb=>h4.mS b (hSS b hb),fun b hb hkk=>h4.keep b hb fun s' hs' p hp hF=>?_,fun b hb=>h4.keepS b (hSS b hb),fun s' o' ho hf b hb=>?_,h4.size⟩
      · obtain⟨p',hp',_,hFF⟩:=hF0 s' p hp
        rcases hFF b hF with h8 | ⟨_,h8⟩
        · exact hkk s' hs' p' hp' h8
        · exact hkk a0 haM oa hoa h8
      · have one:∀ s'',(∃ o,qad st'.ob s''=some o∧o.frozen=false∧F' s'' b)→w.heap.size≤b∨(∃ o,qad st.ob s''=some o∧o.frozen=false∧F s'' b)∨∃ s∈M,∃ o,qad st.ob s=some o∧F s b:=by
          rintro s'' ⟨o2,e1,e2,e3⟩
          rcases h4.mF s'' o2 e1 e2 b e3 with h8 | ⟨o3,e4,e5,e6⟩ | ⟨s3,e4,o3,e5,e6⟩
          · exact .inl h8
          · obtain⟨p',hp',hpf,hFF⟩:=hF0 s'' o3 e4
            rcases hFF b e6 with h8 | ⟨_,h8⟩
            · exact .inr (.inl ⟨p',hp',hpf.trans e5,h8⟩)
            · exact .inr (.inr ⟨a0,haM,oa,hoa,h8⟩)
          · obtain⟨p',hp',hpf,hFF⟩:=hF0 s3 o3 e5
            rcases hFF b e6 with h8 | ⟨_,h8⟩
            · exact .inr (.inr ⟨s3,e4,p',hp',h8⟩)
            · exact .inr (.inr ⟨a0,haM,oa,hoa,h8⟩)
        rcases h7 s' o' ho hf b hb with h8 | h8
        · exact one s' h8
        · rcases one s h8 with h9 | ⟨o9,e1,_,e3⟩ | h9
          · exact .inl h9
          · exact .inr (.inr ⟨s,hsM,o9,e1,e3⟩)
          · exact .inr (.inr h9)
    · cases h
end
end Ve
