import Derived.Test.YtagdejckmpipbaaGreatDoorV1
import Derived.Conc.MuLone
import Derived.OrdersHeld
import Derived.ChangeArms
import Derived.ChangeSlices
import Derived.ChangeOld
import Derived.OpenShut
import Derived.Below
import Derived.Carry
import Derived.Lib.AppendZerosOnto
import Derived.Lib.ItoaNum
import Derived.Lib.Join
import Derived.Lib.Split
import Derived.Lib.ParseIntB
import Derived.Lib.Strings
import Derived.Shelf.SlSortCmp.NoneTotal
set_option linter.unusedVariables false
set_option linter.unusedSimpArgs false
namespace Ve
open Go
structure EnvOk (E:Env):Prop where
 call:∀ f sg,E.sig f=some sg→∀(args:Array Value) (w:World),(callFunc f args).run E.P w=.ok (.enter f args) w
 mixed:E.P.follows .mixedOrders=true
 fn:∀ f fn pol,E.fn f=some (fn,pol)→E.P.funcs[f]? = some fn
def qgL(E:Env)(R:Run):Prop:=∀ f args dv sg,E.sig f=some sg→R.r f args=some dv→qaO E.gs E.P sg f args dv
section
variable {S S':qab} {w w':World} {g g':Nat→Value} {C:Ctx} {F F':Nat→qab} {st:St} {tm:Array Value} {P:Program} {ρ:Type}
theorem qd6:∀(t:Ty),∀ c∈qbf t,c.site=[]
  | .st c,v,h=>qd6 c v h
  | .nil,v,h=>by cases h
  | .cons a b,v,h=>by
      rcases List.mem_cons.1 h with rfl | h
      · cases a<;>rfl
      · exact qd6 b v h
  | .int _,v,h=>by simp[qbf] at h;subst h;rfl
  | .bool,v,h=>by simp[qbf] at h;subst h;rfl
  | .str,v,h=>by simp[qbf] at h;subst h;rfl
  | .sl _,v,h=>by simp[qbf] at h;subst h;rfl
  | .ptr _,v,h=>by simp[qbf] at h;subst h;rfl
  | .fn _ _,v,h=>by simp[qbf] at h;subst h;rfl
  | .lab _,v,h=>by simp[qbf] at h;subst h;rfl
theorem qlE{ty:TypeId}{c:Value}{v:V}(h:qjy P ty c=some v):∀ x∈v.cells,x.site=[]:=by
 have dead:∀ x∈V.dead.cells,x.site=[]:=by intro x hx;simp[V.dead,V.cells] at hx;subst hx;rfl
 cases c with
 | bool b=>obtain rfl:=Option.some.inj h;intro x hx;simp[vB,V.cells] at hx;subst hx;rfl
 | int k n=>obtain rfl:=Option.some.inj h;intro x hx;simp[vI,V.cells] at hx;subst hx;rfl
 | string s=>obtain rfl:=Option.some.inj h;intro x hx;simp[vS,V.cells] at hx;subst hx;rfl
 | slice A n c =>
  cases A with
  | some A=>obtain rfl:=Option.some.inj h;exact dead
  | none =>
   cases n with
   | succ n=>obtain rfl:=Option.some.inj h;exact dead
   | zero =>
    cases c with
    | succ c=>obtain rfl:=Option.some.inj h;exact dead
    | zero =>
     simp only[qjy] at h
     obtain⟨p,_,rfl⟩:=Option.map_eq_some_iff.1 h
     intro x hx;simp[V.cells] at hx;subst hx;rfl
 | agg cs =>
  simp only[qjy] at h
  obtain⟨t,_,h⟩:=Option.bind_eq_some_iff.1 h
  split at h
  ·obtain rfl:=Option.some.inj h
   exact qd6 t
  ·cases h
 | _=>obtain rfl:=Option.some.inj h;exact dead
theorem qd5{ty ty':TypeId}{x:Operand}{v:V}(h:opd P st.fr ty x=some v):∀ c∈v.cells,∀ s∈c.site,s∈qcu P st ty' x:=by
 intro c hc s hs
 cases x with
 | tmp t =>
  have:opd P st.fr ty' (.tmp t)=some v:=h
  unfold qcu
  rw[this]
  exact List.mem_flatMap.2 ⟨c,hc,hs⟩
 | const k=>rw[qlE h c hc] at hs;cases hs
 | func f =>
  obtain rfl:=Option.some.inj h
  simp[V.cells] at hc;subst hc;cases hs
 | global n=>cases h
theorem qeT{ty ty':TypeId}:∀ {parts:List (Nat×Operand)} {n:Nat} {vs:List V},qct P st.fr ty parts n=some vs→∀ c∈vs.flatMap V.cells,∀ s∈c.site,s∈parts.flatMap fun p=>qcu P st ty' p.2
  | [],n,vs,h=>by obtain rfl:=Option.some.inj h;intro c hc;cases hc
  | (i,x)::parts,n,vs,h=>by
      unfold qct at h
      split at h
      · obtain⟨v,hv,h⟩:=Option.bind_eq_some_iff.1 h
        split at h
        · cases h
        · obtain⟨vs',hvs,rfl⟩:=Option.map_eq_some_iff.1 h
          intro c hc s hs
          rw[List.flatMap_cons] at hc ⊢
          rcases List.mem_append.1 hc with hc | hc
          · exact List.mem_append.2 (.inl (qd5 hv c hc s hs))
          · exact List.mem_append.2 (.inr (qeT hvs c hc s hs))
      · cases h
theorem qb2.weaken{o:Oper}{a:Act}{K:V→St→Option ρ}{r:ρ}{M M':List Nat}(h:qb2 P o a C S g F st w K r M)(hM:∀ s∈M,s∈M'):qb2 P o a C S g F st w K r M':=by
 intro next Q hn
 exact h next Q fun u v st' S' g' F' w' h1 h2 h3 h4=>hn u v st' S' g' F' w' h1 h2 h3 (h4.weaken hM)
theorem qog{E:Env}{R:Run}{pol:Pol}{f:Nat}{gs:List (Bool×Nat)}{cells:List V0}{dst:Option Nat}{K:V→St→Option ρ}{r:ρ}(h:qjr E R pol f gs cells dst st K=some r) :
  gs.all (fun p=>p.1 || p.2==1)=true:=by
 have one:∀ {K:V→St→Option ρ} {st:St},qfX E R pol f gs cells dst st K=some r→gs.all (fun p=>p.1 || p.2==1)=true:=by
  intro K st h
  unfold qfX at h
  split at h
  ·cases h
  ·simp only at h
   split at h
   ·rename_i hc;exact hc.2.2.2.2.1
   ·cases h
 unfold qjr at h
 split at h
 ·cases h
 ·split at h
  ·exact one h
  ·obtain⟨st0,_,h⟩:=Option.bind_eq_some_iff.1 h
   exact one h
  ·cases h
theorem qpV{E:Env}(hE:EnvOk E){R:Run}(hR:qgL E R)(hG:∀ S g F st tm w,Sim C S g F st tm w→Gl E.gs w S){pol:Pol}(hD:C.dr=pol.dr){o:Oper}{a:Act}{K:V→St→Option ρ}{r:ρ}(hs:Sim C S g F st a.tmps w)(hr:qaL o=false)
    (h:qpP E R pol o st K=some r):qb2 E.P o a C S g F st w K r (qko E st o):=by
  have hev:∀ ty y v,opd E.P st.fr ty y=some v→VR S w g v (a.eval y):=fun ty y v hv=>qcI hs rfl hv
  obtain⟨dst,op,type,pos,after,guard⟩:=o
  cases op with
  | move x=>simp[qaL] at hr
  | assign x=>simp[qaL] at hr
  | pick c x y=>simp[qaL] at hr
  | binOp op xt x y q=>simp[qaL] at hr
  | unOp op xt x=>simp[qaL] at hr
  | extract x i=>simp[qaL] at hr
  | nilCheck x=>simp[qaL] at hr
  | fieldAddr s x f=>simp[qaL] at hr
  | field s x f=>simp[qaL] at hr
  | indexAddr t x i=>simp[qaL] at hr
  | index t x i=>simp[qaL] at hr
  | slice t x lo hi mx=>simp[qaL] at hr
  | load t x=>simp[qaL] at hr
  | build t parts=>simp[qaL] at hr
  | convert src dst' x =>
    obtain⟨vx,hvx,h⟩:=Option.bind_eq_some_iff.1 h
    exact qhh hs (hev _ _ _ hvx) (fun v' w' h1=>by simp only[execOp];rw[Sem.run_bind,h1];rfl) h _
  | store t x y =>
    obtain⟨va,hva,h⟩:=Option.bind_eq_some_iff.1 h
    obtain⟨vx,hvx,h⟩:=Option.bind_eq_some_iff.1 h
    have hA:=hev _ _ _ hva
    have hX:=hev _ _ _ hvx
    have hM:∀ s∈qcu E.P st type x++qcu E.P st t y,s∈qko E st ⟨dst,.store t x y,type,pos,after,guard⟩:=fun s hs=>hs
    have hs1:=qd5 (ty':=type) hva
    have hs2:=qd5 (ty':=t) hvx
    cases va with
    | c v0 =>
      cases v0 with
      | box s off =>
        have hD:=(qmj (o:=⟨dst,.store t x y,type,pos,after,guard⟩) (K:=fun v st2=>K (qdd (.c (.box s off)) st v st2).1 (qdd (.c (.box s off)) st v st2).2) hs rfl hA hX h).weaken (M':=qko E st ⟨dst,.store t x y,type,pos,after,guard⟩) fun s' hs'=>by
          simp at hs';subst hs'
          exact hM s' (List.mem_append.2 (.inl (hs1 (.box s' off) (by simp[V.cells]) s' (by simp[V0.site]))))
        exact qb2.cut (va:=.c (.box s off)) (st0:=st) hD
      | elt s i off sz =>
        have hsM:=hM s (List.mem_append.2 (.inl (hs1 (.elt s i off sz) (by simp[V.cells]) s (by simp[V0.site]))))
        exact qb2.back (va:=.c (.elt s i off sz)) (qmr (K:=fun v st=>qh4 (.c (.elt s i off sz)) st fun st=>K v st) hs rfl hA hX h hsM fun c hc s' hs'=>hM s' (List.mem_append.2 (.inr (hs2 c hc s' hs')))) (fun c hc s' hs'=>by simp[V.cells] at hc;subst hc;simp[V0.site] at hs';subst hs';exact hsM)
      | _=>cases h
    | _=>cases h
  | alloc t=>exact(qjN (E:=E) (R:=R) (pol:=pol) hs rfl h).weaken fun _ h=>(nomatch h)
  | box t x =>
    obtain⟨vx,hvx,h⟩:=Option.bind_eq_some_iff.1 h
    split at h
    · rename_i hok
      exact(ql4 hs rfl (hev _ _ _ hvx) hok h).weaken fun _ h=>(nomatch h)
    · cases h
  | buildSlice t len parts =>
    exact qfe hs rfl hev h fun ty vs hvs c hc s hs'=>qeT hvs c hc s hs'
  | makeSlice t l c =>
    obtain⟨vl,hvl,h⟩:=Option.bind_eq_some_iff.1 h
    exact(qf5 hs rfl (hev _ _ _ hvl) h).weaken fun _ h=>(nomatch h)
  | makeFunc fn first captured =>
    cases fn with
    | func f =>
      have h' : (if first.size = 0 then (qls   E.P st.fr captured.toList []).bind fun vs => if vs.all V.isC = false then none else ((vs.flatMap V.cells).mapM (frz st.ob)).bind fun ds =>
            K (.c (.d (.fn f (qdS ds).t) (qdS ds).x)) { st with ob:=(vs.flatMap V.cells).foldl freeze st.ob } else none)=some r:=h
      split at h'
      · rename_i h0
        obtain⟨vs,hvs,h'⟩:=Option.bind_eq_some_iff.1 h'
        split at h'
        · cases h'
        · rename_i hc
          obtain⟨ds,hm,h'⟩:=Option.bind_eq_some_iff.1 h'
          obtain rfl:first=#[]:=Array.size_eq_zero_iff.1 h0
          exact qgS hs rfl (qdG hs rfl hvs) (by simpa using hc) hm h' _
      · cases h'
    | _=>cases h
  | call c =>
    obtain⟨vs,hvs,h⟩:=Option.bind_eq_some_iff.1 h
    have hargs:=qdG hs (a:=a) rfl hvs
    cases hc:c.callee with
    | invoke x n=>rw[hc] at h;cases h
    | builtin b =>
      rw[hc] at h
      have hMa:∀(hb:b≠.len),∀ c'∈vs.flatMap V.cells,∀ s∈c'.site,s∈qko E st ⟨dst,.call c,type,pos,after,guard⟩:=by
        intro hb c' hc' s hs'
        have:qko E st ⟨dst,.call c,type,pos,after,guard⟩=(vs.flatMap V.cells).flatMap V0.site:=by
          unfold qko
          simp only[hc]
          cases b<;>first | exact absurd rfl hb | (simp only[hvs])
        rw[this]
        exact List.mem_flatMap.2 ⟨c',hc',hs'⟩
      cases b with
      | len=>simp[qaL,hc] at hr
      | append =>
        rcases vs with _ | ⟨s,_ | ⟨x,_ | ⟨y,ys⟩⟩⟩
        · cases h
        · cases h
        · have h':(if c.argTypes.size=2∧c.argTypes.getD 1 0=c.argTypes.getD 0 0 then qg0 E.P (c.argTypes.getD 0 0) s x dst st K else none)=some r:=h
          split at h'
          · rename_i hcond
            obtain⟨hsz,ht⟩:=hcond
            obtain⟨u1,us1,he,hu1,us2,us3,rfl,hu2,rfl⟩:=hargs
            have hA:c.args.map a.eval=#[u1,us2]:=by apply Array.ext';simpa using he
            have hT:c.argTypes=#[c.argTypes.getD 0 0,c.argTypes.getD 0 0]:=by
              apply Array.ext
              · simpa using hsz
              · intro i h1 h2
                rcases i with _ | _ | i
                · simp[Array.getD,hsz]
                · rw[← ht];simp[Array.getD,hsz]
                · omega
            refine qiN (M:=qko E st ⟨dst,.call c,type,pos,after,guard⟩) hs hu1 hu2 (fun v' w' h1=>?_) h' (fun c' hc' s' hs'=>hMa (by simp) c' (by simp[hc']) s' hs') fun c' hc' s' hs'=>hMa (by simp) c' (by simp[hc']) s' hs'
            simp only[execOp,resolve,hc,hA,Sem.run_bind,Sem.run_pure,Result.andThen_ok,invoke,Go.builtin]
            rw[hT]
            simp only[Sem.run_bind,h1,Result.andThen_ok,Sem.run_pure]
          · cases h'
        · cases h
      | clear =>
        rcases vs with _ | ⟨x,_ | ⟨y,ys⟩⟩
        · cases h
        · have h':(if c.argTypes.size=1 then qkq E.P (c.argTypes.getD 0 0) x st K else none)=some r:=h
          split at h'
          · rename_i hsz
            obtain⟨u1,us1,he,hu1,rfl⟩:=hargs
            have hA:c.args.map a.eval=#[u1]:=by apply Array.ext';simpa using he
            have hT:c.argTypes=#[c.argTypes.getD 0 0]:=by
              apply Array.ext
              · simpa using hsz
              · intro i h1 h2
                rcases i with _ | i
                · simp[Array.getD,hsz]
                · omega
            refine qjQ (M:=qko E st ⟨dst,.call c,type,pos,after,guard⟩) hs hu1 (fun v' w' h1=>?_) h' fun c' hc' s' hs'=>hMa (by simp) c' (by simp[hc']) s' hs'
            simp only[execOp,resolve,hc,hA,Sem.run_bind,Sem.run_pure,Result.andThen_ok,invoke,Go.builtin]
            rw[hT]
            simp only[Sem.run_bind,h1,Result.andThen_ok,Sem.run_pure]
          · cases h'
        · cases h
      | copy =>
        rcases vs with _ | ⟨s,_ | ⟨x,_ | ⟨y,ys⟩⟩⟩
        · cases h
        · cases h
        · have h':(if c.argTypes.size=2 then qmY E.P (c.argTypes.getD 0 0) s x st K else none)=some r:=h
          split at h'
          · rename_i hsz
            obtain⟨u1,us1,he,hu1,us2,us3,rfl,hu2,rfl⟩:=hargs
            have hA:c.args.map a.eval=#[u1,us2]:=by apply Array.ext';simpa using he
            have hT:c.argTypes=#[c.argTypes.getD 0 0,c.argTypes.getD 1 0]:=by
              apply Array.ext
              · simpa using hsz
              · intro i h1 h2
                rcases i with _ | _ | i
                · simp[Array.getD,hsz]
                · simp[Array.getD,hsz]
                · omega
            refine qkL (t2:=c.argTypes.getD 1 0) (M:=qko E st ⟨dst,.call c,type,pos,after,guard⟩) hs hu1 hu2 (fun v' w' h1=>?_) h' fun c' hc' s' hs'=>hMa (by simp) c' (by simp[hc']) s' hs'
            simp only[execOp,resolve,hc,hA,Sem.run_bind,Sem.run_pure,Result.andThen_ok,invoke,Go.builtin]
            rw[hT]
            simp only[Sem.run_bind,h1,Result.andThen_ok,Sem.run_pure]
          · cases h'
        · cases h
      | _=>rcases vs with _ | ⟨x,_ | ⟨y,_ | ⟨z,zs⟩⟩⟩<;>cases h
    | value f =>
      rw[hc] at h
      have h':((opd E.P st.fr type f).bind fun vf=>match vf with
        | .c (.d t x)=>(match t,x with
          | .fn f c,x=>qjr E R pol f (vs.map V.shape++(qaJ c x).map fun _=>(false,1)) (vs.flatMap V.cells++qaJ c x) dst st K
          | _,_=>none)
        | _=>none)=some r:=h
      obtain⟨vf,hvf,h'⟩:=Option.bind_eq_some_iff.1 h'
      have hF:=hev _ _ _ hvf
      split at h'
      · rename_i t x
        split at h'
        · rename_i k cc x
          obtain⟨cap,hcv,hcr⟩:=hF
          have hFv:a.eval f=.func (.func k) #[] cap.toArray:=by simpa using hcv
          have hall:=qog h'
          rw[List.all_append,Bool.and_eq_true] at hall
          obtain⟨us,hcs,hY,hul⟩:=qjx hargs hall.1
          have hce:=qbP (g:=g) hcr
          have hAo:qaR (vs.map V.shape++(qaJ cc x).map fun _=>(false,1)) (us++cap)=c.args.toList.map a.eval++cap:=by
            rw[qfA hul hall.1,← hY,qhi hce.len.symm]
          refine qly hR hG hD hs (hcs.append hce) (fun sg hsg _=>?_) h' fun sg hsg s hs'=>?_
          · simp only[execOp,resolve,hc,Sem.run_bind,Sem.run_pure,Result.andThen_ok,hFv,Deferred.ofValue,invoke]
            rw[hE.call k sg hsg]
            congr 2
            apply Array.ext'
            rw[hAo]
            simp
          · have:qko E st ⟨dst,.call c,type,pos,after,guard⟩=qa6 sg.pm 0 (vs.flatMap V.cells)++qsg st.ob sg.pm (vs.flatMap V.cells):=by
              unfold qko
              simp only[hc,hvf,hvs,hsg]
            rw[this]
            have key:∀(l1 l2:List V0) (i:Nat),(∀ c∈l2,qgm c)→s∈qa6 sg.pm i (l1++l2)→s∈qa6 sg.pm i l1:=by
              intro l1
              induction l1 with
              | nil =>
                intro l2 i h2 hm
                obtain⟨j,c',hc',hh⟩:=qcC.1 hm
                have:=h2 c' (List.mem_of_getElem? hc')
                exfalso
                cases hmm:qaz sg.pm (i+j)<;>rw[hmm] at hh<;>cases c'<;>first | (simp[qbn] at hh;done) | exact this.elim
              | cons v l1 ih =>
                intro l2 i h2 hm
                unfold qa6 at hm ⊢
                rcases List.mem_append.1 hm with hm | hm
                · exact List.mem_append.2 (.inl hm)
                · exact List.mem_append.2 (.inr (ih l2 (i+1) h2 hm))
            have key2:∀(l1 l2:List V0) (i:Nat),(∀ c∈l2,qgm c)→qiO sg.pm i (l1++l2)=qiO sg.pm i l1:=by
              intro l1
              induction l1 with
              | nil =>
                intro l2
                induction l2 with
                | nil=>intro i _;rfl
                | cons c l2 ih =>
                  intro i h2
                  have h3:=ih (i+1) fun c' hc'=>h2 c' (by simp[hc'])
                  rw[List.nil_append] at h3 ⊢
                  have hc:=h2 c (by simp)
                  unfold qiO
                  rw[h3]
                  cases hmm:qaz sg.pm i<;>cases c<;>first | rfl | exact hc.elim
              | cons v l1 ih =>
                intro l2 i h2
                rw[List.cons_append]
                unfold qiO
                rw[ih l2 (i+1) h2]
            rcases List.mem_append.1 hs' with hs' | hs'
            · exact List.mem_append.2 (.inl (key _ _ 0 (qb5 cc x) hs'))
            · refine List.mem_append.2 (.inr ?_)
              unfold qsg at hs' ⊢
              rw[key2 _ _ 0 (qb5 cc x)] at hs'
              exact hs'
        · cases h'
      · cases h'
  | _=>cases h
end
end Ve
namespace Ve
open Go
section
variable {S S':qab} {w w':World} {g g':Nat→Value} {C:Ctx} {F F':Nat→qab} {st:St} {tm:Array Value} {P:Program} {ρ:Type}
theorem qoc{E:Env}(hE:EnvOk E){R:Run}(hR:qgL E R)(hG:∀ S g F st tm w,Sim C S g F st tm w→Gl E.gs w S){pol:Pol}(hD:C.dr=pol.dr){o:Oper}{a:Act}{K:V→St→Option ρ}{r:ρ}(hs:Sim C S g F st a.tmps w)
  (h:qpP E R pol o st K=some r):qb2 E.P o a C S g F st w K r (qko E st o):=by
 cases hr:qaL o with
 | false=>exact qpV hE hR hG hD hs hr h
 | true =>
  cases hto:qcT pol o with
  | false=>exact(qgu hs hr hto h).does _
  | true =>
   obtain⟨dst,op,type,pos,after,guard⟩:=o
   cases op with
   | load t x =>
    obtain⟨vx,hvx,h⟩:=Option.bind_eq_some_iff.1 h
    cases hlk:(dst.bind fun d=>pol.adopt.lookup d) with
    | none=>simp[qcT,hlk] at hto
    | some l =>
     simp only[hlk] at h
     split at h
     ·rename_i hn;cases hn
     ·split at h
      ·rename_i s i off sz
       exact qgV hs rfl (qcI hs rfl hvx) h (qd5 (ty':=type) hvx (.elt s i (off+1) sz) (by simp[V.cells]) s (by simp[V0.site]))
      ·exact qin hs rfl (qcI hs rfl hvx) h fun c hc s hs'=>qd5 (ty':=type) hvx c hc s hs'
     ·split at h
      ·rename_i s i off sz
       exact ql1 hs rfl (qcI hs rfl hvx) h
      ·cases h
     ·cases h
   | _=>simp[qcT] at hto
theorem Moved.put{st':St}{M:List Nat}(h:Moved S F st w S' F' st' w' M)(d:Option Nat)(v:V):Moved S F st w S' F' (st'.put d v) w' M:=by
 cases d with
 | none=>exact h
 | some d=>exact⟨h.mS,h.keep,h.keepS,h.mF,h.size⟩
theorem V.bool_eq{v:V}{b:Bool}(h:v.bool? = some b):v=vB b:=by
 cases v with
 | c v0 =>
  cases v0 with
  | d t y =>
   cases t<;>simp[V.bool?] at h
   subst h;rfl
  | _=>simp[V.bool?] at h
 | _=>simp[V.bool?] at h
theorem St.setFr_same{t:Nat}{v:V}(h:st.fr[t]? = some v):st.setFr t v=st:=by
 unfold St.setFr
 have:st.fr.set t v=st.fr:=by
  apply List.ext_getElem?
  intro i
  rw[List.getElem?_set]
  by_cases hi:t=i
  ·subst hi
   have hl:=(List.getElem?_eq_some_iff.1 h).1
   simp only[hl,if_true,h]
  ·simp[hi]
 rw[this]
theorem Act.put_tmps(a:Act)(d:Option Nat)(u:Value):(a.put d u).tmps=match d with | some d=>a.tmps.setIfInBounds d u | none=>a.tmps:=by
 cases d<;>rfl
theorem Act.put_def(a:Act)(d:Option Nat)(u:Value):(a.put d u).defers=a.defers:=by
 cases d<;>rfl
theorem qrn{v:V}{t:Nat}(hs:Sim C S g F st tm w)(h:st.fr[t]? = some v):tm[t]? = some (tm.getD t Go.undef):=by
 have:t<tm.size:=by rw[hs.size];exact(List.getElem?_eq_some_iff.1 h).1
 simp[Array.getD,this]
theorem qhY{E:Env}{R:Run}{pol:Pol}{ops:Array Oper}{i:Nat}{o:Oper}{a:Act}{K:St→Option ρ}{r:ρ}(hs:Sim C S g F st a.tmps w)(ho:ops[i]? = some o)(h:qiG E R pol ops i st K=some r) :
    (Region.wanted o (yielded ops a.tmps)=true∧qpP E R pol o st (fun v st=>K (st.put o.dst v))=some r)∨(Region.wanted o (yielded ops a.tmps)=false∧K (st.put o.dst .undef)=some r):=by
  unfold qiG at h
  rw[ho] at h
  simp only at h
  cases hg:o.guard with
  | none =>
    rw[hg] at h
    exact .inl ⟨by simp[Region.wanted,hg],h⟩
  | some p =>
    obtain⟨j,want⟩:=p
    rw[hg] at h
    simp only at h
    cases hj:(ops[j]?).bind (·.dst) with
    | none=>rw[hj] at h;cases h
    | some t =>
      rw[hj] at h
      simp only at h
      cases hv:st.fr[t]? with
      | none=>rw[hv] at h;cases h
      | some v =>
        rw[hv] at h
        have hvr:=hs.fr t v hv
        have htm:=qrn hs hv
        have other : ∀ b, v.bool? = some b → (bif b then (bif want then qpP  E R pol o (st.setFr t (vB true)) fun v st => K (st.put o.dst v) else K ((st.setFr t (vB true)).put o.dst .undef))
              else(bif want then K ((st.setFr t (vB false)).put o.dst .undef) else qpP E R pol o (st.setFr t (vB false)) fun v st=>K (st.put o.dst v)))=some r →
            (Region.wanted o (yielded ops a.tmps)=true∧qpP E R pol o st (fun v st=>K (st.put o.dst v))=some r)∨(Region.wanted o (yielded ops a.tmps)=false∧K (st.put o.dst .undef)=some r):=by
          intro b hb h
          have hve:=V.bool_eq hb
          have hval:=V.bool_sound hb hvr
          have hset:st.setFr t (vB b)=st:=St.setFr_same (by rw[hv,hve])
          have hy:yielded ops a.tmps j=some b:=by
            unfold yielded
            rw[hj,Option.bind_some,htm,hval]
          cases b with
          | true =>
            rw[cond_true,hset] at h
            cases want with
            | true=>rw[cond_true] at h;exact .inl ⟨by simp[Region.wanted,hg,hy],h⟩
            | false=>rw[cond_false] at h;exact .inr ⟨by simp[Region.wanted,hg,hy],h⟩
          | false =>
            rw[cond_false,hset] at h
            cases want with
            | true=>rw[cond_true] at h;exact .inr ⟨by simp[Region.wanted,hg,hy],h⟩
            | false=>rw[cond_false] at h;exact .inl ⟨by simp[Region.wanted,hg,hy],h⟩
        split at h
        · rename_i he
          obtain rfl:=Option.some.inj he
          have hy:yielded ops a.tmps j=none:=by
            have hvr':a.tmps.getD t Go.undef=Go.undef:=hvr
            unfold yielded
            rw[hj,Option.bind_some,htm,hvr']
            rfl
          exact .inr ⟨by simp[Region.wanted,hg,hy],h⟩
        · rename_i v' _ he
          obtain rfl:=Option.some.inj he
          split at h
          · rename_i b hb;exact other b hb h
          · cases h
        · cases h
theorem qlS{E:Env}(hE:EnvOk E){R:Run}(hR:qgL E R)(hG:∀ S g F st tm w,Sim C S g F st tm w→Gl E.gs w S){pol:Pol}(hD:C.dr=pol.dr){ops:Array Oper}{i:Nat}{a:Act}{K:St→Option ρ}{r:ρ}(hs:Sim C S g F st a.tmps w)(h:qiG E R pol ops i st K=some r)
  {next:Act→World→Prop} {Q:Exit→Act→World→Prop}
  (hn:∀ st' S' g' F' a' w',Sim C S' g' F' st' a'.tmps w'→K st'=some r→a'.defers=a.defers→Moved S F st w S' F' st' w' (((ops[i]?).map (qko E st)).getD [])→next a' w'):wpOp E.P ops Q i next a w:=by
 unfold wpOp
 cases ho:ops[i]? with
 | none=>unfold qiG at h;rw[ho] at h;cases h
 | some o =>
  simp only
  rw[ho] at hn
  rcases qhY hs ho h with ⟨hw,h⟩ | ⟨hw,h⟩
  ·rw[hw,if_pos rfl]
   left
   refine qoc hE hR hG hD hs h next Q fun u v st' S' g' F' w' h1 h2 h3 h4=>?_
   refine hn (st'.put o.dst v) S' g' F' (a.put o.dst u) w' ?_ h3 (Act.put_def a _ _) (h4.put _ _)
   rw[Act.put_tmps]
   exact h1.put o.dst v u h2
  ·rw[hw]
   simp only[Bool.false_eq_true,if_false]
   refine hn (st.put o.dst .undef) S g F (a.put o.dst Go.undef) w ?_ h (Act.put_def a _ _) ((Moved.refl _).put _ _)
   rw[Act.put_tmps]
   exact hs.put o.dst .undef Go.undef rfl
theorem qlr{E:Env}(hE:EnvOk E){R:Run}(hR:qgL E R)(hG:∀ S g F st tm w,Sim C S g F st tm w→Gl E.gs w S){pol:Pol}(hD:C.dr=pol.dr){ops:Array Oper}{K:St→Option ρ}{r:ρ}{Q:Exit→Act→World→Prop} :
    ∀(l:List Nat) {S:qab} {g:Nat→Value} {F:Nat→qab} {st:St} {a:Act} {w:World},Sim C S g F st a.tmps w→qrj E R pol ops l st K=some r →
      (∀ st' S' g' F' a' w',Sim C S' g' F' st' a'.tmps w'→K st'=some r→a'.defers=a.defers→Q .normal a' w')→wpOps E.P ops Q l a w
  | [],S,g,F,st,a,w,hs,h,hQ=>hQ st S g F a w hs h rfl
  | i::l,S,g,F,st,a,w,hs,h,hQ=>by
      rw[wpOps_cons]
      refine qlS hE hR hG hD hs h fun st' S' g' F' a' w' h1 h2 h3 _=>qlr hE hR hG hD l h1 h2 fun st2 S2 g2 F2 a2 w2 h4 h5 h6=>hQ st2 S2 g2 F2 a2 w2 h4 h5 (h6.trans h3)
theorem qcF{ops:Array Oper}{l:List Bool}{i:Nat}:i∈qc7 ops l↔l.getD i true=false∧∃ o,ops[i]? = some o∧∀ e∈o.after,Region.binds .any e=true→l.getD e.on false=true:=by
 unfold qc7
 rw[List.mem_filter]
 constructor
 ·rintro⟨h1,h2⟩
  simp only[Bool.and_eq_true,Bool.not_eq_true'] at h2
  refine⟨h2.1,?_⟩
  cases ho:ops[i]? with
  | none=>rw[ho] at h2;simp at h2
  | some o =>
   rw[ho] at h2
   refine⟨o,rfl,fun e he hb=>?_⟩
   have h3:(o.after.toList.all fun e=>!Region.binds .any e || l.getD e.on false)=true:=h2.2
   have:=List.all_eq_true.1 h3 e (by simpa using he)
   simp only[hb,Bool.not_true,Bool.false_or] at this
   exact this
 ·rintro⟨h1,o,ho,h2⟩
  have hlt:=(Array.getElem?_eq_some_iff.1 ho).1
  refine⟨by simpa using hlt,?_⟩
  rw[h1,ho]
  simp only[Bool.not_false,Bool.true_and]
  refine List.all_eq_true.2 fun e he=>?_
  cases hb:Region.binds .any e with
  | false=>rfl
  | true=>simpa using h2 e (by simpa using he) hb
theorem qjW{ops:Array Oper}{l:List Bool}:Region.ready .any ops l.toArray=qc7 ops l:=by
 unfold Region.ready qc7
 congr 1
 funext i
 have e1:l.toArray.getD i true=l.getD i true:=by simp
 rw[e1]
 congr 1
 cases ops[i]? with
 | none=>rfl
 | some o =>
  simp only[Option.map_some,Option.getD_some]
  rw[← Array.all_toList]
  congr 1
  funext e
  simp
def qi6(ops:Array Oper)(l:List Bool):Prop:=∀ j oj,ops[j]? = some oj→l.getD j false=true→∀ e∈oj.after,Region.binds .any e=true→l.getD e.on false=true
theorem qha{l:List Bool}{i j:Nat}{d:Bool}:(l.set i true).getD j d=if j=i∧i<l.length then true else l.getD j d:=by
 simp only[List.getD_eq_getElem?_getD,List.getElem?_set]
 by_cases h:i=j
 ·subst h
  by_cases hl:i<l.length
  ·simp[hl]
  ·simp[hl]
 ·simp[h,Ne.symm h]
theorem qe0{l:List Bool}{i j:Nat}(h:l.getD j false=true):(l.set i true).getD j false=true:=by
 rw[qha];split<;>first | rfl | exact h
theorem qi6.set{ops:Array Oper}{l:List Bool}(hc:qi6 ops l){i:Nat}(hi:i∈qc7 ops l):qi6 ops (l.set i true):=by
 intro j oj hj hl e he hb
 by_cases hji:j=i
 ·subst hji
  obtain⟨_,o,ho,h⟩:=qcF.1 hi
  rw[hj] at ho
  obtain rfl:=Option.some.inj ho
  exact qe0 (h e he hb)
 ·rw[qha] at hl
  split at hl
  ·rename_i h;exact absurd h.1 hji
  ·exact qe0 (hc j oj hj hl e he hb)
theorem qfb{ops:Array Oper}{l:List Bool}{i j:Nat}(hj:j∈qc7 ops l)(hne:j≠i):j∈qc7 ops (l.set i true):=by
 obtain⟨h1,o,ho,h2⟩:=qcF.1 hj
 refine qcF.2 ⟨?_,o,ho,fun e he hb=>qe0 (h2 e he hb)⟩
 rw[qha]
 split
 ·rename_i h;exact absurd h.1 hne
 ·exact h1
theorem qjG{ops:Array Oper}{i:Nat}:∀(n k:Nat),k<n→(qeo ops i n).getD k false=qh9 ops i k
  | 0,k,h=>by omega
  | n+1,k,h=>by
      have hlen:∀ n,(qeo ops i n).length=n:=by
        intro n
        induction n with
        | zero=>rfl
        | succ n ih=>simp[qeo,ih]
      rcases Nat.lt_or_ge k n with hk | hk
      · have:(qeo ops i (n+1)).getD k false=(qeo ops i n).getD k false:=by
          simp only[qeo,List.getD_eq_getElem?_getD]
          rw[List.getElem?_append_left (by rw[hlen];exact hk)]
        rw[this,qjG n k hk]
      · obtain rfl:k=n:=by omega
        rfl
theorem qn1{ops:Array Oper}{i j:Nat}(h:qh9 ops i j=true):∃ o,ops[j]? = some o∧∃ e∈o.after,Region.binds .any e=true∧(e.on=i∨(e.on<j∧qh9 ops i e.on=true)):=by
 have hlen:∀ n,(qeo ops i n).length=n:=by
  intro n
  induction n with
  | zero=>rfl
  | succ n ih=>simp[qeo,ih]
 unfold qh9 at h
 simp only[qeo,List.getD_eq_getElem?_getD] at h
 rw[List.getElem?_append_right (by rw[hlen];exact Nat.le_refl _),hlen,Nat.sub_self] at h
 simp only[List.getElem?_cons_zero,Option.getD_some] at h
 cases ho:ops[j]? with
 | none=>rw[ho] at h;simp at h
 | some o =>
  rw[ho] at h
  simp only[Option.map_some,Option.getD_some] at h
  obtain⟨e,he,h2⟩:=List.any_eq_true.1 h
  simp only[Bool.and_eq_true,Bool.or_eq_true,beq_iff_eq] at h2
  refine⟨o,rfl,e,by simpa using he,h2.1,h2.2.imp id fun h3=>?_⟩
  rcases Nat.lt_or_ge e.on j with hlt | hge
  ·refine⟨hlt,?_⟩
   rw[← qjG j e.on hlt,List.getD_eq_getElem?_getD];exact h3
  ·rw[List.getElem?_eq_none (by rw[hlen];exact hge)] at h3;cases h3
theorem qgE{ops:Array Oper}{l:List Bool}(hc:qi6 ops l){i:Nat}:∀(j:Nat),qh9 ops i j=true→(∀ o,ops[j]? = some o→∀ e∈o.after,Region.binds .any e=true→l.getD e.on false=true)→l.getD i false=true:=by
 intro j
 induction j using Nat.strongRecOn with
 | _ j ih =>
  intro hw ha
  obtain⟨o,ho,e,he,hb,h | ⟨hlt,hw'⟩⟩:=qn1 hw
  ·rw[← h];exact ha o ho e he hb
  ·exact ih e.on hlt hw' fun o' ho' e' he' hb'=>hc e.on o' ho' (ha o ho e he hb) e' he' hb'
def qhD(P:Program)(ops:Array Oper)(Q:Exit→Act→World→Prop):Nat→List (Nat×(World→Prop))→List Bool→Act→World→Prop
 | 0,_,l,a,w=>qc7 ops l=[]∧Q .normal a w
 | fuel+1,ps,l,a,w=>(qc7 ops l=[]→Q .normal a w) ∧
  ∀ j∈qc7 ops l,wpOp P ops Q j (fun a' w'=>∃ ps',(∀ p∈ps,p∈ps'∨qh9 ops p.1 j=true)∧(∀ p∈ps',p.2 w')∧qhD P ops Q fuel ps' (l.set j true) a' w') a w
theorem qi9{ops:Array Oper}{Q:Exit→Act→World→Prop}:∀(fuel:Nat) (ps:List (Nat×(World→Prop))) (l:List Bool) (a:Act) (w:World),qhD P ops Q fuel ps l a w→wpAny P .any ops Q fuel l.toArray a w
  | 0,ps,l,a,w,h=>⟨by rw[qjW];exact h.1,h.2⟩
  | fuel+1,ps,l,a,w,h=>by
      refine⟨fun h0=>h.1 (by rwa [qjW] at h0),fun i hi=>?_⟩
      rw[qjW] at hi
      refine wpOp_mono (fun a' w' ⟨ps',_,_,h'⟩=>?_) (h.2 i hi)
      have:=qi9 fuel ps' _ a' w' h'
      simpa using this
theorem qkN{ops:Array Oper}{Q:Exit→Act→World→Prop}{fuel:Nat}{ps ps2:List (Nat×(World→Prop))}{l:List Bool}{a:Act}(hp:∀ p∈ps,p∈ps2)(h:qhD P ops Q fuel ps2 l a w):qhD P ops Q fuel ps l a w:=by
 cases fuel with
 | zero=>exact h
 | succ fuel=>exact⟨h.1,fun j hj=>wpOp_mono (fun a' w' ⟨ps',h1,h2,h3⟩=>⟨ps',fun p hp'=>h1 p (hp p hp'),h2,h3⟩) (h.2 j hj)⟩
theorem qlu{ops:Array Oper}{Q:Exit→Act→World→Prop}{i:Nat}{oi:Oper}{v:Value}{Y:World→Prop}(hi:ops[i]? = some oi)(hsel:∀(j:Nat) (o:Oper) cs b,ops[j]? = some o→o.op≠.select cs b)
    (hQ:∀ c a w,Q (.panic c) (a.put oi.dst v) w→Q (.panic c) a w) :
    ∀(fuel:Nat) (ps:List (Nat×(World→Prop))) (l:List Bool) (a:Act) (w:World),qi6 ops l →
      (∀ j oj,ops[j]? = some oj→j≠i→l.getD j true=false→(∀ e∈oj.after,Region.binds .any e=true→e.on≠i)→oi.apart ops oj=true) →
      i∈qc7 ops l→YieldsIf P ops Y oi v a→(i,Y)∈ps→(∀ p∈ps,p.2 w) →
      qhD P ops Q fuel ps (l.set i true) (a.put oi.dst v) w→qhD P ops Q (fuel+1) ps l a w:=by
  intro fuel
  induction fuel with
  | zero =>
    intro ps l a w hcl hfree hr hy hmem hps H
    refine⟨fun h=>(by rw[h] at hr;cases hr),fun j hj=>?_⟩
    by_cases hji:j=i
    · subst hji;exact hy.wpOp hi (hps _ hmem) ⟨ps,fun p hp=>.inl hp,hps,H⟩
    · have:=qfb hj hji
      rw[H.1] at this
      cases this
  | succ fuel ih =>
    intro ps l a w hcl hfree hr hy hmem hps H
    refine⟨fun h=>(by rw[h] at hr;cases hr),fun j hj=>?_⟩
    by_cases hji:j=i
    · subst hji;exact hy.wpOp hi (hps _ hmem) ⟨ps,fun p hp=>.inl hp,hps,H⟩
    · have h1:=H.2 j (qfb hj hji)
      obtain⟨hjun,oj,hoj,hall⟩:=qcF.1 hj
      have hiun:=(qcF.1 hr).1
      have hilf:l.getD i false≠true:=by
        intro h
        simp only[List.getD_eq_getElem?_getD] at h hiun
        cases hg:l[i]? with
        | none=>rw[hg] at hiun;simp at hiun
        | some b=>rw[hg] at h hiun;simp at h hiun;rw[h] at hiun;cases hiun
      have hnot:∀ e∈oj.after,Region.binds .any e=true→e.on≠i:=fun e he hb heq=>hilf (heq ▸ hall e he hb)
      have hnw:qh9 ops i j≠true:=fun hw=>hilf (qgE hcl j hw fun o ho e he hb=>by
        rw[hoj] at ho
        obtain rfl:=Option.some.inj ho
        exact hall e he hb)
      have h2:=wpOp_putIf hoj (hfree j oj hoj hji hjun hnot) (fun cs b=>hsel i oi cs b hi) (fun cs b=>hsel j oj cs b hoj) hQ hy h1
      have hfree':∀ k ok,ops[k]? = some ok→k≠i→(l.set j true).getD k true=false →
          (∀ e∈ok.after,Region.binds .any e=true→e.on≠i)→oi.apart ops ok=true:=fun k ok hk hki hun hno=>by
        refine hfree k ok hk hki ?_ hno
        rw[qha] at hun
        split at hun
        · cases hun
        · exact hun
      refine wpOp_mono (fun a' w' h3=>?_) h2
      obtain⟨hy',ps',hk,hps',h4⟩:=h3
      refine⟨ps',hk,hps',ih ps' (l.set j true) a' w' (hcl.set hj) hfree' (qfb hr (Ne.symm hji)) hy' ((hk _ hmem).resolve_right hnw) hps' ?_⟩
      rw[List.set_comm _ _ hji]
      exact h4
def PI(F:Nat→qab)(st:St)(w:World)(loans:List (Nat×List Nat))(ps:List (Nat×(World→Prop))):Prop :=
 ∀ p∈ps,∃(l:List Nat) (Y:qab) (w0:World),((p.1,l)∈loans∨l=[])∧p.2=(fun w2=>∀ b,Y b→w2.heap[b]? = w0.heap[b]?) ∧
  ∀ b,Y b→w.heap[b]? = w0.heap[b]?∧b<w.heap.size∧∀ s o,qad st.ob s=some o→o.frozen=false→F s b→s∈l
theorem PI.now{loans:List (Nat×List Nat)}{ps:List (Nat×(World→Prop))}(h:PI F st w loans ps):∀ p∈ps,p.2 w:=by
 intro p hp
 obtain⟨l,Y,w0,_,he,hY⟩:=h p hp
 rw[he]
 exact fun b hb=>(hY b hb).1
theorem PI.step{ops:Array Oper}{m:List Nat}{j:Nat}{loans:List (Nat×List Nat)}{ps:List (Nat×(World→Prop))}{st':St}(h:PI F st w loans ps)(hs:Sim C S g F st tm w){tm':Array Value}(hs':Sim C S' g' F' st' tm' w')
  (hm:Moved S F st w S' F' st' w' m) (hl:qkZ ops m j loans=true):∃ ps',(∀ p∈ps,p∈ps'∨qh9 ops p.1 j=true)∧PI F' st' w' (ql0 m loans) ps':=by
 classical
 let Good:Nat×(World→Prop)→Prop:=fun p=>∃(l:List Nat) (Y:qab) (w0:World),((p.1,l)∈ql0 m loans∨l=[])∧p.2=(fun w2=>∀ b,Y b→w2.heap[b]? = w0.heap[b]?) ∧
  ∀ b,Y b→w'.heap[b]? = w0.heap[b]?∧b<w'.heap.size∧∀ s o,qad st'.ob s=some o→o.frozen=false→F' s b→s∈l
 refine⟨ps.filter fun p=>decide (Good p),fun p hp=>?_,fun p hp=>of_decide_eq_true (List.mem_filter.1 hp).2⟩
 obtain⟨l,Y,w0,hlo,he,hY⟩:=h p hp
 cases hc:l.all (fun s=>!m.contains s) with
 | true =>
  left
  refine List.mem_filter.2 ⟨hp,?_⟩
  simp only[decide_eq_true_eq]
  have hnm:∀ s∈l,s∉m:=fun s hs=>by
   have:=List.all_eq_true.1 hc s hs
   simpa using this
  refine⟨l,Y,w0,hlo.imp (fun h1=>List.mem_filter.2 ⟨h1,hc⟩) id,he,fun b hb=>?_⟩
  obtain⟨h1,h2,h3⟩:=hY b hb
  have hkeep:w'.heap[b]? = w.heap[b]?:=by
   by_cases hSb:S b
   ·exact hm.keepS b hSb
   ·refine hm.keep b h2 fun s hsm o ho hF=>?_
    cases hq:o.frozen with
    | true=>exact hSb (hs.frz s o ho hq b hF)
    | false=>exact hnm s (h3 s o ho hq hF) hsm
  refine⟨hkeep.trans h1,Nat.lt_of_lt_of_le h2 hm.size,fun s o ho hof hF=>?_⟩
  have hnS:¬ S b:=fun hSb=>(hs'.prv s o ho hof b hF).1 (hm.mS b hSb)
  rcases hm.mF s o ho hof b hF with h4 | ⟨o2,h4,h5,h6⟩ | ⟨s2,h4,o2,h5,h6⟩
  ·omega
  ·exact h3 s o2 h4 h5 h6
  ·exfalso
   cases hq:o2.frozen with
   | true=>exact hnS (hs.frz s2 o2 h5 hq b h6)
   | false=>exact hnm s2 (h3 s2 o2 h5 hq h6) h4
 | false =>
  right
  have hne:l≠[]:=by rintro rfl;cases hc
  have hlo':=hlo.resolve_right hne
  have:=List.all_eq_true.1 hl (p.1,l) hlo'
  simp only[hc,Bool.false_or] at this
  exact this
theorem qn7{E:Env}{R:Run}{pol:Pol}{ops:Array Oper}{i:Nat}{o:Oper}{a:Act}{K:St→Option ρ}{r:ρ}(hs:Sim C S g F st a.tmps w)(ho:ops[i]? = some o)(hr:qaL o=true)(hto:qcT pol o=false)(h:qiG E R pol ops i st K=some r) :
  ∃ u st' S' F',YieldsIf E.P ops (fun w2=>qpj S F st (qbE E.P st o) w w2) o u a∧Sim C S' g F' st' (a.put o.dst u).tmps w∧K st'=some r∧Moved S F st w S' F' st' w []:=by
 rcases qhY hs ho h with ⟨hw,h⟩ | ⟨hw,h⟩
 ·obtain⟨u,v,st',S',F',h1,h2,h3,h4,h5⟩:=qgu hs hr hto h
  refine⟨u,st'.put o.dst v,S',F',.inl ⟨hw,h1⟩,?_,h4,h5.put _ _⟩
  rw[Act.put_tmps]
  exact h2.put o.dst v u h3
 ·refine⟨Go.undef,st.put o.dst .undef,S,F,.inr ⟨hw,rfl⟩,?_,h,(Moved.refl _).put _ _⟩
  rw[Act.put_tmps]
  exact hs.put o.dst .undef Go.undef rfl
theorem qi8{go:Nat→Option ρ}{r:ρ}:∀ {js:List Nat} {x:Option ρ},js.foldl (fun acc j=>qpQ acc (go j)) x=some r→x=some r∧∀ j∈js,go j=some r
  | [],x,h=>⟨h,by simp⟩
  | j::js,x,h=>by
      rw[List.foldl_cons] at h
      obtain⟨h1,h2⟩:=qi8 h
      obtain⟨h3,h4⟩:=qlb h1
      refine⟨h3,fun k hk=>?_⟩
      rcases List.mem_cons.1 hk with rfl | hk
      · exact h4
      · exact h2 k hk
theorem qlF{ops:Array Oper}(h:qhm ops=true):(∀(j:Nat) (o:Oper) cs b,ops[j]? = some o→o.op≠.select cs b) ∧
  ∀(i:Nat) oi,ops[i]? = some oi→qaL oi=true→∀(j:Nat) oj,ops[j]? = some oj→j≠i→oi.apart ops oj=true∨(∃ e∈oj.after,Region.binds .any e=true∧e.on=i)∨qh9 ops j i=true:=by
 unfold qhm at h
 have key:∀(i:Nat) oi,ops[i]? = some oi→_:=fun i oi hi=>by
  have:=List.all_eq_true.1 h i (by simpa using (Array.getElem?_eq_some_iff.1 hi).1)
  rw[hi] at this
  exact this
 refine⟨fun j o cs b ho he=>?_,fun i oi hi hr j oj hj hne=>?_⟩
 ·have:=key j o ho
  simp[he] at this
 ·have h1:=key i oi hi
  simp only[Bool.and_eq_true,hr,Bool.not_true,Bool.false_or] at h1
  have h2:=List.all_eq_true.1 h1.2 j (by simpa using (Array.getElem?_eq_some_iff.1 hj).1)
  rw[hj] at h2
  simp only[Bool.or_eq_true,beq_iff_eq] at h2
  rcases h2 with h2 | (h2 | h2) | h2
  ·exact absurd h2.symm hne
  ·exact .inl h2
  ·obtain⟨e,he,h3⟩:=List.any_eq_true.1 h2
   simp only[Bool.and_eq_true,beq_iff_eq] at h3
   exact .inr (.inl ⟨e,by simpa using he,h3.1,h3.2⟩)
  ·exact .inr (.inr h2)
theorem qix{E:Env}(hE:EnvOk E){R:Run}(hR:qgL E R)(hG:∀ S g F st tm w,Sim C S g F st tm w→Gl E.gs w S){pol:Pol}(hD:C.dr=pol.dr){ops:Array Oper}(hap:qhm ops=true){K:St→Option ρ}{r:ρ}{Q:Exit→Act→World→Prop}(hQp:∀ c a w,¬ Q (.panic c) a w) :
    ∀(n:Nat) {S:qab} {g:Nat→Value} {F:Nat→qab} {st:St} {a:Act} {w:World} {l:List Bool} {loans:List (Nat×List Nat)} {ps:List (Nat×(World→Prop))},
      Sim C S g F st a.tmps w→qi6 ops l→PI F st w loans ps→qlq E R pol ops n l loans st K=some r →
      (∀ st' S' g' F' a' w',Sim C S' g' F' st' a'.tmps w'→K st'=some r→a'.defers=a.defers→Q .normal a' w')→qhD E.P ops Q n ps l a w
  | 0,S,g,F,st,a,w,l,loans,ps,hs,hcl,hpi,h,hQ=>by
      unfold qlq at h
      split at h
      · rename_i h0;exact⟨h0,hQ st S g F a w hs h rfl⟩
      · cases h
  | n+1,S,g,F,st,a,w,l,loans,ps,hs,hcl,hpi,h,hQ=>by
      unfold qlq at h
      split at h
      · rename_i i hf
        have hir:=List.mem_of_find?_eq_some hf
        have hrd:=List.find?_some hf
        obtain⟨hiun,oi,hoi,hafter⟩:=qcF.1 hir
        have hrd2:qaL oi=true∧qcT pol oi=false:=by
          unfold qjs at hrd
          rw[hoi] at hrd
          simpa using hrd
        have hrd':=hrd2.1
        obtain⟨u,st',S',F',hy,hs',hk,hm⟩:=qn7 hs hoi hrd' hrd2.2 h
        rw[hoi] at hk
        simp only[Option.map_some,Option.getD_some] at hk
        obtain⟨hsel,hapt⟩:=qlF hap
        refine qkN (ps2:=(i,fun w2=>qpj S F st (qbE E.P st oi) w w2)::ps) (fun p hp=>List.mem_cons_of_mem _ hp) ?_
        have hpi':PI F' st' w (match qbE E.P st oi with | []=>loans | l=>(i,l)::loans) ((i,fun w2=>qpj S F st (qbE E.P st oi) w w2)::ps):=by
          intro p hp
          rcases List.mem_cons.1 hp with rfl | hp
          · refine⟨qbE E.P st oi,fun b=>S b∨∃ s∈qbE E.P st oi,∃ o,qad st.ob s=some o∧F s b,w,?_,rfl,fun b hb=>⟨rfl,?_,fun s o ho hof hF=>?_⟩⟩
            · cases qbE E.P st oi with
              | nil=>exact .inr rfl
              | cons x xs=>exact .inl (by simp)
            · rcases hb with hb | ⟨s,_,o,ho,hF⟩
              · exact hs.szS b hb
              · exact hs.szF s o ho b hF
            · have hnS:¬ S b:=fun hSb=>(hs'.prv s o ho hof b hF).1 (hm.mS b hSb)
              rcases hb with hb | ⟨s1,hs1,o1,ho1,hF1⟩
              · exact absurd hb hnS
              · have ho1f:o1.frozen=false:=by
                  cases hq:o1.frozen with
                  | true=>exact absurd (hs.frz s1 o1 ho1 hq b hF1) hnS
                  | false=>rfl
                rcases hm.mF s o ho hof b hF with h4 | ⟨o2,h4,h5,h6⟩ | ⟨s2,h4,_⟩
                · have:=hs.szF s1 o1 ho1 b hF1;omega
                · by_cases hss:s=s1
                  · subst hss;exact hs1
                  · exact absurd hF1 (hs.dis s s1 o2 o1 hss h4 ho1 h5 ho1f b h6)
                · cases h4
          · obtain⟨l',Y,w0,h1,h2,h3⟩:=hpi p hp
            refine⟨l',Y,w0,h1.imp (fun h4=>?_) id,h2,fun b hb=>⟨(h3 b hb).1,(h3 b hb).2.1,fun s o ho hof hF=>?_⟩⟩
            · cases qbE E.P st oi with
              | nil=>exact h4
              | cons x xs=>exact List.mem_cons_of_mem _ h4
            · rcases hm.mF s o ho hof b hF with h4 | ⟨o2,h4,h5,h6⟩ | ⟨s2,h4,_⟩
              · have:=(h3 b hb).2.1;omega
              · exact(h3 b hb).2.2 s o2 h4 h5 h6
              · cases h4
        refine qlu hoi hsel (fun c a w hq=>absurd hq (hQp c _ w)) n _ l a w hcl (fun j oj hj hne hun hno=>?_) hir hy (by simp) hpi'.now ?_
        · rcases hapt i oi hoi hrd' j oj hj hne with h1 | ⟨e,he,hb,heq⟩ | h1
          · exact h1
          · exact absurd heq (hno e he hb)
          · have:=qgE hcl i h1 fun o ho e he hb=>by
              rw[hoi] at ho
              obtain rfl:=Option.some.inj ho
              exact hafter e he hb
            exfalso
            simp only[List.getD_eq_getElem?_getD] at this hun
            cases hg:l[j]? with
            | none=>rw[hg] at hun;simp at hun
            | some b=>rw[hg] at this hun;simp at this hun;rw[this] at hun;cases hun
        · exact qix hE hR hG hD hap hQp n hs' (hcl.set hir) hpi' hk fun st2 S2 g2 F2 a2 w2 h1 h2 h3=>hQ st2 S2 g2 F2 a2 w2 h1 h2 (h3.trans (Act.put_def a _ _))
      · rename_i hf
        split at h
        · rename_i h0
          exact⟨fun _=>hQ st S g F a w hs h rfl,by rw[h0];simp⟩
        · rename_i i js h0
          simp only at h
          obtain⟨h1,h2⟩:=qi8 (go:=fun j=>bif qkZ ops (((ops[j]?).map (qko E st)).getD []) j loans then qiG E R pol ops j st fun st'=>qlq E R pol ops n (l.set j true) (ql0 (((ops[j]?).map (qko E st)).getD []) loans) st' K else none) h
          refine⟨(fun h3=>(by rw[h0] at h3;cases h3)),fun j hj=>?_⟩
          have hgo:(bif qkZ ops (((ops[j]?).map (qko E st)).getD []) j loans then qiG E R pol ops j st fun st'=>qlq E R pol ops n (l.set j true) (ql0 (((ops[j]?).map (qko E st)).getD []) loans) st' K else none)=some r:=by
            rw[h0] at hj
            rcases List.mem_cons.1 hj with rfl | hj
            · exact h1
            · exact h2 j hj
          cases hlo:qkZ ops (((ops[j]?).map (qko E st)).getD []) j loans with
          | false=>rw[hlo] at hgo;cases hgo
          | true =>
            rw[hlo,cond_true] at hgo
            refine qlS hE hR hG hD hs hgo fun st' S' g' F' a' w' h3 h4 h5 h6=>?_
            obtain⟨ps',h7,h8⟩:=hpi.step (ops:=ops) (j:=j) hs h3 h6 hlo
            exact⟨ps',h7,h8.now,qix hE hR hG hD hap hQp n h3 (hcl.set hj) h8 h4 fun st2 S2 g2 F2 a2 w2 h9 h10 h11=>hQ st2 S2 g2 F2 a2 w2 h9 h10 (h11.trans h5)⟩
end
end Ve
namespace Ve
open Go
section
variable {S S':qab} {w w':World} {g g':Nat→Value} {C:Ctx} {F F':Nat→qab} {st:St} {tm:Array Value} {P:Program} {ρ:Type}
theorem Sim.relabel(hs:Sim C S g F st tm w){s:Nat}{o o':Obj}(ho:qad st.ob s=some o)(hf:o.frozen=false)(hf':o'.frozen=false)(hx:o'.fixed=o.fixed)(hob:ObR S w g F s o') :
  Sim C S g F (st.setOb s (some o')) tm w:=by
 have:=hs.set s o o' (F s) (w':=w) ho (Nat.le_refl _) (fun _ _=>rfl) (fun _ _ _ _ _ _=>rfl) (fun _ _ _=>rfl) hf' (fun h=>hs.fx s o ho (hx ▸ h)) (by rw[qcv];exact hob)
  (fun b hb=>⟨(hs.prv s o ho hf b hb).1,(hs.prv s o ho hf b hb).2,hs.szF s o ho b hb⟩) (fun s' p hne hp hpf b hb hb'=>hs.dis s s' o p (Ne.symm hne) ho hp hf hpf b hb hb')
 rwa [qcv] at this
theorem qqL(hs:Sim C S g F st tm w)(site:Nat)(t:Ty)(dp:Bool)(A:Option Addr) :
  Sim C S (upd g site (.slice A 0 0)) (upd F site fun _=>False) (st.newOb site (.arr t [] dp false false)) tm w:=by
 refine hs.newG (w':=w) site _ _ _ (Nat.le_refl _) (fun _ _ _=>rfl) rfl rfl ?_ (fun _ h=>h.elim)
 unfold ObR;simp only[qaj]
 exact⟨A,0,rfl,⟨Nat.le_refl _,Nat.zero_le _⟩,.inl rfl⟩
theorem qeZ:∀ {l:List (Nat×Nat×Ty×Bool)} {g:Nat→Value} {F:Nat→qab} {st st':St},Sim C S g F st tm w→qpc l st=some st'→∃ g' F',Sim C S g' F' st' tm w
  | [],g,F,st,st',hs,h=>by obtain rfl:=Option.some.inj h;exact⟨g,F,hs⟩
  | (slot,site,t,dp)::l,g,F,st,st',hs,h=>by
      unfold qpc at h
      split at h
      · split at h
        · exact qeZ hs h
        · cases h
      · rename_i u hv
        split at h
        · obtain⟨A,hA⟩:=hs.fr slot _ hv
          have h1:=qqL hs site t dp A
          refine qeZ (h1.setFr slot (.c (.arr site)) fun v' hv'=>?_) h
          exact⟨by rw[qaj];exact hA,A,0,0,hA⟩
        · cases h
      · cases h
theorem qd1:∀ {l:List (Nat×Nat×Nat×Ty×Bool)} {g:Nat→Value} {F:Nat→qab} {st st':St},Sim C S g F st tm w→qlK l st=some st'→∃ g' F',Sim C S g' F' st' tm w
  | [],g,F,st,st',hs,h=>by obtain rfl:=Option.some.inj h;exact⟨g,F,hs⟩
  | (bs,cell,site,t,dp)::l,g,F,st,st',hs,h=>by
      unfold qlK at h
      split at h
      · rename_i cs fx ho
        split at h
        · split at h
          · exact qd1 hs h
          · cases h
        · rename_i u hv
          split at h
          · rename_i hc
            obtain⟨hu,hne⟩:=hc
            simp only at h
            split at h
            · rename_i cs1 fx1 ho1
              obtain⟨b,arr,e,hg,hF,hh,hcs⟩:=hs.ob bs _ ho
              obtain⟨v,hav,A,rfl⟩:=hcs.get hv
              have h1:=qqL hs site t dp A
              obtain⟨b1,arr1,e1,hg1,hF1,hh1,hcs1⟩:=h1.ob bs _ ho1
              have hbb:b1=b:=by
                rw[qav _ _ (Ne.symm hne)] at hg1
                rw[hg] at hg1
                simpa using hg1.symm
              subst hbb
              rw[hh] at hh1
              obtain⟨rfl,rfl⟩:arr=arr1∧e=e1:=by simpa using hh1
              refine qd1 (h1.relabel ho1 rfl (o':=.box (cs1.set cell (.arr site)) false fx1) rfl rfl ⟨b1,arr,e,hg1,hF1,hh,?_⟩) h
              have key:∀ {cs:List V0} {us:List Value} {i:Nat} {c:V0} {u:Value},Cs S w (upd g site (.slice A 0 0)) cs us→us[i]? = some u→V0R S w (upd g site (.slice A 0 0)) c u→Cs S w (upd g site (.slice A 0 0)) (cs.set i c) us:=by
                intro cs
                induction cs with
                | nil=>intro us i c u h _ _;exact h
                | cons c0 cs ih =>
                  rintro us i c u ⟨u0,us',rfl,h1,h2⟩ hu hc
                  cases i with
                  | zero=>simp at hu;subst hu;exact⟨u0,us',rfl,hc,h2⟩
                  | succ i=>exact⟨u0,us',rfl,h1,ih h2 (by simpa using hu) hc⟩
              exact key hcs1 hav ⟨by rw[qaj],A,0,0,rfl⟩
            · cases h
          · cases h
        · cases h
      · cases h
theorem qfy:∀(n:Nat) (ob:List (Option Obj)) (v:V0) (s:Nat),s∉qbs n ob v→qad (freezeN n ob v) s=qad ob s
 | 0,ob,v,s,_=>rfl
 | n+1,ob,v,s,h=>by
  have mod:∀ s',s≠s'→qad (ob.modify s' (·.map Obj.freeze)) s=qad ob s:=fun s' hne=>by rw[qbN,if_neg hne]
  cases v with
  | arr s'=>exact mod s' (by simpa [qbs] using h)
  | sub s' _ _ _=>exact mod s' (by simpa [qbs] using h)
  | elt s' _ _ _=>exact mod s' (by simpa [qbs] using h)
  | box s' off =>
   simp only[qbs] at h
   simp only[freezeN]
   cases ho:qad ob s' with
   | none=>rfl
   | some o =>
    rw[ho] at h
    cases o with
    | arr t xs d fz fx=>rfl
    | hol=>rfl
    | hlp=>rfl
    | bxo=>rfl
    | box cs fz fx =>
     simp only[List.mem_cons,List.mem_flatMap,not_or] at h
     have fold:∀(l:List V0) (ob1:List (Option Obj)),Frz ob ob1→(∀ c∈l,s∉qbs n ob c)→qad (l.foldl (freezeN n) ob1) s=qad ob1 s:=by
      intro l
      induction l with
      | nil=>intro ob1 _ _;rfl
      | cons c l ih =>
       intro ob1 h1 h2
       rw[List.foldl_cons,ih _ (h1.trans (Frz.freezeN n ob1 c)) fun c' hc'=>h2 c' (by simp[hc'])]
       exact qfy n ob1 c s (by rw[qdh h1];exact h2 c (by simp))
     simp only
     rw[fold cs _ (Frz.modify ob s') fun c hc hs=>h.2 ⟨c,hc,hs⟩]
     exact mod s' h.1
  | _=>rfl
theorem qdi:∀ {l:List (Nat×Nat)} {S:qab} {st st':St},Sim C S g F st tm w→qrS l st=some st'→∃ S',Sim C S' g F st' tm w
  | [],S,st,st',hs,h=>by obtain rfl:=Option.some.inj h;exact⟨S,hs⟩
  | (b,j)::l,S,st,st',hs,h=>by
      unfold qrS at h
      split at h
      · split at h
        · exact qdi hs h
        · rename_i c _ hc
          obtain⟨d,hd,h⟩:=Option.bind_eq_some_iff.1 h
          obtain⟨S',h1,h2,h3⟩:=hs.freezes [c]
          have h1':Sim C S' g F { st with ob:=freeze st.ob c } tm w:=h1
          have hr:=qdr hs hd (hs.fr _ _ hc) h2.mS (h3 c (by simp))
          exact qdi (h1'.setFr (b-1000000) (.c (qb4 d)) fun _ _=>qcB hr) h
        · cases h
      split at h
      · rename_i cs fx ho
        split at h
        · exact qdi hs h
        · rename_i c _ hc
          obtain⟨d,hd,h⟩:=Option.bind_eq_some_iff.1 h
          split at h
          · cases h
          · rename_i hnl
            have hnl':b∉qdJ st.ob c:=by simpa using hnl
            obtain⟨bb,arr,e,hg,hF,hh,hcs⟩:=hs.ob b _ ho
            obtain⟨u,hau,hv⟩:=hcs.get hc
            obtain⟨S',h1,h2,h3⟩:=hs.freezes [c]
            have h1':Sim C S' g F { st with ob:=freeze st.ob c } tm w:=h1
            have hr:=qdr hs hd hv h2.mS (h3 c (by simp))
            have ho':qad (freeze st.ob c) b=some (.box cs false fx):=by
              unfold freeze
              rw[qfy 3 st.ob c b hnl'];exact ho
            obtain⟨bb',arr',e',hg',hF',hh',hcs'⟩:=h1'.ob b _ ho'
            obtain rfl:bb=bb':=by rw[hg] at hg';simpa using hg'
            rw[hh] at hh'
            obtain⟨rfl,rfl⟩:arr=arr'∧e=e':=by simpa using hh'
            exact qdi (h1'.relabel ho' rfl (o':=.box (cs.set j (qb4 d)) false fx) rfl rfl ⟨bb,arr,e,hg,hF',hh,hcs'.set hau (qcB hr)⟩) h
        · cases h
      · cases h
theorem qhR{live:List Nat}:∀ {fr:List V} {i0 i:Nat} {v:V},(qdy live i0 fr)[i]? = some v→v=.dead∨fr[i]? = some v
  | [],i0,i,v,h=>by simp[qdy] at h
  | v0::fr,i0,0,v,h=>by
      simp only[qdy,List.getElem?_cons_zero,Option.some.injEq] at h
      cases hl:live.contains i0 with
      | true=>rw[hl] at h;exact .inr (by simpa using h)
      | false=>rw[hl] at h;exact .inl h.symm
  | v0::fr,i0,i+1,v,h=>by
      simp only[qdy,List.getElem?_cons_succ] at h ⊢
      exact qhR h
theorem qis{live:List Nat}:∀ {fr:List V} {i0:Nat},(qdy live i0 fr).length=fr.length
 | [],_=>rfl
 | _::fr,i0=>by simp[qdy,qis]
theorem Sim.mask(hs:Sim C S g F st tm w)(live:List Nat):Sim C S g F { st with fr:=qdy live 0 st.fr } tm w :=
 { hs with
  size:=by rw[qis];exact hs.size
  fr:=fun i v hv=>by
   rcases qhR hv with rfl | h
   ·trivial
   ·exact hs.fr i v h }
theorem Sim.congr(hs:Sim C S g F st tm w){ob':List (Option Obj)}(h:∀ s,qad ob' s=qad st.ob s):Sim C S g F { st with ob:=ob' } tm w :=
 hs.fewer rfl fun s o ho=>by rw[← h s];exact ho
theorem qfF:∀(l:List Nat) {S:qab} {F:Nat→qab} {st:St},Sim C S g F st tm w→∃ S' F',Sim C S' g F' { st with ob:=l.foldl (fun ob s=>ob.modify s (·.map Obj.undeep)) st.ob } tm w
  | [],S,F,st,hs=>⟨S,F,hs⟩
  | s::l,S,F,st,hs=>by
      have key:∃ S' F',Sim C S' g F' { st with ob:=st.ob.modify s (·.map Obj.undeep) } tm w:=by
        cases ho:qad st.ob s with
        | none=>exact⟨S,F,hs.congr fun s'=>by rw[qbN];split<;>rename_i h<;>first | (subst h;rw[ho];rfl) | rfl⟩
        | some o =>
          have same:o.undeep=o→∃ S' F',Sim C S' g F' { st with ob:=st.ob.modify s (·.map Obj.undeep) } tm w:=fun e =>
            ⟨S,F,hs.congr fun s'=>by rw[qbN];split<;>rename_i h<;>first | (subst h;rw[ho,Option.map_some,e]) | rfl⟩
          cases o with
          | box cs fz fx=>exact same rfl
          | hol=>exact same rfl
          | hlp=>exact same rfl
          | bxo=>exact same rfl
          | arr t xs d fz fx =>
            cases fz with
            | true=>exact same rfl
            | false =>
              obtain⟨S',Fs,h1,_⟩:=hs.weakenTo ho t.flat
              refine⟨S',_,(h1.congr fun s'=>?_:Sim C S' g _ { (st.setOb s (some (.arr t xs (d&&t.flat) false fx))) with ob:=st.ob.modify s (·.map Obj.undeep) } tm w)⟩
              rw[qbN]
              by_cases hss:s'=s
              · subst hss
                rw[if_pos rfl,ho]
                have hlt:=(List.getElem?_eq_some_iff.1 (qcn ho)).1
                unfold St.setOb qad
                rw[List.getD_eq_getElem?_getD,List.getElem?_set_self hlt]
                rfl
              · rw[if_neg hss,St.setOb,qam _ _ hss]
      obtain⟨S1,F1,h1⟩:=key
      exact qfF l h1
theorem qeP{obl:List Nat}:∀(os:List (Option Obj)) (i:Nat) {st:St},Sim C S g F st tm w→Sim C S g F (qg9 obl i os st) tm w
  | [],i,st,hs=>hs
  | o::os,i,st,hs=>by
      unfold qg9
      refine qeP os (i+1) ?_
      cases o with
      | none=>exact hs
      | some o =>
        show Sim C S g F (bif obl.contains i then st else st.dropOb i) tm w
        cases obl.contains i
        · exact(hs.drop i).1
        · exact hs
theorem qnH{m:Mask}{st':St}(hs:Sim C S g F st tm w)(h:m.app st=some st'):∃ S' g' F',Sim C S' g' F' st' tm w:=by
 unfold Mask.app at h
 obtain⟨st1,h1,h⟩:=Option.bind_eq_some_iff.1 h
 obtain⟨st2,h2,h⟩:=Option.bind_eq_some_iff.1 h
 obtain⟨st3,h3,h⟩:=Option.map_eq_some_iff.1 h
 obtain⟨g1,F1,hs1⟩:=qeZ hs h1
 obtain⟨g2,F2,hs2⟩:=qd1 hs1 h2
 obtain⟨S3,hs3⟩:=qdi hs2 h3
 have hs4:=hs3.mask m.live
 have hfz:∀(l:List Nat) (ob:List (Option Obj)),Frz ob (l.foldl (fun ob s=>freeze (freeze ob (.box s 0)) (.arr s)) ob):=by
  intro l
  induction l with
  | nil=>exact fun ob=>Frz.refl ob
  | cons s l ih=>exact fun ob=>((Frz.freezeN 3 ob _).trans (Frz.freezeN 3 _ _)).trans (ih _)
 have hs5:=hs4.frozen (hfz m.frzs st3.ob)
 obtain⟨S6,F6,hs6⟩:=qfF m.undp hs5
 simp only at h
 rw[← h]
 exact⟨S6,g2,F6,qeP _ 0 hs6⟩
theorem qco{R:Run}(hRw:∀ o f,R.w o f=o.bind f){l:List (Nat×Mask)}{k:Nat}{f:St→Option Dv}{r:Dv}(hs:Sim C S g F st tm w)(h:qb6 R l k st f=some r) :
  ∃ st' S' g' F',Sim C S' g' F' st' tm w∧f st'=some r:=by
 unfold qb6 at h
 split at h
 ·rename_i m _
  rw[hRw] at h
  obtain⟨st',h1,h2⟩:=Option.bind_eq_some_iff.1 h
  obtain⟨S',g',F',h3⟩:=qnH hs h1
  exact⟨st',S',g',F',h3,h2⟩
 ·exact⟨st,S,g,F,hs,h⟩
theorem qpW{c:Code}{Q:Exit→Act→World→Prop}{a:Act}{w:World}(I:Nat→Act→World→Prop)(n:Nat)(h₀:I n a w)
  (round:∀ n a w,I n a w→c.wp P (Exit.then (fun a' w'=>∃ m,m<n∧I m a' w') Q) a w):(Code.loop c).wp P Q a w:=by
 intro b k cs
 have key:∀ n a w,I n a w→∃ e a' w',Q e a' w'∧Arrives P (lone (b.at a (.code c::.inLoop c::k)) cs w) b k cs e a' w':=by
  intro n
  induction n using Nat.strongRecOn with
  | _ n ih =>
   intro a w hI
   obtain⟨e,a₁,w₁,hq,harr⟩:=round n a w hI b (.inLoop c::k) cs
   cases e with
   | normal =>
    obtain⟨m,hlt,hI₁⟩:=hq
    obtain⟨e₂,a₂,w₂,hq₂,harr₂⟩:=ih m hlt a₁ w₁ hI₁
    exact⟨e₂,a₂,w₂,hq₂,.of_steps (Steps.trans harr (.one step_inLoop)) harr₂⟩
   | exit id=>exact⟨_,a₁,w₁,hq,.pass (x:=.inLoop c) rfl (fun _ _=>.inl (by simp)) harr⟩
   | goto l=>exact⟨_,a₁,w₁,hq,.pass (x:=.inLoop c) rfl (fun _ _=>.inl (by simp)) harr⟩
   | ret=>exact⟨_,a₁,w₁,hq,.pass (x:=.inLoop c) rfl (fun _ _=>.inl (by simp)) harr⟩
   | panic ch=>exact⟨_,a₁,w₁,hq,.pass (x:=.inLoop c) rfl (fun _ _=>.inl (by simp)) harr⟩
   | outgrown=>exact⟨_,a₁,w₁,hq,.pass (x:=.inLoop c) rfl (fun _ _=>.inl (by simp)) harr⟩
 obtain⟨e,a',w',hq,harr⟩:=key n a w h₀
 exact⟨e,a',w',hq,.of_steps (.one step_loop) harr⟩
def Ex.toExit:Ex→Exit
 | .normal=>.normal
 | .exit i=>.exit i
 | .ret=>.ret
theorem qnG{E:Env}(hE:EnvOk E){R:Run}(hR:qgL E R)(hG:∀ S g F st tm w,Sim C S g F st tm w→Gl E.gs w S)(hRw:∀ o f,R.w o f=o.bind f){pol:Pol}(hD:C.dr=pol.dr){N:Nat}{r:Dv} :
  ∀(c:Code) {S:qab} {g:Nat→Value} {F:Nat→qab} {st:St} {a:Act} {w:World} {K:Kt} {Q:Exit→Act→World→Prop},Sim C S g F st a.tmps w→qbu E R pol N c st K=some r→(∀ c a w,¬ Q (.panic c) a w) →
   (∀ e st' S' g' F' a' w',Sim C S' g' F' st' a'.tmps w'→K e st'=some r→a'.defers=a.defers→Q e.toExit a' w')→c.wp E.P Q a w:=by
 intro c
 induction c with
 | skip =>
  intro S g F st a w K Q hs h hQp hQ
  exact wp_skip (hQ .normal st S g F a w hs h rfl)
 | region id ops draw =>
  intro S g F st a w K Q hs h hQp hQ
  unfold qbu at h
  cases draw with
  | false =>
   rw[cond_false] at h
   exact wp_region (qlr hE hR hG hD _ hs h fun st' S' g' F' a' w' h1 h2 h3=>hQ .normal st' S' g' F' a' w' h1 h2 h3)
  | true =>
   rw[cond_true] at h
   cases hap:qhm ops with
   | false=>rw[hap] at h;cases h
   | true =>
    rw[hap,cond_true] at h
    have hs':Sim C S g F st a.tmps { w with drawn:=w.drawn+1 }:=hs.world (w':={ w with drawn:=w.drawn+1 }) (Nat.le_refl _) fun _ _=>rfl
    have hz:∀ j,(List.replicate ops.size false).getD j false=false:=fun j=>by
     rw[List.getD_eq_getElem?_getD,List.getElem?_replicate];split<;>rfl
    have:=qix hE hR hG hD hap hQp ops.size (ps:=[]) hs' (fun j oj _ hl=>by rw[hz] at hl;cases hl) (fun p hp=>by cases hp) h fun st' S' g' F' a' w' h1 h2 h3=>hQ .normal st' S' g' F' a' w' h1 h2 h3
    have h2:=qi9 _ _ _ _ _ this
    rw[List.toArray_replicate] at h2
    exact wp_region_any hE.mixed h2
 | seq x y ihx ihy =>
  intro S g F st a w K Q hs h hQp hQ
  unfold qbu at h
  refine wp_seq (ihx hs h (fun c a w hq=>hQp c a w hq) fun e st' S' g' F' a' w' h1 h2 h3=>?_)
  cases e with
  | normal =>
   obtain⟨st2,S2,g2,F2,h4,h5⟩:=qco hRw h1 h2
   exact ihy h4 h5 hQp fun e st3 S3 g3 F3 a3 w3 h6 h7 h8=>hQ e st3 S3 g3 F3 a3 w3 h6 h7 (h8.trans h3)
  | exit i=>exact hQ (.exit i) st' S' g' F' a' w' h1 h2 h3
  | ret=>exact hQ .ret st' S' g' F' a' w' h1 h2 h3
 | cond c x y ihx ihy =>
  intro S g F st a w K Q hs h hQp hQ
  unfold qbu at h
  obtain⟨v,hv,h⟩:=Option.bind_eq_some_iff.1 h
  split at h
  ·rename_i t ht
   have hc:a.eval c=.bool t:=V.bool_sound ht (qcI hs rfl hv)
   refine wp_cond hc ?_
   have h':(bif t then qbu E R pol N x st K else qbu E R pol N y st K)=some r:=by
    cases c with
    | tmp i =>
     have hv':st.fr[i]? = some v:=hv
     have hset:st.setFr i (vB t)=st:=St.setFr_same (by rw[hv',V.bool_eq ht])
     cases t with
     | true =>
      have h2:qbu E R pol N x (st.setFr i (vB true)) K=some r:=h
      rw[hset] at h2;exact h2
     | false =>
      have h2:qbu E R pol N y (st.setFr i (vB false)) K=some r:=h
      rw[hset] at h2;exact h2
    | const k=>exact h
    | global k=>exact h
    | func k=>exact h
   cases t with
   | true=>exact ihx hs h' hQp hQ
   | false=>exact ihy hs h' hQp hQ
  ·cases h
 | block id b ih =>
  intro S g F st a w K Q hs h hQp hQ
  unfold qbu at h
  refine wp_block (ih hs h (fun c a w hq=>hQp c a w hq) fun e st' S' g' F' a' w' h1 h2 h3=>?_)
  cases e with
  | normal =>
   obtain⟨st2,S2,g2,F2,h4,h5⟩:=qco hRw h1 h2
   exact hQ .normal st2 S2 g2 F2 a' w' h4 h5 h3
  | exit i =>
   show(if i=id then Q .normal a' w' else Q (.exit i) a' w')
   have h2':(if i=id then qb6 R pol.blkM id st' fun st=>K .normal st else K (.exit i) st')=some r:=h2
   split
   ·rename_i hi
    rw[if_pos hi] at h2'
    obtain⟨st2,S2,g2,F2,h4,h5⟩:=qco hRw h1 h2'
    exact hQ .normal st2 S2 g2 F2 a' w' h4 h5 h3
   ·rename_i hi
    rw[if_neg hi] at h2'
    exact hQ (.exit i) st' S' g' F' a' w' h1 h2' h3
  | ret=>exact hQ .ret st' S' g' F' a' w' h1 h2 h3
 | loop b ih =>
  intro S g F st a w K Q hs h hQp hQ
  unfold qbu at h
  obtain⟨st1,S1,g1,F1,hs1,h⟩:=qco hRw hs h
  refine qpW (fun n a' w'=>∃ st' S' g' F',Sim C S' g' F' st' a'.tmps w'∧qmb (qbu E R pol N b) (qb6 R pol.loopM (qbz b)) n st' K=some r∧a'.defers=a.defers) N ⟨st1,S1,g1,F1,hs1,h,rfl⟩ ?_
  rintro n a' w' ⟨st',S',g',F',h1,h2,h3⟩
  cases n with
  | zero=>cases h2
  | succ n =>
   unfold qmb at h2
   refine ih h1 h2 (fun c a w hq=>hQp c a w hq) fun e st2 S2 g2 F2 a2 w2 h4 h5 h6=>?_
   cases e with
   | normal =>
    obtain⟨st3,S3,g3,F3,h7,h8⟩:=qco hRw h4 h5
    exact⟨n,Nat.lt_succ_self n,st3,S3,g3,F3,h7,h8,h6.trans h3⟩
   | exit i=>exact hQ (.exit i) st2 S2 g2 F2 a2 w2 h4 h5 (h6.trans h3)
   | ret=>exact hQ .ret st2 S2 g2 F2 a2 w2 h4 h5 (h6.trans h3)
 | exit id =>
  intro S g F st a w K Q hs h hQp hQ
  exact wp_exit (hQ (.exit id) st S g F a w hs h rfl)
 | ret =>
  intro S g F st a w K Q hs h hQp hQ
  exact wp_ret (hQ .ret st S g F a w hs h rfl)
 | _ =>
  intros
  rename_i h _ _
  cases h
end
end Ve
namespace Ve
open Go
section
variable {S S':qab} {w w':World} {g g':Nat→Value} {C:Ctx} {F F':Nat→qab} {st:St} {tm:Array Value} {P:Program} {ρ:Type}
def qh7(m:PM)(a:Nat)(d:Dv):Option Obj:=match m with
 | .imm=>none
 | .iobo k=>match d.t,d.x with
  | .ptr c,x=>some (.bxo c x k a false true)
  | _,_=>none
 | .iob=>match d.t,d.x with
  | .ptr c,x=>some (.box (qaJ c x) false true)
  | _,_=>none
 | m=>match d.t,d.x with
  | .sl u,xs=>some (.arr u xs (u.flat || m==.io true || m==.take true) false (m==.io true || m==.io false))
  | _,_=>none
def qoq(m:PM)(s:Nat)(d:Dv):V0:=match m with
 | .imm=>qb4 d
 | .iob=>.box s 0
 | .iobo _=>.box s 0
 | _=>.arr s
theorem qiJ{pm:List PM}{base i:Nat}{d:Dv}{ob ob':List (Option Obj)}{c:V0}(h:qit pm base i d ob=some (c,ob')) :
  c=qoq (qaz pm i) (base+i) d∧∀ s o,qad ob' s=some o→qad ob s=some o∨(s=base+i∧qh7 (qaz pm i) (base+pm.length+i) d=some o):=by
 unfold qit at h
 obtain⟨t,x⟩:=d
 cases hm:qaz pm i with
 | imm =>
  rw[hm] at h
  obtain⟨rfl,rfl⟩:qb4 ⟨t,x⟩=c∧ob=ob':=by simpa using h
  exact⟨rfl,fun s o ho=>.inl ho⟩
 | iob =>
  rw[hm] at h
  simp only at h
  split at h
  ·rename_i cc x
   obtain⟨rfl,rfl⟩:V0.box (base+i) 0=c∧ob.set (base+i) (some (.box (qaJ cc x) false true))=ob':=by simpa using h
   refine⟨rfl,fun s o ho=>?_⟩
   by_cases hs:s=base+i
   ·subst hs;exact .inr ⟨rfl,by simpa [qh7] using qaC ho⟩
   ·rw[qam _ _ hs] at ho;exact .inl ho
  ·cases h
 | iobo k =>
  rw[hm] at h
  simp only at h
  split at h
  ·rename_i cc x
   obtain⟨rfl,rfl⟩:=Prod.mk.inj (Option.some.inj h)
   refine⟨rfl,fun s o ho=>?_⟩
   by_cases hs:s=base+i
   ·subst hs;exact .inr ⟨rfl,by simpa [qh7] using qaC ho⟩
   ·rw[qam _ _ hs] at ho;exact .inl ho
  ·cases h
 | io dp =>
  rw[hm] at h
  simp only at h
  split at h
  ·rename_i u xs
   obtain⟨rfl,rfl⟩:=Prod.mk.inj (Option.some.inj h)
   refine⟨rfl,fun s o ho=>?_⟩
   by_cases hs:s=base+i
   ·subst hs;exact .inr ⟨rfl,qaC ho⟩
   ·rw[qam _ _ hs] at ho;exact .inl ho
  ·cases h
 | take dp =>
  rw[hm] at h
  simp only at h
  split at h
  ·rename_i u xs
   obtain⟨rfl,rfl⟩:=Prod.mk.inj (Option.some.inj h)
   refine⟨rfl,fun s o ho=>?_⟩
   by_cases hs:s=base+i
   ·subst hs;exact .inr ⟨rfl,qaC ho⟩
   ·rw[qam _ _ hs] at ho;exact .inl ho
  ·cases h
theorem qeg{pm:List PM}{base:Nat}:∀ {args:List Dv} {i:Nat} {ob ob':List (Option Obj)} {cs:List V0},qdj pm base i args ob=some (cs,ob') →
    cs.length=args.length∧(∀(k:Nat) d c,args[k]? = some d→cs[k]? = some c→c=qoq (qaz pm (i+k)) (base+(i+k)) d) ∧
      ∀ s o,qad ob' s=some o→qad ob s=some o∨∃(k:Nat) (d:Dv),args[k]? = some d∧s=base+(i+k)∧qh7 (qaz pm (i+k)) (base+pm.length+(i+k)) d=some o
  | [],i,ob,ob',cs,h=>by
      obtain⟨rfl,rfl⟩:=Prod.mk.inj (Option.some.inj h)
      exact⟨rfl,by simp,fun s o ho=>.inl ho⟩
  | d::ds,i,ob,ob',cs,h=>by
      unfold qdj at h
      obtain⟨p,hp,h⟩:=Option.bind_eq_some_iff.1 h
      obtain⟨q,hq,h⟩:=Option.map_eq_some_iff.1 h
      obtain⟨rfl,rfl⟩:=Prod.mk.inj h
      obtain⟨c,ob1⟩:=p
      obtain⟨h1,h2⟩:=qiJ hp
      obtain⟨h3,h4,h5⟩:=qeg (cs:=q.1) (ob':=q.2) hq
      refine⟨by simp[h3],fun k d' c' hd hc=>?_,fun s o ho=>?_⟩
      · cases k with
        | zero=>simp at hd hc;subst hd;subst hc;exact h1
        | succ k =>
          have:=h4 k d' c' (by simpa using hd) (by simpa using hc)
          rwa [show i+1+k=i+(k+1) by omega] at this
      · rcases h5 s o ho with h6 | ⟨k,d',h6,h7,h8⟩
        · rcases h2 s o h6 with h9 | ⟨h9,h10⟩
          · exact .inl h9
          · exact .inr ⟨0,d,rfl,h9,h10⟩
        · exact .inr ⟨k+1,d',by simpa using h6,by rw[show i+1+k=i+(k+1) by omega] at h7;exact h7,by rwa [show i+1+k=i+(k+1) by omega] at h8⟩
theorem qej:∀ {gs:List (Bool×Nat)} {cs:List V0} {us:List Value} {fr:List V},Cs S w g cs us→qcg gs cs=some fr→qfc S w g fr (qaR gs us)
  | [],cs,us,fr,hc,h=>by
      cases cs with
      | nil=>obtain rfl:=Option.some.inj h;rfl
      | cons=>simp[qcg] at h
  | (false,n)::gs,cs,us,fr,hc,h=>by
      cases cs with
      | nil=>rcases n with _ | _ | n<;>simp[qcg] at h
      | cons c cs =>
        rcases n with _ | _ | n
        · simp[qcg] at h
        · have h':(qcg gs cs).map (V.c c::·)=some fr:=h
          obtain⟨fr',h1,rfl⟩:=Option.map_eq_some_iff.1 h'
          obtain⟨u,us',rfl,h2,h3⟩:=hc
          exact⟨u,_,rfl,h2,qej h3 h1⟩
        · simp[qcg] at h
  | (true,n)::gs,cs,us,fr,hc,h=>by
      have h':(if n≤cs.length then(qcg gs (cs.drop n)).map (V.agg (cs.take n)::·) else none)=some fr:=by
        rw[← h];cases cs<;>rfl
      split at h'
      · obtain⟨fr',h1,rfl⟩:=Option.map_eq_some_iff.1 h'
        exact⟨_,_,rfl,⟨us.take n,rfl,hc.take n⟩,qej (hc.drop n) h1⟩
      · cases h'
theorem qfc.frGet{vs:List V}{us:List Value}(h:qfc S w g vs us){n:Nat}:∀(i:Nat) v,(vs++List.replicate n .undef)[i]? = some v→VR S w g v ((us.toArray++Array.replicate n Go.undef).getD i Go.undef):=by
 intro i v hv
 have hl:=h.get.1
 have e:(us.toArray++Array.replicate n Go.undef).getD i Go.undef=(us++List.replicate n Go.undef)[i]?.getD Go.undef:=by
  rw[← List.toArray_replicate,List.append_toArray]
  simp[Array.getD_eq_getD_getElem?]
 rw[e]
 rcases Nat.lt_or_ge i vs.length with hlt | hge
 ·rw[List.getElem?_append_left hlt] at hv
  obtain⟨u,hu,hr⟩:=h.get.2 i v hv
  rw[List.getElem?_append_left (by omega),hu]
  exact hr
 ·rw[List.getElem?_append_right hge,List.getElem?_replicate] at hv
  split at hv
  ·obtain rfl:=Option.some.inj hv
   rw[List.getElem?_append_right (by omega),List.getElem?_replicate]
   split<;>rfl
  ·cases hv
theorem qqn(u:Ty)(dp:Bool):(u.flat || (PM.io dp==.io true) || (PM.io dp==.take true))=(u.flat || dp):=by
 cases dp<;>cases u.flat<;>rfl
theorem qpe(u:Ty)(dp:Bool):(u.flat || (PM.take dp==.io true) || (PM.take dp==.take true))=(u.flat || dp):=by
 cases dp<;>cases u.flat<;>rfl
theorem qoA{D:Bool}{sg:Sig}{args:List Dv}{us:List Value}{FP:Nat→qab}{base:Nat}{ob ob':List (Option Obj)}{cs:List V0}{fr:List V}{n m:Nat}(hm:m=n)(hsz:∀ b,S b→b<w.heap.size)(hFP:∀ i b,FP i b→b<w.heap.size∧¬ S b)(hFd:∀ i j b,i≠j→FP i b→¬ FP j b)
  (hl:us.length=args.length) (hp:∀(i:Nat) d u,args[i]? = some d→us[i]? = some u→qr2 S w (qaz sg.pm i) d u (FP i)) (hob:∀ s,qad ob s=none)
  (hc:qdj sg.pm base 0 args ob=some (cs,ob')) (hv:qcg sg.ps cs=some fr) :
  Sim { O:=fun b=>w.heap.size≤b∨∃ i,FP i b,S0:=S,w0:=w,g0:=fun s=>us.getD (s-base) Go.undef,dr:=D,base:=fun _ h=>.inl h } S (fun s=>us.getD (s-base) Go.undef) (fun s b=>base≤s∧FP (s-base) b)
   { fr:=fr++List.replicate n .undef,ob:=ob' } ((qaR sg.ps us).toArray++Array.replicate m Go.undef) w:=by
 subst hm
 obtain⟨h1,h2,h3⟩:=qeg hc
 have hpar:∀ s o,qad ob' s=some o→∃(k:Nat) (d:Dv) (u:Value),args[k]? = some d∧us[k]? = some u∧s=base+k∧qh7 (qaz sg.pm k) (base+sg.pm.length+k) d=some o:=by
  intro s o ho
  rcases h3 s o ho with h4 | ⟨k,d,h4,h5,h6⟩
  ·rw[hob] at h4;cases h4
  ·have hlt:=(List.getElem?_eq_some_iff.1 h4).1
   rw[Nat.zero_add] at h5 h6
   exact⟨k,d,us[k],h4,List.getElem?_eq_getElem (by omega),h5,h6⟩
 have hgk:∀ k u,us[k]? = some u→us.getD (base+k-base) Go.undef=u:=fun k u hu=>by
  rw[Nat.add_sub_cancel_left,List.getD_eq_getElem?_getD,hu];rfl
 have hcs:Cs S w (fun s=>us.getD (s-base) Go.undef) cs us:=by
  have key:∀(cs:List V0) (us':List Value),cs.length=us'.length→(∀(k:Nat) c u,cs[k]? = some c→us'[k]? = some u→V0R S w (fun s=>us.getD (s-base) Go.undef) c u)→Cs S w (fun s=>us.getD (s-base) Go.undef) cs us':=by
   intro cs
   induction cs with
   | nil=>intro us' hl _;exact List.eq_nil_of_length_eq_zero hl.symm
   | cons c cs ih =>
    intro us' hl hk
    cases us' with
    | nil=>simp at hl
    | cons u us'=>exact⟨u,us',rfl,hk 0 c u rfl rfl,ih us' (by simpa using hl) fun k c' u' hc' hu'=>hk (k+1) c' u' (by simpa using hc') (by simpa using hu')⟩
  refine key cs us (by omega) fun k c u hck huk=>?_
  have hlt:=(List.getElem?_eq_some_iff.1 huk).1
  have hdk:=List.getElem?_eq_getElem (show k<args.length by omega)
  have hcc:=h2 k _ c hdk hck
  have hpk:=hp k _ u hdk huk
  rw[Nat.zero_add] at hcc
  generalize args[k]=d at hcc hpk
  obtain⟨t,x⟩:=d
  cases hmo:qaz sg.pm k with
  | imm =>
   rw[hmo] at hcc hpk
   rw[hcc]
   exact qcB hpk
  | iob =>
   rw[hmo] at hcc hpk
   rw[hcc]
   cases t with
   | ptr c =>
    obtain⟨b,arr,e,h5,_⟩:=hpk
    exact⟨b,(hgk k u huk).trans h5,h5⟩
   | _=>exact hpk.elim
  | iobo k0 =>
   rw[hmo] at hcc hpk
   rw[hcc]
   cases t with
   | ptr c =>
    obtain⟨b,arr,e,G,h5,_⟩:=hpk
    exact⟨b,(hgk k u huk).trans h5,h5⟩
   | _=>exact hpk.elim
  | io dp =>
   rw[hmo] at hcc hpk
   rw[hcc]
   cases t with
   | sl t =>
    obtain⟨A,c,h5,_⟩:=hpk
    exact⟨(hgk k u huk).symm,A,_,c,h5⟩
   | _=>exact hpk.elim
  | take dp =>
   rw[hmo] at hcc hpk
   rw[hcc]
   cases t with
   | sl t =>
    obtain⟨A,c,h5,_⟩:=hpk
    exact⟨(hgk k u huk).symm,A,_,c,h5⟩
   | _=>exact hpk.elim
 have hA:=qej hcs hv
 have hfrl:=hA.get.1
 have hFs:∀ s o,qad ob' s=some o→∀ b,(base≤s∧FP (s-base) b)→b<w.heap.size∧¬ S b∧∃ i,FP i b:=fun s o _ b hb=>⟨(hFP _ b hb.2).1,(hFP _ b hb.2).2,_,hb.2⟩
 have hfz:∀ s o,qad ob' s=some o→o.frozen=false:=by
  intro s o ho
  obtain⟨k,d,u,_,_,_,h6⟩:=hpar s o ho
  obtain⟨t,x⟩:=d
  cases hmo:qaz sg.pm k<;>rw[hmo] at h6<;>cases t<;>simp[qh7] at h6<;>(subst h6;rfl)
 refine { size:=by simp[hfrl],fr:=fun i v hv=>hA.frGet i v hv,ob:=?_,prv:=fun s o ho _ b hb=>⟨(hFs s o ho b hb).2.1,.inr (hFs s o ho b hb).2.2⟩,frz:=fun s o ho hf=>(by rw[hfz s o ho] at hf;cases hf),dis:=?_,szF:=fun s o ho b hb=>(hFs s o ho b hb).1,szS:=hsz,S0:=fun _ h=>h,SO:=fun _ h=>.inl h,keep:=fun _ _ _=>rfl,mono:=Nat.le_refl _,kin:=(Kin.refl _).d,fx:=fun _ _ _ _=>rfl }
 ·intro s o ho
  obtain⟨k,d,u,h4,h5,rfl,h6⟩:=hpar s o ho
  have hpk:=hp k d u h4 h5
  have hF:∀ b,FP k b→(base≤base+k∧FP (base+k-base) b):=fun b hb=>⟨by omega,by rw[Nat.add_sub_cancel_left];exact hb⟩
  obtain⟨t,x⟩:=d
  cases hmo:qaz sg.pm k with
  | imm=>rw[hmo] at h6;cases h6
  | iob =>
   rw[hmo] at h6 hpk
   cases t with
   | ptr c =>
    obtain rfl:Obj.box (qaJ c x) false true=o:=by simpa [qh7] using h6
    obtain⟨b,arr,e,h7,h8,h9,h10⟩:=hpk
    exact⟨b,arr,e,(hgk k u h5).trans h7,hF b h8,h9,qbP h10⟩
   | _=>exact hpk.elim
  | iobo k0 =>
   rw[hmo] at h6 hpk
   cases t with
   | ptr c =>
    obtain rfl:Obj.bxo c x k0 _ false true=o:=Option.some.inj h6
    have hpk':qnV S w c x k0 u (FP k):=hpk
    show qnV S w c x k0 (us.getD (base+k-base) Go.undef) _
    rw[hgk k u h5]
    exact hpk'.mono (fun _ h=>h) (fun _ _=>rfl) hF fun _ _=>rfl
   | _=>exact hpk.elim
  | io dp =>
   rw[hmo] at h6 hpk
   cases t with
   | sl t =>
    obtain rfl:=Option.some.inj h6
    have hpk':qar S w (t.flat || dp) t x u (FP k):=hpk
    unfold ObR
    simp only
    rw[qqn]
    show qar S w (t.flat || dp) t x (us.getD (base+k-base) Go.undef) _
    rw[hgk k u h5]
    exact hpk'.mono (fun _ h=>h) (fun _ _=>rfl) hF fun _ _=>rfl
   | _=>exact hpk.elim
  | take dp =>
   rw[hmo] at h6 hpk
   cases t with
   | sl t =>
    obtain rfl:=Option.some.inj h6
    have hpk':qar S w (t.flat || dp) t x u (FP k):=hpk
    unfold ObR
    simp only
    rw[qpe]
    show qar S w (t.flat || dp) t x (us.getD (base+k-base) Go.undef) _
    rw[hgk k u h5]
    exact hpk'.mono (fun _ h=>h) (fun _ _=>rfl) hF fun _ _=>rfl
   | _=>exact hpk.elim
 ·intro s s' o o' hne ho ho' _ _ b hb hb'
  obtain⟨k,_,_,_,_,rfl,_⟩:=hpar s o ho
  obtain⟨k',_,_,_,_,rfl,_⟩:=hpar s' o' ho'
  refine hFd _ _ b ?_ hb.2 hb'.2
  omega
end
end Ve
namespace Ve
open Go
section
variable {S S':qab} {w w':World} {g g':Nat→Value} {C:Ctx} {F F':Nat→qab} {st:St} {tm:Array Value} {P:Program} {ρ:Type}
def qlC(tmps:Array Value)(r:ResultVar):Sem Value:=match r with
 | .tmp t=>pure (tmps.getD t Go.undef)
 | .cell a t=>do loadVar t (← asAddr (tmps.getD a Go.undef))
theorem qcl(hs:Sim C S g F st tm w):∀ {rs:List ResultVar} {gs:List (Bool×Nat)} {cs:List V0},qb8 P st rs gs=some cs →
    ∃ us,Cs S w g cs us∧us.length=(gs.map (·.2)).sum∧(rs.mapM (qlC tm)).run P w=.ok (qaR gs us) w∧gs.all (fun p=>p.1 || p.2==1)=true
  | [],[],cs,h=>by obtain rfl:=Option.some.inj h;exact⟨[],rfl,rfl,rfl,rfl⟩
  | [],_::_,cs,h=>by simp[qb8] at h
  | .tmp t::rs,[],cs,h=>by simp[qb8] at h
  | .cell t ty::rs,[],cs,h=>by simp[qb8] at h
  | .tmp t::rs,(a,n)::gs,cs,h=>by
      unfold qb8 at h
      split at h
      · rename_i cs0 hv
        split at h
        · rename_i hc
          obtain⟨rfl,rfl⟩:=hc
          obtain⟨cs1,h1,rfl⟩:=Option.map_eq_some_iff.1 h
          obtain⟨us1,h2,h3,h4,h5⟩:=qcl hs h1
          obtain⟨us0,hu,hc0⟩:=hs.fr t _ hv
          have hl:=hc0.len
          refine⟨us0++us1,hc0.append h2,by simp[hl,h3],?_,by simpa using h5⟩
          simp only[List.mapM_cons,qlC,Sem.run_bind,Sem.run_pure,Result.andThen_ok,h4,hu,qaR]
          rw[← hl]
          simp
        · cases h
      · rename_i v hv
        split at h
        · rename_i hc
          obtain⟨rfl,rfl⟩:=hc
          obtain⟨cs1,h1,rfl⟩:=Option.map_eq_some_iff.1 h
          obtain⟨us1,h2,h3,h4,h5⟩:=qcl hs h1
          refine⟨_::us1,⟨_,us1,rfl,hs.fr t _ hv,h2⟩,by simp[h3];omega,?_,by simpa using h5⟩
          simp only[List.mapM_cons,qlC,Sem.run_bind,Sem.run_pure,Result.andThen_ok,h4,qaR]
          simp
        · cases h
      · cases h
  | .cell t ty::rs,(a,n)::gs,cs,h=>by
      unfold qb8 at h
      split at h
      · rename_i s off hv
        split at h
        · rename_i cells fz fx ho
          split at h
          · rename_i hc
            obtain⟨hn,ha,hu,hfit,han⟩:=hc
            obtain⟨cs1,h1,rfl⟩:=Option.map_eq_some_iff.1 h
            obtain⟨us1,h2,h3,h4,h5⟩:=qcl hs h1
            obtain⟨b,arr,e,hg,hF,hh,hcs⟩:=hs.ob s _ ho
            obtain⟨b',hg',hval⟩:=hs.fr t _ hv
            obtain rfl:b=b':=by rw[hg] at hg';simpa using hg'
            obtain⟨d,hd⟩:=Option.isSome_iff_exists.1 hu
            have hc0:Cs S w g ((cells.drop off).take n) ((arr.toList.drop off).take n):=(hcs.drop off).take n
            have hl:=hc0.len
            have hl2:((cells.drop off).take n).length=n:=by simp;omega
            have hA:At w b 0 arr.toList:=qc0 hh fun j u hu=>by simpa using hu
            have hA2:=(hA.drop off).take n
            rw[Nat.zero_add] at hA2
            have hload:=qbk (P:=P) hd (by rw[hl,hl2,hn]) hA2 (fun hag=>by
              rw[ha] at hag
              rw[hag] at han
              have hn1:n=1:=by simpa using han
              subst hn1
              exact List.length_eq_one_iff.1 (by omega))
            refine⟨(arr.toList.drop off).take n++us1,hc0.append h2,by simp only[List.length_append,hl,hl2,h3,List.map_cons,List.sum_cons],?_,by simp[han,h5]⟩
            have e1:((arr.toList.drop off).take n++us1).take n=(arr.toList.drop off).take n:=by
              rw[List.take_append_of_le_length (by omega),List.take_of_length_le (by omega)]
            have e2:((arr.toList.drop off).take n++us1).drop n=us1:=by
              rw[List.drop_append_of_le_length (by omega),List.drop_of_length_le (by omega),List.nil_append]
            have e3:asAddr (.pointer (some (⟨b,off,none⟩:Addr)))=pure ⟨b,off,none⟩:=rfl
            simp only[List.mapM_cons,qlC,Sem.run_bind,hval,e3,Sem.run_pure,Result.andThen_ok,hload,h4,qaR,e1,e2]
            unfold qlO
            rw[ha]
            cases a with
            | true=>rfl
            | false =>
              have hn1:n=1:=by simpa using han
              have:((arr.toList.drop off).take n).length=1:=by omega
              obtain⟨u,hu1⟩:=List.length_eq_one_iff.1 this
              rw[hu1];rfl
          · cases h
        · cases h
      · cases h
theorem ql8(hs:Sim C S g F st tm w){fn:Func}{gs:List (Bool×Nat)}{cs:List V0}(h:qb8 P st fn.results.toList gs=some cs) :
    ∃ us,Cs S w g cs us∧us.length=(gs.map (·.2)).sum∧(results fn tm).run P w=.ok (qmE gs us) w:=by
  obtain⟨us,h1,h2,h3,h4⟩:=qcl hs h
  refine⟨us,h1,h2,?_⟩
  have e:results fn tm=(do
      let vs ← fn.results.mapM (qlC tm)
      pure (if h:vs.size=1 then vs[0] else .tuple vs)):=by
    unfold results
    congr 1
  rw[e,Array.mapM_eq_mapM_toList]
  simp only[Sem.run_bind,Sem.run_map,h3,Result.andThen_ok,Sem.run_pure]
  congr 1
  have hlen:∀(gs:List (Bool×Nat)) (us:List Value),(qaR gs us).length=gs.length:=by
    intro gs
    induction gs with
    | nil=>intro us;rfl
    | cons p gs ih=>intro us;obtain⟨a,n⟩:=p;simp[qaR,ih]
  rcases gs with _ | ⟨⟨a,n⟩,_ | ⟨q,gs⟩⟩
  · rfl
  · simp only[qaR,qmE]
    simp only[List.map_cons,List.map_nil,List.sum_cons,List.sum_nil,Nat.add_zero] at h2
    simp[List.take_of_length_le (show us.length≤n by omega)]
  · have:(qaR ((a,n)::q::gs) us).toArray.size≠1:=by rw[List.size_toArray,hlen];simp
    rw[dif_neg this]
    rfl
theorem qgx{ob:List (Option Obj)}:∀ {ms:List RM} {cs:List V0} {ds:List Dv},qft ob ms cs=some ds →
    ds.length=cs.length∧∀(k:Nat) c d,cs[k]? = some c→ds[k]? = some d→qdV ob (ms.getD k .imm) c=some d
  | ms,[],ds,h=>by
      have:ds=[]:=by unfold qft at h;exact(Option.some.inj h).symm
      subst this;exact⟨rfl,by simp⟩
  | ms,v::vs,ds,h=>by
      unfold qft at h
      obtain⟨d,hd,h⟩:=Option.bind_eq_some_iff.1 h
      obtain⟨ds',hds,rfl⟩:=Option.map_eq_some_iff.1 h
      obtain⟨h1,h2⟩:=qgx hds
      refine⟨by simp[h1],fun k c d' hc hd'=>?_⟩
      cases k with
      | zero =>
        simp at hc hd';subst hc;subst hd'
        have e:ms.getD 0 .imm=ms.headD .imm:=by cases ms<;>rfl
        rw[e];exact hd
      | succ k =>
        have:=h2 k c d' (by simpa using hc) (by simpa using hd')
        have e:ms.tail.getD k .imm=ms.getD (k+1) .imm:=by cases ms<;>simp
        rwa [e] at this
theorem qc6:∀ {ms:List RM} {cs:List V0} {s:Nat},s∈qb3 ms cs↔∃(k:Nat) (c:V0),cs[k]? = some c∧s∈qkd (ms.getD k .imm) c
  | ms,[],s=>by simp[qb3]
  | ms,v::vs,s=>by
      unfold qb3
      have e0:ms.getD 0 .imm=ms.headD .imm:=by cases ms<;>rfl
      have e:∀ k,ms.tail.getD k .imm=ms.getD (k+1) .imm:=fun k=>by cases ms<;>simp
      rw[List.mem_append,qc6]
      constructor
      · rintro(h | ⟨k,c,hc,h⟩)
        · exact⟨0,v,rfl,by rw[e0];exact h⟩
        · exact⟨k+1,c,by simpa using hc,by rw[← e];exact h⟩
      · rintro⟨k,c,hc,h⟩
        cases k with
        | zero=>simp at hc;subst hc;rw[e0] at h;exact .inl h
        | succ k=>exact .inr ⟨k,c,by simpa using hc,by rw[e];exact h⟩
theorem qgo:∀ {ms:List RM} {cs:List V0},(qb3 ms cs).Nodup→∀(i j:Nat) c d s,cs[i]? = some c→cs[j]? = some d→s∈qkd (ms.getD i .imm) c→s∈qkd (ms.getD j .imm) d→i=j
  | ms,[],_,i,j,c,d,s,hc,_,_,_=>by simp at hc
  | ms,v::vs,h,i,j,c,d,s,hc,hd,h1,h2=>by
      unfold qb3 at h
      rw[List.nodup_append] at h
      have e0:ms.getD 0 .imm=ms.headD .imm:=by cases ms<;>rfl
      have e:∀ k,ms.tail.getD k .imm=ms.getD (k+1) .imm:=fun k=>by cases ms<;>simp
      cases i with
      | zero =>
        cases j with
        | zero=>rfl
        | succ j =>
          simp at hc hd
          subst hc
          rw[e0] at h1
          exact absurd rfl (h.2.2 s h1 s (qc6.2 ⟨j,d,hd,by rw[e];exact h2⟩))
      | succ i =>
        cases j with
        | zero =>
          simp at hc hd
          subst hd
          rw[e0] at h2
          exact absurd rfl (h.2.2 s h2 s (qc6.2 ⟨i,c,hc,by rw[e];exact h1⟩))
        | succ j =>
          simp at hc hd
          rw[qgo h.2.1 i j c d s hc hd (by rw[e];exact h1) (by rw[e];exact h2)]
theorem qgC{ob:List (Option Obj)}:∀ {ms:List RM} {cs:List V0} {k:Nat} {c:V0} {s:Nat},cs[k]? = some c→ms.getD k .imm=.imm→s∈qdJ ob c→s∈qa0 ob ms cs
  | ms,[],k,c,s,hc,_,_=>by simp at hc
  | ms,v::vs,0,c,s,hc,hm,hs=>by
      have e0:ms.getD 0 .imm=ms.headD .imm:=by cases ms<;>rfl
      simp at hc;subst hc
      unfold qa0
      rw[← e0,hm]
      exact List.mem_append.2 (.inl hs)
  | ms,v::vs,k+1,c,s,hc,hm,hs=>by
      have e:ms.tail.getD k .imm=ms.getD (k+1) .imm:=by cases ms<;>simp
      unfold qa0
      exact List.mem_append.2 (.inr (qgC (k:=k) (by simpa using hc) (by rw[e];exact hm) hs))
theorem qfs{ob:List (Option Obj)}:∀ {ms:List RM} {cs:List V0} {k:Nat} {c:V0} {s:Nat},cs[k]? = some c→ms.getD k .imm=.bx→s∈(qdJ ob c).tail→s∈qa0 ob ms cs
  | ms,[],k,c,s,hc,_,_=>by simp at hc
  | ms,v::vs,0,c,s,hc,hm,hs=>by
      have e0:ms.getD 0 .imm=ms.headD .imm:=by cases ms<;>rfl
      simp at hc;subst hc
      unfold qa0
      rw[← e0,hm]
      exact List.mem_append.2 (.inl hs)
  | ms,v::vs,k+1,c,s,hc,hm,hs=>by
      have e:ms.tail.getD k .imm=ms.getD (k+1) .imm:=by cases ms<;>simp
      unfold qa0
      exact List.mem_append.2 (.inr (qfs (k:=k) (by simpa using hc) (by rw[e];exact hm) hs))
theorem qh8{ob:List (Option Obj)}{base:Nat}:∀ {pm:List PM} {i k s:Nat},pm[k]? = some .iob→s∈(qdJ ob (.box (base+(i+k)) 0)).tail→s∈qbU ob base pm i
  | [],i,k,s,h,_=>by simp at h
  | m::pm,i,0,s,h,hs=>by
      simp at h;subst h
      unfold qbU
      exact List.mem_append.2 (.inl hs)
  | m::pm,i,k+1,s,h,hs=>by
      unfold qbU
      exact List.mem_append.2 (.inr (qh8 (k:=k) (by simpa using h) (by rwa [show i+1+k=i+(k+1) by omega])))
theorem qju{base:Nat}:∀ {pm:List PM} {i k:Nat} {m:PM},pm[k]? = some m→m.isIo=true→base+(i+k)∈qib base pm i
  | [],i,k,m,h,_=>by simp at h
  | m::pm,i,0,m',h,hm=>by
      simp at h;subst h
      unfold qib
      rw[hm,cond_true]
      exact List.mem_append.2 (.inl (by simp))
  | m::pm,i,k+1,m',h,hm=>by
      unfold qib
      have:=qju (base:=base) (i:=i+1) (k:=k) (by simpa using h) hm
      rw[show i+1+k=i+(k+1) by omega] at this
      exact List.mem_append.2 (.inr this)
theorem qpd{ob:List (Option Obj)}{base:Nat}{GP:Nat→qab}{us:List Value}:∀ {pm:List PM} {i:Nat} {q:List Dv},qe3 ob base pm i=some q →
    (∀(k:Nat) m d,pm[k]? = some m→m.isIo=true→qeh ob base m (i+k)=some d→∃ u,us[i+k]? = some u∧IoR S w m d u (GP (i+k)))→qgK S w GP us pm i q
  | [],i,q,h,_=>trivial
  | m::pm,i,q,h,hk=>by
      unfold qe3 at h
      unfold qgK
      cases hm:m.isIo with
      | false =>
        rw[hm,cond_false] at h
        simp only[Bool.false_eq_true,if_false]
        refine qpd h fun k m' d h1 h2 h3=>?_
        have:=hk (k+1) m' d (by simpa using h1) h2 (by rwa [show i+(k+1)=i+1+k by omega])
        rwa [show i+(k+1)=i+1+k by omega] at this
      | true =>
        rw[hm,cond_true] at h
        obtain⟨d,hd,h⟩:=Option.bind_eq_some_iff.1 h
        obtain⟨ds,hds,rfl⟩:=Option.map_eq_some_iff.1 h
        simp only[if_true]
        obtain⟨u,hu,hI⟩:=hk 0 m d rfl hm hd
        refine⟨d,ds,u,rfl,hu,hI,qpd hds fun k m' d h1 h2 h3=>?_⟩
        have:=hk (k+1) m' d (by simpa using h1) h2 (by rwa [show i+(k+1)=i+1+k by omega])
        rwa [show i+(k+1)=i+1+k by omega] at this
theorem qfj{D:Bool}{E:Env}{sg:Sig}{fn:Func}{dv:Dv}{us:List Value}{FP:Nat→qab}{S0:qab}{w0:World}{hb:∀ b,w0.heap.size≤b→(w0.heap.size≤b∨∃ i,FP i b)}(hs:Sim { O:=fun b=>w0.heap.size≤b∨∃ i,FP i b,S0:=S0,w0:=w0,g0:=fun s=>us.getD (s-fn.ntmps) Go.undef,dr:=D,base:=hb } S g F st tm w)
    (hDs:sg.dr=true→D=true) (h:qmL E sg fn st=some dv):∃ rus S2 GR GP,(results fn tm).run E.P w=.ok (qmE sg.rs rus) w∧After w0 S0 FP sg us dv w S2 rus GR GP:=by
  unfold qmL at h
  obtain⟨cs,hcs0,h⟩:=Option.bind_eq_some_iff.1 h
  obtain⟨ds,hds,h⟩:=Option.bind_eq_some_iff.1 h
  obtain⟨q,hq,h⟩:=Option.bind_eq_some_iff.1 h
  cases hchk:qjm (qb3 sg.own cs)&&(qa0 st.ob sg.own cs++qbU st.ob fn.ntmps sg.pm 0).all (fun s=>!(qb3 sg.own cs++qib fn.ntmps sg.pm 0).contains s) with
  | false=>rw[hchk] at h;cases h
  | true =>
    rw[hchk,cond_true] at h
    obtain rfl:=Option.some.inj h
    simp only[Bool.and_eq_true] at hchk
    have hnd:=qeW hchk.1
    have hLT:∀ s∈qa0 st.ob sg.own cs++qbU st.ob fn.ntmps sg.pm 0,s∉qb3 sg.own cs∧s∉qib fn.ntmps sg.pm 0:=fun s hs'=>by
      have:=List.all_eq_true.1 hchk.2 s hs'
      simpa using this
    obtain⟨rus,hcs,hrl,hrun⟩:=ql8 hs hcs0
    obtain⟨hdl,hdg⟩:=qgx hds
    have hrcl:=hcs.len
    let T:Nat ⊕ Nat→Nat→Prop:=fun x s=>match x with
      | .inl k=>∃ c,cs[k]? = some c∧s∈qkd (sg.own.getD k .imm) c
      | .inr i=>s=fn.ntmps+i∧∃ m,sg.pm[i]? = some m∧m.isIo=true
    have hob:∀ x s,T x s→∃ o,qad st.ob s=some o∧o.frozen=false∧(match x with | .inl _=>o.fixed=false | .inr _=>o.fixed=true):=by
      intro x s hT
      cases x with
      | inl k =>
        obtain⟨c,hc,hs1⟩:=hT
        have hlt:=(List.getElem?_eq_some_iff.1 hc).1
        have hd:=hdg k c ds[k] hc (List.getElem?_eq_getElem (by omega))
        cases hm:sg.own.getD k .imm with
        | imm=>rw[hm] at hs1;simp[qkd] at hs1
        | bx =>
          rw[hm] at hs1 hd
          cases c with
          | box s' off =>
            simp[qkd] at hs1;subst hs1
            cases off with
            | succ=>cases hd
            | zero =>
              simp only[qdV] at hd
              split at hd
              · rename_i ho;exact⟨_,ho,rfl,rfl⟩
              · cases hd
          | _=>simp[qkd] at hs1
        | own =>
          rw[hm] at hs1 hd
          cases c with
          | arr s' =>
            simp[qkd] at hs1;subst hs1
            simp only[qdV] at hd
            split at hd
            · rename_i ho;exact⟨_,ho,rfl,rfl⟩
            · cases hd
          | sub s' lo hi sz =>
            simp[qkd] at hs1;subst hs1
            cases lo with
            | succ=>cases hd
            | zero =>
              simp only[qdV] at hd
              split at hd
              · rename_i ho;exact⟨_,ho,rfl,rfl⟩
              · cases hd
          | _=>simp[qkd] at hs1
        | deep =>
          rw[hm] at hs1 hd
          cases c with
          | arr s' =>
            simp[qkd] at hs1;subst hs1
            simp only[qdV] at hd
            split at hd
            · rename_i ho;exact⟨_,ho,rfl,rfl⟩
            · cases hd
          | sub s' lo hi sz =>
            simp[qkd] at hs1;subst hs1
            cases lo with
            | succ=>cases hd
            | zero =>
              simp only[qdV] at hd
              split at hd
              · rename_i ho;exact⟨_,ho,rfl,rfl⟩
              · cases hd
          | _=>simp[qkd] at hs1
      | inr i =>
        obtain⟨rfl,m,hm,hio⟩:=hT
        have key:∀(pm:List PM) (i0:Nat) (q:List Dv) (k:Nat),qe3 st.ob fn.ntmps pm i0=some q→pm[k]? = some m→∃ d,qeh st.ob fn.ntmps m (i0+k)=some d:=by
          intro pm
          induction pm with
          | nil=>intro i0 q k _ h;simp at h
          | cons m' pm ih =>
            intro i0 q k hq hk
            unfold qe3 at hq
            cases k with
            | zero =>
              simp at hk;subst hk
              rw[hio,cond_true] at hq
              obtain⟨d,hd,_⟩:=Option.bind_eq_some_iff.1 hq
              exact⟨d,hd⟩
            | succ k =>
              cases hm':m'.isIo with
              | false =>
                rw[hm',cond_false] at hq
                have:=ih (i0+1) q k hq (by simpa using hk)
                rwa [show i0+1+k=i0+(k+1) by omega] at this
              | true =>
                rw[hm',cond_true] at hq
                obtain⟨d,hd,hq⟩:=Option.bind_eq_some_iff.1 hq
                obtain⟨ds',hds',_⟩:=Option.map_eq_some_iff.1 hq
                have:=ih (i0+1) ds' k hds' (by simpa using hk)
                rwa [show i0+1+k=i0+(k+1) by omega] at this
        obtain⟨d,hd⟩:=key sg.pm 0 q i hq hm
        rw[Nat.zero_add] at hd
        unfold qeh at hd
        cases m with
        | imm=>cases hio
        | take dp=>cases hio
        | io dp =>
          simp only at hd
          split at hd
          · rename_i ho;exact⟨_,ho,rfl,rfl⟩
          · cases hd
        | iob =>
          simp only at hd
          split at hd
          · rename_i ho;exact⟨_,ho,rfl,rfl⟩
          · cases hd
        | iobo k =>
          simp only at hd
          split at hd
          · rename_i ho;exact⟨_,ho,rfl,rfl⟩
          · cases hd
    have hTinj:∀ x y s,T x s→T y s→x=y:=by
      intro x y s hx hy
      cases x with
      | inl k =>
        cases y with
        | inl k' =>
          obtain⟨c,hc,h1⟩:=hx
          obtain⟨c',hc',h2⟩:=hy
          rw[qgo hnd k k' c c' s hc hc' h1 h2]
        | inr i =>
          obtain⟨o,h1,_,h2⟩:=hob (.inl k) s hx
          obtain⟨o',h3,_,h4⟩:=hob (.inr i) s hy
          rw[h1] at h3
          obtain rfl:=Option.some.inj h3
          simp only at h2 h4
          rw[h2] at h4;cases h4
      | inr i =>
        cases y with
        | inl k =>
          obtain⟨o,h1,_,h2⟩:=hob (.inr i) s hx
          obtain⟨o',h3,_,h4⟩:=hob (.inl k) s hy
          rw[h1] at h3
          obtain rfl:=Option.some.inj h3
          simp only at h2 h4
          rw[h2] at h4;cases h4
        | inr i' =>
          obtain⟨h1,_⟩:=hx
          obtain⟨h2,_⟩:=hy
          have:i=i':=by omega
          rw[this]
    have hTL:∀ x s,T x s→s∉qa0 st.ob sg.own cs++qbU st.ob fn.ntmps sg.pm 0:=by
      intro x s hx hL
      obtain⟨h1,h2⟩:=hLT s hL
      cases x with
      | inl k=>obtain⟨c,hc,h3⟩:=hx;exact h1 (qc6.2 ⟨k,c,hc,h3⟩)
      | inr i =>
        obtain⟨rfl,m,hm,hio⟩:=hx
        have:=qju (base:=fn.ntmps) (i:=0) hm hio
        rw[Nat.zero_add] at this
        exact h2 this
    let Good:Nat ⊕ Nat→qab→qab→Prop:=fun x S2 G=>match x with
      | .inl k=>∀ d u,ds[k]? = some d→rus[k]? = some u→qnn S2 w (sg.own.getD k .imm) d u G
      | .inr i=>∀ m d,sg.pm[i]? = some m→m.isIo=true→qeh st.ob fn.ntmps m i=some d→∃ u,us[i]? = some u∧IoR S2 w m d u G
    have hpar:∀ x:Nat ⊕ Nat,∃ G:qab,(∀ b,G b→∃ s,T x s∧F s b)∧∀ S2:qab,(∀ b,S b→S2 b)→(∀ s∈qa0 st.ob sg.own cs++qbU st.ob fn.ntmps sg.pm 0,∀ o,qad st.ob s=some o→∀ b,F s b→S2 b) →
        (∀ s b,T x s→F s b→¬ G b→S2 b)→Good x S2 G:=by
      intro x
      cases x with
      | inl k =>
        cases hc:cs[k]? with
        | none =>
          refine⟨fun _=>False,fun _ h=>h.elim,fun S2 _ _ _ d u hd hu=>?_⟩
          have:=List.getElem?_eq_none_iff.1 hc
          rw[List.getElem?_eq_none (by omega)] at hu;cases hu
        | some c =>
          have hlt:=(List.getElem?_eq_some_iff.1 hc).1
          obtain⟨u0,hu0,hv⟩:=hcs.get hc
          have hd0:=hdg k c ds[k] hc (List.getElem?_eq_getElem (by omega))
          have fin:∀ G:qab,(∀ b,G b→∃ s,s∈qkd (sg.own.getD k .imm) c∧F s b)→(∀ S2:qab,(∀ b,S b→S2 b)→(∀ s∈qa0 st.ob sg.own cs++qbU st.ob fn.ntmps sg.pm 0,∀ o,qad st.ob s=some o→∀ b,F s b→S2 b) →
              (∀ s b,s∈qkd (sg.own.getD k .imm) c→F s b→¬ G b→S2 b)→qnn S2 w (sg.own.getD k .imm) ds[k] u0 G) →
              ∃ G:qab,(∀ b,G b→∃ s,T (.inl k) s∧F s b)∧∀ S2:qab,(∀ b,S b→S2 b)→(∀ s∈qa0 st.ob sg.own cs++qbU st.ob fn.ntmps sg.pm 0,∀ o,qad st.ob s=some o→∀ b,F s b→S2 b) →
                (∀ s b,T (.inl k) s→F s b→¬ G b→S2 b)→Good (.inl k) S2 G:=by
            intro G h1 h2
            refine⟨G,fun b hb=>?_,fun S2 hS2 hl2 hF2 d u hd hu=>?_⟩
            · obtain⟨s,h3,h4⟩:=h1 b hb;exact⟨s,⟨c,hc,h3⟩,h4⟩
            · rw[List.getElem?_eq_getElem (by omega)] at hd
              obtain rfl:=Option.some.inj hd
              rw[hu0] at hu
              obtain rfl:=Option.some.inj hu
              exact h2 S2 hS2 hl2 fun s b h3 h4 h5=>hF2 s b ⟨c,hc,h3⟩ h4 h5
          generalize ds[k]=d0 at hd0 fin
          have mainArr:∀(m:RM) (s:Nat),sg.own.getD k .imm=m→(m=.own∨m=.deep)→c=.arr s→(match qad st.ob s with | some (.arr t xs d false false)=>if m=.deep∧d=false then none else some (⟨.sl t,xs⟩:Dv) | _=>none)=some d0 →
              ∃ G:qab,(∀ b,G b→∃ s,T (.inl k) s∧F s b)∧∀ S2:qab,(∀ b,S b→S2 b)→(∀ s∈qa0 st.ob sg.own cs++qbU st.ob fn.ntmps sg.pm 0,∀ o,qad st.ob s=some o→∀ b,F s b→S2 b) →
                (∀ s b,T (.inl k) s→F s b→¬ G b→S2 b)→Good (.inl k) S2 G:=by
            intro m s hm hne hcs' hq0
            subst hcs'
            split at hq0
            · rename_i t xs d ho
              split at hq0
              · cases hq0
              · rename_i hdd
                obtain rfl:=Option.some.inj hq0
                have hown:qar S w d t xs (g s) (F s):=hs.ob s _ ho
                obtain⟨Fi,h1,h2⟩:=hown.hand (dp:=m==.deep) (fun hdp=>by
                  have hm2:m=.deep:=by cases m<;>first | rfl | cases hdp
                  cases d with
                  | true=>rfl
                  | false=>exact absurd ⟨hm2,rfl⟩ hdd)
                have ho1:qkd m (.arr s)=[s]:=by rcases hne with rfl | rfl<;>rfl
                rw[hm] at fin
                refine fin Fi (fun b hb=>⟨s,by rw[ho1];simp,h1 b hb⟩) fun S2 hS2 _ hF2=>?_
                obtain⟨rfl,_⟩:=hv
                have:=h2 S2 hS2 fun b hb hn=>hF2 s b (by rw[ho1];simp) hb hn
                rcases hne with rfl | rfl
                · exact this
                · exact this
            · cases hq0
          have mainSub:∀(m:RM) (s hi sz:Nat),sg.own.getD k .imm=m→(m=.own∨m=.deep)→c=.sub s 0 hi sz→(match qad st.ob s with | some (.arr t xs d false false)=>if m=.deep∧d=false then none else if sz=t.size then some (⟨.sl t,(xs.take hi).drop 0⟩:Dv) else none | _=>none)=some d0 →
              ∃ G:qab,(∀ b,G b→∃ s,T (.inl k) s∧F s b)∧∀ S2:qab,(∀ b,S b→S2 b)→(∀ s∈qa0 st.ob sg.own cs++qbU st.ob fn.ntmps sg.pm 0,∀ o,qad st.ob s=some o→∀ b,F s b→S2 b) →
                (∀ s b,T (.inl k) s→F s b→¬ G b→S2 b)→Good (.inl k) S2 G:=by
            intro m s hi sz hm hne hcs' hq0
            subst hcs'
            split at hq0
            · rename_i t xs d ho
              split at hq0
              · cases hq0
              · rename_i hdd
                split at hq0
                · rename_i hsz
                  obtain rfl:=Option.some.inj hq0
                  have hown:qar S w d t xs (g s) (F s):=hs.ob s _ ho
                  obtain⟨Fi,h1,h2⟩:=hown.hand (dp:=m==.deep) (fun hdp=>by
                    have hm2:m=.deep:=by cases m<;>first | rfl | cases hdp
                    cases d with
                    | true=>rfl
                    | false=>exact absurd ⟨hm2,rfl⟩ hdd)
                  have ho1:qkd m (.sub s 0 hi sz)=[s]:=by rcases hne with rfl | rfl<;>rfl
                  rw[hm] at fin
                  refine fin Fi (fun b hb=>⟨s,by rw[ho1];simp,h1 b hb⟩) fun S2 hS2 _ hF2=>?_
                  have:=h2 S2 hS2 fun b hb hn=>hF2 s b (by rw[ho1];simp) hb hn
                  obtain⟨A,n,cc,A',hgs,rfl,_,hhn,hA⟩:=hv
                  have:=this.cut hgs hhn hA
                  rcases hne with rfl | rfl
                  · exact this
                  · exact this
                · cases hq0
            · cases hq0
          have mainNil:∀(m:RM) (t:Ty),sg.own.getD k .imm=m→(m=.own∨m=.deep)→c=.nils t→some (⟨.sl t,([]:List t.T)⟩:Dv)=some d0 →
              ∃ G:qab,(∀ b,G b→∃ s,T (.inl k) s∧F s b)∧∀ S2:qab,(∀ b,S b→S2 b)→(∀ s∈qa0 st.ob sg.own cs++qbU st.ob fn.ntmps sg.pm 0,∀ o,qad st.ob s=some o→∀ b,F s b→S2 b) →
                (∀ s b,T (.inl k) s→F s b→¬ G b→S2 b)→Good (.inl k) S2 G:=by
            intro m t hm hne hcs' hq0
            subst hcs'
            obtain rfl:=Option.some.inj hq0
            obtain⟨A,rfl⟩:=hv
            rw[hm] at fin
            refine fin (fun _=>False) (fun _ h=>h.elim) fun S2 _ _ _=>?_
            rcases hne with rfl | rfl
            · exact⟨A,0,rfl,⟨Nat.le_refl _,Nat.zero_le _⟩,.inl rfl⟩
            · exact⟨A,0,rfl,⟨Nat.le_refl _,Nat.zero_le _⟩,.inl rfl⟩
          cases hm:sg.own.getD k .imm with
          | bx =>
            rw[hm] at hd0 fin
            cases c with
            | box s off =>
              cases off with
              | succ=>cases hd0
              | zero =>
                simp only[qdV] at hd0
                split at hd0
                · rename_i cells0 ho
                  obtain⟨b,arr,e,hg,hFb,hh,hcs0⟩:=hs.ob _ _ ho
                  simp only[frz,qpm,qbI,ho] at hd0
                  obtain⟨dd,hmm,rfl⟩:=Option.map_eq_some_iff.1 hd0
                  obtain⟨b',hg',rfl⟩:=hv
                  obtain rfl:b=b':=by rw[hg] at hg';simpa using hg'
                  refine fin (fun b'=>F s b'∧b'=b) (fun b' hb'=>⟨s,by simp[qkd],hb'.1⟩) fun S2 hS2 hl2 _=>?_
                  refine⟨b,arr,e,rfl,⟨hFb,rfl⟩,hh,?_⟩
                  rw[List.drop_zero] at hmm
                  refine qd0 hmm hcs0 fun c' hc' u' d' hd' hv'=>qcD hs 2 hd' hv' hS2 fun s' hs'=>hl2 s' ?_
                  refine List.mem_append.2 (.inl (qfs hc hm ?_))
                  simp only[qdJ,qbs,ho,List.tail_cons,List.mem_flatMap]
                  exact⟨c',hc',hs'⟩
                · cases hd0
            | _=>cases hd0
          | imm =>
            rw[hm] at hd0 fin
            refine fin (fun _=>False) (fun _ h=>h.elim) fun S2 hS2 hl2 _=>?_
            exact qdr hs hd0 hv hS2 fun s hs'=>hl2 s (List.mem_append.2 (.inl (qgC hc hm hs')))
          | own =>
            rw[hm] at hd0
            cases c with
            | arr s=>exact mainArr .own s hm (by simp) rfl hd0
            | sub s lo hi sz =>
              cases lo with
              | zero=>exact mainSub .own s hi sz hm (by simp) rfl hd0
              | succ=>cases hd0
            | nils t=>exact mainNil .own t hm (by simp) rfl hd0
            | _=>cases hd0
          | deep =>
            rw[hm] at hd0
            cases c with
            | arr s=>exact mainArr .deep s hm (by simp) rfl hd0
            | sub s lo hi sz =>
              cases lo with
              | zero=>exact mainSub .deep s hi sz hm (by simp) rfl hd0
              | succ=>cases hd0
            | nils t=>exact mainNil .deep t hm (by simp) rfl hd0
            | _=>cases hd0
      | inr i =>
        cases hm:sg.pm[i]? with
        | none=>exact⟨fun _=>False,fun _ h=>h.elim,fun S2 _ _ _ m d hm' _ _=>by rw[hm] at hm';cases hm'⟩
        | some m =>
          cases hio:m.isIo with
          | false=>exact⟨fun _=>False,fun _ h=>h.elim,fun S2 _ _ _ m' d hm' hio' _=>by
              rw[hm] at hm'
              obtain rfl:=Option.some.inj hm'
              rw[hio] at hio';cases hio'⟩
          | true =>
            have hT:T (.inr i) (fn.ntmps+i):=⟨rfl,m,hm,hio⟩
            obtain⟨o,ho,hof,hox⟩:=hob (.inr i) _ hT
            have hfx:=hs.fx _ o ho hox
            have hfx':g (fn.ntmps+i)=us.getD i Go.undef:=by
              rw[hfx]
              show us.getD (fn.ntmps+i-fn.ntmps) Go.undef=_
              rw[Nat.add_sub_cancel_left]
            have hus:∀ u,g (fn.ntmps+i)=u→u≠Go.undef→us[i]? = some u:=by
              intro u hu hne
              rw[hfx',List.getD_eq_getElem?_getD] at hu
              cases hui:us[i]? with
              | none=>rw[hui] at hu;exact absurd hu.symm hne
              | some v=>rw[hui] at hu;rw[← hu];rfl
            cases m with
            | imm=>cases hio
            | take dp=>cases hio
            | io dp =>
              cases hcell:qeh st.ob fn.ntmps (.io dp) i with
              | none=>exact⟨fun _=>False,fun _ h=>h.elim,fun S2 _ _ _ m' d hm' hio' hc'=>by
                  rw[hm] at hm'
                  obtain rfl:=Option.some.inj hm'
                  rw[hcell] at hc';cases hc'⟩
              | some d0 =>
                have hcell':=hcell
                unfold qeh at hcell'
                simp only[ho] at hcell'
                split at hcell'
                · rename_i t xs d he
                  obtain rfl:=Option.some.inj he
                  split at hcell'
                  · cases hcell'
                  · rename_i hdd
                    obtain rfl:=Option.some.inj hcell'
                    have hown:qar S w d t xs (g (fn.ntmps+i)) (F (fn.ntmps+i)):=hs.ob _ _ ho
                    obtain⟨Fi,h1,h2⟩:=hown.hand (dp:=dp) (fun hdp=>by simpa [hdp] using hdd)
                    refine⟨Fi,fun b hb=>⟨_,hT,h1 b hb⟩,fun S2 hS2 _ hF2 m' d' hm' _ hc'=>?_⟩
                    rw[hm] at hm'
                    obtain rfl:=Option.some.inj hm'
                    rw[hcell] at hc'
                    obtain rfl:=Option.some.inj hc'
                    have h3:=h2 S2 hS2 fun b hb hn=>hF2 _ b hT hb hn
                    refine⟨g (fn.ntmps+i),hus _ rfl ?_,h3⟩
                    obtain⟨A,c,hv,_⟩:=hown
                    rw[hv];intro h;cases h
                · cases hcell'
            | iob =>
              cases hcell:qeh st.ob fn.ntmps .iob i with
              | none=>exact⟨fun _=>False,fun _ h=>h.elim,fun S2 _ _ _ m' d hm' hio' hc'=>by
                  rw[hm] at hm'
                  obtain rfl:=Option.some.inj hm'
                  rw[hcell] at hc';cases hc'⟩
              | some d0 =>
                have hcell':=hcell
                unfold qeh at hcell'
                simp only[ho] at hcell'
                split at hcell'
                · rename_i cells he
                  obtain rfl:=Option.some.inj he
                  obtain⟨b,arr,e,hg,hFb,hh,hcs0⟩:=hs.ob _ _ ho
                  simp only[frz,qpm,qbI,ho] at hcell'
                  obtain⟨dd,hmm,rfl⟩:=Option.map_eq_some_iff.1 hcell'
                  refine⟨fun b'=>F (fn.ntmps+i) b'∧b'=b,fun b' hb'=>⟨_,hT,hb'.1⟩,fun S2 hS2 hl2 hF2 m' d' hm' _ hc'=>?_⟩
                  rw[hm] at hm'
                  obtain rfl:=Option.some.inj hm'
                  rw[hcell] at hc'
                  obtain rfl:=Option.some.inj hc'
                  refine⟨g (fn.ntmps+i),hus _ rfl (by rw[hg];intro h;cases h),b,arr,e,hg,⟨hFb,rfl⟩,hh,?_⟩
                  rw[List.drop_zero] at hmm
                  refine qd0 hmm hcs0 fun c' hc' u' d' hd' hv'=>qcD hs 2 hd' hv' hS2 fun s' hs'=>hl2 s' ?_
                  refine List.mem_append.2 (.inr (qh8 (i:=0) hm ?_))
                  rw[Nat.zero_add]
                  simp only[qdJ,qbs,ho,List.tail_cons,List.mem_flatMap]
                  exact⟨c',hc',hs'⟩
                · cases hcell'
            | iobo k0 =>
              cases hcell:qeh st.ob fn.ntmps (.iobo k0) i with
              | none=>exact⟨fun _=>False,fun _ h=>h.elim,fun S2 _ _ _ m' d hm' hio' hc'=>by
                  rw[hm] at hm'
                  obtain rfl:=Option.some.inj hm'
                  rw[hcell] at hc';cases hc'⟩
              | some d0 =>
                have hcell':=hcell
                unfold qeh at hcell'
                simp only[ho] at hcell'
                split at hcell'
                · rename_i c x k' a0 he
                  obtain rfl:=Option.some.inj he
                  split at hcell'
                  · rename_i hk
                    subst hk
                    obtain rfl:=Option.some.inj hcell'
                    have hB:qnV S w c x k' (g (fn.ntmps+i)) (F (fn.ntmps+i)):=hs.ob _ _ ho
                    refine⟨F (fn.ntmps+i),fun b hb=>⟨_,hT,hb⟩,fun S2 hS2 _ _ m' d' hm' _ hc'=>?_⟩
                    rw[hm] at hm'
                    obtain rfl:=Option.some.inj hm'
                    rw[hcell] at hc'
                    obtain rfl:=Option.some.inj hc'
                    have hB':=hB
                    obtain⟨b,arr,e,G,hg,_⟩:=hB'
                    exact⟨g (fn.ntmps+i),hus _ rfl (by rw[hg];intro h;cases h),hB.mono hS2 (fun _ _=>rfl) (fun _ h=>h) fun _ _=>rfl⟩
                  · cases hcell'
                · cases hcell'
    have hG1:=fun x=>(Classical.choose_spec (hpar x)).1
    have hG2:=fun x=>(Classical.choose_spec (hpar x)).2
    generalize hGG:(fun x=>Classical.choose (hpar x))=G
    have hG1:∀ x b,G x b→∃ s,T x s∧F s b:=by subst hGG;exact hG1
    have hG2:∀ x,∀ S2:qab,(∀ b,S b→S2 b)→(∀ s∈qa0 st.ob sg.own cs++qbU st.ob fn.ntmps sg.pm 0,∀ o,qad st.ob s=some o→∀ b,F s b→S2 b) →
        (∀ s b,T x s→F s b→¬ G x b→S2 b)→Good x S2 (G x):=by subst hGG;exact hG2
    let S2:qab:=fun b=>S b∨(∃ s∈qa0 st.ob sg.own cs++qbU st.ob fn.ntmps sg.pm 0,(∃ o,qad st.ob s=some o)∧F s b)∨∃ x s,T x s∧F s b∧¬ G x b
    have hgood:∀ x,Good x S2 (G x):=fun x=>hG2 x S2 (fun _ h=>.inl h) (fun s hs' o ho b hb=>.inr (.inl ⟨s,hs',⟨o,ho⟩,hb⟩)) fun s b hT hF hn=>.inr (.inr ⟨x,s,hT,hF,hn⟩)
    have hdisT:∀ x s,T x s→∀ s' o',s'≠s→qad st.ob s'=some o'→∀ b,F s b→¬ F s' b:=by
      intro x s hT s' o' hne ho' b hb hb'
      obtain⟨o,ho,hof,_⟩:=hob x s hT
      cases hq:o'.frozen with
      | true=>exact(hs.prv s o ho hof b hb).1 (hs.frz s' o' ho' hq b hb')
      | false=>exact hs.dis s s' o o' (Ne.symm hne) ho ho' hof hq b hb hb'
    have hGS:∀ x b,G x b→¬ S2 b∧b<w.heap.size∧(w0.heap.size≤b∨∃ i,FP i b):=by
      intro x b hb
      obtain⟨s,hT,hF⟩:=hG1 x b hb
      obtain⟨o,ho,hof,_⟩:=hob x s hT
      refine⟨?_,hs.szF s o ho b hF,(hs.prv s o ho hof b hF).2⟩
      rintro(h1 | ⟨s',hs',⟨o',ho'⟩,hF'⟩ | ⟨y,s',hT',hF',hn⟩)
      · exact(hs.prv s o ho hof b hF).1 h1
      · exact hdisT x s hT s' o' (fun e=>hTL x s hT (e ▸ hs')) ho' b hF hF'
      · by_cases hss:s'=s
        · subst hss
          have:=hTinj x y s' hT hT'
          subst this
          exact hn hb
        · obtain⟨o',ho',_⟩:=hob y s' hT'
          exact hdisT x s hT s' o' hss ho' b hF hF'
    have hGd:∀ x y b,x≠y→G x b→¬ G y b:=by
      intro x y b hxy hx hy
      obtain⟨s,hT,hF⟩:=hG1 x b hx
      obtain⟨s',hT',hF'⟩:=hG1 y b hy
      obtain⟨o',ho',_⟩:=hob y s' hT'
      refine hdisT x s hT s' o' (fun e=>hxy ?_) ho' b hF hF'
      subst e
      exact hTinj x y s' hT hT'
    have hnres:cs.length=qmV sg:=by rw[← hrcl,hrl];rfl
    refine⟨rus,S2,fun k=>G (.inl k),fun i=>G (.inr i),hrun,?_⟩
    refine { mS:=fun b h=>.inl (hs.S0 b h),sub:=?_,szS:=?_,size:=hs.mono,kin:=hs.kin.weak hDs,keep:=?_,gr:=fun k b h=>hGS _ b h,gp:=fun k b h=>hGS _ b h,drr:=fun j k b hjk=>hGd _ _ b (by simpa using hjk),dpp:=fun j k b hjk=>hGd _ _ b (by simpa using hjk),drp:=fun j k b=>hGd _ _ b (by simp),len:=by rw[hrl];rfl,lenO:=?_,res:=?_,ios:=?_ }
    · rintro b (h1 | ⟨s',hs',⟨o',ho'⟩,hF'⟩ | ⟨y,s',hT',hF',hn⟩)
      · exact hs.SO b h1
      · cases hq:o'.frozen with
        | true=>exact hs.SO b (hs.frz s' o' ho' hq b hF')
        | false=>exact .inr (hs.prv s' o' ho' hq b hF').2
      · obtain⟨o',ho',hof,_⟩:=hob y s' hT'
        exact .inr (hs.prv s' o' ho' hof b hF').2
    · rintro b (h1 | ⟨s',hs',⟨o',ho'⟩,hF'⟩ | ⟨y,s',hT',hF',hn⟩)
      · exact hs.szS b h1
      · exact hs.szF s' o' ho' b hF'
      · obtain⟨o',ho',_⟩:=hob y s' hT'
        exact hs.szF s' o' ho' b hF'
    · intro b hb' hn
      exact hs.keep b hb' (by rintro(h | ⟨i,h⟩);exact absurd hb' (by show ¬ b<w0.heap.size;omega);exact hn i h)
    · rw[qdt,List.length_append,hdl,hnres];omega
    · intro k d u hk hd hu
      rw[qdt,List.getElem?_append_left (by omega)] at hd
      exact hgood (.inl k) d u hd hu
    · rw[qdt,List.drop_append_of_le_length (by omega),List.drop_of_length_le (by omega),List.nil_append]
      refine qpd hq fun k m d hm hio hc=>?_
      rw[Nat.zero_add] at hc ⊢
      exact hgood (.inr k) m d hm hio hc
theorem qk3{D:Bool}{E:Env}{sg:Sig}{fn:Func}{dv:Dv}{us:List Value}{FP:Nat→qab}{S0:qab}{w0:World}{hb:∀ b,w0.heap.size≤b→(w0.heap.size≤b∨∃ i,FP i b)}(hs:Sim { O:=fun b=>w0.heap.size≤b∨∃ i,FP i b,S0:=S0,w0:=w0,g0:=fun s=>us.getD (s-fn.ntmps) Go.undef,dr:=D,base:=hb } S g F st tm w)
  (hDs:sg.dr=true→D=true) (h:qnt E sg fn st=some dv):∃ rus S2 GR GP,(results fn tm).run E.P w=.ok (qmE sg.rs rus) w∧After w0 S0 FP sg us dv w S2 rus GR GP:=by
 unfold qnt at h
 obtain⟨st1,hc,h⟩:=Option.bind_eq_some_iff.1 h
 unfold qnx at hc
 split at hc
 ·obtain⟨a,S',F',_,_,_,h1,_⟩:=qeM hs hc
  exact qfj h1 hDs h
 ·obtain rfl:=Option.some.inj hc
  exact qfj hs hDs h
theorem qlg{pm:List PM}{base:Nat}(hs:Sim C S g F st tm w):∃ g' F',Sim C S g' F' (qpy pm base st) tm w:=by
 unfold qpy
 split
 ·obtain⟨g',F',h1,_⟩:=qfu (s:=base+_) (v:=.undef) (u:=Go.undef) hs rfl
  exact⟨g',F',h1⟩
 ·exact⟨g,F,hs⟩
theorem qmU{E:Env}(hE:EnvOk E){R:Run}(hR:qgL E R)(hRw:∀ o f,R.w o f=o.bind f){sg:Sig}{pol:Pol}{fn:Func}{N f:Nat}{args:List Dv}{dv:Dv}(hf:E.P.funcs[f]? = some fn)
  (h:qsy E R sg pol fn N args=some dv):qaO E.gs E.P sg f args dv:=by
 intro w S us FP hgl hS hFP hFd hl hp
 unfold qsy at h
 cases hb:fn.body with
 | none=>rw[hb] at h;cases h
 | some code =>
  rw[hb] at h
  simp only at h
  have hDs:sg.dr=true→pol.dr=true:=fun e=>by
   cases hp:pol.dr with
   | true=>rfl
   | false=>rw[e,hp] at h;cases h
  have hcd:(sg.dr&&!pol.dr)=false:=by
   cases hs:sg.dr with
   | false=>rfl
   | true=>rw[hDs hs];rfl
  rw[hcd,cond_false] at h
  obtain⟨p,hcells,h⟩:=Option.bind_eq_some_iff.1 h
  obtain⟨fr,hfr,h⟩:=Option.bind_eq_some_iff.1 h
  have hAl:(qaR sg.ps us).length=fr.length:=by
   have h1:∀(gs:List (Bool×Nat)) (us:List Value),(qaR gs us).length=gs.length:=by
    intro gs
    induction gs with
    | nil=>intro us;rfl
    | cons p gs ih=>intro us;obtain⟨a,n⟩:=p;simp[qaR,ih]
   have h2:∀(gs:List (Bool×Nat)) (cs:List V0) (fr:List V),qcg gs cs=some fr→fr.length=gs.length:=by
    intro gs
    induction gs with
    | nil=>intro cs fr h;cases cs with
     | nil=>obtain rfl:=Option.some.inj h;rfl
     | cons=>simp[qcg] at h
    | cons p gs ih =>
     intro cs fr h
     obtain⟨a,n⟩:=p
     cases a with
     | false =>
      cases cs with
      | nil=>rcases n with _ | _ | n<;>simp[qcg] at h
      | cons c cs =>
       rcases n with _ | _ | n
       ·simp[qcg] at h
       ·have h':(qcg gs cs).map (V.c c::·)=some fr:=h
        obtain⟨fr',h3,rfl⟩:=Option.map_eq_some_iff.1 h'
        simp[ih _ _ h3]
       ·simp[qcg] at h
     | true =>
      have h':(if n≤cs.length then(qcg gs (cs.drop n)).map (V.agg (cs.take n)::·) else none)=some fr:=by
       rw[← h];cases cs<;>rfl
      split at h'
      ·obtain⟨fr',h3,rfl⟩:=Option.map_eq_some_iff.1 h'
       simp[ih _ _ h3]
      ·cases h'
   rw[h1,h2 _ _ _ hfr]
  have hsim:=qoA (D:=pol.dr) (sg:=sg) (base:=fn.ntmps) (n:=fn.ntmps-fr.length) (m:=fn.ntmps-(qaR sg.ps us).toArray.size) (by rw[List.size_toArray,hAl]) hS hFP hFd hl hp (fun s=>by
   unfold qad;rw[List.getD_eq_getElem?_getD,List.getElem?_replicate];split<;>rfl) hcells hfr
  obtain⟨g1,F1,hsim⟩:=qlg (pm:=sg.pm) (base:=fn.ntmps) hsim
  refine calls_of_wp hf hb ?_
  have hGC:∀ S' g F st tm w',Sim { O:=fun b=>w.heap.size≤b∨∃ i,FP i b,S0:=S,w0:=w,g0:=fun s=>us.getD (s-fn.ntmps) Go.undef,dr:=pol.dr,base:=fun _ h=>.inl h } S' g F st tm w'→Gl E.gs w' S':=fun S' g F st tm w' hs p hp=>by
   obtain⟨h1,cs,e,fz,h2,h3⟩:=hgl p hp
   refine⟨hs.S0 _ h1,cs,e,fz,(hs.keep _ (hS _ h1) ?_).trans h2,h3⟩
   rintro(h4 | ⟨i,h4⟩)
   ·exact absurd (hS _ h1) (Nat.not_lt.2 h4)
   ·exact(hFP i _ h4).2 h1
  refine qnG hE hR hGC hRw rfl code (a:={ tmps:=(qaR sg.ps us).toArray++Array.replicate (fn.ntmps-(qaR sg.ps us).toArray.size) Go.undef,defers:=[] }) hsim h ?_ ?_
  ·rintro c a w ⟨_,rus,S',GR,GP,he,_⟩
   cases he
  ·intro e st' S' g' F' a' w' h1 h2 h3
   have hfin:qnt E sg fn st'=some dv→a'.defers=[]∧∃ v,(results fn a'.tmps).run E.P w'=.ok v w'∧∃ rus S' GR GP,Ending.returned v=.returned (qmE sg.rs rus)∧After w S FP sg us dv w' S' rus GR GP:=by
    intro h4
    obtain⟨rus,S2,GR,GP,h5,h6⟩:=qk3 h1 hDs h4
    exact⟨h3,_,h5,rus,S2,GR,GP,rfl,h6⟩
   cases e with
   | normal=>exact hfin h2
   | ret=>exact hfin h2
   | exit i=>cases h2
theorem qln{E:Env}(hE:EnvOk E)(hprim:∀ f p,E.prim f=some p→∀ r,qgL E (mkR r)→∀ args dv sg,E.sig f=some sg→p (mkR r) args=some dv→qaO E.gs E.P sg f args dv):∀ n,qgL E (mkR (run E n))
  | 0=>fun f args dv sg _ h=>by cases h
  | n+1=>fun f args dv sg hsg h=>by
      have ih:=qln hE hprim n
      have h':(match E.prim f with
        | some p=>p (mkR (run E n)) args
        | none=>match E.fn f,E.sig f with
          | some (fn,pol),some sg=>qsy E (mkR (run E n)) sg pol fn n args
          | _,_=>none)=some dv:=h
      split at h'
      · rename_i p hp;exact hprim f p hp _ ih args dv sg hsg h'
      · split at h'
        · rename_i fn pol sg' hfn hsg'
          rw[hsg] at hsg'
          obtain rfl:=Option.some.inj hsg'
          exact qmU hE ih (fun _ _=>rfl) (hE.fn f fn pol hfn) h'
        · cases h'
end
end Ve
namespace Ve
open Go
def Wf:(t:Ty)→t.T→Prop
 | .int k,n=>(Lit.int k n).wf=true
 | .bool,_=>True
 | .str,s=>s.size≤maxLen
 | .sl t,xs=>xs.length≤maxLen∧∀ x∈xs,Wf t x
 | .ptr c,x=>Wf c x
 | .fn _ c,x=>Wf c x
 | .lab c,x=>Wf c x.2
 | .st c,x=>Wf c x
 | .nil,_=>True
 | .cons a b,x=>Wf a x.1∧Wf b x.2
def elC:Ty→Ty
 | .st c=>c
 | u=>.cons u .nil
def qpT(P:Program):Nat→TypeId→Ty→Option Ty
  | 0,_,_=>none
  | n+1,t,c=>match P.underlying t with
    | some (.struct fs)=>(fs.toList.foldl (fun(acc:Option (Nat×Ty)) f=>acc.bind fun p=>if f.offset=p.1 then(qpT P n f.type p.2).map fun c'=>(p.1+P.cellsOf f.type,c') else none) (some (0,c))).bind fun p =>
        if p.1=P.cellsOf t then some p.2 else none
    | some (.int k)=>match c with
      | .cons (.int k') b=>if k=k'∧P.cellsOf t=1 then some b else none
      | _=>none
    | some .bool=>match c with
      | .cons .bool b=>if P.cellsOf t=1 then some b else none
      | _=>none
    | some .string=>match c with
      | .cons .str b=>if P.cellsOf t=1 then some b else none
      | _=>none
    | some (.slice e)=>match c with
      | .cons (.sl u) b=>if P.cellsOf t=1∧P.cellsOf e=u.size∧0<u.size∧qpT P n e (elC u)=some .nil then some b else none
      | _=>none
    | _=>none
section
variable {P:Program} {W:World} {H:Type} {enc:TypeId×Value→H}
theorem qr1{cs:List Value}{a b:Nat}(h:a+b≤cs.length):cs.drop a=(cs.drop a).take b++cs.drop (a+b):=by
 rw[← List.drop_drop]
 exact(List.take_append_drop b _).symm
theorem qov:∀(n:Nat) (t:TypeId) (c rest:Ty) (fuel:Nat) (cs:List Value) (x:DataW H×List MemPlace),qpT P n t c=some rest→DataW.trod enc P W 0 (fun _=>true) true fuel t cs=some x →
    cs.length=P.cellsOf t∧∀(y:rest.T) (ws:List Value),Rp (fun b=>b<W.heap.size) W rest y ws→Wf rest y→∃ z:c.T,Rp (fun b=>b<W.heap.size) W c z (cs++ws)∧Wf c z:=by
  intro n
  induction n with
  | zero=>intro t c rest fuel cs x h;cases h
  | succ n ih =>
    intro t c rest fuel cs x h ht
    unfold qpT at h
    split at h
    · rename_i fs hu
      obtain⟨p,hp,h⟩:=Option.bind_eq_some_iff.1 h
      obtain⟨xs,m,rfl,rfl,hlen,hxl,hf⟩:=DataW.trod_struct hu ht
      split at h
      · rename_i htot
        obtain rfl:=Option.some.inj h
        refine⟨hlen,?_⟩
        have none_fold:∀(l:List Field),l.foldl (fun(acc:Option (Nat×Ty)) f=>acc.bind fun p=>if f.offset=p.1 then(qpT P n f.type p.2).map fun c'=>(p.1+P.cellsOf f.type,c') else none) none=none:=by
          intro l;induction l with
          | nil=>rfl
          | cons a l ih=>exact ih
        have key:∀(l:List Field) (off:Nat) (c:Ty) (p:Nat×Ty),(∀ f∈l,∃ y,DataW.trod enc P W 0 (fun _=>true) true m f.type ((cs.drop f.offset).take (P.cellsOf f.type))=some y) →
            l.foldl (fun(acc:Option (Nat×Ty)) f=>acc.bind fun p=>if f.offset=p.1 then(qpT P n f.type p.2).map fun c'=>(p.1+P.cellsOf f.type,c') else none) (some (off,c))=some p →
            off≤p.1∧(p.1≤cs.length→∀(y:p.2.T) (ws:List Value),Rp (fun b=>b<W.heap.size) W p.2 y ws→Wf p.2 y→∃ z:c.T,Rp (fun b=>b<W.heap.size) W c z ((cs.drop off).take (p.1-off)++ws)∧Wf c z):=by
          intro l
          induction l with
          | nil =>
            intro off c p _ h
            obtain rfl:=Option.some.inj h
            exact⟨Nat.le_refl _,fun _ y ws h1 h2=>⟨y,by simpa using h1,h2⟩⟩
          | cons f l ihl =>
            intro off c p hall h
            rw[List.foldl_cons,Option.bind_some] at h
            simp only at h
            split at h
            · rename_i hoff
              cases hl:qpT P n f.type c with
              | none=>rw[hl,Option.map_none,none_fold] at h;cases h
              | some c' =>
                rw[hl,Option.map_some] at h
                obtain⟨h1,h2⟩:=ihl _ c' p (fun f' hf'=>hall f' (by simp[hf'])) h
                obtain⟨x',hx'⟩:=hall f (by simp)
                obtain⟨h3,h4⟩:=ih f.type c c' m _ x' hl hx'
                refine⟨by omega,fun hle y ws hr hw=>?_⟩
                obtain⟨z',hz',hwz'⟩:=h2 hle y ws hr hw
                obtain⟨z,hz,hwz⟩:=h4 z' _ hz' hwz'
                refine⟨z,?_,hwz⟩
                have e:(cs.drop off).take (p.1-off)=(cs.drop f.offset).take (P.cellsOf f.type)++(cs.drop (off+P.cellsOf f.type)).take (p.1-(off+P.cellsOf f.type)):=by
                  rw[hoff]
                  have:p.1-off=P.cellsOf f.type+(p.1-(off+P.cellsOf f.type)):=by omega
                  rw[this,List.take_add,List.drop_drop]
                rw[e,List.append_assoc]
                exact hz
            · rw[none_fold] at h;cases h
        have hall:∀ f∈fs.toList,∃ y,DataW.trod enc P W 0 (fun _=>true) true m f.type ((cs.drop f.offset).take (P.cellsOf f.type))=some y:=by
          intro f hfm
          obtain⟨i,hi⟩:=List.mem_iff_getElem?.1 hfm
          have hi':fs[i]? = some f:=by simpa using hi
          have hlt:=(Array.getElem?_eq_some_iff.1 hi').1
          rw[hf i f hi']
          exact⟨xs[i],List.getElem?_eq_getElem (by omega)⟩
        obtain⟨_,h2⟩:=key fs.toList 0 c p hall hp
        intro y ws hr hw
        obtain⟨z,hz,hwz⟩:=h2 (by omega) y ws hr hw
        refine⟨z,?_,hwz⟩
        rw[List.drop_zero,Nat.sub_zero,htot,← hlen,List.take_length] at hz
        exact hz
      · cases h
    · rename_i k hu
      split at h
      · rename_i k' b
        split at h
        · rename_i hc
          obtain⟨rfl,h1⟩:=hc
          obtain rfl:=Option.some.inj h
          obtain⟨v,rfl,_,hw⟩:=DataW.trod_int hu ht
          exact⟨h1.symm,fun y ws hr hwf=>⟨(v,y),⟨[.int k v],ws,rfl,rfl,hr⟩,hw,hwf⟩⟩
        · cases h
      · cases h
    · rename_i hu
      split at h
      · rename_i b
        split at h
        · rename_i h1
          obtain rfl:=Option.some.inj h
          obtain⟨v,rfl,_⟩:=DataW.trod_bool hu ht
          exact⟨h1.symm,fun y ws hr hwf=>⟨(v,y),⟨[.bool v],ws,rfl,rfl,hr⟩,trivial,hwf⟩⟩
        · cases h
      · cases h
    · rename_i hu
      split at h
      · rename_i b
        split at h
        · rename_i h1
          obtain rfl:=Option.some.inj h
          obtain⟨v,rfl,_,hw⟩:=DataW.trod_string hu ht
          exact⟨h1.symm,fun y ws hr hwf=>⟨(v,y),⟨[.string v],ws,rfl,rfl,hr⟩,hw,hwf⟩⟩
        · cases h
      · cases h
    · rename_i e hu
      split at h
      · rename_i u b
        split at h
        · rename_i hc
          obtain⟨h1,hsz,hpos,hle⟩:=hc
          obtain rfl:=Option.some.inj h
          rcases DataW.trod_slice hu ht with ⟨rfl,_⟩ | ⟨a,len,cap,elems,rst,m,rfl,rfl,_,_,hlc,hcm,hel,hes,_⟩
          · exact⟨h1.symm,fun y ws hr hwf=>⟨(([]:List u.T),y),⟨[.slice none 0 0],ws,rfl,⟨none,0,rfl,Nat.le_refl _,.inl rfl⟩,hr⟩,⟨Nat.zero_le _,by simp⟩,hwf⟩⟩
          · refine⟨h1.symm,fun y ws hr hwf=>?_⟩
            have helem:∀ i,i<len→∃(z:u.T) (us:List Value),Rp (fun b=>b<W.heap.size) W u z us∧Wf u z∧(∀ j,j<u.size→W.cell? ((a.add (i*u.size)).add j)=us[j]?):=by
              intro i hi
              have h2:=hes i hi
              rw[List.getElem?_eq_getElem (by omega)] at h2
              obtain⟨cs',hcs',hx'⟩:=Option.bind_eq_some_iff.1 h2
              rw[hsz] at hcs'
              have hcell:=(World.cells?_some hcs').2.2
              have hclen:=(World.cells?_some hcs').2.1
              have gen:∀(c':Ty),qpT P n e c'=some .nil→∃ z:c'.T,Rp (fun b=>b<W.heap.size) W c' z cs'∧Wf c' z:=by
                intro c' hlc'
                obtain⟨_,h4⟩:=ih e c' .nil m cs' elems[i] hlc' hx'
                obtain⟨z,hz,hwz⟩:=h4 () [] rfl trivial
                rw[List.append_nil] at hz
                exact⟨z,hz,hwz⟩
              have single:qpT P n e (.cons u .nil)=some .nil→∃ z:u.T,Rp (fun b=>b<W.heap.size) W u z cs'∧Wf u z:=by
                intro hl
                obtain⟨z,⟨us1,us2,he,hz1,hz2⟩,hwz,_⟩:=gen _ hl
                cases hz2
                rw[List.append_nil] at he
                subst he
                exact⟨z.1,hz1,hwz⟩
              have hz:∃ z:u.T,Rp (fun b=>b<W.heap.size) W u z cs'∧Wf u z:=by
                cases u with
                | st c'=>exact gen c' hle
                | _=>exact single hle
              obtain⟨z,hz1,hz2⟩:=hz
              refine⟨z,cs',hz1,hz2,fun j hj=>?_⟩
              rw[hcell j (by omega)]
            have hzs:∃ zs:List u.T,zs.length=len∧∀(i:Nat) z,zs[i]? = some z→∃ us:List Value,Rp (fun b=>b<W.heap.size) W u z us∧Wf u z∧(∀ j,j<u.size→W.cell? ((a.add (i*u.size)).add j)=us[j]?):=by
              have build:∀ k,k≤len→∃ zs:List u.T,zs.length=k∧∀(i:Nat) z,zs[i]? = some z→∃ us:List Value,Rp (fun b=>b<W.heap.size) W u z us∧Wf u z∧(∀ j,j<u.size→W.cell? ((a.add (i*u.size)).add j)=us[j]?):=by
                intro k
                induction k with
                | zero=>intro _;exact⟨[],rfl,by simp⟩
                | succ k ihk =>
                  intro hk
                  obtain⟨zs,hl,hz⟩:=ihk (by omega)
                  obtain⟨z,us,h5,h6,h7⟩:=helem k (by omega)
                  refine⟨zs++[z],by simp[hl],fun i z' hz'=>?_⟩
                  rcases Nat.lt_or_ge i k with hik | hik
                  · rw[List.getElem?_append_left (by omega)] at hz'
                    exact hz i z' hz'
                  · rw[List.getElem?_append_right (by omega)] at hz'
                    have hik0:i-zs.length=0:=by
                      have:=(List.getElem?_eq_some_iff.1 hz').1
                      simp at this;omega
                    rw[hik0] at hz'
                    obtain rfl:z=z':=by simpa using hz'
                    obtain rfl:i=k:=by omega
                    exact⟨us,h5,h6,h7⟩
              exact build len (Nat.le_refl _)
            obtain⟨zs,hzl,hz⟩:=hzs
            refine⟨(zs,y),⟨[.slice (some a) len cap],ws,rfl,?_,hr⟩,⟨by show zs.length≤maxLen;omega,fun z hzm=>?_⟩,hwf⟩
            · refine⟨some a,cap,by simp[hzl],by show zs.length≤cap;omega,?_⟩
              rcases Nat.eq_zero_or_pos len with h0 | h0
              · left;exact List.length_eq_zero_iff.1 (by show zs.length=0;omega)
              · right
                have hz0:=hz 0 zs[0] (List.getElem?_eq_getElem (by omega))
                obtain⟨us0,hr0,_,hc0⟩:=hz0
                have h00:=hc0 0 hpos
                have hl0:=Rp.len u _ _ hr0
                rw[List.getElem?_eq_getElem (by omega)] at h00
                have ha0:(a.add (0*u.size)).add 0=a:=by simp[Addr.add]
                rw[ha0] at h00
                have hspot:a.spot=none:=by
                  unfold World.cell? at h00
                  split at h00
                  · cases hs:a.spot with
                    | none=>rfl
                    | some s=>rw[hs] at h00;simp at h00
                  · cases h00
                have hblk:a.block<W.heap.size:=by
                  unfold World.cell? at h00
                  split at h00
                  · rename_i hh;exact(Array.getElem?_eq_some_iff.1 hh).1
                  · cases h00
                obtain⟨bb,oo,sp⟩:=a
                simp only at hspot hblk
                subst hspot
                refine⟨bb,oo,rfl,hblk,fun i z hzi=>?_⟩
                obtain⟨us,h5,_,h7⟩:=hz i z hzi
                refine⟨us,h5,fun j v hj=>?_⟩
                have hjl:=(List.getElem?_eq_some_iff.1 hj).1
                rw[Rp.len u _ _ h5] at hjl
                have:=h7 j hjl
                rw[Addr.add_lit,Addr.add_lit] at this
                rw[this];exact hj
            · obtain⟨i,hi⟩:=List.mem_iff_getElem?.1 hzm
              exact(hz i z hi).choose_spec.2.1
        · cases h
      · cases h
    · cases h
theorem qsF{t:TypeId}{v:Value}{d:DataW H}{p:List MemPlace}(n:Nat){c rest:Ty}(hl:qpT P n t c=some rest)(h:DataW.Trod enc P W 0 (fun _=>true) true t v d p){y:rest.T}{ws:List Value}
  (hy:Rp (fun b=>b<W.heap.size) W rest y ws∧Wf rest y):∃ z:c.T,Rp (fun b=>b<W.heap.size) W c z (v.cells.toList++ws)∧Wf c z:=by
 obtain⟨fuel,hf⟩:=h
 exact(qov n t c rest fuel _ _ hl hf).2 y ws hy.1 hy.2
def qms:Ty→Bool
 | .cons _ b=>qms b
 | .nil=>true
 | _=>false
theorem qm7{S:qab}:∀ {c:Ty} {x:c.T} {us:List Value},qms c=true→Rp S W c x us→(qcx c).all Ty.sc=true →
    us.length=(qbv c x).length∧∀(i:Nat) d u,(qbv c x)[i]? = some d→us[i]? = some u→Rp S W d.t d.x [u]
  | .cons a b,x,us,hc,⟨u1,u2,he,h1,h2⟩,hs=>by
      subst he
      simp only[qcx,List.all_cons,Bool.and_eq_true] at hs
      have hl1:=Rp.len a _ _ h1
      rw[qoV hs.1] at hl1
      obtain⟨u0,rfl⟩:=List.length_eq_one_iff.1 hl1
      obtain⟨h3,h4⟩:=qm7 (c:=b) hc h2 hs.2
      refine⟨by simp[qbv,h3],fun i d u hd hu=>?_⟩
      cases i with
      | zero =>
        simp only[qbv,List.getElem?_cons_zero,Option.some.injEq] at hd
        simp at hu
        subst hd;subst hu
        exact h1
      | succ i =>
        simp only[qbv,List.getElem?_cons_succ] at hd
        exact h4 i d u hd (by simpa using hu)
  | .nil,x,us,_,h,_=>by cases h;exact⟨rfl,fun i d u hd=>by simp[qbv] at hd⟩
  | .int _,_,_,hc,_,_=>by cases hc
  | .bool,_,_,hc,_,_=>by cases hc
  | .str,_,_,hc,_,_=>by cases hc
  | .sl _,_,_,hc,_,_=>by cases hc
  | .ptr _,_,_,hc,_,_=>by cases hc
  | .fn _ _,_,_,hc,_,_=>by cases hc
  | .lab _,_,_,hc,_,_=>by cases hc
  | .st _,_,_,hc,_,_=>by cases hc
theorem qr4{v:Value}{gs:List (Bool×Nat)}{ws:List Value}:qaR ((false,1)::gs) (v::ws)=v::qaR gs ws:=by
 simp[qaR]
theorem qtf{E:Env}{L:List (Option (Func×Pol))}{mask:List Bool}(hE:E.fn=fun f=>L.getD f none)(h:L.map (·.map Prod.fst)=(List.range L.length).map fun i=>bif mask.getD i false then E.P.funcs[i]? else none) :
  ∀ f fn pol,E.fn f=some (fn,pol)→E.P.funcs[f]? = some fn:=by
 intro f fn pol hf
 rw[hE] at hf
 simp only[List.getD_eq_getElem?_getD] at hf
 cases hl:L[f]? with
 | none=>rw[hl] at hf;cases hf
 | some o =>
  rw[hl] at hf
  simp only[Option.getD_some] at hf
  subst hf
  have h1:=congrArg (·[f]?) h
  have hlt:=(List.getElem?_eq_some_iff.1 hl).1
  simp only[List.getElem?_map,hl,Option.map_some] at h1
  rw[List.getElem?_range hlt] at h1
  simp only[Option.map_some,Option.some.injEq] at h1
  cases hm:mask.getD f false with
  | true=>rw[hm,cond_true] at h1;exact h1.symm
  | false=>rw[hm,cond_false] at h1;cases h1
theorem qsT{E:Env}{L:List (Option Sig)}(hE:E.sig=fun f=>L.getD f none) (h:((List.range L.length).all fun i=>match L.getD i none with
  | none=>true
  | some _=>match E.P.funcs[i]? with
   | some fn => fn.body.isSome && !(fn.name == "runtime.NumGoroutine")
   | none=>false)=true):∀ f sg,E.sig f=some sg→∀(args:Array Value) (w:World),(callFunc f args).run E.P w=.ok (.enter f args) w:=by
 intro f sg hf args w
 rw[hE] at hf
 have hlt:f<L.length:=by
  simp only[List.getD_eq_getElem?_getD] at hf
  cases hl:L[f]? with
  | none=>rw[hl] at hf;cases hf
  | some o=>exact(List.getElem?_eq_some_iff.1 hl).1
 have h1:=List.all_eq_true.1 h f (List.mem_range.2 hlt)
 have hf':L.getD f none=some sg:=hf
 rw[hf'] at h1
 simp only at h1
 cases hfn:E.P.funcs[f]? with
 | none=>rw[hfn] at h1;cases h1
 | some fn =>
  rw[hfn] at h1
  simp only[Bool.and_eq_true,Bool.not_eq_true'] at h1
  obtain⟨c,hc⟩:=Option.isSome_iff_exists.1 h1.1
  have h2 : fn.name ≠ "runtime.NumGoroutine" := by simpa using h1.2
  simp[callFunc,hfn,h2,hc]
theorem qsa{E:Env}(hE:EnvOk E)(hprim:∀ f p,E.prim f=some p→∀ r,qgL E (mkR r)→∀ args dv sg,E.sig f=some sg→p (mkR r) args=some dv→qaO E.gs E.P sg f args dv)
  {f:FuncId} {sg:Sig} (hsg:E.sig f=some sg) (hpm:sg.pm=[]) (hown:sg.own=[]) (hrs:sg.rs=[(false,1)]) {c:Ty} (hc:qms c=true) (hsc:(qcx c).all Ty.sc=true) {x:c.T}
  {N:Nat} (hrun:run E N f (qbv c x)=some ⟨.cons .bool .nil,(true,())⟩) (hgl:Gl E.gs W fun b=>b<W.heap.size) {us:List Value} (hr:Rp (fun b=>b<W.heap.size) W c x us) :
  Calls E.P f (qaR sg.ps us).toArray W fun e w'=>e=.returned (.bool true)∧RowKit.Below W.heap.size W w':=by
 have hcon:=qln hE hprim N f (qbv c x) _ sg hsg hrun
 obtain⟨hl,hg⟩:=qm7 hc hr hsc
 refine(hcon W (fun b=>b<W.heap.size) us (fun _ _=>False) hgl (fun _ h=>h) (fun _ _ h=>h.elim) (fun _ _ _ _ h=>h.elim) hl (fun i d u hd hu=>?_)).mono ?_
 ·rw[hpm]
  show Rp _ W d.t d.x [u]
  exact hg i d u hd hu
 ·rintro e w' ⟨rus,S',GR,GP,rfl,hA⟩
  have hn:qmV sg=1:=by unfold qmV;rw[hrs];rfl
  have hl1:rus.length=1:=by rw[hA.len,hn]
  obtain⟨u,rfl⟩:=List.length_eq_one_iff.1 hl1
  have hres:=hA.res 0 ⟨.bool,true⟩ u (by omega) rfl rfl
  rw[hown] at hres
  have hu:u=.bool true:=by
   have:Rp S' w' .bool true [u]:=hres
   simpa [Rp] using this
  refine⟨by rw[hrs,hu];rfl,?_⟩
  exact⟨hA.kin.1,hA.kin.2.1,hA.kin.2.2.1,hA.size,fun b hb=>hA.keep b hb fun _ h=>h⟩
end
end Ve
namespace Ve
open Go
def Evt(p:Nat→Prop):Prop:=∃ n0,∀ n,n0≤n→p n
theorem Evt.of{p:Nat→Prop}(h:∀ n,p n):Evt p:=⟨0,fun n _=>h n⟩
theorem Evt.mono{p q:Nat→Prop}(h:Evt p)(hpq:∀ n,p n→q n):Evt q:=let ⟨n0,h⟩:=h;⟨n0,fun n hn=>hpq n (h n hn)⟩
theorem Evt.and{p q:Nat→Prop}(h:Evt p)(k:Evt q):Evt fun n=>p n∧q n :=
 let ⟨a,h⟩:=h;let ⟨b,k⟩:=k;⟨max a b,fun n hn=>⟨h n (Nat.le_trans (Nat.le_max_left a b) hn),k n (Nat.le_trans (Nat.le_max_right a b) hn)⟩⟩
theorem Evt.succ{p:Nat→Prop}(h:Evt fun n=>p (n+1)):Evt p:=let ⟨a,h⟩:=h;⟨a+1,fun n hn=>by
 obtain⟨m,rfl⟩:∃ m,n=m+1:=⟨n-1,by omega⟩
 exact h m (by omega)⟩
theorem Evt.bind{p q:Nat→Prop}(h:Evt p)(k:Evt fun n=>p n→q n):Evt q:=(h.and k).mono fun _ h=>h.2 h.1
theorem Evt.lt{p:Nat→Nat→Prop}{k:Nat}(h:∀ i,i<k→Evt (p i)):Evt fun n=>∀ i,i<k→p i n:=by
 induction k with
 | zero=>exact⟨0,fun _ _ i hi=>by omega⟩
 | succ k ih =>
  refine((ih fun i hi=>h i (by omega)).and (h k (by omega))).mono fun n hh i hi=>?_
  rcases Nat.lt_or_ge i k with h3 | h3
  ·exact hh.1 i h3
  ·obtain rfl:i=k:=by omega
   exact hh.2
theorem Evt.some{p:Nat→Prop}(h:Evt p):∃ n,p n:=let ⟨a,h⟩:=h;⟨a,h a (Nat.le_refl _)⟩
def Ret(E:Env)(f:Nat)(args:List Dv)(d:Dv):Prop:=Evt fun n=>run E n f args=.some d
theorem qqy{E:Env}{n f:Nat}{out:Ty}{args:List Dv}{x:out.T}(h:run E n f args=some ⟨out,x⟩):qgg (mkR (run E n)) f out args=some x:=by
 simp[qgg,mkR,h,Dv.to,cast?]
theorem qag{E:Env}{n:Nat}:(mkR (run E n)).ok:=qqP _
theorem qoR{α:Type}{xs:List α}{k:Nat}:idx? xs (k:Int)=xs[k]?:=by
 unfold idx?
 have:decide (0≤(k:Int))=true:=by simp
 rw[this,cond_true,Int.toNat_natCast]
theorem qao{α:Type}{xs:List α}{k:Nat}(h:k<xs.length):idx? xs (k:Int)=some xs[k]:=by
 rw[qoR,List.getElem?_eq_getElem h]
abbrev w64(n:Int):Int:=IntKind.wrap .i64 n
theorem qai{n:Int}(h1:-9223372036854775808≤n)(h2:n≤9223372036854775807):w64 n=n:=by
 simp only[w64]
 simp only[IntKind.wrap,IntKind.bits,IntKind.signed]
 simp
 omega
theorem qah{k:Nat}(h:(k:Int)<9223372036854775807):w64 ((k:Int)+1)=((k+1:Nat):Int):=by
 rw[qai (by omega) (by omega)];omega
def Sm:(t:Ty)→t.T→Prop
 | .sl t,xs=>xs.length≤1048576∧∀ x∈xs,Sm t x
 | .st c,x=>Sm c x
 | .cons a b,x=>Sm a x.1∧Sm b x.2
 | _,_=>True
end Ve
namespace Ve
open Go
def Ev(p:(Nat→Nat)→Prop):Prop:=∃ n0,∀ φ:Nat→Nat,(∀ i,n0≤φ i)→p φ
theorem Ev.of{p:(Nat→Nat)→Prop}(h:∀ φ,p φ):Ev p:=⟨0,fun φ _=>h φ⟩
theorem Ev.mono{p q:(Nat→Nat)→Prop}(h:Ev p)(hpq:∀ φ,p φ→q φ):Ev q:=let ⟨n0,h⟩:=h;⟨n0,fun n hn=>hpq n (h n hn)⟩
theorem Ev.and{p q:(Nat→Nat)→Prop}(h:Ev p)(k:Ev q):Ev fun n=>p n∧q n :=
 let ⟨a,h⟩:=h;let ⟨b,k⟩:=k;⟨max a b,fun φ hn=>⟨h φ fun i=>Nat.le_trans (Nat.le_max_left a b) (hn i),k φ fun i=>Nat.le_trans (Nat.le_max_right a b) (hn i)⟩⟩
theorem Ev.evt{p:Nat→Prop}(h:Ev fun φ=>p (φ 0)):Evt p:=let ⟨a,h⟩:=h;⟨a,fun n hn=>h (fun _=>n) fun _=>hn⟩
theorem Evt.ev{p:Nat→Prop}(h:Evt p):Ev fun φ=>p (φ 0):=let ⟨a,h⟩:=h;⟨a,fun φ hn=>h _ (hn 0)⟩
def fup(φ:Nat→Nat)(l n:Nat):Nat→Nat:=fun i=>bif Nat.beq i l then n else φ i
theorem qnd{φ:Nat→Nat}{l n:Nat}:fup φ l n l=n:=by simp[fup]
theorem qqK{φ:Nat→Nat}{l n n0:Nat}(h:∀ i,n0≤φ i)(hn:n0≤n):∀ i,n0≤fup φ l n i:=by
 intro i;simp only[fup];cases Nat.beq i l
 ·exact h i
 ·exact hn
theorem Ev.start(l:Nat){p:(Nat→Nat)→Nat→Prop}(h:Ev fun φ=>p φ (φ l))(hp:∀ φ n n',p (fup φ l n') n→p φ n):Ev fun φ=>p φ (φ 0) :=
 let ⟨a,h⟩:=h;⟨a,fun φ hn=>hp φ (φ 0) (φ 0) (by have:=h (fup φ l (φ 0)) (qqK hn (hn 0));simp only[qnd] at this;exact this)⟩
theorem qfL(l:Nat){σ:Type}{L:(Nat→Nat)→Nat→σ→Option Dv}(hind:∀ φ n n' s,L (fup φ l n') n s=L φ n s)(Inv:σ→Prop)(res:σ→Option Dv)(μ:σ→Nat)
  (step:∀ s,Inv s→(∀ s',Inv s'→μ s'<μ s→Ev fun φ=>L φ (φ l) s'=res s')→Ev fun φ=>L φ (φ l+1) s=res s) :
  ∀ s,Inv s→Ev fun φ=>L φ (φ l) s=res s:=by
 have key:∀ d s,μ s<d→Inv s→Ev fun φ=>L φ (φ l) s=res s:=by
  intro d
  induction d with
  | zero=>intro s h;omega
  | succ d ih =>
   intro s hd hi
   obtain⟨a,h⟩:=step s hi fun s' hi' hl=>ih s' (by omega) hi'
   refine⟨a+1,fun φ hn=>?_⟩
   have h1:=hn l
   have:=h (fup φ l (φ l-1)) (qqK (fun i=>by have:=hn i;omega) (by omega))
   simp only[qnd,hind] at this;rw[Nat.sub_add_cancel (by omega)] at this
   exact this
 exact fun s=>key _ s (Nat.lt_succ_self _)
theorem qaa{E:Env}{f:Nat}{out:Ty}{args:List Dv}{x:out.T}{K:(Nat→Nat)→out.T→Option Dv}{r:Option Dv}(h:Ret E f args ⟨out,x⟩)(k:Ev fun φ=>K φ x=r) :
  Ev fun φ=>(Option.bind (qgg (mkR (run E (φ 0))) f out args) fun y=>K φ y)=r :=
 (h.ev.and k).mono fun φ ⟨h,k⟩=>by rw[qqy h];exact k
theorem qae{α:Type}{c:Option α}{x:α}{K:(Nat→Nat)→α→Option Dv}{r:Option Dv}(h:c=some x)(k:Ev fun φ=>K φ x=r) :
  Ev fun φ=>(Option.bind c fun y=>K φ y)=r:=k.mono fun φ k=>by rw[h];exact k
theorem qax{b:Bool}{K:(Nat→Nat)→Unit→Option Dv}{r:Option Dv}(h:b=true)(k:Ev fun φ=>K φ ()=r) :
  Ev fun φ=>(Option.bind (chk b) fun y=>K φ y)=r:=k.mono fun φ k=>by subst h;exact k
theorem qaB{b:Bool}{A B:(Nat→Nat)→Option Dv}{r:Option Dv}(h:b=true)(k:Ev fun φ=>A φ=r):Ev fun φ=>(bif b then A φ else B φ)=r:=by subst h;exact k
theorem qaD{b:Bool}{A B:(Nat→Nat)→Option Dv}{r:Option Dv}(h:b=false)(k:Ev fun φ=>B φ=r):Ev fun φ=>(bif b then A φ else B φ)=r:=by subst h;exact k
theorem qcs{b:Bool}{A B:(Nat→Nat)→Option Dv}{r:Option Dv}(t:b=true→Ev fun φ=>A φ=r)(f:b=false→Ev fun φ=>B φ=r):Ev fun φ=>(bif b then A φ else B φ)=r:=by
 cases b
 ·exact f rfl
 ·exact t rfl
theorem qeE{p:Prop}[Decidable p]{A B:(Nat→Nat)→Option Dv}{r:Option Dv}(t:p→Ev fun φ=>A φ=r)(f:¬ p→Ev fun φ=>B φ=r):Ev fun φ=>(bif decide p then A φ else B φ)=r:=by
 by_cases h:p
 ·exact qaB (decide_eq_true h) (t h)
 ·exact qaD (decide_eq_false h) (f h)
theorem qan{r:Option Dv}:Ev fun _=>r=r:=Ev.of fun _=>rfl
theorem qal{r r':Option Dv}(h:r=r'):Ev fun _=>r=r':=Ev.of fun _=>h
theorem Ev.to{A:(Nat→Nat)→Option Dv}{r r':Option Dv}(k:Ev fun φ=>A φ=r)(h:r=r'):Ev fun φ=>A φ=r':=by subst h;exact k
noncomputable def pb(p:Prop):Bool:=@decide p (Classical.propDecidable p)
theorem qay{p:Prop}(h:p):pb p=true:=by simp[pb,h]
theorem qaq{p:Prop}(h:¬ p):pb p=false:=by simp[pb,h]
theorem qaH{p:Prop}:pb p=true↔p:=by simp[pb]
theorem qbh{p:Prop}:pb p=false↔¬ p:=by simp[pb]
theorem qaM{p q:Prop}(h:p↔q):pb p=pb q:=by rw[Bool.eq_iff_iff,qaH,qaH,h]
theorem qdM{p:Prop}[Decidable p]:decide p=pb p:=by rw[Bool.eq_iff_iff,qaH,decide_eq_true_iff]
theorem qhG{b:Bool}{p:Prop}(h:b=true↔p):b=pb p:=by rw[Bool.eq_iff_iff,qaH,h]
theorem qak{E:Env}{f:Nat}{args:List Dv}{d:Dv}(h:Ev fun φ=>run E (φ 0+1) f args=some d):Ret E f args d:=Evt.succ (Ev.evt (p:=fun n=>run E (n+1) f args=some d) h)
theorem qnw(l:Nat){L:(Nat→Nat)→Nat→Int→Option Dv}{len:Nat}(k0:Nat)(hk0:k0≤len)(P:Nat→Prop){rt rf:Option Dv}(hind:∀ φ n n' s,L (fup φ l n') n s=L φ n s)
    (bad:∀ k,k0≤k→k<len→¬ P k→(∀ j,k0≤j→j<k→P j)→Ev fun φ=>L φ (φ l+1) (k:Int)=rf)
    (good:∀ k r,k0≤k→k<len→P k→(∀ j,k0≤j→j<k→P j)→(Ev fun φ=>L φ (φ l) ((k+1:Nat):Int)=r)→Ev fun φ=>L φ (φ l+1) (k:Int)=r)
    (fin:(∀ j,k0≤j→j<len→P j)→Ev fun φ=>L φ (φ l+1) (len:Int)=rt) :
    ((∀ j,k0≤j→j<len→P j)→Ev fun φ=>L φ (φ l) (k0:Int)=rt)∧((¬ ∀ j,k0≤j→j<len→P j)→Ev fun φ=>L φ (φ l) (k0:Int)=rf):=by
  have h:=qfL l (σ:=Nat) (L:=fun φ n k=>L φ n (k:Int)) (fun φ n n' s=>hind φ n n' s) (fun k=>k0≤k∧k≤len∧∀ j,k0≤j→j<k→P j) (fun _=>bif pb (∀ j,k0≤j→j<len→P j) then rt else rf) (fun k=>len-k) (fun k ⟨hk,hl,hp⟩ ih=>by
    by_cases hkl:k=len
    · subst hkl
      rw[qay hp];exact fin hp
    · by_cases hP:P k
      · exact good k _ hk (by omega) hP hp (ih (k+1) ⟨by omega,by omega,fun j h1 h2=>by
          by_cases hj:j=k
          · subst hj;exact hP
          · exact hp j h1 (by omega)⟩ (by omega))
      · rw[qaq fun h=>hP (h k hk (by omega))]
        exact bad k hk (by omega) hP hp) k0 ⟨Nat.le_refl _,hk0,fun j h1 h2=>by omega⟩
  constructor
  · intro hp;rw[qay hp] at h;exact h
  · intro hp;rw[qaq hp] at h;exact h
theorem qdY(l:Nat){L:(Nat→Nat)→Nat→Int→Option Dv}{len:Nat}(k0:Nat)(hk0:k0≤len)(P:Nat→Prop)(out:Bool→Option Dv)(hind:∀ φ n n' s,L (fup φ l n') n s=L φ n s)
  (bad:∀ k,k0≤k→k<len→¬ P k→(∀ j,k0≤j→j<k→P j)→Ev fun φ=>L φ (φ l+1) (k:Int)=out false)
  (good:∀ k r,k0≤k→k<len→P k→(∀ j,k0≤j→j<k→P j)→(Ev fun φ=>L φ (φ l) ((k+1:Nat):Int)=r)→Ev fun φ=>L φ (φ l+1) (k:Int)=r)
  (fin:(∀ j,k0≤j→j<len→P j)→Ev fun φ=>L φ (φ l+1) (len:Int)=out true) :
  Ev fun φ=>L φ (φ l) (k0:Int)=out (pb (∀ j,k0≤j→j<len→P j)):=by
 obtain⟨h1,h2⟩:=qnw l k0 hk0 P hind bad good fin
 by_cases h:∀ j,k0≤j→j<len→P j
 ·rw[qay h];exact h1 h
 ·rw[qaq h];exact h2 h
theorem qaw(l:Nat){α:Type}{L:(Nat→Nat)→Nat→Int→α→Option Dv}{len:Nat}(A:Nat→α){r:Option Dv}(hind:∀ φ n n' k s,L (fup φ l n') n k s=L φ n k s)
  (step:∀ k r,k<len→(Ev fun φ=>L φ (φ l) ((k+1:Nat):Int) (A (k+1))=r)→Ev fun φ=>L φ (φ l+1) (k:Int) (A k)=r)
  (fin:Ev fun φ=>L φ (φ l+1) (len:Int) (A len)=r) :
  Ev fun φ=>L φ (φ l) ((0:Nat):Int) (A 0)=r:=by
 exact qfL l (σ:=Nat) (L:=fun φ n k=>L φ n (k:Int) (A k)) (fun φ n n' s=>hind φ n n' s _) (fun k=>k≤len) (fun _=>r) (fun k=>len-k) (fun k hk ih=>by
  by_cases hkl:k=len
  ·subst hkl;exact fin
  ·exact step k r (by omega) (ih (k+1) (by show k+1≤len;omega) (by show len-(k+1)<len-k;omega))) 0 (Nat.zero_le _)
theorem qbM(l:Nat){L:(Nat→Nat)→Nat→Int→Option Dv}{len:Nat}(P:Nat→Prop)(r:Option Nat→Option Dv)(hind:∀ φ n n' s,L (fup φ l n') n s=L φ n s)
    (hit:∀ k,k<len→P k→Ev fun φ=>L φ (φ l+1) (k:Int)=r (some k))
    (go:∀ k q,k<len→¬ P k→(Ev fun φ=>L φ (φ l) ((k+1:Nat):Int)=q)→Ev fun φ=>L φ (φ l+1) (k:Int)=q)
    (fin:Ev fun φ=>L φ (φ l+1) (len:Int)=r none) :
    ∃ o:Option Nat,(∀ k,o=some k→k<len∧P k∧∀ j,j<k→¬ P j)∧(o=none→∀ j,j<len→¬ P j)∧Ev fun φ=>L φ (φ l) (0:Int)=r o:=by
  have key:∀ d k,k+d=len→(∀ j,j<k→¬ P j)→∃ o:Option Nat,(∀ k,o=some k→k<len∧P k∧∀ j,j<k→¬ P j)∧(o=none→∀ j,j<len→¬ P j)∧Ev fun φ=>L φ (φ l) (k:Int)=r o:=by
    intro d
    induction d with
    | zero =>
      intro k hk hn
      obtain rfl:k=len:=by omega
      refine⟨none,fun _ h=>(nomatch h),fun _=>hn,?_⟩
      exact qfL l (σ:=Unit) (L:=fun φ n _=>L φ n (k:Int)) (fun φ n n' _=>hind φ n n' _) (fun _=>True) (fun _=>r none) (fun _=>0) (fun _ _ _=>fin) () trivial
    | succ d ih =>
      intro k hk hn
      by_cases hP:P k
      · refine⟨some k,fun j h=>by obtain rfl:=Option.some.inj h;exact⟨by omega,hP,hn⟩,fun h=>(nomatch h),?_⟩
        exact qfL l (σ:=Unit) (L:=fun φ n _=>L φ n (k:Int)) (fun φ n n' _=>hind φ n n' _) (fun _=>True) (fun _=>_) (fun _=>0) (fun _ _ _=>hit k (by omega) hP) () trivial
      · obtain⟨o,h1,h2,h3⟩:=ih (k+1) (by omega) fun j hj=>by
          by_cases hjk:j=k
          · subst hjk;exact hP
          · exact hn j (by omega)
        refine⟨o,h1,h2,?_⟩
        exact qfL l (σ:=Unit) (L:=fun φ n _=>L φ n (k:Int)) (fun φ n n' _=>hind φ n n' _) (fun _=>True) (fun _=>_) (fun _=>0) (fun _ _ _=>go k _ (by omega) hP h3) () trivial
  exact key len 0 (by omega) fun j hj=>by omega
def o2i:Option Nat→Int | some k=>k | none=>-1
def qiF{α:Type}(p:α→Bool)(s:List α):Int:=o2i (s.findIdx? p)
theorem qdb{α:Type}{p:α→Bool}{s:List α}{o:Option Nat}(h1:∀ k,o=some k→k<s.length∧(∃ h:k<s.length,p s[k]=true)∧∀ j,j<k→¬ ∃ h:j<s.length,p s[j]=true)
  (h2:o=none→∀ j,j<s.length→¬ ∃ h:j<s.length,p s[j]=true):o2i o=qiF p s:=by
 have:s.findIdx? p=o:=by
  cases o with
  | none =>
   rw[List.findIdx?_eq_none_iff]
   intro x hx
   obtain⟨j,hj,rfl⟩:=List.mem_iff_getElem.1 hx
   have:=h2 rfl j hj
   cases h:p s[j]
   ·rfl
   ·exact absurd ⟨hj,h⟩ this
  | some k =>
   obtain⟨a,⟨_,b⟩,c⟩:=h1 k rfl
   rw[List.findIdx?_eq_some_iff_getElem]
   exact⟨a,b,fun j hj h=>c j hj ⟨by omega,h⟩⟩
 simp only[qiF,this]
theorem qbA{α:Type}{p:α→Bool}{s:List α}:0≤qiF p s↔∃ x∈s,p x=true:=by
 unfold qiF
 cases h:s.findIdx? p with
 | none =>
  rw[List.findIdx?_eq_none_iff] at h
  simp only[o2i,show ¬ (0:Int)≤-1 by omega,false_iff]
  rintro⟨x,hx,hp⟩
  rw[h x hx] at hp;cases hp
 | some k =>
  rw[List.findIdx?_eq_some_iff_getElem] at h
  obtain⟨a,b,_⟩:=h
  exact⟨fun _=>⟨_,List.getElem_mem a,b⟩,fun _=>by simp[o2i]⟩
theorem Ev.round(l:Nat){L:(Nat→Nat)→Nat→Option Dv}{r:Option Dv}(h:Ev fun φ=>L φ (φ l+1)=r)(hind:∀ φ n n',L (fup φ l n') n=L φ n):Ev fun φ=>L φ (φ l)=r :=
 qfL l (σ:=Unit) (L:=fun φ n _=>L φ n) (fun φ n n' _=>hind φ n n') (fun _=>True) (fun _=>r) (fun _=>0) (fun _ _ _=>h) () trivial
theorem qlt{n:Int}(h1:0≤n)(h2:n≤9223372036854775807):IntKind.wrap .u64 n=n:=by
 simp only[IntKind.wrap,IntKind.bits,IntKind.signed]
 simp
 omega
theorem qtc{i j:Nat}(h:i+j≤2097152):w64 (Int.fdiv (IntKind.wrap .u64 (w64 ((i:Int)+(j:Int)))) (2 ^ (min (Int.toNat (1:Int)) (IntKind.bits .u64))))=(((i+j) / 2:Nat):Int):=by
 have e1:w64 ((i:Int)+(j:Int))=(i:Int)+(j:Int):=qai (by omega) (by omega)
 have e2:IntKind.wrap .u64 ((i:Int)+(j:Int))=(i:Int)+(j:Int):=qlt (by omega) (by omega)
 have:min (Int.toNat (1:Int)) (IntKind.bits .u64)=1:=by decide
 have e3:Int.fdiv ((i:Int)+(j:Int)) (2 ^ 1)=(((i+j) / 2:Nat):Int):=by
  rw[Int.fdiv_eq_ediv_of_nonneg _ (by decide)];omega
 rw[e1,e2,this,e3]
 exact qai (by omega) (by omega)
def qnM(u:Ty)(_:Run)(args:List Dv):Option Dv:=match args with
 | [d,e]=>(d.to (.sl u)).bind fun x=>(e.to (.int .i64)).bind fun n=>if 0≤(n:Int)∧((List.length (α:=u.T) x:Int)+n)*(64*u.size)≤70368744177664 then some ⟨.cons (.sl u) .nil,(x,())⟩ else none
 | _=>none
end Ve
namespace Ve
open Go
theorem qdc{A B:(Nat→Nat)→Option Dv}{r:Option Dv}(a:Ev fun φ=>A φ=r)(b:Ev fun φ=>B φ=r):Ev fun φ=>qpQ (A φ) (B φ)=r :=
 (a.and b).mono fun φ ⟨a,b⟩=>by rw[a,b];simp[qpQ]
def qa5(f g:Nat→Int):Nat→Int
 | 0=>0
 | n+1=>qa5 f g n+f n*g n
theorem qjl{x y:Int}(hx:0≤x∧x≤250)(hy:0≤y∧y≤250):0≤x*y∧x*y≤62500:=by
 obtain⟨a,rfl⟩:=Int.eq_ofNat_of_zero_le hx.1
 obtain⟨b,rfl⟩:=Int.eq_ofNat_of_zero_le hy.1
 have:=Nat.mul_le_mul (show a≤250 by omega) (show b≤250 by omega)
 have e:(a:Int)*b=((a*b:Nat):Int):=by simp
 rw[e];omega
theorem qmx{f g:Nat→Int}:∀ {n:Nat},(∀ l,l<n→(0≤f l∧f l≤250)∧0≤g l∧g l≤250)→0≤qa5 f g n∧qa5 f g n≤62500*n
 | 0,_=>by simp[qa5]
 | n+1,h=>by
  have h1:=qmx (n:=n) fun l hl=>h l (by omega)
  have h2:=qjl (h n (by omega)).1 (h n (by omega)).2
  simp only[qa5];omega
theorem qba{f g f' g':Nat→Int}:∀ {n:Nat},(∀ l,l<n→f l=f' l∧g l=g' l)→qa5 f g n=qa5 f' g' n
 | 0,_=>rfl
 | n+1,h=>by
  simp only[qa5]
  rw[qba (n:=n) fun l hl=>h l (by omega),(h n (by omega)).1,(h n (by omega)).2]
def qat(f:Nat→Nat→Int)(C:Nat):Nat→List Int
 | 0=>[]
 | i+1=>qat f C i++(List.range C).map (f i)
theorem qas{f:Nat→Nat→Int}{C:Nat}:∀ {n:Nat},(qat f C n).length=n*C
 | 0=>by simp[qat]
 | n+1=>by rw[qat,List.length_append,qas,List.length_map,List.length_range,Nat.add_mul];omega
theorem qaE{f g:Nat→Nat→Int}{C:Nat}:∀ {n:Nat},(∀ i j,i<n→j<C→f i j=g i j)→qat f C n=qat g C n
 | 0,_=>rfl
 | n+1,h=>by
  rw[qat,qat,qaE (n:=n) fun i j hi hj=>h i j (by omega) hj]
  congr 1
  exact List.map_congr_left fun j hj=>h n j (by omega) (List.mem_range.1 hj)
theorem qb1{f:Nat→Nat→Int}{C:Nat}:∀ {n i j:Nat},i<n→j<C→(qat f C n)[i*C+j]? = some (f i j)
 | 0,_,_,h,_=>by omega
 | n+1,i,j,h,hj=>by
  rw[qat]
  by_cases hi:i<n
  ·have:=qb1 (f:=f) hi hj
   have hl:=(List.getElem?_eq_some_iff.1 this).1
   rw[List.getElem?_append_left hl];exact this
  ·obtain rfl:i=n:=by omega
   rw[List.getElem?_append_right (by rw[qas];omega),qas,Nat.add_sub_cancel_left]
   simp[hj]
theorem qlH{f:Nat→Nat→Int}{C n i:Nat}(hi:i<n):((qat f C n).take ((i+1)*C)).drop (i*C)=(List.range C).map (f i):=by
 apply List.ext_getElem?
 intro j
 rw[List.getElem?_drop,List.getElem?_take]
 by_cases hj:j<C
 ·rw[if_pos (by rw[Nat.add_mul];omega),qb1 hi hj];simp[hj]
 ·rw[if_neg (by rw[Nat.add_mul];omega)]
  rw[List.getElem?_eq_none (by simp;omega)]
theorem qa3(i K:Nat):(i:Int)*(K:Int)=((i*K:Nat):Int):=by simp
theorem qhP{i j R C:Nat}(hi:i<R)(hj:j<C):i*C+j<R*C:=by
 have:(i+1)*C≤R*C:=Nat.mul_le_mul_right _ hi
 rw[Nat.add_mul] at this;omega
theorem qeB{R C:Nat}(hR:R≤32)(hC:C≤32):R*C≤1024:=Nat.mul_le_mul hR hC
open Classical in
noncomputable def qa2(P:Nat→Prop):Nat→Nat→Option Nat
 | _,0=>none
 | a,d+1=>if P a then some a else qa2 P (a+1) d
theorem qaN{P:Nat→Prop}:∀ {d a j:Nat},qa2 P a d=some j→a≤j∧j<a+d∧P j
 | 0,a,j,h=>by simp[qa2] at h
 | d+1,a,j,h=>by
  rw[qa2] at h
  split at h
  ·rename_i hp
   obtain rfl:=Option.some.inj h
   exact⟨Nat.le_refl _,by omega,hp⟩
  ·have:=qaN h
   exact⟨by omega,by omega,this.2.2⟩
theorem qdK{P:Nat→Prop}:∀ {d a:Nat},qa2 P a d=none→∀ j,a≤j→j<a+d→¬ P j
 | 0,a,h=>fun j h1 h2=>by omega
 | d+1,a,h=>fun j h1 h2=>by
  rw[qa2] at h
  split at h
  ·cases h
  ·rename_i hp
   by_cases e:j=a
   ·subst e;exact hp
   ·exact qdK h j (by omega) (by omega)
theorem qcp{P:Nat→Prop}{d a:Nat}(h:∃ j,a≤j∧j<a+d∧P j):∃ j,qa2 P a d=some j:=by
 cases hf:qa2 P a d with
 | some j=>exact⟨j,rfl⟩
 | none =>
  obtain⟨j,h1,h2,h3⟩:=h
  exact absurd h3 (qdK hf j h1 h2)
def orN(rs:Nat→Option Dv)(rn:Option Dv):Option Nat→Option Dv
 | some j=>rs j
 | none=>rn
theorem qgi(l:Nat){L:(Nat→Nat)→Nat→Int→Option Dv}{len:Nat}(P:Nat→Prop)(rs:Nat→Option Dv)(rn:Option Dv)(hind:∀ φ n n' s,L (fup φ l n') n s=L φ n s)(a0:Nat)
  (hit:∀ k,a0≤k→k<len→P k→Ev fun φ=>L φ (φ l+1) (k:Int)=rs k)
  (go:∀ k q,a0≤k→k<len→¬ P k→(Ev fun φ=>L φ (φ l) ((k+1:Nat):Int)=q)→Ev fun φ=>L φ (φ l+1) (k:Int)=q)
  (fin:(∀ j,a0≤j→j<len→¬ P j)→Ev fun φ=>L φ (φ l+1) (len:Int)=rn):∀ d,a0+d=len→Ev fun φ=>L φ (φ l) (a0:Int)=orN rs rn (qa2 P a0 d):=by
 have key:∀ d a,a0≤a→a+d=len→(∀ j,a0≤j→j<a→¬ P j)→Ev fun φ=>L φ (φ l) (a:Int)=orN rs rn (qa2 P a d):=by
  intro d
  induction d with
  | zero =>
   intro a ha hk hn
   obtain rfl:a=len:=by omega
   exact Ev.round l (L:=fun φ n=>L φ n (a:Int)) (fin hn) (fun φ n n'=>hind φ n n' _)
  | succ d ih =>
   intro a ha hk hn
   refine Ev.round l (L:=fun φ n=>L φ n (a:Int)) ?_ (fun φ n n'=>hind φ n n' _)
   rw[qa2]
   split
   ·rename_i hp;exact hit a ha (by omega) hp
   ·rename_i hp
    exact go a _ ha (by omega) hp (ih (a+1) (by omega) (by omega) fun j h1 h2=>by
     by_cases e:j=a
     ·subst e;exact hp
     ·exact hn j h1 (by omega))
 exact fun d hd=>key d a0 (Nat.le_refl _) hd fun j h1 h2=>by omega
theorem qrY{α:Type}(pre:List α)(z x:α)(n:Nat):(pre++List.replicate (n+1) z).set pre.length x=(pre++[x])++List.replicate n z:=by
 rw[List.set_append_right _ _ (Nat.le_refl _),Nat.sub_self,List.replicate_succ,List.set_cons_zero,List.append_assoc];rfl
end Ve
namespace Ve
open Go
theorem to_some{d:Dv}{t:Ty}{x:t.T}(h:d.to t=some x):d=⟨t,x⟩:=by
 obtain⟨t',x'⟩:=d
 simp only[Dv.to,cast?] at h
 split at h
 ·rename_i e
  subst e
  simp only[Option.some.injEq] at h
  rw[h]
 ·cases h
theorem qj9{gl:Gls}{P:Program}{f:FuncId}{u:Ty}{e:TypeId}{i0:TypeInfo}{z:Value}(hs:i0.size=u.size)(hzs:z.cells.size=u.size)(hu:0<u.size)(hb:i0.bytes≤64*u.size)(hb0:0<i0.bytes)
    (room:∀(base:Option Addr) (l c n:Nat) (w:World),l≤c→c≤9223372036854775807→n≤9223372036854775807→l+n≤c→Calls P f #[.slice base l c,.int .i64 n] w fun e w'=>e=.returned (.slice base l c)∧w'=w)
    (grow:∀(base:Option Addr) (l c n:Nat) (cs:List Value) (w:World),l≤c→c<l+n→(l+n)*i0.bytes≤140737488355328→l+n≤4611686018427387904 →
      cs.length=c*i0.size→(base=none→c=0)→(∀ a,base=some a→∀(j:Nat) v,cs[j]? = some v→w.cell? (a.add j)=some v) →
      Calls P f #[.slice base l c,.int .i64 n] w fun r w' =>
        r=.returned (.slice (some ⟨w.heap.size,0,none⟩) l (grownCap w (l+n) c e)) ∧
        w'=w.drew.alloc (.cells (cs.toArray++Builtin.zeroCells z.cells (l+n-c)++Builtin.zeroCells z.cells (grownCap w (l+n) c e-(l+n))) e))
    (R:Run) {args:List Dv} {dv:Dv} (h:qnM u R args=some dv) :
    qaO gl P ⟨[(false,1),(false,1)],[.take true,.imm],.cons (.sl u) .nil,[(false,1)],[.deep],[]⟩ f args dv:=by
  match args,h with
  | [d,g],h =>
    simp only[qnM,Option.bind_eq_some_iff] at h
    obtain⟨xs,hx,n,hn,h⟩:=h
    obtain rfl:=to_some hx
    obtain rfl:=to_some hn
    split at h
    · rename_i hc
      obtain⟨h0,hbig⟩:=hc
      obtain rfl:=Option.some.inj h
      clear h hx hn
      intro w S us FP hgl hS hFP hdis hlen hpar
      match us,hlen with
      | [u0,u1],_ =>
        have hp0:qar S w (u.flat || true) u xs u0 (FP 0):=hpar 0 _ _ rfl rfl
        have hp1:[u1]=[Value.int .i64 n]:=hpar 1 _ _ rfl rfl
        obtain rfl:u1=Value.int .i64 n:=by simpa using hp1
        obtain⟨N,rfl⟩:=Int.eq_ofNat_of_zero_le h0
        rw[Bool.or_true] at hp0
        have hp0':=hp0
        obtain⟨A,c,rfl,⟨hlc,hcm⟩,hrow⟩:=hp0
        have hcm':c≤9223372036854775807:=by simp only[maxLen] at hcm;omega
        have hbig':(xs.length+N)*(64*u.size)≤70368744177664:=by
          have:(((xs.length+N)*(64*u.size):Nat):Int)≤70368744177664:=by simpa using hbig
          omega
        have hN:xs.length+N≤70368744177664:=Nat.le_trans (Nat.le_mul_of_pos_right _ (by omega)) hbig'
        by_cases hroom:xs.length+N≤c
        · refine(room A xs.length c N w hlc hcm' (by omega) hroom).mono ?_
          rintro e w' ⟨rfl,rfl⟩
          refine⟨[.slice A xs.length c],S,fun k b=>k=0∧FP 0 b,fun _ _=>False,rfl,?_⟩
          refine { mS:=fun _ h=>h,sub:=fun _ h=>.inl h,szS:=hS,size:=Nat.le_refl _,kin:=(Kin.refl _).d,keep:=fun _ _ _=>rfl,gr:=?_,gp:=fun _ _ h=>h.elim,drr:=?_,dpp:=fun _ _ _ _ h=>h.elim,drp:=fun _ _ _ _ h=>h,len:=rfl,lenO:=Nat.le_refl _,res:=?_,ios:=trivial }
          · rintro k b ⟨_,h⟩
            exact⟨(hFP 0 b h).2,(hFP 0 b h).1,.inr ⟨0,h⟩⟩
          · rintro j k b hjk ⟨rfl,_⟩ ⟨rfl,_⟩;exact hjk rfl
          · intro k d v hk hd hv
            obtain rfl:k=0:=by have hk:k<1:=hk;omega
            obtain rfl:(⟨.sl u,xs⟩:Dv)=d:=Option.some.inj hd
            obtain rfl:Value.slice A xs.length c=v:=Option.some.inj hv
            show qar S w' (u.flat || true) u xs _ _
            rw[Bool.or_true]
            exact qar.mono (fun _ h=>h) (fun _ _=>rfl) (fun _ h=>⟨rfl,h⟩) (fun _ _=>rfl) hp0'
        · have hgb:(xs.length+N)*i0.bytes≤140737488355328:=Nat.le_trans (Nat.mul_le_mul_left _ hb) (by omega)
          have hold:∃ A':Option Addr,∃ cs:List Value,∃ Gl:Nat→qab,(c=0∨A=A')∧cs.length=c*i0.size∧(A=none→c=0)∧(∀ a,A=some a→∀(j:Nat) v,cs[j]? = some v→w.cell? (a.add j)=some v) ∧
              (∀ i b,Gl i b→FP 0 b)∧(∀ i j b,i≠j→Gl i b→¬ Gl j b)∧∀(i:Nat) x,xs[i]? = some x→∃ us,El S w true u x us (Gl i)∧∀(j:Nat) v,us[j]? = some v→cs[i*u.size+j]? = some v:=by
            rcases hrow with h0 | ⟨b,arr,e',Gl,rfl,hFb,hh,hasz,hGo,hGod,hE⟩
            · subst h0
              have hx0:xs=[]:=List.length_eq_zero_iff.1 (by omega)
              subst hx0
              exact⟨none,[],fun _ _=>False,.inl rfl,by simp,fun _=>rfl,fun _ _ j v h=>by simp at h,fun _ _ h=>h.elim,fun _ _ _ _ h=>h.elim,fun i x h=>by simp at h⟩
            · refine⟨_,arr.toList,Gl,.inr rfl,by rw[Array.length_toList,hasz,hs],fun h=>by simp at h,fun a ha j v hj=>?_,fun i b h=>(hGo i b h).1,hGod,fun i x hx=>?_⟩
              · obtain rfl:(⟨b,0,none⟩:Addr)=a:=by simpa using ha
                rw[Addr.add_lit]
                exact qc0 (o:=0) (us:=arr.toList) hh (fun j u hu=>by simpa using hu) j v hj
              · obtain⟨us,h1,h2⟩:=hE i x hx
                exact⟨us,h1,fun j v hj=>by rw[Array.getElem?_toList];exact h2 j v hj⟩
          obtain⟨_,cs,Gl,_,hcl,hnil,hcs,hGF,hGd,hE⟩:=hold
          have hge:=grownCap_ge w (xs.length+N) c e
          have hcm2:=grownCap_le_maxLen w (xs.length+N) c e (by unfold maxLen;omega)
          have hcall:=grow A xs.length c N cs w hlc (by omega) hgb (by omega) hcl hnil hcs
          generalize grownCap w (xs.length+N) c e=nc at hcall hge hcm2
          refine hcall.mono ?_
          rintro r w' ⟨rfl,rfl⟩
          have hcsz:(cs.toArray++Builtin.zeroCells z.cells (xs.length+N-c)++Builtin.zeroCells z.cells (nc-(xs.length+N))).size=nc*u.size:=by
            simp only[Array.size_append,List.size_toArray,size_zeroCells,hzs,hcl,hs,← Nat.add_mul]
            congr 1;omega
          have hget:∀(j:Nat) v,cs[j]? = some v→(cs.toArray++Builtin.zeroCells z.cells (xs.length+N-c)++Builtin.zeroCells z.cells (nc-(xs.length+N)))[j]? = some v:=by
            intro j v hj
            have hjl:=(List.getElem?_eq_some_iff.1 hj).1
            rw[Array.getElem?_append_left (by simp;omega),Array.getElem?_append_left (by simpa using hjl)]
            simpa using hj
          generalize (cs.toArray++Builtin.zeroCells z.cells (xs.length+N-c)++Builtin.zeroCells z.cells (nc-(xs.length+N)))=cells at hcsz hget
          have hkeep:∀ b,b<w.heap.size→(w.drew.alloc (.cells cells e)).heap[b]? = w.heap[b]?:=fun b hb=>by show(w.heap.push _)[b]? = _;rw[Array.getElem?_push,if_neg (by omega)]
          have hsz:(w.drew.alloc (.cells cells e)).heap.size=w.heap.size+1:=by show(w.heap.push _).size=_;simp
          refine⟨[.slice (some ⟨w.heap.size,0,none⟩) xs.length nc],S,fun k b=>k=0∧(FP 0 b∨b=w.heap.size),fun _ _=>False,rfl,?_⟩
          refine { mS:=fun _ h=>h,sub:=fun _ h=>.inl h,szS:=fun b h=>by have:=hS b h;omega,size:=by omega,kin:=⟨rfl,rfl,rfl,fun _=>Nat.le_succ _⟩,keep:=fun b hb _=>hkeep b hb,gr:=?_,gp:=fun _ _ h=>h.elim,drr:=?_,dpp:=fun _ _ _ _ h=>h.elim,drp:=fun _ _ _ _ h=>h,len:=rfl,lenO:=Nat.le_refl _,res:=?_,ios:=trivial }
          · rintro k b ⟨_,h | rfl⟩
            · exact⟨(hFP 0 b h).2,by have:=(hFP 0 b h).1;omega,.inr ⟨0,h⟩⟩
            · exact⟨fun h=>by have:=hS _ h;omega,by omega,.inl (Nat.le_refl _)⟩
          · rintro j k b hjk ⟨rfl,_⟩ ⟨rfl,_⟩;exact hjk rfl
          · intro k d v hk hd hv
            obtain rfl:k=0:=by have hk:k<1:=hk;omega
            obtain rfl:(⟨.sl u,xs⟩:Dv)=d:=Option.some.inj hd
            obtain rfl:Value.slice (some ⟨w.heap.size,0,none⟩) xs.length nc=v:=Option.some.inj hv
            show qar S _ (u.flat || true) u xs _ _
            rw[Bool.or_true]
            refine⟨_,nc,rfl,⟨by omega,hcm2⟩,.inr ⟨w.heap.size,cells,e,Gl,rfl,⟨rfl,.inr rfl⟩,heap_alloc_new w.drew _,hcsz,fun i b h=>⟨⟨rfl,.inl (hGF i b h)⟩,fun he=>by have:=(hFP 0 b (hGF i b h)).1;omega⟩,hGd,fun i x hx=>?_⟩⟩
            obtain⟨us,h1,h2⟩:=hE i x hx
            exact⟨us,h1.mono (fun _ h=>h) (fun b h=>hkeep b (hS b h)) (fun _ h=>h) (fun b h=>hkeep b (hFP 0 b (hGF i b h)).1),fun j v hj=>hget _ v (h2 j v hj)⟩
    · cases h
abbrev tI:Ty:=.int .i64
abbrev tL:Ty:=.sl (.int .i64)
abbrev tLL:Ty:=.sl (.sl (.int .i64))
end Ve
namespace Ve
open Go
theorem After.imm{w w':World}{S:qab}{FP:Nat→qab}{ps:List (Bool×Nat)}{pt:List Ty}{t:Ty}{x:t.T}{us:List Value}{v:Value}(hS:∀ b,S b→b<w.heap.size)(hsz:w.heap.size≤w'.heap.size)
  (hk:∀ b,b<w.heap.size→w'.heap[b]? = w.heap[b]?) (hkin:qmJ (Sig.dr ⟨ps,[],.cons t .nil,[(false,1)],[],pt⟩) w w') (hv:Rp S w' t x [v]) :
  After w S FP ⟨ps,[],.cons t .nil,[(false,1)],[],pt⟩ us ⟨.cons t .nil,(x,())⟩ w' S [v] (fun _ _=>False) (fun _ _=>False):=by
 refine { mS:=fun _ h=>h,sub:=fun _ h=>.inl h,szS:=fun b h=>Nat.lt_of_lt_of_le (hS b h) hsz,size:=hsz,kin:=hkin,keep:=fun b h _=>hk b h,gr:=fun _ _ h=>h.elim,gp:=fun _ _ h=>h.elim,drr:=fun _ _ _ _ h=>h.elim,dpp:=fun _ _ _ _ h=>h.elim,drp:=fun _ _ _ h=>h.elim,len:=rfl,lenO:=Nat.le_refl _,res:=?_,ios:=trivial }
 intro k d u hk hd hu
 obtain rfl:k=0:=by have hk:k<1:=hk;omega
 obtain rfl:(⟨t,x⟩:Dv)=d:=Option.some.inj hd
 obtain rfl:v=u:=Option.some.inj hu
 exact hv
def qrM(n:Int):ByteArray:=⟨(Go.Lib.itoa n).toArray⟩
def qr0(R:Run)(args:List Dv):Option Dv:=match args with
 | [a,b]=>(a.to (.int .i64)).bind fun n=>(b.to (.int .i64)).bind fun k=>(chk (decide (k=(10:Int))&&decide (-9223372036854775808≤(n:Int))&&decide ((n:Int)≤9223372036854775807))).map fun _=>⟨.cons .str .nil,(qrM n,())⟩
 | _=>none
theorem qkH{b:Bool}{d dv:Dv}(h:((chk b).map fun _=>d)=some dv):b=true∧d=dv:=by
 cases b with
 | false=>cases h
 | true=>exact⟨rfl,Option.some.inj h⟩
theorem qkM{gl:Gls}{P:Program}{f:FuncId}{Tab:World→Prop}(hT:∀ w S,Gl gl w S→Tab w)
  (walk:∀(n:Int) (w:World),-9223372036854775808≤n→n≤9223372036854775807→Tab w→Calls P f #[.int .i64 n,.int .i64 10] w fun e w'=>e=.returned (.string (qrM n))∧Kin w w'∧w.heap.size≤w'.heap.size∧∀ b,b<w.heap.size→w'.heap[b]? = w.heap[b]?)
  {R:Run} {args:List Dv} {dv:Dv} (h:qr0 R args=some dv):qaO gl P ⟨[(false,1),(false,1)],[],.cons .str .nil,[(false,1)],[],[]⟩ f args dv:=by
 match args,h with
 | [a,b],h =>
  simp only[qr0,Option.bind_eq_some_iff] at h
  obtain⟨n,hn,k,hk,h⟩:=h
  obtain rfl:=to_some hn
  obtain rfl:=to_some hk
  obtain⟨h1,rfl⟩:=qkH h
  simp only[Bool.and_eq_true,decide_eq_true_eq] at h1
  obtain⟨⟨rfl,h2⟩,h3⟩:=h1
  intro w S us FP hgl hS hFP hdis hlen hpar
  match us,hlen with
  | [u0,u1],_ =>
   have hp0:[u0]=[Value.int .i64 n]:=hpar 0 _ _ rfl rfl
   have hp1:[u1]=[Value.int .i64 10]:=hpar 1 _ _ rfl rfl
   obtain rfl:u0=Value.int .i64 n:=by simpa using hp0
   obtain rfl:u1=Value.int .i64 10:=by simpa using hp1
   refine(walk n w h2 h3 (hT w S hgl)).mono ?_
   rintro e w' ⟨rfl,h4,h5,h6⟩
   exact⟨[.string (qrM n)],S,fun _ _=>False,fun _ _=>False,rfl,After.imm hS h5 h6 h4.d rfl⟩
def qjK(xs:List ByteArray)(sep:ByteArray):ByteArray:=⟨(Go.Lib.join (xs.map (·.data.toList)) sep.data.toList).toArray⟩
def qn9(R:Run)(args:List Dv):Option Dv:=match args with
 | [a,b]=>(a.to (.sl .str)).bind fun xs=>(b.to .str).bind fun sep=>(chk (decide ((qjK xs sep).size≤140737488355328)&&decide (List.length xs≤140737488355328))).map fun _=>⟨.cons .str .nil,(qjK xs sep,())⟩
 | _=>none
theorem qj8{gl:Gls}{P:Program}{f:FuncId}
  (none_:∀(a:Option Addr) (c:Nat) (sep:ByteArray) (w:World),Calls P f #[.slice a 0 c,.string sep] w fun e w'=>e=.returned (.string ⟨#[]⟩)∧w'=w)
  (walk:∀(bk o c:Nat) (xs:List ByteArray) (sep:ByteArray) (w:World),(∀(j:Nat) x,xs[j]? = some x→w.cell? ⟨bk,o+j,none⟩=some (.string x))→bk<w.heap.size→xs.length≤140737488355328→xs.length≤c →
   (Go.Lib.join (xs.map (·.data.toList)) sep.data.toList).length≤140737488355328→Calls P f #[.slice (some ⟨bk,o,none⟩) xs.length c,.string sep] w fun e w'=>e=.returned (.string (qjK xs sep))∧RowKit.Below w.heap.size w w')
  {R:Run} {args:List Dv} {dv:Dv} (h:qn9 R args=some dv):qaO gl P ⟨[(false,1),(false,1)],[],.cons .str .nil,[(false,1)],[],[.str]⟩ f args dv:=by
 match args,h with
 | [a,b],h =>
  simp only[qn9,Option.bind_eq_some_iff] at h
  obtain⟨xs,hx,sep,hs,h⟩:=h
  obtain rfl:=to_some hx
  obtain rfl:=to_some hs
  obtain⟨h1,rfl⟩:=qkH h
  simp only[Bool.and_eq_true,decide_eq_true_eq] at h1
  obtain⟨h2,h3⟩:=h1
  have h2':(Go.Lib.join (xs.map (·.data.toList)) sep.data.toList).length≤140737488355328:=h2
  intro w S us FP hgl hS hFP hdis hlen hpar
  match us,hlen with
  | [u0,u1],_ =>
   have hp0:Rp S w (.sl .str) xs [u0]:=hpar 0 _ _ rfl rfl
   have hp1:[u1]=[Value.string sep]:=hpar 1 _ _ rfl rfl
   obtain rfl:u1=Value.string sep:=by simpa using hp1
   obtain⟨A,c,hv,hc,hr⟩:=hp0
   obtain rfl:u0=.slice A xs.length c:=by simpa using hv
   rcases hr with hx | ⟨b,o,rfl,hb,he⟩
   ·subst hx
    refine(none_ A c sep w).mono ?_
    rintro e w' ⟨rfl,rfl⟩
    exact⟨[.string ⟨#[]⟩],S,fun _ _=>False,fun _ _=>False,rfl,After.imm hS (Nat.le_refl _) (fun _ _=>rfl) (Kin.refl _).d rfl⟩
   ·refine(walk b o c xs sep w (fun j x hj=>?_) (hS b hb) h3 hc h2').mono ?_
    ·obtain⟨us,h4,h5⟩:=he j x hj
     have h4:us=[Value.string x]:=h4
     subst h4
     have:=h5 0 _ rfl
     simpa [Ty.size] using this
    ·rintro e w' ⟨rfl,hbel⟩
     exact⟨[.string (qjK xs sep)],S,fun _ _=>False,fun _ _=>False,rfl,After.imm hS hbel.size (fun b' hb'=>hbel.block b' hb') ⟨hbel.os,hbel.tape,hbel.output,fun e=>by cases e⟩ rfl⟩
end Ve
namespace Ve
open Go
def qeS(s sep:ByteArray):List ByteArray:=Go.Lib.splitB sep 0 (Go.Lib.countB s sep) s
def qjq(R:Run)(args:List Dv):Option Dv:=match args with
 | [a,b]=>(a.to .str).bind fun s=>(b.to .str).bind fun sep=>(chk (decide (ByteArray.size s<4294967281)&&decide (1≤ByteArray.size sep))).map fun _=>⟨.cons (.sl .str) .nil,(qeS s sep,())⟩
 | _=>none
theorem qiU{gl:Gls}{P:Program}{f:FuncId}{Tab:World→Prop}(hT:∀ w S,Gl gl w S→Tab w)
  (walk:∀(s sep:ByteArray) (w:World),s.size<4294967281→1≤sep.size→Tab w→Calls P f #[.string s,.string sep] w fun e w'=>∃ t,e=.returned (.slice (some ⟨w.heap.size,0,none⟩) (qeS s sep).length (qeS s sep).length) ∧
   (qeS s sep).length≤4294967296∧w'=w.alloc (.cells ((qeS s sep).map Value.string).toArray t))
  {R:Run} {args:List Dv} {dv:Dv} (h:qjq R args=some dv):qaO gl P ⟨[(false,1),(false,1)],[],.cons (.sl .str) .nil,[(false,1)],[.deep],[]⟩ f args dv:=by
 match args,h with
 | [a,b],h =>
  simp only[qjq,Option.bind_eq_some_iff] at h
  obtain⟨s,hs,sep,hp,h⟩:=h
  obtain rfl:=to_some hs
  obtain rfl:=to_some hp
  obtain⟨h1,rfl⟩:=qkH h
  simp only[Bool.and_eq_true,decide_eq_true_eq] at h1
  obtain⟨h2,h3⟩:=h1
  intro w S us FP hgl hS hFP hdis hlen hpar
  match us,hlen with
  | [u0,u1],_ =>
   have hp0:[u0]=[Value.string s]:=hpar 0 _ _ rfl rfl
   have hp1:[u1]=[Value.string sep]:=hpar 1 _ _ rfl rfl
   obtain rfl:u0=Value.string s:=by simpa using hp0
   obtain rfl:u1=Value.string sep:=by simpa using hp1
   refine(walk s sep w h2 h3 (hT w S hgl)).mono ?_
   rintro e w' ⟨t,rfl,hn,rfl⟩
   generalize qeS s sep=xs at hn ⊢
   have hkeep:∀ b,b<w.heap.size→(w.alloc (.cells (xs.map Value.string).toArray t)).heap[b]? = w.heap[b]?:=fun b hb=>by show(w.heap.push _)[b]? = _;rw[Array.getElem?_push,if_neg (by omega)]
   have hsz:(w.alloc (.cells (xs.map Value.string).toArray t)).heap.size=w.heap.size+1:=by show(w.heap.push _).size=_;simp
   have hnew:(w.alloc (.cells (xs.map Value.string).toArray t)).heap[w.heap.size]? = some (.cells (xs.map Value.string).toArray t (0,0)):=by show(w.heap.push _)[w.heap.size]? = _;simp
   refine⟨[.slice (some ⟨w.heap.size,0,none⟩) xs.length xs.length],S,fun k b=>k=0∧b=w.heap.size,fun _ _=>False,rfl,?_⟩
   refine { mS:=fun _ h=>h,sub:=fun _ h=>.inl h,szS:=fun b h=>by have:=hS b h;omega,size:=by omega,kin:=⟨rfl,rfl,rfl,fun _=>Nat.le_refl _⟩,keep:=fun b hb _=>hkeep b hb,gr:=?_,gp:=fun _ _ h=>h.elim,drr:=?_,dpp:=fun _ _ _ _ h=>h.elim,drp:=fun _ _ _ _ h=>h,len:=rfl,lenO:=Nat.le_refl _,res:=?_,ios:=trivial }
   ·rintro k b ⟨_,rfl⟩
    exact⟨fun h=>by have:=hS _ h;omega,by omega,.inl (Nat.le_refl _)⟩
   ·rintro j k b hjk ⟨rfl,_⟩ ⟨rfl,_⟩;exact hjk rfl
   ·intro k d v hk hd hv
    obtain rfl:k=0:=by have hk:k<1:=hk;omega
    obtain rfl:(⟨.sl .str,xs⟩:Dv)=d:=Option.some.inj hd
    obtain rfl:Value.slice (some ⟨w.heap.size,0,none⟩) xs.length xs.length=v:=Option.some.inj hv
    show qar S _ true .str xs _ _
    refine⟨_,xs.length,rfl,⟨Nat.le_refl _,by unfold maxLen;omega⟩,.inr ⟨w.heap.size,_,t,fun _ _=>False,rfl,⟨rfl,rfl⟩,hnew,by simp[Ty.size],fun i b h=>h.elim,fun _ _ _ _ h=>h.elim,fun i x hx=>?_⟩⟩
    refine⟨[.string x],rfl,fun j v hj=>?_⟩
    match j,hj with
    | 0,hj =>
     obtain rfl:Value.string x=v:=Option.some.inj hj
     show((xs.map Value.string).toArray)[i*1+0]? = _
     rw[Nat.mul_one,Nat.add_zero,List.getElem?_toArray,List.getElem?_map,hx];rfl
theorem After.imm2{w w':World}{S:qab}{FP:Nat→qab}{ps:List (Bool×Nat)}{pt:List Ty}{t1 t2:Ty}{x1:t1.T}{x2:t2.T}{us:List Value}{v1 v2:Value}(hS:∀ b,S b→b<w.heap.size)(hsz:w.heap.size≤w'.heap.size)
  (hk:∀ b,b<w.heap.size→w'.heap[b]? = w.heap[b]?) (hkin:qmJ (Sig.dr ⟨ps,[],.cons t1 (.cons t2 .nil),[(false,1),(false,1)],[],pt⟩) w w') (hv1:Rp S w' t1 x1 [v1]) (hv2:Rp S w' t2 x2 [v2]) :
  After w S FP ⟨ps,[],.cons t1 (.cons t2 .nil),[(false,1),(false,1)],[],pt⟩ us ⟨.cons t1 (.cons t2 .nil),(x1,x2,())⟩ w' S [v1,v2] (fun _ _=>False) (fun _ _=>False):=by
 refine { mS:=fun _ h=>h,sub:=fun _ h=>.inl h,szS:=fun b h=>Nat.lt_of_lt_of_le (hS b h) hsz,size:=hsz,kin:=hkin,keep:=fun b h _=>hk b h,gr:=fun _ _ h=>h.elim,gp:=fun _ _ h=>h.elim,drr:=fun _ _ _ _ h=>h.elim,dpp:=fun _ _ _ _ h=>h.elim,drp:=fun _ _ _ h=>h.elim,len:=rfl,lenO:=Nat.le_refl _,res:=?_,ios:=trivial }
 intro k d u hk hd hu
 have hk:k<2:=hk
 match k,hk,hd,hu with
 | 0,_,hd,hu =>
  obtain rfl:(⟨t1,x1⟩:Dv)=d:=Option.some.inj hd
  obtain rfl:v1=u:=Option.some.inj hu
  exact hv1
 | 1,_,hd,hu =>
  obtain rfl:(⟨t2,x2⟩:Dv)=d:=Option.some.inj hd
  obtain rfl:v2=u:=Option.some.inj hu
  exact hv2
def rdT(l:List UInt8):Int×Bool :=
 if (Go.Lib.trimPrefix l [45]).length<1∨18<(Go.Lib.trimPrefix l [45]).length then(0,false) else match Go.Lib.parseIntB 64 l with
  | .ok v=>if Go.Lib.itoa v=l then(v,true) else(0,false)
  | _=>(0,false)
def qeq(R:Run)(args:List Dv):Option Dv:=match args with
 | [a]=>(a.to .str).bind fun s=>(chk (decide (ByteArray.size s≤281474976710656))).map fun _=>⟨.cons tI (.cons .bool .nil),((rdT s.data.toList).1,(rdT s.data.toList).2,())⟩
 | _=>none
theorem qgR{gl:Gls}{P:Program}{f:FuncId}{Tab:World→Prop}(hT:∀ w S,Gl gl w S→Tab w)
  (walk:∀(s:ByteArray) (w:World),s.size≤281474976710656→Tab w→Calls P f #[.string s] w fun e w'=>e=.returned (.tuple #[.int .i64 (rdT s.data.toList).1,.bool (rdT s.data.toList).2])∧RowKit.Below w.heap.size w w')
  {R:Run} {args:List Dv} {dv:Dv} (h:qeq R args=some dv):qaO gl P ⟨[(false,1)],[],.cons tI (.cons .bool .nil),[(false,1),(false,1)],[],[.str]⟩ f args dv:=by
 match args,h with
 | [a],h =>
  simp only[qeq,Option.bind_eq_some_iff] at h
  obtain⟨s,hs,h⟩:=h
  obtain rfl:=to_some hs
  obtain⟨h1,rfl⟩:=qkH h
  have h2:s.size≤281474976710656:=of_decide_eq_true h1
  intro w S us FP hgl hS hFP hdis hlen hpar
  match us,hlen with
  | [u0],_ =>
   have hp0:[u0]=[Value.string s]:=hpar 0 _ _ rfl rfl
   obtain rfl:u0=Value.string s:=by simpa using hp0
   refine(walk s w h2 (hT w S hgl)).mono ?_
   rintro e w' ⟨rfl,hbel⟩
   exact⟨[.int .i64 (rdT s.data.toList).1,.bool (rdT s.data.toList).2],S,fun _ _=>False,fun _ _=>False,rfl,After.imm2 hS hbel.size (fun b' hb'=>hbel.block b' hb') ⟨hbel.os,hbel.tape,hbel.output,fun e=>by cases e⟩ rfl rfl⟩
end Ve
namespace Ve
open Go
def qp9(a b:Int):Int:=if a<b then -1 else if b<a then 1 else 0
def qgX:List Int→List Int→Int
 | [],[]=>0
 | [],_::_=>-1
 | _::_,[]=>1
 | x::xs,y::ys=>if x<y then -1 else if y<x then 1 else qgX xs ys
def qed(a b:List Int):Int:=if qp9 a.length b.length≠0 then qp9 a.length b.length else qgX a b
theorem qhz{a b:Int}:qp9 a b=0↔a=b:=by unfold qp9;split<;>(try split)<;>omega
theorem qqk{a b:Int}:qp9 b a=- qp9 a b:=by unfold qp9;split<;>split<;>(try split)<;>omega
theorem qrO{a b:Int}:qp9 a b<0↔a<b:=by unfold qp9;split<;>(try split)<;>omega
theorem qom:∀ {a b:List Int},qgX a b=0↔a=b
 | [],[]=>by simp[qgX]
 | [],_::_=>by simp[qgX]
 | _::_,[]=>by simp[qgX]
 | x::xs,y::ys=>by
  have:=@qom xs ys
  simp only[qgX,List.cons.injEq]
  split
  ·constructor
   ·intro h;omega
   ·rintro⟨rfl,_⟩;omega
  ·split
   ·constructor
    ·intro h;omega
    ·rintro⟨rfl,_⟩;omega
   ·rw[this];constructor
    ·intro h;exact⟨by omega,h⟩
    ·exact fun h=>h.2
theorem qne:∀ {a b:List Int},qgX b a=- qgX a b
 | [],[]=>by simp[qgX]
 | [],_::_=>by simp[qgX]
 | _::_,[]=>by simp[qgX]
 | x::xs,y::ys=>by
  have:=@qne xs ys
  simp only[qgX]
  split<;>split<;>(try split)<;>omega
theorem qjc:∀ {a b c:List Int},qgX a b<0→qgX b c<0→qgX a c<0
 | [],[],c,h,_=>by simp[qgX] at h
 | [],_::_,[],_,h=>by simp[qgX] at h
 | [],_::_,_::_,_,_=>by simp[qgX]
 | _::_,[],_,h,_=>by simp[qgX] at h
 | _::_,_::_,[],_,h=>by simp[qgX] at h
 | x::xs,y::ys,z::zs,h1,h2=>by
  have:=@qjc xs ys zs
  simp only[qgX] at h1 h2 ⊢
  split at h1<;>split at h2<;>(try split at h1)<;>(try split at h2)<;>(try split)<;>(try split)<;>first | omega | (exact this h1 h2)
theorem qdl{a b:List Int}:qed a b=0↔a=b:=by
 unfold qed
 split
 ·rename_i h
  exact⟨fun h'=>absurd h' h,fun h'=>absurd (qhz.2 (by rw[h'])) h⟩
 ·exact qom
theorem qc2{a b:List Int}:qed b a=- qed a b:=by
 unfold qed
 rw[@qqk a.length b.length]
 split<;>split<;>first | omega | exact qne
theorem qru{a b:List Int}:qed a b<0↔a.length<b.length∨a.length=b.length∧qgX a b<0:=by
 unfold qed
 split
 ·rename_i h
  rw[qrO]
  rw[Ne,qhz] at h
  omega
 ·rename_i h
  rw[Classical.not_not,qhz] at h
  omega
theorem qjv{a b c:List Int}(h1:qed a b<0)(h2:qed b c<0):qed a c<0:=by
 rw[qru] at *
 rcases h1 with h1 | ⟨h1,h1'⟩<;>rcases h2 with h2 | ⟨h2,h2'⟩
 ·left;omega
 ·left;omega
 ·left;omega
 ·right;exact⟨by omega,qjc h1' h2'⟩
theorem qhE{a b c:List Int}(h1:¬ qed a b<0)(h2:¬ qed b c<0):¬ qed a c<0:=by
 intro h
 have e1:=@qc2 a b
 have e2:=@qc2 b c
 by_cases z:qed a b=0
 ·rw[qdl.1 z] at h;exact h2 h
 ·exact h2 (qjv (by omega) h)
def leX(a b:List Int):Bool:=decide (qed a b≤0)
def qd7(xs:List (List Int)):List (List Int):=xs.mergeSort leX
theorem qiX(xs:List (List Int)):(qd7 xs).Pairwise (fun a b=>leX a b=true):=by
 refine List.pairwise_mergeSort (fun a b c h1 h2=>?_) (fun a b=>?_) xs
 ·have h1:qed a b≤0:=of_decide_eq_true h1
  have h2:qed b c≤0:=of_decide_eq_true h2
  have e1:=@qc2 a b
  have e2:=@qc2 b c
  have e3:=@qc2 a c
  have:=qhE (a:=c) (b:=b) (c:=a) (by omega) (by omega)
  exact decide_eq_true (by omega)
 ·have e1:=@qc2 a b
  unfold leX
  by_cases h:qed a b≤0
  ·rw[decide_eq_true h];rfl
  ·rw[decide_eq_true (show qed b a≤0 by omega),Bool.or_true]
theorem qqp{xs ys:List (List Int)}(hp:ys.Perm xs)(hs:ys.Pairwise (fun a b=>leX a b=true)):ys=qd7 xs :=
 List.Perm.eq_of_pairwise (le:=fun a b=>leX a b=true) (fun a b _ _ h1 h2=>by
  have h1:qed a b≤0:=of_decide_eq_true h1
  have h2:qed b a≤0:=of_decide_eq_true h2
  have e1:=@qc2 a b
  exact qdl.1 (by omega)) hs (qiX xs) (hp.trans (List.mergeSort_perm xs leX).symm)
theorem qep(xs:List (List Int)):(qd7 xs).length=xs.length:=List.length_mergeSort _
open Classical in
noncomputable def qgr(m:Nat)(R:Run)(args:List Dv):Option Dv:=match args with
 | [d,e]=>(d.to tLL).bind fun xs=>if xs.length≤1048576∧e=⟨.fn m .nil,()⟩∧∀ x∈xs,∀ y∈xs,R.r m [⟨tL,x⟩,⟨tL,y⟩]=some ⟨.cons tI .nil,(qed x y,())⟩ then some ⟨.cons tLL .nil,(qd7 xs,())⟩ else none
 | _=>none
theorem qow{W W':World}(h:∀ b,b<W.heap.size→W'.heap[b]? = W.heap[b]?)(hs:W.heap.size≤W'.heap.size)(hk:Kin W W'):∃ q os,W'=Sort.grow (W.drewN q) os:=by
 obtain⟨k1,k2,k3,k4⟩:=hk
 refine⟨W'.drawn-W.drawn,W'.heap.extract W.heap.size W'.heap.size,?_⟩
 have hh:W'.heap=W.heap++W'.heap.extract W.heap.size W'.heap.size:=by
  apply Array.ext_getElem?
  intro i
  by_cases hi:i<W.heap.size
  ·rw[h i hi,Array.getElem?_append_left hi]
  ·rw[Array.getElem?_append_right (by omega),Array.getElem?_extract]
   by_cases hi2:i<W'.heap.size
   ·rw[if_pos (by omega)];congr 1;omega
   ·rw[if_neg (by omega),Array.getElem?_eq_none (by omega)]
 have hd:W.drawn+(W'.drawn-W.drawn)=W'.drawn:=by omega
 generalize W'.heap.extract W.heap.size W'.heap.size=os at hh
 cases W' with
 | mk heap tape drawn os' output =>
  cases W with
  | mk heap0 tape0 drawn0 os0 output0 =>
   simp only at k1 k2 k3 k4 hh hd
   subst k1 k2 k3 hh
   simp only[Sort.grow,World.drewN]
   rw[hd]
theorem qiI{gl:Gls}{P:Program}{f m:FuncId}
    (walk:∀(enc:Nat→Value),Go.Proofs.OneCell enc→∀(cf:Nat→Nat→Int),Sort.SWO (Go.Proofs.ltOf cf)→∀(blk cap:Nat) (d:Array Nat) (w:World),Go.Proofs.CmpLays1 P m #[] enc cf blk 0 d.size w→Sort.Holds enc w blk 0 d→blk<w.heap.size→d.size<4611686018427387904 →
      Calls P f #[.slice (some ⟨blk,0,none⟩) d.size cap,.func (.func m) #[] #[]] w fun e w'=>e=.returned (.tuple #[])∧∃ d' n os,Sort.PermIn 0 d.size d d'∧Sort.SortedIn (Go.Proofs.ltOf cf) 0 d.size d'∧w'=Go.Proofs.sortWorld enc w blk 0 n d' os)
    (nothing:∀(A:Option Addr) (cap:Nat) (fv:Value) (w:World),Calls P f #[.slice A 0 cap,fv] w fun e w'=>e=.returned (.tuple #[])∧w'.heap=w.heap∧Kin w w')
    {R:Run} (hR:∀ args dv,R.r m args=some dv→qaO gl P ⟨[(false,1),(false,1)],[],.cons tI .nil,[(false,1)],[],[]⟩ m args dv)
    {args:List Dv} {dv:Dv} (h:qgr m R args=some dv):qaO gl P ⟨[(false,1),(false,1)],[.io true,.imm],.cons tLL .nil,[],[],[]⟩ f args dv:=by
  match args,h with
  | [d,e0],h =>
    simp only[qgr,Option.bind_eq_some_iff] at h
    obtain⟨xs,hx,h⟩:=h
    obtain rfl:=to_some hx
    split at h
    · rename_i hc
      obtain⟨hxl,rfl,hcmp⟩:=hc
      obtain rfl:=Option.some.inj h
      have hsl:=qep xs
      intro w S us FP hgl hS hFP hdis hlen hpar
      match us,hlen with
      | [u0,u1],_ =>
        have hp0:qar S w true tL xs u0 (FP 0):=hpar 0 _ _ rfl rfl
        have hp1:Rp S w (.fn m .nil) () [u1]:=hpar 1 _ _ rfl rfl
        obtain⟨us1,hus1,hnil⟩:=hp1
        have hnil:us1=[]:=hnil
        subst hnil
        obtain rfl:u1=.func (.func m) #[] #[]:=by simpa using hus1
        obtain⟨A,c,rfl,⟨hlc,hcm⟩,hrow⟩:=hp0
        rcases hrow with hc0 | ⟨b,arr,e,G,rfl,hFb,hh,hasz,hGo,hGd,hE⟩
        · have hx0:xs=[]:=List.length_eq_zero_iff.1 (by omega)
          subst hx0
          refine(nothing A c _ w).mono ?_
          rintro e w' ⟨rfl,hw,hk⟩
          refine⟨[],S,fun _ _=>False,fun _ _=>False,rfl,?_⟩
          refine { mS:=fun _ h=>h,sub:=fun _ h=>.inl h,szS:=fun b h=>by rw[hw];exact hS b h,size:=by rw[hw];exact Nat.le_refl _,kin:=hk.d,keep:=fun _ _ _=>by rw[hw],gr:=fun _ _ h=>h.elim,gp:=fun _ _ h=>h.elim,drr:=fun _ _ _ _ h=>h.elim,dpp:=fun _ _ _ _ h=>h.elim,drp:=fun _ _ _ h=>h.elim,len:=rfl,lenO:=Nat.zero_le _,res:=fun k d u hk=>absurd hk (Nat.not_lt_zero k),ios:=?_ }
          exact⟨_,_,_,rfl,rfl,⟨A,c,by rw[hsl],⟨by rw[hsl];exact hlc,hcm⟩,.inl hc0⟩,trivial⟩
        · have hbw:b<w.heap.size:=(hFP 0 b hFb).1
          have hasz':arr.size=c:=by rw[hasz];simp[Ty.size]
          have hcell:∀ j (hj:j<xs.length),∃ u,arr[j]? = some u∧DRp w tL xs[j] [u] (G j):=fun j hj=>by
            obtain⟨us,h1,h2⟩:=hE j xs[j] (List.getElem?_eq_getElem hj)
            have h1:DRp w tL xs[j] us (G j):=h1
            have hl:=h1.len
            match us,hl with
            | [u],_=>exact⟨u,by have:=h2 0 u rfl;simpa [Ty.size] using this,h1⟩
          by_cases hn0:xs.length=0
          · have hx0:xs=[]:=List.length_eq_zero_iff.1 hn0
            subst hx0
            refine(nothing _ c _ w).mono ?_
            rintro e2 w' ⟨rfl,hw,hk⟩
            refine⟨[],S,fun _ _=>False,fun j x=>j=0∧FP 0 x,rfl,?_⟩
            refine { mS:=fun _ h=>h,sub:=fun _ h=>.inl h,szS:=fun b h=>by rw[hw];exact hS b h,size:=by rw[hw];exact Nat.le_refl _,kin:=hk.d,keep:=fun _ _ _=>by rw[hw],gr:=fun _ _ h=>h.elim,gp:=?_,drr:=fun _ _ _ _ h=>h.elim,dpp:=?_,drp:=fun _ _ _ h=>h.elim,len:=rfl,lenO:=Nat.zero_le _,res:=fun k d u hk=>absurd hk (Nat.not_lt_zero k),ios:=?_ }
            · rintro j x ⟨_,hx⟩;exact⟨(hFP 0 x hx).2,by rw[hw];exact(hFP 0 x hx).1,.inr ⟨0,hx⟩⟩
            · rintro j j' x hjj ⟨rfl,_⟩ ⟨rfl,_⟩;exact hjj rfl
            · exact⟨_,_,_,rfl,rfl,⟨some ⟨b,0,none⟩,c,by rw[hsl],⟨by rw[hsl];exact hlc,hcm⟩,.inr ⟨b,arr,e,fun _ _=>False,rfl,⟨rfl,hFb⟩,by rw[hw];exact hh,hasz,fun _ _ h=>h.elim,fun _ _ _ _ h=>h.elim,fun j x hx=>by
                have hl:(qd7 ([]:List (List Int))).length=0:=hsl
                rw[List.length_eq_zero_iff.1 hl] at hx;simp at hx⟩⟩,trivial⟩
          have ix:∀ i,min i (xs.length-1)<xs.length:=fun i=>by omega
          obtain⟨enc,henc⟩:∃ enc:Nat→Value,enc=fun i=>arr.getD (min i (xs.length-1)) Go.undef:=⟨_,rfl⟩
          have encOf:∀ i,∃ u,enc i=u∧arr[min i (xs.length-1)]? = some u∧DRp w tL (xs[min i (xs.length-1)]'(ix i)) [u] (G (min i (xs.length-1))):=fun i=>by
            obtain⟨u,h1,h2⟩:=hcell _ (ix i)
            refine⟨u,?_,h1,h2⟩
            rw[henc]
            simp only[Array.getD_eq_getD_getElem?,h1,Option.getD_some]
          have h1c:Go.Proofs.OneCell enc:=fun i=>by
            obtain⟨u,e1,_,hd⟩:=encOf i
            rw[e1]
            obtain⟨A',c',hv,_⟩:=hd
            obtain rfl:u=.slice A' _ c':=by simpa using hv
            rfl
          obtain⟨cf,hcf⟩:∃ cf:Nat→Nat→Int,cf=fun i j=>qed (xs[min i (xs.length-1)]'(ix i)) (xs[min j (xs.length-1)]'(ix j)):=⟨_,rfl⟩
          have hO:Sort.SWO (Go.Proofs.ltOf cf):=by
            constructor
            · intro x;rw[hcf];refine decide_eq_false ?_;show ¬ qed _ _<0;rw[qdl.2 rfl];omega
            · intro x y z h1 h2;rw[hcf] at *;exact decide_eq_true (qjv (of_decide_eq_true h1) (of_decide_eq_true h2))
            · intro x y z h1 h2;rw[hcf] at *;exact decide_eq_false (qhE (of_decide_eq_false h1) (of_decide_eq_false h2))
          have hsw:∀(q:Nat) (os:Array Go.Obj) (dk:Array Nat),(∀ bb,bb<w.heap.size→bb≠b→(Go.Proofs.sortWorld enc w b 0 q dk os).heap[bb]? = w.heap[bb]?)∧w.heap.size≤(Go.Proofs.sortWorld enc w b 0 q dk os).heap.size∧Kin w (Go.Proofs.sortWorld enc w b 0 q dk os) ∧
              (Go.Proofs.sortWorld enc w b 0 q dk os).heap[b]? = some (.cells (Sort.putCells enc 0 dk arr) e (0,0)):=fun q os dk=>by
            have hheap:(Go.Proofs.sortWorld enc w b 0 q dk os).heap=(w.heap.modify b (Sort.onCells (Sort.putCells enc 0 dk)))++os:=rfl
            refine⟨fun bb h1 h2=>?_,by rw[hheap];simp,⟨rfl,rfl,rfl,Nat.le_add_right _ _⟩,?_⟩
            · rw[hheap,Array.getElem?_append_left (by simpa using h1),Array.getElem?_modify,if_neg (Ne.symm h2)]
            · rw[hheap,Array.getElem?_append_left (by simpa using hbw),Array.getElem?_modify,if_pos rfl,hh];rfl
          have hG:∀ i bb,G i bb→bb<w.heap.size∧bb≠b:=fun i bb h=>⟨(hFP 0 bb (hGo i bb h).1).1,(hGo i bb h).2⟩
          have hlays:Go.Proofs.CmpLays1 P m #[] enc cf b 0 (Array.range xs.length).size w:=by
            intro q os dk hdk x y
            obtain⟨s1,s2,s3,s4⟩:=hsw q os dk
            obtain⟨ux,ex,_,dx⟩:=encOf x
            obtain⟨uy,ey,_,dy⟩:=encOf y
            have hcon:=hR _ _ (hcmp _ (List.getElem_mem (ix x)) _ (List.getElem_mem (ix y))) (Go.Proofs.sortWorld enc w b 0 q dk os) (fun bb=>S bb∨∃ i,G i bb) [enc x,enc y] (fun _ _=>False) (hgl.mono (fun _ h=>.inl h) fun bb h=>s1 bb (hS bb h) fun e=>(hFP 0 b hFb).2 (e ▸ h)) (fun bb h=>h.elim (fun h=>Nat.lt_of_lt_of_le (hS bb h) s2) fun⟨i,h⟩=>Nat.lt_of_lt_of_le (hG i bb h).1 s2) (fun _ _ h=>h.elim) (fun _ _ _ _ h=>h.elim) rfl (fun j dd v hd hv=>by
              have lift:∀(i:Nat) (X:List Int) (u:Value),DRp w tL X [u] (G i)→Rp (fun bb=>S bb∨∃ i,G i bb) (Go.Proofs.sortWorld enc w b 0 q dk os) tL X [u]:=fun i X u hX =>
                Rp.mono (fun _ h=>.inr h) (fun bb ⟨i,h⟩=>s1 bb (hG i bb h).1 (hG i bb h).2) tL X [u] (DRp.freeze (S:=fun bb=>∃ i,G i bb) tL X [u] (fun bb h=>⟨i,h⟩) hX)
              match j,hd,hv with
              | 0,hd,hv =>
                obtain rfl:(⟨tL,_⟩:Dv)=dd:=Option.some.inj hd
                obtain rfl:enc x=v:=Option.some.inj hv
                rw[ex];exact lift _ _ _ dx
              | 1,hd,hv =>
                obtain rfl:(⟨tL,_⟩:Dv)=dd:=Option.some.inj hd
                obtain rfl:enc y=v:=Option.some.inj hv
                rw[ey];exact lift _ _ _ dy)
            refine Calls.mono hcon ?_
            rintro e2 w2 ⟨rus,S2,GR,GP,rfl,aft⟩
            have hrus:rus=[.int .i64 (cf x y)]:=by
              have hl:=aft.len
              match rus,hl with
              | [v],_ =>
                have:[v]=[Value.int .i64 _]:=aft.res 0 ⟨tI,_⟩ v Nat.zero_lt_one rfl rfl
                rw[this,hcf]
            subst hrus
            exact⟨rfl,qow (fun bb hb=>aft.keep bb hb fun _ h=>h) aft.size aft.kin.s⟩
          have hH:Sort.Holds enc w b 0 (Array.range xs.length):=fun j hj=>by
            have hj:j<xs.length:=by simpa using hj
            obtain⟨u,e1,h1,_⟩:=encOf j
            have hm:min j (xs.length-1)=j:=by omega
            rw[hm] at h1
            constructor
            · have:=qc0 (o:=0) (us:=arr.toList) hh (fun j u hu=>by simpa using hu) j u (by simpa using h1)
              rw[getElem!_pos _ _ (by simpa using hj)]
              simpa [e1] using this
            · simp[World.frozen?,hh]
          have hcall:=walk enc h1c cf hO b c (Array.range xs.length) w hlays hH hbw (by simp;omega)
          rw[Array.size_range] at hcall
          refine hcall.mono ?_
          rintro e2 w' ⟨rfl,d',q,os,hperm,hsorted,rfl⟩
          obtain⟨s1,s2,s3,s4⟩:=hsw q os d'
          generalize Go.Proofs.sortWorld enc w b 0 q d' os=w' at s1 s2 s3 s4
          obtain⟨hd1,_,hd3⟩:=hperm
          rw[Array.size_range] at hd1
          have hpl:d'.toList.Perm (List.range xs.length):=by
            have e1:d'.extract 0 xs.length=d':=by rw[← hd1,Array.extract_size]
            have e2:(Array.range xs.length).extract 0 xs.length=Array.range xs.length:=by
              conv=>lhs;arg 3;rw[← Array.size_range (n:=xs.length)]
              rw[Array.extract_size]
            rw[e1,e2,Array.toList_range] at hd3
            exact hd3
          have hdl:d'.toList.length=xs.length:=by simpa using hd1
          have hlt:∀ i (hi:i<d'.toList.length),d'.toList[i]<xs.length:=fun i hi=>List.mem_range.1 (hpl.mem_iff.1 (List.getElem_mem hi))
          have hinj:∀ i j (hi:i<d'.toList.length) (hj:j<d'.toList.length),d'.toList[i]=d'.toList[j]→i=j:=fun i j hi hj hij=>by
            have hnd:d'.toList.Nodup:=hpl.nodup_iff.2 List.nodup_range
            have hp:=List.pairwise_iff_getElem.1 hnd
            rcases Nat.lt_trichotomy i j with h | h | h
            · exact absurd hij (hp i j hi hj h)
            · exact h
            · exact absurd hij.symm (hp j i hj hi h)
          obtain⟨ys,hys⟩:∃ ys,ys=d'.toList.map fun k=>xs.getD k []:=⟨_,rfl⟩
          have hyx:ys.Perm xs:=by
            have e:(List.range xs.length).map (fun k=>xs.getD k [])=xs:=by
              apply List.ext_getElem
              · simp
              · intro i h1 h2
                rw[List.getElem_map,List.getElem_range,List.getD_eq_getElem?_getD,List.getElem?_eq_getElem h2];rfl
            have:=hpl.map fun k=>xs.getD k []
            rw[e,← hys] at this
            exact this
          have hget:∀ i (hi:i<d'.toList.length),d'[i]! = d'.toList[i]:=fun i hi=>by
            rw[getElem!_pos _ _ (by simpa using hi)];rfl
          have hyp:ys.Pairwise (fun a b=>leX a b=true):=by
            rw[List.pairwise_iff_getElem]
            intro i j hi hj hij
            have hi':i<d'.toList.length:=by rw[hys,List.length_map] at hi;exact hi
            have hj':j<d'.toList.length:=by rw[hys,List.length_map] at hj;exact hj
            have:=hsorted i j (Nat.zero_le _) hij (by omega)
            rw[hget i hi',hget j hj',hcf] at this
            have hni:=of_decide_eq_false this
            have li:=hlt i hi'
            have lj:=hlt j hj'
            have mi:min d'.toList[i] (xs.length-1)=d'.toList[i]:=by omega
            have mj:min d'.toList[j] (xs.length-1)=d'.toList[j]:=by omega
            simp only[mi,mj] at hni
            have ei:ys[i]=xs[d'.toList[i]]:=by
              simp only[hys,List.getElem_map]
              rw[List.getD_eq_getElem?_getD,List.getElem?_eq_getElem li];rfl
            have ej:ys[j]=xs[d'.toList[j]]:=by
              simp only[hys,List.getElem_map]
              rw[List.getD_eq_getElem?_getD,List.getElem?_eq_getElem lj];rfl
            have e3:=@qc2 xs[d'.toList[i]] xs[d'.toList[j]]
            rw[ei,ej]
            exact decide_eq_true (by omega)
          have hyS:ys=qd7 xs:=qqp hyx hyp
          rw[← hyS]
          have hyl:ys.length=xs.length:=by rw[hys,List.length_map];exact hdl
          have hput:∀ cs:Array Value,Sort.putCells enc 0 d' cs=cs.mapIdx fun k x=>if k<xs.length then enc d'[k]! else x:=fun cs=>by
            unfold Sort.putCells
            congr 1
            funext k x
            simp[hd1]
          refine⟨[],S,fun _ _=>False,fun j x=>j=0∧(x=b∨∃ i,G i x),rfl,?_⟩
          refine { mS:=fun _ h=>h,sub:=fun _ h=>.inl h,szS:=fun b h=>Nat.lt_of_lt_of_le (hS b h) s2,size:=s2,kin:=s3.d,keep:=fun b' h1 h2=>s1 b' h1 fun e=>h2 0 (e ▸ hFb),gr:=fun _ _ h=>h.elim,gp:=?_,drr:=fun _ _ _ _ h=>h.elim,dpp:=?_,drp:=fun _ _ _ h=>h.elim,len:=rfl,lenO:=Nat.zero_le _,res:=fun k d u hk=>absurd hk (Nat.not_lt_zero k),ios:=?_ }
          · rintro j x ⟨_,rfl | ⟨i,hi⟩⟩
            · exact⟨(hFP 0 x hFb).2,Nat.lt_of_lt_of_le hbw s2,.inr ⟨0,hFb⟩⟩
            · exact⟨(hFP 0 x (hGo i x hi).1).2,Nat.lt_of_lt_of_le (hG i x hi).1 s2,.inr ⟨0,(hGo i x hi).1⟩⟩
          · rintro j j' x hjj ⟨rfl,_⟩ ⟨rfl,_⟩;exact hjj rfl
          · refine⟨_,_,_,rfl,rfl,⟨some ⟨b,0,none⟩,c,by rw[hyl],⟨by rw[hyl];exact hlc,hcm⟩,.inr ⟨b,_,e,fun i x=>i<xs.length∧G d'[i]! x,rfl,⟨rfl,.inl rfl⟩,s4,?_,?_,?_,fun j x hx=>?_⟩⟩,trivial⟩
            · rw[hput];simp[hasz]
            · rintro i x ⟨_,hx⟩;exact⟨⟨rfl,.inr ⟨_,hx⟩⟩,(hG _ x hx).2⟩
            · rintro i j x hij ⟨hi,h1⟩ ⟨hj,h2⟩
              have hi':i<d'.toList.length:=by omega
              have hj':j<d'.toList.length:=by omega
              rw[hget i hi'] at h1
              rw[hget j hj'] at h2
              exact hGd _ _ x (fun e=>hij (hinj i j hi' hj' e)) h1 h2
            · have hx:ys[j]? = some x:=hx
              obtain⟨hjl,hjx⟩:=List.getElem?_eq_some_iff.1 hx
              have hj':j<d'.toList.length:=by omega
              have lj:=hlt j hj'
              obtain⟨u,e1,e2,hd⟩:=encOf d'.toList[j]
              have mj:min d'.toList[j] (xs.length-1)=d'.toList[j]:=by omega
              simp only[mj] at e2 hd
              have ej:x=xs[d'.toList[j]]:=by
                rw[← hjx]
                simp only[hys,List.getElem_map]
                rw[List.getD_eq_getElem?_getD,List.getElem?_eq_getElem lj];rfl
              refine⟨[u],?_,fun r u' hu'=>?_⟩
              · show DRp w' tL x [u] _
                rw[ej]
                refine DRp.mono tL _ [u] (fun bb h=>⟨by omega,by rw[hget j hj'];exact h⟩) (fun bb h=>s1 bb (hG _ bb h).1 (hG _ bb h).2) hd
              · match r,hu' with
                | 0,hu' =>
                  obtain rfl:u=u':=Option.some.inj hu'
                  rw[hput,Array.getElem?_mapIdx]
                  have hja:j*Ty.size tL+0=j:=by simp[Ty.size]
                  obtain⟨v,hv,_⟩:=hcell j (by omega)
                  rw[hja,hv,Option.map_some,if_pos (by omega),hget j hj',e1]
    · cases h
end Ve
namespace Ve
open Go
def sel{α:Type}:List Bool→List α→List α
 | true::ms,x::l=>x::sel ms l
 | false::ms,x::l=>sel ms l
 | _,_=>[]
def pos:List Bool→Nat→Nat
 | true::ms,0=>0
 | true::ms,j+1=>pos ms j+1
 | false::ms,j=>pos ms j+1
 | [],j=>j
theorem qnf:∀ {ms:List Bool} {j k:Nat},j<k→pos ms j<pos ms k
 | true::ms,0,k+1,h=>by simp[pos]
 | true::ms,j+1,k+1,h=>by have:=qnf (ms:=ms) (j:=j) (k:=k) (by omega);simp only[pos];omega
 | false::ms,j,k,h=>by have:=qnf (ms:=ms) h;simp only[pos];omega
 | [],j,k,h=>h
theorem qrF{ms:List Bool}{j k:Nat}(h:pos ms j=pos ms k):j=k:=by
 rcases Nat.lt_trichotomy j k with h1 | h1 | h1
 ·have:=qnf (ms:=ms) h1;omega
 ·exact h1
 ·have:=qnf (ms:=ms) h1;omega
theorem qmn{α:Type}:∀ {ms:List Bool} {l:List α} {j:Nat} {x:α},(sel ms l)[j]? = some x→l[pos ms j]? = some x
 | true::ms,y::l,0,x,h=>by simpa [sel,pos] using h
 | true::ms,y::l,j+1,x,h=>by simp only[sel,List.getElem?_cons_succ] at h;simp only[pos,List.getElem?_cons_succ];exact qmn h
 | false::ms,y::l,j,x,h=>by simp only[sel] at h;simp only[pos,List.getElem?_cons_succ];exact qmn h
 | true::ms,[],j,x,h=>by simp[sel] at h
 | false::ms,[],j,x,h=>by simp[sel] at h
 | [],l,j,x,h=>by simp[sel] at h
theorem qkx{α β:Type}{f:α→β}:∀ {ms:List Bool} {l:List α},sel ms (l.map f)=(sel ms l).map f
 | true::ms,y::l=>by simp[sel,qkx]
 | false::ms,y::l=>by simp[sel,qkx]
 | true::ms,[]=>rfl
 | false::ms,[]=>rfl
 | [],l=>by cases l<;>rfl
theorem qmA{α:Type}:∀ {ms:List Bool} {l:List α},(sel ms l).length≤l.length
 | true::ms,y::l=>by have:=qmA (ms:=ms) (l:=l);simp[sel];omega
 | false::ms,y::l=>by have:=qmA (ms:=ms) (l:=l);simp[sel];omega
 | true::ms,[]=>by simp[sel]
 | false::ms,[]=>by simp[sel]
 | [],l=>by simp[sel]
theorem qjZ{α β:Type}:∀ {vs:List α} {xs:List β},vs.length=xs.length→(vs.zip xs).map Prod.snd=xs
 | [],[],_=>rfl
 | v::vs,x::xs,h=>by simp only[List.zip_cons_cons,List.map_cons];rw[qjZ (by simpa using h)]
end Ve
namespace Ve
open Go
theorem qj2{gl:Gls}{P:Program}{f:FuncId}{ps:List (Bool×Nat)}{pt:List Ty}{d1:Dv}{xs:List (List Int)}{ms:List Bool}
    (hL:∀ vs:List Value,vs.length=xs.length→qaO gl P ⟨ps,[.take false,.imm],.cons (.sl (.lab tL)) .nil,[(false,1)],[.own],pt⟩ f [⟨.sl (.lab tL),vs.zip xs⟩,d1] ⟨.cons (.sl (.lab tL)) .nil,(sel ms (vs.zip xs),())⟩) :
    qaO gl P ⟨ps,[.take true,.imm],.cons tLL .nil,[(false,1)],[.deep],pt⟩ f [⟨tLL,xs⟩,d1] ⟨.cons tLL .nil,(sel ms xs,())⟩:=by
  intro w S us FP hgl hS hFP hdis hlen hpar
  match us,hlen with
  | [u0,u1],_ =>
    have hp0:qar S w true tL xs u0 (FP 0):=hpar 0 _ _ rfl rfl
    have hp1:Rp S w d1.t d1.x [u1]:=hpar 1 _ _ rfl rfl
    obtain⟨A,c,rfl,⟨hlc,hcm⟩,hrow⟩:=hp0
    obtain⟨vs,G,B,hvl,hG,hGB,hB,hGd,hE,hOwn⟩:∃ vs:List Value,∃ G:Nat→qab,∃ B:qab,vs.length=xs.length∧(∀ i b,G i b→FP 0 b)∧(∀ i b,G i b→¬ B b)∧(∀ b,B b→FP 0 b)∧(∀ i j b,i≠j→G i b→¬ G j b) ∧
        (∀ i v x,(vs.zip xs)[i]? = some (v,x)→DRp w tL x [v] (G i))∧qar (fun b=>S b∨∃ i,G i b) w false (.lab tL) (vs.zip xs) (.slice A xs.length c) B:=by
      rcases hrow with hc0 | ⟨b,arr,e,G,rfl,hFb,hh,hasz,hGo,hGd,hE⟩
      · have hx:xs=[]:=List.length_eq_zero_iff.1 (by omega)
        subst hx
        exact⟨[],fun _ _=>False,fun _=>False,rfl,fun _ _ h=>h.elim,fun _ _ h=>h.elim,fun _ h=>h.elim,fun _ _ _ _ h=>h.elim,fun i v x h=>by simp at h,A,c,rfl,⟨Nat.zero_le _,hcm⟩,.inl hc0⟩
      · have hsz:arr.size=c:=by rw[hasz];simp[Ty.size]
        have hvl:(arr.toList.take xs.length).length=xs.length:=by rw[List.length_take,show arr.toList.length=c by simpa using hsz];omega
        have hcell:∀(i:Nat) v x,((arr.toList.take xs.length).zip xs)[i]? = some (v,x)→DRp w tL x [v] (G i)∧arr[i]? = some v:=fun i v x hi=>by
          rw[List.getElem?_zip_eq_some] at hi
          obtain⟨h1,h2⟩:=hi
          have hil:i<xs.length:=(List.getElem?_eq_some_iff.1 h2).1
          rw[List.getElem?_take_of_lt hil,Array.getElem?_toList] at h1
          obtain⟨us,h3,h4⟩:=hE i x h2
          have h3:DRp w tL x us (G i):=h3
          have hl:=h3.len
          match us,hl with
          | [u],_ =>
            have h5:=h4 0 u rfl
            simp only[Ty.size,Nat.mul_one,Nat.add_zero] at h5
            rw[h5] at h1
            obtain rfl:=Option.some.inj h1
            exact⟨h3,h5⟩
        have hzl:((arr.toList.take xs.length).zip xs).length=xs.length:=by rw[List.length_zip,hvl,Nat.min_self]
        refine⟨arr.toList.take xs.length,G,fun b'=>b'=b,hvl,fun i b h=>(hGo i b h).1,fun i b' h=>(hGo i b' h).2,fun b' h=>h ▸ hFb,hGd,fun i v x h=>(hcell i v x h).1,some ⟨b,0,none⟩,c,by rw[hzl],by rw[hzl];exact⟨hlc,hcm⟩,?_⟩
        refine .inr ⟨b,arr,e,fun _ _=>False,rfl,rfl,hh,by rw[hsz];simp[Ty.size],fun _ _ h=>h.elim,fun _ _ _ _ h=>h.elim,fun i y hy=>?_⟩
        obtain⟨v,x⟩:=y
        obtain⟨h1,h2⟩:=hcell i v x hy
        refine⟨[v],⟨rfl,DRp.freeze (S:=fun b=>S b∨∃ i,G i b) tL x [v] (fun b h=>.inr ⟨i,h⟩) h1⟩,fun j u hu=>?_⟩
        match j,hu with
        | 0,hu =>
          obtain rfl:=Option.some.inj hu
          simpa [Ty.size] using h2
        | j+1,hu=>simp at hu
    refine Calls.mono (hL vs hvl w (fun b=>S b∨∃ i,G i b) [.slice A xs.length c,u1] (fun i b=>i=0∧B b) (hgl.mono (fun _ h=>.inl h) fun _ _=>rfl) (fun b h=>h.elim (hS b) fun⟨i,h⟩=>(hFP 0 b (hG i b h)).1) (fun i b h=>⟨(hFP 0 b (hB b h.2)).1,fun h'=>h'.elim (hFP 0 b (hB b h.2)).2 fun⟨j,hj⟩=>hGB j b hj h.2⟩) (fun i j b hij h1 h2=>hij (h1.1.trans h2.1.symm)) rfl (fun i d u hd hu=>by
      match i,hd,hu with
      | 0,hd,hu =>
        obtain rfl:=Option.some.inj hd;obtain rfl:=Option.some.inj hu
        show qar _ w false (.lab tL) (vs.zip xs) _ _
        exact qar.mono (fun _ h=>h) (fun _ _=>rfl) (fun b h=>⟨rfl,h⟩) (fun _ _=>rfl) hOwn
      | 1,hd,hu =>
        obtain rfl:=Option.some.inj hd;obtain rfl:=Option.some.inj hu
        show Rp _ w _ _ _
        exact Rp.mono (fun _ h=>.inl h) (fun _ _=>rfl) _ _ _ hp1)) ?_
    rintro e w' ⟨rus,S',GR,GP,rfl,aft⟩
    have keepG:∀ i b,G i b→w'.heap[b]? = w.heap[b]?:=fun i b hb=>aft.keep b (hFP 0 b (hG i b hb)).1 fun j h=>hGB i b hb h.2
    have hsel:∀(j:Nat) x,(sel ms xs)[j]? = some x→∃ v,(sel ms (vs.zip xs))[j]? = some (v,x):=fun j x hx=>by
      rw[← qjZ hvl,qkx,List.getElem?_map] at hx
      obtain⟨y,hy,rfl⟩:=Option.map_eq_some_iff.1 hx
      exact⟨y.1,hy⟩
    have hsl:(sel ms (vs.zip xs)).length=(sel ms xs).length:=by
      have:=congrArg (fun l=>(sel ms l).length) (qjZ hvl)
      simp only[qkx,List.length_map] at this
      exact this
    refine⟨rus,S,fun j b=>j=0∧(GR 0 b∨∃ i,G i b),fun _ _=>False,rfl,?_⟩
    refine { mS:=fun _ h=>h,sub:=fun _ h=>.inl h,szS:=fun b h=>Nat.lt_of_lt_of_le (hS b h) aft.size,size:=aft.size,kin:=aft.kin,keep:=fun b h hn=>aft.keep b h fun i hi=>hn 0 (hB b hi.2),gr:=?_,gp:=fun _ _ h=>h.elim,drr:=?_,dpp:=fun _ _ _ _ h=>h.elim,drp:=fun _ _ _ _ h=>h,len:=aft.len,lenO:=Nat.le_refl _,res:=?_,ios:=trivial }
    · rintro j b ⟨_,hb | ⟨i,hb⟩⟩
      · obtain⟨h1,h2,h3⟩:=aft.gr 0 b hb
        exact⟨fun h=>h1 (aft.mS b (.inl h)),h2,h3.imp id fun⟨_,h⟩=>⟨0,hB b h.2⟩⟩
      · have:=hFP 0 b (hG i b hb)
        exact⟨this.2,Nat.lt_of_lt_of_le this.1 aft.size,.inr ⟨0,hG i b hb⟩⟩
    · rintro j j' b hjj ⟨rfl,_⟩ ⟨rfl,_⟩;exact hjj rfl
    · intro k d v hk hd hv
      obtain rfl:k=0:=by have hk:k<1:=hk;omega
      obtain rfl:(⟨tLL,sel ms xs⟩:Dv)=d:=Option.some.inj hd
      have hres:qar S' w' false (.lab tL) (sel ms (vs.zip xs)) v (GR 0):=aft.res 0 ⟨.sl (.lab tL),sel ms (vs.zip xs)⟩ v Nat.zero_lt_one rfl hv
      obtain⟨A',c',rfl,hlc',hrow'⟩:=hres
      show qar S w' true tL (sel ms xs) _ _
      refine⟨A',c',by rw[hsl],by rw[← hsl];exact hlc',?_⟩
      rcases hrow' with hc0 | ⟨b',arr',e',G',rfl,hb',hh',hsz',hGo',hGd',hE'⟩
      · exact .inl hc0
      · have hnS:=(aft.gr 0 b' hb').1
        refine .inr ⟨b',arr',e',fun j=>G (pos ms j),rfl,⟨rfl,.inl hb'⟩,hh',hsz',fun i b hb=>⟨⟨rfl,.inr ⟨_,hb⟩⟩,?_⟩,fun i j b hij h1 h2=>hGd _ _ b (fun h=>hij (qrF h)) h1 h2,fun j x hx=>?_⟩
        · rintro rfl
          exact hnS (aft.mS _ (.inr ⟨_,hb⟩))
        · obtain⟨v,hv'⟩:=hsel j x hx
          obtain⟨us,h1,h2⟩:=hE' j (v,x) hv'
          obtain⟨h3,h4⟩:us=[v]∧Rp S' w' tL x us:=h1
          subst h3
          have hd:=hE (pos ms j) v x (qmn hv')
          exact⟨[v],DRp.mono tL x [v] (fun _ h=>h) (fun b hb=>keepG _ b hb) hd,h2⟩
def mC(xs:List (List Int)):Nat→List Bool
 | 0=>[]
 | m+1=>mC xs m++[m==0 || !(xs[m]? == xs[m-1]?)]
theorem qgv{xs:List (List Int)}:∀ {m:Nat},(mC xs m).length=m
 | 0=>rfl
 | m+1=>by simp[mC,qgv]
theorem qfq{α:Type}:∀ {ms:List Bool} {b:Bool} {l:List α} (h:ms.length<l.length),sel (ms++[b]) l=sel ms l++(bif b then [l[ms.length]] else [])
 | [],true,x::l,h=>by cases l<;>simp[sel]
 | [],false,x::l,h=>by cases l<;>simp[sel]
 | true::ms,b,x::l,h=>by simp[sel,qfq (ms:=ms) (b:=b) (l:=l) (by simpa using h)]
 | false::ms,b,x::l,h=>by simp[sel,qfq (ms:=ms) (b:=b) (l:=l) (by simpa using h)]
 | [],_,[],h=>by simp at h
 | _::_,_,[],h=>by simp at h
open Classical in
noncomputable def qcf(m:Nat)(R:Run)(args:List Dv):Option Dv:=match args with
 | [d,e]=>(d.to tLL).bind fun xs=>if xs.length≤1048576∧e=⟨.fn m .nil,()⟩∧∀(i:Nat) (h:i+1<xs.length),R.r m [⟨tL,xs[i+1]⟩,⟨tL,xs[i]⟩]=some ⟨.cons .bool .nil,(xs[i+1]==xs[i],())⟩ then some ⟨.cons tLL .nil,(sel (mC xs xs.length) xs,())⟩ else none
 | _=>none
end Ve
