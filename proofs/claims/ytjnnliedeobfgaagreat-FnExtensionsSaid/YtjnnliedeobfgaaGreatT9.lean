import Derived.Test.YtjnnliedeobfgaaGreatT8
import Derived.Test.YtjnnliedeobfgaaGreatT6
import Derived.Test.YtjnnliedeobfgaaGreatT7
set_option linter.unusedVariables false
set_option linter.unusedSimpArgs false
open Go Go.Proofs Ve
namespace VeT
def apM(m:Mat)(y:Nat→Int)(i:Nat):Int:=qaG (mE m i) y m.2.2.1.toNat%m.1
theorem qgl{m:Mat}{y z:Nat→Int}{i:Nat}(h:∀ j,j<m.2.2.1.toNat→y j%m.1=z j%m.1):apM m y i=apM m z i:=qb6 h
theorem qrC{m:Mat}{y:Nat→Int}{i:Nat}:apM m y i%m.1=apM m y i:=zau _ (zaT _)
theorem qm0{a b:Mat}{y:Nat→Int}{i:Nat}(h1:a.2.2.1=b.2.1)(e1:a.1=b.1)(hi:i<a.2.1.toNat):apM (qdM a b) y i=apM a (apM b y) i:=by
 unfold apM
 show qaG (mE (qdM a b) i) y b.2.2.1.toNat%a.1=qaG (mE a i) (fun l=>qaG (mE b l) y b.2.2.1.toNat%b.1) a.2.2.1.toNat%a.1
 have l1:qaG (mE (qdM a b) i) y b.2.2.1.toNat%a.1=qaG (fun l=>qaG (mE a i) (fun m=>mE b m l) a.2.2.1.toNat) y b.2.2.1.toNat%a.1 :=
  qh4 fun l hl=>by rw[qhj hi hl];exact zau _ (zaT _)
 have l2:qaG (mE a i) (fun l=>qaG (mE b l) y b.2.2.1.toNat%b.1) a.2.2.1.toNat%a.1=qaG (mE a i) (fun m=>qaG (mE b m) y b.2.2.1.toNat) a.2.2.1.toNat%a.1 :=
  qb6 fun m hm=>by rw[e1];exact zau _ (zaT _)
 rw[l1,l2]
 congr 1
 have:=qf6 (y:=y) (c:=mE a i) (A:=mE b) (W:=b.2.2.1.toNat) (R:=a.2.2.1.toNat)
 rw[qaM,this]
 exact qaw fun m hm=>⟨rfl,qaM⟩
theorem qhO{m:Mat}{v:Sim}{n i:Nat}(hi:i<n):(qhN m v n).getD i 0=apM m (fun l=>v.getD l 0) i:=qoB hi
theorem qkn{m:Mat}{a n i:Nat}{t:Int}{u:Nat→Int}(h:a+m.2.2.1.toNat≤n):qaG u (fun g=>(qhA m a n t i).getD g 0) n%m.1=t*qaG (mE m i) (fun j=>u (a+j)) m.2.2.1.toNat%m.1:=by
 rw[qm1,qp8 (L:=a) (n:=m.2.2.1.toNat) h fun g hg hno=>by rw[qda hno,zcj],qm1,← qrf]
 refine qrc fun j hj=>?_
 rw[qhH hj (by omega),zbH,zau _ (zaT _),← zbH]
 congr 1
 show u (a+j)*(mE m i j*t)=t*(mE m i j*u (a+j))
 rw[zbV (mE m i j) t,Int.mul_left_comm,zbV (u (a+j))]
theorem qqF{a b:Sim}{c p:Int}{W:Nat}{u:Nat→Int}(ha:a.length=W):qaG u (fun g=>(qmj a b c p).getD g 0) W%p=(qaG u (fun g=>a.getD g 0) W+c*qaG u (fun g=>b.getD g 0) W)%p:=by
 rw[qb6 (h:=fun g=>a.getD g 0+c*b.getD g 0) fun g hg=>by rw[qnw (by omega)];exact zau _ (zaT _),qf3,qg6]
theorem qrP{p a b:Int}:(a+(p-1)*b)%p=0↔a%p=b%p:=by
 rw[Int.sub_mul,zco,show a+(p*b-b)=a-b+p*b by omega,zbZ]
 exact Int.emod_eq_emod_iff_emod_sub_eq_zero.symm
def qse(x:Shf)(w:Sim)(u:Nat→Int):Prop:=∀ b a,b<w.length→a<b→qeI (x.1.getD (wN w a) []) (x.1.getD (wN w b) [])→∀ i,i<(x.2.2.1.getD (wN w b) 0).toNat →
 apM (qa2 x (wN w a) (wN w b)) (fun j=>u ((off x.2.2.1 w a).toNat+j)) i=u ((off x.2.2.1 w b).toNat+i)%x.2.1
theorem qot{x:Shf}{w v:Sim}(h:∀ b a,b<w.length→a<b→¬ Cf x w v b a):qeE x w v=none:=by
 cases e:qeE x w v with
 | none=>rfl
 | some t =>
  obtain⟨a,b⟩:=t
  obtain⟨h1,h2,_⟩:=qjx e
  unfold qeE at e
  split at e
  ·rename_i b' hb
   obtain⟨a',ha,e⟩:=zan.1 e
   simp only[Prod.mk.injEq] at e
   obtain⟨rfl,rfl⟩:=e
   exact absurd (qaz ha).2.2 (h _ _ h2 h1)
  ·cases e
theorem qqR{x:Shf}{w v:Sim}(hs:ISh x)(hp:qdo x.1 w)(hd:Dat x w v)(h:qse x w fun g=>v.getD g 0):qeE x w v=none:=qot fun b a hb ha ⟨pt,hne⟩=>hne (by
 have hal:a<w.length:=by omega
 obtain⟨a1,a2,a3,a4,a5⟩:=qkc hs hp hal
 obtain⟨b1,b2,b3,b4,b5⟩:=qkc hs hp hb
 have la:=qfF hs hp hd hal
 have lb:=qfF hs hp hd hb
 obtain⟨r1,r2,r3,r4⟩:=qa9 hs.1 (hp.wN hal).2 (hp.wN hb).2 pt
 unfold qq5
 refine qgj (by rw[qbm];omega) fun i hi=>?_
 rw[qbm] at hi
 have hg:∀ i j,i<w.length→j<(x.2.2.1.getD (wN w i) 0).toNat→(qmS x.2.2.1 w v i).getD j 0=v.getD ((off x.2.2.1 w i).toNat+j) 0:=fun i j hi hj=>by
  unfold qmS
  obtain⟨c1,c2,c3,c4,c5⟩:=qkc hs hp hi
  rw[zaa,zaY,zbf,if_pos (by omega),← zaa]
 rw[qhO hi,hg b i hb hi]
 have e:apM (qa2 x (wN w a) (wN w b)) (fun j=>v.getD ((off x.2.2.1 w a).toNat+j) 0) i=v.getD ((off x.2.2.1 w b).toNat+i) 0%x.2.1:=h b a hb ha pt i hi
 rw[qgl (z:=fun j=>v.getD ((off x.2.2.1 w a).toNat+j) 0) fun j hj=>by rw[hg a j hal (by rw[r4] at hj;exact hj)],e]
 have hb1:=hd.2
 have hlt:(off x.2.2.1 w b).toNat+i<v.length:=by omega
 rw[qac hlt]
 have:=hd.1 _ (zaj hlt)
 have:=hs.1.2.1.1
 exact zbD (by omega) (by omega))
noncomputable def vy(x:Shf)(y:Nat→Int)(f j:Nat):Int:=y ((FC x.1 x.2.2.1 f).toNat+j)
def qnF(x:Shf)(y:Nat→Int):Prop:=∀ e,e<x.1.length→(x.1.getD e []).length=2→∀ i,i<(x.2.2.1.getD e 0).toNat→apM (mp x.1 x.2.2.2.1 e 0) (vy x y (fc x.1 e 0)) i=apM (mp x.1 x.2.2.2.1 e 1) (vy x y (fc x.1 e 1)) i
theorem qpm{x:Shf}(h:VS x.1 x.2.1 x.2.2.1 x.2.2.2.1){e i:Nat}(he:e<x.1.length)(h2:(x.1.getD e []).length=2)(hi:i<(x.2.2.1.getD e 0).toNat){y:Nat→Int} :
  qaG y (fun g=>(qkJ x.1 x.2.1 x.2.2.1 x.2.2.2.1 0 ((FC x.1 x.2.2.1 e).toNat+i)).getD g 0) (SD x.1 x.2.2.1 0).toNat%x.2.1=0↔apM (mp x.1 x.2.2.2.1 e 0) (vy x y (fc x.1 e 0)) i=apM (mp x.1 x.2.2.2.1 e 1) (vy x y (fc x.1 e 1)) i:=by
 have hfl:=qga h2
 have hd:((x.1.getD e []).length:Int)=0+2:=by omega
 obtain⟨a1,a2,a3,a4,a5,a6,a7⟩:=qdH h he hd (a:=0) (by omega)
 obtain⟨b1,b2,b3,b4,b5,b6,b7⟩:=qdH h he hd (a:=1) (by omega)
 obtain⟨_,A⟩:=h.map he (i:=0) (by omega)
 obtain⟨_,B⟩:=h.map he (i:=1) (by omega)
 have hst:=h.2.2.1.2.1
 have na:=qcl hst (fc x.1 e 0)
 have nb:=qcl hst (fc x.1 e 1)
 rw[← qno h he h2 hi,qqF qb9,zco,zbo]
 have RA:=qkn (m:=mp x.1 x.2.2.2.1 e 0) (a:=(FC x.1 x.2.2.1 (fc x.1 e 0)).toNat) (n:=(SD x.1 x.2.2.1 0).toNat) (t:=1) (i:=i) (u:=y) (by rw[a2];omega)
 have RB:=qkn (m:=mp x.1 x.2.2.2.1 e 1) (a:=(FC x.1 x.2.2.1 (fc x.1 e 1)).toNat) (n:=(SD x.1 x.2.2.1 0).toNat) (t:=x.2.1-1) (i:=i) (u:=y) (by rw[b2];omega)
 rw[A.2.1] at RA
 rw[B.2.1] at RB
 rw[RA,RB,← zbo,zco,qrP]
 unfold apM
 rw[A.2.1,B.2.1]
 exact Iff.rfl
theorem qmC{x:Shf}(h:VS x.1 x.2.1 x.2.2.1 x.2.2.2.1){y:Nat→Int}:qoi x.2.1 (SD x.1 x.2.2.1 1).toNat (SD x.1 x.2.2.1 0).toNat (qbe (qnC x 0).2.2.2.1 (SD x.1 x.2.2.1 0).toNat) y↔qnF x y:=by
 have hst:=h.2.2.1.2.1
 have hrow:∀ r,qaG y (qbe (qnC x 0).2.2.2.1 (SD x.1 x.2.2.1 0).toNat r) (SD x.1 x.2.2.1 0).toNat=qaG y (fun g=>(qkJ x.1 x.2.1 x.2.2.1 x.2.2.2.1 0 r).getD g 0) (SD x.1 x.2.2.1 0).toNat:=fun r =>
  qaw fun g hg=>⟨rfl,(qge hg).symm⟩
 constructor
 ·intro hs e he h2 i hi
  have hb:=(qdr hst he).2
  have hn:=(qdr hst he).1
  rw[show((x.1.getD e []).length:Int)-1=1 by omega] at hb
  refine(qpm h he h2 hi).1 ?_
  rw[← hrow]
  exact hs _ (by omega)
 ·intro hs r hr
  rw[qoM] at hr
  obtain⟨e,he,hd,i,hi,rfl⟩:=qow hst hr
  rw[hrow]
  exact(qpm h he (by omega) hi).2 (hs e he (by omega) i hi)
theorem qmp{c:List Sim}(hv:VC c){f b:Nat}(hf:f<c.length)(hb:b<c.length)(h1:(c.getD f []).length=1)(h2:(c.getD b []).length=1)(hp:qeI (c.getD f []) (c.getD b [])):f=b:=by
 refine qiD hv hf hb ?_
 match ef:c.getD f [],eb:c.getD b [],h1,h2,hp with
 | [x],[y],_,_,hp=>rw[zaI.1 (hp x zaS)]
theorem qlu{x:Shf}(hs:ISh x){e f:Nat}(he:e<x.1.length)(h2:(x.1.getD e []).length=2)(hf:f<x.1.length)(h1:(x.1.getD f []).length=1)(hp:qeI (x.1.getD f []) (x.1.getD e [])) :
  ∃ t,t<2∧fc x.1 e t=f∧qa2 x f e=mp x.1 x.2.2.2.1 e t:=by
 have h:=hs.1
 have hne:f≠e:=fun hh=>by subst hh;omega
 have D:Down x.1 x.2.1 x.2.2.1 x.2.2.2.1 f e:=⟨h,hf,he,hne,hp⟩
 obtain⟨f1,f2,f3,f4,f5,f6,f7⟩:=D.facts
 have hfl:=qga h2
 have g:=qa1 h.1 he f2
 have hl:(x.1.getD (fc x.1 e (fv x.1 f e)) []).length=1:=by rw[g.2.2,zbb f1];omega
 have ef:=qmp h.1 hf f7 h1 hl f5
 refine⟨fv x.1 f e,by omega,ef.symm,?_⟩
 have hs2:=qgT h hf he hp hne
 rw[← ef,qjI h hf] at hs2
 obtain⟨_,n,_,hn,en,en2⟩:=qnN h f hf
 have hm:=(h.map he f2).2
 rw[← ef] at hm
 rw[hs2]
 exact qol hm.1 (by rw[hm.2.2.2,en2,zai])
theorem qpj{x:Shf}(hs:ISh x){y:Nat→Int}(hy:qnF x y):∀(d:Nat) {f g b:Nat},(x.1.getD b []).length≤d→b<x.1.length→f<x.1.length→g<x.1.length→(x.1.getD f []).length=1→(x.1.getD g []).length=1 →
    qeI (x.1.getD f []) (x.1.getD b [])→qeI (x.1.getD g []) (x.1.getD b [])→∀ i,i<(x.2.2.1.getD b 0).toNat→apM (qa2 x f b) (vy x y f) i=apM (qa2 x g b) (vy x y g) i
  | 0,f,g,b,hd,hb,_,_,_,_,_,_,_,_=>by have:=(hs.1.1.2.1 b hb).1;omega
  | d+1,f,g,b,hd,hb,hf,hg,f1,g1,pf,pg,i,hi=>by
    have h:=hs.1
    by_cases efg:f=g
    · rw[efg]
    have hvx:=h.1.2.1 b hb
    match ef:x.1.getD f [],eg:x.1.getD g [],f1,g1 with
    | [α],[β],_,_ =>
    have hαβ:α≠β:=fun e=>efg (qiD h.1 hf hg (by rw[ef,eg,e]))
    have ha:=pf α (by rw[ef];exact zaS)
    have hb':=pg β (by rw[eg];exact zaS)
    by_cases h3:3≤(x.1.getD b []).length
    · have r1:=hvx.2.2.1.lt (i:=0) (j:=1) (by omega) (by omega)
      have r2:=hvx.2.2.1.lt (i:=1) (j:=2) (by omega) (by omega)
      obtain⟨t,ht,n1,n2⟩:∃ t,∃ ht:t<(x.1.getD b []).length,(x.1.getD b [])[t]≠α∧(x.1.getD b [])[t]≠β:=by
        generalize e0:(x.1.getD b [])[0]=a0 at *
        generalize e1:(x.1.getD b [])[1]=a1 at *
        generalize e2:(x.1.getD b [])[2]=a2 at *
        rcases(show(a0≠α∧a0≠β)∨(a1≠α∧a1≠β)∨(a2≠α∧a2≠β) by omega) with hh | hh | hh
        · exact⟨0,by omega,by rw[e0];exact hh⟩
        · exact⟨1,by omega,by rw[e1];exact hh⟩
        · exact⟨2,by omega,by rw[e2];exact hh⟩
      have nf:(x.1.getD b [])[t]∉x.1.getD f []:=by rw[ef,zaI];exact n1
      have ng:(x.1.getD b [])[t]∉x.1.getD g []:=by rw[eg,zaI];exact n2
      obtain⟨q1,q2⟩:=qeP hs _ (zaf _) hf hb pf ht nf
      obtain⟨_,q3⟩:=qeP hs _ (zaf _) hg hb pg ht ng
      obtain⟨_,c1,c2⟩:=qa1 h.1 hb q1
      have hm:=(h.map hb q1).2
      have ppf:qeI (x.1.getD f []) (x.1.getD (fc x.1 b t) []):=by rw[c2];exact qc4 pf ht nf
      have ppg:qeI (x.1.getD g []) (x.1.getD (fc x.1 b t) []):=by rw[c2];exact qc4 pg ht ng
      obtain⟨u1,u2,u3,u4⟩:=qa9 h hf c1 ppf
      obtain⟨w1,w2,w3,w4⟩:=qa9 h hg c1 ppg
      have hi2:i<(mp x.1 x.2.2.2.1 b t).2.1.toNat:=by rw[hm.2.2.1];exact hi
      rw[q2,q3,qm0 (by rw[hm.2.2.2,u3]) (by rw[hm.2.1,u2]) hi2,qm0 (by rw[hm.2.2.2,w3]) (by rw[hm.2.1,w2]) hi2]
      refine qgl fun j hj=>?_
      rw[hm.2.2.2] at hj
      rw[qpj hs hy d (f:=f) (g:=g) (b:=fc x.1 b t) (by rw[c2,zbb ht];omega) c1 hf hg (by rw[ef];rfl) (by rw[eg];rfl) ppf ppg j hj]
    · have h2:(x.1.getD b []).length=2:=by
        refine Classical.byContradiction fun hn=>?_
        have h1:(x.1.getD b []).length=1:=by have:=hvx.1;omega
        have e1:=qmp h.1 hf hb (by rw[ef];rfl) h1 pf
        have e2:=qmp h.1 hg hb (by rw[eg];rfl) h1 pg
        exact efg (e1.trans e2.symm)
      obtain⟨s,s1,s2,s3⟩:=qlu hs hb h2 hf (by rw[ef];rfl) pf
      obtain⟨t,t1,t2,t3⟩:=qlu hs hb h2 hg (by rw[eg];rfl) pg
      rw[s3,t3]
      have key:=hy b hb h2 i hi
      rcases(show s=0∨s=1 by omega) with rfl | rfl<;>rcases(show t=0∨t=1 by omega) with rfl | rfl
      · exact absurd (s2.symm.trans t2) efg
      · rw[← s2,← t2];exact key
      · rw[← s2,← t2];exact key.symm
      · exact absurd (s2.symm.trans t2) efg
end VeT
open Go Go.Proofs Ve
namespace VeT
end VeT
open Go Go.Proofs Ve
namespace VeT
theorem qmq{x:Shf}{v:Sim}{s:Nat}:(atV x v s).length=(x.2.2.1.getD s 0).toNat:=by unfold atV;exact qbm
theorem qdo.at{c:List Sim}{w:Sim}(hp:qdo c w){i:Nat}(hi:i<w.length):w[i]=((VeT.wN w i:Nat):Int):=by
 have:=(hp.wN hi).1
 rw[zag hi] at this
 exact zad this
theorem qhT{x:Shf}{v w:Sim}(hs:ISh x)(hp:qdo x.1 w):∀ {n:Nat},n≤w.length→((qcY x v w n).length:Int)=off x.2.2.1 w n
 | 0,_=>by simp[qcY,off]
 | n+1,hn=>by
  have h1:=qcl hs.1.2.2.1.2.1 (wN w n)
  rw[qdO (by omega) (hp.at (by omega)),qen (by omega) (hp.at (by omega)),zal,qmq]
  have:=qhT (v:=v) hs hp (n:=n) (by omega)
  omega
theorem qii{x:Shf}{v w:Sim}(hs:ISh x)(hp:qdo x.1 w):∀ {n:Nat},n≤w.length→∀ b i,b<n→i<(x.2.2.1.getD (wN w b) 0).toNat→(qcY x v w n).getD ((off x.2.2.1 w b).toNat+i) 0=(atV x v (wN w b)).getD i 0
 | 0,_,b,i,hb,_=>by omega
 | n+1,hn,b,i,hb,hi=>by
  have hl:=qhT (v:=v) hs hp (n:=n) (by omega)
  rw[qdO (by omega) (hp.at (by omega))]
  by_cases e:b=n
  ·subst e
   rw[zaa,zap (by omega),← zaa]
   congr 1;omega
  ·obtain⟨b1,b2,b3,b4,b5⟩:=qkc hs hp (show b<w.length by omega)
   have hm:=qhK (w:=w) hs.1.2.2.1.2.1 (show b+1≤n by omega)
   rw[zaa,zao (by omega),← zaa]
   exact qii hs hp (by omega) b i (by omega) hi
theorem qrW{x:Shf}{v:Sim}{s i:Nat}(hs:ISh x)(hsl:s<x.1.length)(hi:i<(x.2.2.1.getD s 0).toNat):(atV x v s).getD i 0=apM (qa2 x (fvx x.1 s) s) (vy x (fun g=>v.getD g 0) (fvx x.1 s)) i:=by
 obtain⟨_,f1,f2,f3,f4⟩:=qej hs.1.1 hsl
 obtain⟨r1,r2,r3,r4⟩:=qa9 hs.1 f1 hsl f4
 have h0:=(qdr (c:=x.1) hs.1.2.2.1.2.1 f1).1
 unfold atV
 rw[qhO hi]
 refine qgl fun j hj=>?_
 rw[r4] at hj
 unfold qfJ vy
 rw[zaa,zaY,zbf,if_pos (by omega),← zaa]
theorem qqA{x:Shf}{v w:Sim}(hs:ISh x)(hp:qdo x.1 w)(hv:qnF x fun g=>v.getD g 0):qse x w fun g=>(qcY x v w w.length).getD g 0:=fun b a hb ha pt i hi=>by
 have hal:a<w.length:=by omega
 have ka:=(hp.wN hal).2
 have kb:=(hp.wN hb).2
 obtain⟨_,f1,f2,f3,f4⟩:=qej hs.1.1 ka
 obtain⟨_,g1,g2,g3,g4⟩:=qej hs.1.1 kb
 obtain⟨r1,r2,r3,r4⟩:=qa9 hs.1 ka kb pt
 obtain⟨q1,q2,q3,q4⟩:=qa9 hs.1 f1 ka f4
 obtain⟨t1,t2,t3,t4⟩:=qa9 hs.1 g1 kb g4
 have hpf:qeI (x.1.getD (fvx x.1 (wN w a)) []) (x.1.getD (wN w b) []):=fun y hy=>pt y (f4 y hy)
 show _=(qcY x v w w.length).getD ((off x.2.2.1 w b).toNat+i) 0%x.2.1
 rw[qii hs hp (zaf _) b i hb hi,qrW hs kb hi]
 have e1:apM (qa2 x (fvx x.1 (wN w b)) (wN w b)) (vy x (fun g=>v.getD g 0) (fvx x.1 (wN w b))) i%x.2.1=apM (qa2 x (fvx x.1 (wN w b)) (wN w b)) (vy x (fun g=>v.getD g 0) (fvx x.1 (wN w b))) i:=by
  have:=qrC (m:=qa2 x (fvx x.1 (wN w b)) (wN w b)) (y:=vy x (fun g=>v.getD g 0) (fvx x.1 (wN w b))) (i:=i)
  rwa [t2] at this
 rw[e1,← qpj hs hv _ (zaf _) kb f1 g1 f3 g3 hpf g4 i hi,qjB hs _ (zaf _) f1 ka kb f4 pt,qm0 (by rw[r4,q3]) (by rw[r2,q2]) (by rw[r3];exact hi)]
 refine qgl fun j hj=>?_
 rw[r4] at hj
 show(qcY x v w w.length).getD ((off x.2.2.1 w a).toNat+j) 0%_=_
 rw[qii hs hp (zaf _) a j hal hj,qrW hs ka hj]
theorem qrz{x:Shf}{v:Sim}(hs:ISh x)(h:Sec x v):qnF x fun g=>v.getD g 0:=(qmC hs.1).1 fun r hr=>by
 have:=h.2 ((qnj x 0 v).getD r 0) (by
  have hl:r<(qnj x 0 v).length:=by unfold qnj;rw[qbm];exact hr
  rw[qac hl];exact zaj hl)
 unfold qnj at this
 rw[qhO (show r<(SD x.1 x.2.2.1 (0+1)).toNat from hr)] at this
 rw[qaM]
 exact this
theorem qrk{x:Shf}{v:Sim}(hs:ISh x)(hc:qoE x 0 v)(h:qnF x fun g=>v.getD g 0):Sec x v:=⟨hc,fun y hy=>by
 obtain⟨r,hr,rfl⟩:=zbC hy
 have hr':r<(SD x.1 x.2.2.1 (0+1)).toNat:=by unfold qnj at hr;rw[qbm] at hr;exact hr
 rw[← qac hr]
 unfold qnj
 rw[qhO hr']
 have:=(qmC hs.1).2 h r hr'
 rw[qaM] at this
 exact this⟩
theorem qrA{x:Shf}{v w:Sim}(hs:ISh x)(hp:qdo x.1 w)(hv:Sec x v):LC x w (qcY x v w w.length)=0∧qeE x w (qcY x v w w.length)=none:=by
 have hd:Dat x w (qcY x v w w.length):=⟨fun y hy=>by
  obtain⟨r,hr,rfl⟩:=zbC hy
  have:∀ n,n≤w.length→qaC (qcY x v w n) x.2.1:=by
   intro n
   induction n with
   | zero=>intro _ y hy;simp[qcY] at hy
   | succ n ih =>
    intro hn y hy
    rw[qdO (by omega) (hp.at (by omega)),zam] at hy
    rcases hy with hy | hy
    ·exact ih (by omega) y hy
    ·have hk:=(hp.wN (show n<w.length by omega)).2
     obtain⟨_,f1,f2,f3,f4⟩:=qej hs.1.1 hk
     obtain⟨r1,r2,r3,r4⟩:=qa9 hs.1 f1 hk f4
     unfold atV at hy
     have:=qn2 (m:=qa2 x (fvx x.1 (wN w n)) (wN w n)) (by rw[r2];exact hs.1.2.1.1) y hy
     rwa [r2] at this
  exact this _ (zaf _) _ hy,qhT hs hp (zaf _)⟩
 exact⟨qgM.2 ⟨⟨hs,hp⟩,hd⟩,qqR hs hp hd (qqA hs hp (qrz hs hv))⟩
end VeT
open Go Go.Proofs Ve
namespace VeT
end VeT
open Go Go.Proofs Ve
namespace VeT
end VeT
open Go Go.Proofs Ve
namespace VeT
end VeT
open Go Go.Proofs Ve
namespace VeT
end VeT
open Go Go.Proofs Ve
namespace VeT
theorem qoi.add{p:Int}{R W:Nat}{A:Ent}{x y:Nat→Int}(hx:qoi p R W A x)(hy:qoi p R W A y):qoi p R W A fun j=>x j+y j:=fun i hi=>by
 rw[qkE,zbo,hx i hi,hy i hi];simp
theorem qoi.congr{p:Int}{R W:Nat}{A:Ent}{x y:Nat→Int}(h:∀ j,j<W→x j%p=y j%p)(hx:qoi p R W A x):qoi p R W A y:=fun i hi=>by
 rw[← hx i hi,qaM,qaM (c:=x)]
 exact(qb6 fun j hj=>h j hj).symm
end VeT
open Go Go.Proofs Ve
namespace VeT
end VeT
open Go Go.Proofs Ve
namespace VeT
abbrev Dsc:=List Sim×Int×Sim×List Mat×Sim×Src×Unit
def Dsx(n:Nat)(r:Dsc):Prop:=Sm (.st cS) (r.1,r.2.1,r.2.2.1,r.2.2.2.1,())∧r.1.length≤48∧r.2.2.2.2.1.length≤100∧SO n r.2.2.2.2.2.1
theorem qoa(a b:Int):Ret E n_Z128 [dI a,dI b] ⟨o_Z128,((if a>b then a else b),())⟩:=by
 refine qai ?_
 simp only[run_Z128,Z128.ev]
 refine qew (fun h=>qah ?_) fun h=>qah ?_
 ·rw[if_pos h]
 ·rw[if_neg h]
theorem qfo(n:Nat)(s:Src)(W:Nat)(p:Int)(hn:n≤10000000)(hs:SO n s)(hW:W≤1000):qhz n_Z139 [dR s,dI (W:Int),dI p] o_Z139 fun(r:Sim×Src×Unit)=>r.1.length=W∧SO (n+2*W) r.2.1:=by
 obtain⟨c0,a,g,⟨⟩⟩:=s
 refine qbs ?_
 simp only[run_Z139,Z139.ev]
 refine EvQ.start 1 (L:=fun φ N=>Z139.l0 (mkR (run E (φ 0))) (φ 0) N (W:Int) p 0 [] c0 a g) ?_ (fun _ _ _=>rfl)
 refine EvQ.loop 1 (σ:=Nat×Sim×Src) (L:=fun φ N st=>Z139.l0 (mkR (run E (φ 0))) (φ 0) N (W:Int) p (st.1:Int) st.2.1 st.2.2.1 st.2.2.2.1 st.2.2.2.2.1) (fun _ _ _ _=>rfl)
  (fun st=>st.1≤W∧st.2.1.length=st.1∧SO (n+2*st.1) st.2.2) (fun st=>W-st.1) (fun st hi ih=>?_) (0,[],(c0,a,g,())) ⟨zaE _,rfl,hs⟩
 obtain⟨k,o,s2⟩:=st
 obtain⟨i1,i2,i3⟩:=hi
 simp only at i1 i2 i3 ih ⊢
 simp only[Z139.l0_succ _ qae]
 refine qck (fun h=>?_) fun h=>?_
 ·refine qau (qoa 1 p) ?_
  refine qaU (qa5 _ s2 _ (by omega) i3) fun(r:Int×Src×Unit) ⟨r1,r2,r3,r4⟩=>?_
  refine qaJ (zac (by simp;omega)) ?_
  rw[qad (by omega)]
  exact ih (k+1,o++[r.1],r.2.1) ⟨by show k+1≤W;omega,by simp[i2],r4.le (by show n+2*k+2≤n+2*(k+1);omega)⟩ (by show W-(k+1)<W-k;omega)
 ·have:k=W:=by omega
  subst this
  exact qaH ⟨i2,i3⟩
theorem qiM(n:Nat)(s:Src)(hn:n≤1000000)(hs:SO n s):qhz n_Z192 [dR s] o_Z192 fun(r:Dsc)=>Dsx (n+31000) r:=by
 obtain⟨c0,a,g,⟨⟩⟩:=s
 refine qbs ?_
 simp only[run_Z192,Z192.ev]
 refine qaU (qm4 n _ hn hs) fun(r:Drw) ⟨b1,b2,b3⟩=>?_
 obtain⟨c,p,st,ms,s1,⟨⟩⟩:=r
 simp only at b1 b2 b3
 dsimp only
 refine qau (qeS (c,p,st,ms,()) b1) ?_
 by_cases hI:ISh (c,p,st,ms,())
 ·rw[qaK hI]
  refine qbU rfl (qau (qfb (c,p,st,ms,()) b1.1 hI.1) ?_)
  obtain⟨W,eW,bW,tW⟩:=qbY hI.1 0
  have eW:SD c st 0=(W:Int):=eW
  have hp:2≤p∧p≤251:=⟨hI.1.2.1.1,hI.1.2.1.2.1⟩
  show EvQ (fun φ=>Option.bind (qlP (mkR (run E (φ 0))) n_Z135 o_Z135 [dR s1,dI 4]) fun r4=>_) _ _
  rw[show(SD (c,p,st,ms,()).1 (c,p,st,ms,()).2.2.1 0,())=(((W:Int),()):Int×Unit) by rw[← eW]]
  refine qaU (qe9 (n+30000) s1 4 (by omega) b3) fun(r:Bool×Src×Unit) r4=>?_
  obtain⟨b,s2,⟨⟩⟩:=r
  simp only at r4
  dsimp only
  refine qcH (fun _=>?_) fun _=>?_
  ·refine qaU (qfo (n+30002) s2 W p (by omega) (by exact r4) (by omega)) fun(q:Sim×Src×Unit) ⟨q1,q2⟩=>qaH ⟨b1,b2,by show q.1.length≤100;omega,q2.le (by omega)⟩
  ·refine qaJ (show(decide ((0:Int)≤(W:Int))&&decide ((W:Int)*8≤70368744177664))=true by simp only[zah,decide_eq_true_eq];omega) ?_
   refine qau (qcF (c,p,st,ms,()) b1.1 hI.1) ?_
   have hcr:=qhW (x:=(c,p,st,ms,())) hI.1 (SD c st 1).toNat
   have hcl:=qbA (c:=c) (p:=p) (st:=st) (ms:=ms) (n:=(SD c st 1).toNat)
   obtain⟨H,eH,bH,tH⟩:=qbY hI.1 1
   have tH:(SD c st 1).toNat=H:=tH
   have tW:(SD c st 0).toNat=W:=tW
   have hHW:=qcP bH bW
   generalize hC:qcs c p st ms (SD c st 1).toNat=rows at hcr hcl
   have hcr:Rws p W rows:=by
    have hcr:Rws p (SD c st 0).toNat rows:=hcr
    rwa [tW] at hcr
   have hcl:rows.length=H:=hcl.trans tH
   refine qau (qf2 p W rows hp (by omega) (by omega) (by rw[hcl];omega) hcr) ?_
   have hker:∀ v∈qqU p W rows,v.length=W∧qaC v p:=fun v hv=>qkp hp.1 hv
   have hkl:(qqU p W rows).length≤W:=qem
   generalize qqU p W rows=ker at hker hkl
   rw[zai]
   refine EvQ.start 1 (L:=fun φ N=>Z192.l0 (mkR (run E (φ 0))) (φ 0) N ker 0 0 c p st ms (List.replicate W 0) s2.1 s2.2.1 s2.2.2.1) ?_ (fun _ _ _=>rfl)
   refine EvQ.loop 1 (σ:=Nat×Sim×Src) (L:=fun φ N x=>Z192.l0 (mkR (run E (φ 0))) (φ 0) N ker (x.1:Int) 0 c p st ms x.2.1 x.2.2.1 x.2.2.2.1 x.2.2.2.2.1) (fun _ _ _ _=>rfl)
    (fun x=>x.1≤ker.length∧x.2.1.length=W∧qaC x.2.1 p∧SO (n+30002+2*x.1) x.2.2) (fun x=>ker.length-x.1) (fun x hi ih=>?_) (0,List.replicate W 0,s2) ⟨zaE _,zas,qaC.zeros hp.1 _,r4⟩
   obtain⟨k,o,s3⟩:=x
   obtain⟨i1,i2,i3,i4⟩:=hi
   simp only at i1 i2 i3 i4 ih ⊢
   simp only[Z192.l0_succ _ qae]
   refine qck (fun h=>?_) fun h=>?_
   ·have hk:k<ker.length:=by omega
    obtain⟨v1,v2⟩:=hker _ (zaj hk)
    refine qbT (qak hk) ?_
    refine qaU (qa5 _ s3 p (by omega) i4) fun(q:Int×Src×Unit) ⟨q1,q2,q3,q4⟩=>?_
    refine qau (qj6 o ker[k] q.1 p hp (by omega) (by omega) (by omega) (i3.mem hp) (v2.mem hp)) ?_
    rw[qad (by omega)]
    exact ih (k+1,qmj o ker[k] q.1 p,q.2.1) ⟨hk,by rw[qfK];exact i2,qn7 hp.1,q4.le (by show n+30002+2*k+2≤n+30002+2*(k+1);omega)⟩ (by show ker.length-(k+1)<ker.length-k;omega)
   ·refine qaU (qe9 _ s3 12 (by omega) i4) fun(q:Bool×Src×Unit) q4=>?_
    have fin:∀(o':Sim) (s4:Src) (m:Nat),o'.length≤100→m≤n+31000→SO m s4→EvQ (fun φ=>Z192.j1 (mkR (run E (φ 0))) (φ 0) 0 c p st ms o' s4.1 s4.2.1 s4.2.2.1) o_Z192 fun(r:Dsc)=>Dsx (n+31000) r:=fun o' s4 m h1 h2 h3=>by
     simp only[Z192.j1_eq _ qae]
     exact qaH ⟨b1,b2,h1,h3.le h2⟩
    refine qcH (fun _=>?_) fun _=>fin o q.2.1 _ (by omega) (by omega) q4
    refine qaU (qcS (n+30002+2*k+2) q.2.1 _ (by simp) (by omega) q4) fun(u:Int×Src×Unit) ⟨u1,u2⟩=>qaJ (zac (by simp;omega)) (fin _ u.2.1 _ (by simp;omega) (by omega) u2)
 ·rw[qaq hI]
  exact qgB rfl (qaH ⟨b1,b2,by show([0]:Sim).length≤100;simp,b3.le (by omega)⟩)
theorem qsu{a b:Sim}(hl:a.length=b.length):pb (a=b)=pb (∀ j,0≤j→j<a.length→a.getD j 0=b.getD j 0):=qaN ⟨fun h j _ _=>by rw[h],fun h=>qgj hl fun i hi=>h i (by omega) hi⟩
theorem qmK(a b:Sim)(hl:a.length≤1048576):Ret E n_Z93 [dL a,dL b] ⟨o_Z93,(pb (a=b),())⟩:=by
 refine qai ?_
 simp only[run_Z93,Z93.ev]
 by_cases he:a.length=b.length
 ·refine qaB (by simp[he]) ?_
  refine Ev.start (p:=fun φ m=>Z93.l0 (mkR (run E (φ 0))) (φ 0) m a b 0=_) 1 ?_ (fun _ _ _ h=>h)
  rw[qsu he]
  refine qdk 1 (L:=fun φ m k=>Z93.l0 (mkR (run E (φ 0))) (φ 0) m a b k) (len:=a.length) 0 (by omega) (fun j=>a.getD j 0=b.getD j 0) (fun b=>some ⟨o_Z93,(b,())⟩) (fun _ _ _ _=>rfl) (fun k h1 h2 hP _=>?_) (fun k r h1 h2 hP _ ih=>?_) (fun _=>?_)
  ·simp only[Z93.l0_succ _ qae]
   have h3:k<b.length:=by omega
   rw[qac h2,qac h3] at hP
   exact qax (zac (by omega)) (qab (qak h2) (qab (qak h3) (qax (by simpa using hP) qal)))
  ·simp only[Z93.l0_succ _ qae]
   have h3:k<b.length:=by omega
   rw[qac h2,qac h3] at hP
   refine qax (zac (by omega)) (qab (qak h2) (qab (qak h3) (qaB (by simpa using hP) ?_)))
   rw[qad (by omega)];exact ih
  ·simp only[Z93.l0_succ _ qae]
   exact qaB (zae (by omega)) qal
 ·rw[qaq fun e=>he (by rw[e])]
  exact qax (by simp;omega) qal
end VeT
open Go Go.Proofs Ve
namespace VeT
end VeT
open Go Go.Proofs Ve
namespace VeT
def Inc(m n:Nat)(x:Sim):Prop:=x.length=m∧(∀ i j,i<j→j<m→x.getD i 0<x.getD j 0)∧∀ i,i<m→0≤x.getD i 0∧x.getD i 0<(n:Int)
def qrZ(m:Nat)(x y:Sim):Prop:=∃ d,d<m∧(∀ j,j<d→x.getD j 0=y.getD j 0)∧x.getD d 0<y.getD d 0
theorem Inc.ext{m n:Nat}{x y:Sim}(hx:Inc m n x)(hy:Inc m n y)(h:∀ j,j<m→x.getD j 0=y.getD j 0):x=y:=by
 refine zbB (hx.1.trans hy.1.symm) fun i g1 g2=>?_
 have:=h i (by have:=hx.1;omega)
 rwa [qac g1,qac g2] at this
theorem qpt{m:Nat}{x y:Sim}(h:¬ ∀ j,j<m→x.getD j 0=y.getD j 0):qrZ m x y∨qrZ m y x:=by
 have:∃ d,d<m∧x.getD d 0≠y.getD d 0:=by
  refine Classical.byContradiction fun hn=>h fun j hj=>Classical.byContradiction fun he=>hn ⟨j,hj,he⟩
 obtain⟨d,h1,h2,h3⟩:=qsd this
 have hp:∀ j,j<d→x.getD j 0=y.getD j 0:=fun j hj=>Classical.byContradiction fun he=>h3 j hj he
 rcases Int.lt_or_gt_of_ne h2 with hlt | hlt
 ·exact .inl ⟨d,h1,hp,hlt⟩
 ·exact .inr ⟨d,h1,fun j hj=>(hp j hj).symm,hlt⟩
theorem Inc.top{m n:Nat}{y:Sim}(h:Inc m n y){i:Nat}(hi:i<m):y.getD i 0≤(n:Int)-(m:Int)+(i:Int):=by
 have key:∀ d,i+d<m→y.getD i 0+(d:Int)≤y.getD (i+d) 0:=by
  intro d
  induction d with
  | zero=>intro _;simp
  | succ d ih =>
   intro hd
   have h1:=ih (by omega)
   have h2:=h.2.1 (i+d) (i+(d+1)) (by omega) hd
   omega
 have h1:=key (m-1-i) (by omega)
 have h2:=(h.2.2 (i+(m-1-i)) (by omega)).2
 omega
theorem Inc.step{m n:Nat}{y:Sim}(h:Inc m n y){i d:Nat}(hd:i+d<m):y.getD i 0+(d:Int)≤y.getD (i+d) 0:=by
 induction d with
 | zero=>simp
 | succ d ih =>
  have h1:=ih (by omega)
  have h2:=h.2.1 (i+d) (i+(d+1)) (by omega) hd
  omega
def nxt(x:Sim)(i:Nat):Sim:=(List.range x.length).map fun j=>if j<i then x.getD j 0 else x.getD i 0+1+(j:Int)-(i:Int)
theorem qfS{x:Sim}{i j:Nat}(hj:j<x.length):(nxt x i).getD j 0=if j<i then x.getD j 0 else x.getD i 0+1+(j:Int)-(i:Int):=by
 unfold nxt
 rw[qac (by simpa using hj)];simp
theorem qrx{m n:Nat}{x:Sim}(h:Inc m n x){i:Nat}(hi:i<m)(hx:x.getD i 0<(n:Int)-(m:Int)+(i:Int)):Inc m n (nxt x i):=by
 have hl:=h.1
 refine⟨by simp[nxt,hl],fun a b hab hb=>?_,fun j hj=>?_⟩
 ·rw[qfS (by omega),qfS (by omega)]
  by_cases h1:b<i
  ·rw[if_pos h1,if_pos (by omega)];exact h.2.1 a b hab hb
  ·rw[if_neg h1]
   by_cases h2:a<i
   ·rw[if_pos h2]
    have:=h.2.1 a i h2 hi
    omega
   ·rw[if_neg h2];omega
 ·rw[qfS (by omega)]
  split
  ·exact h.2.2 j hj
  ·have:=(h.2.2 i hi).1
   omega
theorem qpo{m n:Nat}{x y:Sim}(h:Inc m n x)(hy:Inc m n y){i:Nat}(hi:i<m)(hm:∀ j,i<j→j<m→¬ x.getD j 0<(n:Int)-(m:Int)+(j:Int))(hxy:qrZ m x y):¬ qrZ m y (nxt x i):=by
 obtain⟨d,hd,h1,h2⟩:=hxy
 have hl:=h.1
 have hdi:d≤i:=by
  refine Classical.byContradiction fun hn=>hm d (by omega) hd ?_
  have:=hy.top hd
  omega
 rintro⟨e,he,g1,g2⟩
 rcases zbt d i with hlt | hge
 ·have hn:(nxt x i).getD d 0=x.getD d 0:=by rw[qfS (by omega),if_pos hlt]
  rcases zbw d e with hde | hde | hde
  ·have:=g1 d hde;omega
  ·subst hde;omega
  ·have h3:(nxt x i).getD e 0=x.getD e 0:=by rw[qfS (by omega),if_pos (by omega)]
   have:=h1 e hde;omega
 ·obtain rfl:d=i:=by omega
  rcases zbt e d with hlt | hge2
  ·have h3:(nxt x d).getD e 0=x.getD e 0:=by rw[qfS (by omega),if_pos hlt]
   have:=h1 e hlt;omega
  ·have h3:(nxt x d).getD e 0=x.getD d 0+1+(e:Int)-(d:Int):=by rw[qfS (by omega),if_neg (by omega)]
   have h4:=hy.step (i:=d) (d:=e-d) (by omega)
   rw[show d+(e-d)=e by omega] at h4
   omega
theorem qqr{m n:Nat}{x y:Sim}(h:Inc m n x)(hy:Inc m n y)(hm:∀ j,j<m→¬ x.getD j 0<(n:Int)-(m:Int)+(j:Int)):¬ qrZ m x y:=by
 rintro⟨d,hd,h1,h2⟩
 have:=hy.top hd
 exact hm d hd (by omega)
def Bad(B:Sim→Prop)(m n:Nat)(x:Sim):Prop:=∀ y,Inc m n y→qrZ m y x→B y
theorem qqI{B:Sim→Prop}{m n:Nat}{x:Sim}(h:Inc m n x)(hb:Bad B m n x)(hx:B x){i:Nat}(hi:i<m)(hm:∀ j,i<j→j<m→¬ x.getD j 0<(n:Int)-(m:Int)+(j:Int)):Bad B m n (nxt x i):=by
 intro y hy hlt
 by_cases e:∀ j,j<m→y.getD j 0=x.getD j 0
 ·rw[hy.ext h e];exact hx
 ·rcases qpt e with h1 | h1
  ·exact hb y hy h1
  ·exact absurd hlt (qpo h hy hi hm h1)
theorem qqs{B:Sim→Prop}{m n:Nat}{x:Sim}(h:Inc m n x)(hb:Bad B m n x)(hx:B x)(hm:∀ j,j<m→¬ x.getD j 0<(n:Int)-(m:Int)+(j:Int)):∀ y,Inc m n y→B y:=by
 intro y hy
 by_cases e:∀ j,j<m→y.getD j 0=x.getD j 0
 ·rw[hy.ext h e];exact hx
 ·rcases qpt e with h1 | h1
  ·exact hb y hy h1
  ·exact absurd h1 (qqr h hy hm)
def qnc(m:Nat):Sim:=(List.range m).map fun(j:Nat)=>(j:Int)
theorem qkH{m j:Nat}(hj:j<m):(qnc m).getD j 0=(j:Int):=by
 unfold qnc
 rw[qac (by simpa using hj)];simp
theorem qrD{m n:Nat}(h:m≤n):Inc m n (qnc m):=⟨by simp[qnc],fun i j hij hj=>by rw[qkH (by omega),qkH hj];omega,fun i hi=>by rw[qkH hi];omega⟩
theorem qrK{B:Sim→Prop}{m n:Nat}:Bad B m n (qnc m):=by
 rintro y hy ⟨d,hd,h1,h2⟩
 rw[qkH hd] at h2
 have h3:=hy.step (i:=0) (d:=d) (by omega)
 have h4:=(hy.2.2 0 (by omega)).1
 rw[zaX] at h3
 omega
theorem qoT{m n:Nat}{x:Sim}(h:Inc m n x){i:Nat}(hi:i<m):Inc (m-1) n (x.eraseIdx i):=by
 have hl:=h.1
 have hg:∀ j,j<m-1→(x.eraseIdx i).getD j 0=x.getD (if j<i then j else j+1) 0:=fun j hj=>by
  rw[zaa]
  split
  ·rename_i h;rw[List.getElem?_eraseIdx_of_lt h,← zaa]
  ·rw[List.getElem?_eraseIdx_of_ge (by omega),← zaa]
 refine⟨by rw[zbb (by omega),hl],fun a b hab hb=>?_,fun j hj=>?_⟩
 ·rw[hg a (by omega),hg b hb]
  refine h.2.1 _ _ ?_ ?_<;>split<;>(try split)<;>omega
 ·rw[hg j hj]
  refine h.2.2 _ ?_
  split<;>omega
theorem Inc.pairwise{m n:Nat}{x:Sim}(h:Inc m n x):x.Pairwise (·<·):=by
 rw[zbp]
 intro i j hi hj hij
 have:=h.2.1 i j hij (by have:=h.1;omega)
 rwa [qac hi,qac hj] at this
end VeT
open Go Go.Proofs Ve
namespace VeT
theorem qh6(m:Nat)(hm:m≤1000):Ret E n_Z48 [dI (m:Int)] ⟨o_Z48,(qnc m,())⟩:=by
 refine qai ?_
 simp only[run_Z48,Z48.ev]
 refine Ev.start (p:=fun φ n=>Z48.l0 (mkR (run E (φ 0))) (φ 0) n (m:Int) 0 []=_) 1 ?_ (fun _ _ _ h=>h)
 refine qam 1 (L:=fun φ n k o=>Z48.l0 (mkR (run E (φ 0))) (φ 0) n (m:Int) k o) (len:=m) (fun k=>qnc k) (fun _ _ _ _ _=>rfl) (fun k r hk ih=>?_) ?_
 ·simp only[Z48.l0_succ _ qae]
  have e:qnc (k+1)=qnc k++[(k:Int)]:=by unfold qnc;rw[zaA,zat];rfl
  rw[e] at ih
  have hl:(qnc k).length=k:=by simp[qnc]
  refine qax (zac (by omega)) (qao (zac (by simp only[hl,zaz];omega)) ?_)
  rw[qad (by omega)]
  exact ih
 ·simp only[Z48.l0_succ _ qae]
  exact qaB (zae (by omega)) qal
theorem qjm{m n:Nat}{x:Sim}(h:Inc m n x)(hn:n≤48)(hmn:m≤n) :
    (∃ i,i<m∧x.getD i 0<(n:Int)-(m:Int)+(i:Int)∧(∀ j,i<j→j<m→¬ x.getD j 0<(n:Int)-(m:Int)+(j:Int))∧Ret E n_Z67 [dL x,dI (n:Int)] ⟨o_Z67,(nxt x i,true,())⟩) ∨
    ((∀ j,j<m→¬ x.getD j 0<(n:Int)-(m:Int)+(j:Int))∧Ret E n_Z67 [dL x,dI (n:Int)] ⟨o_Z67,([],false,())⟩):=by
  have hl:=h.1
  have key:∀ d,d≤m→(∀ j,d≤j→j<m→¬ x.getD j 0<(n:Int)-(m:Int)+(j:Int)) →
      (∃ i,i<m∧x.getD i 0<(n:Int)-(m:Int)+(i:Int)∧(∀ j,i<j→j<m→¬ x.getD j 0<(n:Int)-(m:Int)+(j:Int))∧Ev fun φ=>Z67.l0 (mkR (run E (φ 0))) (φ 0) (φ 1) x (n:Int) (m:Int) ((d:Int)-1)=some ⟨o_Z67,(nxt x i,true,())⟩) ∨
      ((∀ j,j<m→¬ x.getD j 0<(n:Int)-(m:Int)+(j:Int))∧Ev fun φ=>Z67.l0 (mkR (run E (φ 0))) (φ 0) (φ 1) x (n:Int) (m:Int) ((d:Int)-1)=some ⟨o_Z67,([],false,())⟩):=by
    intro d
    induction d with
    | zero =>
      intro _ hd
      refine .inr ⟨fun j hj=>hd j (zaE _) hj,?_⟩
      refine Ev.round 1 (L:=fun φ q=>Z67.l0 (mkR (run E (φ 0))) (φ 0) q x (n:Int) (m:Int) (((0:Nat):Int)-1)) ?_ (fun _ _ _=>rfl)
      simp only[Z67.l0_succ _ qae]
      exact qaB (zae (by omega)) qal
    | succ d ih =>
      intro hdm hd
      have hlt:d<x.length:=by omega
      have ei:(((d+1:Nat):Int)-1)=(d:Int):=by omega
      have ew:w64 (w64 ((n:Int)-(m:Int))+(d:Int))=(n:Int)-(m:Int)+(d:Int):=by
        rw[qag (n:=(n:Int)-(m:Int)) (by omega) (by omega),qag (by omega) (by omega)]
      rw[ei]
      by_cases hx:x.getD d 0<(n:Int)-(m:Int)+(d:Int)
      · refine .inl ⟨d,by omega,hx,fun j h1 h2=>hd j (by omega) h2,?_⟩
        refine Ev.round 1 (L:=fun φ q=>Z67.l0 (mkR (run E (φ 0))) (φ 0) q x (n:Int) (m:Int) (d:Int)) ?_ (fun _ _ _=>rfl)
        simp only[Z67.l0_succ _ qae]
        have hxd:=h.2.2 d (by omega)
        refine qax (zac (by omega)) (qab (qak hlt) (qax (zac (by rw[ew];rw[qac hlt] at hx;exact hx)) (qaa (qja x (by omega)) ?_)))
        let st:Nat→Sim:=fun k=>(List.range x.length).map fun j=>if d≤j∧j<d+k then x.getD d 0+1+(j:Int)-(d:Int) else x.getD j 0
        have st0:st 0=x:=by
          refine zbB (by simp[st]) fun i g1 g2=>?_
          simp only[st,List.getElem_map,List.getElem_range]
          rw[if_neg (by omega),qac g2]
        have stl:∀ k,(st k).length=x.length:=fun k=>by simp[st]
        have stn:st (m-d)=nxt x d:=by
          refine zbB (by simp[st,nxt]) fun i g1 g2=>?_
          have:i<x.length:=by rw[stl] at g1;exact g1
          simp only[st,nxt,List.getElem_map,List.getElem_range]
          by_cases hi:i<d
          · rw[if_neg (by omega),if_pos hi]
          · rw[if_pos (by omega),if_neg hi]
        have sts:∀ k,d+k<m→(st k).set (d+k) (x.getD d 0+1+((d+k:Nat):Int)-(d:Int))=st (k+1):=fun k hk=>by
          refine zbB (by simp[st]) fun i g1 g2=>?_
          rw[List.getElem_set]
          simp only[st,List.getElem_map,List.getElem_range]
          by_cases e:d+k=i
          · subst e
            rw[if_pos rfl,if_pos (by omega)]
          · rw[if_neg e]
            by_cases h3:d≤i∧i<d+k
            · rw[if_pos h3,if_pos (by omega)]
            · rw[if_neg h3,if_neg (by omega)]
        have hlp:=Ev.start (p:=fun φ q=>Z67.l1 (mkR (run E (φ 0))) (φ 0) (φ 1) q x (m:Int) (d:Int) ((d:Int)+((0:Nat):Int)) (st 0)=some ⟨o_Z67,(nxt x d,true,())⟩) 2 (by
          refine qam 2 (L:=fun φ q k o=>Z67.l1 (mkR (run E (φ 0))) (φ 0) (φ 1) q x (m:Int) (d:Int) ((d:Int)+k) o) (len:=m-d) st (fun _ _ _ _ _=>rfl) (fun k r hk ihk=>?_) ?_
          · simp only[Z67.l1_succ _ qae]
            refine qax (zac (by omega)) (qab (qak hlt) (qao (by simp only[zah,decide_eq_true_eq,stl];omega) ?_))
            have e1:w64 ((d:Int)+(k:Int)+1)=(d:Int)+((k+1:Nat):Int):=by rw[qag (by omega) (by omega)];omega
            have e2:w64 (w64 (w64 (x[d]+1)+((d:Int)+(k:Int)))-(d:Int))=x.getD d 0+1+((d+k:Nat):Int)-(d:Int):=by
              rw[qac hlt] at hxd ⊢
              rw[qag (n:=x[d]+1) (by omega) (by omega),qag (n:=x[d]+1+((d:Int)+(k:Int))) (by omega) (by omega),qag (by omega) (by omega)]
              omega
            have e3:((d:Int)+(k:Int)).toNat=d+k:=by omega
            show Ev fun φ=>Z67.l1 (mkR (run E (φ 0))) (φ 0) (φ 1) (φ 2) x (m:Int) (d:Int) (w64 ((d:Int)+(k:Int)+1)) ((st k).set ((d:Int)+(k:Int)).toNat (w64 (w64 (w64 (x[d]+1)+((d:Int)+(k:Int)))-(d:Int))))=r
            rw[e1,e2,e3,sts k (by omega)]
            exact ihk
          · simp only[Z67.l1_succ _ qae]
            rw[stn]
            exact qaB (zae (by omega)) qal) (fun _ _ _ h=>h)
        rw[st0,show(d:Int)+((0:Nat):Int)=(d:Int) by omega] at hlp
        exact hlp
      · have step:∀ r,(Ev fun φ=>Z67.l0 (mkR (run E (φ 0))) (φ 0) (φ 1) x (n:Int) (m:Int) ((d:Int)-1)=r)→Ev fun φ=>Z67.l0 (mkR (run E (φ 0))) (φ 0) (φ 1) x (n:Int) (m:Int) (d:Int)=r:=fun r hr=>by
          refine Ev.round 1 (L:=fun φ q=>Z67.l0 (mkR (run E (φ 0))) (φ 0) q x (n:Int) (m:Int) (d:Int)) ?_ (fun _ _ _=>rfl)
          simp only[Z67.l0_succ _ qae]
          refine qax (zac (by omega)) (qab (qak hlt) (qaB (zae (by rw[ew];rw[qac hlt] at hx;exact hx)) ?_))
          rw[qag (n:=(d:Int)-1) (by omega) (by omega)]
          exact hr
        rcases ih (by omega) (fun j h1 h2=>by
          by_cases e:j=d
          · subst e;exact hx
          · exact hd j (by omega) h2) with ⟨i,a1,a2,a3,a4⟩ | ⟨a1,a2⟩
        · exact .inl ⟨i,a1,a2,a3,step _ a4⟩
        · exact .inr ⟨a1,step _ a2⟩
  have fin:∀ r,(Ev fun φ=>Z67.l0 (mkR (run E (φ 0))) (φ 0) (φ 1) x (n:Int) (m:Int) ((m:Int)-1)=some r)→Ret E n_Z67 [dL x,dI (n:Int)] r:=fun r hr=>by
    refine qai ?_
    simp only[run_Z67,Z67.ev]
    refine qaa (qdm x) ?_
    rw[hl,qag (n:=(m:Int)-1) (by omega) (by omega)]
    exact Ev.start (p:=fun φ q=>Z67.l0 (mkR (run E (φ 0))) (φ 0) q x (n:Int) (m:Int) ((m:Int)-1)=_) 1 hr (fun _ _ _ h=>h)
  rcases key m (zaf _) (fun j h1 h2=>by omega) with ⟨i,a1,a2,a3,a4⟩ | ⟨a1,a2⟩
  · exact .inl ⟨i,a1,a2,a3,fin _ a4⟩
  · exact .inr ⟨a1,fin _ a2⟩
theorem qp7(k:Int)(b:Bool):Ret E n_Z36 [⟨.ptr (.cons (.int .i64) (.cons .bool .nil)),(k,b,())⟩] ⟨o_Z36,if k=0 then(false,(k,true,()),()) else(true,(w64 (k-1),b,()),())⟩:=by
 refine qai ?_
 simp only[run_Z36,Z36.ev]
 by_cases h:k=0
 ·rw[if_pos h]
  exact qax (by simp[h]) qal
 ·rw[if_neg h]
  exact qaB (by simpa using h) qal
theorem qlN(k:Int):Ret E n_Z56 [dI k] ⟨o_Z56,(pb (1≤k∧k≤20000),())⟩:=by
 refine qai ?_
 simp only[run_Z56,Z56.ev]
 refine qaa (qc8 k 1 20000) ?_
 exact qal
def qtb(x:Shf)(r:Sim×Int×Unit):Prop:=(r.2.1≠0→r.1=[])∧(r.2.1=0→ISh x∧∃ m,m≤(vxs x.1).length∧Inc m (vxs x.1).length r.1∧qdp x r.1=0∧∀ m',m'<m→∀ y,Inc m' (vxs x.1).length y→qdp x y≠0)
theorem qkG{c:List Sim}{m n:Nat}{y:Sim}(h:Inc m n y)(hn:n≤c.length):qdo c y:=⟨qcZ h.pairwise,fun z hz=>by
 obtain⟨i,hi,rfl⟩:=zbC hz
 have:=h.2.2 i (by have:=h.1;omega)
 rw[qac hi] at this
 omega⟩
theorem qrV(x:Shf)(k:Int)(hx:Sm (.st cS) x):qhz n_Z7 [dLL x.1,dI x.2.1,dL x.2.2.1,dMs x.2.2.2.1,dI k] o_Z7 fun(r:Sim×Int×Unit)=>qtb x r:=by
 obtain⟨c,p,st,ms,⟨⟩⟩:=x
 refine qbs ?_
 simp only[run_Z7,Z7.ev]
 refine qau (qe5 (c,p,st,ms,()) hx) ?_
 by_cases hI:¬ ISh (c,p,st,ms,())
 ·exact qgB (by rw[qaq hI];rfl) (qaH ⟨fun _=>rfl,fun h=>by cases h⟩)
 replace hI:=zcn.1 hI
 refine qbU (by rw[qaK hI];rfl) (qau (qlN k) ?_)
 by_cases hb:¬ (1≤k∧k≤20000)
 ·exact qgB (by rw[qaq hb];rfl) (qaH ⟨fun _=>rfl,fun h=>by cases h⟩)
 replace hb:=zcn.1 hb
 have hs:VS c p st ms:=hI.1
 have hc48:c.length≤48:=hs.1.1
 refine qbU (by rw[qaK hb];rfl) (qau (qjg c hx.1) (qau (qdm (vxs c)) ?_))
 have hV:(vxs c).length≤c.length:=qfd
 generalize hVn:(vxs c).length=V at hV
 have eV:w64 ((V:Int)+1)=((V+1:Nat):Int):=by rw[qad (by omega)]
 show EvQ (fun φ=>Z7.l0 (mkR (run E (φ 0))) (φ 0) (φ 0) (V:Int) (w64 ((V:Int)+1)) 0 c p st ms k false) _ _
 rw[eV]
 refine EvQ.start 1 (L:=fun φ N=>Z7.l0 (mkR (run E (φ 0))) (φ 0) N (V:Int) ((V+1:Nat):Int) 0 c p st ms k false) ?_ (fun _ _ _=>rfl)
 refine EvQ.loop 1 (σ:=Nat×Int×Bool) (L:=fun φ N s=>Z7.l0 (mkR (run E (φ 0))) (φ 0) N (V:Int) ((V+1:Nat):Int) (s.1:Int) c p st ms s.2.1 s.2.2) (fun _ _ _ _=>rfl)
  (fun s=>s.1≤V+1∧0≤s.2.1∧s.2.1≤20000∧∀ m',m'<s.1→∀ y,Inc m' V y→qdp (c,p,st,ms,()) y≠0) (fun s=>V+1-s.1) (fun s hi ih=>?_) (0,k,false) ⟨zaE _,by show 0≤k;omega,hb.2,fun m' h=>absurd h (Nat.not_lt_zero _)⟩
 obtain⟨m,left,spent⟩:=s
 obtain⟨i1,i2,i3,i4⟩:=hi
 simp only at i1 i2 i3 i4 ih ⊢
 simp only[Z7.l0_succ _ qae]
 refine qck (fun h=>?_) fun h=>qaH ⟨fun _=>rfl,fun h=>by cases h⟩
 have hmV:m≤V:=by omega
 refine qau (qh6 m (by omega)) ?_
 refine EvQ.start 2 (L:=fun φ N=>Z7.l1 (mkR (run E (φ 0))) (φ 0) (φ 1) N (V:Int) (qnc m) true ((V+1:Nat):Int) (m:Int) c p st ms left spent) ?_ (fun _ _ _=>rfl)
 refine EvQ.loop 2 (σ:=Sim×Bool×Int×Bool) (L:=fun φ N s=>Z7.l1 (mkR (run E (φ 0))) (φ 0) (φ 1) N (V:Int) s.1 s.2.1 ((V+1:Nat):Int) (m:Int) c p st ms s.2.2.1 s.2.2.2) (fun _ _ _ _=>rfl)
  (fun s=>0≤s.2.2.1∧s.2.2.1≤20000∧(s.2.1=true→Inc m V s.1∧Bad (fun y=>qdp (c,p,st,ms,()) y≠0) m V s.1)∧(s.2.1=false→∀ y,Inc m V y→qdp (c,p,st,ms,()) y≠0)) (fun s=>if s.2.1 then s.2.2.1.toNat+1 else 0) (fun s hj jh=>?_) (qnc m,true,left,spent) ⟨i2,i3,fun _=>⟨qrD hmV,qrK⟩,fun h=>by cases h⟩
 obtain⟨list,more,left2,spent2⟩:=s
 obtain⟨j1,j2,j3,j4⟩:=hj
 simp only at j1 j2 j3 j4 jh ⊢
 simp only[Z7.l1_succ _ qae]
 cases more with
 | false =>
  refine qbU rfl ?_
  rw[qad (by omega)]
  refine ih (m+1,left2,spent2) ⟨by show m+1≤V+1;omega,j1,j2,fun m' hm' y hy=>?_⟩ (by show V+1-(m+1)<V+1-m;omega)
  by_cases e:m'=m
  ·subst e;exact j4 rfl y hy
  ·exact i4 m' (by show m'<m;have:m'<m+1:=hm';omega) y hy
 | true =>
  obtain⟨hinc,hbad⟩:=j3 rfl
  refine qgB rfl (qau (qp7 left2 spent2) ?_)
  by_cases h0:left2=0
  ·rw[if_pos h0]
   exact qgB rfl (qaH ⟨fun _=>rfl,fun h=>by cases h⟩)
  ·rw[if_neg h0]
   have hl:=hinc.1
   have hpl:qdo c list:=qkG hinc (by omega)
   refine qbU rfl (qau (qiU (c,p,st,ms,()) list hx (qb7 (by omega)) hs hpl) ?_)
   by_cases hf:qdp (c,p,st,ms,()) list=0
   ·refine qgB (by simpa using hf) (qaH ⟨fun h=>absurd rfl h,fun _=>⟨hI,m,by rw[hVn];exact hmV,by rw[hVn];exact hinc,hf,fun m' hm' y hy=>?_⟩⟩)
    rw[hVn] at hy
    exact i4 m' hm' y hy
   ·refine qbU (by simpa using hf) ?_
    have el:w64 (left2-1)=left2-1:=qag (by omega) (by omega)
    rcases qjm hinc (by omega) hmV with ⟨i,a1,a2,a3,a4⟩ | ⟨a1,a2⟩
    ·refine qau a4 ?_
     show EvQ (fun φ=>Z7.l1 (mkR (run E (φ 0))) (φ 0) (φ 1) (φ 2) (V:Int) (nxt list i) true ((V+1:Nat):Int) (m:Int) c p st ms (w64 (left2-1)) spent2) _ _
     rw[el]
     refine jh (nxt list i,true,left2-1,spent2) ⟨by show 0≤left2-1;omega,by show left2-1≤20000;omega,fun _=>⟨qrx hinc a1 a2,qqI hinc hbad hf a1 a3⟩,fun h=>by cases h⟩ ?_
     show(left2-1).toNat+1<left2.toNat+1
     omega
    ·refine qau a2 ?_
     show EvQ (fun φ=>Z7.l1 (mkR (run E (φ 0))) (φ 0) (φ 1) (φ 2) (V:Int) [] false ((V+1:Nat):Int) (m:Int) c p st ms (w64 (left2-1)) spent2) _ _
     rw[el]
     refine jh ([],false,left2-1,spent2) ⟨by show 0≤left2-1;omega,by show left2-1≤20000;omega,fun h=>(by cases h),fun _=>qqs hinc hbad hf a1⟩ ?_
     show 0<left2.toNat+1
     omega
end VeT
open Go Go.Proofs Ve
namespace VeT
theorem qoI{x:Shf}{w:Sim}{H:Nat}(hst:∀ y∈x.2.2.1,0≤y∧y≤3)(hl:x.2.2.1.length=x.1.length)(hw:qdo x.1 w)(eH:SD x.1 x.2.2.1 1=(H:Int)) :
  ∀ n,n≤w.length→((gvL x w n).length:Int)=(H:Int)+off x.2.2.1 w n:=by
 intro n
 induction n with
 | zero =>
  intro _
  have e:gvL x w 0=qcs x.1 x.2.1 x.2.2.1 x.2.2.2.1 (SD x.1 x.2.2.1 1).toNat:=by simp[gvL]
  rw[e,qbA,eH]
  simp[off]
 | succ n ih =>
  intro hn
  have h1:=ih (by omega)
  obtain⟨s,hs,hsl⟩:=hw.get (show n<w.length by omega)
  have hl2:(gvR x s (x.2.2.1.getD s 0).toNat).length=(x.2.2.1.getD s 0).toNat:=by simp[gvR]
  have h3:0≤x.2.2.1.getD s 0∧x.2.2.1.getD s 0≤3:=by rw[qac (by omega)];exact hst _ (zaj _)
  rw[qfi (by omega) hs,qen (by omega) hs,zal,hl2]
  omega
noncomputable def qmk(x:Shf)(v:Sim):Sim:=List.replicate (SD x.1 x.2.2.1 1).toNat 0++v
noncomputable def extS(x:Shf)(w v:Sim):Option Sim:=qp0 x.2.1 (gvL x w w.length).length (SD x.1 x.2.2.1 0).toNat (gvL x w w.length).flatten (qmk x v)
theorem qqD{x:Shf}{w v:Sim}(hx:Sm (.st cS) x)(h:VS x.1 x.2.1 x.2.2.1 x.2.2.2.1)(hw:qdo x.1 w)(hd:Dat x w v) :
  Ret E n_Z80 [dI x.2.1,dI ((gvL x w w.length).length:Int),dI (SD x.1 x.2.2.1 0),dL (gvL x w w.length).flatten,dL (qmk x v)] ⟨o_Z80,qsP (extS x w v)⟩:=by
 obtain⟨W,eW,bW,tW⟩:=qbY h 0
 obtain⟨H,eH,bH,tH⟩:=qbY h 1
 have h48:=h.1.1
 have hwl:=hw.le48
 obtain⟨f1,f2⟩:=qeQ hx h hw eW eH w.length (zaf _)
 have hlen:=qoI h.2.2.1.2.1 h.2.2.1.1 hw eH w.length (zaf _)
 obtain⟨g1,g2⟩:=f2.flat
 have hp:2≤x.2.1∧x.2.1≤251:=⟨h.2.1.1,h.2.1.2.1⟩
 have hbl:(qmk x v).length=(gvL x w w.length).length:=by
  have:=hd.2
  unfold qmk
  rw[zal,zas,tH];omega
 have hb:qaC (qmk x v) x.2.1:=fun y hy=>by
  rcases zam.1 hy with hy | hy
  ·have:=(zbe.1 hy).2;omega
  ·exact hd.1 y hy
 have hmul:(gvL x w w.length).length*(W+1)≤176*33:=zbd (by omega) (by omega)
 have hmul2:(gvL x w w.length).length*W≤(gvL x w w.length).length*(W+1):=Nat.mul_le_mul_left _ (by omega)
 have k1:=qpl x.2.1 (gvL x w w.length).length W (gvL x w w.length).flatten (qmk x v) hp (by omega) (by omega) (by omega) g1 g2 hbl hb
 unfold extS
 rw[tW,eW]
 exact k1
theorem qn9{x:Shf}{w v y:Sim}(hs:VS x.1 x.2.1 x.2.2.1 x.2.2.2.1)(h:extS x w v=some y):y.length≤1048576:=by
 obtain⟨W,eW,bW,tW⟩:=qbY hs 0
 unfold extS qp0 at h
 rw[qfC h,zas];omega
noncomputable def qa4(x:Shf)(w v:Sim):Sim×Int×Unit:=if LC x w v=0 then(match extS x w v with | some y=>(y,0,()) | none=>([],3,())) else([],LC x w v,())
theorem qeH(x:Shf)(w v:Sim)(hx:Sm (.st cS) x)(hw:Sm (.sl (.int .i64)) w)(hv:Sm (.sl (.int .i64)) v):Ret E n_Z5 [dLL x.1,dI x.2.1,dL x.2.2.1,dMs x.2.2.2.1,dL w,dL v] ⟨o_Z5,qa4 x w v⟩:=by
 refine qai ?_
 simp only[run_Z5,Z5.ev]
 refine qaa (qer x w v hx hw hv) (qbS (fun h=>qah ?_) fun h=>?_)
 ·have h:¬ LC x w v=0:=by simpa using h
  rw[qa4,if_neg h]
 ·have h:LC x w v=0:=by simpa using h
  obtain⟨⟨hs,hpl⟩,hd⟩:=qgM.1 h
  rw[qa4,if_pos h]
  obtain⟨H,eH,bH,tH⟩:=qbY hs.1 1
  have hst:=hs.1.2.2.1.2.1
  have hv1:v.length≤1048576:=hv.1
  have hv2:=hd.2
  have hoi:=qgh (st:=x.2.2.1) (w:=w) hst (n:=w.length)
  have h48:=hs.1.1.1
  have hwl:=hpl.le48
  have s1:=qcd x.1 x.2.2.1 1 x.2.1 x.2.2.2.1 hx.1 hs.1.2.2.1.1 hst (by omega)
  rw[show qgx x.1 x.2.2.1 1 (qay x.1 1 x.1.length).length=(H:Int) from eH] at s1
  have hH8:(0:Int)≤(H:Int)∧(H:Int)*8≤70368744177664:=by omega
  have hcc:=qgP [List.replicate H 0,v] (by simp) (by simp;omega)
  rw[show [List.replicate H 0,v].flatten=qmk x v by unfold qmk;rw[tH];simp] at hcc
  refine qaa (qfw x w hx hw hs.1 hpl) (qaa s1 (qao (by simp only[zah,decide_eq_true_eq];exact hH8) ?_))
  simp only[zai]
  refine qaa hcc (qaa (qqD hx hs.1 hpl hd) ?_)
  cases extS x w v with
  | none=>exact qax rfl qal
  | some y=>exact qaB rfl qal
end VeT
open Go Go.Proofs Ve
namespace VeT
abbrev qq7:=List Sim×Int×Sim×List Mat×Sim×Sim×Src×Unit
def Ddx(n:Nat)(r:qq7):Prop:=Sm (.st cS) (r.1,r.2.1,r.2.2.1,r.2.2.2.1,())∧r.1.length≤48∧r.2.2.2.2.1.length≤100∧r.2.2.2.2.2.1.length≤1000∧SO n r.2.2.2.2.2.2.1
theorem qn4(n:Nat)(s:Src)(hn:n≤1000000)(hs:SO n s):qhz n_Z190 [dR s] o_Z190 fun(r:qq7)=>Ddx (n+50000) r:=by
 obtain⟨c0,a0,g0,⟨⟩⟩:=s
 refine qbs ?_
 simp only[run_Z190,Z190.ev]
 refine qaU (qiM n _ hn hs) fun(r:Dsc) ⟨b1,b2,b3,b4⟩=>?_
 obtain⟨c,p,st,ms,x,s1,⟨⟩⟩:=r
 simp only at b1 b2 b3 b4
 dsimp only
 refine qaU (qjh (n+31000) s1 (c,p,st,ms,()) (by omega) b4 b2) fun(q:Sim×Src×Unit) ⟨q1,q2⟩=>?_
 obtain⟨w,s2,⟨⟩⟩:=q
 simp only at q1 q2
 dsimp only
 have sx:Sm (.sl (.int .i64)) x:=qb7 (by omega)
 have sw:Sm (.sl (.int .i64)) w:=qb7 (by omega)
 have j3c:∀(vals:Sim) (s3:Src),vals.length≤999→SO (n+40000) s3→EvQ (fun φ=>Z190.j3 (mkR (run E (φ 0))) (φ 0) 0 c p st ms vals s3.1 s3.2.1 s3.2.2.1 w) o_Z190 fun(r:qq7)=>Ddx (n+50000) r:=by
  intro vals s3 h1 h2
  have fin:∀(v2:Sim) (s4:Src),v2.length≤1000→SO (n+40100) s4→EvQ (fun φ=>Z190.j4 (mkR (run E (φ 0))) (φ 0) 0 c p st ms v2 s4.1 s4.2.1 s4.2.2.1 w) o_Z190 fun(r:qq7)=>Ddx (n+50000) r:=by
   intro v2 s4 g1 g2
   simp only[Z190.j4_eq _ qae]
   exact qaH ⟨b1,b2,q1,g1,g2.le (by omega)⟩
  simp only[Z190.j3_eq _ qae]
  refine qaU (qe9 _ s3 14 (by omega) h2) fun(u:Bool×Src×Unit) u1=>qcH (fun _=>?_) fun _=>fin vals u.2.1 (by omega) (u1.le (by omega))
  refine qaU (qcS (n+40002) u.2.1 _ (by simp) (by omega) u1) fun(z:Int×Src×Unit) ⟨_,z1⟩=>qaJ (zac (by simp;omega)) (fin _ z.2.1 (by simp;omega) (z1.le (by omega)))
 have j2c:∀(b:Bool) (vals:Sim) (s3:Src),vals.length≤999→SO (n+39000) s3→(b=true→0<vals.length∧p≠0)→EvQ (fun φ=>Z190.j2 (mkR (run E (φ 0))) (φ 0) b 0 c p st ms vals s3.1 s3.2.1 s3.2.2.1 w) o_Z190 fun(r:qq7)=>Ddx (n+50000) r:=by
  intro b vals s3 h1 h2 h3
  simp only[Z190.j2_eq _ qae]
  refine qcH (fun hb=>?_) fun _=>j3c vals s3 h1 (h2.le (by omega))
  obtain⟨g1,g2⟩:=h3 hb
  refine qaU (qa5 (n+39000) s3 _ (by omega) h2) fun(u:Int×Src×Unit) ⟨u1,u2,u3,u4⟩=>?_
  have hk:u.1.toNat<vals.length:=by omega
  have hk2:(decide (0≤u.1)&&decide (u.1<(vals.length:Int)))=true:=by rw[zac u1,zac (show u.1<(vals.length:Int) by omega)];rfl
  refine qaJ hk2 (qbT (zag hk) (qaJ (by simpa using g2) (qaJ hk2 ?_)))
  exact j3c _ u.2.1 (by rw[zaN];exact h1) (u4.le (by omega))
 have j1c:∀(vals:Sim) (s3:Src),vals.length≤999→SO (n+38000) s3→(0<vals.length→p≠0)→EvQ (fun φ=>Z190.j1 (mkR (run E (φ 0))) (φ 0) 0 c p st ms vals s3.1 s3.2.1 s3.2.2.1 w) o_Z190 fun(r:qq7)=>Ddx (n+50000) r:=by
  intro vals s3 h1 h2 h3
  simp only[Z190.j1_eq _ qae]
  refine qck (fun h=>?_) fun h=>j2c false vals s3 h1 (h2.le (by omega)) fun h=>(by cases h)
  refine qaU (qe9 _ s3 3 (by omega) h2) fun(u:Bool×Src×Unit) u1=>j2c u.1 vals u.2.1 h1 (u1.le (by omega)) fun _=>⟨by omega,h3 (by omega)⟩
 have j0c:∀(b:Bool),(b=true→ISh (c,p,st,ms,())∧qdo c w)→EvQ (fun φ=>Z190.j0 (mkR (run E (φ 0))) (φ 0) b 0 c p st ms [] s2.1 s2.2.1 s2.2.2.1 w) o_Z190 fun(r:qq7)=>Ddx (n+50000) r:=by
  intro b hb
  simp only[Z190.j0_eq _ qae]
  refine qcH (fun h=>?_) fun _=>j1c [] s2 (by simp) (q2.le (by omega)) fun h=>absurd h (by simp)
  obtain⟨hI,hP⟩:=hb h
  have hst:∀ y∈st,0≤y∧y≤3:=hI.1.2.2.1.2.1
  have hm:=qmY (c,p,st,ms,()) w hI.1.2.2.1.1 hst (by omega) fun i hi=>by
   have:=hP.2 w[i] (zaj hi)
   have hh:(w[i]:Int)≤(c.length:Int)-1:=this.2
   exact⟨w[i].toNat,by omega,by show w[i].toNat<c.length;omega⟩
  obtain⟨o1,o2⟩:=qgh (w:=w) hst (n:=w.length)
  obtain⟨W,eW⟩:=zaL o1
  have eW':off (c,p,st,ms,()).2.2.1 w w.length=(W:Int):=eW
  rw[eW'] at hm
  have hp2:2≤p:=hI.1.2.1.1
  refine qau hm (qaU (qfo (n+32000) s2 W p (by omega) (q2.le (by omega)) (by omega)) fun(u:Sim×Src×Unit) ⟨u1,u2⟩=>?_)
  exact j1c u.1 u.2.1 (by omega) (u2.le (by omega)) fun _=>by omega
 refine qau (qez (c,p,st,ms,()) x w b1 sx sw) ?_
 unfold qdf
 by_cases hP:PC (c,p,st,ms,()) w=0
 ·rw[if_pos hP]
  obtain⟨hI,hp⟩:=qd2.1 hP
  have hp2:2≤p:=hI.1.2.1.1
  by_cases hS:Sec (c,p,st,ms,()) x
  ·rw[if_pos hS]
   have hl:=qhd (x:=(c,p,st,ms,())) (v:=x) (w:=w) hI.1 (n:=w.length)
   exact qbU rfl (j1c _ s2 (by show(qcY (c,p,st,ms,()) x w w.length).length≤999;omega) (q2.le (by omega)) fun _=>by omega)
  ·rw[if_neg hS]
   refine qgB rfl (qau (qeS (c,p,st,ms,()) b1) ?_)
   rw[qaK hI]
   refine qgB rfl (qau (qd5 (c,p,st,ms,()) w b1.1.1 sw) ?_)
   exact j0c _ fun _=>⟨hI,hp⟩
 ·rw[if_neg hP]
  refine qgB (by simpa using hP) (qau (qeS (c,p,st,ms,()) b1) (qcH (fun h=>?_) fun _=>j0c false fun h=>(by cases h)))
  have hI:ISh (c,p,st,ms,()):=qaD.1 h
  refine qau (qd5 (c,p,st,ms,()) w b1.1.1 sw) ?_
  exact j0c _ fun h=>⟨hI,qaD.1 h⟩
theorem qlU(x:List Int)(h:Wf (.sl (.int .u8)) x):qhz n_Z119 [dB x] o_Z119 fun(r:List Sim×Int×Sim×List Mat×Sim×Sim×Unit)=>Sm (.st cS) (r.1,r.2.1,r.2.2.1,r.2.2.2.1,())∧r.1.length≤48∧r.2.2.2.2.1.length≤100∧r.2.2.2.2.2.1.length≤1000:=by
 refine qbs ?_
 simp only[run_Z119,Z119.ev]
 refine qau (qis x) ?_
 exact qaU (qn4 0 (x,0,0,()) (by omega) (qsn h)) fun(r:qq7) ⟨b1,b2,b3,b4,_⟩=>qaH ⟨b1,b2,b3,b4⟩
theorem qlj(x:List Int)(h:Wf (.sl (.int .u8)) x):qhz n_Z120 [dB x] o_Z120 fun(r:List Sim×Int×Sim×List Mat×Int×Unit)=>Sm (.st cS) (r.1,r.2.1,r.2.2.1,r.2.2.2.1,())∧r.1.length≤48:=by
 refine qbs ?_
 simp only[run_Z120,Z120.ev]
 refine qau (qis x) ?_
 refine qaU (qm4 0 (x,0,0,()) (by omega) (qsn h)) fun(r:Drw) ⟨b1,b2,b3⟩=>?_
 exact qaU (qcS 30000 r.2.2.2.2.1 _ (by simp) (by omega) (b3.le (by omega))) fun(z:Int×Src×Unit) _=>qaH ⟨b1,b2⟩
end VeT
open Go Go.Proofs Ve
namespace VeT
theorem qmQ{x:Shf}{w:Sim}(hp:qdo x.1 w){n k:Nat}:∀ {d:Nat},n+d≤w.length→k<(gvL x w n).length→(gvL x w (n+d)).getD k []=(gvL x w n).getD k []
 | 0,_,_=>rfl
 | d+1,h,hk=>by
  have ih:=qmQ hp (n:=n) (k:=k) (d:=d) (by omega) hk
  obtain⟨s,hs,_⟩:=hp.get (show n+d<w.length by omega)
  have hlen:(gvL x w n).length≤(gvL x w (n+d)).length:=by
   have key:∀ e,n+e≤w.length→(gvL x w n).length≤(gvL x w (n+e)).length:=by
    intro e
    induction e with
    | zero=>intro _;exact zaf _
    | succ e ih2 =>
     intro he
     obtain⟨s2,hs2,_⟩:=hp.get (show n+e<w.length by omega)
     rw[← zbG,qfi (by omega) hs2,zal]
     have:=ih2 (by omega)
     omega
   exact key d (by omega)
  rw[← zbG,qfi (by omega) hs,zaa,zao (by omega),← zaa]
  exact ih
theorem qpY{W:Nat}{rows:List Sim}(hr:∀ r∈rows,r.length=W){i j:Nat}(hi:i<rows.length)(hj:j<W):qbe rows.flatten W i j=(rows.getD i []).getD j 0:=by
 have e1:=qjr hr
 have e2:rows.flatten=qar (qd0 rows) W rows.length:=by rw[← qbF,e1]
 rw[e2,qaW hi hj];unfold qd0;rfl
theorem qpN{x:Shf}{w v y:Sim}(hx:Sm (.st cS) x)(h:LC x w v=0)(e:extS x w v=some y):Sec x y∧qcY x y w w.length=v:=by
 obtain⟨⟨hs,hw⟩,hd⟩:=qgM.1 h
 obtain⟨W,eW,bW,tW⟩:=qbY hs.1 0
 obtain⟨H,eH,bH,tH⟩:=qbY hs.1 1
 have h48:=hs.1.1.1
 have hwl:=hw.le48
 have hst:=hs.1.2.2.1.2.1
 obtain⟨f1,f2⟩:=qeQ hx hs.1 hw eW eH w.length (zaf _)
 have hlen:=qoI hs.1.2.2.1.2.1 hs.1.2.2.1.1 hw eH
 have hlw:=hlen w.length (zaf _)
 obtain⟨g1,g2⟩:=f2.flat
 have hbl:(qmk x v).length=(gvL x w w.length).length:=by
  have:=hd.2
  unfold qmk
  rw[zal,zas,tH];omega
 have hb:qaC (qmk x v) x.2.1:=fun y hy=>by
  rcases zam.1 hy with hy | hy
  ·have:=(zbe.1 hy).2;have:=hs.1.2.1.1;omega
  ·exact hd.1 y hy
 unfold extS at e
 rw[tW] at e
 obtain⟨_,i2⟩:=qp3 hs.1.2.1 g1 g2 hbl hb
 obtain⟨y1,y2⟩:=qn1 hs.1.2.1 g1 g2 hbl hb e
 have hrow:∀ i,i<(gvL x w w.length).length→qaG (fun j=>y.getD j 0) (fun j=>((gvL x w w.length).getD i []).getD j 0) W%x.2.1=(qmk x v).getD i 0%x.2.1:=fun i hi=>by
  rw[← i2 y e i hi]
  congr 1
  exact qaw fun j hj=>⟨rfl,(qpY (fun r hr=>(f2 r hr).1) hi hj).symm⟩
 have hc0:gvL x w 0=qcs x.1 x.2.1 x.2.2.1 x.2.2.2.1 H:=by simp[gvL,tH]
 have hcoch:qoE x 0 y:=⟨y2,by rw[y1,eW]⟩
 have hsec:qnF x fun g=>y.getD g 0:=(qmC hs.1).1 fun r hr=>by
  rw[tH] at hr
  have hr2:r<(gvL x w 0).length:=by rw[hc0];simp[qcs];exact hr
  have h1:=hrow r (by have:=(qgh (w:=w) hst (n:=w.length)).1;omega)
  have h2:=qmQ hw (n:=0) (d:=w.length) (by omega) hr2
  rw[zaX] at h2
  rw[h2,hc0] at h1
  have h3:(qcs x.1 x.2.1 x.2.2.1 x.2.2.2.1 H).getD r []=qkJ x.1 x.2.1 x.2.2.1 x.2.2.2.1 0 r:=by
   unfold qcs
   rw[zaa,zaD,zbg hr];rfl
  rw[h3] at h1
  have h4:(qmk x v).getD r 0=0:=by
   unfold qmk
   rw[zaa,zao (by simp[tH];exact hr),zaB,if_pos (by omega)];rfl
  rw[h4,zcd] at h1
  rw[tW]
  refine Eq.trans ?_ h1
  congr 1
  exact qaw fun g hg=>⟨rfl,by
   have:=(qge (c:=x.1) (p:=x.2.1) (st:=x.2.2.1) (ms:=x.2.2.2.1) (k:=0) (r:=r) (g:=g) (by rw[tW];exact hg)).symm
   rw[tW] at this
   exact this⟩
 refine⟨qrk hs hcoch hsec,?_⟩
 have key:∀ n,n≤w.length→qcY x y w n=v.take (off x.2.2.1 w n).toNat:=by
  intro n
  induction n with
  | zero=>intro _;simp[qcY,off]
  | succ n ih =>
   intro hn
   obtain⟨s,hs2,hsl⟩:=hw.get (show n<w.length by omega)
   have o1:=(qgh (w:=w) hst (n:=n)).1
   have o2:=qen (st:=x.2.2.1) (show n<w.length by omega) hs2
   have o3:=qhK (w:=w) hst (show n+1≤w.length from hn)
   have hS:0≤x.2.2.1.getD s 0∧x.2.2.1.getD s 0≤3:=qcl hst s
   have hdl:=hd.2
   rw[qdO (by omega) hs2,ih (by omega),o2]
   have e5:(off x.2.2.1 w n+x.2.2.1.getD s 0).toNat=(off x.2.2.1 w n).toNat+(x.2.2.1.getD s 0).toNat:=by omega
   rw[e5,List.take_add]
   congr 1
   refine qgj (by rw[qmq,zax,zbn];omega) fun i hi=>?_
   rw[qmq] at hi
   obtain⟨_,a1,a2,a3,a4⟩:=qej hs.1.1 hsl
   obtain⟨r1,r2,r3,r4⟩:=qa9 hs.1 a1 hsl a4
   have hbd:=qdr (c:=x.1) hst a1
   rw[qrW hs hsl hi]
   have hk:H+(off x.2.2.1 w n).toNat+i<(gvL x w (n+1)).length:=by have:=hlen (n+1) hn;omega
   have hk2:H+(off x.2.2.1 w n).toNat+i<(gvL x w w.length).length:=by omega
   have h1:=hrow _ hk2
   have h2:=qmQ hw (n:=n+1) (d:=w.length-(n+1)) (by omega) hk
   rw[show n+1+(w.length-(n+1))=w.length by omega,qfi (by omega) hs2] at h2
   have h3:(gvL x w n++gvR x s (x.2.2.1.getD s 0).toNat).getD (H+(off x.2.2.1 w n).toNat+i) []=qhA (qa2 x (fvx x.1 s) s) (FC x.1 x.2.2.1 (fvx x.1 s)).toNat W 1 i:=by
    have hln:=hlen n (by omega)
    rw[zaa,zap (by omega)]
    have:H+(off x.2.2.1 w n).toNat+i-(gvL x w n).length=i:=by omega
    rw[this]
    unfold gvR
    rw[zaD,zbg hi,tW];rfl
   rw[h2,h3] at h1
   have h4:(qmk x v).getD (H+(off x.2.2.1 w n).toNat+i) 0=v.getD ((off x.2.2.1 w n).toNat+i) 0:=by
    unfold qmk
    rw[zaa,zap (by simp[tH];omega),← zaa]
    congr 1
    simp[tH];omega
   have hdim:(FC x.1 x.2.2.1 (fvx x.1 s)).toNat+(qa2 x (fvx x.1 s) s).2.2.1.toNat≤W:=by
    rw[r4]
    have hb2:=hbd.2
    rw[a3] at hb2
    have hb1:=hbd.1
    have:((1:Nat):Int)-1=0:=by omega
    rw[this,eW] at hb2
    have:=qcl hst (fvx x.1 s)
    omega
   have h5:=qkn (m:=qa2 x (fvx x.1 s) s) (a:=(FC x.1 x.2.2.1 (fvx x.1 s)).toNat) (n:=W) (i:=i) (t:=1) (u:=fun g=>y.getD g 0) hdim
   rw[r2,zco] at h5
   rw[h5,h4] at h1
   have h6:apM (qa2 x (fvx x.1 s) s) (vy x (fun g=>y.getD g 0) (fvx x.1 s)) i=v.getD ((off x.2.2.1 w n).toNat+i) 0%x.2.1:=by
    unfold apM
    rw[r2,← h1];rfl
   rw[h6,zaa (l:=(v.drop _).take _),zbf,if_pos hi,zaY,← zaa]
   have hlt:(off x.2.2.1 w n).toNat+i<v.length:=by omega
   rw[qac hlt]
   have:=hd.1 _ (zaj hlt)
   have:=hs.1.2.1.1
   exact zbD (by omega) (by omega)
 rw[key w.length (zaf _)]
 have:=hd.2
 exact zav (by omega)
end VeT
open Go Go.Proofs Ve
namespace VeT
theorem qmE{x:Shf}{w:Sim}(hx:Sm (.st cS) x)(hs:ISh x)(hw:qdo x.1 w):qdp x w=((rkV x.2.1 (SD x.1 x.2.2.1 0).toNat (Sol x.2.1 (SD x.1 x.2.2.1 0).toNat (gvL x w w.length)):Nat):Int):=by
 obtain⟨W,eW,bW,tW⟩:=qbY hs.1 0
 obtain⟨H,eH,bH,tH⟩:=qbY hs.1 1
 obtain⟨f1,f2⟩:=qeQ hx hs.1 hw eW eH w.length (zaf _)
 obtain⟨g1,g2⟩:=f2.flat
 unfold qdp qqU
 rw[tW,qoO hs.1.2.1 g1 g2]
 congr 1
 exact qjd fun u=>qqc fun r hr=>(f2 r hr).1
theorem qkT{c:List Sim}:qdo c []:=⟨qcZ List.Pairwise.nil,fun y hy=>by simp at hy⟩
theorem qoY{x:Shf}:gvL x [] ([]:Sim).length=qcs x.1 x.2.1 x.2.2.1 x.2.2.2.1 (SD x.1 x.2.2.1 1).toNat:=by simp[gvL]
theorem qrs{x:Shf}{w:Sim}(hx:Sm (.st cS) x)(hs:ISh x)(hw:qdo x.1 w):0≤qdp x w∧qdp x w≤qdp x []:=by
 refine⟨by unfold qdp;omega,?_⟩
 rw[qmE hx hs hw,qmE hx hs qkT]
 have:=qqM (p:=x.2.1) (W:=(SD x.1 x.2.2.1 0).toNat) (V:=Sol x.2.1 (SD x.1 x.2.2.1 0).toNat (gvL x w w.length)) (V':=Sol x.2.1 (SD x.1 x.2.2.1 0).toNat (gvL x [] ([]:Sim).length)) fun u hu r hr=>hu r (by
  rw[qoY] at hr
  unfold gvL
  exact zam.2 (.inl hr))
 omega
theorem qqw{x:Shf}(hx:Sm (.st cS) x)(hs:ISh x):qdp x []=((qr4 x 0).length:Int):=by
 have hl:(qnC x 0).2.2.2.1.length=(SD x.1 x.2.2.1 (0+1)).toNat*(SD x.1 x.2.2.1 0).toNat:=by
  show(qjq _ _ _ _ 0).length=_;rw[qfY]
 have hk:(qr4 x 0).length=rkV x.2.1 (SD x.1 x.2.2.1 0).toNat (qoi x.2.1 (SD x.1 x.2.2.1 (0+1)).toNat (SD x.1 x.2.2.1 0).toNat (qbe (qnC x 0).2.2.2.1 (SD x.1 x.2.2.1 0).toNat)):=qoO hs.1.2.1 hl (qg4 hs.1 0)
 rw[qmE hx hs qkT,hk]
 congr 1
 refine qjd fun u=>?_
 rw[qoY]
 have hrow:∀ r,qaG u (qbe (qnC x 0).2.2.2.1 (SD x.1 x.2.2.1 0).toNat r) (SD x.1 x.2.2.1 0).toNat=qaG u (fun g=>(qkJ x.1 x.2.1 x.2.2.1 x.2.2.2.1 0 r).getD g 0) (SD x.1 x.2.2.1 0).toNat:=fun r =>
  qaw fun g hg=>⟨rfl,(qge hg).symm⟩
 constructor
 ·intro h r hr
  rw[hrow]
  exact h _ (zaO.2 ⟨r,zaG.2 hr,rfl⟩)
 ·intro h r hr
  obtain⟨i,hi,rfl⟩:=zaO.1 hr
  rw[← hrow]
  exact h i (zaG.1 hi)
theorem qnH{l:Sim}{i k:Nat}(hk:k<l.length):(k=i→(l.take (k+1)).eraseIdx i=(l.take k).eraseIdx i)∧(k≠i→(l.take (k+1)).eraseIdx i=(l.take k).eraseIdx i++[l[k]]):=by
 have hl:(l.take k).length=k:=by rw[zax];omega
 rw[zay hk]
 constructor
 ·intro e
  subst e
  rw[List.eraseIdx_append_of_length_le (by omega),hl,zbW,List.eraseIdx_of_length_le (l:=l.take k) (by omega)]
  simp
 ·intro e
  by_cases h:i<k
  ·rw[List.eraseIdx_append_of_lt_length (by omega)]
  ·rw[List.eraseIdx_append_of_length_le (by omega),hl,List.eraseIdx_of_length_le (l:=l.take k) (by omega),List.eraseIdx_of_length_le (l:=[l[k]]) (by simp;omega)]
theorem qhu(x1 x2:List Int)(h1:Wf (.sl (.int .u8)) x1)(h2:Wf (.sl (.int .u8)) x2):Ret E n_Z91 [dB x1,dB x2] ⟨.cons .bool .nil,(true,())⟩:=by
 refine qqN (qbs ?_)
 have few:EvQ (fun φ=>Z91.j4 (mkR (run E (φ 0))) (φ 0) x2) (.cons .bool .nil) fun(r:Bool×Unit)=>r.1=true:=by
  simp only[Z91.j4_eq _ qae]
  refine qaU (qlj x2 h2) fun(r:List Sim×Int×Sim×List Mat×Int×Unit) ⟨b1,b2⟩=>?_
  obtain⟨c,p,st,ms,k,⟨⟩⟩:=r
  simp only at b1 b2
  dsimp only
  refine qaU (qrV (c,p,st,ms,()) k b1) fun(r:Sim×Int×Unit) ⟨q1,q2⟩=>?_
  obtain⟨few,code,⟨⟩⟩:=r
  simp only at q1 q2
  dsimp only
  by_cases hc:code=0
  ·subst hc
   obtain⟨hI,m,hm,hinc,hf,hmin⟩:=q2 rfl
   have hV:(vxs c).length≤c.length:=qfd
   have hm:m≤(vxs c).length:=hm
   have hfl:=hinc.1
   have hpl:qdo c few:=qkG hinc hV
   have he:∀ y,qdo c y→qaR (c,p,st,ms,()) y=(qdp (c,p,st,ms,()) y,0,()):=fun y hy=>by
    unfold qaR;rw[if_pos (qd2.2 ⟨hI,hy⟩)]
   have hr:=qa7 (c,p,st,ms,()) few b1 (qb7 (by omega))
   rw[he few hpl,hf] at hr
   refine qbU rfl (qau hr (qbU rfl ?_))
   simp only[Z91.j5_eq _ qae]
   refine qbU rfl ?_
   refine EvQ.start 1 (L:=fun φ N=>Z91.l6 (mkR (run E (φ 0))) (φ 0) N few 0 c p st ms) ?_ (fun _ _ _=>rfl)
   refine EvQ.loop 1 (σ:=Nat) (L:=fun φ N i=>Z91.l6 (mkR (run E (φ 0))) (φ 0) N few (i:Int) c p st ms) (fun _ _ _ _=>rfl) (fun i=>i≤few.length) (fun i=>few.length-i) (fun i hi ih=>?_) 0 (zaE _)
   simp only[Z91.l6_succ _ qae]
   refine qck (fun hlt=>?_) fun _=>qaH rfl
   have hil:i<few.length:=by omega
   refine EvQ.start 2 (L:=fun φ N=>Z91.l7 (mkR (run E (φ 0))) (φ 0) (φ 1) N few (i:Int) 0 c p st ms []) ?_ (fun _ _ _=>rfl)
   have hlp:=EvQ.loop 2 (out:=.cons .bool .nil) (Q:=fun(r:Bool×Unit)=>r.1=true) (σ:=Nat) (L:=fun φ N k=>Z91.l7 (mkR (run E (φ 0))) (φ 0) (φ 1) N few (i:Int) (k:Int) c p st ms ((few.take k).eraseIdx i)) (fun _ _ _ _=>rfl) (fun k=>k≤few.length) (fun k=>few.length-k) (fun k hk jh=>?_) 0 (zaE _)
   ·exact hlp
   ·simp only[Z91.l7_succ _ qae]
    refine qck (fun hlt2=>?_) fun hge=>?_
    ·have hkl:k<few.length:=by omega
     have hel:((few.take k).eraseIdx i).length≤k:=zaP (List.length_eraseIdx_le _ _) (by rw[zax];omega)
     obtain⟨s1,s2⟩:=qnH (i:=i) hkl
     have nx:=jh (k+1) (by omega) (by omega)
     by_cases e:k=i
     ·subst e
      rw[s1 rfl] at nx
      refine qbU (by simp) ?_
      rw[qad (by omega)]
      exact nx
     ·rw[s2 e] at nx
      refine qgB (by simp;omega) (qbT (qak hkl) (qaJ (zac (by simp only[zaz];omega)) ?_))
      rw[qad (by omega)]
      exact nx
    ·obtain rfl:k=few.length:=by omega
     rw[zcq]
     have hi2:=qoT hinc (i:=i) (by omega)
     have hp2:qdo c (few.eraseIdx i):=qkG hi2 hV
     have hne:=hmin (m-1) (by omega) _ hi2
     have hr2:=qa7 (c,p,st,ms,()) (few.eraseIdx i) b1 (qb7 (zaP (List.length_eraseIdx_le _ _) (by omega)))
     rw[he _ hp2] at hr2
     refine qau hr2 (qbU rfl ?_)
     simp only[Z91.j8_eq _ qae]
     refine qbU (by simpa using hne) ?_
     rw[qad (by omega)]
     exact ih (i+1) (by omega) (by omega)
  ·have:=q1 hc
   subst this
   exact qgB (by simpa using hc) (qaH rfl)
 have data:EvQ (fun φ=>Z91.j0 (mkR (run E (φ 0))) (φ 0) x1 x2 false) (.cons .bool .nil) fun(r:Bool×Unit)=>r.1=true:=by
  simp only[Z91.j0_eq _ qae]
  refine qbU rfl (qaU (qlU x1 h1) fun(r:List Sim×Int×Sim×List Mat×Sim×Sim×Unit) ⟨b1,b2,b3,b4⟩=>?_)
  obtain⟨c,p,st,ms,w,v,⟨⟩⟩:=r
  simp only at b1 b2 b3 b4
  dsimp only
  have sw:Sm (.sl (.int .i64)) w:=qb7 (by omega)
  have sv:Sm (.sl (.int .i64)) v:=qb7 (by omega)
  refine qau (qeH (c,p,st,ms,()) w v b1 sw sv) (qau (qeW (c,p,st,ms,()) w v b1 sw sv) ?_)
  have hloc:=qeC (c,p,st,ms,()) w v b1 sw sv
  have j1f:∀(y:Sim) (a b:Int),a≠0→EvQ (fun φ=>Z91.j1 (mkR (run E (φ 0))) (φ 0) x2 w v y a b false c p st ms) (.cons .bool .nil) fun(r:Bool×Unit)=>r.1=true:=by
   intro y a b ha
   simp only[Z91.j1_eq _ qae]
   exact qbU rfl (qbU (by simpa using ha) few)
  by_cases hL:LC (c,p,st,ms,()) w v=0
  ·obtain⟨⟨hI,hw⟩,hd⟩:=qgM.1 hL
   cases he:extS (c,p,st,ms,()) w v with
   | none =>
    have hE:qa4 (c,p,st,ms,()) w v=([],3,()):=by unfold qa4;rw[if_pos hL,he]
    rw[hE]
    cases hcf:qeE (c,p,st,ms,()) w v with
    | none =>
     have hF:qaV (c,p,st,ms,()) w v=(0,0,3,()):=by unfold qaV;rw[if_pos hL,hcf]
     rw[hF]
     exact qbU rfl (j1f [] 3 3 (by decide))
    | some ab =>
     obtain⟨a,b⟩:=ab
     have hF:qaV (c,p,st,ms,()) w v=(((wN w a:Nat):Int),((wN w b:Nat):Int),0,()):=by unfold qaV;rw[if_pos hL,hcf]
     rw[hF]
     have hV:qbt (c,p,st,ms,()) w v=(false,()):=by
      unfold qbt;rw[qaq fun h=>by rw[hcf] at h;cases h.2]
     rw[hV] at hloc
     exact qgB rfl (qbU rfl (qau hloc (j1f [] 3 0 (by decide))))
   | some y =>
    obtain⟨hsec,hval⟩:=qpN b1 hL he
    obtain⟨_,hcf⟩:=qrA hI hw hsec
    rw[hval] at hcf
    have hE:qa4 (c,p,st,ms,()) w v=(y,0,()):=by unfold qa4;rw[if_pos hL,he]
    have hF:qaV (c,p,st,ms,()) w v=(0,0,3,()):=by unfold qaV;rw[if_pos hL,hcf]
    have hV:qbt (c,p,st,ms,()) w v=(true,()):=by unfold qbt;rw[qaK ⟨hL,hcf⟩]
    rw[hV] at hloc
    rw[hE,hF]
    refine qbU rfl ?_
    have hvo:=qez (c,p,st,ms,()) y w b1 (qb7 (qn9 hI.1 he)) sw
    have hvv:qdf (c,p,st,ms,()) y w=(v,0,()):=by unfold qdf;rw[if_pos (qd2.2 ⟨hI,hw⟩),if_pos hsec,hval]
    rw[hvv] at hvo
    have hnum:=qmK v v (by omega)
    rw[qaK rfl] at hnum
    simp only[Z91.j1_eq _ qae]
    refine qbU rfl (qgB rfl (qau hvo (qbU rfl (qau hnum (qbU rfl (qbU rfl (qau hloc ?_)))))))
    simp only[Z91.j2_eq _ qae]
    have hfw:=qa7 (c,p,st,ms,()) w b1 sw
    have hf0:=qa7 (c,p,st,ms,()) [] b1 (qb7 (by simp))
    have hgs:=qeD (c,p,st,ms,()) b1
    rw[show qaR (c,p,st,ms,()) w=(qdp (c,p,st,ms,()) w,0,()) by unfold qaR;rw[if_pos (qd2.2 ⟨hI,hw⟩)]] at hfw
    rw[show qaR (c,p,st,ms,()) []=(qdp (c,p,st,ms,()) [],0,()) by unfold qaR;rw[if_pos (qd2.2 ⟨hI,qkT⟩)]] at hf0
    rw[show qbO (c,p,st,ms,())=(qr4 (c,p,st,ms,()) 0,0,()) by unfold qbO;rw[if_pos hI]] at hgs
    obtain⟨l1,l2⟩:=qrs b1 hI hw
    have l3:=qqw b1 hI
    refine qbU rfl (qau hfw (qau hf0 (qau hgs (qbU rfl (qbU rfl (qbU rfl (qbU (zae (by show ¬ qdp (c,p,st,ms,()) w<0;omega)) (qbU (zae (by show ¬ qdp (c,p,st,ms,()) w>qdp (c,p,st,ms,()) [];omega)) ?_))))))))
    simp only[Z91.j3_eq _ qae]
    exact qbU (by simpa using l3) few
  ·have hE:qa4 (c,p,st,ms,()) w v=([],LC (c,p,st,ms,()) w v,()):=by unfold qa4;rw[if_neg hL]
   have hF:qaV (c,p,st,ms,()) w v=(0,0,LC (c,p,st,ms,()) w v,()):=by unfold qaV;rw[if_neg hL]
   rw[hE,hF]
   exact qbU (by simpa using hL) (j1f [] _ _ hL)
 simp only[run_Z91,Z91.ev]
 have j0c:∀ b:Bool,EvQ (fun φ=>Z91.j0 (mkR (run E (φ 0))) (φ 0) x1 x2 b) (.cons .bool .nil) fun(r:Bool×Unit)=>r.1=true:=fun b=>by
  cases b with
  | false=>exact data
  | true=>simp only[Z91.j0_eq _ qae];exact qgB rfl (qaH rfl)
 exact qau (qiE x1) (qcH (fun _=>j0c true) fun _=>qau (qiE x2) (j0c _))
theorem qpw(z:((.cons (.sl (.int .u8)) (.cons (.sl (.int .u8)) .nil)):Ty).T)(h:Wf (.cons (.sl (.int .u8)) (.cons (.sl (.int .u8)) .nil)) z) :
  Evt fun n=>run E n n_Z91 (qbx _ z)=some ⟨.cons .bool .nil,(true,())⟩:=qhu z.1 z.2.1 h.1 h.2.1
end VeT
