import Derived.Test.YtjnnliedeobfgaaGreatT8
import Derived.Test.YtjnnliedeobfgaaGreatT7
import Derived.Test.YtjnnliedeobfgaaGreatT6
set_option linter.unusedVariables false
set_option linter.unusedSimpArgs false
open Go Go.Proofs Ve
namespace VeT
theorem qmI{x:Shf}{v:Sim}{s:Nat}:(atV x v s).length=(x.2.2.1.getD s 0).toNat:=by unfold atV;exact qa9
theorem qfO.at{c:List Sim}{w:Sim}(hp:qfO c w){i:Nat}(hi:i<w.length):w[i]=((VeT.wN w i:Nat):Int):=by
 have:=(hp.wN hi).1
 rw[List.getElem?_eq_getElem hi] at this
 exact Option.some.inj this
theorem qeI{x:Shf}{v w:Sim}(hs:ISh x)(hp:qfO x.1 w):∀ {n:Nat},n≤w.length→((qcn x v w n).length:Int)=off x.2.2.1 w n
 | 0,_=>by simp[qcn,off]
 | n+1,hn=>by
  have h1:=qcC hs.1.2.2.1.2.1 (wN w n)
  rw[qe5 (by omega) (hp.at (by omega)),qhR (by omega) (hp.at (by omega)),List.length_append,qmI]
  have:=qeI (v:=v) hs hp (n:=n) (by omega)
  omega
theorem qfZ{x:Shf}{v w:Sim}(hs:ISh x)(hp:qfO x.1 w):∀ {n:Nat},n≤w.length→∀ b i,b<n→i<(x.2.2.1.getD (wN w b) 0).toNat→(qcn x v w n).getD ((off x.2.2.1 w b).toNat+i) 0=(atV x v (wN w b)).getD i 0
 | 0,_,b,i,hb,_=>by omega
 | n+1,hn,b,i,hb,hi=>by
  have hl:=qeI (v:=v) hs hp (n:=n) (by omega)
  rw[qe5 (by omega) (hp.at (by omega))]
  by_cases e:b=n
  ·subst e
   rw[List.getD_eq_getElem?_getD,List.getElem?_append_right (by omega),← List.getD_eq_getElem?_getD]
   congr 1;omega
  ·obtain⟨b1,b2,b3,b4,b5⟩:=qgW hs hp (show b<w.length by omega)
   have hm:=qku (w:=w) hs.1.2.2.1.2.1 (show b+1≤n by omega)
   rw[List.getD_eq_getElem?_getD,List.getElem?_append_left (by omega),← List.getD_eq_getElem?_getD]
   exact qfZ hs hp (by omega) b i (by omega) hi
theorem qsk{x:Shf}{v:Sim}{s i:Nat}(hs:ISh x)(hsl:s<x.1.length)(hi:i<(x.2.2.1.getD s 0).toNat):(atV x v s).getD i 0=apM (qbA x (fvx x.1 s) s) (vy x (fun g=>v.getD g 0) (fvx x.1 s)) i:=by
 obtain⟨_,f1,f2,f3,f4⟩:=qgU hs.1.1 hsl
 obtain⟨r1,r2,r3,r4⟩:=qa7 hs.1 f1 hsl f4
 have h0:=(qeb (c:=x.1) hs.1.2.2.1.2.1 f1).1
 unfold atV
 rw[qkj hi]
 refine qgq fun j hj=>?_
 rw[r4] at hj
 unfold qft vy
 rw[List.getD_eq_getElem?_getD,List.getElem?_drop,List.getElem?_take,if_pos (by omega),← List.getD_eq_getElem?_getD]
theorem qqK{x:Shf}{v w:Sim}(hs:ISh x)(hp:qfO x.1 w)(hv:qqS x fun g=>v.getD g 0):qsu x w fun g=>(qcn x v w w.length).getD g 0:=fun b a hb ha pt i hi=>by
 have hal:a<w.length:=by omega
 have ka:=(hp.wN hal).2
 have kb:=(hp.wN hb).2
 obtain⟨_,f1,f2,f3,f4⟩:=qgU hs.1.1 ka
 obtain⟨_,g1,g2,g3,g4⟩:=qgU hs.1.1 kb
 obtain⟨r1,r2,r3,r4⟩:=qa7 hs.1 ka kb pt
 obtain⟨q1,q2,q3,q4⟩:=qa7 hs.1 f1 ka f4
 obtain⟨t1,t2,t3,t4⟩:=qa7 hs.1 g1 kb g4
 have hpf:qfq (x.1.getD (fvx x.1 (wN w a)) []) (x.1.getD (wN w b) []):=fun y hy=>pt y (f4 y hy)
 show _=(qcn x v w w.length).getD ((off x.2.2.1 w b).toNat+i) 0%x.2.1
 rw[qfZ hs hp (Nat.le_refl _) b i hb hi,qsk hs kb hi]
 have e1:apM (qbA x (fvx x.1 (wN w b)) (wN w b)) (vy x (fun g=>v.getD g 0) (fvx x.1 (wN w b))) i%x.2.1=apM (qbA x (fvx x.1 (wN w b)) (wN w b)) (vy x (fun g=>v.getD g 0) (fvx x.1 (wN w b))) i:=by
  have:=qrs (m:=qbA x (fvx x.1 (wN w b)) (wN w b)) (y:=vy x (fun g=>v.getD g 0) (fvx x.1 (wN w b))) (i:=i)
  rwa [t2] at this
 rw[e1,← qpt hs hv _ (Nat.le_refl _) kb f1 g1 f3 g3 hpf g4 i hi,qjS hs _ (Nat.le_refl _) f1 ka kb f4 pt,qmz (by rw[r4,q3]) (by rw[r2,q2]) (by rw[r3];exact hi)]
 refine qgq fun j hj=>?_
 rw[r4] at hj
 show(qcn x v w w.length).getD ((off x.2.2.1 w a).toNat+j) 0%_=_
 rw[qfZ hs hp (Nat.le_refl _) a j hal hj,qsk hs ka hj]
theorem qrx{x:Shf}{v:Sim}(hs:ISh x)(h:Sec x v):qqS x fun g=>v.getD g 0:=(qrq hs.1).1 fun r hr=>by
 have:=h.2 ((qgu x 0 v).getD r 0) (by
  have hl:r<(qgu x 0 v).length:=by unfold qgu;rw[qa9];exact hr
  rw[qac hl];exact List.getElem_mem hl)
 unfold qgu at this
 rw[qkj (show r<(SD x.1 x.2.2.1 (0+1)).toNat from hr)] at this
 rw[qaR]
 exact this
theorem qrz{x:Shf}{v w:Sim}(hs:ISh x)(hp:qfO x.1 w)(hv:Sec x v):LC x w (qcn x v w w.length)=0∧qfM x w (qcn x v w w.length)=none:=by
 have hd:Dat x w (qcn x v w w.length):=⟨fun y hy=>by
  obtain⟨r,hr,rfl⟩:=List.getElem_of_mem hy
  have:∀ n,n≤w.length→qaD (qcn x v w n) x.2.1:=by
   intro n
   induction n with
   | zero=>intro _ y hy;simp[qcn] at hy
   | succ n ih =>
    intro hn y hy
    rw[qe5 (by omega) (hp.at (by omega)),List.mem_append] at hy
    rcases hy with hy | hy
    ·exact ih (by omega) y hy
    ·have hk:=(hp.wN (show n<w.length by omega)).2
     obtain⟨_,f1,f2,f3,f4⟩:=qgU hs.1.1 hk
     obtain⟨r1,r2,r3,r4⟩:=qa7 hs.1 f1 hk f4
     unfold atV at hy
     have:=qow (m:=qbA x (fvx x.1 (wN w n)) (wN w n)) (by rw[r2];exact hs.1.2.1.1) y hy
     rwa [r2] at this
  exact this _ (Nat.le_refl _) _ hy,qeI hs hp (Nat.le_refl _)⟩
 exact⟨qpY.2 ⟨⟨hs,hp⟩,hd⟩,qqg hs hp hd (qqK hs hp (qrx hs hv))⟩
end VeT
open Go Go.Proofs Ve
namespace VeT
end VeT
open Go Go.Proofs Ve
namespace VeT
end VeT
open Go Go.Proofs Ve
namespace VeT
end VeT
open Go Go.Proofs Ve
namespace VeT
end VeT
open Go Go.Proofs Ve
namespace VeT
noncomputable abbrev qsS(x:Shf)(k:Int):Ent:=qcE (qev x k).2.2.2.1 (SD x.1 x.2.2.1 k).toNat
theorem qnK{x:Shf}{k:Int}{v:Sim}{r:Nat}(hr:r<(SD x.1 x.2.2.1 (k+1)).toNat):(qgu x k v).getD r 0=qaI (qsS x k r) (fun g=>v.getD g 0) (SD x.1 x.2.2.1 k).toNat%x.2.1:=qlE (m:=qev x k) hr
theorem qnc{x:Shf}{k:Int}{v:Sim}:(qgu x k v).length=(SD x.1 x.2.2.1 (k+1)).toNat:=by unfold qgu;exact qa9
theorem qsq{x:Shf}(h:VS x.1 x.2.1 x.2.2.1 x.2.2.2.1)(k:Int):0≤SD x.1 x.2.2.1 k:=by
 obtain⟨n,e,_⟩:=qb3 h k
 omega
theorem qsb{x:Shf}{k:Int}{v:Sim}:Zs (qgu x k v)↔qoK x.2.1 (SD x.1 x.2.2.1 (k+1)).toNat (SD x.1 x.2.2.1 k).toNat (qsS x k) fun g=>v.getD g 0:=by
 constructor
 ·intro h i hi
  have:=h ((qgu x k v).getD i 0) (by rw[qac (by rw[qnc];exact hi)];exact List.getElem_mem _)
  rw[qnK hi,qaR] at this
  exact this
 ·intro h y hy
  obtain⟨r,hr,rfl⟩:=List.getElem_of_mem hy
  have hr':=hr
  rw[qnc] at hr'
  rw[← qac hr,qnK hr',qaR]
  exact h r hr'
theorem qoK.add{p:Int}{R W:Nat}{A:Ent}{x y:Nat→Int}(hx:qoK p R W A x)(hy:qoK p R W A y):qoK p R W A fun j=>x j+y j:=fun i hi=>by
 rw[qk2,Int.add_emod,hx i hi,hy i hi];simp
theorem qoK.congr{p:Int}{R W:Nat}{A:Ent}{x y:Nat→Int}(h:∀ j,j<W→x j%p=y j%p)(hx:qoK p R W A x):qoK p R W A y:=fun i hi=>by
 rw[← hx i hi,qaR,qaR (c:=x)]
 exact(qch fun j hj=>h j hj).symm
end VeT
open Go Go.Proofs Ve
namespace VeT
theorem qrI{x:Shf}(hs:VS x.1 x.2.1 x.2.2.1 x.2.2.2.1){k:Int}(hk:k<0):rkX x k=0:=by
 unfold rkX rkM
 rw[qk6 hs.1 _ (.inl hk)]
 rfl
theorem qqm{x:Shf}(hs:VS x.1 x.2.1 x.2.2.1 x.2.2.2.1)(k:Int):((qmu x k).length:Int)=SD x.1 x.2.2.1 k-(rkX x k:Int):=by
 have h:=(qpr hs.2.1 (R:=(SD x.1 x.2.2.1 (k+1)).toNat) (W:=(SD x.1 x.2.2.1 k).toNat) (cells:=(qev x k).2.2.2.1) (show(qdO x.1 x.2.1 x.2.2.1 x.2.2.2.1 k).length=_ from qbP) (qbF hs k)).2
 have h0:=qsq hs k
 have h:(qmu x k).length+rkX x k=(SD x.1 x.2.2.1 k).toNat:=h
 omega
theorem qrA{x:Shf}(hs:ISh x):((qmu x 0).length:Int)=((qq5 x 0).length:Int):=by
 rw[qqm hs.1,qh5 hs (k:=0) (by omega),show(0:Int)-1=-1 by omega,qrI hs.1 (show(-1:Int)<0 by omega)];omega
theorem qqz{x:Shf}{k:Int}{v:Sim}(hs:VS x.1 x.2.1 x.2.2.1 x.2.2.2.1)(hv:v∈qmu x k):qgx x k v∧Zs (qgu x k v)∧¬ Zs v:=by
 have h1:=(qnM (k:=k) hs).1 v hv
 refine⟨⟨h1.2,by have:=qsq hs k;omega⟩,qsb.2 (qqT hs.2.1 qbP (qbF hs k) hv),fun hz=>?_⟩
 obtain⟨j,hj,e⟩:=qrD hs.2.1 (R:=(SD x.1 x.2.2.1 (k+1)).toNat) (W:=(SD x.1 x.2.2.1 k).toNat) (cells:=(qev x k).2.2.2.1) (show(qdO x.1 x.2.1 x.2.2.1 x.2.2.2.1 k).length=_ from qbP) (qbF hs k) hv
 rw[qac hj] at e
 have:=hz _ (List.getElem_mem hj)
 omega
end VeT
open Go Go.Proofs Ve
namespace VeT
abbrev Dsc:=List Sim×Int×Sim×List Mat×Sim×Src×Unit
def Dsx(n:Nat)(r:Dsc):Prop:=Sm (.st cS) (r.1,r.2.1,r.2.2.1,r.2.2.2.1,())∧r.1.length≤48∧r.2.2.2.2.1.length≤100∧SO n r.2.2.2.2.2.1
theorem qoc(a b:Int):Ret E n_Z131 [dI a,dI b] ⟨o_Z131,((if a>b then a else b),())⟩:=by
 refine qai ?_
 simp only[run_Z131,Z131.ev]
 refine qdG (fun h=>qah ?_) fun h=>qah ?_
 ·rw[if_pos h]
 ·rw[if_neg h]
theorem qjj(n:Nat)(s:Src)(W:Nat)(p:Int)(hn:n≤10000000)(hs:SO n s)(hW:W≤64):qjc n_Z142 [dR s,dI (W:Int),dI p] o_Z142 fun(r:Sim×Src×Unit)=>r.1.length=W∧SO (n+2*W) r.2.1:=by
 obtain⟨c0,a,g,⟨⟩⟩:=s
 refine qbI ?_
 simp only[run_Z142,Z142.ev]
 refine EvQ.start 1 (L:=fun φ N=>Z142.l0 (mkR (run E (φ 0))) (φ 0) N (W:Int) p 0 [] c0 a g) ?_ (fun _ _ _=>rfl)
 refine EvQ.loop 1 (σ:=Nat×Sim×Src) (L:=fun φ N st=>Z142.l0 (mkR (run E (φ 0))) (φ 0) N (W:Int) p (st.1:Int) st.2.1 st.2.2.1 st.2.2.2.1 st.2.2.2.2.1) (fun _ _ _ _=>rfl)
  (fun st=>st.1≤W∧st.2.1.length=st.1∧SO (n+2*st.1) st.2.2) (fun st=>W-st.1) (fun st hi ih=>?_) (0,[],(c0,a,g,())) ⟨Nat.zero_le _,rfl,hs⟩
 obtain⟨k,o,s2⟩:=st
 obtain⟨i1,i2,i3⟩:=hi
 simp only at i1 i2 i3 ih ⊢
 simp only[Z142.l0_succ _ qae]
 refine qcr (fun h=>?_) fun h=>?_
 ·refine qaw (qoc 1 p) ?_
  refine qaX (qa1 _ s2 _ (by omega) i3) fun(r:Int×Src×Unit) ⟨r1,r2,r3,r4⟩=>?_
  refine qaO (decide_eq_true (by simp;omega)) ?_
  rw[qad (by omega)]
  exact ih (k+1,o++[r.1],r.2.1) ⟨by show k+1≤W;omega,by simp[i2],r4.le (by show n+2*k+2≤n+2*(k+1);omega)⟩ (by show W-(k+1)<W-k;omega)
 ·have:k=W:=by omega
  subst this
  exact qaS ⟨i2,i3⟩
theorem qiv(n:Nat)(s:Src)(hn:n≤1000000)(hs:SO n s):qjc n_Z195 [dR s] o_Z195 fun(r:Dsc)=>Dsx (n+31000) r:=by
 obtain⟨c0,a,g,⟨⟩⟩:=s
 refine qbI ?_
 simp only[run_Z195,Z195.ev]
 refine qaX (qns n _ hn hs) fun(r:Drw) ⟨b1,b2,b3⟩=>?_
 obtain⟨c,p,st,ms,s1,⟨⟩⟩:=r
 simp only at b1 b2 b3
 dsimp only
 refine qaw (qgm (c,p,st,ms,()) b1) ?_
 by_cases hI:ISh (c,p,st,ms,())
 ·rw[qaF hI]
  refine qdP rfl (qaw (qg4 (c,p,st,ms,()) b1.1 hI.1) ?_)
  obtain⟨W,eW,bW,tW⟩:=qb3 hI.1 0
  have eW:SD c st 0=(W:Int):=eW
  have hp:2≤p∧p≤251:=⟨hI.1.2.1.1,hI.1.2.1.2.1⟩
  show EvQ (fun φ=>Option.bind (qlI (mkR (run E (φ 0))) n_Z138 o_Z138 [dR s1,dI 4]) fun r4=>_) _ _
  rw[show(SD (c,p,st,ms,()).1 (c,p,st,ms,()).2.2.1 0,())=(((W:Int),()):Int×Unit) by rw[← eW]]
  refine qaX (qgA (n+30000) s1 4 (by omega) b3) fun(r:Bool×Src×Unit) r4=>?_
  obtain⟨b,s2,⟨⟩⟩:=r
  simp only at r4
  dsimp only
  refine qc9 (fun _=>?_) fun _=>?_
  ·refine qaX (qjj (n+30002) s2 W p (by omega) (by exact r4) (by omega)) fun(q:Sim×Src×Unit) ⟨q1,q2⟩=>qaS ⟨b1,b2,by show q.1.length≤100;omega,q2.le (by omega)⟩
  ·refine qaO (show(decide ((0:Int)≤(W:Int))&&decide ((W:Int)*8≤70368744177664))=true by simp only[Bool.and_eq_true,decide_eq_true_eq];omega) ?_
   refine qaw (qdX (c,p,st,ms,()) b1.1 hI.1) ?_
   have hcr:=qo3 (x:=(c,p,st,ms,())) hI.1 (SD c st 1).toNat
   have hcl:=qcM (c:=c) (p:=p) (st:=st) (ms:=ms) (n:=(SD c st 1).toNat)
   obtain⟨H,eH,bH,tH⟩:=qb3 hI.1 1
   have tH:(SD c st 1).toNat=H:=tH
   have tW:(SD c st 0).toNat=W:=tW
   have hHW:=qcs bH bW
   generalize hC:qfc c p st ms (SD c st 1).toNat=rows at hcr hcl
   have hcr:Rws p W rows:=by
    have hcr:Rws p (SD c st 0).toNat rows:=hcr
    rwa [tW] at hcr
   have hcl:rows.length=H:=hcl.trans tH
   refine qaw (qk3 p W rows hp (by omega) (by omega) (by rw[hcl];omega) hcr) ?_
   have hker:∀ v∈qsC p W rows,v.length=W∧qaD v p:=fun v hv=>qgk hp.1 hv
   have hkl:(qsC p W rows).length≤W:=qdh
   generalize qsC p W rows=ker at hker hkl
   rw[Int.toNat_natCast]
   refine EvQ.start 1 (L:=fun φ N=>Z195.l0 (mkR (run E (φ 0))) (φ 0) N ker 0 0 c p st ms (List.replicate W 0) s2.1 s2.2.1 s2.2.2.1) ?_ (fun _ _ _=>rfl)
   refine EvQ.loop 1 (σ:=Nat×Sim×Src) (L:=fun φ N x=>Z195.l0 (mkR (run E (φ 0))) (φ 0) N ker (x.1:Int) 0 c p st ms x.2.1 x.2.2.1 x.2.2.2.1 x.2.2.2.2.1) (fun _ _ _ _=>rfl)
    (fun x=>x.1≤ker.length∧x.2.1.length=W∧qaD x.2.1 p∧SO (n+30002+2*x.1) x.2.2) (fun x=>ker.length-x.1) (fun x hi ih=>?_) (0,List.replicate W 0,s2) ⟨Nat.zero_le _,List.length_replicate,qaD.zeros hp.1 _,r4⟩
   obtain⟨k,o,s3⟩:=x
   obtain⟨i1,i2,i3,i4⟩:=hi
   simp only at i1 i2 i3 i4 ih ⊢
   simp only[Z195.l0_succ _ qae]
   refine qcr (fun h=>?_) fun h=>?_
   ·have hk:k<ker.length:=by omega
    obtain⟨v1,v2⟩:=hker _ (List.getElem_mem hk)
    refine qbe (qaj hk) ?_
    refine qaX (qa1 _ s3 p (by omega) i4) fun(q:Int×Src×Unit) ⟨q1,q2,q3,q4⟩=>?_
    refine qaw (qjE o ker[k] q.1 p hp (by omega) (by omega) (by omega) (i3.mem hp) (v2.mem hp)) ?_
    rw[qad (by omega)]
    exact ih (k+1,qmq o ker[k] q.1 p,q.2.1) ⟨hk,by rw[qfo];exact i2,qnX hp.1,q4.le (by show n+30002+2*k+2≤n+30002+2*(k+1);omega)⟩ (by show ker.length-(k+1)<ker.length-k;omega)
   ·refine qaX (qgA _ s3 12 (by omega) i4) fun(q:Bool×Src×Unit) q4=>?_
    have fin:∀(o':Sim) (s4:Src) (m:Nat),o'.length≤100→m≤n+31000→SO m s4→EvQ (fun φ=>Z195.j1 (mkR (run E (φ 0))) (φ 0) 0 c p st ms o' s4.1 s4.2.1 s4.2.2.1) o_Z195 fun(r:Dsc)=>Dsx (n+31000) r:=fun o' s4 m h1 h2 h3=>by
     simp only[Z195.j1_eq _ qae]
     exact qaS ⟨b1,b2,h1,h3.le h2⟩
    refine qc9 (fun _=>?_) fun _=>fin o q.2.1 _ (by omega) (by omega) q4
    refine qaX (qdZ (n+30002+2*k+2) q.2.1 _ (by simp) (by omega) q4) fun(u:Int×Src×Unit) ⟨u1,u2⟩=>qaO (decide_eq_true (by simp;omega)) (fin _ u.2.1 _ (by simp;omega) (by omega) u2)
 ·rw[qap hI]
  exact qp5 rfl (qaS ⟨b1,b2,by show([0]:Sim).length≤100;simp,b3.le (by omega)⟩)
theorem qjh(x:List Int)(h:Wf (.sl (.int .u8)) x):qjc n_Z122 [dB x] o_Z122 fun(r:List Sim×Int×Sim×List Mat×Unit)=>Sm (.st cS) (r.1,r.2.1,r.2.2.1,r.2.2.2.1,()):=by
 refine qbI ?_
 simp only[run_Z122,Z122.ev]
 refine qaw (qi7 x) ?_
 exact qaX (qns 0 (x,0,0,()) (by omega) (qsh h)) fun(r:Drw) ⟨b1,b2,b3⟩=>qaS b1
theorem qjs(x:List Int)(h:Wf (.sl (.int .u8)) x):qjc n_Z123 [dB x] o_Z123 fun(r:List Sim×Int×Sim×List Mat×Sim×Sim×Unit)=>Sm (.st cS) (r.1,r.2.1,r.2.2.1,r.2.2.2.1,())∧r.1.length≤48∧r.2.2.2.2.1.length≤100∧r.2.2.2.2.2.1.length≤100:=by
 refine qbI ?_
 simp only[run_Z123,Z123.ev]
 refine qaw (qi7 x) ?_
 refine qaX (qiv 0 (x,0,0,()) (by omega) (qsh h)) fun(r:Dsc) ⟨b1,b2,b3,b4⟩=>?_
 refine qaX (qjo _ r.2.2.2.2.2.1 (r.1,r.2.1,r.2.2.1,r.2.2.2.1,()) (by omega) b4 b2) fun(q:Sim×Src×Unit) ⟨q1,q2⟩=>qaS ⟨b1,b2,b3,q1⟩
theorem ql9(l:Sim)(n:Int)(hl:l.length≤1048576):Ret E n_Z92 [dL l,dI n] ⟨o_Z92,(pb (qdS l∧∀ x∈l,0≤x∧x<n),())⟩:=by
 refine qai ?_
 simp only[run_Z92,Z92.ev]
 refine Ev.start (p:=fun φ m=>Z92.l0 (mkR (run E (φ 0))) (φ 0) m l n 0=_) 1 ?_ (fun _ _ _ h=>h)
 have e:pb (qdS l∧∀ x∈l,0≤x∧x<n)=pb (∀ j,0≤j→j<l.length→(0≤l.getD j 0∧l.getD j 0<n)∧(1≤j→l.getD (j-1) 0<l.getD j 0)):=qaG ⟨fun h j _ hj=>⟨by rw[qac hj];exact h.2 _ (List.getElem_mem hj),fun h1=>h.1 j h1 hj⟩,fun h=>⟨fun j h1 hj=>(h j (by omega) hj).2 h1,fun x hx=>by
  obtain⟨j,hj,rfl⟩:=List.getElem_of_mem hx
  have:=(h j (by omega) hj).1
  rwa [qac hj] at this⟩⟩
 rw[e]
 have jt:∀ k:Nat,Ev fun φ=>Z92.j1 (mkR (run E (φ 0))) (φ 0) (φ 1) l n (k:Int) true=some ⟨o_Z92,(false,())⟩:=fun k=>by
  simp only[Z92.j1_eq _ qae]
  exact qax rfl qal
 refine qcj 1 (L:=fun φ m k=>Z92.l0 (mkR (run E (φ 0))) (φ 0) m l n k) (len:=l.length) 0 (by omega) (fun j=>(0≤l.getD j 0∧l.getD j 0<n)∧(1≤j→l.getD (j-1) 0<l.getD j 0)) (fun b=>some ⟨o_Z92,(b,())⟩) (fun _ _ _ _=>rfl) (fun k h1 h2 hP _=>?_) (fun k r h1 h2 hP _ ih=>?_) (fun _=>?_)
 ·simp only[Z92.l0_succ _ qae]
  rw[qac h2] at hP
  refine qax (decide_eq_true (by omega)) (qab (qaj h2) (qdG (fun _=>jt k) fun a1=>qab (qaj h2) (qdG (fun _=>jt k) fun a2=>qdG (fun a3=>?_) fun a3=>?_)))
  ·have a1:¬ l[k]<0:=a1
   have a2:¬ l[k]≥n:=a2
   have hk:k-1<l.length:=by omega
   have e1:w64 ((k:Int)-1)=((k-1:Nat):Int):=by rw[qag (by omega) (by omega)];omega
   rw[e1]
   rw[qac hk] at hP
   refine qab (qaj hk) (qab (qaj h2) ?_)
   have:decide (l[k-1]≥l[k])=true:=decide_eq_true (by omega)
   have jt:=jt k
   rw[← this] at jt
   exact jt
  ·have a1:¬ l[k]<0:=a1
   have a2:¬ l[k]≥n:=a2
   exact absurd ⟨by omega,by omega⟩ hP
 ·simp only[Z92.l0_succ _ qae]
  rw[qac h2] at hP
  obtain⟨⟨b1,b2⟩,b3⟩:=hP
  have go:Ev fun φ=>Z92.j1 (mkR (run E (φ 0))) (φ 0) (φ 1) l n (k:Int) false=r:=by
   simp only[Z92.j1_eq _ qae]
   refine qaC rfl ?_
   rw[qad (by omega)];exact ih
  refine qax (decide_eq_true (by omega)) (qab (qaj h2) (qaC (decide_eq_false (by show ¬ l[k]<0;omega)) (qab (qaj h2) (qaC (decide_eq_false (by show ¬ l[k]≥n;omega)) (qdG (fun a3=>?_) fun a3=>go)))))
  have hk:k-1<l.length:=by omega
  have e1:w64 ((k:Int)-1)=((k-1:Nat):Int):=by rw[qag (by omega) (by omega)];omega
  rw[e1]
  have b3:=b3 (by omega)
  rw[qac hk] at b3
  refine qab (qaj hk) (qab (qaj h2) ?_)
  have:decide (l[k-1]≥l[k])=false:=decide_eq_false (by omega)
  rw[← this] at go
  exact go
 ·simp only[Z92.l0_succ _ qae]
  exact qaC (decide_eq_false (by omega)) qal
theorem qn3(l:Sim)(y:Int)(hl:l.length≤1048576):Ret E n_Z89 [dL l,dI y] ⟨o_Z89,(pb (y∈l),())⟩:=by
 refine qai ?_
 simp only[run_Z89,Z89.ev]
 refine Ev.start (p:=fun φ m=>Z89.l0 (mkR (run E (φ 0))) (φ 0) m l y 0=_) 1 ?_ (fun _ _ _ h=>h)
 have e:pb (y∈l)=!pb (∀ j,0≤j→j<l.length→l.getD j 0≠y):=by
  by_cases h:y∈l
  ·rw[qaF h,qap fun hh=>?_]
   ·rfl
   ·obtain⟨j,hj,e⟩:=List.getElem_of_mem h
    exact hh j (by omega) hj (by rw[qac hj];exact e)
  ·rw[qap h,qaF fun j _ hj e=>h (by rw[qac hj] at e;exact e ▸ List.getElem_mem hj)];rfl
 rw[e]
 refine qcj 1 (L:=fun φ m k=>Z89.l0 (mkR (run E (φ 0))) (φ 0) m l y k) (len:=l.length) 0 (by omega) (fun j=>l.getD j 0≠y) (fun b=>some ⟨o_Z89,(!b,())⟩) (fun _ _ _ _=>rfl) (fun k h1 h2 hP _=>?_) (fun k r h1 h2 hP _ ih=>?_) (fun _=>?_)
 ·simp only[Z89.l0_succ _ qae]
  rw[qac h2] at hP
  exact qax (decide_eq_true (by omega)) (qab (qaj h2) (qax (by simpa using hP) qal))
 ·simp only[Z89.l0_succ _ qae]
  rw[qac h2] at hP
  refine qax (decide_eq_true (by omega)) (qab (qaj h2) (qaC (by simpa using hP) ?_))
  rw[qad (by omega)];exact ih
 ·simp only[Z89.l0_succ _ qae]
  exact qaC (decide_eq_false (by omega)) qal
theorem qss{a b:Sim}(hl:a.length=b.length):pb (a=b)=pb (∀ j,0≤j→j<a.length→a.getD j 0=b.getD j 0):=qaG ⟨fun h j _ _=>by rw[h],fun h=>qhQ hl fun i hi=>h i (by omega) hi⟩
theorem qmU(a b:Sim)(hl:a.length≤1048576):Ret E n_Z91 [dL a,dL b] ⟨o_Z91,(pb (a=b),())⟩:=by
 refine qai ?_
 simp only[run_Z91,Z91.ev]
 by_cases he:a.length=b.length
 ·refine qaC (by simp[he]) ?_
  refine Ev.start (p:=fun φ m=>Z91.l0 (mkR (run E (φ 0))) (φ 0) m a b 0=_) 1 ?_ (fun _ _ _ h=>h)
  rw[qss he]
  refine qcj 1 (L:=fun φ m k=>Z91.l0 (mkR (run E (φ 0))) (φ 0) m a b k) (len:=a.length) 0 (by omega) (fun j=>a.getD j 0=b.getD j 0) (fun b=>some ⟨o_Z91,(b,())⟩) (fun _ _ _ _=>rfl) (fun k h1 h2 hP _=>?_) (fun k r h1 h2 hP _ ih=>?_) (fun _=>?_)
  ·simp only[Z91.l0_succ _ qae]
   have h3:k<b.length:=by omega
   rw[qac h2,qac h3] at hP
   exact qax (decide_eq_true (by omega)) (qab (qaj h2) (qab (qaj h3) (qax (by simpa using hP) qal)))
  ·simp only[Z91.l0_succ _ qae]
   have h3:k<b.length:=by omega
   rw[qac h2,qac h3] at hP
   refine qax (decide_eq_true (by omega)) (qab (qaj h2) (qab (qaj h3) (qaC (by simpa using hP) ?_)))
   rw[qad (by omega)];exact ih
  ·simp only[Z91.l0_succ _ qae]
   exact qaC (decide_eq_false (by omega)) qal
 ·rw[qap fun e=>he (by rw[e])]
  exact qax (by simp;omega) qal
end VeT
open Go Go.Proofs Ve
namespace VeT
theorem qnj{x:Shf}{v:Sim}{k:Nat}:∀ {n:Nat},(k:Int)∈qeT x v n↔k<n∧¬ Zs (atV x v k)
 | 0=>by simp[qeT]
 | n+1=>by
  rw[qeT,List.mem_append,qnj]
  constructor
  ·rintro(⟨h1,h2⟩ | h)
   ·exact⟨by omega,h2⟩
   ·by_cases hz:Zs (atV x v n)
    ·rw[if_pos hz] at h;simp at h
    ·rw[if_neg hz,List.mem_singleton] at h
     have:k=n:=by omega
     subst this
     exact⟨by omega,hz⟩
  ·rintro⟨h1,h2⟩
   by_cases e:k=n
   ·subst e
    right;rw[if_neg h2];exact List.mem_singleton.2 rfl
   ·exact .inl ⟨by omega,h2⟩
theorem qli{x:Shf}{v:Sim}:∀ {n:Nat},(qeT x v n).Pairwise (·<·)∧∀ y∈qeT x v n,0≤y∧y<(n:Int)
 | 0=>⟨List.Pairwise.nil,fun y hy=>by simp[qeT] at hy⟩
 | n+1=>by
  obtain⟨h1,h2⟩:=qli (x:=x) (v:=v) (n:=n)
  rw[qeT]
  by_cases hz:Zs (atV x v n)
  ·rw[if_pos hz,List.append_nil]
   exact⟨h1,fun y hy=>by have:=h2 y hy;omega⟩
  ·rw[if_neg hz]
   refine⟨List.pairwise_append.2 ⟨h1,List.pairwise_singleton _ _,fun a ha b hb=>by rw[List.mem_singleton] at hb;have:=h2 a ha;omega⟩,fun y hy=>?_⟩
   rcases List.mem_append.1 hy with hy | hy
   ·have:=h2 y hy;omega
   ·rw[List.mem_singleton] at hy;omega
theorem qqJ{x:Shf}{v w:Sim}(hs:ISh x)(hp:qfO x.1 w){k:Nat}(hk:k<w.length):((qcn x v w w.length).take (off x.2.2.1 w k+x.2.2.1.getD (wN w k) 0).toNat).drop (off x.2.2.1 w k).toNat=atV x v (wN w k):=by
 obtain⟨b1,b2,b3,b4,b5⟩:=qgW hs hp hk
 have hl:=qeI (v:=v) hs hp (Nat.le_refl w.length)
 refine qhQ (by rw[List.length_drop,List.length_take,qmI];omega) fun i hi=>?_
 rw[List.length_drop,List.length_take] at hi
 rw[List.getD_eq_getElem?_getD,List.getElem?_drop,List.getElem?_take,if_pos (by omega),← List.getD_eq_getElem?_getD]
 exact qfZ hs hp (Nat.le_refl _) k i hk (by omega)
theorem qn6{x:Shf}{v w:Sim}(hs:ISh x)(hp:qfO x.1 w)(hv:Sec x v){k:Nat}(hk:k<w.length):qe9 x v w[k]=(atV x v (wN w k),0,()):=by
 have h1:=hp.wN hk
 have e:=hp.at hk
 have hpl:qfO x.1 [w[k]]:=⟨qpO _,fun y hy=>by rw[List.mem_singleton] at hy;subst hy;exact hp.2 _ (List.getElem_mem hk)⟩
 unfold qe9 qbR
 rw[if_pos (qh8.2 ⟨hs,hpl⟩),if_pos hv]
 have:qcn x v [w[k]] 1=atV x v (wN w k):=by
  unfold qcn
  rw[e];simp
 show(qcn x v [w[k]] 1,0,())=_
 rw[this]
theorem qju(x y:List Int)(wx:Wf (.sl (.int .u8)) x)(wy:Wf (.sl (.int .u8)) y):Ret E n_Z88 [dB x,dB y] ⟨.cons .bool .nil,(true,())⟩:=by
 refine qqF (qbI ?_)
 simp only[run_Z88,Z88.ev]
 have jt:EvQ (fun φ=>Z88.j0 (mkR (run E (φ 0))) (φ 0) x y true) (.cons .bool .nil) fun(r:Bool×Unit)=>r.1=true:=by
  simp only[Z88.j0_eq _ qae]
  exact qp5 rfl (qfT rfl)
 refine qaw (qid x) (qc9 (fun _=>jt) fun _=>qaw (qid y) ?_)
 have go:EvQ (fun φ=>Z88.j0 (mkR (run E (φ 0))) (φ 0) x y false) (.cons .bool .nil) fun(r:Bool×Unit)=>r.1=true:=by
  simp only[Z88.j0_eq _ qae]
  refine qdP rfl (qaX (qjh x wx) fun(r:List Sim×Int×Sim×List Mat×Unit) hx=>?_)
  obtain⟨c,p,st,ms,⟨⟩⟩:=r
  simp only at hx
  refine qaw (qeA (c,p,st,ms,()) hx) ?_
  by_cases hs:ISh (c,p,st,ms,())
  ·have hV:qa8 (c,p,st,ms,())=(qmu (c,p,st,ms,()) 0,0,()):=by unfold qa8;rw[if_pos hs]
   have hD:qcm (c,p,st,ms,())=(qqH (c,p,st,ms,()) 4,0,()):=by unfold qcm;rw[if_pos hs]
   have hdim:=qeB (c,p,st,ms,()) hx
   rw[hD] at hdim
   rw[hV]
   refine qdP rfl (qaw hdim (qdP rfl (qdP (by rw[qhX];rfl) ?_)))
   have hi0:idx? (qqH (c,p,st,ms,()) 4) 0=some ((qq5 (c,p,st,ms,()) 0).length:Int):=rfl
   refine qbe hi0 ?_
   have hne:(((qmu (c,p,st,ms,()) 0).length:Int) != (((qq5 (c,p,st,ms,()) 0).length:Int),()).1)=false:=by
    rw[qrA hs];simp
   have hmem:=fun v hv=>qqz (k:=0) (v:=v) hs.1 hv
   have hkl:=(qnM (k:=0) hs.1).2
   obtain⟨W,eW,bW,tW⟩:=qb3 hs.1 0
   have hkl:(qmu (c,p,st,ms,()) 0).length≤W:=tW ▸ hkl
   rw[hne]
   generalize qmu (c,p,st,ms,()) 0=ker at hmem hkl
   simp only[Z88.j1_eq _ qae]
   refine qdP rfl ?_
   refine EvQ.start 1 (L:=fun φ N=>Z88.l2 (mkR (run E (φ 0))) (φ 0) N y ker 0 c p st ms) ?_ (fun _ _ _=>rfl)
   refine EvQ.loop 1 (σ:=Nat) (L:=fun φ N k=>Z88.l2 (mkR (run E (φ 0))) (φ 0) N y ker (k:Int) c p st ms) (fun _ _ _ _=>rfl) (fun k=>k≤ker.length) (fun k=>ker.length-k) (fun k hi ih=>?_) 0 (Nat.zero_le _)
   simp only[Z88.l2_succ _ qae]
   refine qcr (fun h=>?_) fun h=>?_
   ·have hk:k<ker.length:=by omega
    obtain⟨m1,m2,m3⟩:=hmem _ (List.getElem_mem hk)
    have hl:ker[k].length≤1048576:=by have:(ker[k].length:Int)=SD c st 0:=m1.2;have:SD c st 0=(W:Int):=eW;omega
    have h1:=qgK (c,p,st,ms,()) ker[k] hx (qdp hl)
    have h2:=qg6 (c,p,st,ms,()) 0 ker[k] hx (qdp hl)
    rw[show qdN (c,p,st,ms,()) ker[k]=(true,()) by unfold qdN;rw[qaF ⟨hs,m1,m2⟩]] at h1
    rw[show qdK (c,p,st,ms,()) 0 ker[k]=(true,()) by unfold qdK;rw[qaF ⟨qpy.2 ⟨⟨hs,by omega,by omega⟩,m1⟩,m2⟩]] at h2
    refine qbe (qaj hk) (qaw h1 (qdP rfl (qbe (qaj hk) (qaw h2 (qdP rfl (qbe (qaj hk) (qaw (qh1 ker[k] hl) ?_)))))))
    rw[qap m3]
    simp only[Z88.j3_eq _ qae]
    refine qdP rfl ?_
    rw[qad (by omega)]
    exact ih (k+1) hk (by omega)
   ·clear ih hmem hkl hne hi0 hdim hD hV hs hx
    refine qaX (qjs y wy) fun(r:List Sim×Int×Sim×List Mat×Sim×Sim×Unit) ⟨hx,h48,hv,hw⟩=>?_
    obtain⟨c,p,st,ms,v,w,⟨⟩⟩:=r
    simp only at hx h48 hv hw
    have sv:=qdp (l:=v) (by omega)
    have sw:=qdp (l:=w) (by omega)
    dsimp only
    refine qaw (qer (c,p,st,ms,()) v w hx sv sw) ?_
    by_cases hc:PC (c,p,st,ms,()) w=0
    ·obtain⟨hs,hp⟩:=qh8.1 hc
     by_cases hsec:Sec (c,p,st,ms,()) v
     ·have hV:qbR (c,p,st,ms,()) v w=(qcn (c,p,st,ms,()) v w w.length,0,()):=by unfold qbR;rw[if_pos hc,if_pos hsec]
      have hS:qdM (c,p,st,ms,()) v=(qeT (c,p,st,ms,()) v c.length,0,()):=by unfold qdM;rw[if_pos hs,if_pos hsec]
      have hsup:=qgL (c,p,st,ms,()) v hx sv
      rw[hS] at hsup
      obtain⟨o1,o2⟩:=qrz hs hp hsec
      have hlen:=qeI (v:=v) hs hp (Nat.le_refl w.length)
      have hlen2:=qhb (x:=(c,p,st,ms,())) (v:=v) (w:=w) hs.1 (n:=w.length)
      have hcol:=fun k hk=>qqJ (v:=v) hs hp (k:=k) hk
      have hloc:=qex (c,p,st,ms,()) w (qcn (c,p,st,ms,()) v w w.length) hx sw (qdp (by omega))
      rw[show qcq (c,p,st,ms,()) w (qcn (c,p,st,ms,()) v w w.length)=(true,()) by unfold qcq;rw[qaF ⟨o1,o2⟩]] at hloc
      have hris:=qli (x:=(c,p,st,ms,())) (v:=v) (n:=c.length)
      have hsl:=qe0 (x:=(c,p,st,ms,())) (v:=v) (k:=c.length)
      have hsm:=fun k=>qnj (x:=(c,p,st,ms,())) (v:=v) (k:=k) (n:=c.length)
      rw[hV]
      refine qdP rfl (qaw hsup (qaw hloc (qdP rfl (qdP rfl (qaw (ql9 (qeT (c,p,st,ms,()) v c.length) (c.length:Int) (by omega)) ?_)))))
      rw[qaF (show _∧_ from⟨qdq hris.1,hris.2⟩)]
      generalize qcn (c,p,st,ms,()) v w w.length=vals at hlen hlen2 hcol
      generalize qeT (c,p,st,ms,()) v c.length=supp at hris hsl hsm
      simp only[Z88.j4_eq _ qae,Bool.not_true]
      refine qdP rfl ?_
      refine EvQ.start 1 (L:=fun φ N=>Z88.l5 (mkR (run E (φ 0))) (φ 0) N v w vals supp 0 0 c p st ms) ?_ (fun _ _ _=>rfl)
      have hlp:=EvQ.loop 1 (out:=.cons .bool .nil) (Q:=fun(r:Bool×Unit)=>r.1=true) (σ:=Nat) (L:=fun φ N k=>Z88.l5 (mkR (run E (φ 0))) (φ 0) N v w vals supp (off st w k) (k:Int) c p st ms) (fun _ _ _ _=>rfl) (fun k=>k≤w.length) (fun k=>w.length-k) (fun k hi ih=>?_) 0 (Nat.zero_le _)
      ·exact hlp
      simp only[Z88.l5_succ _ qae]
      refine qcr (fun h=>?_) fun h=>?_
      ·have hk:k<w.length:=by omega
       have h1:=qg9 (c,p,st,ms,()) v w[k] hx sv
       rw[qn6 hs hp hsec hk] at h1
       have hcl:(atV (c,p,st,ms,()) v (wN w k)).length=(st.getD (wN w k) 0).toNat:=qmI
       have hmemk:=hsm (wN w k)
       rw[← hp.at hk] at hmemk
       have hwl:=(hp.wN hk).2
       obtain⟨b1,b2,b3,b4,b5⟩:=qgW hs hp hk
       have b1:0≤off st w k:=b1
       have b2:off st w (k+1)=off st w k+st.getD (wN w k) 0:=b2
       have b3:off st w (k+1)≤off st w w.length:=b3
       have b4:0≤st.getD (wN w k) 0:=b4
       have hlen:(vals.length:Int)=off st w w.length:=hlen
       have hcolk:=hcol k hk
       have hcolk:(vals.take (off st w k+st.getD (wN w k) 0).toNat).drop (off st w k).toNat=atV (c,p,st,ms,()) v (wN w k):=hcolk
       generalize atV (c,p,st,ms,()) v (wN w k)=col at h1 hcl hmemk hcolk
       have hw1:w64 (off st w k+(col.length:Int))=off st w (k+1):=by rw[qag (by omega) (by omega)];omega
       have hsl':(vals.take (Int.toNat (off st w (k+1)))).drop (Int.toNat (off st w k))=col:=by rw[b2];exact hcolk
       refine qbe (qaj hk) (qaw h1 (qdP rfl ?_))
       dsimp only
       simp only[hw1]
       refine qdP (decide_eq_false (by omega)) (qaO (by simp only[Bool.and_eq_true,decide_eq_true_eq];omega) ?_)
       rw[hsl']
       refine qaw (qmU col col (by omega)) ?_
       rw[qaF (show col=col from rfl)]
       refine qdP rfl (qbe (qaj hk) (qaw (qh1 col (by omega)) (qaw (qn3 supp w[k] (by omega)) ?_)))
       have hb:(pb (Zs col)==pb (w[k]∈supp))=false:=by
        by_cases hz:Zs col
        ·rw[qaF hz,qap fun hm=>(hmemk.1 hm).2 hz];rfl
        ·rw[qap hz,qaF (hmemk.2 ⟨hwl,hz⟩)];rfl
       rw[hb]
       simp only[Z88.j6_eq _ qae]
       refine qdP rfl ?_
       rw[hw1,qad (by omega)]
       exact ih (k+1) hk (by omega)
      ·have hk:k=w.length:=by omega
       subst hk
       refine qfT ?_
       have hlen:(vals.length:Int)=off st w w.length:=hlen
       show(off st w w.length==(vals.length:Int))=true
       rw[hlen];exact beq_self_eq_true _
     ·have hV:qbR (c,p,st,ms,()) v w=([],6,()):=by unfold qbR;rw[if_pos hc,if_neg hsec]
      rw[hV]
      exact qp5 rfl (qfT rfl)
    ·have hV:qbR (c,p,st,ms,()) v w=([],PC (c,p,st,ms,()) w,()):=by unfold qbR;rw[if_neg hc]
     rw[hV]
     exact qp5 (by simpa using hc) (qfT rfl)
  ·have hV:qa8 (c,p,st,ms,())=([],1,()):=by unfold qa8;rw[if_neg hs]
   rw[hV]
   exact qp5 rfl (qfT rfl)
 have key:∀ b:Bool,EvQ (fun φ=>Z88.j0 (mkR (run E (φ 0))) (φ 0) x y b) (.cons .bool .nil) fun(r:Bool×Unit)=>r.1=true:=fun b=>by
  cases b
  ·exact go
  ·exact jt
 exact key _
theorem qqn(z:((.cons (.sl (.int .u8)) (.cons (.sl (.int .u8)) .nil)):Ty).T)(h:Wf (.cons (.sl (.int .u8)) (.cons (.sl (.int .u8)) .nil)) z) :
  Evt fun n=>run E n n_Z88 (qbt _ z)=some ⟨.cons .bool .nil,(true,())⟩:=qju z.1 z.2.1 h.1 h.2.1
end VeT
