import Derived.Test.YtjnnliedeobfgaaGreatT6
import Derived.KernelRfl
set_option linter.unusedVariables false
set_option linter.unusedSimpArgs false
open Go Go.Proofs Ve
namespace VeT
theorem qgP(a b:Sim)(ha:a.length≤1048576):Ret E n_Z108 [dL a,dL b] ⟨o_Z108,(pb (a=b),())⟩:=by
 refine qai ?_
 simp only[run_Z108,Z108.ev]
 refine qbB (fun h=>qah ?_) fun h=>?_
 ·have h:(a.length:Int)≠b.length:=by simpa using h
  rw[qap fun e=>h (by rw[e])]
 ·have h:(a.length:Int)=b.length:=by simpa using h
  refine Ev.start (p:=fun φ n=>Z108.l0 (mkR (run E (φ 0))) (φ 0) n a b (a.length:Int) 0=_) 1 ?_ (fun _ _ _ h=>h)
  refine(qcj 1 (L:=fun φ n k=>Z108.l0 (mkR (run E (φ 0))) (φ 0) n a b (a.length:Int) k) (len:=a.length) 0 (by omega) (fun j=>a.getD j 0=b.getD j 0) (fun b=>some ⟨o_Z108,(b,())⟩) (fun _ _ _ _=>rfl) (fun k h1 h2 hP _=>?_) (fun k r h1 h2 hP _ ih=>?_) (fun _=>?_)).to ?_
  ·simp only[Z108.l0_succ _ qae]
   have hb:k<b.length:=by omega
   rw[qac h2,qac hb] at hP
   exact qax (decide_eq_true (by omega)) (qab (qaj h2) (qab (qaj hb) (qax (by simpa using hP) qal)))
  ·simp only[Z108.l0_succ _ qae]
   have hb:k<b.length:=by omega
   rw[qac h2,qac hb] at hP
   refine qax (decide_eq_true (by omega)) (qab (qaj h2) (qab (qaj hb) (qaC (by simpa using hP) ?_)))
   rw[qad (by omega)];exact ih
  ·simp only[Z108.l0_succ _ qae]
   exact qaC (decide_eq_false (by omega)) qal
  ·refine congrArg (fun b:Bool=>some (⟨o_Z108,(b,())⟩:Dv)) (qaG ⟨fun hh=>List.ext_getElem (by omega) fun j h1 h2=>?_,fun hh j _ _=>by rw[hh]⟩)
   have:=hh j (by omega) h1
   rwa [qac h1,qac h2] at this
theorem qew{a b:Mat}:a=b↔a.1=b.1∧a.2.1=b.2.1∧a.2.2.1=b.2.2.1∧a.2.2.2.1=b.2.2.2.1:=by
 obtain⟨p,r,k,c,⟨⟩⟩:=a
 obtain⟨p',r',k',c',⟨⟩⟩:=b
 simp only[Prod.mk.injEq,and_true]
theorem qh4(a b:Mat)(ha:a.2.2.2.1.length≤1048576):Ret E n_Z10 [dI a.1,dI a.2.1,dI a.2.2.1,dL a.2.2.2.1,dI b.1,dI b.2.1,dI b.2.2.1,dL b.2.2.2.1] ⟨o_Z10,(pb (a=b),())⟩:=by
 refine qai ?_
 simp only[run_Z10,Z10.ev]
 refine qbB (fun h1=>qbB (fun h2=>qbB (fun h3=>qaa (qgP _ _ ha) (qah ?_)) fun h3=>qah ?_) fun h2=>qah ?_) fun h1=>qah ?_
 ·exact congrArg (fun b:Bool=>some (⟨o_Z10,(b,())⟩:Dv)) (qaG ⟨fun h=>qew.2 ⟨by simpa using h1,by simpa using h2,by simpa using h3,h⟩,fun h=>(qew.1 h).2.2.2⟩)
 ·rw[qap fun h=>by have:=(qew.1 h).2.2.1;simp[this] at h3]
 ·rw[qap fun h=>by have:=(qew.1 h).2.1;simp[this] at h2]
 ·rw[qap fun h=>by have:=(qew.1 h).1;simp[this] at h1]
theorem qlP(a b:Mat)(ha:a.2.2.2.1.length≤1048576):Ret E n_Z155 [dM a,dM b] ⟨o_Z155,(pb (a=b),())⟩:=by
 refine qai ?_
 simp only[run_Z155,Z155.ev]
 have no:a≠b→Ev fun φ=>Z155.j0 (mkR (run E (φ 0))) (φ 0) a b true=some ⟨o_Z155,(pb (a=b),())⟩:=fun h=>by
  simp only[Z155.j0_eq _ qae,cond_true]
  rw[qap h];(first | exact qal | exact Ev.of fun _=>trivial)
 refine qbB (fun h1=>no fun h=>by simp[(qew.1 h).1] at h1) fun h1=>qbB (fun h2=>no fun h=>by simp[(qew.1 h).2.1] at h2) fun h2=>qbB (fun h3=>no fun h=>by simp[(qew.1 h).2.2.1] at h3) fun h3=>?_
 have h1:a.1=b.1:=by simpa using h1
 have h2:a.2.1=b.2.1:=by simpa using h2
 have h3:a.2.2.1=b.2.2.1:=by simpa using h3
 by_cases hl:a.2.2.2.1.length=b.2.2.2.1.length
 ·simp only[show((a.2.2.2.1.length:Int) != (b.2.2.2.1.length:Int))=false by simp[hl],Z155.j0_eq _ qae,cond_false]
  refine Ev.start (p:=fun φ n=>Z155.l1 (mkR (run E (φ 0))) (φ 0) n a b 0=_) 1 ?_ (fun _ _ _ h=>h)
  refine(qcj 1 (L:=fun φ n k=>Z155.l1 (mkR (run E (φ 0))) (φ 0) n a b k) (len:=a.2.2.2.1.length) 0 (by omega) (fun j=>a.2.2.2.1.getD j 0=b.2.2.2.1.getD j 0) (fun b=>some ⟨o_Z155,(b,())⟩) (fun _ _ _ _=>rfl) (fun k k1 k2 hP _=>?_) (fun k r k1 k2 hP _ ih=>?_) (fun _=>?_)).to ?_
  ·simp only[Z155.l1_succ _ qae]
   have hb:k<b.2.2.2.1.length:=by omega
   rw[qac k2,qac hb] at hP
   exact qax (decide_eq_true (by omega)) (qab (qaj k2) (qab (qaj hb) (qax (by simpa using hP) qal)))
  ·simp only[Z155.l1_succ _ qae]
   have hb:k<b.2.2.2.1.length:=by omega
   rw[qac k2,qac hb] at hP
   refine qax (decide_eq_true (by omega)) (qab (qaj k2) (qab (qaj hb) (qaC (by simpa using hP) ?_)))
   rw[qad (by omega)];exact ih
  ·simp only[Z155.l1_succ _ qae]
   exact qaC (decide_eq_false (by omega)) qal
  ·refine congrArg (fun b:Bool=>some (⟨o_Z155,(b,())⟩:Dv)) (qaG ⟨fun hh=>qew.2 ⟨h1,h2,h3,List.ext_getElem hl fun j g1 g2=>?_⟩,fun hh j _ _=>by rw[hh]⟩)
   have:=hh j (by omega) g1
   rwa [qac g1,qac g2] at this
 ·simp only[show((a.2.2.2.1.length:Int) != (b.2.2.2.1.length:Int))=true by simp;omega]
  exact no fun h=>hl (by rw[(qew.1 h).2.2.2])
noncomputable def mp(c:List Sim)(ms:List Mat)(k i:Nat):Mat:=ms.getD (plc c k+i) mz
noncomputable def fc(c:List Sim)(k i:Nat):Nat:=((qaH c k).getD i 0).toNat
theorem ql5{c:List Sim}{s:Sim}(h:s∈c):c.getD (qdI c s).toNat []=s:=by
 have h0:=qa4.2 h
 unfold qdI qjl at h0 ⊢
 cases hf:c.findIdx? (fun x=>pb (x=s)) with
 | none=>rw[hf] at h0;simp[o2i] at h0
 | some k =>
  rw[List.findIdx?_eq_some_iff_getElem] at hf
  obtain⟨hk,hp,_⟩:=hf
  simp only[o2i,Int.toNat_natCast]
  rw[qac hk];exact qaA.1 hp
theorem qaW{c:List Sim}(h:VC c){k i:Nat}(hk:k<c.length)(hi:i<(qaH c k).length):idx? (qaH c k) (i:Int)=some ((fc c k i:Nat):Int)∧fc c k i<c.length∧c.getD (fc c k i) []=(c.getD k []).eraseIdx i:=by
 have hm:=qkV h hk (List.getElem_mem hi)
 have hl:=qaz (c:=c) (k:=k)
 have h1:1<(c.getD k []).length:=Classical.byContradiction fun hn=>by rw[if_neg hn] at hl;omega
 rw[if_pos h1] at hl
 have hfc:(qaH c k)[i]=qdI c ((c.getD k []).eraseIdx i):=by
  have:(qaH c k)[i]? = some (qdI c ((c.getD k []).eraseIdx i)):=by
   unfold qaH qcu
   rw[if_pos h1,List.map_map,List.getElem?_map,List.getElem?_range (by omega)];rfl
  rw[List.getElem?_eq_getElem hi] at this
  exact Option.some.inj this
 have hin:(c.getD k []).eraseIdx i∈c:=h.2.2.2 k hk _ (qcK.2 ⟨h1,i,by omega,rfl⟩)
 unfold fc
 rw[qac hi]
 refine⟨?_,by omega,?_⟩
 ·rw[qaj hi];congr 1;omega
 ·rw[hfc];exact ql5 hin
theorem VS.map{c:List Sim}{p:Int}{st:Sim}{ms:List Mat}(h:VS c p st ms){k i:Nat}(hk:k<c.length)(hi:i<(qaH c k).length):plc c k+i<ms.length∧Bt (mp c ms k i) p (st.getD (fc c k i) 0) (st.getD k 0):=by
 have hg:=qcI hk hi
 have hlt:=(List.getElem?_eq_some_iff.1 hg).1
 exact⟨by rw[← h.2.2.2.1];exact hlt,h.2.2.2.2 k hk i hi⟩
theorem ql3(c:List Sim)(p:Int)(st:Sim)(ms:List Mat)(k:Nat)(hk:k≤c.length)(hv:VC c):Ret E n_Z47 [dLL c,dI p,dL st,dMs ms,dI (k:Int)] ⟨o_Z47,(((plc c k:Nat):Int),())⟩:=by
 have h48:=hv.1
 have htl:(c.take k).length=k:=by rw[List.length_take];omega
 refine qai ?_
 simp only[run_Z47,Z47.ev,Int.toNat_natCast,htl]
 refine qao (by simp;omega) ?_
 refine Ev.start (p:=fun φ n=>Z47.l0 (mkR (run E (φ 0))) (φ 0) n 0 (c.take k) (k:Int) 0=_) 1 ?_ (fun _ _ _ h=>h)
 have:=qam 1 (L:=fun φ n j a=>Z47.l0 (mkR (run E (φ 0))) (φ 0) n a (c.take k) (k:Int) j) (len:=k) (fun j=>((plc c j:Nat):Int)) (r:=some ⟨o_Z47,(((plc c k:Nat):Int),())⟩) (fun _ _ _ _ _=>rfl) (fun j r hj ih=>?_) ?_
 ·exact this
 ·simp only[Z47.l0_succ _ qae]
  have hjc:j<c.length:=by omega
  have hpl:=hv.plc (k:=j) (by omega)
  have h4:=hv.len4 hjc
  have e:=qe4 (c:=c) (k:=j)
  rw[qaz] at e
  rw[qac hjc] at e h4
  have hjt:j<(c.take k).length:=by omega
  have hgt:(c.take k)[j]=c[j]:=List.getElem_take
  refine qax (decide_eq_true (by omega)) (qab (qaj hjt) ?_)
  rw[hgt]
  refine qdG (fun hl=>qaa (qeM _) ?_) fun hl=>?_
  ·rw[if_pos (by omega)] at e
   rw[qad (by omega),qag (by omega) (by omega)]
   rw[e] at ih
   simpa using ih
  ·rw[if_neg (by omega)] at e
   rw[qad (by omega)]
   rw[e] at ih;exact ih
 ·simp only[Z47.l0_succ _ qae]
  exact qaC (decide_eq_false (by omega)) qal
theorem qcY(c:List Sim)(p:Int)(st:Sim)(ms:List Mat)(k i:Nat)(hk:k<c.length)(hi:i<(qaH c k).length)(h:VS c p st ms):Ret E n_Z35 [dLL c,dI p,dL st,dMs ms,dI (k:Int),dI (i:Int)] ⟨o_Z35,mp c ms k i⟩:=by
 have h48:=h.1.1
 have hpl:=h.1.plc (k:=k) (by omega)
 have h4:=h.1.fIdx4 hk
 obtain⟨ht,_⟩:=h.map hk hi
 refine qai ?_
 simp only[run_Z35,Z35.ev]
 refine qaa (ql3 c p st ms k (by omega) h.1) ?_
 simp only
 rw[qag (by omega) (by omega),show((plc c k:Nat):Int)+(i:Int)=((plc c k+i:Nat):Int) by omega]
 refine qab (qaj ht) (qah ?_)
 rw[mp,qac ht]
theorem qdT(x:Shf)(k i:Nat)(hk:k<x.1.length)(hi:i<(qaH x.1 k).length)(h:VS x.1 x.2.1 x.2.2.1 x.2.2.2.1):Ret E n_Z181 [dS x,dI (k:Int),dI (i:Int)] ⟨o_Z181,(mp x.1 x.2.2.2.1 k i,())⟩:=by
 have h4:=h.1.fIdx4 hk
 obtain⟨ht,_⟩:=h.map hk hi
 refine qai ?_
 simp only[run_Z181,Z181.ev]
 refine qaa (qdr x.1 k i (by omega) (by omega) h.1) (qab (qaj ht) (qah ?_))
 rw[mp,qac ht]
noncomputable def two(c:List Sim)(ms:List Mat)(k i j:Nat):Mat:=qdH (mp c ms k i) (mp c ms (fc c k i) j)
theorem qnh{a b:Mat}(ha:VM a)(hb:VM b):(qdH a b).2.2.2.1.length≤1048576:=by
 show(qas _ _ _).length≤_
 rw[qar]
 have h1:=ha.2.1
 have h2:=hb.2.2.1
 have:=qcs (R:=a.2.1.toNat) (C:=b.2.2.1.toNat) (by omega) (by omega)
 omega
structure Sq (c:List Sim) (p:Int) (st:Sim) (ms:List Mat) (k i j:Nat):Prop where
 kl:k<c.length
 n3:3≤(c.getD k []).length
 il:i<(c.getD k []).length
 jl:j+1<(c.getD k []).length
 v:VS c p st ms
theorem Sq.hi{c p st ms k i j}(h:Sq c p st ms k i j):i<(qaH c k).length:=by
 have:=h.n3;have:=h.il
 rw[qaz,if_pos (by omega)];exact this
theorem Sq.fk{c p st ms k i j}(h:Sq c p st ms k i j):fc c k i<c.length:=(qaW h.v.1 h.kl h.hi).2.1
theorem Sq.hj{c p st ms k i j}(h:Sq c p st ms k i j):j<(qaH c (fc c k i)).length:=by
 have h1:=h.n3;have h2:=h.il;have h3:=h.jl
 have e:=(qaW h.v.1 h.kl h.hi).2.2
 rw[qaz,e,List.length_eraseIdx,if_pos h2,if_pos (by omega)];omega
theorem Sq.b1{c p st ms k i j}(h:Sq c p st ms k i j):VM (mp c ms k i):=((h.v.map h.kl h.hi).2).1
theorem Sq.b2{c p st ms k i j}(h:Sq c p st ms k i j):VM (mp c ms (fc c k i) j):=((h.v.map h.fk h.hj).2).1
theorem Sq.sh{c p st ms k i j}(h:Sq c p st ms k i j):(mp c ms k i).2.2.1=(mp c ms (fc c k i) j).2.1:=by
 rw[((h.v.map h.kl h.hi).2).2.2.2,((h.v.map h.fk h.hj).2).2.2.1]
theorem Sq.impl{c p st ms k i j}(h:Sq c p st ms k i j):Ret E n_Z68 [dI (mp c ms k i).1,dI (mp c ms k i).2.1,dI (mp c ms k i).2.2.1,dL (mp c ms k i).2.2.2.1,dI (mp c ms (fc c k i) j).1,dI (mp c ms (fc c k i) j).2.1,dI (mp c ms (fc c k i) j).2.2.1,dL (mp c ms (fc c k i) j).2.2.2.1] ⟨o_Z68,two c ms k i j⟩ :=
 qiC _ _ h.b1 h.b2 h.sh
theorem qjy(x:Shf)(k i j:Nat)(hij:i≠j)(h:Sq x.1 x.2.1 x.2.2.1 x.2.2.2.1 k i (if i<j then j-1 else j))(hc:Sm (.sl (.sl (.int .i64))) x.1)(hj:j≤1048576):Ret E n_Z190 [dS x,dI (k:Int),dI (i:Int),dI (j:Int)] ⟨o_Z190,two x.1 x.2.2.2.1 k i (if i<j then j-1 else j)⟩:=by
 obtain⟨hidx,hF,_⟩:=qaW h.v.1 h.kl h.hi
 refine qai ?_
 simp only[run_Z190,Z190.ev]
 refine qaa (qca x.1 k h.kl hc) (qab hidx ?_)
 have tail:Ev fun φ=>Z190.j0 (mkR (run E (φ 0))) (φ 0) x (k:Int) (i:Int) (((if i<j then j-1 else j:Nat)):Int) ((fc x.1 k i:Nat):Int) 0 0 0=some ⟨o_Z190,two x.1 x.2.2.2.1 k i (if i<j then j-1 else j)⟩:=by
  simp only[Z190.j0_eq _ qae]
  refine qaa (qdT x k i h.kl h.hi h.v) (qaa (qdT x _ _ h.fk h.hj h.v) (qaa (qhh _ _ h.b1 h.b2 h.sh) qal))
 refine qdG (fun hgt=>?_) fun hgt=>?_
 ·rw[qag (by omega) (by omega),show(j:Int)-1=((j-1:Nat):Int) by omega]
  rw[if_pos (by omega)] at tail ⊢;exact tail
 ·rw[if_neg (by omega)] at tail ⊢;exact tail
end VeT
open Go Go.Proofs Ve
namespace VeT
def Bq(c:List Sim)(ms:List Mat)(k i j:Nat):Prop:=two c ms k i (j-1)≠two c ms k j i
def Pi(c:List Sim)(ms:List Mat)(k i:Nat):Prop:=∃ j,i+1≤j∧j<i+1+((c.getD k []).length-(i+1))∧Bq c ms k i j
def Pk(c:List Sim)(ms:List Mat)(k:Nat):Prop:=3≤(c.getD k []).length∧∃ i,0≤i∧i<0+(c.getD k []).length∧Pi c ms k i
noncomputable def rI(c:List Sim)(ms:List Mat)(out:Nat→Nat→Nat→Option Dv)(k i:Nat)(rn:Option Dv):Option Dv:=orN (out k i) rn (qaM (Bq c ms k i) (i+1) ((c.getD k []).length-(i+1)))
noncomputable def rK(c:List Sim)(ms:List Mat)(out:Nat→Nat→Nat→Option Dv)(k:Nat)(rn:Option Dv):Option Dv:=orN (fun i=>rI c ms out k i none) rn (qaM (Pi c ms k) 0 (c.getD k []).length)
noncomputable def qjH(c:List Sim)(ms:List Mat)(out:Nat→Nat→Nat→Option Dv)(rn:Option Dv):Option Dv:=orN (fun k=>rK c ms out k none) rn (qaM (Pk c ms) 0 c.length)
theorem qsR{c ms out k i}{rn rn':Option Dv}(h:Pi c ms k i):rI c ms out k i rn=rI c ms out k i rn':=by
 obtain⟨j,hj⟩:=qb2 h
 unfold rI;rw[hj];rfl
theorem qr5{c ms out k i}{rn:Option Dv}(h:¬ Pi c ms k i):rI c ms out k i rn=rn:=by
 unfold rI
 cases hf:qaM (Bq c ms k i) (i+1) ((c.getD k []).length-(i+1)) with
 | none=>rfl
 | some j=>exact absurd ⟨j,qay hf⟩ h
theorem qsT{c ms out k}{rn rn':Option Dv}(h:Pk c ms k):rK c ms out k rn=rK c ms out k rn':=by
 obtain⟨j,hj⟩:=qb2 h.2
 unfold rK;rw[hj];rfl
theorem qsr{c ms out k}{rn:Option Dv}(h:¬ Pk c ms k)(h3:3≤(c.getD k []).length):rK c ms out k rn=rn:=by
 unfold rK
 cases hf:qaM (Pi c ms k) 0 (c.getD k []).length with
 | none=>rfl
 | some j=>exact absurd ⟨h3,j,qay hf⟩ h
noncomputable def qbX(c:List Sim)(ms:List Mat):Option (Nat×Nat×Nat) :=
 (qaM (Pk c ms) 0 c.length).bind fun k=>(qaM (Pi c ms k) 0 (c.getD k []).length).bind fun i=>(qaM (Bq c ms k i) (i+1) ((c.getD k []).length-(i+1))).map fun j=>(k,i,j)
theorem qfG{c ms k i j}(h:qbX c ms=some (k,i,j)):k<c.length∧3≤(c.getD k []).length∧i<j∧j<(c.getD k []).length∧∀ out rn,qjH c ms out rn=out k i j:=by
 unfold qbX at h
 obtain⟨k',hk,h⟩:=Option.bind_eq_some_iff.1 h
 obtain⟨i',hi,h⟩:=Option.bind_eq_some_iff.1 h
 obtain⟨j',hj,h⟩:=Option.map_eq_some_iff.1 h
 simp only[Prod.mk.injEq] at h
 obtain⟨rfl,rfl,rfl⟩:=h
 have a:=qay hk
 have b:=qay hi
 have d:=qay hj
 refine⟨by omega,a.2.2.1,by omega,by omega,fun out rn=>?_⟩
 unfold qjH rK rI
 rw[hk];simp only[orN];rw[hi];simp only[orN];rw[hj]
theorem qfN{c ms}(h:qbX c ms=none):∀ out rn,qjH c ms out rn=rn:=by
 intro out rn
 unfold qjH
 cases hk:qaM (Pk c ms) 0 c.length with
 | none=>rfl
 | some k =>
  have a:=qay hk
  obtain⟨i,hi⟩:=qb2 a.2.2.2
  obtain⟨j,hj⟩:=qb2 (qay hi).2.2
  unfold qbX at h
  rw[hk] at h
  simp only[Option.bind_some] at h
  rw[hi] at h
  simp only[Option.bind_some] at h
  rw[hj] at h
  cases h
theorem qg3(c:List Sim)(k:Nat)(hk:k<c.length)(hc:Sm (.sl (.sl (.int .i64))) c)(hv:VC c):Ret E n_Z39 [dLL c,dI (k:Int)] ⟨o_Z39,(qaH c k,())⟩:=qcl c k hk hc hv.srt
noncomputable def qqk(c:List Sim)(k i j:Nat):Option Dv:=some ⟨o_Z85,((k:Int),(qaH c (fc c k i)).getD (j-1) 0,true,())⟩
theorem qhD(c:List Sim)(p:Int)(st:Sim)(ms:List Mat)(hc:Sm (.sl (.sl (.int .i64))) c)(h:VS c p st ms):Ev fun φ=>run E (φ 0+1) n_Z85 [dLL c,dI p,dL st,dMs ms]=qjH c ms (qqk c) (some ⟨o_Z85,(0,0,false,())⟩):=by
  have hv:=h.1
  have h48:=hv.1
  simp only[run_Z85,Z85.ev]
  refine Ev.start (p:=fun φ n=>Z85.l0 (mkR (run E (φ 0))) (φ 0) n c (c.length:Int) 0 c p st ms=_) 1 ?_ (fun _ _ _ h=>h)
  have inner3:∀ k i (hk:k<c.length) (hn:3≤(c.getD k []).length) (hi:i<(c.getD k []).length) (rn:Option Dv),
      (¬ Pi c ms k i→Ev fun φ=>Z85.l1 (mkR (run E (φ 0))) (φ 0) (φ 1) (φ 2) (c.getD k []) (k:Int) (qaH c k) c (c.length:Int) (k:Int) ((c.getD k []).length:Int) ((i+1:Nat):Int) c p st ms=rn) →
      Ev fun φ=>Z85.l2 (mkR (run E (φ 0))) (φ 0) (φ 1) (φ 2) (φ 0) (c.getD k []) (k:Int) (qaH c k) (i:Int) ((i+1:Nat):Int) c (c.length:Int) (k:Int) ((c.getD k []).length:Int) (i:Int) c p st ms=rI c ms (qqk c) k i rn:=by
    intro k i hk hn hi rn hrn
    have h4:=hv.len4 hk
    refine Ev.start (p:=fun φ n=>Z85.l2 (mkR (run E (φ 0))) (φ 0) (φ 1) (φ 2) n (c.getD k []) (k:Int) (qaH c k) (i:Int) ((i+1:Nat):Int) c (c.length:Int) (k:Int) ((c.getD k []).length:Int) (i:Int) c p st ms=_) 3 ?_ (fun _ _ _ h=>h)
    -- one round
    have round:∀ j (hij:i+1≤j) (hj:j<(c.getD k []).length) (r:Option Dv),
        (Ev fun φ=>(bif (!pb (two c ms k i (j-1)=two c ms k j i)) then qqk c k i j else Z85.l2 (mkR (run E (φ 0))) (φ 0) (φ 1) (φ 2) (φ 3) (c.getD k []) (k:Int) (qaH c k) (i:Int) (w64 ((j:Int)+1)) c (c.length:Int) (k:Int) ((c.getD k []).length:Int) (i:Int) c p st ms)=r) →
        Ev fun φ=>Z85.l2 (mkR (run E (φ 0))) (φ 0) (φ 1) (φ 2) (φ 3+1) (c.getD k []) (k:Int) (qaH c k) (i:Int) (j:Int) c (c.length:Int) (k:Int) ((c.getD k []).length:Int) (i:Int) c p st ms=r:=by
      intro j hij hj r hr
      have s1:Sq c p st ms k i (j-1):=⟨hk,hn,hi,by omega,h⟩
      have s2:Sq c p st ms k j i:=⟨hk,hn,hj,by omega,h⟩
      obtain⟨ix1,F1,_⟩:=qaW hv hk s1.hi
      obtain⟨ix2,F2,_⟩:=qaW hv hk s2.hi
      have g1:=qcY c p st ms k i hk s1.hi h
      have g2:=qcY c p st ms (fc c k i) (j-1) F1 s1.hj h
      have g3:=qcY c p st ms k j hk s2.hi h
      have g4:=qcY c p st ms (fc c k j) i F2 s2.hj h
      have ej:w64 ((j:Int)-1)=((j-1:Nat):Int):=by rw[qag (by omega) (by omega)];omega
      have j4:Ev fun φ=>Z85.j4 (mkR (run E (φ 0))) (φ 0) (φ 1) (φ 2) (φ 3) (c.getD k []) (k:Int) (qaH c k) (i:Int) (j:Int) c (c.length:Int) (k:Int) ((c.getD k []).length:Int) (i:Int) c p st ms
          (two c ms k i (j-1)).1 (two c ms k i (j-1)).2.1 (two c ms k i (j-1)).2.2.1 (two c ms k i (j-1)).2.2.2.1 (two c ms k j i).1 (two c ms k j i).2.1 (two c ms k j i).2.2.1 (two c ms k j i).2.2.2.1=r:=by
        simp only[Z85.j4_eq _ qae,ej]
        refine qaa (qh4 (two c ms k i (j-1)) (two c ms k j i) (qnh s1.b1 s1.b2)) ?_
        by_cases he:two c ms k i (j-1)=two c ms k j i
        · rw[qaF he] at hr ⊢
          exact qaC rfl (by simpa using hr)
        · rw[qap he] at hr ⊢
          refine qax rfl (qab ix1 (qaa (qg3 c (fc c k i) F1 hc hv) (qab (qaj s1.hj) ?_)))
          have:qqk c k i j=r:=by
            obtain⟨n0,hr⟩:=hr
            exact hr (fun _=>n0) (fun _=>Nat.le_refl _)
          rw[← this,qqk,qac s1.hj];exact qal
      have j3:Ev fun φ=>Z85.j3 (mkR (run E (φ 0))) (φ 0) (φ 1) (φ 2) (φ 3) (c.getD k []) (k:Int) (qaH c k) (i:Int) (j:Int) c (c.length:Int) (k:Int) ((c.getD k []).length:Int) (i:Int) c p st ms
          (two c ms k i (j-1)).1 (two c ms k i (j-1)).2.1 (two c ms k i (j-1)).2.2.1 (two c ms k i (j-1)).2.2.2.1=r:=by
        simp only[Z85.j3_eq _ qae]
        refine qab ix2 (qbL (qaa g3 (qbL (qaa g4 (qbL (qaa s2.impl j4) (qaa s2.impl j4))) (qaa g4 (qaa s2.impl j4)))) (qaa g3 (qaa g4 (qaa s2.impl j4))))
      simp only[Z85.l2_succ _ qae,ej]
      refine qax (decide_eq_true (by omega)) (qab ix1 (qbL (qaa g1 (qbL (qaa g2 (qbL (qaa s1.impl j3) (qaa s1.impl j3))) (qaa g2 (qaa s1.impl j3)))) (qaa g1 (qaa g2 (qaa s1.impl j3)))))
    refine qcc 3 (L:=fun φ n j=>Z85.l2 (mkR (run E (φ 0))) (φ 0) (φ 1) (φ 2) n (c.getD k []) (k:Int) (qaH c k) (i:Int) j c (c.length:Int) (k:Int) ((c.getD k []).length:Int) (i:Int) c p st ms) (len:=(c.getD k []).length) (Bq c ms k i) (qqk c k i) rn (fun _ _ _ _=>rfl) (i+1) (fun j h1 h2 hB=>?_) (fun j q h1 h2 hB ih=>?_) (fun hno=>?_) _ (by omega)
    · refine round j h1 h2 _ (qax ?_ qal)
      rw[qap hB];rfl
    · refine round j h1 h2 _ (qaC ?_ ?_)
      · rw[qaF (Classical.not_not.1 hB)];rfl
      · rw[qad (by omega)];exact ih
    · simp only[Z85.l2_succ _ qae]
      refine qaC (decide_eq_false (by omega)) ?_
      rw[qad (by omega)];exact hrn fun⟨j,h1,h2,h3⟩=>hno j h1 (by omega) h3
  have inner2:∀ k (hk:k<c.length) (hn:3≤(c.getD k []).length) (rn:Option Dv),
      (¬ Pk c ms k→Ev fun φ=>Z85.l0 (mkR (run E (φ 0))) (φ 0) (φ 1) c (c.length:Int) ((k+1:Nat):Int) c p st ms=rn) →
      Ev fun φ=>Z85.l1 (mkR (run E (φ 0))) (φ 0) (φ 1) (φ 0) (c.getD k []) (k:Int) (qaH c k) c (c.length:Int) (k:Int) ((c.getD k []).length:Int) 0 c p st ms=rK c ms (qqk c) k rn:=by
    intro k hk hn rn hrn
    have h4:=hv.len4 hk
    refine Ev.start (p:=fun φ n=>Z85.l1 (mkR (run E (φ 0))) (φ 0) (φ 1) n (c.getD k []) (k:Int) (qaH c k) c (c.length:Int) (k:Int) ((c.getD k []).length:Int) 0 c p st ms=_) 2 ?_ (fun _ _ _ h=>h)
    refine qcc 2 (L:=fun φ n i=>Z85.l1 (mkR (run E (φ 0))) (φ 0) (φ 1) n (c.getD k []) (k:Int) (qaH c k) c (c.length:Int) (k:Int) ((c.getD k []).length:Int) i c p st ms) (len:=(c.getD k []).length) (Pi c ms k) (fun i=>rI c ms (qqk c) k i none) rn (fun _ _ _ _=>rfl) 0 (fun i h1 h2 hP=>?_) (fun i q h1 h2 hP ih=>?_) (fun hno=>?_) _ (by omega)
    · simp only[Z85.l1_succ _ qae]
      refine qax (decide_eq_true (by omega)) ?_
      rw[qad (by omega)]
      exact inner3 k i hk hn h2 none fun hn=>absurd hP hn
    · simp only[Z85.l1_succ _ qae]
      refine qax (decide_eq_true (by omega)) ?_
      rw[qad (by omega)]
      exact(inner3 k i hk hn h2 q fun _=>ih).to (qr5 hP)
    · simp only[Z85.l1_succ _ qae]
      refine qaC (decide_eq_false (by omega)) ?_
      rw[qad (by omega)];exact hrn fun⟨_,i,h1,h2,h3⟩=>hno i h1 (by omega) h3
  refine qcc 1 (L:=fun φ n k=>Z85.l0 (mkR (run E (φ 0))) (φ 0) n c (c.length:Int) k c p st ms) (len:=c.length) (Pk c ms) (fun k=>rK c ms (qqk c) k none) _ (fun _ _ _ _=>rfl) 0 (fun k h1 h2 hP=>?_) (fun k q h1 h2 hP ih=>?_) (fun hno=>?_) _ (by omega)
  · simp only[Z85.l0_succ _ qae]
    refine qax (decide_eq_true (by omega)) (qab (qaj h2) ?_)
    have hn:=hP.1
    rw[← qac (d:=[]) h2]
    exact qaC (decide_eq_false (by omega)) (qaa (qg3 c k h2 hc hv) (inner2 k h2 hn none fun hn=>absurd hP hn))
  · simp only[Z85.l0_succ _ qae]
    refine qax (decide_eq_true (by omega)) (qab (qaj h2) ?_)
    rw[← qac (d:=[]) h2]
    refine qdG (fun hlt=>?_) fun hlt=>?_
    · rw[qad (by omega)];exact ih
    · exact qaa (qg3 c k h2 hc hv) ((inner2 k h2 (by omega) q fun _=>ih).to (qsr hP (by omega)))
  · simp only[Z85.l0_succ _ qae]
    exact qaC (decide_eq_false (by omega)) qal
noncomputable def qrC(k i j:Nat):Option Dv:=some ⟨o_Z191,((k:Int),(i:Int),(j:Int),())⟩
theorem qk7(x:Shf)(hc:Sm (.sl (.sl (.int .i64))) x.1)(h:VS x.1 x.2.1 x.2.2.1 x.2.2.2.1):Ev fun φ=>run E (φ 0+1) n_Z191 [dS x]=qjH x.1 x.2.2.2.1 qrC (some ⟨o_Z191,(-1,0,0,())⟩):=by
  have hv:=h.1
  have h48:=hv.1
  simp only[run_Z191,Z191.ev]
  refine Ev.start (p:=fun φ n=>Z191.l0 (mkR (run E (φ 0))) (φ 0) n x 0=_) 1 ?_ (fun _ _ _ h=>h)
  have inner3:∀ k i (hk:k<x.1.length) (hn:3≤(x.1.getD k []).length) (hi:i<(x.1.getD k []).length) (rn:Option Dv),
      (¬ Pi x.1 x.2.2.2.1 k i→Ev fun φ=>Z191.l1 (mkR (run E (φ 0))) (φ 0) (φ 1) (φ 2) x (k:Int) ((x.1.getD k []).length:Int) ((i+1:Nat):Int)=rn) →
      Ev fun φ=>Z191.l3 (mkR (run E (φ 0))) (φ 0) (φ 1) (φ 2) (φ 0) x (k:Int) ((x.1.getD k []).length:Int) (i:Int) ((i+1:Nat):Int)=rI x.1 x.2.2.2.1 qrC k i rn:=by
    intro k i hk hn hi rn hrn
    have h4:=hv.len4 hk
    refine Ev.start (p:=fun φ n=>Z191.l3 (mkR (run E (φ 0))) (φ 0) (φ 1) (φ 2) n x (k:Int) ((x.1.getD k []).length:Int) (i:Int) ((i+1:Nat):Int)=_) 3 ?_ (fun _ _ _ h=>h)
    have round:∀ j (hij:i+1≤j) (hj:j<(x.1.getD k []).length) (r:Option Dv),
        (Ev fun φ=>(bif (!pb (two x.1 x.2.2.2.1 k i (j-1)=two x.1 x.2.2.2.1 k j i)) then qrC k i j else Z191.l3 (mkR (run E (φ 0))) (φ 0) (φ 1) (φ 2) (φ 3) x (k:Int) ((x.1.getD k []).length:Int) (i:Int) (w64 ((j:Int)+1)))=r) →
        Ev fun φ=>Z191.l3 (mkR (run E (φ 0))) (φ 0) (φ 1) (φ 2) (φ 3+1) x (k:Int) ((x.1.getD k []).length:Int) (i:Int) (j:Int)=r:=by
      intro j hij hj r hr
      have s1:Sq x.1 x.2.1 x.2.2.1 x.2.2.2.1 k i (j-1):=⟨hk,hn,hi,by omega,h⟩
      have s2:Sq x.1 x.2.1 x.2.2.1 x.2.2.2.1 k j i:=⟨hk,hn,hj,by omega,h⟩
      have t1:=qjy x k i j (by omega) (by rw[if_pos (by omega)];exact s1) hc (by omega)
      have t2:=qjy x k j i (by omega) (by rw[if_neg (by omega)];exact s2) hc (by omega)
      rw[if_pos (by omega)] at t1
      rw[if_neg (by omega)] at t2
      simp only[Z191.l3_succ _ qae]
      exact qax (decide_eq_true (by omega)) (qaa t1 (qaa t2 (qaa (qlP (two x.1 x.2.2.2.1 k i (j-1)) (two x.1 x.2.2.2.1 k j i) (qnh s1.b1 s1.b2)) hr)))
    refine qcc 3 (L:=fun φ n j=>Z191.l3 (mkR (run E (φ 0))) (φ 0) (φ 1) (φ 2) n x (k:Int) ((x.1.getD k []).length:Int) (i:Int) j) (len:=(x.1.getD k []).length) (Bq x.1 x.2.2.2.1 k i) (qrC k i) rn (fun _ _ _ _=>rfl) (i+1) (fun j h1 h2 hB=>?_) (fun j q h1 h2 hB ih=>?_) (fun hno=>?_) _ (by omega)
    · refine round j h1 h2 _ (qax ?_ qal)
      rw[qap hB];rfl
    · refine round j h1 h2 _ (qaC ?_ ?_)
      · rw[qaF (Classical.not_not.1 hB)];rfl
      · rw[qad (by omega)];exact ih
    · simp only[Z191.l3_succ _ qae]
      refine qaC (decide_eq_false (by omega)) ?_
      rw[qad (by omega)];exact hrn fun⟨j,h1,h2,h3⟩=>hno j h1 (by omega) h3
  have inner2:∀ k (hk:k<x.1.length) (hn:3≤(x.1.getD k []).length) (rn:Option Dv),
      (¬ Pk x.1 x.2.2.2.1 k→Ev fun φ=>Z191.l0 (mkR (run E (φ 0))) (φ 0) (φ 1) x ((k+1:Nat):Int)=rn) →
      Ev fun φ=>Z191.l1 (mkR (run E (φ 0))) (φ 0) (φ 1) (φ 0) x (k:Int) ((x.1.getD k []).length:Int) 0=rK x.1 x.2.2.2.1 qrC k rn:=by
    intro k hk hn rn hrn
    have h4:=hv.len4 hk
    refine Ev.start (p:=fun φ n=>Z191.l1 (mkR (run E (φ 0))) (φ 0) (φ 1) n x (k:Int) ((x.1.getD k []).length:Int) 0=_) 2 ?_ (fun _ _ _ h=>h)
    have h2':decide (((x.1.getD k []).length:Int)>2)=true:=decide_eq_true (by omega)
    refine qcc 2 (L:=fun φ n i=>Z191.l1 (mkR (run E (φ 0))) (φ 0) (φ 1) n x (k:Int) ((x.1.getD k []).length:Int) i) (len:=(x.1.getD k []).length) (Pi x.1 x.2.2.2.1 k) (fun i=>rI x.1 x.2.2.2.1 qrC k i none) rn (fun _ _ _ _=>rfl) 0 (fun i h1 h2 hP=>?_) (fun i q h1 h2 hP ih=>?_) (fun hno=>?_) _ (by omega)
    · simp only[Z191.l1_succ _ qae,h2',Z191.j2_eq _ qae,cond_true]
      refine qax (decide_eq_true (by omega)) ?_
      rw[qad (by omega)]
      exact inner3 k i hk hn h2 none fun hn=>absurd hP hn
    · simp only[Z191.l1_succ _ qae,h2',Z191.j2_eq _ qae,cond_true]
      refine qax (decide_eq_true (by omega)) ?_
      rw[qad (by omega)]
      exact(inner3 k i hk hn h2 q fun _=>ih).to (qr5 hP)
    · simp only[Z191.l1_succ _ qae,Z191.j2_eq _ qae,cond_false]
      refine qaC (decide_eq_false (by omega)) ?_
      rw[qad (by omega)];exact hrn fun⟨_,i,h1,h2,h3⟩=>hno i h1 (by omega) h3
  refine qcc 1 (L:=fun φ n k=>Z191.l0 (mkR (run E (φ 0))) (φ 0) n x k) (len:=x.1.length) (Pk x.1 x.2.2.2.1) (fun k=>rK x.1 x.2.2.2.1 qrC k none) _ (fun _ _ _ _=>rfl) 0 (fun k h1 h2 hP=>?_) (fun k q h1 h2 hP ih=>?_) (fun hno=>?_) _ (by omega)
  · simp only[Z191.l0_succ _ qae]
    refine qax (decide_eq_true (by omega)) (qab (qaj h2) ?_)
    have hn:=hP.1
    rw[← qac (d:=[]) h2]
    exact inner2 k h2 hn none fun hn=>absurd hP hn
  · simp only[Z191.l0_succ _ qae]
    refine qax (decide_eq_true (by omega)) (qab (qaj h2) ?_)
    rw[← qac (d:=[]) h2]
    by_cases hn:3≤(x.1.getD k []).length
    · exact(inner2 k h2 hn q fun _=>ih).to (qsr hP hn)
    · have h2':decide (((x.1.getD k []).length:Int)>2)=false:=decide_eq_false (by omega)
      refine Ev.start (p:=fun φ n=>Z191.l1 (mkR (run E (φ 0))) (φ 0) (φ 1) n x (k:Int) ((x.1.getD k []).length:Int) 0=_) 2 ?_ (fun _ _ _ h=>h)
      refine Ev.round 2 (L:=fun φ n=>Z191.l1 (mkR (run E (φ 0))) (φ 0) (φ 1) n x (k:Int) ((x.1.getD k []).length:Int) 0) ?_ (fun _ _ _=>rfl)
      simp only[Z191.l1_succ _ qae,h2',Z191.j2_eq _ qae,cond_false]
      rw[qad (by omega)]
      exact qdG (fun _=>ih) fun _=>ih
  · simp only[Z191.l0_succ _ qae]
    exact qaC (decide_eq_false (by omega)) qal
end VeT
open Go Go.Proofs Ve
namespace VeT
noncomputable def wI(c:List Sim)(ms:List Mat):Int×Int×Bool×Unit:=match qbX c ms with
 | some (k,i,j)=>((k:Int),(qaH c (fc c k i)).getD (j-1) 0,true,())
 | none=>(0,0,false,())
noncomputable def wS(c:List Sim)(ms:List Mat):Int×Int×Int×Unit:=match qbX c ms with
 | some (k,i,j)=>((k:Int),(i:Int),(j:Int),())
 | none=>(-1,0,0,())
theorem qiw(c:List Sim)(p:Int)(st:Sim)(ms:List Mat)(hc:Sm (.sl (.sl (.int .i64))) c)(h:VS c p st ms):Ret E n_Z85 [dLL c,dI p,dL st,dMs ms] ⟨o_Z85,wI c ms⟩:=by
 refine qai ((qhD c p st ms hc h).to ?_)
 cases hw:qbX c ms with
 | none=>rw[qfN hw,wI,hw]
 | some t =>
  obtain⟨k,i,j⟩:=t
  rw[(qfG hw).2.2.2.2,wI,hw];rfl
theorem qlG(x:Shf)(hc:Sm (.sl (.sl (.int .i64))) x.1)(h:VS x.1 x.2.1 x.2.2.1 x.2.2.2.1):Ret E n_Z191 [dS x] ⟨o_Z191,wS x.1 x.2.2.2.1⟩:=by
 refine qai ((qk7 x hc h).to ?_)
 cases hw:qbX x.1 x.2.2.2.1 with
 | none=>rw[qfN hw,wS,hw]
 | some t =>
  obtain⟨k,i,j⟩:=t
  rw[(qfG hw).2.2.2.2,wS,hw];rfl
def ISh(x:Shf):Prop:=VS x.1 x.2.1 x.2.2.1 x.2.2.2.1∧qbX x.1 x.2.2.2.1=none
theorem qdm(x:Shf)(hx:Sm (.st cS) x):Ret E n_Z7 [dLL x.1,dI x.2.1,dL x.2.2.1,dMs x.2.2.2.1] ⟨o_Z7,(pb (ISh x),())⟩:=by
 refine qai ?_
 simp only[run_Z7,Z7.ev]
 refine qaa (qky x hx) (qbB (fun h=>qah ?_) fun h=>?_)
 ·have h:=qaN.1 (show pb (VS x.1 x.2.1 x.2.2.1 x.2.2.2.1)=false by simpa using h)
  rw[qap fun hi=>h hi.1]
 ·have h:=qaA.1 (show pb (VS x.1 x.2.1 x.2.2.1 x.2.2.2.1)=true by simpa using h)
  refine qaa (qiw _ _ _ _ hx.1 h) (qah ?_)
  have:(!(wI x.1 x.2.2.2.1).2.2.1)=pb (ISh x):=qfE (by
   unfold ISh wI
   cases hw:qbX x.1 x.2.2.2.1 with
   | none=>simp[h]
   | some t=>simp)
  rw[this]
theorem qgm(x:Shf)(hx:Sm (.st cS) x):Ret E n_Z183 [dS x] ⟨o_Z183,(pb (ISh x),())⟩:=by
 refine qai ?_
 simp only[run_Z183,Z183.ev]
 refine qaa (qpU x hx) (qbB (fun h=>qah ?_) fun h=>?_)
 ·have h:=qaN.1 (show pb (VS x.1 x.2.1 x.2.2.1 x.2.2.2.1)=false by simpa using h)
  rw[qap fun hi=>h hi.1]
 ·have h:=qaA.1 (show pb (VS x.1 x.2.1 x.2.2.1 x.2.2.2.1)=true by simpa using h)
  refine qaa (qlG x hx.1 h) (qah ?_)
  have:decide ((wS x.1 x.2.2.2.1).1<0)=pb (ISh x):=qfE (by
   rw[decide_eq_true_iff]
   unfold ISh wS
   cases hw:qbX x.1 x.2.2.2.1 with
   | none=>simp[h]
   | some t=>simp only[reduceCtorEq,and_false,iff_false];omega)
  rw[this]
theorem qfp{s:Sim}{i j:Nat}(h:i<j):(s.eraseIdx j).eraseIdx i=(s.eraseIdx i).eraseIdx (j-1):=by
 apply List.ext_getElem?
 intro n
 rw[List.getElem?_eraseIdx,List.getElem?_eraseIdx,List.getElem?_eraseIdx,List.getElem?_eraseIdx]
 by_cases h1:n<i
 ·rw[if_pos h1,if_pos (by omega),if_pos (by omega),List.getElem?_eraseIdx,if_pos h1]
 ·by_cases h2:n+1<j
  ·rw[if_neg h1,if_pos h2,if_pos (by omega),List.getElem?_eraseIdx,if_neg h1]
  ·rw[if_neg h1,if_neg h2,if_neg (by omega),List.getElem?_eraseIdx,if_neg (by omega)]
def SDn(c:List Sim)(st:Sim)(d:Int)(n:Nat):Int:=((qav c d n).map fun i=>st.getD i.toNat 0).sum
theorem qn9{c:List Sim}{st:Sim}{d:Int}:SD c st d=SDn c st d c.length:=by
 unfold SD qf3 SDn
 rw[List.take_of_length_le (Nat.le_refl _)]
theorem qel{c:List Sim}{st:Sim}{d:Int}{n:Nat}:SDn c st d (n+1)=SDn c st d n+if ((c.getD n []).length:Int)=d+1 then st.getD n 0 else 0:=by
 unfold SDn
 rw[qcA,List.map_append,List.sum_append]
 split<;>simp
theorem qqC{c:List Sim}{p:Int}{st:Sim}{ms:List Mat}(h:VS c p st ms)(d:Nat)(hd:d<4):0≤SD c st (d:Int)∧SD c st (d:Int)≤32:=⟨qn5 h.2.2.1.2.1 _,h.2.2.1.2.2 d hd⟩
end VeT
open Go Go.Proofs Ve
namespace VeT
theorem qcC{st:Sim}(hst:∀ x∈st,0≤x∧x≤3)(k:Nat):0≤st.getD k 0∧st.getD k 0≤3:=by
 by_cases hl:k<st.length
 ·rw[qac hl];exact hst _ (List.getElem_mem hl)
 ·rw[List.getD_eq_getElem?_getD,List.getElem?_eq_none (by omega)];simp
theorem qgg{c:List Sim}{st:Sim}{d:Int}(hst:∀ x∈st,0≤x∧x≤3):∀ {n:Nat},0≤SDn c st d n∧SDn c st d n≤3*n
 | 0=>by simp[SDn,qav]
 | n+1=>by
  have h1:=qgg (c:=c) (d:=d) hst (n:=n)
  have h2:=qcC hst n
  rw[qel];split<;>omega
theorem qqw{c:List Sim}{st:Sim}{d:Int}(hst:∀ x∈st,0≤x∧x≤3){n m:Nat}(h:n≤m):SDn c st d n≤SDn c st d m:=by
 induction h with
 | refl=>exact Int.le_refl _
 | @step m h ih=>rw[qel];have:=qcC hst m;split<;>omega
theorem qp7{c:List Sim}{st:Sim}{d:Int}(hst:∀ x∈st,0≤x∧x≤3){s n:Nat}(hs:s<n)(hd:((c.getD s []).length:Int)=d+1):SDn c st d s+st.getD s 0≤SDn c st d n:=by
 have:=qqw (c:=c) (d:=d) hst (show s+1≤n from hs)
 rw[qel,if_pos hd] at this;exact this
theorem qlA{c:List Sim}{d:Int}{s n:Nat}(hs:s<n)(hd:((c.getD s []).length:Int)=d+1):∃ tl,qav c d n=qav c d s++(s:Int)::tl:=by
 induction n with
 | zero=>omega
 | succ n ih =>
  rw[qcA]
  by_cases h:s=n
  ·subst h;exact⟨[],by rw[if_pos hd]⟩
  ·obtain⟨tl,e⟩:=ih (by omega)
   exact⟨tl++_,by rw[e,List.append_assoc];rfl⟩
theorem qd3{c:List Sim}{d:Int}{k:Nat}{x:Int}:x∈qav c d k↔∃ i:Nat,x=i∧i<k∧((c.getD i []).length:Int)=d+1:=by
 unfold qav
 rw[List.mem_map]
 constructor
 ·rintro⟨i,hi,rfl⟩
  have:=List.mem_filter.1 hi
  exact⟨i,rfl,by simpa using this.1,by simpa using this.2⟩
 ·rintro⟨i,rfl,h1,h2⟩
  exact⟨i,List.mem_filter.2 ⟨by simpa using h1,by simpa using h2⟩,rfl⟩
def FC(c:List Sim)(st:Sim)(s:Nat):Int:=SDn c st (((c.getD s []).length:Int)-1) s
theorem qeb{c:List Sim}{st:Sim}(hst:∀ x∈st,0≤x∧x≤3){s:Nat}(hs:s<c.length):0≤FC c st s∧FC c st s+st.getD s 0≤SD c st (((c.getD s []).length:Int)-1):=by
 refine⟨(qgg hst).1,?_⟩
 rw[qn9]
 exact qp7 hst hs (by omega)
abbrev St:=List (Nat×Int)
def qc4(S:St)(cs:Sim):Sim:=S.foldl (fun cs q=>cs.set q.1 q.2) cs
theorem qcy{S T:St}{cs:Sim}:qc4 (S++T) cs=qc4 T (qc4 S cs):=by simp[qc4]
theorem qsA{q:Nat}{v:Int}{cs:Sim}:qc4 [(q,v)] cs=cs.set q v:=rfl
theorem qa2{S:St}:∀ {cs:Sim},(qc4 S cs).length=cs.length:=by
 induction S with
 | nil=>intro cs;rfl
 | cons q S ih=>intro cs;show(qc4 S (cs.set q.1 q.2)).length=_;rw[ih,List.length_set]
theorem qgF{p:Int}{S:St}:∀ {cs:Sim},qaD cs p→(∀ q∈S,0≤q.2∧q.2≤p-1)→qaD (qc4 S cs) p:=by
 induction S with
 | nil=>intro cs h _;exact h
 | cons q S ih =>
  intro cs h hS
  refine ih (cs:=cs.set q.1 q.2) (fun x hx=>?_) fun y hy=>hS y (List.mem_cons_of_mem _ hy)
  rcases List.mem_or_eq_of_mem_set hx with hx | rfl
  ·exact h x hx
  ·exact hS q List.mem_cons_self
theorem qin{S:St}{q:Nat}:∀ {cs:Sim},(∀ x∈S,x.1≠q)→(qc4 S cs).getD q 0=cs.getD q 0:=by
 induction S with
 | nil=>intro cs _;rfl
 | cons y S ih =>
  intro cs h
  have e:=ih (cs:=cs.set y.1 y.2) fun x hx=>h x (List.mem_cons_of_mem _ hx)
  show(qc4 S (cs.set y.1 y.2)).getD q 0=_
  rw[e,List.getD_eq_getElem?_getD,List.getD_eq_getElem?_getD,List.getElem?_set_ne (h y List.mem_cons_self)]
theorem qnl{S:St}{q:Nat}{v:Int}:∀ {cs:Sim},q<cs.length→(∀ x∈S,x.1=q→x.2=v)→(∃ x∈S,x.1=q)→(qc4 S cs).getD q 0=v:=by
 induction S with
 | nil=>intro cs _ _ ⟨x,hx,_⟩;simp at hx
 | cons y S ih =>
  intro cs hq hall ⟨x,hx,e⟩
  show(qc4 S (cs.set y.1 y.2)).getD q 0=_
  by_cases hS:∃ x∈S,x.1=q
  ·exact ih (by rw[List.length_set];exact hq) (fun x hx=>hall x (List.mem_cons_of_mem _ hx)) hS
  ·rw[qin fun x hx e=>hS ⟨x,hx,e⟩]
   rcases List.mem_cons.1 hx with rfl | hx
   ·subst e
    rw[List.getD_eq_getElem?_getD,List.getElem?_set_self hq]
    exact hall x List.mem_cons_self rfl
   ·exact absurd ⟨x,hx,e⟩ hS
def sgn(p:Int)(a:Nat):Int:=if a%2=0 then 1 else p-1
theorem qq3{p:Int}(hp:2≤p∧p≤251)(a:Nat):0≤sgn p a∧sgn p a≤p-1:=by
 unfold sgn;split<;>omega
def stJ(p:Int)(m:Mat)(W top left:Nat)(sg:Int)(i n:Nat):St:=(List.range n).map fun j=>((top+i)*W+left+j,m.2.2.2.1.getD (i*m.2.2.1.toNat+j) 0*sg%p)
def stI(p:Int)(m:Mat)(W top left:Nat)(sg:Int)(n:Nat):St:=(List.range n).flatMap fun i=>stJ p m W top left sg i m.2.2.1.toNat
noncomputable def stF(c:List Sim)(p:Int)(st:Sim)(ms:List Mat)(k:Int)(s n:Nat):St :=
 (List.range n).flatMap fun a=>stI p (mp c ms s a) (SD c st k).toNat (FC c st s).toNat (FC c st (fc c s a)).toNat (sgn p a) (mp c ms s a).2.1.toNat
noncomputable def stS(c:List Sim)(p:Int)(st:Sim)(ms:List Mat)(k:Int)(n:Nat):St :=
 ((qav c (k+1) c.length).take n).flatMap fun s=>stF c p st ms k s.toNat (qaH c s.toNat).length
open Classical in
noncomputable def qdO(c:List Sim)(p:Int)(st:Sim)(ms:List Mat)(k:Int):Sim :=
 if k<0 then List.replicate ((SD c st (k+1)).toNat*(SD c st k).toNat) 0 else qc4 (stS c p st ms k (qav c (k+1) c.length).length) (List.replicate ((SD c st (k+1)).toNat*(SD c st k).toNat) 0)
noncomputable def qqM(c:List Sim)(p:Int)(st:Sim)(ms:List Mat)(k:Int):Mat:=(p,SD c st (k+1),SD c st k,qdO c p st ms k,())
theorem qpJ{p:Int}{m:Mat}{W top left:Nat}{sg:Int}{i n:Nat}{q:Nat×Int}:q∈stJ p m W top left sg i n↔∃ j,j<n∧q=((top+i)*W+left+j,m.2.2.2.1.getD (i*m.2.2.1.toNat+j) 0*sg%p):=by
 unfold stJ
 rw[List.mem_map]
 constructor
 ·rintro⟨j,hj,rfl⟩;exact⟨j,List.mem_range.1 hj,rfl⟩
 ·rintro⟨j,hj,rfl⟩;exact⟨j,List.mem_range.2 hj,rfl⟩
theorem qkJ{c:List Sim}{p:Int}{st:Sim}{ms:List Mat}{k:Int}{s n:Nat}{q:Nat×Int}:q∈stF c p st ms k s n↔∃ a i j,a<n∧i<(mp c ms s a).2.1.toNat∧j<(mp c ms s a).2.2.1.toNat ∧
  q=(((FC c st s).toNat+i)*(SD c st k).toNat+(FC c st (fc c s a)).toNat+j,(mp c ms s a).2.2.2.1.getD (i*(mp c ms s a).2.2.1.toNat+j) 0*sgn p a%p):=by
 unfold stF stI
 rw[List.mem_flatMap]
 constructor
 ·rintro⟨a,ha,h⟩
  obtain⟨i,hi,h⟩:=List.mem_flatMap.1 h
  obtain⟨j,hj,e⟩:=qpJ.1 h
  exact⟨a,i,j,List.mem_range.1 ha,List.mem_range.1 hi,hj,e⟩
 ·rintro⟨a,i,j,ha,hi,hj,e⟩
  exact⟨a,List.mem_range.2 ha,List.mem_flatMap.2 ⟨i,List.mem_range.2 hi,qpJ.2 ⟨j,hj,e⟩⟩⟩
theorem qkl{c:List Sim}{p:Int}{st:Sim}{ms:List Mat}{k:Int}{n:Nat}{q:Nat×Int}(hn:(qav c (k+1) c.length).length≤n):q∈stS c p st ms k n↔∃ s:Nat,s<c.length∧((c.getD s []).length:Int)=k+2∧q∈stF c p st ms k s (qaH c s).length:=by
 unfold stS
 rw[List.take_of_length_le hn,List.mem_flatMap]
 constructor
 ·rintro⟨x,hx,h⟩
  obtain⟨s,rfl,h1,h2⟩:=qd3.1 hx
  exact⟨s,h1,by omega,h⟩
 ·rintro⟨s,h1,h2,h⟩
  exact⟨(s:Int),qd3.2 ⟨s,rfl,h1,by omega⟩,h⟩
theorem qbQ{c:List Sim}{p:Int}{st:Sim}{ms:List Mat}(h:VS c p st ms){k:Int}{s a:Nat}(hs:s<c.length)(hd:((c.getD s []).length:Int)=k+2)(ha:a<(qaH c s).length) :
  (mp c ms s a).2.1=st.getD s 0∧(mp c ms s a).2.2.1=st.getD (fc c s a) 0∧fc c s a<c.length∧((c.getD (fc c s a) []).length:Int)=k+1 ∧
  (0≤FC c st s∧FC c st s+st.getD s 0≤SD c st (k+1))∧0≤FC c st (fc c s a)∧FC c st (fc c s a)+st.getD (fc c s a) 0≤SD c st k:=by
 obtain⟨_,hb⟩:=h.map hs ha
 obtain⟨_,hf,hg⟩:=qaW h.1 hs ha
 have hl:=qaz (c:=c) (k:=s)
 have hfl:((c.getD (fc c s a) []).length:Int)=k+1:=by
  rw[hg,List.length_eraseIdx]
  split at hl
  ·rw[if_pos (by omega)];omega
  ·omega
 have b1:=qeb h.2.2.1.2.1 hs
 have b2:=qeb h.2.2.1.2.1 hf
 rw[show((c.getD s []).length:Int)-1=k+1 by omega] at b1
 rw[show((c.getD (fc c s a) []).length:Int)-1=k by omega] at b2
 exact⟨hb.2.2.1,hb.2.2.2,hf,hfl,b1,b2⟩
theorem qk6{c:List Sim}(hv:VC c)(st:Sim){d:Int}(hd:d<0∨4≤d):SD c st d=0:=by
 have:qav c d c.length=[]:=List.eq_nil_iff_forall_not_mem.2 fun x hx=>by
  obtain⟨i,_,hi,hl⟩:=qd3.1 hx
  have:=hv.2.1 i hi
  have h1:=this.1
  have h2:=this.2.1
  omega
 rw[qn9,SDn,this];rfl
theorem qb3{c:List Sim}{p:Int}{st:Sim}{ms:List Mat}(h:VS c p st ms)(d:Int):∃ n:Nat,SD c st d=(n:Int)∧n≤32∧(SD c st d).toNat=n:=by
 by_cases hd:d<0∨4≤d
 ·exact⟨0,qk6 h.1 st hd,by omega,by rw[qk6 h.1 st hd];rfl⟩
 ·have:=qqC h d.toNat (by omega)
  rw[Int.toNat_of_nonneg (by omega)] at this
  exact⟨(SD c st d).toNat,by omega,by omega,rfl⟩
theorem qbP{c:List Sim}{p:Int}{st:Sim}{ms:List Mat}{k:Int}:(qdO c p st ms k).length=(SD c st (k+1)).toNat*(SD c st k).toNat:=by
 unfold qdO;split
 ·rw[List.length_replicate]
 ·rw[qa2,List.length_replicate]
theorem qh2{n:Nat}{p:Int}(hp:2≤p):qaD (List.replicate n 0) p:=fun x hx=>by
 rw[List.mem_replicate] at hx;omega
theorem qbF{c:List Sim}{p:Int}{st:Sim}{ms:List Mat}(h:VS c p st ms)(k:Int):qaD (qdO c p st ms k) p:=by
 have hp:=h.2.1.1
 unfold qdO;split
 ·exact qh2 hp
 ·refine qgF (qh2 hp) fun q hq=>?_
  obtain⟨s,_,_,hq⟩:=(qkl (Nat.le_refl _)).1 hq
  obtain⟨a,i,j,_,_,_,rfl⟩:=qkJ.1 hq
  have h0:=Int.emod_nonneg ((mp c ms s a).2.2.2.1.getD (i*(mp c ms s a).2.2.1.toNat+j) 0*sgn p a) (show p≠0 by omega)
  have h1:=Int.emod_lt_of_pos ((mp c ms s a).2.2.2.1.getD (i*(mp c ms s a).2.2.1.toNat+j) 0*sgn p a) (show 0<p by omega)
  exact⟨h0,by simp only;omega⟩
theorem qpM{c:List Sim}{p:Int}{st:Sim}{ms:List Mat}(h:VS c p st ms)(k:Int):VM (qqM c p st ms k):=by
 obtain⟨H,eH,bH,tH⟩:=qb3 h (k+1)
 obtain⟨W,eW,bW,tW⟩:=qb3 h k
 refine⟨h.2.1,by show 0≤SD c st (k+1)∧SD c st (k+1)≤32;omega,by show 0≤SD c st k∧SD c st k≤32;omega,?_,qbF h k⟩
 show((qdO c p st ms k).length:Int)=SD c st (k+1)*SD c st k
 rw[qbP,tH,tW,eH,eW,qaY]
def qhK(m:Mat)(v:Sim)(n:Nat):Sim:=(List.range n).map fun i=>qaI (fun l=>m.2.2.2.1.getD (i*m.2.2.1.toNat+l) 0) (fun l=>v.getD l 0) m.2.2.1.toNat%m.1
theorem qa9{m:Mat}{v:Sim}{n:Nat}:(qhK m v n).length=n:=by simp[qhK]
theorem qow{m:Mat}{v:Sim}{n:Nat}(hp:2≤m.1):qaD (qhK m v n) m.1:=fun x hx=>by
 unfold qhK at hx
 obtain⟨i,_,rfl⟩:=List.mem_map.1 hx
 have h0:=Int.emod_nonneg (qaI (fun l=>m.2.2.2.1.getD (i*m.2.2.1.toNat+l) 0) (fun l=>v.getD l 0) m.2.2.1.toNat) (show m.1≠0 by omega)
 have h1:=Int.emod_lt_of_pos (qaI (fun l=>m.2.2.2.1.getD (i*m.2.2.1.toNat+l) 0) (fun l=>v.getD l 0) m.2.2.1.toNat) (show 0<m.1 by omega)
 omega
end VeT
open Go Go.Proofs Ve
namespace VeT
theorem qoI(s:Sim)(v:Int)(hs:s.length≤1048576):Ret E n_Z120 [dL s,dI v] ⟨o_Z120,(qjl (fun x=>pb (x=v)) s,())⟩:=by
  obtain⟨o,h1,h2,h3⟩:=qbT 1 (L:=fun φ n k=>Z120.l0 (mkR (run E (φ 0))) (φ 0) n s v (s.length:Int) k) (len:=s.length) (fun k=>∃ h:k<s.length,pb (s[k]=v)=true) (fun o=>some ⟨o_Z120,(o2i o,())⟩) (fun _ _ _ _=>rfl) (fun k hk hP=>by
      obtain⟨_,hP⟩:=hP
      have hP:=qaA.1 hP
      simp only[Z120.l0_succ _ qae]
      exact qax (decide_eq_true (by omega)) (qab (qaj hk) (qax (by simp[hP]) qal))) (fun k q hk hP ih=>by
      simp only[Z120.l0_succ _ qae]
      refine qax (decide_eq_true (by omega)) (qab (qaj hk) (qaC (by simp only[beq_eq_false_iff_ne];exact fun e=>hP ⟨hk,qaF e.symm⟩) ?_))
      rw[qad (by omega)];exact ih) (by
      simp only[Z120.l0_succ _ qae]
      exact qaC (decide_eq_false (by omega)) qal)
  rw[qdd (p:=fun x=>pb (x=v)) h1 h2] at h3
  refine qai ?_
  simp only[run_Z120,Z120.ev]
  exact Ev.start (p:=fun φ n=>Z120.l0 (mkR (run E (φ 0))) (φ 0) n s v (s.length:Int) 0=_) 1 h3 (fun _ _ _ h=>h)
theorem qeR(s:Sim)(v:Int)(hs:s.length≤1048576):Ret E n_Z107 [dL s,dI v] ⟨o_Z107,(pb (v∈s),())⟩:=by
 refine qai ?_
 simp only[run_Z107,Z107.ev]
 refine qaa (qoI s v hs) (qah ?_)
 have:decide (qjl (fun x=>pb (x=v)) s≥0)=pb (v∈s):=qfE (by
  rw[decide_eq_true_iff,ge_iff_le,qbN]
  exact⟨fun⟨x,h,e⟩=>qaA.1 e ▸ h,fun h=>⟨v,h,qaF rfl⟩⟩)
 simp only[this]
theorem qnY(s:Sim)(v:Int)(hs:s.length≤1048576):Ret E n_Z129 [dL s,dI v] ⟨o_Z129,(pb (v∈s),())⟩:=by
  obtain⟨o,h1,h2,h3⟩:=qbT 1 (L:=fun φ n k=>Z129.l0 (mkR (run E (φ 0))) (φ 0) n s v k) (len:=s.length) (fun k=>∃ h:k<s.length,s[k]=v) (fun o=>some ⟨o_Z129,(o.isSome,())⟩) (fun _ _ _ _=>rfl) (fun k hk hP=>by
      obtain⟨_,hP⟩:=hP
      simp only[Z129.l0_succ _ qae]
      exact qax (decide_eq_true (by omega)) (qab (qaj hk) (qax (by simp[hP]) qal))) (fun k q hk hP ih=>by
      simp only[Z129.l0_succ _ qae]
      refine qax (decide_eq_true (by omega)) (qab (qaj hk) (qaC (by simp only[beq_eq_false_iff_ne];exact fun e=>hP ⟨hk,e⟩) ?_))
      rw[qad (by omega)];exact ih) (by
      simp only[Z129.l0_succ _ qae]
      exact qaC (decide_eq_false (by omega)) qal)
  have:o.isSome=pb (v∈s):=qfE (by
    cases o with
    | none =>
      simp only[Option.isSome_none,Bool.false_eq_true,false_iff]
      intro hm
      obtain⟨j,hj,e⟩:=List.mem_iff_getElem.1 hm
      exact h2 rfl j hj ⟨hj,e⟩
    | some k =>
      obtain⟨_,⟨hk,e⟩,_⟩:=h1 k rfl
      simp only[Option.isSome_some,true_iff]
      exact e ▸ List.getElem_mem hk)
  rw[this] at h3
  refine qai ?_
  simp only[run_Z129,Z129.ev]
  exact Ev.start (p:=fun φ n=>Z129.l0 (mkR (run E (φ 0))) (φ 0) n s v 0=_) 1 h3 (fun _ _ _ h=>h)
def qfq(a b:Sim):Prop:=∀ x∈a,x∈b
theorem qlq(x:Int)(b:Sim)(hb:b.length≤1048576):Ret E n_Z54 [dI x,⟨.ptr (.cons (.sl (.int .i64)) .nil),(b,())⟩] ⟨o_Z54,(!pb (x∈b),())⟩:=by
 refine qai ?_
 simp only[run_Z54,Z54.ev]
 exact qaa (qeR b x hb) qal
theorem qjG(a b:Sim)(ha:a.length≤1048576)(hb:b.length≤1048576):Ret E n_Z53 [dL a,dL b] ⟨o_Z53,(pb (qfq a b),())⟩:=by
 refine qai ?_
 simp only[run_Z53,Z53.ev]
 refine qaa (qbx a ((b,()),()) _ ha fun x _=>qlq x b hb) (qah ?_)
 simp only[qhO];rfl
end VeT
open Go Go.Proofs Ve
namespace VeT
theorem qoz(i j:Nat):Ret E n_Z87 [dI (i:Int),dI (j:Int)] ⟨o_Z87,((0:Int),())⟩:=by
 refine qai ?_
 simp only[run_Z87,Z87.ev]
 (first | exact qal | exact Ev.of fun _=>trivial)
theorem qgG{C:Nat}:∀ {n:Nat},qas (fun _ _=>0) C n=List.replicate (n*C) 0
 | 0=>by simp[qas]
 | n+1=>by
  rw[qas,qgG,Nat.add_mul,Nat.one_mul,← List.replicate_append_replicate]
  congr 1
  rw[List.map_const',List.length_range]
theorem qqx(p:Int)(R C:Nat)(hR:R≤32)(hC:C≤32):Ret E n_Z86 [dI p,dI (R:Int),dI (C:Int)] ⟨o_Z86,(p,(R:Int),(C:Int),List.replicate (R*C) 0,())⟩:=by
 have h1:=qcs hR hC
 refine qai ?_
 simp only[run_Z86,Z86.ev]
 rw[← qgG]
 exact qaa (qey p R C (fun _ _=>0) (by omega) (by omega) (by omega) fun i j _ _=>qoz i j) qal
theorem qc5(c:List Sim)(p:Int)(st:Sim)(ms:List Mat)(s:Nat)(hs:s<c.length)(hc:Sm (.sl (.sl (.int .i64))) c)(hl:st.length=c.length)(hst:∀ x∈st,0≤x∧x≤3) :
  Ret E n_Z46 [dLL c,dI p,dL st,dMs ms,dI (s:Int)] ⟨o_Z46,(FC c st s,())⟩:=by
 have hc1:c.length≤1048576:=hc.1
 have hls:(c[s]).length≤1048576:=(qbo hc hs).1
 have e:w64 (((c[s]).length:Int)-1)=((c[s]).length:Int)-1:=qag (by omega) (by omega)
 obtain⟨tl,hpre⟩:=qlA (c:=c) (d:=((c[s]).length:Int)-1) hs (by rw[qac hs];omega)
 have hF:FC c st s=SDn c st (((c[s]).length:Int)-1) s:=by rw[FC,qac hs]
 refine qai ?_
 simp only[run_Z46,Z46.ev]
 refine qab (qaj hs) (qaa (qeM _) ?_)
 simp only[e]
 refine qaa (qdj c (((c[s]).length:Int)-1) hc ⟨by omega,by omega⟩) ?_
 rw[hF]
 generalize ((c[s]).length:Int)-1=d at hpre ⊢
 have hol:=qbu c d c.length
 have hlen:(qav c d s).length<(qav c d c.length).length:=by rw[hpre];simp
 refine Ev.start (p:=fun φ n=>Z46.l0 (mkR (run E (φ 0))) (φ 0) n (s:Int) 0 (qav c d c.length) ((qav c d c.length).length:Int) 0 c p st ms=_) 1 ?_ (fun _ _ _ h=>h)
 refine qfd 1 (σ:=Nat) (L:=fun φ n t=>Z46.l0 (mkR (run E (φ 0))) (φ 0) n (s:Int) (qf3 c st d t) (qav c d c.length) ((qav c d c.length).length:Int) (t:Int) c p st ms) (fun _ _ _ _=>rfl) (fun t=>t≤(qav c d s).length) (fun _=>_) (fun t=>(qav c d s).length-t) (fun t ht ih=>?_) 0 (Nat.zero_le _)
 have ht:t≤(qav c d s).length:=ht
 have htl:t<(qav c d c.length).length:=by omega
 simp only[Z46.l0_succ _ qae]
 refine qax (decide_eq_true (by omega)) ?_
 by_cases h:t=(qav c d s).length
 ·have hg:(qav c d c.length)[t]? = some (s:Int):=by rw[hpre,h,List.getElem?_append_right (Nat.le_refl _),Nat.sub_self];rfl
  refine qab (qaV.trans hg) (qax (by simp) (qah ?_))
  have:qf3 c st d t=SDn c st d s:=by
   unfold qf3 SDn
   rw[hpre,h,List.take_left' rfl]
  rw[this]
 ·have hp:t<(qav c d s).length:=by omega
  obtain⟨i,hi,his⟩:=qeF (List.getElem_mem hp)
  have hg:(qav c d c.length)[t]? = some (i:Int):=by rw[hpre,List.getElem?_append_left hp,List.getElem?_eq_getElem hp,hi]
  have hgi:(qav c d c.length)[t]=(i:Int):=by rw[List.getElem?_eq_getElem htl] at hg;exact Option.some.inj hg
  have hil:i<st.length:=by omega
  have:=ih (t+1) (by show t+1≤_;omega) (by show(qav c d s).length-(t+1)<(qav c d s).length-t;omega)
  rw[qeQ _ _ _ _ htl,hgi,Int.toNat_natCast,qac hil] at this
  have hb:=qhZ hst d t (c:=c)
  have hb2:=hst _ (List.getElem_mem hil)
  refine qab (qaV.trans hg) (qaC (by simp;omega) (qab (qaj hil) ?_))
  rw[qad (by omega),qag (by omega) (by omega)]
  exact this
theorem qlS(x:Shf)(s:Nat)(hs:s<x.1.length)(hc:Sm (.sl (.sl (.int .i64))) x.1)(hl:x.2.2.1.length=x.1.length)(hst:∀ y∈x.2.2.1,0≤y∧y≤3) :
  Ret E n_Z202 [dS x,dI (s:Int)] ⟨o_Z202,(FC x.1 x.2.2.1 s,())⟩:=by
 have hc1:x.1.length≤1048576:=hc.1
 refine qai ?_
 simp only[run_Z202,Z202.ev]
 refine Ev.start (p:=fun φ n=>Z202.l0 (mkR (run E (φ 0))) (φ 0) n x (s:Int) 0 0=_) 1 ?_ (fun _ _ _ h=>h)
 refine qam 1 (L:=fun φ n k a=>Z202.l0 (mkR (run E (φ 0))) (φ 0) n x (s:Int) a k) (len:=s) (fun k=>SDn x.1 x.2.2.1 (((x.1.getD s []).length:Int)-1) k) (fun _ _ _ _ _=>rfl) (fun k r hk ih=>?_) ?_
 ·have hkc:k<x.1.length:=by omega
  have hks:k<x.2.2.1.length:=by omega
  simp only[Z202.l0_succ _ qae]
  have hb:=qgg (c:=x.1) (d:=((x.1.getD s []).length:Int)-1) hst (n:=k)
  have hb2:=hst _ (List.getElem_mem hks)
  rw[qel,qac hkc,qac hks,qac hs] at ih
  rw[qac hs] at hb
  rw[qad (by omega)]
  refine qax (decide_eq_true (by omega)) (qab (qaj hkc) (qab (qaj hs) (qbB (fun he=>qab (qaj hks) ?_) fun he=>?_)))
  ·have he:((x.1[k]).length:Int)=((x.1[s]).length:Int):=by simpa using he
   rw[if_pos (by omega)] at ih
   rw[qac hs,qag (by omega) (by omega)];exact ih
  ·have he:¬ ((x.1[k]).length:Int)=((x.1[s]).length:Int):=by simpa using he
   rw[if_neg (by omega),Int.add_zero] at ih
   rw[qac hs];exact ih
 ·simp only[Z202.l0_succ _ qae]
  exact qaC (decide_eq_false (by omega)) qal
def qft(c:List Sim)(st:Sim)(v:Sim)(s:Nat):Sim:=(v.take (FC c st s+st.getD s 0).toNat).drop (FC c st s).toNat
theorem qqf(c:List Sim)(p:Int)(st:Sim)(ms:List Mat)(v:Sim)(s:Nat)(hs:s<c.length)(hc:Sm (.sl (.sl (.int .i64))) c)(hl:st.length=c.length)(hst:∀ x∈st,0≤x∧x≤3)(hv:FC c st s+st.getD s 0≤v.length)(hv1:v.length≤1048576) :
  Ret E n_Z65 [dLL c,dI p,dL st,dMs ms,dL v,dI (s:Int)] ⟨o_Z65,(qft c st v s,())⟩:=by
 have hsl:s<st.length:=by omega
 have hb:0≤FC c st s:=(qgg hst).1
 have hb2:=qcC hst s
 have e:w64 (FC c st s+st.getD s 0)=FC c st s+st.getD s 0:=qag (by omega) (by omega)
 rw[qac hsl] at e hv hb2
 have hq:FC c st s≤FC c st s+st[s]:=by omega
 refine qai ?_
 simp only[run_Z65,Z65.ev]
 refine qaa (qc5 c p st ms s hs hc hl hst) (qab (qaj hsl) ?_)
 simp only[e]
 refine qao (by simp only[Bool.and_eq_true,decide_eq_true_eq];exact⟨⟨hb,hq⟩,hv⟩) (qaa (qjb _ (by rw[List.length_drop,List.length_take];omega)) (qah ?_))
 rw[qft,qac hsl]
theorem qjf(p:Int)(i:Nat)(hp:2≤p∧p≤251):Ret E n_Z22 [dI (i:Int),dI p] ⟨o_Z22,(sgn p i,())⟩:=by
 refine qai ?_
 simp only[run_Z22,Z22.ev]
 rw[Int.tmod_eq_emod_of_nonneg (by omega),qag (by omega) (by omega)]
 refine qbB (fun h=>qah ?_) fun h=>qah ?_
 ·have h:(i:Int)%2=0:=by simpa using h
  rw[sgn,if_pos (by omega)]
 ·have h:¬ (i:Int)%2=0:=by simpa using h
  rw[sgn,if_neg (by omega)]
theorem qmD(p:Int)(i:Nat)(hp:2≤p∧p≤251):Ret E n_Z174 [dI (i:Int),dI p] ⟨o_Z174,(sgn p i,())⟩:=by
 refine qai ?_
 simp only[run_Z174,Z174.ev]
 rw[Int.tmod_eq_emod_of_nonneg (by omega),qag (by omega) (by omega)]
 refine qbB (fun h=>qao (by simp;omega) (qah ?_)) fun h=>qah ?_
 ·have h:(i:Int)%2=0:=by simpa using h
  rw[sgn,if_pos (by omega),Int.tmod_eq_emod_of_nonneg (by omega),Int.emod_eq_of_lt (by omega) (by omega)]
 ·have h:¬ (i:Int)%2=0:=by simpa using h
  rw[sgn,if_neg (by omega)]
theorem qne{p:Int}{m:Mat}{W top left:Nat}{sg:Int}{i n:Nat}{cs:Sim}:qc4 (stJ p m W top left sg i (n+1)) cs=(qc4 (stJ p m W top left sg i n) cs).set ((top+i)*W+left+n) (m.2.2.2.1.getD (i*m.2.2.1.toNat+n) 0*sg%p):=by
 unfold stJ
 rw[List.range_succ,List.map_append,qcy];rfl
theorem qnD{p:Int}{m:Mat}{W top left:Nat}{sg:Int}{n:Nat}{cs:Sim}:qc4 (stI p m W top left sg (n+1)) cs=qc4 (stJ p m W top left sg n m.2.2.1.toNat) (qc4 (stI p m W top left sg n) cs):=by
 unfold stI
 rw[List.range_succ,List.flatMap_append,qcy,List.flatMap_singleton]
theorem qng{c:List Sim}{p:Int}{st:Sim}{ms:List Mat}{k:Int}{s n:Nat}{cs:Sim}:qc4 (stF c p st ms k s (n+1)) cs=qc4 (stI p (mp c ms s n) (SD c st k).toNat (FC c st s).toNat (FC c st (fc c s n)).toNat (sgn p n) (mp c ms s n).2.1.toNat) (qc4 (stF c p st ms k s n) cs):=by
 unfold stF
 rw[List.range_succ,List.flatMap_append,qcy,List.flatMap_singleton]
theorem qnp{c:List Sim}{p:Int}{st:Sim}{ms:List Mat}{k:Int}{n:Nat}{cs:Sim}(hn:n<(qav c (k+1) c.length).length){s:Nat}(hs:(qav c (k+1) c.length)[n]=(s:Int)):qc4 (stS c p st ms k (n+1)) cs=qc4 (stF c p st ms k s (qaH c s).length) (qc4 (stS c p st ms k n) cs):=by
 unfold stS
 rw[List.take_succ_eq_append_getElem hn,List.flatMap_append,qcy,List.flatMap_singleton,hs,Int.toNat_natCast]
end VeT
open Go Go.Proofs Ve
namespace VeT
structure CobF (c:List Sim) (p:Int) (st:Sim) (ms:List Mat) (k:Int) (s a T L R C H W:Nat):Prop where
 sl:s<c.length
 al:a<(qaH c s).length
 eT:FC c st s=(T:Int)
 eL:FC c st (fc c s a)=(L:Int)
 eR:(mp c ms s a).2.1=(R:Int)
 eC:(mp c ms s a).2.2.1=(C:Int)
 eW:SD c st k=(W:Int)
 hT:T+R≤H
 hL:L+C≤W
 hH:H≤32
 hW:W≤32
 len:(mp c ms s a).2.2.2.1.length=R*C
 el:qaD (mp c ms s a).2.2.2.1 p
 hp:2≤p∧p≤251
 hR:R≤32
 hC:C≤32
 h4:a≤4
theorem qpx{c:List Sim}{p:Int}{st:Sim}{ms:List Mat}(h:VS c p st ms){k:Int}{s a H W:Nat}(hs:s<c.length)(hd:((c.getD s []).length:Int)=k+2)(ha:a<(qaH c s).length)(eH:SD c st (k+1)=(H:Int))(eW:SD c st k=(W:Int))(hH:H≤32)(hW:W≤32) :
  ∃ T L R C:Nat,CobF c p st ms k s a T L R C H W:=by
 obtain⟨g1,g2,g3,g4,g5,g6,g7⟩:=qbQ h hs hd ha
 obtain⟨_,hb⟩:=h.map hs ha
 obtain⟨R,C,em,hR,hC,hlen⟩:=hb.1.nat
 have e1:(mp c ms s a).2.1=(R:Int):=congrArg (fun m:Mat=>m.2.1) em
 have e2:(mp c ms s a).2.2.1=(C:Int):=congrArg (fun m:Mat=>m.2.2.1) em
 have hp:2≤p∧p≤251:=⟨h.2.1.1,h.2.1.2.1⟩
 have el:=hb.1.2.2.2.2
 rw[hb.2.1] at el
 have h4:=h.1.fIdx4 hs
 exact⟨(FC c st s).toNat,(FC c st (fc c s a)).toNat,R,C,hs,ha,by omega,by omega,e1,e2,eW,by omega,by omega,hH,hW,hlen,el,hp,hR,hC,by omega⟩
theorem qrj{T L i j W H:Nat}(h1:T+i<H)(h2:L+j<W)(hH:H≤32)(hW:W≤32):w64 (w64 (w64 (w64 ((T:Int)+(i:Int))*(W:Int))+(L:Int))+(j:Int))=(((T+i)*W+L+j:Nat):Int)∧(T+i)*W+L+j<H*W:=by
 have hlt:=qeY h1 h2
 have:=qcs hH hW
 have e1:w64 ((T:Int)+(i:Int))=((T+i:Nat):Int):=by rw[qag (by omega) (by omega)];omega
 have e2:w64 (((T+i:Nat):Int)*(W:Int))=(((T+i)*W:Nat):Int):=by rw[qaY];exact qag (by omega) (by omega)
 have e3:w64 ((((T+i)*W:Nat):Int)+(L:Int))=(((T+i)*W+L:Nat):Int):=by rw[qag (by omega) (by omega)];omega
 have e4:w64 ((((T+i)*W+L:Nat):Int)+(j:Int))=(((T+i)*W+L+j:Nat):Int):=by rw[qag (by omega) (by omega)];omega
 rw[e1,e2,e3,e4]
 exact⟨rfl,by omega⟩
theorem qnv{x y p:Int}(hx:0≤x∧x≤250)(hy:0≤y∧y≤250)(hp:2≤p∧p≤251):Int.tmod (w64 (x*y)) p=x*y%p:=by
 have:=qeq hx hy
 rw[qag (by omega) (by omega),Int.tmod_eq_emod_of_nonneg (by omega)]
theorem qcP(c:List Sim)(p:Int)(st:Sim)(ms:List Mat)(k:Int)(hk:-1≤k∧k≤3)(hc:Sm (.sl (.sl (.int .i64))) c)(h:VS c p st ms) :
    Ret E n_Z30 [dLL c,dI p,dL st,dMs ms,dI k] ⟨o_Z30,qqM c p st ms k⟩:=by
  obtain⟨H,eH,bH,tH⟩:=qb3 h (k+1)
  obtain⟨W,eW,bW,tW⟩:=qb3 h k
  have hst:=h.2.2.1.2.1
  have hl:=h.2.2.1.1
  have h48:=h.1.1
  have ek:w64 (k+1)=k+1:=qag (by omega) (by omega)
  have hHW:=qcs bH bW
  have s1:=qcO c st (k+1) p ms hc hl hst (by omega)
  have s2:=qcO c st k p ms hc hl hst (by omega)
  rw[show qf3 c st (k+1) (qav c (k+1) c.length).length=(H:Int) from eH] at s1
  rw[show qf3 c st k (qav c k c.length).length=(W:Int) from eW] at s2
  have z:=qqx p H W bH bW
  have hM:qqM c p st ms k=(p,(H:Int),(W:Int),qdO c p st ms k,()):=by rw[qqM,eH,eW]
  rw[hM]
  refine qai ?_
  simp only[run_Z30,Z30.ev,ek]
  suffices hmain:Ev fun φ=>Z30.j0 (mkR (run E (φ 0))) (φ 0) k c p st ms 0 0 0 p (H:Int) (W:Int) (List.replicate (H*W) 0)=some ⟨o_Z30,(p,(H:Int),(W:Int),qdO c p st ms k,())⟩ by
    exact qbL (qaa s1 (qbL (qaa s2 (qbL (qaa z hmain) (qaa z hmain))) (qaa s2 (qaa z hmain)))) (qaa s1 (qaa s2 (qaa z hmain)))
  simp only[Z30.j0_eq _ qae,ek]
  refine qaa (qdj c (k+1) hc (by omega)) ?_
  have hol:=qbu c (k+1) c.length
  by_cases hk0:k<0
  · have e0:qdO c p st ms k=List.replicate (H*W) 0:=by rw[qdO,if_pos hk0,tH,tW]
    rw[e0]
    refine Ev.start (p:=fun φ n=>Z30.l1 (mkR (run E (φ 0))) (φ 0) n k (qav c (k+1) c.length) ((qav c (k+1) c.length).length:Int) 0 c p st ms 0 0 0 p (H:Int) (W:Int) (List.replicate (H*W) 0)=_) 1 ?_ (fun _ _ _ h=>h)
    refine Ev.round 1 (L:=fun φ n=>Z30.l1 (mkR (run E (φ 0))) (φ 0) n k (qav c (k+1) c.length) ((qav c (k+1) c.length).length:Int) 0 c p st ms 0 0 0 p (H:Int) (W:Int) (List.replicate (H*W) 0)) ?_ (fun _ _ _=>rfl)
    simp only[Z30.l1_succ _ qae,Z30.j2_eq _ qae]
    refine qdG (fun hlt=>?_) fun _=>qal
    have hlt:0<(qav c (k+1) c.length).length:=by omega
    exact qab (qaj (k:=0) hlt) (qax (decide_eq_true hk0) qal)
  have e0:qdO c p st ms k=qc4 (stS c p st ms k (qav c (k+1) c.length).length) (List.replicate (H*W) 0):=by rw[qdO,if_neg hk0,tH,tW]
  rw[e0]
  -- one row of a face' stores
  have r5:∀(s a T L R C i:Nat) (F:CobF c p st ms k s a T L R C H W) (t:Nat) (ls:Sim) (n1:Int) (fs:Sim) (n2:Int) (cs:Sim) (hcs:cs.length=H*W) (hi:i<R) (r:Option Dv),
      (Ev fun φ=>Z30.l4 (mkR (run E (φ 0))) (φ 0) (φ 1) (φ 2) (φ 3) k (s:Int) (a:Int) (T:Int) (L:Int) ls n1 (t:Int) fs n2 (a:Int) (R:Int) ((i+1:Nat):Int) c p st ms 0 0 0 p (H:Int) (W:Int) (mp c ms s a).1 (R:Int) (C:Int) (mp c ms s a).2.2.2.1 (qc4 (stJ p (mp c ms s a) W T L (sgn p a) i C) cs)=r) →
      Ev fun φ=>Z30.l5 (mkR (run E (φ 0))) (φ 0) (φ 1) (φ 2) (φ 3) (φ 0) k (s:Int) (a:Int) (T:Int) (L:Int) (i:Int) ls n1 (t:Int) fs n2 (a:Int) (R:Int) (i:Int) (C:Int) 0 c p st ms 0 0 0 p (H:Int) (W:Int) (mp c ms s a).1 (R:Int) (C:Int) (mp c ms s a).2.2.2.1 cs=r:=by
    intro s a T L R C i F t ls n1 fs n2 cs hcs hi r hr
    refine Ev.start (p:=fun φ n=>Z30.l5 (mkR (run E (φ 0))) (φ 0) (φ 1) (φ 2) (φ 3) n k (s:Int) (a:Int) (T:Int) (L:Int) (i:Int) ls n1 (t:Int) fs n2 (a:Int) (R:Int) (i:Int) (C:Int) 0 c p st ms 0 0 0 p (H:Int) (W:Int) (mp c ms s a).1 (R:Int) (C:Int) (mp c ms s a).2.2.2.1 cs=_) 4 ?_ (fun _ _ _ h=>h)
    refine qam 4 (L:=fun φ n j o=>Z30.l5 (mkR (run E (φ 0))) (φ 0) (φ 1) (φ 2) (φ 3) n k (s:Int) (a:Int) (T:Int) (L:Int) (i:Int) ls n1 (t:Int) fs n2 (a:Int) (R:Int) (i:Int) (C:Int) j c p st ms 0 0 0 p (H:Int) (W:Int) (mp c ms s a).1 (R:Int) (C:Int) (mp c ms s a).2.2.2.1 o) (len:=C) (fun j=>qc4 (stJ p (mp c ms s a) W T L (sgn p a) i j) cs) (fun _ _ _ _ _=>rfl) (fun j q hj ih=>?_) ?_
    · simp only[Z30.l5_succ _ qae]
      have hT:=F.hT
      have hL:=F.hL
      have hp:=F.hp
      obtain⟨ep,hpos⟩:=qrj (T:=T) (L:=L) (i:=i) (j:=j) (W:=W) (H:=H) (by omega) (by omega) bH bW
      have hij:i*C+j<(mp c ms s a).2.2.2.1.length:=by rw[F.len];exact qeY hi hj
      have hRC:=qcs F.hR F.hC
      have hx:=F.el.get hp (i*C+j)
      have hy:=qq3 hp a
      rw[qne,F.eC,Int.toNat_natCast,qac hij] at ih
      rw[qac hij] at hx
      have hol':(qc4 (stJ p (mp c ms s a) W T L (sgn p a) i j) cs).length=H*W:=by rw[qa2,hcs]
      have ev:=qnv hx (show 0≤sgn p a∧sgn p a≤250 by omega) hp
      refine qax (decide_eq_true (by omega)) (qaa (qjZ _ _ C _ i j hij (by rw[F.len];omega)) (qaa (qjf p a hp) (qao (by simp;omega) ?_)))
      simp only[ep,ev,hol',Int.toNat_natCast]
      refine qao (by simp only[Bool.and_eq_true,decide_eq_true_eq];omega) ?_
      rw[qad (by omega)]
      exact ih
    · simp only[Z30.l5_succ _ qae]
      have:=F.hR
      refine qaC (decide_eq_false (by omega)) ?_
      rw[qad (by omega)]
      exact hr
  -- a face' stores
  have r4:∀(s a T L R C:Nat) (F:CobF c p st ms k s a T L R C H W) (t:Nat) (ls:Sim) (n1:Int) (fs:Sim) (n2:Int) (cs:Sim) (hcs:cs.length=H*W) (r:Option Dv),
      (Ev fun φ=>Z30.l3 (mkR (run E (φ 0))) (φ 0) (φ 1) (φ 2) k (s:Int) ls n1 (t:Int) fs n2 ((a+1:Nat):Int) c p st ms 0 0 0 p (H:Int) (W:Int) (qc4 (stI p (mp c ms s a) W T L (sgn p a) R) cs)=r) →
      Ev fun φ=>Z30.l4 (mkR (run E (φ 0))) (φ 0) (φ 1) (φ 2) (φ 0) k (s:Int) (a:Int) (T:Int) (L:Int) ls n1 (t:Int) fs n2 (a:Int) (R:Int) 0 c p st ms 0 0 0 p (H:Int) (W:Int) (mp c ms s a).1 (R:Int) (C:Int) (mp c ms s a).2.2.2.1 cs=r:=by
    intro s a T L R C F t ls n1 fs n2 cs hcs r hr
    refine Ev.start (p:=fun φ n=>Z30.l4 (mkR (run E (φ 0))) (φ 0) (φ 1) (φ 2) n k (s:Int) (a:Int) (T:Int) (L:Int) ls n1 (t:Int) fs n2 (a:Int) (R:Int) 0 c p st ms 0 0 0 p (H:Int) (W:Int) (mp c ms s a).1 (R:Int) (C:Int) (mp c ms s a).2.2.2.1 cs=_) 3 ?_ (fun _ _ _ h=>h)
    refine qam 3 (L:=fun φ n i o=>Z30.l4 (mkR (run E (φ 0))) (φ 0) (φ 1) (φ 2) n k (s:Int) (a:Int) (T:Int) (L:Int) ls n1 (t:Int) fs n2 (a:Int) (R:Int) i c p st ms 0 0 0 p (H:Int) (W:Int) (mp c ms s a).1 (R:Int) (C:Int) (mp c ms s a).2.2.2.1 o) (len:=R) (fun i=>qc4 (stI p (mp c ms s a) W T L (sgn p a) i) cs) (fun _ _ _ _ _=>rfl) (fun i q hi ih=>?_) ?_
    · simp only[Z30.l4_succ _ qae]
      rw[qnD,F.eC,Int.toNat_natCast] at ih
      exact qax (decide_eq_true (by omega)) (r5 s a T L R C i F t ls n1 fs n2 _ (by rw[qa2,hcs]) hi q ih)
    · simp only[Z30.l4_succ _ qae]
      have:=F.h4
      refine qaC (decide_eq_false (by omega)) ?_
      rw[qad (by omega)]
      exact hr
  refine Ev.start (p:=fun φ n=>Z30.l1 (mkR (run E (φ 0))) (φ 0) n k (qav c (k+1) c.length) ((qav c (k+1) c.length).length:Int) 0 c p st ms 0 0 0 p (H:Int) (W:Int) (List.replicate (H*W) 0)=_) 1 ?_ (fun _ _ _ h=>h)
  refine qam 1 (L:=fun φ n t o=>Z30.l1 (mkR (run E (φ 0))) (φ 0) n k (qav c (k+1) c.length) ((qav c (k+1) c.length).length:Int) t c p st ms 0 0 0 p (H:Int) (W:Int) o) (len:=(qav c (k+1) c.length).length) (fun t=>qc4 (stS c p st ms k t) (List.replicate (H*W) 0)) (fun _ _ _ _ _=>rfl) (fun t q ht ih=>?_) ?_
  · simp only[Z30.l1_succ _ qae]
    obtain⟨s,hse,hs,hd⟩:=qd3.1 (List.getElem_mem ht)
    rw[qnp ht hse] at ih
    have hg:(qav c (k+1) c.length)[t]? = some (s:Int):=by rw[List.getElem?_eq_getElem ht,hse]
    have hf4:=h.1.fIdx4 hs
    generalize hO:qc4 (stS c p st ms k t) (List.replicate (H*W) 0)=O at ih ⊢
    have hOl:O.length=H*W:=by rw[← hO,qa2,List.length_replicate]
    refine qax (decide_eq_true (by omega)) (qab (qaV.trans hg) (qaC (decide_eq_false hk0) (qaa (qcl c s hs hc h.1.srt) ?_)))
    refine Ev.start (p:=fun φ n=>Z30.l3 (mkR (run E (φ 0))) (φ 0) (φ 1) n k (s:Int) (qav c (k+1) c.length) ((qav c (k+1) c.length).length:Int) (t:Int) (qaH c s) ((qaH c s).length:Int) 0 c p st ms 0 0 0 p (H:Int) (W:Int) O=_) 2 ?_ (fun _ _ _ h=>h)
    refine qam 2 (L:=fun φ n a o=>Z30.l3 (mkR (run E (φ 0))) (φ 0) (φ 1) n k (s:Int) (qav c (k+1) c.length) ((qav c (k+1) c.length).length:Int) (t:Int) (qaH c s) ((qaH c s).length:Int) a c p st ms 0 0 0 p (H:Int) (W:Int) o) (len:=(qaH c s).length) (fun a=>qc4 (stF c p st ms k s a) O) (fun _ _ _ _ _=>rfl) (fun a q2 ha ih2=>?_) ?_
    · simp only[Z30.l3_succ _ qae]
      obtain⟨T,L,R,C,F⟩:=qpx h hs (by omega) ha eH eW bH bW
      obtain⟨ix,hfc,_⟩:=qaW h.1 hs ha
      have f1:=qc5 c p st ms s hs hc hl hst
      have f2:=qc5 c p st ms (fc c s a) hfc hc hl hst
      rw[F.eT] at f1
      rw[F.eL] at f2
      rw[qng,tW,F.eT,F.eL,F.eR,Int.toNat_natCast,Int.toNat_natCast,Int.toNat_natCast] at ih2
      refine qax (decide_eq_true (by omega)) (qab ix (qaa (qcY c p st ms s a hs ha h) (qaa f1 (qaa f2 ?_))))
      simp only[F.eR,F.eC]
      exact r4 s a T L R C F t _ _ _ _ _ (by rw[qa2,hOl]) q2 ih2
    · simp only[Z30.l3_succ _ qae]
      refine qaC (decide_eq_false (by omega)) ?_
      rw[qad (by omega)]
      exact ih
  · simp only[Z30.l1_succ _ qae,Z30.j2_eq _ qae]
    exact qaC (decide_eq_false (by omega)) qal
end VeT
open Go Go.Proofs Ve
namespace VeT
theorem qeo(x:Shf)(k:Int)(hk:-1≤k∧k≤3)(hc:Sm (.sl (.sl (.int .i64))) x.1)(h:VS x.1 x.2.1 x.2.2.1 x.2.2.2.1) :
    Ret E n_Z206 [dS x,dI k] ⟨o_Z206,qqM x.1 x.2.1 x.2.2.1 x.2.2.2.1 k⟩:=by
  obtain⟨c,p,st,ms,⟨⟩⟩:=x
  have hc:Sm (.sl (.sl (.int .i64))) c:=hc
  have h:VS c p st ms:=h
  show Ret E n_Z206 [dS (c,p,st,ms,()),dI k] ⟨o_Z206,qqM c p st ms k⟩
  obtain⟨H,eH,bH,tH⟩:=qb3 h (k+1)
  obtain⟨W,eW,bW,tW⟩:=qb3 h k
  have hst:=h.2.2.1.2.1
  have hl:=h.2.2.1.1
  have h48:=h.1.1
  have ek:w64 (k+1)=k+1:=qag (by omega) (by omega)
  have hHW:=qcs bH bW
  have s1:=qcX c st (k+1) hc hl hst (by omega)
  have s2:=qcX c st k hc hl hst (by omega)
  rw[show qf3 c st (k+1) (qav c (k+1) c.length).length=(H:Int) from eH] at s1
  rw[show qf3 c st k (qav c k c.length).length=(W:Int) from eW] at s2
  have z:=qb5 p H W bH bW
  have hM:qqM c p st ms k=(p,(H:Int),(W:Int),qdO c p st ms k,()):=by rw[qqM,eH,eW]
  rw[hM]
  refine qai ?_
  simp only[run_Z206,Z206.ev,ek]
  suffices hmain:Ev fun φ=>Z206.j0 (mkR (run E (φ 0))) (φ 0) (c,p,st,ms,()) k 0 0 0 p (H:Int) (W:Int) (List.replicate (H*W) 0)=some ⟨o_Z206,(p,(H:Int),(W:Int),qdO c p st ms k,())⟩ by
    exact qbL (qaa s1 (qbL (qaa s2 (qbL (qaa z hmain) (qaa z hmain))) (qaa s2 (qaa z hmain)))) (qaa s1 (qaa s2 (qaa z hmain)))
  simp only[Z206.j0_eq _ qae,ek]
  refine qaa (qiH c (k+1) hc (by omega)) ?_
  have hol:=qbu c (k+1) c.length
  by_cases hk0:k<0
  · have e0:qdO c p st ms k=List.replicate (H*W) 0:=by rw[qdO,if_pos hk0,tH,tW]
    rw[e0]
    refine Ev.start (p:=fun φ n=>Z206.l1 (mkR (run E (φ 0))) (φ 0) n (c,p,st,ms,()) k (qav c (k+1) c.length) 0 0 0 0 p (H:Int) (W:Int) (List.replicate (H*W) 0)=_) 1 ?_ (fun _ _ _ h=>h)
    refine Ev.round 1 (L:=fun φ n=>Z206.l1 (mkR (run E (φ 0))) (φ 0) n (c,p,st,ms,()) k (qav c (k+1) c.length) 0 0 0 0 p (H:Int) (W:Int) (List.replicate (H*W) 0)) ?_ (fun _ _ _=>rfl)
    simp only[Z206.l1_succ _ qae,Z206.j2_eq _ qae,show decide (k≥0)=false from decide_eq_false (by omega),cond_false]
    exact qdG (fun _=>qal) fun _=>qal
  have e0:qdO c p st ms k=qc4 (stS c p st ms k (qav c (k+1) c.length).length) (List.replicate (H*W) 0):=by rw[qdO,if_neg hk0,tH,tW]
  rw[e0]
  -- one row of a face' stores
  have r5:∀(s a T L R C i:Nat) (F:CobF c p st ms k s a T L R C H W) (t:Nat) (ls:Sim) (fs:Sim) (cs:Sim) (hcs:cs.length=H*W) (hi:i<R) (r:Option Dv),
      (Ev fun φ=>Z206.l4 (mkR (run E (φ 0))) (φ 0) (φ 1) (φ 2) (φ 3) (c,p,st,ms,()) k ls (t:Int) fs (T:Int) (a:Int) (mp c ms s a) (L:Int) (sgn p a) ((i+1:Nat):Int) 0 0 0 p (H:Int) (W:Int) (qc4 (stJ p (mp c ms s a) W T L (sgn p a) i C) cs)=r) →
      Ev fun φ=>Z206.l5 (mkR (run E (φ 0))) (φ 0) (φ 1) (φ 2) (φ 3) (φ 0) (c,p,st,ms,()) k ls (t:Int) fs (T:Int) (a:Int) (mp c ms s a) (L:Int) (sgn p a) (i:Int) 0 0 0 0 p (H:Int) (W:Int) cs=r:=by
    intro s a T L R C i F t ls fs cs hcs hi r hr
    refine Ev.start (p:=fun φ n=>Z206.l5 (mkR (run E (φ 0))) (φ 0) (φ 1) (φ 2) (φ 3) n (c,p,st,ms,()) k ls (t:Int) fs (T:Int) (a:Int) (mp c ms s a) (L:Int) (sgn p a) (i:Int) 0 0 0 0 p (H:Int) (W:Int) cs=_) 4 ?_ (fun _ _ _ h=>h)
    refine qam 4 (L:=fun φ n j o=>Z206.l5 (mkR (run E (φ 0))) (φ 0) (φ 1) (φ 2) (φ 3) n (c,p,st,ms,()) k ls (t:Int) fs (T:Int) (a:Int) (mp c ms s a) (L:Int) (sgn p a) (i:Int) j 0 0 0 p (H:Int) (W:Int) o) (len:=C) (fun j=>qc4 (stJ p (mp c ms s a) W T L (sgn p a) i j) cs) (fun _ _ _ _ _=>rfl) (fun j q hj ih=>?_) ?_
    · simp only[Z206.l5_succ _ qae]
      have hT:=F.hT
      have hL:=F.hL
      have hp:=F.hp
      obtain⟨ep,hpos⟩:=qrj (T:=T) (L:=L) (i:=i) (j:=j) (W:=W) (H:=H) (by omega) (by omega) bH bW
      have hij:i*C+j<(mp c ms s a).2.2.2.1.length:=by rw[F.len];exact qeY hi hj
      have hRC:=qcs F.hR F.hC
      have hx:=F.el.get hp (i*C+j)
      have hy:=qq3 hp a
      rw[qne,F.eC,Int.toNat_natCast,qac hij] at ih
      rw[qac hij] at hx
      have hol':(qc4 (stJ p (mp c ms s a) W T L (sgn p a) i j) cs).length=H*W:=by rw[qa2,hcs]
      have ev:=qnv hx (show 0≤sgn p a∧sgn p a≤250 by omega) hp
      have hlen:=F.len
      have e1:w64 (w64 ((i:Int)*(C:Int))+(j:Int))=((i*C+j:Nat):Int):=by
        rw[qaY,qag (n:=((i*C:Nat):Int)) (by omega) (by omega),qag (by omega) (by omega)];omega
      simp only[F.eC,e1,ep,hol',Int.toNat_natCast]
      refine qax (decide_eq_true (by omega)) (qab (qaj hij) (qao (by simp;omega) ?_))
      simp only[ev]
      refine qao (by simp only[Bool.and_eq_true,decide_eq_true_eq];omega) ?_
      rw[qad (by omega)]
      exact ih
    · simp only[Z206.l5_succ _ qae,F.eC]
      have:=F.hR
      refine qaC (decide_eq_false (by omega)) ?_
      rw[qad (by omega)]
      exact hr
  -- a face' stores
  have r4:∀(s a T L R C:Nat) (F:CobF c p st ms k s a T L R C H W) (t:Nat) (ls:Sim) (fs:Sim) (cs:Sim) (hcs:cs.length=H*W) (r:Option Dv),
      (Ev fun φ=>Z206.l3 (mkR (run E (φ 0))) (φ 0) (φ 1) (φ 2) (c,p,st,ms,()) k ls (t:Int) fs (T:Int) ((a+1:Nat):Int) 0 0 0 p (H:Int) (W:Int) (qc4 (stI p (mp c ms s a) W T L (sgn p a) R) cs)=r) →
      Ev fun φ=>Z206.l4 (mkR (run E (φ 0))) (φ 0) (φ 1) (φ 2) (φ 0) (c,p,st,ms,()) k ls (t:Int) fs (T:Int) (a:Int) (mp c ms s a) (L:Int) (sgn p a) 0 0 0 0 p (H:Int) (W:Int) cs=r:=by
    intro s a T L R C F t ls fs cs hcs r hr
    refine Ev.start (p:=fun φ n=>Z206.l4 (mkR (run E (φ 0))) (φ 0) (φ 1) (φ 2) n (c,p,st,ms,()) k ls (t:Int) fs (T:Int) (a:Int) (mp c ms s a) (L:Int) (sgn p a) 0 0 0 0 p (H:Int) (W:Int) cs=_) 3 ?_ (fun _ _ _ h=>h)
    refine qam 3 (L:=fun φ n i o=>Z206.l4 (mkR (run E (φ 0))) (φ 0) (φ 1) (φ 2) n (c,p,st,ms,()) k ls (t:Int) fs (T:Int) (a:Int) (mp c ms s a) (L:Int) (sgn p a) i 0 0 0 p (H:Int) (W:Int) o) (len:=R) (fun i=>qc4 (stI p (mp c ms s a) W T L (sgn p a) i) cs) (fun _ _ _ _ _=>rfl) (fun i q hi ih=>?_) ?_
    · simp only[Z206.l4_succ _ qae,F.eR]
      rw[qnD,F.eC,Int.toNat_natCast] at ih
      exact qax (decide_eq_true (by omega)) (r5 s a T L R C i F t ls fs _ (by rw[qa2,hcs]) hi q ih)
    · simp only[Z206.l4_succ _ qae,F.eR]
      have:=F.h4
      refine qaC (decide_eq_false (by omega)) ?_
      rw[qad (by omega)]
      exact hr
  refine Ev.start (p:=fun φ n=>Z206.l1 (mkR (run E (φ 0))) (φ 0) n (c,p,st,ms,()) k (qav c (k+1) c.length) 0 0 0 0 p (H:Int) (W:Int) (List.replicate (H*W) 0)=_) 1 ?_ (fun _ _ _ h=>h)
  refine qam 1 (L:=fun φ n t o=>Z206.l1 (mkR (run E (φ 0))) (φ 0) n (c,p,st,ms,()) k (qav c (k+1) c.length) t 0 0 0 p (H:Int) (W:Int) o) (len:=(qav c (k+1) c.length).length) (fun t=>qc4 (stS c p st ms k t) (List.replicate (H*W) 0)) (fun _ _ _ _ _=>rfl) (fun t q ht ih=>?_) ?_
  · simp only[Z206.l1_succ _ qae]
    obtain⟨s,hse,hs,hd⟩:=qd3.1 (List.getElem_mem ht)
    rw[qnp ht hse] at ih
    have hg:(qav c (k+1) c.length)[t]? = some (s:Int):=by rw[List.getElem?_eq_getElem ht,hse]
    have hf4:=h.1.fIdx4 hs
    generalize hO:qc4 (stS c p st ms k t) (List.replicate (H*W) 0)=O at ih ⊢
    have hOl:O.length=H*W:=by rw[← hO,qa2,List.length_replicate]
    have a1:=qlS (c,p,st,ms,()) s hs hc hl hst
    have hFC:=(qeb hst hs).1
    obtain⟨T,eT⟩:=Int.eq_ofNat_of_zero_le hFC
    rw[show FC (c,p,st,ms,()).1 (c,p,st,ms,()).2.2.1 s=(T:Int) from eT] at a1
    refine qax (decide_eq_true (by omega)) ?_
    simp only[Z206.j2_eq _ qae,show decide (k≥0)=true from decide_eq_true (by omega),cond_true]
    refine qab (qaV.trans hg) (qaa (qca c s hs hc) (qab (qaV.trans hg) (qaa a1 ?_)))
    refine Ev.start (p:=fun φ n=>Z206.l3 (mkR (run E (φ 0))) (φ 0) (φ 1) n (c,p,st,ms,()) k (qav c (k+1) c.length) (t:Int) (qaH c s) (T:Int) 0 0 0 0 p (H:Int) (W:Int) O=_) 2 ?_ (fun _ _ _ h=>h)
    refine qam 2 (L:=fun φ n a o=>Z206.l3 (mkR (run E (φ 0))) (φ 0) (φ 1) n (c,p,st,ms,()) k (qav c (k+1) c.length) (t:Int) (qaH c s) (T:Int) a 0 0 0 p (H:Int) (W:Int) o) (len:=(qaH c s).length) (fun a=>qc4 (stF c p st ms k s a) O) (fun _ _ _ _ _=>rfl) (fun a q2 ha ih2=>?_) ?_
    · simp only[Z206.l3_succ _ qae]
      obtain⟨T',L,R,C,F⟩:=qpx h hs (by omega) ha eH eW bH bW
      obtain rfl:T=T':=by have:=F.eT;omega
      obtain⟨ix,hfc,_⟩:=qaW h.1 hs ha
      have f2:=qlS (c,p,st,ms,()) (fc c s a) hfc hc hl hst
      rw[show FC (c,p,st,ms,()).1 (c,p,st,ms,()).2.2.1 (fc c s a)=(L:Int) from F.eL] at f2
      rw[qng,tW,F.eT,F.eL,F.eR,Int.toNat_natCast,Int.toNat_natCast,Int.toNat_natCast] at ih2
      refine qax (decide_eq_true (by omega)) (qab (qaV.trans hg) (qaa (qdT (c,p,st,ms,()) s a hs ha h) (qab ix (qaa f2 (qaa (qmD p a F.hp) ?_)))))
      exact r4 s a T L R C F t _ _ _ (by rw[qa2,hOl]) q2 ih2
    · simp only[Z206.l3_succ _ qae]
      refine qaC (decide_eq_false (by omega)) ?_
      rw[qad (by omega)]
      exact ih
  · simp only[Z206.l1_succ _ qae,Z206.j2_eq _ qae,cond_false]
    exact qaC (decide_eq_false (by omega)) qal
theorem qis(m:Mat)(v:Sim)(hm:VM m)(hv:m.2.2.1≤v.length)(ev:∀ x∈v,0≤x∧x≤250):Ret E n_Z23 [dI m.1,dI m.2.1,dI m.2.2.1,dL m.2.2.2.1,dL v] ⟨o_Z23,(qhK m v m.2.1.toNat,())⟩:=by
 obtain⟨R,C,em,hR,hC,hlen⟩:=hm.nat
 have hp:2≤m.1∧m.1≤251:=⟨hm.1.1,hm.1.2.1⟩
 have el:=hm.2.2.2.2
 obtain⟨p,r,k,cs,⟨⟩⟩:=m
 simp only[Prod.mk.injEq,true_and,and_true] at em hlen hv hp el
 obtain⟨rfl,rfl⟩:=em
 have hRC:=qcs hR hC
 show Ret E n_Z23 [dI p,dI (R:Int),dI (C:Int),dL cs,dL v] ⟨o_Z23,(qhK (p,(R:Int),(C:Int),cs,()) v R,())⟩
 refine qai ?_
 simp only[run_Z23,Z23.ev]
 refine Ev.start (p:=fun φ n=>Z23.l0 (mkR (run E (φ 0))) (φ 0) n v (R:Int) 0 p (R:Int) (C:Int) cs []=_) 1 ?_ (fun _ _ _ h=>h)
 refine qam 1 (L:=fun φ n i a=>Z23.l0 (mkR (run E (φ 0))) (φ 0) n v (R:Int) i p (R:Int) (C:Int) cs a) (len:=R) (fun i=>qhK (p,(R:Int),(C:Int),cs,()) v i) (fun _ _ _ _ _=>rfl) (fun i q hi ih=>?_) ?_
 ·simp only[Z23.l0_succ _ qae]
  have hle:(i+1)*C≤R*C:=Nat.mul_le_mul_right _ hi
  have hrl:((cs.take ((i+1)*C)).drop (i*C)).length=C:=by
   rw[List.length_drop,List.length_take,Nat.min_eq_left (by omega),Nat.add_mul];omega
  have hd:=qoG ((cs.take ((i+1)*C)).drop (i*C)) v p hp (by omega) (by omega) (fun x hx=>el.mem hp x (List.mem_of_mem_take (List.mem_of_mem_drop hx))) ev
  have e:qaI (fun l=>((cs.take ((i+1)*C)).drop (i*C)).getD l 0) (fun l=>v.getD l 0) ((cs.take ((i+1)*C)).drop (i*C)).length=qaI (fun l=>cs.getD (i*C+l) 0) (fun l=>v.getD l 0) C:=by
   rw[hrl]
   exact qaE fun l hl=>⟨by
    rw[List.getD_eq_getElem?_getD,List.getD_eq_getElem?_getD,List.getElem?_drop,List.getElem?_take_of_lt (by rw[Nat.add_mul];omega)],rfl⟩
  rw[e] at hd
  have ea:qhK (p,(R:Int),(C:Int),cs,()) v (i+1)=qhK (p,(R:Int),(C:Int),cs,()) v i++[qaI (fun l=>cs.getD (i*C+l) 0) (fun l=>v.getD l 0) C%p]:=by
   unfold qhK
   rw[List.range_succ,List.map_append];rfl
  rw[ea] at ih
  refine qax (decide_eq_true (by omega)) (qaa (qd9 p _ C cs i (by omega) (by omega) (by omega)) (qaa hd (qao (by simp[qa9];omega) ?_)))
  rw[qad (by omega)];exact ih
 ·simp only[Z23.l0_succ _ qae]
  exact qaC (decide_eq_false (by omega)) qal
theorem qme(m:Mat)(v:Sim)(hm:VM m)(hv:m.2.2.1≤v.length)(ev:∀ x∈v,0≤x∧x≤250):Ret E n_Z145 [dM m,dL v] ⟨o_Z145,(qhK m v m.2.1.toNat,())⟩:=by
 obtain⟨R,C,em,hR,hC,hlen⟩:=hm.nat
 have hp:2≤m.1∧m.1≤251:=⟨hm.1.1,hm.1.2.1⟩
 have el:=hm.2.2.2.2
 obtain⟨p,r,k,cs,⟨⟩⟩:=m
 simp only[Prod.mk.injEq,true_and,and_true] at em hlen hv hp el
 obtain⟨rfl,rfl⟩:=em
 have hRC:=qcs hR hC
 show Ret E n_Z145 [dM (p,(R:Int),(C:Int),cs,()),dL v] ⟨o_Z145,(qhK (p,(R:Int),(C:Int),cs,()) v R,())⟩
 refine qai ?_
 simp only[run_Z145,Z145.ev]
 refine Ev.start (p:=fun φ n=>Z145.l0 (mkR (run E (φ 0))) (φ 0) n (p,(R:Int),(C:Int),cs,()) v 0 []=_) 1 ?_ (fun _ _ _ h=>h)
 refine qam 1 (L:=fun φ n i a=>Z145.l0 (mkR (run E (φ 0))) (φ 0) n (p,(R:Int),(C:Int),cs,()) v i a) (len:=R) (fun i=>qhK (p,(R:Int),(C:Int),cs,()) v i) (fun _ _ _ _ _=>rfl) (fun i q hi ih=>?_) ?_
 ·simp only[Z145.l0_succ _ qae]
  have ea:qhK (p,(R:Int),(C:Int),cs,()) v (i+1)=qhK (p,(R:Int),(C:Int),cs,()) v i++[qaI (fun l=>cs.getD (i*C+l) 0) (fun l=>v.getD l 0) C%p]:=by
   unfold qhK
   rw[List.range_succ,List.map_append];rfl
  rw[ea] at ih
  have hle:(i+1)*C≤R*C:=Nat.mul_le_mul_right _ hi
  rw[Nat.add_mul] at hle
  have gv:∀ l,0≤v.getD l 0∧v.getD l 0≤250:=fun l=>by
   by_cases hl:l<v.length
   ·rw[qac hl];exact ev _ (List.getElem_mem hl)
   ·rw[List.getD_eq_getElem?_getD,List.getElem?_eq_none (by omega)];simp
  refine qax (decide_eq_true (by omega)) ?_
  generalize hA:qhK (p,(R:Int),(C:Int),cs,()) v i=A at ih ⊢
  have hAl:A.length=i:=by rw[← hA,qa9]
  refine Ev.start (p:=fun φ n=>Z145.l1 (mkR (run E (φ 0))) (φ 0) (φ 1) n (p,(R:Int),(C:Int),cs,()) v (i:Int) 0 0 A=_) 2 ?_ (fun _ _ _ h=>h)
  refine qam 2 (L:=fun φ n l a=>Z145.l1 (mkR (run E (φ 0))) (φ 0) (φ 1) n (p,(R:Int),(C:Int),cs,()) v (i:Int) a l A) (len:=C) (fun l=>qaI (fun l=>cs.getD (i*C+l) 0) (fun l=>v.getD l 0) l) (fun _ _ _ _ _=>rfl) (fun l q2 hl2 ih2=>?_) ?_
  ·simp only[Z145.l1_succ _ qae]
   have hvl:l<v.length:=by omega
   have hcl:i*C+l<cs.length:=by omega
   have b1:=qiW (f:=fun l=>cs.getD (i*C+l) 0) (g:=fun l=>v.getD l 0) (n:=l) fun l _=>⟨el.get hp _,gv l⟩
   have b2:=qeq (el.get hp (i*C+l)) (gv l)
   have e1:w64 (w64 ((i:Int)*(C:Int))+(l:Int))=((i*C+l:Nat):Int):=by
    rw[qaY,qag (n:=((i*C:Nat):Int)) (by omega) (by omega),qag (by omega) (by omega)];omega
   simp only[qaI] at ih2
   rw[qac hcl,qac hvl] at ih2 b2
   simp only[e1]
   refine qax (decide_eq_true (by omega)) (qab (qaj hcl) (qab (qaj hvl) ?_))
   rw[qag (n:=cs[i*C+l]*v[l]) (by omega) (by omega),qag (by omega) (by omega),qad (by omega)]
   exact ih2
  ·simp only[Z145.l1_succ _ qae]
   have b1:=qiW (f:=fun l=>cs.getD (i*C+l) 0) (g:=fun l=>v.getD l 0) (n:=C) fun l _=>⟨el.get hp _,gv l⟩
   refine qaC (decide_eq_false (by omega)) (qao (by simp;omega) ?_)
   rw[Int.tmod_eq_emod_of_nonneg (by omega),qad (by omega)]
   exact qao (by simp[hAl];omega) ih
 ·simp only[Z145.l0_succ _ qae]
  exact qaC (decide_eq_false (by omega)) qal
def Zs(v:Sim):Prop:=∀ x∈v,x=0
theorem qln(x:Int):Ret E n_Z61 [dI x] ⟨o_Z61,(!pb (x=0),())⟩:=by
 refine qai ?_
 simp only[run_Z61,Z61.ev]
 refine qah ?_
 have:(x != 0)=!pb (x=0):=by
  by_cases h:x=0
  ·rw[qaF h];simp[h]
  ·rw[qap h];simp[h]
 rw[this]
theorem qjM(v:Sim)(hv:v.length≤1048576):Ret E n_Z60 [dL v] ⟨o_Z60,(pb (Zs v),())⟩:=by
 refine qai ?_
 simp only[run_Z60,Z60.ev]
 refine qaa (qbw v _ hv fun x _=>qln x) (qah ?_)
 simp only[qhO];rfl
theorem qrv{v:Sim}:pb (∀ j,0≤j→j<v.length→v.getD j 0=0)=pb (Zs v):=qaG ⟨fun h x hx=>by
 obtain⟨j,hj,rfl⟩:=List.mem_iff_getElem.1 hx
 have:=h j (by omega) hj
 rwa [qac hj] at this,fun h j _ hj=>by rw[qac hj];exact h _ (List.getElem_mem hj)⟩
theorem qmJ(v:Sim)(hv:v.length≤1048576):Ret E n_Z173 [dL v] ⟨o_Z173,(pb (Zs v),())⟩:=by
 refine qai ?_
 simp only[run_Z173,Z173.ev]
 refine Ev.start (p:=fun φ n=>Z173.l0 (mkR (run E (φ 0))) (φ 0) n v 0=_) 1 ?_ (fun _ _ _ h=>h)
 rw[← qrv]
 refine qcj 1 (L:=fun φ n k=>Z173.l0 (mkR (run E (φ 0))) (φ 0) n v k) (len:=v.length) 0 (by omega) (fun j=>v.getD j 0=0) (fun b=>some ⟨o_Z173,(b,())⟩) (fun _ _ _ _=>rfl) (fun k h1 h2 hP _=>?_) (fun k r h1 h2 hP _ ih=>?_) (fun _=>?_)
 ·simp only[Z173.l0_succ _ qae]
  rw[qac h2] at hP
  exact qax (decide_eq_true (by omega)) (qab (qaj h2) (qax (by simpa using hP) qal))
 ·simp only[Z173.l0_succ _ qae]
  rw[qac h2] at hP
  refine qax (decide_eq_true (by omega)) (qab (qaj h2) (qaC (by simpa using hP) ?_))
  rw[qad (by omega)];exact ih
 ·simp only[Z173.l0_succ _ qae]
  exact qaC (decide_eq_false (by omega)) qal
end VeT
open Go Go.Proofs Ve
namespace VeT
theorem qde{p x x' y y':Int}(h1:x%p=x'%p)(h2:y%p=y'%p):x*y%p=x'*y'%p:=by
 rw[Int.mul_emod x,h1,h2,← Int.mul_emod]
theorem qiX{p x x':Int}(h:x%p=x'%p):∀ n:Nat,x ^ n%p=x' ^ n%p
 | 0=>by rw[Int.pow_zero,Int.pow_zero]
 | n+1=>by rw[Int.pow_succ,Int.pow_succ];exact qde (qiX h n) h
def qhz(a p:Int):Int:=a ^ (p-2).toNat%p
theorem qpP{a p:Int}(hp:2≤p):0≤qhz a p∧qhz a p≤p-1:=by
 have h0:=Int.emod_nonneg (a ^ (p-2).toNat) (show p≠0 by omega)
 have h1:=Int.emod_lt_of_pos (a ^ (p-2).toNat) (show 0<p by omega)
 unfold qhz;omega
abbrev Ent:=Nat→Nat→Int
def qcG(top q:Nat)(A:Ent):Ent:=fun i=>if i=top then A q else if i=q then A top else A i
def elN(p:Int)(c top:Nat)(B:Ent):Nat→Int:=fun j=>B top j*qhz (B top c) p%p
def elM(p:Int)(c top:Nat)(B:Ent):Ent:=fun i j=>if i=top then elN p c top B j else B i j
def elF(p:Int)(c top:Nat)(B:Ent):Ent:=fun i j=>if i=top then elN p c top B j else if B i c≠0 then(B i j+(p-B i c)*elN p c top B j)%p else B i j
noncomputable def elP(p:Int)(R c:Nat)(S:Ent×List Nat):Ent×List Nat :=
 match qaM (fun i=>S.1 i c≠0) S.2.length (R-S.2.length) with
 | none=>S
 | some q=>(elF p c S.2.length (qcG S.2.length q S.1),S.2++[c])
noncomputable def elS(p:Int)(R:Nat)(A:Ent):Nat→Ent×List Nat
 | 0=>(A,[])
 | c+1=>elP p R c (elS p R A c)
def EIn(p:Int)(R W:Nat)(A:Ent):Prop:=∀ i j,i<R→j<W→0≤A i j∧A i j≤p-1
theorem EIn.sw{p:Int}{R W top q:Nat}{A:Ent}(h:EIn p R W A)(ht:top<R)(hq:q<R):EIn p R W (qcG top q A):=fun i j hi hj=>by
 unfold qcG;split
 ·exact h q j hq hj
 ·split
  ·exact h top j ht hj
  ·exact h i j hi hj
theorem qdJ{p x:Int}(hp:2≤p):0≤x%p∧x%p≤p-1:=by
 have h0:=Int.emod_nonneg x (show p≠0 by omega)
 have h1:=Int.emod_lt_of_pos x (show 0<p by omega)
 omega
theorem EIn.f{p:Int}{R W c top:Nat}{B:Ent}(h:EIn p R W B)(hp:2≤p):EIn p R W (elF p c top B):=fun i j hi hj=>by
 unfold elF;split
 ·exact qdJ hp
 ·split
  ·exact qdJ hp
  ·exact h i j hi hj
theorem qgs{p:Int}{R W:Nat}{A:Ent}(hp:2≤p)(h:EIn p R W A):∀ c,EIn p R W (elS p R A c).1∧(elS p R A c).2.length≤R∧(elS p R A c).2.length≤c∧∀ x∈(elS p R A c).2,x<c
 | 0=>⟨h,Nat.zero_le _,Nat.zero_le _,fun x hx=>by simp[elS] at hx⟩
 | c+1=>by
  obtain⟨h1,h2,h3,h4⟩:=qgs hp h c
  rw[elS,elP]
  cases hf:qaM (fun i=>(elS p R A c).1 i c≠0) (elS p R A c).2.length (R-(elS p R A c).2.length) with
  | none=>exact⟨h1,h2,by show(elS p R A c).2.length≤c+1;omega,fun x hx=>by have:=h4 x hx;omega⟩
  | some q =>
   have hq:=qay hf
   refine⟨(h1.sw (by omega) (by omega)).f hp,?_,?_,fun x hx=>?_⟩
   ·simp only[List.length_append,List.length_singleton];omega
   ·simp only[List.length_append,List.length_singleton];omega
   ·rcases List.mem_append.1 hx with hx | hx
    ·have:=h4 x hx;omega
    ·rw[List.mem_singleton] at hx;omega
def qaJ(A:Ent)(R W:Nat):List Sim:=(List.range R).map fun i=>(List.range W).map (A i)
theorem qaP{A:Ent}{R W:Nat}:(qaJ A R W).length=R:=by simp[qaJ]
theorem qb4{A:Ent}{R W i:Nat}(hi:i<R):(qaJ A R W)[i]? = some ((List.range W).map (A i)):=by
 unfold qaJ;rw[List.getElem?_map,List.getElem?_range hi];rfl
theorem qb7{A B:Ent}{R W:Nat}(h:∀ i j,i<R→j<W→A i j=B i j):qaJ A R W=qaJ B R W :=
 List.map_congr_left fun i hi=>List.map_congr_left fun j hj=>h i j (List.mem_range.1 hi) (List.mem_range.1 hj)
theorem qfU{A:Ent}{R W i:Nat}{f:Nat→Int}:(qaJ A R W).set i ((List.range W).map f)=qaJ (fun k j=>if k=i then f j else A k j) R W:=by
 apply List.ext_getElem?
 intro k
 by_cases hk:k<R
 ·rw[qb4 hk]
  by_cases hik:k=i
  ·subst hik
   rw[List.getElem?_set_self (by rw[qaP];exact hk)]
   simp
  ·rw[List.getElem?_set_ne (Ne.symm hik),qb4 hk]
   simp[hik]
 ·rw[List.getElem?_eq_none (by rw[List.length_set,qaP];omega),List.getElem?_eq_none (by rw[qaP];omega)]
theorem qgH{f:Nat→Int}{W j:Nat}(hj:j<W):((List.range W).map f)[j]? = some (f j):=by
 rw[List.getElem?_map,List.getElem?_range hj];rfl
theorem qdl{A:Ent}{R W i j:Nat}{v:Int}(hi:i<R)(hj:j<W):(qas A W R).set (i*W+j) v=qas (fun k l=>if k=i∧l=j then v else A k l) W R:=by
 apply List.ext_getElem?
 intro n
 by_cases hn:n<R*W
 ·have hW:0<W:=by omega
  have e:n=n / W*W+n%W:=by have:=Nat.div_add_mod n W;rw[Nat.mul_comm] at this;omega
  have h1:n / W<R:=Nat.div_lt_of_lt_mul (by rw[Nat.mul_comm];exact hn)
  have h2:n%W<W:=Nat.mod_lt _ hW
  generalize n / W=a at e h1
  generalize n%W=b at e h2
  subst e
  rw[qbV h1 h2]
  by_cases hab:a=i∧b=j
  ·obtain⟨rfl,rfl⟩:=hab
   rw[List.getElem?_set_self (by rw[qar];exact hn)]
   simp
  ·rw[List.getElem?_set_ne,qbV h1 h2,if_neg hab]
   intro e
   have hbW:b<W:=h2
   have:a=i∧b=j:=by
    have h3:(i*W+j) / W=i:=by rw[Nat.mul_comm,Nat.mul_add_div (by omega),Nat.div_eq_of_lt hj,Nat.add_zero]
    have h4:(a*W+b) / W=a:=by rw[Nat.mul_comm,Nat.mul_add_div (by omega),Nat.div_eq_of_lt hbW,Nat.add_zero]
    have:a=i:=by rw[← h3,← h4,e]
    subst this
    exact⟨rfl,by omega⟩
   exact hab this
 ·rw[List.getElem?_eq_none (by rw[List.length_set,qar];omega),List.getElem?_eq_none (by rw[qar];omega)]
theorem qcQ{A:Ent}{W:Nat}:∀ {R:Nat},(qaJ A R W).flatten=qas A W R
 | 0=>by simp[qaJ,qas]
 | R+1=>by
  have:=qcQ (A:=A) (W:=W) (R:=R)
  unfold qaJ at this ⊢
  rw[List.range_succ,List.map_append,List.flatten_append,this,qas]
  simp
def qcE(cells:Sim)(W:Nat):Ent:=fun i j=>cells.getD (i*W+j) 0
theorem qfX{cells:Sim}{R W:Nat}(h:cells.length=R*W):qas (qcE cells W) W R=cells:=by
 refine List.ext_getElem (by rw[qar,h]) fun n h1 h2=>?_
 rw[qar] at h1
 have hW:0<W:=by
  cases W with
  | zero=>simp at h1
  | succ W=>omega
 have e:n=n / W*W+n%W:=by have:=Nat.div_add_mod n W;rw[Nat.mul_comm] at this;omega
 have h3:n / W<R:=Nat.div_lt_of_lt_mul (by rw[Nat.mul_comm];exact h1)
 have h4:n%W<W:=Nat.mod_lt _ hW
 have hg:=qbV (f:=qcE cells W) h3 h4
 rw[← e,List.getElem?_eq_getElem (by rw[qar];exact h1)] at hg
 rw[Option.some.inj hg]
 unfold qcE
 rw[← e,qac h2]
theorem qb8{p:Int}{cells:Sim}{R W:Nat}(h:qaD cells p)(hl:cells.length=R*W):EIn p R W (qcE cells W):=fun i j hi hj=>by
 unfold qcE
 have:=qeY hi hj
 rw[qac (by omega)]
 exact h _ (List.getElem_mem _)
end VeT
open Go Go.Proofs Ve
namespace VeT
def qq0:Bool:=(List.range 252).all fun p=>!(decide (2≤p)&&(List.range 16).all fun k=>!(decide (2≤k)&&decide (k*k≤p)&&decide (p%k=0))) || (List.range p).all fun a=>a==0 || (a*(a ^ (p-2)%p)%p==1)
theorem qoU:qq0=true:=by kernel_rfl
theorem qm2{p a:Int}(hp:Pr p)(h1:1≤a)(h2:a≤p-1):a*qhz a p%p=1:=by
  obtain⟨hp2,hp251,hpk⟩:=hp
  obtain⟨P,rfl⟩:=Int.eq_ofNat_of_zero_le (show 0≤p by omega)
  obtain⟨N,rfl⟩:=Int.eq_ofNat_of_zero_le (show 0≤a by omega)
  have h:=qoU
  unfold qq0 at h
  rw[List.all_eq_true] at h
  have hP:=h P (List.mem_range.2 (by omega))
  rw[Bool.or_eq_true] at hP
  rcases hP with hP | hP
  · exfalso
    rw[Bool.not_eq_true',Bool.and_eq_false_iff] at hP
    rcases hP with hP | hP
    · have:=of_decide_eq_false hP;omega
    · rw[← Bool.not_eq_true,List.all_eq_true] at hP
      refine hP fun k hk=>?_
      have hk16:=List.mem_range.1 hk
      rw[Bool.not_eq_true',Bool.and_eq_false_iff,Bool.and_eq_false_iff]
      by_cases hk2:2≤k
      · by_cases hkk:k*k≤P
        · right
          refine decide_eq_false fun e=>?_
          have := hpk k hk2 (by have : ((k * k : Nat) : Int) ≤ (P : Int) := by omega
                                rwa [Int.natCast_mul] at this)
          exact this (by omega)
        · exact .inl (.inr (decide_eq_false hkk))
      · exact .inl (.inl (decide_eq_false hk2))
  · rw[List.all_eq_true] at hP
    have hN:=hP N (List.mem_range.2 (by omega))
    rw[Bool.or_eq_true] at hN
    rcases hN with hN | hN
    · have:N=0:=by simpa using hN
      omega
    · have hN:N*(N ^ (P-2)%P)%P=1:=by simpa using hN
      unfold qhz
      have e:((P:Int)-2).toNat=P-2:=by omega
      rw[e]
      have:((N*(N ^ (P-2)%P)%P:Nat):Int)=1:=by rw[hN];rfl
      rwa [Int.natCast_emod,Int.natCast_mul,Int.natCast_emod,Int.natCast_pow] at this
theorem qk2{c d g:Nat→Int}:∀ {n:Nat},qaI (fun i=>c i+d i) g n=qaI c g n+qaI d g n
 | 0=>rfl
 | n+1=>by simp only[qaI];rw[qk2,Int.add_mul];omega
theorem ql0{k:Int}{c g:Nat→Int}:∀ {n:Nat},qaI (fun i=>k*c i) g n=k*qaI c g n
 | 0=>by simp[qaI]
 | n+1=>by simp only[qaI];rw[ql0,Int.mul_add,Int.mul_assoc]
theorem qlo{k:Nat}{g:Nat→Int}:∀ {n:Nat},n≤k→qaI (fun i=>if i=k then 1 else 0) g n=0
 | 0,_=>rfl
 | n+1,h=>by simp only[qaI];rw[qlo (by omega),if_neg (by omega),Int.zero_mul];rfl
theorem qcF{k:Nat}{g:Nat→Int}:∀ {n:Nat},k<n→qaI (fun i=>if i=k then 1 else 0) g n=g k
 | n+1,h=>by
  simp only[qaI]
  by_cases hk:k=n
  ·subst hk;rw[qlo (Nat.le_refl _),if_pos rfl,Int.one_mul,Int.zero_add]
  ·rw[qcF (by omega),if_neg (by omega),Int.zero_mul,Int.add_zero]
def Spn(p:Int)(R W:Nat)(A:Ent)(x:Nat→Int):Prop:=∃ c:Nat→Int,∀ j,j<W→qaI c (fun i=>A i j) R%p=x j%p
theorem Spn.row{p:Int}{R W:Nat}{A:Ent}{i:Nat}(hi:i<R):Spn p R W A (A i):=⟨fun k=>if k=i then 1 else 0,fun j _=>by rw[qcF hi]⟩
theorem Spn.congr{p:Int}{R W:Nat}{A:Ent}{x y:Nat→Int}(h:∀ j,j<W→x j%p=y j%p):Spn p R W A x→Spn p R W A y:=fun⟨c,hc⟩=>⟨c,fun j hj=>(hc j hj).trans (h j hj)⟩
theorem Spn.add{p:Int}{R W:Nat}{A:Ent}{x y:Nat→Int}(hx:Spn p R W A x)(hy:Spn p R W A y):Spn p R W A (fun j=>x j+y j):=by
 obtain⟨c,hc⟩:=hx
 obtain⟨d,hd⟩:=hy
 exact⟨fun i=>c i+d i,fun j hj=>by rw[qk2,Int.add_emod,hc j hj,hd j hj,← Int.add_emod]⟩
theorem Spn.smul{p:Int}{R W:Nat}{A:Ent}{x:Nat→Int}(k:Int)(hx:Spn p R W A x):Spn p R W A (fun j=>k*x j):=by
 obtain⟨c,hc⟩:=hx
 exact⟨fun i=>k*c i,fun j hj=>by rw[ql0,Int.mul_emod,hc j hj,← Int.mul_emod]⟩
theorem Spn.zero{p:Int}{R W:Nat}{A:Ent}:Spn p R W A (fun _=>0):=⟨fun _=>0,fun j _=>by
 have:∀ n,qaI (fun _=>0) (fun i=>A i j) n=0:=fun n=>by
  induction n with
  | zero=>rfl
  | succ n ih=>simp only[qaI,ih,Int.zero_mul];rfl
 rw[this]⟩
theorem Spn.sum{p:Int}{R W:Nat}{A B:Ent}{c:Nat→Int}:∀ {n:Nat},(∀ i,i<n→Spn p R W A (B i))→Spn p R W A (fun j=>qaI c (fun i=>B i j) n)
 | 0,_=>Spn.zero
 | n+1,h=>(Spn.sum (n:=n) fun i hi=>h i (by omega)).add ((h n (Nat.lt_succ_self n)).smul (c n))
theorem Spn.trans{p:Int}{R R' W:Nat}{A B:Ent}{x:Nat→Int}(h:∀ i,i<R'→Spn p R W A (B i))(hx:Spn p R' W B x):Spn p R W A x:=by
 obtain⟨c,hc⟩:=hx
 exact(Spn.sum h).congr hc
def Eqv(p:Int)(R W:Nat)(A B:Ent):Prop:=(∀ i,i<R→Spn p R W A (B i))∧(∀ i,i<R→Spn p R W B (A i))
theorem Eqv.refl{p:Int}{R W:Nat}{A:Ent}:Eqv p R W A A:=⟨fun _ h=>Spn.row h,fun _ h=>Spn.row h⟩
theorem Eqv.trans{p:Int}{R W:Nat}{A B C:Ent}(h:Eqv p R W A B)(k:Eqv p R W B C):Eqv p R W A C:=⟨fun i hi=>Spn.trans h.1 (k.1 i hi),fun i hi=>Spn.trans k.2 (h.2 i hi)⟩
theorem Eqv.sw{p:Int}{R W top q:Nat}{A:Ent}(ht:top<R)(hq:q<R):Eqv p R W A (qcG top q A):=by
 refine⟨fun i hi=>?_,fun i hi=>?_⟩
 ·unfold qcG
  split
  ·exact Spn.row hq
  ·split
   ·exact Spn.row ht
   ·exact Spn.row hi
 ·have key:∀ k,k<R→(qcG top q A) k=A i→Spn p R W (qcG top q A) (A i):=fun k hk e=>by rw[← e];exact Spn.row hk
  by_cases h1:i=top
  ·subst h1
   by_cases h2:q=i
   ·subst h2;exact key q hq (by simp[qcG])
   ·exact key q hq (by simp[qcG,h2])
  ·by_cases h2:i=q
   ·subst h2;exact key top ht (by simp[qcG])
   ·exact key i hi (by simp[qcG,h1,h2])
theorem Eqv.f{p:Int}{R W c top:Nat}{B:Ent}(hp:Pr p)(ht:top<R)(hl:1≤B top c∧B top c≤p-1):Eqv p R W B (elF p c top B):=by
 have hinv:=qm2 hp hl.1 hl.2
 have hN:Spn p R W B (elN p c top B):=((Spn.row ht).smul (qhz (B top c) p)).congr fun j _=>by
  show qhz (B top c) p*B top j%p=(B top j*qhz (B top c) p%p)%p
  rw[Int.emod_emod_of_dvd _ (Int.dvd_refl p),Int.mul_comm]
 have eTop:elF p c top B top=elN p c top B:=by funext j;simp[elF]
 have hN2:Spn p R W (elF p c top B) (elN p c top B):=by rw[← eTop];exact Spn.row ht
 refine⟨fun i hi=>?_,fun i hi=>?_⟩
 ·by_cases h1:i=top
  ·subst h1;rw[eTop];exact hN
  ·by_cases h2:B i c=0
   ·have e:elF p c top B i=B i:=by funext j;simp[elF,h1,h2]
    rw[e];exact Spn.row hi
   ·refine((Spn.row hi).add (hN.smul (p-B i c))).congr fun j _=>?_
    have e:elF p c top B i j=(B i j+(p-B i c)*elN p c top B j)%p:=by simp[elF,h1,h2]
    rw[e,Int.emod_emod_of_dvd _ (Int.dvd_refl p)]
 ·by_cases h1:i=top
  ·subst h1
   refine(hN2.smul (B i c)).congr fun j _=>?_
   show B i c*(B i j*qhz (B i c) p%p)%p=B i j%p
   rw[Int.mul_emod,Int.emod_emod_of_dvd _ (Int.dvd_refl p),← Int.mul_emod,show B i c*(B i j*qhz (B i c) p)=B i j*(B i c*qhz (B i c) p) by rw[← Int.mul_assoc,Int.mul_comm (B i c),Int.mul_assoc],Int.mul_emod,hinv,Int.mul_one,Int.emod_emod_of_dvd _ (Int.dvd_refl p)]
  ·by_cases h2:B i c=0
   ·have e:elF p c top B i=B i:=by funext j;simp[elF,h1,h2]
    rw[← e];exact Spn.row hi
   ·refine((Spn.row hi).add (hN2.smul (B i c))).congr fun j _=>?_
    have e:elF p c top B i j=(B i j+(p-B i c)*elN p c top B j)%p:=by simp[elF,h1,h2]
    rw[e,Int.add_emod,Int.emod_emod_of_dvd _ (Int.dvd_refl p),← Int.add_emod,show B i j+(p-B i c)*elN p c top B j+B i c*elN p c top B j=B i j+p*elN p c top B j by rw[Int.sub_mul];omega,Int.add_mul_emod_self_left]
structure Rf (R c:Nat) (B:Ent) (pv:List Nat):Prop where
 len:pv.length≤R
 lt:∀ i,i<pv.length→pv.getD i 0<c
 mono:∀ i j,i<j→j<pv.length→pv.getD i 0<pv.getD j 0
 one:∀ i j,i<R→j<pv.length→B i (pv.getD j 0)=if i=j then 1 else 0
 low:∀ i j,i<pv.length→j<pv.getD i 0→B i j=0
 bot:∀ i j,pv.length≤i→i<R→j<c→B i j=0
end VeT
open Go Go.Proofs Ve
namespace VeT
theorem qcD{l:List Nat}{c i:Nat}(h:i<l.length):(l++[c]).getD i 0=l.getD i 0:=by
 rw[List.getD_eq_getElem?_getD,List.getD_eq_getElem?_getD,List.getElem?_append_left h]
theorem qea{l:List Nat}{c:Nat}:(l++[c]).getD l.length 0=c:=by
 rw[List.getD_eq_getElem?_getD,List.getElem?_append_right (Nat.le_refl _)];simp
theorem Rf.next{p:Int}{R W c:Nat}{B:Ent}{pv:List Nat}(hp:Pr p)(hB:EIn p R W B)(hc:c<W)(h:Rf R c B pv){q:Nat}(hq:pv.length≤q∧q<R)(hne:B q c≠0) :
  Rf R (c+1) (elF p c pv.length (qcG pv.length q B)) (pv++[c]):=by
 obtain⟨hlen,hlt,hmono,hone,hlow,hbot⟩:=h
 generalize ht:pv.length=top at *
 have hB':EIn p R W (qcG top q B):=hB.sw (by omega) hq.2
 have rowLt:∀ i,i<top→qcG top q B i=B i:=fun i hi=>by
  unfold qcG;rw[if_neg (by omega),if_neg (by omega)]
 have rowGe:∀ i,top≤i→i<R→∀ j,j<c→qcG top q B i j=0:=fun i h1 h2 j hj=>by
  unfold qcG
  split
  ·exact hbot q j hq.1 hq.2 hj
  ·split
   ·exact hbot top j (Nat.le_refl _) (by omega) hj
   ·exact hbot i j h1 h2 hj
 have eLead:qcG top q B top c=B q c:=by simp[qcG]
 have hlead:1≤qcG top q B top c∧qcG top q B top c≤p-1:=by
  have:=hB q c hq.2 hc
  rw[eLead];omega
 generalize qcG top q B=B' at hB' rowLt rowGe eLead hlead
 have hinv:=qm2 hp hlead.1 hlead.2
 have nLt:∀ j,j<c→elN p c top B' j=0:=fun j hj=>by
  unfold elN;rw[rowGe top (Nat.le_refl _) (by omega) j hj,Int.zero_mul];exact Int.zero_emod p
 have nC:elN p c top B' c=1:=hinv
 have fLt:∀ i j,i<R→j<c→elF p c top B' i j=B' i j:=fun i j hi hj=>by
  unfold elF
  split
  ·rename_i e;subst e;rw[nLt j hj,rowGe i (Nat.le_refl _) hi j hj]
  ·split
   ·rw[nLt j hj,Int.mul_zero,Int.add_zero]
    have:=hB' i j hi (by omega)
    exact Int.emod_eq_of_lt this.1 (by omega)
   ·rfl
 have fC:∀ i,i<R→elF p c top B' i c=if i=top then 1 else 0:=fun i hi=>by
  unfold elF
  split
  ·exact nC
  ·split
   ·rw[nC,Int.mul_one,show B' i c+(p-B' i c)=p by omega,Int.emod_self]
   ·rename_i _ h2;exact Classical.byContradiction fun e=>h2 e
 refine⟨?_,?_,?_,?_,?_,?_⟩
 ·rw[List.length_append,List.length_singleton,ht];omega
 ·intro i hi
  rw[List.length_append,List.length_singleton,ht] at hi
  by_cases hi2:i<top
  ·rw[qcD (by omega)];have:=hlt i hi2;omega
  ·obtain rfl:i=top:=by omega
   subst ht
   rw[qea];omega
 ·intro i j hij hj
  rw[List.length_append,List.length_singleton,ht] at hj
  by_cases hj2:j<top
  ·rw[qcD (by omega),qcD (by omega)];exact hmono i j hij hj2
  ·obtain rfl:j=top:=by omega
   have:=hlt i hij
   subst ht
   rw[qcD hij,qea];exact this
 ·intro i j hi hj
  rw[List.length_append,List.length_singleton,ht] at hj
  by_cases hj2:j<top
  ·have hpj:=hlt j hj2
   rw[qcD (by omega),fLt i _ hi hpj]
   by_cases hi2:i<top
   ·rw[rowLt i hi2];exact hone i j hi hj2
   ·rw[rowGe i (by omega) hi _ hpj,if_neg (by omega)]
  ·obtain rfl:j=top:=by omega
   have hfc:=fC i hi
   subst ht
   rw[qea];exact hfc
 ·intro i j hi hj
  rw[List.length_append,List.length_singleton,ht] at hi
  by_cases hi2:i<top
  ·rw[qcD (by omega)] at hj
   have:=hlt i hi2
   rw[fLt i j (by omega) (by omega),rowLt i hi2];exact hlow i j hi2 hj
  ·obtain rfl:i=top:=by omega
   have hfl:j<c→elF p c i B' i j=0:=fun h=>by rw[fLt i j (by omega) h];exact rowGe i (Nat.le_refl _) (by omega) j h
   have e:(pv++[c]).getD i 0=c:=by rw[← ht];exact qea
   rw[e] at hj
   exact hfl hj
 ·intro i j hi hiR hj
  rw[List.length_append,List.length_singleton,ht] at hi
  by_cases hjc:j<c
  ·rw[fLt i j hiR hjc];exact rowGe i (by omega) hiR j hjc
  ·obtain rfl:j=c:=by omega
   rw[fC i hiR,if_neg (by omega)]
theorem qgr{p:Int}{R W:Nat}{A:Ent}(hp:Pr p)(hA:EIn p R W A):∀ c,c≤W→Rf R c (elS p R A c).1 (elS p R A c).2∧Eqv p R W A (elS p R A c).1
 | 0,_=>⟨⟨Nat.zero_le _,fun i h=>by simp[elS] at h,fun i j _ h=>by simp[elS] at h,fun i j _ h=>by simp[elS] at h,fun i j h=>by simp[elS] at h,fun i j _ _ h=>by omega⟩,Eqv.refl⟩
 | c+1,hc=>by
  obtain⟨h1,h2⟩:=qgr hp hA c (by omega)
  have hB:=(qgs hp.1 hA c).1
  rw[elS,elP]
  generalize elS p R A c=S at h1 h2 hB
  obtain⟨B,pv⟩:=S
  simp only at h1 h2 hB ⊢
  cases hf:qaM (fun i=>B i c≠0) pv.length (R-pv.length) with
  | none =>
   have hn:=qcB hf
   show Rf R (c+1) B pv∧Eqv p R W A B
   refine⟨⟨h1.len,fun i hi=>by have:=h1.lt i hi;omega,h1.mono,h1.one,h1.low,fun i j h3 h4 h5=>?_⟩,h2⟩
   by_cases hj:j<c
   ·exact h1.bot i j h3 h4 hj
   ·obtain rfl:j=c:=by omega
    exact Classical.byContradiction fun e=>hn i h3 (by omega) e
  | some q =>
   have hq:=qay hf
   have hq2:pv.length≤q∧q<R:=by omega
   have hlead:1≤qcG pv.length q B pv.length c∧qcG pv.length q B pv.length c≤p-1:=by
    have e:qcG pv.length q B pv.length c=B q c:=by simp[qcG]
    have:=hB q c hq2.2 (by omega)
    have:=hq.2.2
    rw[e];omega
   exact⟨h1.next hp hB (by omega) hq2 hq.2.2,(h2.trans (Eqv.sw (by omega) hq2.2)).trans (Eqv.f hp (by omega) hlead)⟩
end VeT
open Go Go.Proofs Ve
namespace VeT
end VeT
open Go Go.Proofs Ve
namespace VeT
end VeT
open Go Go.Proofs Ve
namespace VeT
def qbp(i j:Nat):Int:=if i=j then 1 else 0
def qbf(p:Int)(n:Nat):Mat:=(p,(n:Int),(n:Int),qas qbp n n,())
theorem qn1(i j:Nat):Ret E n_Z82 [dI (i:Int),dI (j:Int)] ⟨o_Z82,(qbp i j,())⟩:=by
 refine qai ?_
 simp only[run_Z82,Z82.ev]
 refine qbB (fun h=>qah ?_) fun h=>qah ?_
 ·have h:(i:Int)=j:=by simpa using h
  rw[qbp,if_pos (by omega)]
 ·have h:¬ (i:Int)=j:=by simpa using h
  rw[qbp,if_neg (by omega)]
theorem qqB(p:Int)(n:Nat)(hn:n≤32):Ret E n_Z81 [dI p,dI (n:Int)] ⟨o_Z81,qbf p n⟩:=by
 have h:=qcs hn hn
 refine qai ?_
 simp only[run_Z81,Z81.ev]
 exact qaa (qez p n n qbp (by omega) (by omega) (by omega) fun i j _ _=>qn1 i j) qal
theorem qfC(p:Int)(n:Nat)(hn:n≤32):Ret E n_Z157 [dI p,dI (n:Int)] ⟨o_Z157,qbf p n⟩:=by
 have h:=qcs hn hn
 refine qai ?_
 simp only[run_Z157,Z157.ev]
 refine qaa (qb5 p n n hn hn) ?_
 refine Ev.start (p:=fun φ m=>Z157.l0 (mkR (run E (φ 0))) (φ 0) m (n:Int) 0 0 0 0 p (n:Int) (n:Int) (List.replicate (n*n) 0)=_) 1 ?_ (fun _ _ _ h=>h)
 have:=qam 1 (L:=fun φ m i o=>Z157.l0 (mkR (run E (φ 0))) (φ 0) m (n:Int) i 0 0 0 p (n:Int) (n:Int) o) (len:=n) (fun i=>qas qbp n i++List.replicate ((n-i)*n) 0) (r:=some ⟨o_Z157,qbf p n⟩) (fun _ _ _ _ _=>rfl) (fun i r hi ih=>?_) ?_
 ·simpa [qas] using this
 ·simp only[Z157.l0_succ _ qae]
  have hii:=qeY hi hi
  have hle:(i+1)*n≤n*n:=Nat.mul_le_mul_right _ hi
  rw[Nat.add_mul] at hle
  have hRi:(n-i)*n=n+(n-(i+1))*n:=by
   rw[show n-i=(n-(i+1))+1 by omega,Nat.add_mul];omega
  have hol:(qas qbp n i++List.replicate ((n-i)*n) (0:Int)).length=i*n+(n-i)*n:=by simp[qar]
  have e1:w64 (w64 ((i:Int)*(n:Int))+(i:Int))=((i*n+i:Nat):Int):=by
   rw[qaY,qag (n:=((i*n:Nat):Int)) (by omega) (by omega),qag (by omega) (by omega)];omega
  simp only[e1,Int.toNat_natCast]
  refine qax (decide_eq_true (by omega)) (qao (by simp only[Bool.and_eq_true,decide_eq_true_eq,hol];omega) ?_)
  rw[qad (by omega)]
  have e2:(qas qbp n i++List.replicate ((n-i)*n) (0:Int)).set (i*n+i) 1=qas qbp n (i+1)++List.replicate ((n-(i+1))*n) 0:=by
   rw[List.set_append_right _ _ (by rw[qar];omega),qar,Nat.add_sub_cancel_left,qas,List.append_assoc]
   congr 1
   apply List.ext_getElem?
   intro j
   rw[List.getElem?_set,List.length_replicate]
   by_cases hj:j<n
   ·rw[List.getElem?_append_left (by simpa using hj)]
    by_cases hij:i=j
    ·subst hij
     rw[if_pos rfl,if_pos (by omega)]
     simp[hj,qbp]
    ·rw[if_neg hij,List.getElem?_replicate,if_pos (by omega)]
     simp[hj,qbp,hij]
   ·rw[if_neg (by omega),List.getElem?_append_right (by simpa using hj)]
    simp only[List.length_map,List.length_range,List.getElem?_replicate]
    by_cases h2:j<(n-i)*n
    ·rw[if_pos h2,if_pos (by omega)]
    ·rw[if_neg h2,if_neg (by omega)]
  rw[e2]
  exact ih
 ·simp only[Z157.l0_succ _ qae]
  refine qaC (decide_eq_false (by omega)) (qah ?_)
  simp[qbf]
end VeT
open Go Go.Proofs Ve
namespace VeT
open Classical in
noncomputable def GC(x:Shf)(k:Int):Int:=if ISh x then(if 0≤k∧k≤3 then 0 else 2) else 1
theorem qpZ{x:Shf}{k:Int}:GC x k=0↔ISh x∧0≤k∧k≤3:=by
 unfold GC;split
 ·rename_i h
  split
  ·rename_i h2;exact⟨fun _=>⟨h,h2⟩,fun _=>rfl⟩
  ·rename_i h2;exact⟨fun e=>by omega,fun e=>absurd e.2 h2⟩
 ·rename_i h;exact⟨fun e=>by omega,fun e=>absurd e.1 h⟩
theorem qoA(x:Shf)(k:Int)(hx:Sm (.st cS) x):Ret E n_Z201 [dS x,dI k] ⟨o_Z201,(GC x k,())⟩:=by
 refine qai ?_
 simp only[run_Z201,Z201.ev]
 refine qaa (qgm x hx) (qbB (fun h=>qah ?_) fun h=>qaa (qhF k) (qbB (fun h2=>qah ?_) fun h2=>qah ?_))
 ·have h:=qaN.1 (show pb (ISh x)=false by simpa using h)
  rw[GC,if_neg h]
 ·have h:=qaA.1 (show pb (ISh x)=true by simpa using h)
  have h2:=qaN.1 (show pb (0≤k∧k≤3)=false by simpa using h2)
  rw[GC,if_pos h,if_neg h2]
 ·have h:=qaA.1 (show pb (ISh x)=true by simpa using h)
  have h2:=qaA.1 (show pb (0≤k∧k≤3)=true by simpa using h2)
  rw[GC,if_pos h,if_pos h2]
theorem qhe(v:Sim)(n p:Int)(hv:v.length≤1048576)(hp:0≤p∧p≤1048576):Ret E n_Z58 [dL v,dI n,dI p] ⟨o_Z58,(pb (qaD v p∧(v.length:Int)=n),())⟩:=by
 refine qai ?_
 simp only[run_Z58,Z58.ev]
 refine qaa (qeM v) (qbB (fun h=>qaa (qdk v p hv hp) (qah ?_)) fun h=>qah ?_)
 ·have h:(v.length:Int)=n:=by simpa using h
  exact congrArg (fun b:Bool=>some (⟨o_Z58,(b,())⟩:Dv)) (qaG ⟨fun e=>⟨e,h⟩,fun e=>e.1⟩)
 ·have h:¬ (v.length:Int)=n:=by simpa using h
  rw[qap fun e=>h e.2]
def qgx(x:Shf)(k:Int)(v:Sim):Prop:=qaD v x.2.1∧(v.length:Int)=SD x.1 x.2.2.1 k
open Classical in
noncomputable def CC(x:Shf)(k:Int)(v:Sim):Int:=if GC x k=0 then(if qgx x k v then 0 else 7) else GC x k
theorem qpy{x:Shf}{k:Int}{v:Sim}:CC x k v=0↔(ISh x∧0≤k∧k≤3)∧qgx x k v:=by
 rw[← qpZ]
 unfold CC;split
 ·rename_i h
  split
  ·rename_i h2;exact⟨fun _=>⟨h,h2⟩,fun _=>rfl⟩
  ·rename_i h2;exact⟨fun e=>by omega,fun e=>absurd e.2 h2⟩
 ·rename_i h;exact⟨fun e=>absurd e h,fun e=>absurd e.1 h⟩
theorem qjr(x:Shf)(k:Int)(v:Sim)(hx:Sm (.st cS) x)(hv:Sm (.sl (.int .i64)) v):Ret E n_Z203 [dS x,dI k,dL v] ⟨o_Z203,(CC x k v,())⟩:=by
 refine qai ?_
 simp only[run_Z203,Z203.ev]
 refine qaa (qoA x k hx) (qbB (fun h=>qah ?_) fun h=>?_)
 ·have h:¬ GC x k=0:=by simpa using h
  rw[CC,if_neg h]
 ·have h:GC x k=0:=by simpa using h
  obtain⟨hs,hk⟩:=qpZ.1 h
  have hp:=hs.1.2.1
  refine qaa (qcX _ _ _ hx.1 hs.1.2.2.1.1 hs.1.2.2.1.2.1 (by omega)) (qaa (qee v (SD x.1 x.2.2.1 k) x.2.1 hv.1 ⟨by have:=hp.1;omega,by have:=hp.2.1;omega⟩) (qbB (fun h2=>qah ?_) fun h2=>qah ?_))
  ·rw[CC,if_pos h,if_neg (qaN.1 (show pb (qgx x k v)=false by simpa [qgx] using h2))]
  ·rw[CC,if_pos h,if_pos (qaA.1 (show pb (qgx x k v)=true by simpa [qgx] using h2))]
noncomputable def qev(x:Shf)(k:Int):Mat:=qqM x.1 x.2.1 x.2.2.1 x.2.2.2.1 k
theorem VM.len{m:Mat}(h:VM m):m.2.2.2.1.length≤1024:=by
 obtain⟨R,C,_,hR,hC,hl⟩:=h.nat
 have:=qcs hR hC
 omega
noncomputable def qgu(x:Shf)(k:Int)(v:Sim):Sim:=qhK (qev x k) v (SD x.1 x.2.2.1 (k+1)).toNat
theorem qpG{x:Shf}{k:Int}{v:Sim}(h:(ISh x∧0≤k∧k≤3)∧qgx x k v) :
  Ret E n_Z23 [dI (qev x k).1,dI (qev x k).2.1,dI (qev x k).2.2.1,dL (qev x k).2.2.2.1,dL v] ⟨o_Z23,(qgu x k v,())⟩:=by
 have hp:=h.1.1.1.2.1
 exact qis (qev x k) v (qpM h.1.1.1 k) (by show SD x.1 x.2.2.1 k≤_;have:=h.2.2;omega) (h.2.1.mem ⟨hp.1,hp.2.1⟩)
theorem qlK{x:Shf}{k:Int}{v:Sim}(h:(ISh x∧0≤k∧k≤3)∧qgx x k v) :
  Ret E n_Z145 [dM (qev x k),dL v] ⟨o_Z145,(qgu x k v,())⟩:=by
 have hp:=h.1.1.1.2.1
 exact qme (qev x k) v (qpM h.1.1.1 k) (by show SD x.1 x.2.2.1 k≤_;have:=h.2.2;omega) (h.2.1.mem ⟨hp.1,hp.2.1⟩)
theorem qhU{x:Shf}{k:Int}{v:Sim}(h:ISh x):(qgu x k v).length≤32:=by
 obtain⟨n,e,hn,ht⟩:=qb3 h.1 (k+1)
 unfold qgu;rw[qa9];omega
noncomputable def qdK(x:Shf)(k:Int)(v:Sim):Bool×Unit:=(pb (CC x k v=0∧Zs (qgu x k v)),())
theorem qjg(x:Shf)(k:Int)(v:Sim)(hx:Sm (.st cS) x)(hh:(ISh x∧0≤k∧k≤3)∧qgx x k v):Ret E n_Z204 [dS x,dI k,dL v] ⟨o_Z204,(pb (Zs (qgu x k v)),())⟩:=by
 refine qai ?_
 simp only[run_Z204,Z204.ev]
 have:=qhU (k:=k) (v:=v) hh.1.1
 exact qaa (qeo x k (by omega) hx.1 hh.1.1.1) (qaa (qlK hh) (qaa (qmJ (qgu x k v) (by omega)) qal))
theorem qg6(x:Shf)(k:Int)(v:Sim)(hx:Sm (.st cS) x)(hv:Sm (.sl (.int .i64)) v):Ret E n_Z125 [dLL x.1,dI x.2.1,dL x.2.2.1,dMs x.2.2.2.1,dI k,dL v] ⟨o_Z125,qdK x k v⟩:=by
 refine qai ?_
 simp only[run_Z125,Z125.ev]
 refine qaa (qjr x k v hx hv) (qbB (fun h=>?_) fun h=>qah ?_)
 ·have h:CC x k v=0:=by simpa using h
  refine qaa (qjg x k v hx (qpy.1 h)) (qah ?_)
  rw[qdK,qaG (show CC x k v=0∧Zs (qgu x k v)↔Zs (qgu x k v) from⟨fun e=>e.2,fun e=>⟨h,e⟩⟩)]
 ·have h:¬ CC x k v=0:=by simpa using h
  rw[qdK,qap fun e=>h e.1]
end VeT
open Go Go.Proofs Ve
namespace VeT
theorem qdS.lt{s:Sim}(h:qdS s):∀ {i j:Nat} (hj:j<s.length) (hij:i<j),s[i]<s[j]:=by
 intro i j
 induction j with
 | zero=>intro _ h;omega
 | succ j ih =>
  intro hj hij
  have:=h (j+1) (by omega) hj
  rw[Nat.add_sub_cancel,qac (by omega),qac hj] at this
  by_cases e:i=j
  ·subst e;exact this
  ·exact Int.lt_trans (ih (by omega) (by omega)) this
theorem qdS.pairwise{s:Sim}(h:qdS s):s.Pairwise (·<·):=by
 rw[List.pairwise_iff_getElem]
 intro i j hi hj hij
 exact h.lt hj hij
theorem qmo:∀ {a b:Sim},a.Pairwise (·<·)→b.Pairwise (·<·)→(∀ x,x∈a↔x∈b)→a=b
 | [],[],_,_,_=>rfl
 | [],y::ys,_,_,h=>absurd ((h y).2 List.mem_cons_self) (by simp)
 | x::xs,[],_,_,h=>absurd ((h x).1 List.mem_cons_self) (by simp)
 | x::xs,y::ys,ha,hb,h=>by
  rw[List.pairwise_cons] at ha hb
  have exy:x=y:=by
   have h1:=(h x).1 List.mem_cons_self
   have h2:=(h y).2 List.mem_cons_self
   rw[List.mem_cons] at h1 h2
   rcases h1 with h1 | h1
   ·exact h1
   ·rcases h2 with h2 | h2
    ·exact h2.symm
    ·have:=hb.1 x h1
     have:=ha.1 y h2
     omega
  subst exy
  congr 1
  refine qmo ha.2 hb.2 fun z=>⟨fun hz=>?_,fun hz=>?_⟩
  ·have:=(h z).1 (List.mem_cons_of_mem _ hz)
   rw[List.mem_cons] at this
   rcases this with e | e
   ·have:=ha.1 z hz;omega
   ·exact e
  ·have:=(h z).2 (List.mem_cons_of_mem _ hz)
   rw[List.mem_cons] at this
   rcases this with e | e
   ·have:=hb.1 z hz;omega
   ·exact e
theorem qlW{a b:Sim}(ha:qdS a)(hb:qdS b)(h:qfq a b)(hne:a≠b):∃ i,∃ hi:i<b.length,¬ b[i]∈a∧∀ j (hj:j<i),b[j]∈a:=by
 have hex:∃ x∈b,¬ x∈a:=Classical.byContradiction fun hn=>hne (qmo ha.pairwise hb.pairwise fun x=>⟨h x,fun hx=>Classical.byContradiction fun hxa=>hn ⟨x,hx,hxa⟩⟩)
 obtain⟨x,hx,hxa⟩:=hex
 obtain⟨j,hj,rfl⟩:=List.mem_iff_getElem.1 hx
 have hf:b.findIdx (fun v=>!pb (v∈a))<b.length:=List.findIdx_lt_length_of_exists ⟨b[j],hx,by rw[qap hxa];rfl⟩
 refine⟨b.findIdx (fun v=>!pb (v∈a)),hf,?_,fun q hq=>?_⟩
 ·have:=List.findIdx_getElem (w:=hf)
  exact qaN.1 (by simpa using this)
 ·have:=List.not_of_lt_findIdx hq
  exact qaA.1 (by simpa using this)
theorem qc1{a b:Sim}(h:qfq a b){i:Nat}(hi:i<b.length)(hn:¬ b[i]∈a):qfq a (b.eraseIdx i):=by
 intro x hx
 obtain⟨j,hj,rfl⟩:=List.mem_iff_getElem.1 (h x hx)
 have hji:j≠i:=fun e=>hn (by subst e;exact hx)
 rw[List.mem_iff_getElem?]
 by_cases hlt:j<i
 ·exact⟨j,by rw[List.getElem?_eraseIdx,if_pos hlt,List.getElem?_eq_getElem hj]⟩
 ·exact⟨j-1,by rw[List.getElem?_eraseIdx,if_neg (by omega),show j-1+1=j by omega,List.getElem?_eq_getElem hj]⟩
end VeT
open Go Go.Proofs Ve
namespace VeT
theorem qrg{W a b a' b':Nat}(hb:b<W)(hb':b'<W)(e:a*W+b=a'*W+b'):a=a'∧b=b':=by
 have h1:(a*W+b) / W=a:=by rw[Nat.mul_comm,Nat.mul_add_div (by omega),Nat.div_eq_of_lt hb,Nat.add_zero]
 have h2:(a'*W+b') / W=a':=by rw[Nat.mul_comm,Nat.mul_add_div (by omega),Nat.div_eq_of_lt hb',Nat.add_zero]
 have:a=a':=by rw[← h1,← h2,e]
 subst this
 exact⟨rfl,by omega⟩
theorem qr7{c:List Sim}{st:Sim}(hst:∀ x∈st,0≤x∧x≤3){s s':Nat}(hl:(c.getD s []).length=(c.getD s' []).length)(h:s<s'):FC c st s+st.getD s 0≤FC c st s':=by
 unfold FC
 rw[← hl]
 exact qp7 hst h (by omega)
theorem qgM{c:List Sim}{st:Sim}(hst:∀ x∈st,0≤x∧x≤3){s s' i i':Nat}(hl:(c.getD s []).length=(c.getD s' []).length)(hi:i<(st.getD s 0).toNat)(hi':i'<(st.getD s' 0).toNat)
  (e:(FC c st s).toNat+i=(FC c st s').toNat+i'):s=s'∧i=i':=by
 have n1:0≤FC c st s:=(qgg hst).1
 have n2:0≤FC c st s':=(qgg hst).1
 rcases Nat.lt_trichotomy s s' with h | h | h
 ·have:=qr7 hst hl h;omega
 ·subst h;exact⟨rfl,by omega⟩
 ·have:=qr7 hst hl.symm h;omega
theorem qoT{s:Sim}(hs:qdS s){a b:Nat}(ha:a<s.length)(hb:b<s.length)(e:s.eraseIdx a=s.eraseIdx b):a=b:=by
 have key:∀ {a b:Nat},a<b→b<s.length→s.eraseIdx a=s.eraseIdx b→False:=fun {a b} hab hb e=>by
  have h:=congrArg (·[a]?) e
  simp only[List.getElem?_eraseIdx] at h
  rw[if_neg (by omega),if_pos hab,List.getElem?_eq_getElem (by omega),List.getElem?_eq_getElem (by omega)] at h
  have h:=Option.some.inj h
  have:=hs.lt (i:=a) (j:=a+1) (by omega) (by omega)
  omega
 rcases Nat.lt_trichotomy a b with h | h | h
 ·exact absurd e fun e=>key h hb e
 ·exact h
 ·exact absurd e.symm fun e=>key h ha e
theorem qny{c:List Sim}(hv:VC c){s a b:Nat}(hs:s<c.length)(ha:a<(qaH c s).length)(hb:b<(qaH c s).length)(e:fc c s a=fc c s b):a=b:=by
 obtain⟨_,_,ea⟩:=qaW hv hs ha
 obtain⟨_,_,eb⟩:=qaW hv hs hb
 have hl:=qaz (c:=c) (k:=s)
 rw[e,eb] at ea
 split at hl
 ·exact(qoT (hv.2.1 s hs).2.2.1 (by omega) (by omega) ea).symm
 ·omega
theorem qkz{c:List Sim}{p:Int}{st:Sim}{ms:List Mat}(h:VS c p st ms){k:Int}(hk:0≤k){s a i j:Nat}(hs:s<c.length)(hd:((c.getD s []).length:Int)=k+2)(ha:a<(qaH c s).length)
  (hi:i<(st.getD s 0).toNat) (hj:j<(st.getD (fc c s a) 0).toNat) :
  (qdO c p st ms k).getD (((FC c st s).toNat+i)*(SD c st k).toNat+((FC c st (fc c s a)).toNat+j)) 0=(mp c ms s a).2.2.2.1.getD (i*(mp c ms s a).2.2.1.toNat+j) 0*sgn p a%p:=by
 have hst:=h.2.2.1.2.1
 obtain⟨g1,g2,g3,g4,g5,g6,g7⟩:=qbQ h hs hd ha
 have hW:(FC c st (fc c s a)).toNat+j<(SD c st k).toNat:=by omega
 have hH:(FC c st s).toNat+i<(SD c st (k+1)).toNat:=by omega
 unfold qdO
 rw[if_neg (by omega)]
 refine qnl (by rw[List.length_replicate];exact qeY hH hW) (fun x hx e=>?_) ⟨_,(qkl (Nat.le_refl _)).2 ⟨s,hs,hd,qkJ.2 ⟨a,i,j,ha,by omega,by omega,rfl⟩⟩,by simp only;omega⟩
 obtain⟨s',hs',hd',hx⟩:=(qkl (Nat.le_refl _)).1 hx
 obtain⟨a',i',j',ha',hi',hj',rfl⟩:=qkJ.1 hx
 obtain⟨q1,q2,q3,q4,q5,q6,q7⟩:=qbQ h hs' hd' ha'
 simp only at e ⊢
 have hW':(FC c st (fc c s' a')).toNat+j'<(SD c st k).toNat:=by omega
 have e0:((FC c st s').toNat+i')*(SD c st k).toNat+((FC c st (fc c s' a')).toNat+j')=((FC c st s).toNat+i)*(SD c st k).toNat+((FC c st (fc c s a)).toNat+j):=by omega
 obtain⟨e1,e2⟩:=qrg hW' hW e0
 obtain⟨rfl,rfl⟩:=qgM hst (by omega) (by omega) (by omega) e1
 obtain⟨e3,rfl⟩:=qgM hst (by omega) (by omega) (by omega) e2
 obtain rfl:=qny h.1 hs ha' ha e3
 rfl
theorem qkZ{c:List Sim}{p:Int}{st:Sim}{ms:List Mat}(h:VS c p st ms){k:Int}{s i g:Nat}(hs:s<c.length)(hd:((c.getD s []).length:Int)=k+2)
  (hi:i<(st.getD s 0).toNat) (hg:g<(SD c st k).toNat) (hno:∀ a,a<(qaH c s).length→¬ ((FC c st (fc c s a)).toNat≤g∧g<(FC c st (fc c s a)).toNat+(st.getD (fc c s a) 0).toNat)) :
  (qdO c p st ms k).getD (((FC c st s).toNat+i)*(SD c st k).toNat+g) 0=0:=by
 have hst:=h.2.2.1.2.1
 have hrep:∀ n q,(List.replicate n (0:Int)).getD q 0=0:=fun n q=>by
  rw[List.getD_eq_getElem?_getD,List.getElem?_replicate];split<;>rfl
 unfold qdO
 split
 ·exact hrep _ _
 rw[qin fun x hx e=>?_]
 ·exact hrep _ _
 obtain⟨s',hs',hd',hx⟩:=(qkl (Nat.le_refl _)).1 hx
 obtain⟨a',i',j',ha',hi',hj',rfl⟩:=qkJ.1 hx
 obtain⟨q1,q2,q3,q4,q5,q6,q7⟩:=qbQ h hs' hd' ha'
 simp only at e
 have hW':(FC c st (fc c s' a')).toNat+j'<(SD c st k).toNat:=by omega
 have e0:((FC c st s').toNat+i')*(SD c st k).toNat+((FC c st (fc c s' a')).toNat+j')=((FC c st s).toNat+i)*(SD c st k).toNat+g:=by omega
 obtain⟨e1,e2⟩:=qrg hW' hg e0
 obtain⟨rfl,rfl⟩:=qgM hst (by omega) (by omega) (by omega) e1
 exact hno a' ha' ⟨by omega,by omega⟩
end VeT
open Go Go.Proofs Ve
namespace VeT
noncomputable def fv(c:List Sim)(f k:Nat):Nat:=(c.getD k []).findIdx (fun v=>!pb (v∈c.getD f []))
noncomputable def qfa(c:List Sim)(p:Int)(st:Sim)(ms:List Mat)(f:Nat):Nat→Nat→Mat
 | 0,k=>qbf p (st.getD f 0).toNat
 | d+1,k=>if f=k then qbf p (st.getD f 0).toNat else qdH (mp c ms k (fv c f k)) (qfa c p st ms f d (fc c k (fv c f k)))
theorem qe8{p:Int}{n:Nat}(hp:Pr p)(hn:n≤32):VM (qbf p n):=by
 refine⟨hp,⟨by show(0:Int)≤n;omega,by show(n:Int)≤32;omega⟩,⟨by show(0:Int)≤n;omega,by show(n:Int)≤32;omega⟩,?_,?_⟩
 ·show((qas qbp n n).length:Int)=(n:Int)*(n:Int)
  rw[qar,qaY]
 ·intro x hx
  have hx:x∈qas qbp n n:=hx
  have:∀ m,x∈qas qbp n m→0≤x∧x≤1:=by
   intro m
   induction m with
   | zero=>intro h;simp[qas] at h
   | succ m ih =>
    intro h
    rw[qas,List.mem_append] at h
    rcases h with h | h
    ·exact ih h
    ·rw[List.mem_map] at h
     obtain⟨j,_,rfl⟩:=h
     unfold qbp;split<;>omega
  have:=this n hx
  have:=hp.1
  show 0≤x∧x≤p-1
  omega
theorem qc6{a b:Mat}(ha:VM a)(hb:VM b):VM (qdH a b):=by
 refine⟨ha.1,ha.2.1,hb.2.2.1,?_,?_⟩
 ·show((qas _ b.2.2.1.toNat a.2.1.toNat).length:Int)=a.2.1*b.2.2.1
  rw[qar]
  have h1:=ha.2.1
  have h2:=hb.2.2.1
  obtain⟨x,hx⟩:=Int.eq_ofNat_of_zero_le h1.1
  obtain⟨y,hy⟩:=Int.eq_ofNat_of_zero_le h2.1
  rw[hx,hy,qaY];rfl
 ·intro x hx
  have hx:x∈qas (qiF a.1 a.2.2.2.1 b.2.2.2.1 a.2.2.1.toNat b.2.2.1.toNat) b.2.2.1.toNat a.2.1.toNat:=hx
  have hp:=ha.1.1
  have:∀ m,x∈qas (qiF a.1 a.2.2.2.1 b.2.2.2.1 a.2.2.1.toNat b.2.2.1.toNat) b.2.2.1.toNat m→0≤x∧x≤a.1-1:=by
   intro m
   induction m with
   | zero=>intro h;simp[qas] at h
   | succ m ih =>
    intro h
    rw[qas,List.mem_append] at h
    rcases h with h | h
    ·exact ih h
    ·rw[List.mem_map] at h
     obtain⟨j,_,rfl⟩:=h
     have h1:=Int.emod_nonneg (qaI (fun l=>a.2.2.2.1.getD (m*a.2.2.1.toNat+l) 0) (fun l=>b.2.2.2.1.getD (l*b.2.2.1.toNat+j) 0) a.2.2.1.toNat) (show a.1≠0 by omega)
     have h2:=Int.emod_lt_of_pos (qaI (fun l=>a.2.2.2.1.getD (m*a.2.2.1.toNat+l) 0) (fun l=>b.2.2.2.1.getD (l*b.2.2.1.toNat+j) 0) a.2.2.1.toNat) (show 0<a.1 by omega)
     unfold qiF;omega
  exact this _ hx
theorem qgD(v:Int)(a:Sim)(ha:a.length≤1048576):Ret E n_Z72 [dI v,⟨.ptr (.cons (.sl (.int .i64)) .nil),(a,())⟩] ⟨o_Z72,(!pb (v∈a),())⟩:=by
 refine qai ?_
 simp only[run_Z72,Z72.ev]
 exact qaa (qeR a v ha) qal
structure Down (c:List Sim) (p:Int) (st:Sim) (ms:List Mat) (f k:Nat):Prop where
 v:VS c p st ms
 fl:f<c.length
 kl:k<c.length
 ne:f≠k
 pt:qfq (c.getD f []) (c.getD k [])
theorem Down.facts{c p st ms f k}(h:Down c p st ms f k):fv c f k<(c.getD k []).length∧fv c f k<(qaH c k).length∧(∀ j (hj:j<fv c f k) (hl:j<(c.getD k []).length),(c.getD k [])[j]∈c.getD f [])∧(∀ hl:fv c f k<(c.getD k []).length,¬ (c.getD k [])[fv c f k]∈c.getD f [])∧qfq (c.getD f []) (c.getD (fc c k (fv c f k)) [])∧(c.getD (fc c k (fv c f k)) []).length<(c.getD k []).length∧fc c k (fv c f k)<c.length:=by
 have hx:=h.v.1.2.1 f h.fl
 have hy:=h.v.1.2.1 k h.kl
 have hne:c.getD f []≠c.getD k []:=fun e=>by
  have hs:=h.v.1.srt
  rw[qac h.fl,qac h.kl] at e
  rcases Nat.lt_or_gt_of_ne h.ne with hlt | hlt
  ·have:=hs f k h.kl hlt;rw[e,qco.2 rfl] at this;omega
  ·have:=hs k f h.fl hlt;rw[e,qco.2 rfl] at this;omega
 obtain⟨i,hi,hin,hbef⟩:=qlW hx.2.2.1 hy.2.2.1 h.pt hne
 have hfv:fv c f k<(c.getD k []).length:=List.findIdx_lt_length_of_exists ⟨_,List.getElem_mem hi,by rw[qap hin];rfl⟩
 have hno:∀ hl:fv c f k<(c.getD k []).length,¬ (c.getD k [])[fv c f k]∈c.getD f []:=fun hl=>by
  have t:(!pb ((c.getD k [])[fv c f k]∈c.getD f []))=true:=List.findIdx_getElem (w:=hl) (p:=fun v=>!pb (v∈c.getD f []))
  exact qaN.1 (by simpa only[Bool.not_eq_true'] using t)
 have hbf:∀ j (hj:j<fv c f k) (hl:j<(c.getD k []).length),(c.getD k [])[j]∈c.getD f []:=fun j hj hl=>by
  have:=List.not_of_lt_findIdx hj
  exact qaA.1 (by simpa using this)
 have h2:1<(c.getD k []).length:=by
  refine Classical.byContradiction fun hn=>?_
  have h1:(c.getD k []).length=1:=by omega
  have hf0:0<(c.getD f []).length:=hx.1
  have hm:=h.pt _ (List.getElem_mem hf0)
  obtain⟨q,hq,e⟩:=List.mem_iff_getElem.1 hm
  have hq0:q=fv c f k:=by omega
  subst hq0
  exact hno hfv (e ▸ List.getElem_mem hf0)
 have hil:fv c f k<(qaH c k).length:=by rw[qaz,if_pos h2];exact hfv
 obtain⟨_,hF,hFg⟩:=qaW h.v.1 h.kl hil
 refine⟨hfv,hil,hbf,hno,?_,?_,hF⟩
 ·rw[hFg];exact qc1 h.pt hfv (hno hfv)
 ·rw[hFg,List.length_eraseIdx,if_pos hfv];omega
end VeT
open Go Go.Proofs Ve
namespace VeT
theorem Down.idx{c p st ms f k}(h:Down c p st ms f k):qjl (fun v=>!pb (v∈c.getD f [])) (c.getD k [])=(fv c f k:Nat):=by
 obtain⟨h1,_,h3,h4,_⟩:=h.facts
 have:(c.getD k []).findIdx? (fun v=>!pb (v∈c.getD f []))=some (fv c f k):=by
  rw[List.findIdx?_eq_some_iff_getElem]
  exact⟨h1,by rw[qap (h4 h1)];rfl,fun j hj=>by rw[qaF (h3 j hj (by omega))];simp⟩
 unfold qjl
 rw[this];rfl
theorem qqE{c p st ms}(h:VS c p st ms)(f:Nat)(hf:f<c.length):∃ hl:f<st.length,∃ n:Nat,st[f]=(n:Int)∧n≤3∧(st.getD f 0).toNat=n∧st.getD f 0=(n:Int):=by
 have hl:f<st.length:=by rw[h.2.2.1.1];exact hf
 have hb:=h.2.2.1.2.1 _ (List.getElem_mem hl)
 obtain⟨n,hn⟩:=Int.eq_ofNat_of_zero_le hb.1
 exact⟨hl,n,hn,by omega,by rw[qac hl];omega,by rw[qac hl,hn]⟩
theorem ql7(c:List Sim)(p:Int)(st:Sim)(ms:List Mat)(hc:Sm (.sl (.sl (.int .i64))) c)(h:VS c p st ms)(f:Nat)(hf:f<c.length):∀(d k:Nat),k<c.length→(c.getD k []).length≤d→qfq (c.getD f []) (c.getD k []) →
  (VM (qfa c p st ms f d k)∧(qfa c p st ms f d k).2.1=st.getD k 0) ∧
  Ret E n_Z71 [dLL c,dI p,dL st,dMs ms,dI (f:Int),dI (k:Int)] ⟨o_Z71,qfa c p st ms f d k⟩:=by
 intro d
 obtain⟨hfl,n,hn,hn3,hnt,hng⟩:=qqE h f hf
 induction d with
 | zero =>
  intro k hk hd
  have:=(h.1.2.1 k hk).1
  omega
 | succ d ih =>
  intro k hk hd hpt
  have h4f:=h.1.len4 hf
  rw[qfa]
  by_cases hfk:f=k
  ·subst hfk
   rw[if_pos rfl,hnt]
   refine⟨⟨qe8 h.2.1 (by omega),by rw[hng];rfl⟩,qai ?_⟩
   ·simp only[run_Z71,Z71.ev]
    refine qax (by simp) (qab (qaj hfl) ?_)
    rw[hn]
    exact qaa (qqB p n (by omega)) qal
  ·rw[if_neg hfk]
   have D:Down c p st ms f k:=⟨h,hf,hk,hfk,hpt⟩
   obtain⟨f1,f2,f3,f4,f5,f6,f7⟩:=D.facts
   obtain⟨⟨v1,v2⟩,r1⟩:=ih (fc c k (fv c f k)) f7 (by omega) f5
   obtain⟨ix,_,hFg⟩:=qaW h.1 hk f2
   obtain⟨_,hB⟩:=h.map hk f2
   have hsh:(mp c ms k (fv c f k)).2.2.1=(qfa c p st ms f d (fc c k (fv c f k))).2.1:=by rw[hB.2.2.2,v2]
   have gf:c.getD f []=c[f]:=qac hf
   have gk:c.getD k []=c[k]:=qac hk
   have hlf:(c[f]).length≤1048576:=(qbo (t:=.sl (.int .i64)) (s:=c) hc hf).1
   have hlk:(c[k]).length≤1048576:=(qbo (t:=.sl (.int .i64)) (s:=c) hc hk).1
   refine⟨⟨qc6 hB.1 v1,hB.2.2.1⟩,qai ?_⟩
   ·simp only[run_Z71,Z71.ev]
    refine qaC (by simp;omega) (qab (qaj hf) (qab (qaj hk) ?_))
    have hI:=qbr c[k] ((c[f],()),()) (fun v=>!pb (v∈c[f])) hlk fun v _=>qgD v c[f] hlf
    have hD:=D.idx
    rw[gf,gk] at hD
    rw[hD] at hI
    exact qaa hI (qaa (qcl c k hk hc h.1.srt) (qab ix (qaa (qcY c p st ms k (fv c f k) hk f2 h) (qaa r1 (qaa (qiC _ _ hB.1 v1 hsh) qal)))))
end VeT
open Go Go.Proofs Ve
namespace VeT
theorem VC.len1{c:List Sim}(h:VC c){k:Nat}(hk:k<c.length):1≤(c.getD k []).length:=(h.2.1 k hk).1
theorem qqV{c:List Sim}(h:VC c){v k:Nat}(hv:v<c.length)(h1:(c.getD v []).length=1)(hk:k<v):(c.getD k []).length=1:=by
 have hkc:k<c.length:=by omega
 have:=h.srt k v hv hk
 rw[qg5] at this
 have h2:=h.len1 hkc
 rw[qac hv] at h1
 rw[qac hkc] at h2 ⊢
 omega
theorem qrV{c:List Sim}{st:Sim}{v:Nat}(h1:(c.getD v []).length=1):FC c st v=SDn c st 0 v:=by
 unfold FC;rw[h1];rfl
theorem qhf(x:Shf)(v:Nat)(hv:v<x.1.length)(h1:(x.1.getD v []).length=1)(h:VS x.1 x.2.1 x.2.2.1 x.2.2.2.1):Ret E n_Z199 [dS x,dI (v:Int)] ⟨o_Z199,(FC x.1 x.2.2.1 v,())⟩:=by
 have h48:=h.1.1
 have hst:=h.2.2.1.2.1
 have hl:=h.2.2.1.1
 rw[qrV h1]
 refine qai ?_
 simp only[run_Z199,Z199.ev]
 refine Ev.start (p:=fun φ n=>Z199.l0 (mkR (run E (φ 0))) (φ 0) n x (v:Int) 0 0=_) 1 ?_ (fun _ _ _ h=>h)
 refine qam 1 (L:=fun φ n k a=>Z199.l0 (mkR (run E (φ 0))) (φ 0) n x (v:Int) a k) (len:=v) (fun k=>SDn x.1 x.2.2.1 0 k) (fun _ _ _ _ _=>rfl) (fun k r hk ih=>?_) ?_
 ·have hks:k<x.2.2.1.length:=by omega
  simp only[Z199.l0_succ _ qae]
  have hb:=qgg (c:=x.1) (d:=0) hst (n:=k)
  have hb2:=hst _ (List.getElem_mem hks)
  have hl1:=qqV h.1 hv h1 hk
  rw[qel,if_pos (by omega),qac hks] at ih
  refine qax (decide_eq_true (by omega)) (qab (qaj hks) ?_)
  rw[qad (by omega),qag (by omega) (by omega)];exact ih
 ·simp only[Z199.l0_succ _ qae]
  exact qaC (decide_eq_false (by omega)) qal
theorem qg4(x:Shf)(hc:Sm (.sl (.sl (.int .i64))) x.1)(h:VS x.1 x.2.1 x.2.2.1 x.2.2.2.1):Ret E n_Z192 [dS x] ⟨o_Z192,(SD x.1 x.2.2.1 0,())⟩:=by
 refine qai ?_
 simp only[run_Z192,Z192.ev]
 exact qaa (qcX x.1 x.2.2.1 0 hc h.2.2.1.1 h.2.2.1.2.1 (by omega)) qal
def qmq(a b:Sim)(c p:Int):Sim:=(List.range a.length).map fun i=>(a.getD i 0+c*b.getD i 0)%p
theorem qfo{a b:Sim}{c p:Int}:(qmq a b c p).length=a.length:=by simp[qmq]
theorem qni{a b:Sim}{c p:Int}{i:Nat}(h:i<a.length):(qmq a b c p).getD i 0=(a.getD i 0+c*b.getD i 0)%p:=by
 simp[qmq,List.getD_eq_getElem?_getD,h]
theorem qnX{a b:Sim}{c p:Int}(hp:2≤p):qaD (qmq a b c p) p:=fun x hx=>by
 unfold qmq at hx
 obtain⟨i,_,rfl⟩:=List.mem_map.1 hx
 have h0:=Int.emod_nonneg (a.getD i 0+c*b.getD i 0) (show p≠0 by omega)
 have h1:=Int.emod_lt_of_pos (a.getD i 0+c*b.getD i 0) (show 0<p by omega)
 omega
theorem qjE(a b:Sim)(c p:Int)(hp:2≤p∧p≤251)(hc:0≤c∧c≤250)(hl:a.length≤b.length)(ha1:a.length≤1048576)(ea:∀ x∈a,0≤x∧x≤250)(eb:∀ x∈b,0≤x∧x≤250) :
  Ret E n_Z140 [dL a,dL b,dI c,dI p] ⟨o_Z140,(qmq a b c p,())⟩:=by
 refine qai ?_
 simp only[run_Z140,Z140.ev]
 refine Ev.start (p:=fun φ n=>Z140.l0 (mkR (run E (φ 0))) (φ 0) n a b c p 0 []=_) 1 ?_ (fun _ _ _ h=>h)
 refine qam 1 (L:=fun φ n k o=>Z140.l0 (mkR (run E (φ 0))) (φ 0) n a b c p k o) (len:=a.length) (fun k=>(List.range k).map fun i=>(a.getD i 0+c*b.getD i 0)%p) (fun _ _ _ _ _=>rfl) (fun k r hk ih=>?_) ?_
 ·simp only[Z140.l0_succ _ qae]
  have hkb:k<b.length:=by omega
  have h1:=ea _ (List.getElem_mem hk)
  have h2:=qeq hc (eb _ (List.getElem_mem hkb))
  rw[List.range_succ,List.map_append,List.map_singleton,qac hk,qac hkb] at ih
  refine qax (decide_eq_true (by omega)) (qab (qaj hk) (qab (qaj hkb) (qao (by simp;omega) ?_)))
  rw[qag (n:=c*b[k]) (by omega) (by omega),qag (by omega) (by omega),Int.tmod_eq_emod_of_nonneg (by omega),qad (by omega)]
  exact qao (by simp;omega) ih
 ·simp only[Z140.l0_succ _ qae]
  exact qaC (decide_eq_false (by omega)) qal
theorem qoC(a b:Sim)(p:Int)(hp:2≤p∧p≤251)(ha:a.length≤32)(hb:a.length≤b.length)(ea:∀ x∈a,0≤x∧x≤250)(eb:∀ x∈b,0≤x∧x≤250) :
  Ret E n_Z141 [dL a,dL b,dI p] ⟨o_Z141,(qaI (fun l=>a.getD l 0) (fun l=>b.getD l 0) a.length%p,())⟩:=by
 refine qai ?_
 simp only[run_Z141,Z141.ev]
 refine Ev.start (p:=fun φ n=>Z141.l0 (mkR (run E (φ 0))) (φ 0) n a b p 0 0=_) 1 ?_ (fun _ _ _ h=>h)
 have:=qam 1 (L:=fun φ n k s=>Z141.l0 (mkR (run E (φ 0))) (φ 0) n a b p s k) (len:=a.length) (fun k=>qaI (fun l=>a.getD l 0) (fun l=>b.getD l 0) k%p) (r:=some ⟨o_Z141,(qaI (fun l=>a.getD l 0) (fun l=>b.getD l 0) a.length%p,())⟩) (fun _ _ _ _ _=>rfl) (fun k r hk ih=>?_) ?_
 ·simpa [qaI] using this
 ·simp only[Z141.l0_succ _ qae]
  have hkb:k<b.length:=by omega
  have hm:=qeq (ea _ (List.getElem_mem hk)) (eb _ (List.getElem_mem hkb))
  have h0:=Int.emod_nonneg (qaI (fun l=>a.getD l 0) (fun l=>b.getD l 0) k) (show p≠0 by omega)
  have h1:=Int.emod_lt_of_pos (qaI (fun l=>a.getD l 0) (fun l=>b.getD l 0) k) (show 0<p by omega)
  refine qax (decide_eq_true (by omega)) (qab (qaj hk) (qab (qaj hkb) (qao (by simp;omega) ?_)))
  rw[qag (n:=a[k]*b[k]) (by omega) (by omega),qag (by omega) (by omega),Int.tmod_eq_emod_of_nonneg (by omega),Int.emod_add_emod,qad (by omega)]
  simp only[qaI] at ih
  rw[qac hk,qac hkb] at ih
  exact ih
 ·simp only[Z141.l0_succ _ qae]
  exact qaC (decide_eq_false (by omega)) qal
def qov(m:Mat)(a:Nat)(t:Int)(i n:Nat):St:=(List.range n).map fun j=>(a+j,m.2.2.2.1.getD (i*m.2.2.1.toNat+j) 0*t%m.1)
def qjB(m:Mat)(a n:Nat)(t:Int)(i:Nat):Sim:=qc4 (qov m a t i m.2.2.1.toNat) (List.replicate n 0)
theorem qnW{m:Mat}{a:Nat}{t:Int}{i n:Nat}{cs:Sim}:qc4 (qov m a t i (n+1)) cs=(qc4 (qov m a t i n) cs).set (a+n) (m.2.2.2.1.getD (i*m.2.2.1.toNat+n) 0*t%m.1):=by
 unfold qov
 rw[List.range_succ,List.map_append,qcy];rfl
theorem qdi{m:Mat}{a n:Nat}{t:Int}{i:Nat}:(qjB m a n t i).length=n:=by rw[qjB,qa2,List.length_replicate]
theorem qkk{m:Mat}{a n:Nat}{t:Int}{i j:Nat}(hj:j<m.2.2.1.toNat)(hn:a+j<n):(qjB m a n t i).getD (a+j) 0=m.2.2.2.1.getD (i*m.2.2.1.toNat+j) 0*t%m.1:=by
 unfold qjB
 refine qnl (by rw[List.length_replicate];exact hn) (fun x hx e=>?_) ⟨_,List.mem_map.2 ⟨j,List.mem_range.2 hj,rfl⟩,rfl⟩
 obtain⟨j',_,rfl⟩:=List.mem_map.1 hx
 simp only at e ⊢
 obtain rfl:j'=j:=by omega
 rfl
theorem qeE{m:Mat}{a n:Nat}{t:Int}{i g:Nat}(h:¬ (a≤g∧g<a+m.2.2.1.toNat)):(qjB m a n t i).getD g 0=0:=by
 unfold qjB
 rw[qin fun x hx e=>?_]
 ·rw[List.getD_eq_getElem?_getD,List.getElem?_replicate];split<;>rfl
 ·obtain⟨j',hj',rfl⟩:=List.mem_map.1 hx
  have:=List.mem_range.1 hj'
  simp only at e
  omega
theorem qnV{m:Mat}{a n:Nat}{t:Int}{i:Nat}(hp:2≤m.1):qaD (qjB m a n t i) m.1:=by
 refine qgF (qh2 hp) fun q hq=>?_
 obtain⟨j,_,rfl⟩:=List.mem_map.1 hq
 have h0:=Int.emod_nonneg (m.2.2.2.1.getD (i*m.2.2.1.toNat+j) 0*t) (show m.1≠0 by omega)
 have h1:=Int.emod_lt_of_pos (m.2.2.2.1.getD (i*m.2.2.1.toNat+j) 0*t) (show 0<m.1 by omega)
 simp only;omega
theorem qh3(m:Mat)(a n:Nat)(t:Int)(hm:VM m)(ha:(a:Int)+m.2.2.1≤n)(hn:n≤1048576)(ht:0≤t∧t≤250):Ret E n_Z198 [dM m,dI (a:Int),dI (n:Int),dI t] ⟨o_Z198,((List.range m.2.1.toNat).map (qjB m a n t),())⟩:=by
 obtain⟨R,C,em,hR,hC,hlen⟩:=hm.nat
 have hp:2≤m.1∧m.1≤251:=⟨hm.1.1,hm.1.2.1⟩
 have el:=hm.2.2.2.2
 have eR:m.2.1=(R:Int):=congrArg (fun m:Mat=>m.2.1) em
 have eC:m.2.2.1=(C:Int):=congrArg (fun m:Mat=>m.2.2.1) em
 have hRC:=qcs hR hC
 rw[eC] at ha
 rw[eR,Int.toNat_natCast]
 refine qai ?_
 simp only[run_Z198,Z198.ev]
 refine Ev.start (p:=fun φ q=>Z198.l0 (mkR (run E (φ 0))) (φ 0) q m (a:Int) (n:Int) t 0 []=_) 1 ?_ (fun _ _ _ h=>h)
 refine qam 1 (L:=fun φ q i o=>Z198.l0 (mkR (run E (φ 0))) (φ 0) q m (a:Int) (n:Int) t i o) (len:=R) (fun i=>(List.range i).map (qjB m a n t)) (fun _ _ _ _ _=>rfl) (fun i r hi ih=>?_) ?_
 ·simp only[Z198.l0_succ _ qae,eR,Int.toNat_natCast]
  rw[List.range_succ,List.map_append,List.map_singleton] at ih
  refine qax (decide_eq_true (by omega)) (qao (by simp only[Bool.and_eq_true,decide_eq_true_eq];omega) ?_)
  refine Ev.start (p:=fun φ q=>Z198.l1 (mkR (run E (φ 0))) (φ 0) (φ 1) q m (a:Int) (n:Int) t (i:Int) 0 ((List.range i).map (qjB m a n t)) (List.replicate n 0)=_) 2 ?_ (fun _ _ _ h=>h)
  refine qam 2 (L:=fun φ q j o=>Z198.l1 (mkR (run E (φ 0))) (φ 0) (φ 1) q m (a:Int) (n:Int) t (i:Int) j ((List.range i).map (qjB m a n t)) o) (len:=C) (fun j=>qc4 (qov m a t i j) (List.replicate n 0)) (fun _ _ _ _ _=>rfl) (fun j q hj ih2=>?_) ?_
  ·simp only[Z198.l1_succ _ qae]
   have hij:i*C+j<m.2.2.2.1.length:=by rw[hlen];exact qeY hi hj
   have hx:=el.get hp (i*C+j)
   rw[qnW,eC,Int.toNat_natCast,qac hij] at ih2
   rw[qac hij] at hx
   have hol':(qc4 (qov m a t i j) (List.replicate n 0)).length=n:=by rw[qa2,List.length_replicate]
   have ev:=qnv hx ht hp
   have e1:w64 (w64 ((i:Int)*(C:Int))+(j:Int))=((i*C+j:Nat):Int):=by
    rw[qaY,qag (n:=((i*C:Nat):Int)) (by omega) (by omega),qag (by omega) (by omega)];omega
   have e2:w64 ((a:Int)+(j:Int))=((a+j:Nat):Int):=by rw[qag (by omega) (by omega)];omega
   simp only[eC,e1,e2,hol',Int.toNat_natCast]
   refine qax (decide_eq_true (by omega)) (qab (qaj hij) (qao (by simp;omega) ?_))
   simp only[ev]
   refine qao (by simp only[Bool.and_eq_true,decide_eq_true_eq];omega) ?_
   rw[qad (by omega)]
   exact ih2
  ·simp only[Z198.l1_succ _ qae,eC]
   refine qaC (decide_eq_false (by omega)) (qao (by simp;omega) ?_)
   rw[qad (by omega)]
   rw[qjB,eC,Int.toNat_natCast] at ih
   exact ih
 ·simp only[Z198.l0_succ _ qae,eR]
  exact qaC (decide_eq_false (by omega)) qal
theorem qoe(a b:List Sim)(p:Int)(hp:2≤p∧p≤251)(hl:b.length=a.length)(ha:a.length≤1048576)(hr:∀ i (h:i<a.length) (h':i<b.length),a[i].length≤b[i].length∧a[i].length≤1048576∧(∀ x∈a[i],0≤x∧x≤250)∧∀ x∈b[i],0≤x∧x≤250) :
  Ret E n_Z200 [dLL a,dLL b,dI p] ⟨o_Z200,((List.range a.length).map fun i=>qmq (a.getD i []) (b.getD i []) 1 p,())⟩:=by
 refine qai ?_
 simp only[run_Z200,Z200.ev]
 refine Ev.start (p:=fun φ n=>Z200.l0 (mkR (run E (φ 0))) (φ 0) n a b p 0 []=_) 1 ?_ (fun _ _ _ h=>h)
 refine qam 1 (L:=fun φ n k o=>Z200.l0 (mkR (run E (φ 0))) (φ 0) n a b p k o) (len:=a.length) (fun k=>(List.range k).map fun i=>qmq (a.getD i []) (b.getD i []) 1 p) (fun _ _ _ _ _=>rfl) (fun k r hk ih=>?_) ?_
 ·simp only[Z200.l0_succ _ qae]
  have hkb:k<b.length:=by omega
  obtain⟨h1,h2,h3,h4⟩:=hr k hk hkb
  rw[List.range_succ,List.map_append,List.map_singleton,qac hk,qac hkb] at ih
  refine qax (decide_eq_true (by omega)) (qab (qaj hk) (qab (qaj hkb) (qaa (qjE a[k] b[k] 1 p hp (by omega) h1 h2 h3 h4) (qao (by simp;omega) ?_))))
  rw[qad (by omega)];exact ih
 ·simp only[Z200.l0_succ _ qae]
  exact qaC (decide_eq_false (by omega)) qal
end VeT
open Go Go.Proofs Ve
namespace VeT
noncomputable def qma(c:List Sim)(p:Int)(st:Sim)(ms:List Mat)(k:Int)(r:Nat):Sim:=(List.range (SD c st k).toNat).map fun g=>(qdO c p st ms k).getD (r*(SD c st k).toNat+g) 0
theorem qdc{c:List Sim}{p:Int}{st:Sim}{ms:List Mat}{k:Int}{r:Nat}:(qma c p st ms k r).length=(SD c st k).toNat:=by simp[qma]
theorem qkX{c:List Sim}{p:Int}{st:Sim}{ms:List Mat}{k:Int}{r g:Nat}(h:g<(SD c st k).toNat):(qma c p st ms k r).getD g 0=(qdO c p st ms k).getD (r*(SD c st k).toNat+g) 0:=by
 simp[qma,List.getD_eq_getElem?_getD,h]
theorem qrm{c:List Sim}{p:Int}{st:Sim}{ms:List Mat}(h:VS c p st ms){k:Int}{r:Nat}:∀ x∈qma c p st ms k r,0≤x∧x≤250:=fun x hx=>by
 unfold qma at hx
 obtain⟨g,_,rfl⟩:=List.mem_map.1 hx
 exact(qbF h k).get ⟨h.2.1.1,h.2.1.2.1⟩ _
theorem qhQ{a b:Sim}(hl:a.length=b.length)(h:∀ i,i<a.length→a.getD i 0=b.getD i 0):a=b:=by
 refine List.ext_getElem hl fun i h1 h2=>?_
 have:=h i h1
 rwa [qac h1,qac h2] at this
theorem qgo{c:List Sim}{s:Nat}(h2:(c.getD s []).length=2):(qaH c s).length=2:=by
 rw[qaz,if_pos (by omega)];exact h2
theorem qnJ{c:List Sim}{p:Int}{st:Sim}{ms:List Mat}(h:VS c p st ms){s i:Nat}(hs:s<c.length)(h2:(c.getD s []).length=2)(hi:i<(st.getD s 0).toNat) :
  qmq (qjB (mp c ms s 0) (FC c st (fc c s 0)).toNat (SD c st 0).toNat 1 i) (qjB (mp c ms s 1) (FC c st (fc c s 1)).toNat (SD c st 0).toNat (p-1) i) 1 p=qma c p st ms 0 ((FC c st s).toNat+i):=by
 have hst:=h.2.2.1.2.1
 have hp:2≤p∧p≤251:=⟨h.2.1.1,h.2.1.2.1⟩
 have hfl:=qgo h2
 have hd:((c.getD s []).length:Int)=0+2:=by omega
 obtain⟨a1,a2,a3,a4,a5,a6,a7⟩:=qbQ h hs hd (a:=0) (by omega)
 obtain⟨b1,b2,b3,b4,b5,b6,b7⟩:=qbQ h hs hd (a:=1) (by omega)
 obtain⟨_,A⟩:=h.map hs (i:=0) (by omega)
 obtain⟨_,B⟩:=h.map hs (i:=1) (by omega)
 have hne:fc c s 0≠fc c s 1:=fun e=>by have:=qny h.1 hs (a:=0) (b:=1) (by omega) (by omega) e;omega
 have na:=qcC hst (fc c s 0)
 have nb:=qcC hst (fc c s 1)
 refine qhQ (by rw[qfo,qdi,qdc]) fun g hg=>?_
 rw[qfo,qdi] at hg
 rw[qni (by rw[qdi];exact hg),qkX hg]
 have one:∀ x:Int,(x%p+1*0)%p=x%p:=fun x=>by rw[Int.mul_zero,Int.add_zero,Int.emod_emod_of_dvd _ (Int.dvd_refl p)]
 have two:∀ x:Int,(0+1*(x%p))%p=x%p:=fun x=>by rw[Int.one_mul,Int.zero_add,Int.emod_emod_of_dvd _ (Int.dvd_refl p)]
 have A1:(mp c ms s 0).1=p:=A.2.1
 have B1:(mp c ms s 1).1=p:=B.2.1
 by_cases hA:(FC c st (fc c s 0)).toNat≤g∧g<(FC c st (fc c s 0)).toNat+(st.getD (fc c s 0) 0).toNat
 ·obtain⟨j,rfl⟩:∃ j,g=(FC c st (fc c s 0)).toNat+j:=⟨g-(FC c st (fc c s 0)).toNat,by omega⟩
  have hj:j<(st.getD (fc c s 0) 0).toNat:=by omega
  rw[qkk (by rw[a2];exact hj) hg,qeE (m:=mp c ms s 1),A1,one]
  ·rw[qkz h (by omega) hs hd (a:=0) (by omega) hi hj];rfl
  ·rw[b2]
   intro hh
   obtain⟨q,hq⟩:∃ q,(FC c st (fc c s 0)).toNat+j=(FC c st (fc c s 1)).toNat+q:=⟨(FC c st (fc c s 0)).toNat+j-(FC c st (fc c s 1)).toNat,by omega⟩
   exact hne (qgM hst (by omega) hj (i':=q) (by omega) hq).1
 ·by_cases hB:(FC c st (fc c s 1)).toNat≤g∧g<(FC c st (fc c s 1)).toNat+(st.getD (fc c s 1) 0).toNat
  ·obtain⟨j,rfl⟩:∃ j,g=(FC c st (fc c s 1)).toNat+j:=⟨g-(FC c st (fc c s 1)).toNat,by omega⟩
   have hj:j<(st.getD (fc c s 1) 0).toNat:=by omega
   rw[qeE (m:=mp c ms s 0) (by rw[a2];exact hA),qkk (by rw[b2];exact hj) hg,B1,two]
   rw[qkz h (by omega) hs hd (a:=1) (by omega) hi hj];rfl
  ·rw[qeE (m:=mp c ms s 0) (by rw[a2];exact hA),qeE (m:=mp c ms s 1) (by rw[b2];exact hB)]
   rw[qkZ h hs hd hi hg fun a ha=>?_]
   ·simp
   ·have:a=0∨a=1:=by omega
    rcases this with rfl | rfl
    ·exact hA
    ·exact hB
noncomputable def qfc(c:List Sim)(p:Int)(st:Sim)(ms:List Mat)(n:Nat):List Sim:=(List.range n).map (qma c p st ms 0)
theorem qp4{c:List Sim}{p:Int}{st:Sim}{ms:List Mat}{a b:Nat}:qfc c p st ms (a+b)=qfc c p st ms a++(List.range b).map fun i=>qma c p st ms 0 (a+i):=by
 induction b with
 | zero=>simp
 | succ b ih =>
  unfold qfc at ih ⊢
  rw[← Nat.add_assoc,List.range_succ,List.map_append,ih,List.range_succ,List.map_append,List.append_assoc];rfl
theorem qcM{c:List Sim}{p:Int}{st:Sim}{ms:List Mat}{n:Nat}:(qfc c p st ms n).length=n:=by simp[qfc]
theorem qrQ{c:List Sim}{st:Sim}{d:Int}{t s:Nat}(ht:t<(qav c d c.length).length)(hs:(qav c d c.length)[t]=(s:Int))(hd:((c.getD s []).length:Int)=d+1)(hsl:s<c.length):qf3 c st d t=FC c st s:=by
 obtain⟨tl,e⟩:=qlA (c:=c) (d:=d) hsl hd
 have hu:t=(qav c d s).length:=by
  rcases Nat.lt_trichotomy t (qav c d s).length with h | h | h
  ·have h1:(qav c d c.length)[t]? = (qav c d s)[t]?:=by rw[e,List.getElem?_append_left h]
   rw[List.getElem?_eq_getElem ht,List.getElem?_eq_getElem h,hs] at h1
   obtain⟨i,hi,his⟩:=qeF (List.getElem_mem h)
   have:=Option.some.inj h1
   omega
  ·exact h
  ·-- behind s only greater ones
   exfalso
   have hmono:∀ n m i j,i<(qav c d n).length→j<(qav c d n).length→i<j→m=n→(qav c d n).getD i 0<(qav c d n).getD j 0:=by
    intro n
    induction n with
    | zero=>intro m i j hi;simp[qav] at hi
    | succ n ih =>
     intro m i j hi hj hij hm
     rw[qcA] at hi hj ⊢
     by_cases hl:((c.getD n []).length:Int)=d+1
     ·rw[if_pos hl] at hi hj ⊢
      rw[List.length_append,List.length_singleton] at hi hj
      by_cases hjn:j<(qav c d n).length
      ·have:=ih n i j (by omega) hjn hij rfl
       rw[List.getD_eq_getElem?_getD,List.getD_eq_getElem?_getD,List.getElem?_append_left (by omega),List.getElem?_append_left hjn]
       rw[List.getD_eq_getElem?_getD,List.getD_eq_getElem?_getD] at this
       exact this
      ·have hin:i<(qav c d n).length:=by omega
       obtain⟨q,hq,hqn⟩:=qeF (List.getElem_mem hin)
       rw[List.getD_eq_getElem?_getD,List.getD_eq_getElem?_getD,List.getElem?_append_left hin,List.getElem?_append_right (by omega),List.getElem?_eq_getElem hin,hq,show j-(qav c d n).length=0 by omega]
       simp;omega
     ·rw[if_neg hl,List.append_nil] at hi hj ⊢
      exact ih n i j hi hj hij rfl
   have hlt:(qav c d s).length<(qav c d c.length).length:=by rw[e];simp
   have:=hmono c.length c.length _ t hlt ht h rfl
   rw[qac ht,hs,List.getD_eq_getElem?_getD,e,List.getElem?_append_right (Nat.le_refl _),Nat.sub_self] at this
   simp at this
 have hdd:((c.getD s []).length:Int)-1=d:=by omega
 unfold FC
 rw[hdd]
 unfold qf3 SDn
 rw[hu,e,List.take_left' rfl]
theorem qdX(x:Shf)(hc:Sm (.sl (.sl (.int .i64))) x.1)(h:VS x.1 x.2.1 x.2.2.1 x.2.2.2.1):Ret E n_Z193 [dS x] ⟨o_Z193,(qfc x.1 x.2.1 x.2.2.1 x.2.2.2.1 (SD x.1 x.2.2.1 1).toNat,())⟩:=by
 obtain⟨c,p,st,ms,⟨⟩⟩:=x
 have hc:Sm (.sl (.sl (.int .i64))) c:=hc
 have h:VS c p st ms:=h
 show Ret E n_Z193 [dS (c,p,st,ms,())] ⟨o_Z193,(qfc c p st ms (SD c st 1).toNat,())⟩
 obtain⟨W,eW,bW,tW⟩:=qb3 h 0
 obtain⟨H,eH,bH,tH⟩:=qb3 h 1
 have hst:=h.2.2.1.2.1
 have h48:=h.1.1
 have hp:2≤p∧p≤251:=⟨h.2.1.1,h.2.1.2.1⟩
 have hol:=qbu c 1 c.length
 have ep:w64 (p-1)=p-1:=qag (by omega) (by omega)
 have all:=qg4 (c,p,st,ms,()) hc h
 rw[show SD (c,p,st,ms,()).1 (c,p,st,ms,()).2.2.1 0=(W:Int) from eW] at all
 refine qai ?_
 simp only[run_Z193,Z193.ev]
 refine qaa all (qaa (qiH c 1 hc (by omega)) ?_)
 refine Ev.start (p:=fun φ n=>Z193.l0 (mkR (run E (φ 0))) (φ 0) n (c,p,st,ms,()) (W:Int) (qav c 1 c.length) 0 []=_) 1 ?_ (fun _ _ _ h=>h)
 have:=qam 1 (L:=fun φ n t o=>Z193.l0 (mkR (run E (φ 0))) (φ 0) n (c,p,st,ms,()) (W:Int) (qav c 1 c.length) t o) (len:=(qav c 1 c.length).length) (fun t=>qfc c p st ms (qf3 c st 1 t).toNat) (r:=some ⟨o_Z193,(qfc c p st ms (SD c st 1).toNat,())⟩) (fun _ _ _ _ _=>rfl) (fun t q ht ih=>?_) ?_
 ·exact this
 ·simp only[Z193.l0_succ _ qae]
  obtain⟨s,hse,hs,hd⟩:=qd3.1 (List.getElem_mem ht)
  have hg:(qav c 1 c.length)[t]? = some (s:Int):=by rw[List.getElem?_eq_getElem ht,hse]
  have h2:(c.getD s []).length=2:=by omega
  have hfl:=qgo h2
  have hd0:((c.getD s []).length:Int)=0+2:=by omega
  obtain⟨a1,a2,a3,a4,a5,a6,a7⟩:=qbQ h hs hd0 (a:=0) (by omega)
  obtain⟨b1,b2,b3,b4,b5,b6,b7⟩:=qbQ h hs hd0 (a:=1) (by omega)
  obtain⟨_,A⟩:=h.map hs (i:=0) (by omega)
  obtain⟨_,B⟩:=h.map hs (i:=1) (by omega)
  obtain⟨ix0,_,_⟩:=qaW h.1 hs (i:=0) (by omega)
  obtain⟨ix1,_,_⟩:=qaW h.1 hs (i:=1) (by omega)
  have na:=qcC hst (fc c s 0)
  have nb:=qcC hst (fc c s 1)
  have ns:=qcC hst s
  have f0:=qhf (c,p,st,ms,()) (fc c s 0) a3 (by show(c.getD (fc c s 0) []).length=1;omega) h
  have f1:=qhf (c,p,st,ms,()) (fc c s 1) b3 (by show(c.getD (fc c s 1) []).length=1;omega) h
  obtain⟨T0,e0⟩:=Int.eq_ofNat_of_zero_le a6
  obtain⟨T1,e1⟩:=Int.eq_ofNat_of_zero_le b6
  rw[show FC (c,p,st,ms,()).1 (c,p,st,ms,()).2.2.1 (fc c s 0)=(T0:Int) from e0] at f0
  rw[show FC (c,p,st,ms,()).1 (c,p,st,ms,()).2.2.1 (fc c s 1)=(T1:Int) from e1] at f1
  have r0:=qh3 (mp c ms s 0) T0 W 1 A.1 (by omega) (by omega) (by omega)
  have r1:=qh3 (mp c ms s 1) T1 W (p-1) B.1 (by omega) (by omega) (by omega)
  have A1:(mp c ms s 0).1=p:=A.2.1
  have B1:(mp c ms s 1).1=p:=B.2.1
  have hR0:(mp c ms s 0).2.1.toNat=(st.getD s 0).toNat:=by rw[a1]
  have hR1:(mp c ms s 1).2.1.toNat=(st.getD s 0).toNat:=by rw[b1]
  rw[hR0] at r0
  rw[hR1] at r1
  have hin:∀ m:Mat,m.1=p→∀ a t i,∀ x∈qjB m a W t i,0≤x∧x≤250:=fun m hm a t i x hx=>by
   have:=qnV (m:=m) (a:=a) (n:=W) (t:=t) (i:=i) (by omega)
   rw[hm] at this
   exact this.mem hp x hx
  have sm:=qoe ((List.range (st.getD s 0).toNat).map (qjB (mp c ms s 0) T0 W 1)) ((List.range (st.getD s 0).toNat).map (qjB (mp c ms s 1) T1 W (p-1))) p hp (by simp) (by rw[List.length_map,List.length_range];omega) (fun i hi hi'=>by
   simp only[List.getElem_map,List.getElem_range,qdi]
   exact⟨Nat.le_refl _,by omega,hin _ A1 _ _ _,hin _ B1 _ _ _⟩)
  rw[List.length_map,List.length_range] at sm
  have hbk:=qhZ hst 1 t (c:=c)
  have hFC:=qrQ ht hse hd hs (st:=st)
  have hrow:((List.range (st.getD s 0).toNat).map fun i=>qmq (((List.range (st.getD s 0).toNat).map (qjB (mp c ms s 0) T0 W 1)).getD i []) (((List.range (st.getD s 0).toNat).map (qjB (mp c ms s 1) T1 W (p-1))).getD i []) 1 p)=(List.range (st.getD s 0).toNat).map fun i=>qma c p st ms 0 ((qf3 c st 1 t).toNat+i):=List.map_congr_left fun i hi=>by
   have hi:=List.mem_range.1 hi
   have hE:=qnJ h hs h2 hi
   rw[e0,e1,Int.toNat_natCast,Int.toNat_natCast,tW] at hE
   rw[hFC,← hE]
   generalize (st.getD s 0).toNat=n at hi ⊢
   simp[List.getD_eq_getElem?_getD,hi]
  rw[hrow] at sm
  rw[qeQ _ _ _ _ ht,hse,Int.toNat_natCast,show(qf3 c st 1 t+st.getD s 0).toNat=(qf3 c st 1 t).toNat+(st.getD s 0).toNat by omega,qp4] at ih
  refine qax (decide_eq_true (by omega)) (qab (qaV.trans hg) (qaa (qca c s hs hc) (qab (qaV.trans hg) (qab ix0 (qaa (qdT (c,p,st,ms,()) s 0 hs (by show 0<(qaH c s).length;omega) h) (qaa f0 (qaa r0 (qab (qaV.trans hg) (qab ix1 (qaa (qdT (c,p,st,ms,()) s 1 hs (by show 1<(qaH c s).length;omega) h) (qaa f1 ?_)))))))))))
  simp only[ep]
  refine qaa r1 (qaa sm (qao (by simp only[qcM,List.length_map,List.length_range,decide_eq_true_eq];omega) ?_))
  rw[qad (by omega)]
  exact ih
 ·simp only[Z193.l0_succ _ qae]
  exact qaC (decide_eq_false (by omega)) qal
end VeT
open Go Go.Proofs Ve
namespace VeT
def Sec(x:Shf)(v:Sim):Prop:=qgx x 0 v∧Zs (qgu x 0 v)
theorem qqo{x:Shf}{v:Sim}(hs:ISh x)(h:qgx x 0 v):(ISh x∧(0:Int)≤0∧(0:Int)≤3)∧qgx x 0 v:=⟨⟨hs,by omega,by omega⟩,h⟩
theorem qfY(x:Shf)(v:Sim)(hx:Sm (.st cS) x)(hv:Sm (.sl (.int .i64)) v)(hs:ISh x):Ret E n_Z56 [dLL x.1,dI x.2.1,dL x.2.2.1,dMs x.2.2.2.1,dL v] ⟨o_Z56,(pb (Sec x v),())⟩:=by
 have hp:=hs.1.2.1
 refine qai ?_
 simp only[run_Z56,Z56.ev]
 refine qaa (qcO _ _ _ _ _ hx.1 hs.1.2.2.1.1 hs.1.2.2.1.2.1 (by omega)) (qaa (qhe v (SD x.1 x.2.2.1 0) x.2.1 hv.1 ⟨by have:=hp.1;omega,by have:=hp.2.1;omega⟩) (qbB (fun h=>?_) fun h=>qah ?_))
 ·have h:qgx x 0 v:=qaA.1 (show pb (qgx x 0 v)=true by simpa [qgx] using h)
  have hl:=qhU (k:=0) (v:=v) hs
  refine qaa (qcP x.1 x.2.1 x.2.2.1 x.2.2.2.1 0 (by omega) hx.1 hs.1) (qaa (qpG (qqo hs h)) (qaa (qjM (qgu x 0 v) (by omega)) (qah ?_)))
  exact congrArg (fun b:Bool=>some (⟨o_Z56,(b,())⟩:Dv)) (qaG ⟨fun e=>⟨h,e⟩,fun e=>e.2⟩)
 ·have h:¬ qgx x 0 v:=qaN.1 (show pb (qgx x 0 v)=false by simpa [qgx] using h)
  rw[qap fun e=>h e.1]
theorem qji(v:Sim)(p:Int)(hv:v.length≤1048576)(hp:0≤p∧p≤1048576):Ret E n_Z143 [dL v,dI p] ⟨o_Z143,(pb (qaD v p∧v.length≤64),())⟩:=by
  have e:w64 (p-1)=p-1:=qag (by omega) (by omega)
  refine qai ?_
  simp only[run_Z143,Z143.ev]
  refine Ev.start (p:=fun φ n'=>Z143.l0 (mkR (run E (φ 0))) (φ 0) n' v p 0=_) 1 ?_ (fun _ _ _ h=>h)
  refine(qcj 1 (L:=fun φ n' k=>Z143.l0 (mkR (run E (φ 0))) (φ 0) n' v p k) (len:=v.length) 0 (by omega) (fun j=>0≤v.getD j 0∧v.getD j 0≤p-1) (fun b=>some ⟨o_Z143,(b&&decide ((v.length:Int)≤64),())⟩) (fun _ _ _ _=>rfl) (fun k h1 h2 hP _=>?_) (fun k r h1 h2 hP _ ih=>?_) (fun _=>?_)).to ?_
  · simp only[Z143.l0_succ _ qae,e]
    rw[qac h2] at hP
    exact qax (decide_eq_true (by omega)) (qab (qaj h2) (qaa (qbM _ _ _) (qax (by rw[qap hP];rfl) qal)))
  · simp only[Z143.l0_succ _ qae,e]
    rw[qac h2] at hP
    refine qax (decide_eq_true (by omega)) (qab (qaj h2) (qaa (qbM _ _ _) (qaC (by rw[qaF hP];rfl) ?_)))
    rw[qad (by omega)];exact ih
  · simp only[Z143.l0_succ _ qae]
    exact qaC (decide_eq_false (by omega)) (qah (by rw[Bool.true_and]))
  · have:(pb (∀ j,0≤j→j<v.length→0≤v.getD j 0∧v.getD j 0≤p-1)&&decide ((v.length:Int)≤64))=pb (qaD v p∧v.length≤64):=qfE (by
      rw[Bool.and_eq_true,qaA,decide_eq_true_iff]
      refine⟨fun⟨h,h2⟩=>⟨fun x hx=>?_,by omega⟩,fun⟨h,h2⟩=>⟨fun j _ hj=>?_,by omega⟩⟩
      · obtain⟨j,hj,rfl⟩:=List.mem_iff_getElem.1 hx
        have:=h j (by omega) hj
        rwa [qac hj] at this
      · rw[qac hj];exact h _ (List.getElem_mem hj))
    rw[this]
theorem qkI(p n:Int)(v:Sim)(hv:v.length≤1048576)(hp:0≤p∧p≤1048576)(hn:n≤64):Ret E n_Z160 [dI p,dI n,dL v] ⟨o_Z160,(pb (qaD v p∧(v.length:Int)=n),())⟩:=by
 refine qai ?_
 simp only[run_Z160,Z160.ev]
 refine qaa (qji v p hv hp) (qbB (fun h=>qah ?_) fun h=>qah ?_)
 ·have h:=qaA.1 (show pb (qaD v p∧v.length≤64)=true by simpa using h)
  have:((v.length:Int)==n)=pb (qaD v p∧(v.length:Int)=n):=qfE (by
   rw[beq_iff_eq];exact⟨fun e=>⟨h.1,e⟩,fun e=>e.2⟩)
  rw[this]
 ·have h:=qaN.1 (show pb (qaD v p∧v.length≤64)=false by simpa using h)
  rw[qap fun e=>h ⟨e.1,by omega⟩]
theorem qpa(x:Shf)(v:Sim)(hx:Sm (.st cS) x)(hv:Sm (.sl (.int .i64)) v)(hs:ISh x):Ret E n_Z196 [dS x,dL v] ⟨o_Z196,(pb (Sec x v),())⟩:=by
 have hp:=hs.1.2.1
 have hp2:2≤x.2.1∧x.2.1≤251:=⟨hp.1,hp.2.1⟩
 obtain⟨W,eW,bW,tW⟩:=qb3 hs.1 0
 obtain⟨H,eH,bH,tH⟩:=qb3 hs.1 1
 refine qai ?_
 simp only[run_Z196,Z196.ev]
 refine qaa (qg4 x hx.1 hs.1) (qaa (qkI x.2.1 (SD x.1 x.2.2.1 0) v hv.1 (by omega) (by omega)) (qbB (fun h=>qah ?_) fun h=>?_))
 ·have h:¬ qgx x 0 v:=qaN.1 (show pb (qgx x 0 v)=false by simpa [qgx] using h)
  rw[qap fun e=>h e.1]
 have h:qgx x 0 v:=qaA.1 (show pb (qgx x 0 v)=true by simpa [qgx] using h)
 have hvl:v.length=W:=by have:=h.2;omega
 have hin:=h.1.mem hp2
 refine qaa (qdX x hx.1 hs.1) ?_
 rw[tH]
 refine Ev.start (p:=fun φ n'=>Z196.l0 (mkR (run E (φ 0))) (φ 0) n' x v (qfc x.1 x.2.1 x.2.2.1 x.2.2.2.1 H) 0=_) 1 ?_ (fun _ _ _ h=>h)
 have hval:∀ k,k<H→(qaI (fun l=>(qma x.1 x.2.1 x.2.2.1 x.2.2.2.1 0 k).getD l 0) (fun l=>v.getD l 0) (qma x.1 x.2.1 x.2.2.1 x.2.2.2.1 0 k).length%x.2.1)=(qgu x 0 v).getD k 0:=fun k hk=>by
  have e:(qgu x 0 v).getD k 0=qaI (fun l=>(qev x 0).2.2.2.1.getD (k*W+l) 0) (fun l=>v.getD l 0) W%x.2.1:=by
   have e1:(qev x 0).2.2.1.toNat=W:=tW
   have e2:(SD x.1 x.2.2.1 (0+1)).toNat=H:=tH
   unfold qgu qhK
   rw[e2,List.getD_eq_getElem?_getD,List.getElem?_map,List.getElem?_range hk,e1]
   rfl
  rw[e,qdc,tW,qaE fun l hl=>⟨(qkX (by rw[tW];exact hl)),rfl⟩,tW]
  rfl
 have hdot:∀ k (hk:k<H),Ret E n_Z141 [dL (qma x.1 x.2.1 x.2.2.1 x.2.2.2.1 0 k),dL v,dI x.2.1] ⟨o_Z141,((qgu x 0 v).getD k 0,())⟩:=fun k hk=>by
  rw[← hval k hk]
  exact qoC _ v x.2.1 hp2 (by rw[qdc];omega) (by rw[qdc];omega) (qrm hs.1) hin
 have hg:∀ k,k<H→(qfc x.1 x.2.1 x.2.2.1 x.2.2.2.1 H)[k]? = some (qma x.1 x.2.1 x.2.2.1 x.2.2.2.1 0 k):=fun k hk=>by
  unfold qfc
  rw[List.getElem?_map,List.getElem?_range hk];rfl
 have hcl:(qgu x 0 v).length=H:=by unfold qgu;rw[qa9];exact tH
 refine(qcj 1 (L:=fun φ n' k=>Z196.l0 (mkR (run E (φ 0))) (φ 0) n' x v (qfc x.1 x.2.1 x.2.2.1 x.2.2.2.1 H) k) (len:=H) 0 (by omega) (fun j=>(qgu x 0 v).getD j 0=0) (fun b=>some ⟨o_Z196,(b,())⟩) (fun _ _ _ _=>rfl) (fun k h1 h2 hP _=>?_) (fun k r h1 h2 hP _ ih=>?_) (fun _=>?_)).to ?_
 ·simp only[Z196.l0_succ _ qae,qcM]
  exact qax (decide_eq_true (by omega)) (qab (qaV.trans (hg k h2)) (qaa (hdot k h2) (qax (by simpa using hP) qal)))
 ·simp only[Z196.l0_succ _ qae,qcM]
  refine qax (decide_eq_true (by omega)) (qab (qaV.trans (hg k h2)) (qaa (hdot k h2) (qaC (by simpa using hP) ?_)))
  rw[qad (by omega)];exact ih
 ·simp only[Z196.l0_succ _ qae,qcM]
  exact qaC (decide_eq_false (by omega)) qal
 ·rw[← hcl,qrv]
  exact congrArg (fun b:Bool=>some (⟨o_Z196,(b,())⟩:Dv)) (qaG ⟨fun e=>⟨h,e⟩,fun e=>e.2⟩)
noncomputable def qdN(x:Shf)(v:Sim):Bool×Unit:=(pb (ISh x∧Sec x v),())
theorem qgK(x:Shf)(v:Sim)(hx:Sm (.st cS) x)(hv:Sm (.sl (.int .i64)) v):Ret E n_Z126 [dLL x.1,dI x.2.1,dL x.2.2.1,dMs x.2.2.2.1,dL v] ⟨o_Z126,qdN x v⟩:=by
 refine qai ?_
 simp only[run_Z126,Z126.ev]
 refine qaa (qgm x hx) (qbB (fun h=>?_) fun h=>qah ?_)
 ·have h:=qaA.1 (show pb (ISh x)=true by simpa using h)
  refine qaa (qpa x v hx hv h) (qah ?_)
  rw[qdN,qaG (show ISh x∧Sec x v↔Sec x v from⟨fun e=>e.2,fun e=>⟨h,e⟩⟩)]
 ·have h:=qaN.1 (show pb (ISh x)=false by simpa using h)
  rw[qdN,qap fun e=>h e.1]
noncomputable def fvx(c:List Sim)(s:Nat):Nat:=(qdI c ((c.getD s []).take 1)).toNat
theorem qnk{c:List Sim}(h:VC c){s:Nat}(hs:s<c.length):∀ d n,n+d=(c.getD s []).length→1≤n→(c.getD s []).take n∈c
 | 0,n,e,_=>by
  rw[List.take_of_length_le (by omega),qac hs];exact List.getElem_mem hs
 | d+1,n,e,h1=>by
  have hm:=qnk h hs d (n+1) (by omega) (by omega)
  obtain⟨k,hk,ek⟩:=List.mem_iff_getElem.1 hm
  have hf:=h.2.2.2 k hk ((c.getD s []).take n) (qcK.2 ⟨?_,n,?_,?_⟩)
  ·exact hf
  ·rw[qac hk,ek,List.length_take];omega
  ·rw[qac hk,ek,List.length_take];omega
  ·rw[qac hk,ek]
   apply List.ext_getElem?
   intro j
   rw[List.getElem?_eraseIdx,List.getElem?_take,List.getElem?_take,List.getElem?_take]
   by_cases hj:j<n
   ·rw[if_pos hj,if_pos hj,if_pos (by omega)]
   ·rw[if_neg hj,if_neg hj,if_neg (by omega)]
theorem qgU{c:List Sim}(h:VC c){s:Nat}(hs:s<c.length):qdI c ((c.getD s []).take 1)=((fvx c s:Nat):Int)∧fvx c s<c.length∧c.getD (fvx c s) []=(c.getD s []).take 1∧(c.getD (fvx c s) []).length=1∧qfq (c.getD (fvx c s) []) (c.getD s []):=by
 have h1:=h.len1 hs
 have hm:=qnk h hs ((c.getD s []).length-1) 1 (by omega) (by omega)
 have h0:=qa4.2 hm
 have hlt:=qnq (c:=c) (s:=(c.getD s []).take 1)
 have hg:=ql5 hm
 refine⟨by unfold fvx;omega,by unfold fvx;omega,hg,?_,fun y hy=>?_⟩
 ·show(c.getD (qdI c ((c.getD s []).take 1)).toNat []).length=1
  rw[hg,List.length_take];omega
 ·have hy:y∈c.getD (qdI c ((c.getD s []).take 1)).toNat []:=hy
  rw[hg] at hy
  exact List.mem_of_mem_take hy
theorem qiL(x:Shf)(s:Nat)(hs:s<x.1.length)(hc:Sm (.sl (.sl (.int .i64))) x.1)(h:VC x.1):Ret E n_Z48 [dLL x.1,dI x.2.1,dL x.2.2.1,dMs x.2.2.2.1,dI (s:Int)] ⟨o_Z48,((fvx x.1 s:Nat),())⟩:=by
 have h1:=h.len1 hs
 have hg:=(qgU h hs).1
 rw[qac hs] at h1 hg
 refine qai ?_
 simp only[run_Z48,Z48.ev]
 refine qab (qaj hs) (qao (by simp only[Bool.and_eq_true,decide_eq_true_eq];omega) (qaa (qfz x.1 _ hc h.srt) (qah ?_)))
 rw[← hg];rfl
theorem qgQ{c:List Sim}{p:Int}{st:Sim}{ms:List Mat}{f:Nat}(hst:∀ x∈st,0≤x∧x≤3):∀ {d k:Nat},(qfa c p st ms f d k).2.2.1=st.getD f 0
 | 0,k=>by
  have:=qcC hst f
  show(((st.getD f 0).toNat:Nat):Int)=_;omega
 | d+1,k=>by
  have:=qcC hst f
  rw[qfa];split
  ·show(((st.getD f 0).toNat:Nat):Int)=_;omega
  ·exact qgQ hst (d:=d)
noncomputable def qbA(x:Shf)(f k:Nat):Mat:=qfa x.1 x.2.1 x.2.2.1 x.2.2.2.1 f (x.1.getD k []).length k
theorem qlT{c:List Sim}{st v:Sim}{s:Nat}(hst:∀ x∈st,0≤x∧x≤3)(h:FC c st s+st.getD s 0≤v.length):((qft c st v s).length:Int)=st.getD s 0:=by
 have h0:0≤FC c st s:=(qgg hst).1
 have h1:=qcC hst s
 unfold qft
 rw[List.length_drop,List.length_take];omega
noncomputable def atV(x:Shf)(v:Sim)(s:Nat):Sim:=qhK (qbA x (fvx x.1 s) s) (qft x.1 x.2.2.1 v (fvx x.1 s)) (x.2.2.1.getD s 0).toNat
theorem qgE{x:Shf}{v:Sim}{s:Nat}(h:VS x.1 x.2.1 x.2.2.1 x.2.2.2.1):(atV x v s).length≤3:=by
 have:=qcC h.2.2.1.2.1 s
 unfold atV;rw[qa9];omega
theorem qpE{x:Shf}{v:Sim}(h:VS x.1 x.2.1 x.2.2.1 x.2.2.2.1)(hv:qgx x 0 v){f:Nat}(hf:f<x.1.length)(h1:(x.1.getD f []).length=1):FC x.1 x.2.2.1 f+x.2.2.1.getD f 0≤v.length:=by
 have hb:=(qeb h.2.2.1.2.1 hf).2
 rw[show((x.1.getD f []).length:Int)-1=0 by omega,← hv.2] at hb
 exact hb
theorem qgi(x:Shf)(v:Sim)(s:Nat)(hs:s<x.1.length)(hx:Sm (.st cS) x)(hv1:Sm (.sl (.int .i64)) v)(h:VS x.1 x.2.1 x.2.2.1 x.2.2.2.1)(hv:qgx x 0 v) :
  Ret E n_Z74 [dLL x.1,dI x.2.1,dL x.2.2.1,dMs x.2.2.2.1,dL v,dI (s:Int)] ⟨o_Z74,(atV x v s,())⟩:=by
 obtain⟨_,hf,_,hf1,hpt⟩:=qgU h.1 hs
 have hst:=h.2.2.1.2.1
 have hp2:2≤x.2.1∧x.2.1≤251:=⟨h.2.1.1,h.2.1.2.1⟩
 have hpl:=qpE h hv hf hf1
 obtain⟨⟨hVM,hR⟩,r1⟩:=ql7 x.1 x.2.1 x.2.2.1 x.2.2.2.1 hx.1 h (fvx x.1 s) hf _ s hs (Nat.le_refl _) hpt
 refine qai ?_
 simp only[run_Z74,Z74.ev]
 refine qaa (qiL x s hs hx.1 h.1) (qaa r1 (qaa (qqf x.1 x.2.1 x.2.2.1 x.2.2.2.1 v (fvx x.1 s) hf hx.1 h.2.2.1.1 hst hpl hv1.1) (qaa (qis (qbA x (fvx x.1 s) s) (qft x.1 x.2.2.1 v (fvx x.1 s)) hVM (by unfold qbA;rw[qgQ hst,qlT hst hpl];exact Int.le_refl _) fun y hy=>hv.1.mem hp2 y (List.mem_of_mem_take (List.mem_of_mem_drop hy))) (qah ?_))))
 have:(qbA x (fvx x.1 s) s).2.1=x.2.2.1.getD s 0:=hR
 rw[this];rfl
end VeT
open Go Go.Proofs Ve
namespace VeT
def qfO(c:List Sim)(w:Sim):Prop:=qdS w∧∀ y∈w,0≤y∧y≤(c.length:Int)-1
theorem qkp(x:Shf)(w:Sim)(hc:x.1.length≤1048576)(hw:Sm (.sl (.int .i64)) w):Ret E n_Z26 [dLL x.1,dI x.2.1,dL x.2.2.1,dMs x.2.2.2.1,dL w] ⟨o_Z26,(pb (qfO x.1 w),())⟩:=by
 refine qai ?_
 simp only[run_Z26,Z26.ev]
 refine qaa (qhn w hw) (qbB (fun h=>qaa (qh9 x.1) (qaa (qdk w (x.1.length:Int) hw.1 ⟨by omega,by omega⟩) (qah ?_))) fun h=>qah ?_)
 ·have h:=qaA.1 (show pb (qdS w)=true by simpa using h)
  exact congrArg (fun b:Bool=>some (⟨o_Z26,(b,())⟩:Dv)) (qaG ⟨fun e=>⟨h,e⟩,fun e=>e.2⟩)
 ·have h:=qaN.1 (show pb (qdS w)=false by simpa using h)
  rw[qap fun e=>h e.1]
theorem qfO.get{c:List Sim}{w:Sim}(h:qfO c w){i:Nat}(hi:i<w.length):∃ n:Nat,w[i]=(n:Int)∧n<c.length:=by
 have:=h.2 _ (List.getElem_mem hi)
 exact⟨(w[i]).toNat,by omega,by omega⟩
open Classical in
noncomputable def PC(x:Shf)(w:Sim):Int:=if ISh x then(if qfO x.1 w then 0 else 2) else 1
theorem qh8{x:Shf}{w:Sim}:PC x w=0↔ISh x∧qfO x.1 w:=by
 unfold PC;split
 ·rename_i h
  split
  ·rename_i h2;exact⟨fun _=>⟨h,h2⟩,fun _=>rfl⟩
  ·rename_i h2;exact⟨fun e=>by omega,fun e=>absurd e.2 h2⟩
 ·rename_i h;exact⟨fun e=>by omega,fun e=>absurd e.1 h⟩
theorem qjW(x:Shf)(w:Sim)(hx:Sm (.st cS) x)(hw:Sm (.sl (.int .i64)) w):Ret E n_Z66 [dLL x.1,dI x.2.1,dL x.2.2.1,dMs x.2.2.2.1,dL w] ⟨o_Z66,(PC x w,())⟩:=by
 refine qai ?_
 simp only[run_Z66,Z66.ev]
 refine qaa (qdm x hx) (qbB (fun h=>qah ?_) fun h=>qaa (qkp x w hx.1.1 hw) (qbB (fun h2=>qah ?_) fun h2=>qah ?_))
 ·rw[PC,if_neg (qaN.1 (show pb (ISh x)=false by simpa using h))]
 ·rw[PC,if_pos (qaA.1 (show pb (ISh x)=true by simpa using h)),if_neg (qaN.1 (show pb (qfO x.1 w)=false by simpa using h2))]
 ·rw[PC,if_pos (qaA.1 (show pb (ISh x)=true by simpa using h)),if_pos (qaA.1 (show pb (qfO x.1 w)=true by simpa using h2))]
noncomputable def qcn(x:Shf)(v w:Sim)(n:Nat):Sim:=((w.take n).map fun k=>atV x v k.toNat).flatten
theorem qe5{x:Shf}{v w:Sim}{n:Nat}(hn:n<w.length){s:Nat}(hs:w[n]=(s:Int)):qcn x v w (n+1)=qcn x v w n++atV x v s:=by
 unfold qcn
 rw[List.take_succ_eq_append_getElem hn,List.map_append,List.flatten_append,hs]
 simp
theorem qhb{x:Shf}{v w:Sim}(h:VS x.1 x.2.1 x.2.2.1 x.2.2.2.1){n:Nat}:(qcn x v w n).length≤3*n:=by
 induction n with
 | zero=>simp[qcn]
 | succ n ih =>
  by_cases hn:n<w.length
  ·have h3:=qgE (s:=(w[n]).toNat) (v:=v) h
   unfold qcn at ih ⊢
   rw[List.take_succ_eq_append_getElem hn,List.map_append,List.flatten_append,List.length_append]
   simp only[List.map_cons,List.map_nil,List.flatten_cons,List.flatten_nil,List.append_nil]
   omega
  ·unfold qcn at ih ⊢
   rw[List.take_of_length_le (by omega)] at ih ⊢
   omega
theorem qly(x:Shf)(v w:Sim)(hx:Sm (.st cS) x)(hv1:Sm (.sl (.int .i64)) v)(hw:Sm (.sl (.int .i64)) w)(h:VS x.1 x.2.1 x.2.2.1 x.2.2.2.1)(hv:qgx x 0 v)(hp:qfO x.1 w) :
  Ret E n_Z83 [dLL x.1,dI x.2.1,dL x.2.2.1,dMs x.2.2.2.1,dL v,dL w] ⟨o_Z83,(qcn x v w w.length,())⟩:=by
 have hw1:w.length≤1048576:=hw.1
 refine qai ?_
 simp only[run_Z83,Z83.ev]
 refine Ev.start (p:=fun φ n=>Z83.l0 (mkR (run E (φ 0))) (φ 0) n v w (w.length:Int) 0 x.1 x.2.1 x.2.2.1 x.2.2.2.1 []=_) 1 ?_ (fun _ _ _ h=>h)
 refine qam 1 (L:=fun φ n k o=>Z83.l0 (mkR (run E (φ 0))) (φ 0) n v w (w.length:Int) k x.1 x.2.1 x.2.2.1 x.2.2.2.1 o) (len:=w.length) (fun k=>qcn x v w k) (fun _ _ _ _ _=>rfl) (fun k r hk ih=>?_) ?_
 ·simp only[Z83.l0_succ _ qae]
  obtain⟨s,hs,hsl⟩:=hp.get hk
  have hg:w[k]? = some (s:Int):=by rw[List.getElem?_eq_getElem hk,hs]
  rw[qe5 hk hs] at ih
  have hl:=qhb (v:=v) (w:=w) (n:=k) h
  have h3:=qgE (s:=s) (v:=v) h
  refine qax (decide_eq_true (by omega)) (qab (qaV.trans hg) (qaa (qgi x v s hsl hx hv1 h hv) (qao (decide_eq_true (by show(_+(atV x v s).length)*8≤_;omega)) ?_)))
  rw[qad (by omega)];exact ih
 ·simp only[Z83.l0_succ _ qae]
  exact qaC (decide_eq_false (by omega)) qal
open Classical in
noncomputable def qbR(x:Shf)(v w:Sim):Sim×Int×Unit:=if PC x w=0 then(if Sec x v then(qcn x v w w.length,0,()) else([],6,())) else([],PC x w,())
theorem qer(x:Shf)(v w:Sim)(hx:Sm (.st cS) x)(hv1:Sm (.sl (.int .i64)) v)(hw:Sm (.sl (.int .i64)) w):Ret E n_Z20 [dLL x.1,dI x.2.1,dL x.2.2.1,dMs x.2.2.2.1,dL v,dL w] ⟨o_Z20,qbR x v w⟩:=by
 refine qai ?_
 simp only[run_Z20,Z20.ev]
 refine qaa (qjW x w hx hw) (qbB (fun h=>qah ?_) fun h=>?_)
 ·have h:¬ PC x w=0:=by simpa using h
  rw[qbR,if_neg h]
 ·have h:PC x w=0:=by simpa using h
  obtain⟨hs,hpl⟩:=qh8.1 h
  rw[qbR,if_pos h]
  refine qaa (qfY x v hx hv1 hs) (qbB (fun h2=>qah ?_) fun h2=>?_)
  ·rw[if_neg (qaN.1 (show pb (Sec x v)=false by simpa using h2))]
  ·have h2:=qaA.1 (show pb (Sec x v)=true by simpa using h2)
   rw[if_pos h2]
   exact qaa (qly x v w hx hv1 hw hs.1 h2.1 hpl) qal
noncomputable def qe9(x:Shf)(v:Sim)(s:Int):Sim×Int×Unit:=qbR x v [s]
theorem qpO(s:Int):qdS [s]:=fun j h1 h2=>by simp at h2;omega
theorem qg9(x:Shf)(v:Sim)(s:Int)(hx:Sm (.st cS) x)(hv1:Sm (.sl (.int .i64)) v):Ret E n_Z11 [dLL x.1,dI x.2.1,dL x.2.2.1,dMs x.2.2.2.1,dL v,dI s] ⟨o_Z11,qe9 x v s⟩:=by
 refine qai ?_
 simp only[run_Z11,Z11.ev]
 refine qaa (qer x v [s] hx hv1 (qrT (by simp))) (qah ?_)
 rw[qe9]
open Classical in
noncomputable def qeT(x:Shf)(v:Sim):Nat→Sim
 | 0=>[]
 | k+1=>qeT x v k++if Zs (atV x v k) then [] else [(k:Int)]
theorem qe0{x:Shf}{v:Sim}:∀ {k:Nat},(qeT x v k).length≤k
 | 0=>by simp[qeT]
 | k+1=>by
  have:=qe0 (x:=x) (v:=v) (k:=k)
  rw[qeT,List.length_append];split<;>simp<;>omega
open Classical in
noncomputable def qdM(x:Shf)(v:Sim):Sim×Int×Unit:=if ISh x then(if Sec x v then(qeT x v x.1.length,0,()) else([],6,())) else([],1,())
theorem qgL(x:Shf)(v:Sim)(hx:Sm (.st cS) x)(hv1:Sm (.sl (.int .i64)) v):Ret E n_Z12 [dLL x.1,dI x.2.1,dL x.2.2.1,dMs x.2.2.2.1,dL v] ⟨o_Z12,qdM x v⟩:=by
 have hc1:x.1.length≤1048576:=hx.1.1
 refine qai ?_
 simp only[run_Z12,Z12.ev]
 refine qaa (qdm x hx) (qbB (fun h=>qah ?_) fun h=>?_)
 ·rw[qdM,if_neg (qaN.1 (show pb (ISh x)=false by simpa using h))]
 have h:=qaA.1 (show pb (ISh x)=true by simpa using h)
 rw[qdM,if_pos h]
 refine qaa (qfY x v hx hv1 h) (qbB (fun h2=>qah ?_) fun h2=>?_)
 ·rw[if_neg (qaN.1 (show pb (Sec x v)=false by simpa using h2))]
 have h2:=qaA.1 (show pb (Sec x v)=true by simpa using h2)
 rw[if_pos h2]
 refine qaa (qh9 x.1) ?_
 refine Ev.start (p:=fun φ n=>Z12.l0 (mkR (run E (φ 0))) (φ 0) n v (x.1.length:Int) 0 x.1 x.2.1 x.2.2.1 x.2.2.2.1 []=_) 1 ?_ (fun _ _ _ h=>h)
 refine qam 1 (L:=fun φ n k o=>Z12.l0 (mkR (run E (φ 0))) (φ 0) n v (x.1.length:Int) k x.1 x.2.1 x.2.2.1 x.2.2.2.1 o) (len:=x.1.length) (fun k=>qeT x v k) (fun _ _ _ _ _=>rfl) (fun k r hk ih=>?_) ?_
 ·simp only[Z12.l0_succ _ qae]
  have hl:=qe0 (x:=x) (v:=v) (k:=k)
  have h3:=qgE (s:=k) (v:=v) h.1
  rw[qeT] at ih
  rw[qad (by omega)]
  refine qax (decide_eq_true (by omega)) (qaa (qgi x v k hk hx hv1 h.1 h2.1) (qaa (qjM (atV x v k) (by omega)) (qbB (fun hz=>qao (decide_eq_true (by simp only[List.length_cons,List.length_nil];omega)) ?_) fun hz=>?_)))
  ·have hz:=qaN.1 (show pb (Zs (atV x v k))=false by simpa using hz)
   rw[if_neg hz] at ih;exact ih
  ·have hz:=qaA.1 (show pb (Zs (atV x v k))=true by simpa using hz)
   rw[if_pos hz,List.append_nil] at ih;exact ih
 ·simp only[Z12.l0_succ _ qae]
  exact qaC (decide_eq_false (by omega)) qal
end VeT
open Go Go.Proofs Ve
namespace VeT
theorem qc0{P:Nat→Prop}:∀ {d a k:Nat},qaM P a d=some k→∀ i,a≤i→i<k→¬ P i
 | 0,a,k,h=>by simp[qaM] at h
 | d+1,a,k,h=>fun i h1 h2=>by
  rw[qaM] at h
  split at h
  ·obtain rfl:=Option.some.inj h;omega
  ·rename_i hp
   by_cases e:i=a
   ·subst e;exact hp
   ·exact qc0 h i (by omega) h2
theorem qoB{P:Nat→Prop}{j n:Nat}(hj:j≤n):qaM (fun i=>i<j∧P i) 0 n=qaM P 0 j:=by
 cases h1:qaM (fun i=>i<j∧P i) 0 n with
 | none =>
  cases h2:qaM P 0 j with
  | none=>rfl
  | some k =>
   have:=qay h2
   exact absurd ⟨by omega,this.2.2⟩ (qcB h1 k (by omega) (by omega))
 | some k =>
  have a:=qay h1
  have b:=qc0 h1
  obtain⟨k2,h2⟩:=qb2 (P:=P) (a:=0) (d:=j) ⟨k,by omega,by omega,a.2.2.2⟩
  have c:=qay h2
  have d:=qc0 h2
  rw[h2]
  rcases Nat.lt_trichotomy k k2 with h | h | h
  ·exact absurd a.2.2.2 (d k (by omega) h)
  ·rw[h]
  ·exact absurd ⟨by omega,c.2.2⟩ (b k2 (by omega) h)
theorem qdq{s:Sim}(h:s.Pairwise (·<·)):qdS s:=fun j h1 h2=>by
 rw[qac (show j-1<s.length by omega),qac h2]
 exact List.pairwise_iff_getElem.1 h (j-1) j (by omega) h2 (by omega)
theorem qoJ:∀(n:Nat) {a b:Sim},b.length=n→qdS a→qdS b→qfq a b→a≠b→a.length<b.length
 | n,a,b,hn,ha,hb,hp,hne=>by
  obtain⟨i,hi,hni,_⟩:=qlW ha hb hp hne
  have hp':=qc1 hp hi hni
  have hl:(b.eraseIdx i).length=b.length-1:=by rw[List.length_eraseIdx,if_pos hi]
  have hb':qdS (b.eraseIdx i):=qdq (hb.pairwise.sublist (List.eraseIdx_sublist _ _))
  by_cases e:a=b.eraseIdx i
  ·rw[e];omega
  ·cases n with
   | zero=>omega
   | succ n =>
    have:=qoJ n (by omega) ha hb' hp' e
    omega
theorem qn4{c:List Sim}(h:VC c){f k:Nat}(hf:f<c.length)(hk:k<c.length)(hp:qfq (c.getD f []) (c.getD k []))(hne:f≠k):f<k:=by
 rcases Nat.lt_trichotomy f k with h1 | h1 | h1
 ·exact h1
 ·exact absurd h1 hne
 ·exfalso
  have hs:=h.srt k f hf h1
  rw[qac hf,qac hk] at hp
  have hvf:=h.2.1 f hf
  have hvk:=h.2.1 k hk
  rw[qac hf] at hvf
  rw[qac hk] at hvk
  have he:c[f]≠c[k]:=fun e=>by rw[e,qco.2 rfl] at hs;omega
  have:=qoJ _ rfl hvf.2.2.1 hvk.2.2.1 hp he
  rw[qg5] at hs
  omega
def off(st w:Sim)(n:Nat):Int:=((w.take n).map fun k=>st.getD k.toNat 0).sum
theorem qhR{st w:Sim}{n:Nat}(hn:n<w.length){s:Nat}(hs:w[n]=(s:Int)):off st w (n+1)=off st w n+st.getD s 0:=by
 unfold off
 rw[List.take_succ_eq_append_getElem hn,List.map_append,List.sum_append,hs]
 simp
theorem qnL{st w:Sim}(hst:∀ x∈st,0≤x∧x≤3):∀ {n:Nat},0≤off st w n∧off st w n≤3*n
 | 0=>by simp[off]
 | n+1=>by
  have ih:=qnL (w:=w) hst (n:=n)
  by_cases hn:n<w.length
  ·have hb:=qcC hst (w[n]).toNat
   unfold off at ih ⊢
   rw[List.take_succ_eq_append_getElem hn,List.map_append,List.sum_append]
   simp only[List.map_cons,List.map_nil,List.sum_cons,List.sum_nil,Int.add_zero]
   omega
  ·unfold off at ih ⊢
   rw[List.take_of_length_le (by omega)] at ih ⊢
   omega
theorem qku{st w:Sim}(hst:∀ x∈st,0≤x∧x≤3){n m:Nat}(h:n≤m):off st w n≤off st w m:=by
 induction h with
 | refl=>exact Int.le_refl _
 | @step m h ih =>
  by_cases hn:m<w.length
  ·have hb:=qcC hst (w[m]).toNat
   unfold off at ih ⊢
   rw[List.take_succ_eq_append_getElem hn,List.map_append,List.sum_append]
   simp only[List.map_cons,List.map_nil,List.sum_cons,List.sum_nil,Int.add_zero]
   omega
  ·unfold off at ih ⊢
   rw[List.take_of_length_le (show w.length≤m+1 by omega)]
   rwa [List.take_of_length_le (show w.length≤m by omega)] at ih
def qeu(st w:Sim)(n:Nat):Sim:=(List.range n).map (off st w)
theorem qhW(x:Shf)(w:Sim)(hl:x.2.2.1.length=x.1.length)(hst:∀ y∈x.2.2.1,0≤y∧y≤3)(hw:w.length≤1048576)(hpl:∀ i (h:i<w.length),∃ n:Nat,w[i]=(n:Int)∧n<x.1.length) :
  Ret E n_Z64 [dLL x.1,dI x.2.1,dL x.2.2.1,dMs x.2.2.2.1,dL w] ⟨o_Z64,(qeu x.2.2.1 w w.length,off x.2.2.1 w w.length,())⟩:=by
 refine qai ?_
 simp only[run_Z64,Z64.ev]
 refine Ev.start (p:=fun φ n=>Z64.l0 (mkR (run E (φ 0))) (φ 0) n 0 w (w.length:Int) 0 x.1 x.2.1 x.2.2.1 x.2.2.2.1 []=_) 1 ?_ (fun _ _ _ h=>h)
 have:=qam 1 (L:=fun φ n k (a:Int×Sim)=>Z64.l0 (mkR (run E (φ 0))) (φ 0) n a.1 w (w.length:Int) k x.1 x.2.1 x.2.2.1 x.2.2.2.1 a.2) (len:=w.length) (fun k=>(off x.2.2.1 w k,qeu x.2.2.1 w k)) (r:=some ⟨o_Z64,(qeu x.2.2.1 w w.length,off x.2.2.1 w w.length,())⟩) (fun _ _ _ _ _=>rfl) (fun k r hk ih=>?_) ?_
 ·exact this
 ·simp only[Z64.l0_succ _ qae]
  obtain⟨s,hs,hsl⟩:=hpl k hk
  have hg:w[k]? = some (s:Int):=by rw[List.getElem?_eq_getElem hk,hs]
  have hss:s<x.2.2.1.length:=by omega
  have hb:=qnL (w:=w) hst (n:=k)
  have hb2:=hst _ (List.getElem_mem hss)
  have hle:(qeu x.2.2.1 w k).length=k:=by simp[qeu]
  have es:qeu x.2.2.1 w (k+1)=qeu x.2.2.1 w k++[off x.2.2.1 w k]:=by
   unfold qeu;rw[List.range_succ,List.map_append];rfl
  rw[es] at ih
  simp only at ih
  rw[qhR hk hs,qac hss] at ih
  refine qax (decide_eq_true (by omega)) (qab (qaV.trans hg) (qao (decide_eq_true (by simp only[List.length_cons,List.length_nil,hle];omega)) (qab (qaj hss) ?_)))
  rw[qad (by omega),qag (by omega) (by omega)];exact ih
 ·simp only[Z64.l0_succ _ qae]
  exact qaC (decide_eq_false (by omega)) qal
def Dat(x:Shf)(w v:Sim):Prop:=qaD v x.2.1∧(v.length:Int)=off x.2.2.1 w w.length
open Classical in
noncomputable def LC(x:Shf)(w v:Sim):Int:=if PC x w=0 then(if Dat x w v then 0 else 7) else PC x w
theorem qpY{x:Shf}{w v:Sim}:LC x w v=0↔(ISh x∧qfO x.1 w)∧Dat x w v:=by
 rw[← qh8]
 unfold LC;split
 ·rename_i h
  split
  ·rename_i h2;exact⟨fun _=>⟨h,h2⟩,fun _=>rfl⟩
  ·rename_i h2;exact⟨fun e=>by omega,fun e=>absurd e.2 h2⟩
 ·rename_i h;exact⟨fun e=>absurd e h,fun e=>absurd e.1 h⟩
theorem qkg(x:Shf)(w v:Sim)(hx:Sm (.st cS) x)(hw:Sm (.sl (.int .i64)) w)(hv:Sm (.sl (.int .i64)) v):Ret E n_Z63 [dLL x.1,dI x.2.1,dL x.2.2.1,dMs x.2.2.2.1,dL w,dL v] ⟨o_Z63,(LC x w v,())⟩:=by
 refine qai ?_
 simp only[run_Z63,Z63.ev]
 refine qaa (qjW x w hx hw) (qbB (fun h=>qah ?_) fun h=>?_)
 ·have h:¬ PC x w=0:=by simpa using h
  rw[LC,if_neg h]
 ·have h:PC x w=0:=by simpa using h
  obtain⟨hs,hpl⟩:=qh8.1 h
  have hp:=hs.1.2.1
  refine qaa (qhW x w hs.1.2.2.1.1 hs.1.2.2.1.2.1 hw.1 fun i hi=>hpl.get hi) (qaa (qhe v (off x.2.2.1 w w.length) x.2.1 hv.1 ⟨by have:=hp.1;omega,by have:=hp.2.1;omega⟩) (qbB (fun h2=>qah ?_) fun h2=>qah ?_))
  ·rw[LC,if_pos h,if_neg (qaN.1 (show pb (Dat x w v)=false by simpa [Dat] using h2))]
  ·rw[LC,if_pos h,if_pos (qaA.1 (show pb (Dat x w v)=true by simpa [Dat] using h2))]
end VeT
open Go Go.Proofs Ve
namespace VeT
def qr1(a p:Int):Int:=Int.tmod (w64 (Int.tmod a p+p)) p
theorem qms{a p:Int}(hp:2≤p∧p≤251)(ha:-1048576≤a∧a≤1048576):qr1 a p=a%p:=by
 have h1:-p<Int.tmod a p∧Int.tmod a p<p:=by
  constructor
  ·by_cases h:a<0
   ·have:=Int.tmod_lt_of_pos (-a) (show 0<p by omega)
    rw[Int.neg_tmod] at this;omega
   ·have:=Int.tmod_nonneg p (show 0≤a by omega);omega
  ·exact Int.tmod_lt_of_pos a (by omega)
 have h2:Int.tmod a p%p=a%p:=by
  have:=Int.tmod_add_mul_tdiv a p
  have e:a=Int.tmod a p+p*Int.tdiv a p:=this.symm
  conv=>rhs;rw[e]
  rw[Int.add_mul_emod_self_left]
 unfold qr1
 rw[qag (by omega) (by omega),Int.tmod_eq_emod_of_nonneg (by omega),Int.add_emod_right,h2]
theorem qka(a p:Int)(hp:2≤p):Ret E n_Z70 [dI a,dI p] ⟨o_Z70,(qr1 a p,())⟩:=by
 refine qai ?_
 simp only[run_Z70,Z70.ev]
 exact qao (by simp;omega) (qao (by simp;omega) qal)
theorem qjQ(a p:Int)(hp:2≤p):Ret E n_Z151 [dI a,dI p] ⟨o_Z151,(qr1 a p,())⟩:=by
 refine qai ?_
 simp only[run_Z151,Z151.ev]
 exact qao (by simp;omega) (qao (by simp;omega) qal)
theorem qho(a b:Sim)(c p:Int)(hp:2≤p∧p≤251)(hc:0≤c∧c≤250)(hl:a.length≤b.length)(ha1:a.length≤1048576)(ea:∀ x∈a,0≤x∧x≤250)(eb:∀ x∈b,0≤x∧x≤250) :
  Ret E n_Z21 [dL a,dL b,dI c,dI p] ⟨o_Z21,(qmq a b c p,())⟩:=by
 refine qai ?_
 simp only[run_Z21,Z21.ev]
 refine Ev.start (p:=fun φ n=>Z21.l0 (mkR (run E (φ 0))) (φ 0) n a b c p (a.length:Int) 0 []=_) 1 ?_ (fun _ _ _ h=>h)
 refine qam 1 (L:=fun φ n k o=>Z21.l0 (mkR (run E (φ 0))) (φ 0) n a b c p (a.length:Int) k o) (len:=a.length) (fun k=>(List.range k).map fun i=>(a.getD i 0+c*b.getD i 0)%p) (fun _ _ _ _ _=>rfl) (fun k r hk ih=>?_) ?_
 ·simp only[Z21.l0_succ _ qae]
  have hkb:k<b.length:=by omega
  have h1:=ea _ (List.getElem_mem hk)
  have h2:=qeq hc (eb _ (List.getElem_mem hkb))
  rw[List.range_succ,List.map_append,List.map_singleton,qac hk,qac hkb] at ih
  refine qax (decide_eq_true (by omega)) (qab (qaj hk) (qab (qaj hkb) (qao (by simp;omega) ?_)))
  rw[qag (n:=c*b[k]) (by omega) (by omega),qag (by omega) (by omega),Int.tmod_eq_emod_of_nonneg (by omega),qad (by omega)]
  exact qao (by simp;omega) ih
 ·simp only[Z21.l0_succ _ qae]
  exact qaC (decide_eq_false (by omega)) qal
theorem qo5{a:Int}:∀ k:Nat,(a*a) ^ k=a ^ (k+k)
 | 0=>by rw[Int.pow_zero,Nat.add_zero,Int.pow_zero]
 | k+1=>by rw[Int.pow_succ,qo5 k,show k+1+(k+1)=k+k+1+1 by omega,Int.pow_succ,Int.pow_succ,Int.mul_assoc]
theorem qm4(a:Int)(n:Nat)(p:Int)(hp:2≤p∧p≤251)(ha:0≤a∧a≤p-1)(hn:n≤1048576):Ret E n_Z67 [dI a,dI (n:Int),dI p] ⟨o_Z67,(a ^ n%p,())⟩:=by
  refine qai ?_
  simp only[run_Z67,Z67.ev]
  refine Ev.start (p:=fun φ m=>Z67.l0 (mkR (run E (φ 0))) (φ 0) m a (n:Int) p 1=_) 1 ?_ (fun _ _ _ h=>h)
  refine qfd 1 (σ:=Int×Nat×Int) (L:=fun φ m s=>Z67.l0 (mkR (run E (φ 0))) (φ 0) m s.1 (s.2.1:Int) p s.2.2) (fun _ _ _ _=>rfl) (fun s=>(0≤s.1∧s.1≤p-1)∧s.2.1≤1048576∧(0≤s.2.2∧s.2.2≤p-1)∧s.2.2*s.1 ^ s.2.1%p=a ^ n%p) (fun _=>_) (fun s=>s.2.1) (fun s hi ih=>?_) (a,n,1) ⟨ha,hn,by show 0≤(1:Int)∧(1:Int)≤p-1;omega,by show 1*a ^ n%p=_;rw[Int.one_mul]⟩
  obtain⟨b,m,q⟩:=s
  obtain⟨h1,h2,h3,h4⟩:=hi
  simp only at h1 h2 h3 h4 ih
  simp only[Z67.l0_succ _ qae]
  have hbb:=qeq (x:=b) (y:=b) (by omega) (by omega)
  have hqb:=qeq (x:=q) (y:=b) (by omega) (by omega)
  have e1:w64 (b*b)=b*b:=qag (by omega) (by omega)
  have e2:w64 (q*b)=q*b:=qag (by omega) (by omega)
  have e3:Int.tdiv (m:Int) 2=((m / 2:Nat):Int):=rfl
  have e4:w64 ((m / 2:Nat):Int)=((m / 2:Nat):Int):=qag (by omega) (by omega)
  have e5:Int.tmod (m:Int) 2=((m%2:Nat):Int):=rfl
  refine qdG (fun hm=>?_) fun hm=>qah ?_
  · rw[e5,e1,e2,e3,e4,Int.tmod_eq_emod_of_nonneg (by omega),Int.tmod_eq_emod_of_nonneg (by omega)]
    have hd:m / 2<m:=by omega
    refine qbB (fun ho=>qao (by simp;omega) (qao (by simp;omega) ?_)) fun he=>qao (by simp;omega) ?_
    · have ho : m % 2 = 1 := by have : ((m % 2 : Nat) : Int) = 1 := by simpa using ho
                                omega
      refine ih (b*b%p,m / 2,q*b%p) ⟨qdJ (by omega),by show m / 2≤_;omega,qdJ (by omega),?_⟩ hd
      rw[← h4]
      show q*b%p*(b*b%p) ^ (m / 2)%p=_
      have hx:(q*b%p)%p=(q*b)%p:=Int.emod_emod_of_dvd _ (Int.dvd_refl p)
      have hy:(b*b%p) ^ (m / 2)%p=(b*b) ^ (m / 2)%p:=qiX (Int.emod_emod_of_dvd _ (Int.dvd_refl p)) _
      rw[qde hx hy,qo5]
      have hm2:m=m / 2+m / 2+1:=by omega
      conv=>rhs;rw[hm2,Int.pow_succ]
      rw[Int.mul_assoc,Int.mul_comm b]
    · have he:m%2=0:=by
        have:¬ ((m%2:Nat):Int)=1:=by simpa using he
        omega
      refine ih (b*b%p,m / 2,q) ⟨qdJ (by omega),by show m / 2≤_;omega,h3,?_⟩ hd
      rw[← h4]
      show q*(b*b%p) ^ (m / 2)%p=_
      have hy:(b*b%p) ^ (m / 2)%p=(b*b) ^ (m / 2)%p:=qiX (Int.emod_emod_of_dvd _ (Int.dvd_refl p)) _
      rw[qde rfl hy,qo5]
      have hm2:m=m / 2+m / 2:=by omega
      conv=>rhs;rw[hm2]
  · have hm:m=0:=by omega
    subst hm
    have:q=a ^ n%p:=by rw[← h4,Int.pow_zero,Int.mul_one,Int.emod_eq_of_lt (by omega) (by omega)]
    rw[this]
theorem qkU(a p:Int)(hp:2≤p∧p≤251)(ha:0≤a∧a≤p-1):Ret E n_Z50 [dI a,dI p] ⟨o_Z50,(qhz a p,())⟩:=by
 have e:w64 (p-2)=(((p-2).toNat:Nat):Int):=by rw[qag (by omega) (by omega)];omega
 refine qai ?_
 simp only[run_Z50,Z50.ev,e]
 exact qaa (qm4 a (p-2).toNat p hp ha (by omega)) qal
theorem qjm(a p:Int)(hp:2≤p∧p≤251)(ha:0≤a∧a≤p-1):Ret E n_Z148 [dI a,dI p] ⟨o_Z148,(qhz a p,())⟩:=by
 have e:w64 (p-2)=(((p-2).toNat:Nat):Int):=by rw[qag (by omega) (by omega)];omega
 refine qai ?_
 simp only[run_Z148,Z148.ev,e]
 refine Ev.start (p:=fun φ m=>Z148.l0 (mkR (run E (φ 0))) (φ 0) m a p 1 (((p-2).toNat:Nat):Int)=_) 1 ?_ (fun _ _ _ h=>h)
 refine qfd 1 (σ:=Nat×Int) (L:=fun φ m s=>Z148.l0 (mkR (run E (φ 0))) (φ 0) m a p s.2 (s.1:Int)) (fun _ _ _ _=>rfl) (fun s=>s.1≤1048576∧(0≤s.2∧s.2≤p-1)∧s.2*a ^ s.1%p=a ^ (p-2).toNat%p) (fun _=>_) (fun s=>s.1) (fun s hi ih=>?_) ((p-2).toNat,1) ⟨by show(p-2).toNat≤_;omega,by show 0≤(1:Int)∧(1:Int)≤p-1;omega,by show 1*_%p=_;rw[Int.one_mul]⟩
 obtain⟨m,q⟩:=s
 obtain⟨h2,h3,h4⟩:=hi
 simp only at h2 h3 h4 ih
 simp only[Z148.l0_succ _ qae]
 have hqa:=qeq (x:=q) (y:=a) (by omega) (by omega)
 refine qdG (fun hm=>qao (by simp;omega) ?_) fun hm=>qah ?_
 ·rw[qag (n:=q*a) (by omega) (by omega),Int.tmod_eq_emod_of_nonneg (by omega),qag (by omega) (by omega),show(m:Int)-1=((m-1:Nat):Int) by omega]
  refine ih (m-1,q*a%p) ⟨by show m-1≤_;omega,qdJ (by omega),?_⟩ (by show m-1<m;omega)
  rw[← h4]
  show q*a%p*a ^ (m-1)%p=_
  have hx:(q*a%p)%p=(q*a)%p:=Int.emod_emod_of_dvd _ (Int.dvd_refl p)
  rw[qde hx rfl]
  conv=>rhs;rw[show m=m-1+1 by omega,Int.pow_succ]
  rw[Int.mul_assoc,Int.mul_comm a]
 ·have hm:m=0:=by omega
  subst hm
  have:q=qhz a p:=by unfold qhz;rw[← h4,Int.pow_zero,Int.mul_one,Int.emod_eq_of_lt (by omega) (by omega)]
  rw[this]
theorem qnH{f g:Nat→Int}{W:Nat}{c p:Int}:qmq ((List.range W).map f) ((List.range W).map g) c p=(List.range W).map fun j=>(f j+c*g j)%p:=by
 unfold qmq
 rw[List.length_map,List.length_range]
 refine List.map_congr_left fun j hj=>?_
 have hj:=List.mem_range.1 hj
 simp[List.getD_eq_getElem?_getD,hj]
theorem qlU{W:Nat}:List.replicate W (0:Int)=(List.range W).map fun _=>0:=by
 rw[List.map_const',List.length_range]
theorem qoM{f:Nat→Int}{W:Nat}{p:Int}(hp:p≤251)(h:∀ j,j<W→0≤f j∧f j≤p-1):∀ x∈(List.range W).map f,0≤x∧x≤250:=fun x hx=>by
 obtain⟨j,hj,rfl⟩:=List.mem_map.1 hx
 have:=h j (List.mem_range.1 hj)
 omega
def pvL(l:List Nat):Sim:=l.map fun(n:Nat)=>(n:Int)
theorem qa5{l:List Nat}:(pvL l).length=l.length:=by simp[pvL]
theorem qpg{l:List Nat}{c:Nat}:pvL (l++[c])=pvL l++[(c:Int)]:=by simp[pvL]
theorem qnZ{A:Ent}{R W c top:Nat}(hc:c<W)(ht:top≤R):qjl (fun row:Sim=>row.getD c 0 != 0) ((qaJ A R W).drop top)=o2i ((qaM (fun i=>A i c≠0) top (R-top)).map fun q=>q-top):=by
 have hlen:((qaJ A R W).drop top).length=R-top:=by rw[List.length_drop,qaP]
 have hget:∀ k (h:k<((qaJ A R W).drop top).length),(((qaJ A R W).drop top)[k].getD c 0 != 0)=true↔A (top+k) c≠0:=fun k h=>by
  rw[hlen] at h
  have h1:=qb4 (A:=A) (W:=W) (show top+k<R by omega)
  have h2:((qaJ A R W).drop top)[k]? = some ((List.range W).map (A (top+k))):=by rw[List.getElem?_drop];exact h1
  rw[List.getElem?_eq_getElem (by rw[hlen];exact h)] at h2
  rw[Option.some.inj h2,List.getD_eq_getElem?_getD,qgH hc]
  simp
 symm
 refine qdd (fun k hk=>?_) fun hno j hj ⟨hj',hP⟩=>?_
 ·cases hf:qaM (fun i=>A i c≠0) top (R-top) with
  | none=>rw[hf] at hk;cases hk
  | some q =>
   rw[hf] at hk
   have hk:q-top=k:=Option.some.inj hk
   have h1:=qay hf
   have hkl:k<((qaJ A R W).drop top).length:=by rw[hlen];omega
   refine⟨hkl,⟨hkl,(hget k hkl).2 (by rw[show top+k=q by omega];exact h1.2.2)⟩,fun j hj ⟨hj',hP⟩=>?_⟩
   exact qc0 hf (top+j) (by omega) (by omega) ((hget j hj').1 hP)
 ·cases hf:qaM (fun i=>A i c≠0) top (R-top) with
  | none=>exact qcB hf (top+j) (by omega) (by rw[hlen] at hj;omega) ((hget j hj').1 hP)
  | some q=>rw[hf] at hno;cases hno
end VeT
open Go Go.Proofs Ve
namespace VeT
theorem qiO(row:Sim)(c:Nat)(hc:c<row.length):Ret E n_Z38 [dL row,⟨.ptr (.cons (.int .i64) .nil),((c:Int),())⟩] ⟨o_Z38,(row.getD c 0 != 0,())⟩:=by
 rw[qac hc]
 refine qai ?_
 simp only[run_Z38,Z38.ev]
 exact qab (qaj hc) qal
def elK(p:Int)(c top k:Nat)(B:Ent):Ent:=fun i j=>if i<k then elF p c top B i j else elM p c top B i j
theorem qqj{p:Int}{c top:Nat}{B:Ent}{R W:Nat}:qaJ (elK p c top 0 B) R W=qaJ (elM p c top B) R W:=qb7 fun i j _ _=>by simp[elK]
theorem qrJ{p:Int}{c top:Nat}{B:Ent}{R W:Nat}:qaJ (elK p c top R B) R W=qaJ (elF p c top B) R W:=qb7 fun i j hi _=>by simp[elK,hi]
theorem qoL{top q R W:Nat}{A:Ent}(ht:top<R)(hq:q<R)(hne:q≠top):((qaJ A R W).set top ((List.range W).map (A q))).set q ((List.range W).map (A top))=qaJ (qcG top q A) R W:=by
 rw[qfU,qfU]
 refine qb7 fun i j _ _=>?_
 unfold qcG
 by_cases h1:i=q
 ·subst h1;simp[hne]
 ·by_cases h2:i=top
  ·subst h2;simp[h1]
  ·simp[h1,h2]
theorem qoY{top R W:Nat}{A:Ent}:qaJ (qcG top top A) R W=qaJ A R W:=qb7 fun i j _ _=>by
 unfold qcG
 by_cases h:i=top
 ·subst h;simp
 ·simp[h]
theorem qkA(A:Ent)(R W:Nat)(p:Int)(hp:2≤p∧p≤251)(hR:R≤1048576)(hW:W≤1048576)(hA:EIn p R W A) :
  ∃ det:Int,Ret E n_Z37 [dLL (qaJ A R W),dI (W:Int),dI p] ⟨o_Z37,(pvL (elS p R A W).2,det,qaJ (elS p R A W).1 R W,())⟩:=by
 have key:∀ d c det,c+d=W→∃ det':Int,Ev fun φ=>Z37.l0 (mkR (run E (φ 0))) (φ 0) (φ 1) (W:Int) p det (W:Int) (c:Int) (pvL (elS p R A c).2) (qaJ (elS p R A c).1 R W)=some ⟨o_Z37,(pvL (elS p R A W).2,det',qaJ (elS p R A W).1 R W,())⟩:=by
  intro d
  induction d with
  | zero =>
   intro c det hc
   obtain rfl:c=W:=by omega
   refine⟨det,Ev.round 1 (L:=fun φ n=>Z37.l0 (mkR (run E (φ 0))) (φ 0) n (c:Int) p det (c:Int) (c:Int) (pvL (elS p R A c).2) (qaJ (elS p R A c).1 R c)) ?_ (fun _ _ _=>rfl)⟩
   simp only[Z37.l0_succ _ qae]
   exact qaC (decide_eq_false (by omega)) qal
  | succ d ih =>
   intro c det hcd
   have hc:c<W:=by omega
   obtain⟨hB,hpl,hpc,_⟩:=qgs hp.1 hA c
   have hstep:elS p R A (c+1)=elP p R c (elS p R A c):=rfl
   generalize hS:elS p R A c=S at hB hpl hpc hstep
   obtain⟨B0,pv⟩:=S
   simp only at hB hpl hpc hstep
   have hlen:(qaJ B0 R W).length=R:=qaP
   have hI:=qbs ((qaJ B0 R W).drop pv.length) (((c:Int),()),()) (fun row=>row.getD c 0 != 0) (by rw[List.length_drop,hlen];omega) fun row hrow=>qiO row c (by
    have:=List.mem_of_mem_drop hrow
    unfold qaJ at this
    obtain⟨i,_,rfl⟩:=List.mem_map.1 this
    simpa using hc)
   rw[qnZ hc hpl] at hI
   cases hf:qaM (fun i=>B0 i c≠0) pv.length (R-pv.length) with
   | none =>
    rw[hf] at hI
    have e:elS p R A (c+1)=(B0,pv):=by rw[hstep,elP];simp only[hf]
    obtain⟨det',h'⟩:=ih (c+1) 0 (by omega)
    rw[e] at h'
    refine⟨det',Ev.round 1 (L:=fun φ n=>Z37.l0 (mkR (run E (φ 0))) (φ 0) n (W:Int) p det (W:Int) (c:Int) (pvL pv) (qaJ B0 R W)) ?_ (fun _ _ _=>rfl)⟩
    simp only[Z37.l0_succ _ qae,qa5,hlen,Int.toNat_natCast]
    rw[show List.take R (qaJ B0 R W)=qaJ B0 R W from List.take_of_length_le (by omega)]
    refine qax (decide_eq_true (by omega)) (qao (by simp only[Bool.and_eq_true,decide_eq_true_eq];omega) (qaa hI (qax rfl ?_)))
    rw[qad (by omega)]
    exact h'
   | some q =>
    rw[hf] at hI
    have hq:=qay hf
    have e:elS p R A (c+1)=(elF p c pv.length (qcG pv.length q B0),pv++[c]):=by rw[hstep,elP];simp only[hf]
    generalize ht:pv.length=top at hI hq e hpl hpc
    have htR:top<R:=by omega
    have hqR:q<R:=by omega
    have hsw:=hB.sw htR hqR
    have hlead:1≤qcG top q B0 top c∧qcG top q B0 top c≤p-1:=by
     have h1:=hsw top c htR hc
     have h2:qcG top q B0 top c=B0 q c:=by simp[qcG]
     have h3:=hq.2.2
     rw[← h2] at h3
     omega
    have hI':Ret E n_Z110 [dLL ((qaJ B0 R W).drop top),⟨.fn n_Z38 (.cons (.ptr (.cons (.int .i64) .nil)) .nil),(((c:Int),()),())⟩] ⟨o_Z110,(((q-top:Nat):Int),())⟩:=hI
    -- what lies behind the exchange
    have back:∀ det2,∃ det',Ev fun φ=>Z37.j1 (mkR (run E (φ 0))) (φ 0) (φ 1) (W:Int) p det2 (top:Int) (W:Int) (c:Int) (c:Int) (pvL pv) (qaJ (qcG top q B0) R W)=some ⟨o_Z37,(pvL (elS p R A W).2,det',qaJ (elS p R A W).1 R W,())⟩:=fun det2=>by
     generalize qcG top q B0=B at hsw hlead e
     obtain⟨det',h'⟩:=ih (c+1) (Int.tmod (w64 (det2*B top c)) p) (by omega)
     rw[e] at h'
     simp only at h'
     rw[qpg,← qrJ] at h'
     have hBl:(qaJ B R W).length=R:=qaP
     have hNin:∀ j,0≤elN p c top B j∧elN p c top B j≤p-1:=fun j=>qdJ hp.1
     have hinv:=qpP (a:=B top c) (p:=p) hp.1
     have hinvR:=qkU (B top c) p hp ⟨by omega,hlead.2⟩
     have hgt:=qb4 (A:=B) (W:=W) htR
     have hat:Ret E n_Z21 [dL (List.replicate W 0),dL ((List.range W).map (B top)),dI (qhz (B top c) p),dI p] ⟨o_Z21,((List.range W).map (elN p c top B),())⟩:=by
      have:=qho (List.replicate W 0) ((List.range W).map (B top)) (qhz (B top c) p) p hp (by omega) (by simp) (by rw[List.length_replicate];exact hW) (fun x hx=>by rw[List.mem_replicate] at hx;omega) (qoM hp.2 fun j hj=>hsw top j htR hj)
      rw[qlU,qnH,← qlU] at this
      have e2:((List.range W).map fun j=>(0+qhz (B top c) p*B top j)%p)=(List.range W).map (elN p c top B):=List.map_congr_left fun j _=>by
       rw[Int.zero_add,Int.mul_comm];rfl
      rw[e2] at this
      exact this
     have hset:(qaJ B R W).set top ((List.range W).map (elN p c top B))=qaJ (elK p c top 0 B) R W:=by
      rw[qfU,qqj];rfl
     refine⟨det',?_⟩
     -- the loop over the rows
     have loop:Ev fun φ=>Z37.j2 (mkR (run E (φ 0))) (φ 0) (φ 1) (W:Int) p (Int.tmod (w64 (det2*B top c)) p) (top:Int) (W:Int) (c:Int) (c:Int) (pvL pv) (qaJ (elK p c top 0 B) R W)=some ⟨o_Z37,(pvL (elS p R A W).2,det',qaJ (elS p R A W).1 R W,())⟩:=by
      simp only[Z37.j2_eq _ qae,qaP]
      generalize Int.tmod (w64 (det2*B top c)) p=D at h' ⊢
      refine Ev.start (p:=fun φ n=>Z37.l3 (mkR (run E (φ 0))) (φ 0) (φ 1) n (W:Int) p D (top:Int) (W:Int) (c:Int) (R:Int) 0 (c:Int) (pvL pv) (qaJ (elK p c top 0 B) R W)=_) 2 ?_ (fun _ _ _ h=>h)
      refine qam 2 (L:=fun φ n i S=>Z37.l3 (mkR (run E (φ 0))) (φ 0) (φ 1) n (W:Int) p D (top:Int) (W:Int) (c:Int) (R:Int) i (c:Int) (pvL pv) S) (len:=R) (fun i=>qaJ (elK p c top i B) R W) (fun _ _ _ _ _=>rfl) (fun i r hi ih2=>?_) ?_
      ·simp only[Z37.l3_succ _ qae,qaP,Int.toNat_natCast]
       have hrow:(qaJ (elK p c top i B) R W)[i]? = some ((List.range W).map (elM p c top B i)):=by
        rw[qb4 hi]
        have:elK p c top i B i=elM p c top B i:=funext fun j=>by simp[elK]
        rw[this]
       have htop:(qaJ (elK p c top i B) R W)[top]? = some ((List.range W).map (elN p c top B)):=by
        rw[qb4 htR]
        have:elK p c top i B top=elN p c top B:=funext fun j=>by simp[elK,elF,elM]
        rw[this]
       refine qax (decide_eq_true (by omega)) (qao (by simp only[Bool.and_eq_true,decide_eq_true_eq];omega) (qab hrow ?_))
       by_cases hit:i=top
       ·subst hit
        refine qaC (by simp) ?_
        simp only[Z37.j4_eq _ qae,cond_false]
        have hsame:qaJ (elK p c i (i+1) B) R W=qaJ (elK p c i i B) R W:=qb7 fun k j _ _=>by
         unfold elK
         by_cases h1:k=i
         ·subst h1;simp[elF,elM]
         ·by_cases h2:k<i
          ·rw[if_pos (by omega),if_pos h2]
          ·rw[if_neg (by omega),if_neg h2]
        rw[hsame] at ih2
        rw[qad (by omega)];exact ih2
       ·have hM:elM p c top B i=B i:=funext fun j=>by simp[elM,hit]
        rw[hM]
        have hBi:=hsw i c hi hc
        refine qax (by simp;omega) (qab (qaV.trans (qgH hc)) ?_)
        by_cases hz:B i c=0
        ·simp only[hz,bne_self_eq_false,Z37.j4_eq _ qae,cond_false]
         have hsame:qaJ (elK p c top (i+1) B) R W=qaJ (elK p c top i B) R W:=qb7 fun k j _ _=>by
          unfold elK
          by_cases h1:k=i
          ·subst h1;simp[elF,elM,hit,hz]
          ·by_cases h2:k<i
           ·rw[if_pos (by omega),if_pos h2]
           ·rw[if_neg (by omega),if_neg h2]
         rw[hsame] at ih2
         rw[qad (by omega)];exact ih2
        ·have hne:(B i c != 0)=true:=by simpa using hz
         have ec:w64 (p-B i c)=p-B i c:=qag (by omega) (by omega)
         simp only[hne,Z37.j4_eq _ qae,cond_true,qaP,Int.toNat_natCast]
         refine qao (by simp only[Bool.and_eq_true,decide_eq_true_eq];omega) (qab htop (qab (qaV.trans (qgH hc)) ?_))
         simp only[ec]
         have hat2:=qho ((List.range W).map (B i)) ((List.range W).map (elN p c top B)) (p-B i c) p hp (by omega) (by simp) (by simpa using hW) (qoM hp.2 fun j hj=>hsw i j hi hj) (qoM hp.2 fun j _=>hNin j)
         rw[qnH] at hat2
         refine qaa hat2 (qao (by simp only[Bool.and_eq_true,decide_eq_true_eq];omega) ?_)
         have hset2:(qaJ (elK p c top i B) R W).set i ((List.range W).map fun j=>(B i j+(p-B i c)*elN p c top B j)%p)=qaJ (elK p c top (i+1) B) R W:=by
          rw[qfU]
          refine qb7 fun k j _ _=>?_
          unfold elK
          by_cases h1:k=i
          ·subst h1;simp[elF,hit,hz]
          ·by_cases h2:k<i
           ·rw[if_neg h1,if_pos h2,if_pos (by omega)]
           ·rw[if_neg h1,if_neg h2,if_neg (by omega)]
         rw[qad (by omega)]
         rw[← hset2] at ih2
         exact ih2
      ·simp only[Z37.l3_succ _ qae]
       refine qaC (decide_eq_false (by omega)) (qao (by simp only[qa5,List.length_cons,List.length_nil,decide_eq_true_eq];omega) ?_)
       rw[qad (by omega)]
       exact h'
     simp only[Z37.j1_eq _ qae,qaP,Int.toNat_natCast]
     have hck:(decide ((0:Int)≤(top:Int))&&decide ((top:Int)<(R:Int)))=true:=by simp only[Bool.and_eq_true,decide_eq_true_eq];omega
     have hcw:(decide ((0:Int)≤(W:Int))&&decide ((W:Int)*8≤70368744177664))=true:=by simp only[Bool.and_eq_true,decide_eq_true_eq];omega
     have fin:=loop
     rw[← hset] at fin
     exact qao hck (qab hgt (qab (qaV.trans (qgH hc)) (qao (by simp;omega) (qao hck (qab hgt (qbL (qao hcw (qaa hinvR (qaa hat (qao hck fin)))) (qaa hinvR (qao hcw (qaa hat (qao hck fin))))))))))
    by_cases hqt:q=top
    ·subst hqt
     obtain⟨det',h'⟩:=back det
     rw[qoY] at h'
     refine⟨det',Ev.round 1 (L:=fun φ n=>Z37.l0 (mkR (run E (φ 0))) (φ 0) n (W:Int) p det (W:Int) (c:Int) (pvL pv) (qaJ B0 R W)) ?_ (fun _ _ _=>rfl)⟩
     simp only[Z37.l0_succ _ qae,qa5,hlen,Int.toNat_natCast,ht]
     rw[show List.take R (qaJ B0 R W)=qaJ B0 R W from List.take_of_length_le (by omega)]
     refine qax (decide_eq_true (by omega)) (qao (by simp only[Bool.and_eq_true,decide_eq_true_eq];omega) (qaa hI' ?_))
     rw[Nat.sub_self]
     exact qaC rfl (qaC rfl h')
    ·obtain⟨det',h'⟩:=back (qr1 (w64 (0-det)) p)
     rw[← qoL htR hqR hqt] at h'
     refine⟨det',Ev.round 1 (L:=fun φ n=>Z37.l0 (mkR (run E (φ 0))) (φ 0) n (W:Int) p det (W:Int) (c:Int) (pvL pv) (qaJ B0 R W)) ?_ (fun _ _ _=>rfl)⟩
     simp only[Z37.l0_succ _ qae,qa5,hlen,Int.toNat_natCast,ht]
     rw[show List.take R (qaJ B0 R W)=qaJ B0 R W from List.take_of_length_le (by omega)]
     have e3:w64 ((top:Int)+((q-top:Nat):Int))=(q:Int):=by rw[qag (by omega) (by omega)];omega
     refine qax (decide_eq_true (by omega)) (qao (by simp only[Bool.and_eq_true,decide_eq_true_eq];omega) (qaa hI' (qaC (decide_eq_false (Int.not_lt.2 (Int.natCast_nonneg _))) (qax (decide_eq_true (by show(0:Int)<((q-top:Nat):Int);omega)) ?_))))
     simp only[e3,Int.toNat_natCast,List.length_set,hlen]
     have hck:(decide ((0:Int)≤(top:Int))&&decide ((top:Int)<(R:Int)))=true:=by simp only[Bool.and_eq_true,decide_eq_true_eq];omega
     have hckq:(decide ((0:Int)≤(q:Int))&&decide ((q:Int)<(R:Int)))=true:=by simp only[Bool.and_eq_true,decide_eq_true_eq];omega
     exact qao hckq (qab (qb4 hqR) (qao hck (qab (qb4 htR) (qao hck (qao hckq (qaa (qka (w64 (0-det)) p hp.1) h'))))))
 obtain⟨det',h⟩:=key W 0 1 (by omega)
 refine⟨det',qai ?_⟩
 simp only[run_Z37,Z37.ev]
 exact Ev.start (p:=fun φ n=>Z37.l0 (mkR (run E (φ 0))) (φ 0) n (W:Int) p 1 (W:Int) 0 [] (qaJ A R W)=_) 1 h (fun _ _ _ h=>h)
end VeT
open Go Go.Proofs Ve
namespace VeT
theorem qf2{i W j:Nat}(h:i*W+j≤4611686018427387904):w64 (w64 ((i:Int)*(W:Int))+(j:Int))=((i*W+j:Nat):Int):=by
 rw[qaY,qag (n:=((i*W:Nat):Int)) (by omega) (by omega),qag (by omega) (by omega)];omega
theorem qdD{A:Ent}{R W i j:Nat}(hi:i<R)(hj:j<W)(hRW:R*W≤1048576):(decide ((0:Int)≤((i*W+j:Nat):Int))&&decide (((i*W+j:Nat):Int)<((qas A W R).length:Int)))=true∧(qas A W R)[i*W+j]? = some (A i j):=by
 have:=qeY hi hj
 refine⟨?_,qbV hi hj⟩
 simp only[Bool.and_eq_true,decide_eq_true_eq,qar];omega
theorem qdE(p:Int)(R W:Nat)(cells:Sim)(hp:2≤p∧p≤251)(hR:R≤1048576)(hW:W≤1048576)(hRW:R*W≤1048576)(hl:cells.length=R*W)(he:qaD cells p) :
    ∃ det:Int,Ret E n_Z154 [dM (p,(R:Int),(W:Int),cells,())] ⟨o_Z154,(p,(R:Int),(W:Int),qas (elS p R (qcE cells W) W).1 W R,pvL (elS p R (qcE cells W) W).2,det,())⟩:=by
  generalize hMt:(p,(R:Int),(W:Int),cells,())=M
  have M1:M.1=p:=by rw[← hMt]
  have M2:M.2.1=(R:Int):=by rw[← hMt]
  have M3:M.2.2.1=(W:Int):=by rw[← hMt]
  have M4:M.2.2.2.1=cells:=by rw[← hMt]
  have hA:=qb8 he hl
  have hfl:=qfX hl
  generalize qcE cells W=A at hA hfl
  let G:Int→Option Dv:=fun det=>some ⟨o_Z154,(p,(R:Int),(W:Int),qas (elS p R A W).1 W R,pvL (elS p R A W).2,det,())⟩
  -- a column where no row is left
  have none_of:∀ c,(elS p R A c).2.length=R→elS p R A (c+1)=elS p R A c:=fun c h=>by
    show elP p R c (elS p R A c)=_
    rw[elP,h,Nat.sub_self];rfl
  have stay:∀ d c,c+d=W→(elS p R A c).2.length=R→elS p R A W=elS p R A c:=by
    intro d
    induction d with
    | zero=>intro c hc _;rw[show c=W by omega]
    | succ d ih =>
      intro c hc h
      have e:=none_of c h
      rw[ih (c+1) (by omega) (by rw[e];exact h),e]
  have key:∀ d c det,c+d=W→∃ det':Int,Ev fun φ=>Z154.l1 (mkR (run E (φ 0))) (φ 0) (φ 1) M p (W:Int) det ((elS p R A c).2.length:Int) (c:Int) 0 0 0 p (R:Int) (W:Int) (pvL (elS p R A c).2) (qas (elS p R A c).1 W R)=G det':=by
    intro d
    induction d with
    | zero =>
      intro c det hc
      obtain rfl:c=W:=by omega
      refine⟨det,Ev.round 1 (L:=fun φ n=>Z154.l1 (mkR (run E (φ 0))) (φ 0) n M p (c:Int) det ((elS p R A c).2.length:Int) (c:Int) 0 0 0 p (R:Int) (c:Int) (pvL (elS p R A c).2) (qas (elS p R A c).1 c R)) ?_ (fun _ _ _=>rfl)⟩
      simp only[Z154.l1_succ _ qae,Z154.j2_eq _ qae,cond_false]
      exact qaC (decide_eq_false (by omega)) qal
    | succ d ih =>
      intro c det hcd
      have hc:c<W:=by omega
      obtain⟨hB,hpl,hpc,_⟩:=qgs hp.1 hA c
      have hstep:elS p R A (c+1)=elP p R c (elS p R A c):=rfl
      by_cases hfull:(elS p R A c).2.length=R
      · refine⟨det,Ev.round 1 (L:=fun φ n=>Z154.l1 (mkR (run E (φ 0))) (φ 0) n M p (W:Int) det ((elS p R A c).2.length:Int) (c:Int) 0 0 0 p (R:Int) (W:Int) (pvL (elS p R A c).2) (qas (elS p R A c).1 W R)) ?_ (fun _ _ _=>rfl)⟩
        simp only[Z154.l1_succ _ qae,M2,hfull,show decide ((R:Int)<(R:Int))=false from decide_eq_false (by omega),Z154.j2_eq _ qae,cond_false]
        refine qax (decide_eq_true (by omega)) (qah ?_)
        show _=some _
        rw[stay (d+1) c hcd hfull]
      · have htR:(elS p R A c).2.length<R:=by omega
        generalize hS:elS p R A c=S at hB hpl hpc hstep hfull htR
        obtain⟨B0,pv⟩:=S
        simp only at hB hpl hpc hstep hfull htR
        generalize ht:pv.length=top at hpl hpc hfull htR
        -- what lies behind the exchange
        have back:∀ q,top≤q→q<R→B0 q c≠0→elS p R A (c+1)=(elF p c top (qcG top q B0),pv++[c])→∀ det2,∃ det',Ev fun φ=>Z154.j6 (mkR (run E (φ 0))) (φ 0) (φ 1) M p (W:Int) det2 (top:Int) (c:Int) 0 0 0 p (R:Int) (W:Int) (pvL pv) (qas (qcG top q B0) W R)=G det':=fun q hq1 hqR hq2 e det2=>by
          have hsw:=hB.sw htR hqR
          have hlead:1≤qcG top q B0 top c∧qcG top q B0 top c≤p-1:=by
            have h1:=hsw top c htR hc
            have h2:qcG top q B0 top c=B0 q c:=by simp[qcG]
            rw[← h2] at hq2
            omega
          generalize qcG top q B0=B at hsw hlead e
          obtain⟨det',h'⟩:=ih (c+1) (Int.tmod (w64 (det2*B top c)) p) (by omega)
          rw[e] at h'
          simp only at h'
          rw[qpg,List.length_append,List.length_singleton,ht] at h'
          have hNin:∀ j,0≤elN p c top B j∧elN p c top B j≤p-1:=fun j=>qdJ hp.1
          have hinv:=qpP (a:=B top c) (p:=p) hp.1
          have hinvR:=qjm (B top c) p hp ⟨by omega,hlead.2⟩
          have hidx:∀ i j,i<R→j<W→i*W+j≤4611686018427387904:=fun i j hi hj=>by have:=qeY hi hj;omega
          refine⟨det',?_⟩
          simp only[Z154.j6_eq _ qae,qf2 (hidx top c htR hc),Int.toNat_natCast]
          obtain⟨k1,k2⟩:=qdD (A:=B) htR hc hRW
          refine qao k1 (qab k2 (qao (by simp;omega) (qaa hinvR ?_)))
          generalize Int.tmod (w64 (det2*B top c)) p=D at h' ⊢
          -- the loop that scales the row
          let N:Nat→Ent:=fun n i j=>if i=top∧j<n then elN p c top B j else B i j
          have hN0:qas (N 0) W R=qas B W R:=qaK fun i j _ _=>by simp[N]
          have hNW:qas (N W) W R=qas (elM p c top B) W R:=qaK fun i j _ hj=>by
            simp only[N,elM,hj,and_true]
          rw[← hN0]
          refine Ev.start (p:=fun φ n=>Z154.l7 (mkR (run E (φ 0))) (φ 0) (φ 1) n M p (W:Int) D (top:Int) (c:Int) (qhz (B top c) p) 0 0 0 0 p (R:Int) (W:Int) (pvL pv) (qas (N 0) W R)=_) 2 ?_ (fun _ _ _ h=>h)
          refine qam 2 (L:=fun φ n j o=>Z154.l7 (mkR (run E (φ 0))) (φ 0) (φ 1) n M p (W:Int) D (top:Int) (c:Int) (qhz (B top c) p) j 0 0 0 p (R:Int) (W:Int) (pvL pv) o) (len:=W) (fun j=>qas (N j) W R) (fun _ _ _ _ _=>rfl) (fun j r hj ih2=>?_) ?_
          · simp only[Z154.l7_succ _ qae,qf2 (hidx top j htR hj),Int.toNat_natCast]
            obtain⟨k1,k2⟩:=qdD (A:=N j) htR hj hRW
            have hNj:N j top j=B top j:=by simp[N]
            rw[hNj] at k2
            have hb:=hsw top j htR hj
            have ev:=qnv (x:=B top j) (y:=qhz (B top c) p) (p:=p) (by omega) (by omega) hp
            have hset:(qas (N j) W R).set (top*W+j) (B top j*qhz (B top c) p%p)=qas (N (j+1)) W R:=by
              rw[qdl htR hj]
              refine qaK fun k l _ _=>?_
              simp only[N]
              by_cases h1:k=top
              · subst h1
                by_cases h2:l=j
                · subst h2;simp[elN]
                · simp only[true_and,h2,if_false,and_false]
                  by_cases h3:l<j
                  · rw[if_pos h3,if_pos (by omega)]
                  · rw[if_neg h3,if_neg (by omega)]
              · simp[h1]
            refine qax (decide_eq_true (by omega)) (qao k1 (qab k2 (qao (by simp;omega) (qao k1 ?_))))
            simp only[ev]
            rw[qad (by omega),hset];exact ih2
          · simp only[Z154.l7_succ _ qae]
            refine qaC (decide_eq_false (by omega)) ?_
            rw[hNW]
            -- the loop over the rows
            let K:Nat→Ent:=fun n i j=>if i<n then elF p c top B i j else elM p c top B i j
            have hK0:qas (K 0) W R=qas (elM p c top B) W R:=qaK fun i j _ _=>by simp[K]
            have hKR:qas (K R) W R=qas (elF p c top B) W R:=qaK fun i j hi _=>by simp[K,hi]
            rw[← hK0]
            refine Ev.start (p:=fun φ n=>Z154.l8 (mkR (run E (φ 0))) (φ 0) (φ 1) n M p (W:Int) D (top:Int) (c:Int) 0 0 0 0 p (R:Int) (W:Int) (pvL pv) (qas (K 0) W R)=_) 3 ?_ (fun _ _ _ h=>h)
            refine qam 3 (L:=fun φ n i o=>Z154.l8 (mkR (run E (φ 0))) (φ 0) (φ 1) n M p (W:Int) D (top:Int) (c:Int) i 0 0 0 p (R:Int) (W:Int) (pvL pv) o) (len:=R) (fun i=>qas (K i) W R) (fun _ _ _ _ _=>rfl) (fun i r hi ih2=>?_) ?_
            · simp only[Z154.l8_succ _ qae,M2,qf2 (hidx i c hi hc),Int.toNat_natCast]
              obtain⟨k1,k2⟩:=qdD (A:=K i) hi hc hRW
              refine qax (decide_eq_true (by omega)) (qao k1 (qab k2 ?_))
              by_cases hit:i=top
              · subst hit
                refine qax (by simp) ?_
                simp only[Z154.j9_eq _ qae,cond_true]
                have hsame:qas (K (i+1)) W R=qas (K i) W R:=qaK fun k j _ _=>by
                  simp only[K]
                  by_cases h1:k=i
                  · subst h1;simp[elF,elM]
                  · by_cases h2:k<i
                    · rw[if_pos (by omega),if_pos h2]
                    · rw[if_neg (by omega),if_neg h2]
                rw[hsame] at ih2
                rw[qad (by omega)];exact ih2
              · have hM:∀ j,K i i j=B i j:=fun j=>by simp[K,elM,hit]
                rw[hM]
                have hBi:=hsw i c hi hc
                refine qaC (by simp;omega) ?_
                by_cases hz:B i c=0
                · simp only[hz,beq_self_eq_true,Z154.j9_eq _ qae,cond_true]
                  have hsame:qas (K (i+1)) W R=qas (K i) W R:=qaK fun k j _ _=>by
                    simp only[K]
                    by_cases h1:k=i
                    · subst h1;simp[elF,elM,hit,hz]
                    · by_cases h2:k<i
                      · rw[if_pos (by omega),if_pos h2]
                      · rw[if_neg (by omega),if_neg h2]
                  rw[hsame] at ih2
                  rw[qad (by omega)];exact ih2
                · have hne:(B i c==0)=false:=by simpa using hz
                  simp only[hne,Z154.j9_eq _ qae,cond_false]
                  let Q:Nat→Ent:=fun n k j=>if k=i∧j<n then elF p c top B i j else K i k j
                  have hQ0:qas (Q 0) W R=qas (K i) W R:=qaK fun k j _ _=>by simp[Q]
                  have hQW:qas (Q W) W R=qas (K (i+1)) W R:=qaK fun k j _ hj=>by
                    simp only[Q,K,hj,and_true]
                    by_cases h1:k=i
                    · subst h1;simp
                    · by_cases h2:k<i
                      · rw[if_neg h1,if_pos h2,if_pos (by omega)]
                      · rw[if_neg h1,if_neg h2,if_neg (by omega)]
                  rw[← hQ0]
                  refine Ev.start (p:=fun φ n=>Z154.l10 (mkR (run E (φ 0))) (φ 0) (φ 1) (φ 3) n M p (W:Int) D (top:Int) (c:Int) (i:Int) (B i c) 0 0 0 0 p (R:Int) (W:Int) (pvL pv) (qas (Q 0) W R)=_) 4 ?_ (fun _ _ _ h=>h)
                  refine qam 4 (L:=fun φ n j o=>Z154.l10 (mkR (run E (φ 0))) (φ 0) (φ 1) (φ 3) n M p (W:Int) D (top:Int) (c:Int) (i:Int) (B i c) j 0 0 0 p (R:Int) (W:Int) (pvL pv) o) (len:=W) (fun j=>qas (Q j) W R) (fun _ _ _ _ _=>rfl) (fun j r2 hj ih3=>?_) ?_
                  · simp only[Z154.l10_succ _ qae,qf2 (hidx i j hi hj),qf2 (hidx top j htR hj),Int.toNat_natCast]
                    obtain⟨k1,k2⟩:=qdD (A:=Q j) hi hj hRW
                    obtain⟨k3,k4⟩:=qdD (A:=Q j) htR hj hRW
                    have q1:Q j i j=B i j:=by simp only[Q,Nat.lt_irrefl,and_false,if_false];exact hM j
                    have q2:Q j top j=elN p c top B j:=by
                      have:¬ top=i:=fun e=>hit e.symm
                      simp[Q,K,this,elF,elM]
                    rw[q1] at k2
                    rw[q2] at k4
                    have hbij:=hsw i j hi hj
                    have hnj:=hNin j
                    have hm:=qeq (x:=B i c) (y:=elN p c top B j) (by omega) (by omega)
                    have e1:w64 (B i c*elN p c top B j)=B i c*elN p c top B j:=qag (by omega) (by omega)
                    have e2:w64 (B i j-B i c*elN p c top B j)=B i j-B i c*elN p c top B j:=qag (by omega) (by omega)
                    have e3:qr1 (B i j-B i c*elN p c top B j) p=elF p c top B i j:=by
                      rw[qms hp (by omega)]
                      unfold elF
                      rw[if_neg hit,if_pos hz]
                      have:B i j+(p-B i c)*elN p c top B j=B i j-B i c*elN p c top B j+p*elN p c top B j:=by rw[Int.sub_mul];omega
                      rw[this,Int.add_mul_emod_self_left]
                    have hmod:=qjQ (B i j-B i c*elN p c top B j) p hp.1
                    rw[e3] at hmod
                    have hset:(qas (Q j) W R).set (i*W+j) (elF p c top B i j)=qas (Q (j+1)) W R:=by
                      rw[qdl hi hj]
                      refine qaK fun k l _ _=>?_
                      simp only[Q]
                      by_cases h1:k=i
                      · subst h1
                        by_cases h2:l=j
                        · subst h2;simp
                        · simp only[true_and,h2,if_false,and_false]
                          by_cases h3:l<j
                          · rw[if_pos h3,if_pos (by omega)]
                          · rw[if_neg h3,if_neg (by omega)]
                      · simp[h1]
                    refine qax (decide_eq_true (by omega)) (qao k1 (qab k2 (qao k3 (qab k4 ?_))))
                    simp only[e1,e2]
                    refine qaa hmod (qao k1 ?_)
                    rw[qad (by omega)]
                    rw[← hset] at ih3
                    exact ih3
                  · simp only[Z154.l10_succ _ qae]
                    refine qaC (decide_eq_false (by omega)) ?_
                    rw[qad (by omega),hQW];exact ih2
            · simp only[Z154.l8_succ _ qae,M2]
              refine qaC (decide_eq_false (by omega)) (qao (by simp only[qa5,List.length_cons,List.length_nil,decide_eq_true_eq];omega) ?_)
              rw[qad (by omega),qad (by omega),hKR]
              exact h'
        have hidx:∀ i j,i<R→j<W→i*W+j≤4611686018427387904:=fun i j hi hj=>by have:=qeY hi hj;omega
        -- the search for the row
        have search:∀ rs:Nat→Option Dv,∀ rn:Option Dv,(∀ q,top≤q→q<R→B0 q c≠0→(∀ i,top≤i→i<q→¬ B0 i c≠0)→Ev fun φ=>Z154.j4 (mkR (run E (φ 0))) (φ 0) (φ 1) (φ 2) M p (W:Int) det (top:Int) (c:Int) (q:Int) false 0 0 0 p (R:Int) (W:Int) (pvL pv) (qas B0 W R)=rs q) →
            ((∀ i,top≤i→i<R→¬ B0 i c≠0)→Ev fun φ=>Z154.j4 (mkR (run E (φ 0))) (φ 0) (φ 1) (φ 2) M p (W:Int) det (top:Int) (c:Int) (R:Int) false 0 0 0 p (R:Int) (W:Int) (pvL pv) (qas B0 W R)=rn) →
            Ev fun φ=>Z154.l3 (mkR (run E (φ 0))) (φ 0) (φ 1) (φ 0) M p (W:Int) det (top:Int) (c:Int) (top:Int) 0 0 0 p (R:Int) (W:Int) (pvL pv) (qas B0 W R)=orN rs rn (qaM (fun i=>B0 i c≠0) top (R-top)):=fun rs rn hs hn=>by
          refine Ev.start (p:=fun φ n=>Z154.l3 (mkR (run E (φ 0))) (φ 0) (φ 1) n M p (W:Int) det (top:Int) (c:Int) (top:Int) 0 0 0 p (R:Int) (W:Int) (pvL pv) (qas B0 W R)=_) 2 ?_ (fun _ _ _ h=>h)
          -- the first one is kept in mind by the number of the round
          have go:∀ d a,top≤a→a+d=R→(∀ i,top≤i→i<a→¬ B0 i c≠0)→Ev fun φ=>Z154.l3 (mkR (run E (φ 0))) (φ 0) (φ 1) (φ 2) M p (W:Int) det (top:Int) (c:Int) (a:Int) 0 0 0 p (R:Int) (W:Int) (pvL pv) (qas B0 W R)=orN rs rn (qaM (fun i=>B0 i c≠0) a d):=by
            intro d
            induction d with
            | zero =>
              intro a ha hk hno
              obtain rfl:a=R:=by omega
              refine Ev.round 2 (L:=fun φ n=>Z154.l3 (mkR (run E (φ 0))) (φ 0) (φ 1) n M p (W:Int) det (top:Int) (c:Int) (a:Int) 0 0 0 p (a:Int) (W:Int) (pvL pv) (qas B0 W a)) ?_ (fun _ _ _=>rfl)
              simp only[Z154.l3_succ _ qae,M2]
              exact qaC (decide_eq_false (by omega)) (hn hno)
            | succ d ih3 =>
              intro a ha hk hno
              have haR:a<R:=by omega
              refine Ev.round 2 (L:=fun φ n=>Z154.l3 (mkR (run E (φ 0))) (φ 0) (φ 1) n M p (W:Int) det (top:Int) (c:Int) (a:Int) 0 0 0 p (R:Int) (W:Int) (pvL pv) (qas B0 W R)) ?_ (fun _ _ _=>rfl)
              simp only[Z154.l3_succ _ qae,M2,qf2 (hidx a c haR hc),Int.toNat_natCast]
              obtain⟨k1,k2⟩:=qdD (A:=B0) haR hc hRW
              refine qax (decide_eq_true (by omega)) (qao k1 (qab k2 ?_))
              rw[qaM]
              by_cases hz:B0 a c=0
              · rw[if_neg (by simpa using hz)]
                simp only[hz,beq_self_eq_true,Z154.j4_eq _ qae,cond_true]
                rw[qad (by omega)]
                refine ih3 (a+1) (by omega) (by omega) fun i h1 h2=>?_
                by_cases e:i=a
                · subst e;simpa using hz
                · exact hno i h1 (by omega)
              · rw[if_pos hz]
                have hne:(B0 a c==0)=false:=by simpa using hz
                simp only[hne]
                exact hs a ha haR hz hno
          exact go (R-top) top (Nat.le_refl _) (by omega) fun i h1 h2=>by omega
        have enter:∀ r,(Ev fun φ=>Z154.l3 (mkR (run E (φ 0))) (φ 0) (φ 1) (φ 0) M p (W:Int) det (top:Int) (c:Int) (top:Int) 0 0 0 p (R:Int) (W:Int) (pvL pv) (qas B0 W R)=r)→Ev fun φ=>Z154.l1 (mkR (run E (φ 0))) (φ 0) (φ 1) M p (W:Int) det (top:Int) (c:Int) 0 0 0 p (R:Int) (W:Int) (pvL pv) (qas B0 W R)=r:=fun r hr=>by
          refine Ev.round 1 (L:=fun φ n=>Z154.l1 (mkR (run E (φ 0))) (φ 0) n M p (W:Int) det (top:Int) (c:Int) 0 0 0 p (R:Int) (W:Int) (pvL pv) (qas B0 W R)) ?_ (fun _ _ _=>rfl)
          simp only[Z154.l1_succ _ qae,M2,show decide ((top:Int)<(R:Int))=true from decide_eq_true (by omega),Z154.j2_eq _ qae,cond_true]
          exact qax (decide_eq_true (by omega)) hr
        cases hf:qaM (fun i=>B0 i c≠0) top (R-top) with
        | none =>
          have e:elS p R A (c+1)=(B0,pv):=by rw[hstep,elP];simp only[ht,hf]
          obtain⟨det',h'⟩:=ih (c+1) det (by omega)
          rw[e] at h'
          simp only[ht] at h'
          refine⟨det',enter _ ?_⟩
          have:=search (fun _=>G det') (G det') (fun q h1 h2 h3 _=>absurd h3 (qcB hf q h1 (by omega))) fun _=>by
            simp only[Z154.j4_eq _ qae,cond_false,M2]
            refine qax (by simp) ?_
            rw[qad (by omega)];exact h'
          rw[hf] at this
          exact this
        | some q =>
          have hq:=qay hf
          have hqR:q<R:=by omega
          have e:elS p R A (c+1)=(elF p c top (qcG top q B0),pv++[c]):=by rw[hstep,elP];simp only[ht,hf]
          by_cases hqt:q=top
          · subst hqt
            obtain⟨det',h'⟩:=back q (Nat.le_refl _) hqR hq.2.2 e det
            have hself:qas (qcG q q B0) W R=qas B0 W R:=qaK fun i j _ _=>by
              unfold qcG
              by_cases h:i=q
              · subst h;simp
              · simp[h]
            rw[hself] at h'
            refine⟨det',enter _ ?_⟩
            have:=search (fun _=>G det') (G det') (fun q' h1 h2 h3 h4=>by
              obtain rfl:q'=q:=Classical.byContradiction fun hne=>h4 q (Nat.le_refl _) (by omega) hq.2.2
              simp only[Z154.j4_eq _ qae,cond_false,M2]
              exact qaC (by simp;omega) (qaC (by simp) h')) fun hno=>absurd hq.2.2 (hno q (Nat.le_refl _) hqR)
            rw[hf] at this
            exact this
          · obtain⟨det',h'⟩:=back q hq.1 hqR hq.2.2 e (w64 (p-det))
            refine⟨det',enter _ ?_⟩
            have:=search (fun _=>G det') (G det') (fun q' h1 h2 h3 h4=>by
              obtain rfl:q'=q:=by
                rcases Nat.lt_trichotomy q' q with h | h | h
                · exact absurd h3 (qc0 hf q' h1 h)
                · exact h
                · exact absurd hq.2.2 (h4 q hq.1 h)
              simp only[Z154.j4_eq _ qae,cond_false,M2]
              refine qaC (by simp;omega) (qax (by simp;omega) ?_)
              -- the loop that exchanges the rows
              let X:Nat→Ent:=fun n i j=>if j<n then qcG top q' B0 i j else B0 i j
              have hX0:qas (X 0) W R=qas B0 W R:=qaK fun i j _ _=>by simp[X]
              have hXW:qas (X W) W R=qas (qcG top q' B0) W R:=qaK fun i j _ hj=>by simp[X,hj]
              rw[← hX0]
              refine Ev.start (p:=fun φ n=>Z154.l5 (mkR (run E (φ 0))) (φ 0) (φ 1) n M p (W:Int) (w64 (p-det)) (top:Int) (c:Int) (q':Int) 0 0 0 0 p (R:Int) (W:Int) (pvL pv) (qas (X 0) W R)=_) 3 ?_ (fun _ _ _ h=>h)
              refine qam 3 (L:=fun φ n j o=>Z154.l5 (mkR (run E (φ 0))) (φ 0) (φ 1) n M p (W:Int) (w64 (p-det)) (top:Int) (c:Int) (q':Int) j 0 0 0 p (R:Int) (W:Int) (pvL pv) o) (len:=W) (fun j=>qas (X j) W R) (fun _ _ _ _ _=>rfl) (fun j r hj ih3=>?_) ?_
              · simp only[Z154.l5_succ _ qae,qf2 (hidx q' j hqR hj),qf2 (hidx top j htR hj),Int.toNat_natCast,List.length_set]
                obtain⟨k1,k2⟩:=qdD (A:=X j) hqR hj hRW
                obtain⟨k3,k4⟩:=qdD (A:=X j) htR hj hRW
                have x1:X j q' j=B0 q' j:=by simp[X]
                have x2:X j top j=B0 top j:=by simp[X]
                rw[x1] at k2
                rw[x2] at k4
                have hset:((qas (X j) W R).set (q'*W+j) (B0 top j)).set (top*W+j) (B0 q' j)=qas (X (j+1)) W R:=by
                  rw[qdl hqR hj,qdl htR hj]
                  refine qaK fun k l _ _=>?_
                  simp only[X]
                  by_cases hl:l=j
                  · subst hl
                    by_cases hk1:k=top
                    · subst hk1;simp[qcG]
                    · by_cases hk2:k=q'
                      · subst hk2;simp[qcG,hk1]
                      · simp[qcG,hk1,hk2]
                  · simp only[hl,and_false,if_false]
                    by_cases h3:l<j
                    · rw[if_pos h3,if_pos (by omega)]
                    · rw[if_neg h3,if_neg (by omega)]
                refine qax (decide_eq_true (by omega)) (qao k1 (qab k2 (qao k3 (qab k4 (qao k1 (qao k3 ?_))))))
                rw[qad (by omega),hset];exact ih3
              · simp only[Z154.l5_succ _ qae]
                refine qaC (decide_eq_false (by omega)) ?_
                rw[hXW];exact h') fun hno=>absurd hq.2.2 (hno q hq.1 hqR)
            rw[hf] at this
            exact this
  obtain⟨det',h⟩:=key W 0 1 (by omega)
  refine⟨det',qai ?_⟩
  have h0:qas (elS p R A 0).1 W R=cells:=hfl
  rw[h0] at h
  simp only[run_Z154,Z154.ev,Z154.j0_eq _ qae,M1,M2,M3,M4]
  have own:=qcW cells (by omega)
  have st:=Ev.start (p:=fun φ n=>Z154.l1 (mkR (run E (φ 0))) (φ 0) n M p (W:Int) 1 0 0 0 0 0 p (R:Int) (W:Int) [] cells=G det') 1 h (fun _ _ _ h=>h)
  exact qbL (qaa own st) (qaa own st)
end VeT
