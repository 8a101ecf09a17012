import Derived.Test.YtagdejckmpipbaaGreatT5
import Derived.Test.YtagdejckmpipbaaGreatV2
import Derived.KernelRfl
set_option linter.unusedVariables false
set_option linter.unusedSimpArgs false
open Go Go.Proofs Ve
namespace VeT
theorem qmp(a b:Sim)(ha:a.length≤1048576):Ret E n_Z113 [dL a,dL b] ⟨o_Z113,(pb (a=b),())⟩:=by
 refine qal ?_
 simp only[run_Z113,Z113.ev]
 refine qb5 (fun h=>qan ?_) fun h=>?_
 ·have h:(a.length:Int)≠b.length:=by simpa using h
  rw[qas fun e=>h (by rw[e])]
 ·have h:(a.length:Int)=b.length:=by simpa using h
  refine Ev.start (p:=fun φ n=>Z113.l0 (mkR (run E (φ 0))) (φ 0) n a b (a.length:Int) 0=_) 1 ?_ (fun _ _ _ h=>h)
  refine(qdw 1 (L:=fun φ n k=>Z113.l0 (mkR (run E (φ 0))) (φ 0) n a b (a.length:Int) k) (len:=a.length) 0 (by omega) (fun j=>a.getD j 0=b.getD j 0) (fun b=>some ⟨o_Z113,(b,())⟩) (fun _ _ _ _=>rfl) (fun k h1 h2 hP _=>?_) (fun k r h1 h2 hP _ ih=>?_) (fun _=>?_)).to ?_
  ·simp only[Z113.l0_succ _ qae]
   have hb:k<b.length:=by omega
   rw[qaf h2,qaf hb] at hP
   exact qax (decide_eq_true (by omega)) (qac (qak h2) (qac (qak hb) (qax (by simpa using hP) qam)))
  ·simp only[Z113.l0_succ _ qae]
   have hb:k<b.length:=by omega
   rw[qaf h2,qaf hb] at hP
   refine qax (decide_eq_true (by omega)) (qac (qak h2) (qac (qak hb) (qaA (by simpa using hP) ?_)))
   rw[qad (by omega)];exact ih
  ·simp only[Z113.l0_succ _ qae]
   exact qaA (decide_eq_false (by omega)) qam
  ·refine congrArg (fun b:Bool=>some (⟨o_Z113,(b,())⟩:Dv)) (qaM ⟨fun hh=>List.ext_getElem (by omega) fun j h1 h2=>?_,fun hh j _ _=>by rw[hh]⟩)
   have:=hh j (by omega) h1
   rwa [qaf h1,qaf h2] at this
theorem qek{a b:Mat}:a=b↔a.1=b.1∧a.2.1=b.2.1∧a.2.2.1=b.2.2.1∧a.2.2.2.1=b.2.2.2.1:=by
 obtain⟨p,r,k,c,⟨⟩⟩:=a
 obtain⟨p',r',k',c',⟨⟩⟩:=b
 simp only[Prod.mk.injEq,and_true]
theorem qhW(a b:Mat)(ha:a.2.2.2.1.length≤1048576):Ret E n_Z9 [dI a.1,dI a.2.1,dI a.2.2.1,dL a.2.2.2.1,dI b.1,dI b.2.1,dI b.2.2.1,dL b.2.2.2.1] ⟨o_Z9,(pb (a=b),())⟩:=by
 refine qal ?_
 simp only[run_Z9,Z9.ev]
 refine qb5 (fun h1=>qb5 (fun h2=>qb5 (fun h3=>qaa (qmp _ _ ha) (qan ?_)) fun h3=>qan ?_) fun h2=>qan ?_) fun h1=>qan ?_
 ·exact congrArg (fun b:Bool=>some (⟨o_Z9,(b,())⟩:Dv)) (qaM ⟨fun h=>qek.2 ⟨by simpa using h1,by simpa using h2,by simpa using h3,h⟩,fun h=>(qek.1 h).2.2.2⟩)
 ·rw[qas fun h=>by have:=(qek.1 h).2.2.1;simp[this] at h3]
 ·rw[qas fun h=>by have:=(qek.1 h).2.1;simp[this] at h2]
 ·rw[qas fun h=>by have:=(qek.1 h).1;simp[this] at h1]
theorem qkZ(a b:Mat)(ha:a.2.2.2.1.length≤1048576):Ret E n_Z139 [dM a,dM b] ⟨o_Z139,(pb (a=b),())⟩:=by
 refine qal ?_
 simp only[run_Z139,Z139.ev]
 have no:a≠b→Ev fun φ=>Z139.j0 (mkR (run E (φ 0))) (φ 0) a b true=some ⟨o_Z139,(pb (a=b),())⟩:=fun h=>by
  simp only[Z139.j0_eq _ qae,cond_true]
  rw[qas h];(first | exact qam | exact Ev.of fun _=>trivial)
 refine qb5 (fun h1=>no fun h=>by simp[(qek.1 h).1] at h1) fun h1=>qb5 (fun h2=>no fun h=>by simp[(qek.1 h).2.1] at h2) fun h2=>qb5 (fun h3=>no fun h=>by simp[(qek.1 h).2.2.1] at h3) fun h3=>?_
 have h1:a.1=b.1:=by simpa using h1
 have h2:a.2.1=b.2.1:=by simpa using h2
 have h3:a.2.2.1=b.2.2.1:=by simpa using h3
 by_cases hl:a.2.2.2.1.length=b.2.2.2.1.length
 ·simp only[show((a.2.2.2.1.length:Int) != (b.2.2.2.1.length:Int))=false by simp[hl],Z139.j0_eq _ qae,cond_false]
  refine Ev.start (p:=fun φ n=>Z139.l1 (mkR (run E (φ 0))) (φ 0) n a b 0=_) 1 ?_ (fun _ _ _ h=>h)
  refine(qdw 1 (L:=fun φ n k=>Z139.l1 (mkR (run E (φ 0))) (φ 0) n a b k) (len:=a.2.2.2.1.length) 0 (by omega) (fun j=>a.2.2.2.1.getD j 0=b.2.2.2.1.getD j 0) (fun b=>some ⟨o_Z139,(b,())⟩) (fun _ _ _ _=>rfl) (fun k k1 k2 hP _=>?_) (fun k r k1 k2 hP _ ih=>?_) (fun _=>?_)).to ?_
  ·simp only[Z139.l1_succ _ qae]
   have hb:k<b.2.2.2.1.length:=by omega
   rw[qaf k2,qaf hb] at hP
   exact qax (decide_eq_true (by omega)) (qac (qak k2) (qac (qak hb) (qax (by simpa using hP) qam)))
  ·simp only[Z139.l1_succ _ qae]
   have hb:k<b.2.2.2.1.length:=by omega
   rw[qaf k2,qaf hb] at hP
   refine qax (decide_eq_true (by omega)) (qac (qak k2) (qac (qak hb) (qaA (by simpa using hP) ?_)))
   rw[qad (by omega)];exact ih
  ·simp only[Z139.l1_succ _ qae]
   exact qaA (decide_eq_false (by omega)) qam
  ·refine congrArg (fun b:Bool=>some (⟨o_Z139,(b,())⟩:Dv)) (qaM ⟨fun hh=>qek.2 ⟨h1,h2,h3,List.ext_getElem hl fun j g1 g2=>?_⟩,fun hh j _ _=>by rw[hh]⟩)
   have:=hh j (by omega) g1
   rwa [qaf g1,qaf g2] at this
 ·simp only[show((a.2.2.2.1.length:Int) != (b.2.2.2.1.length:Int))=true by simp;omega]
  exact no fun h=>hl (by rw[(qek.1 h).2.2.2])
noncomputable def mp(c:List Sim)(ms:List Mat)(k i:Nat):Mat:=ms.getD (plc c k+i) mz
noncomputable def fc(c:List Sim)(k i:Nat):Nat:=((qaU c k).getD i 0).toNat
theorem qkJ{c:List Sim}{s:Sim}(h:s∈c):c.getD (qcT c s).toNat []=s:=by
 have h0:=qbF.2 h
 unfold qcT qjd at h0 ⊢
 cases hf:c.findIdx? (fun x=>pb (x=s)) with
 | none=>rw[hf] at h0;simp[o2i] at h0
 | some k =>
  rw[List.findIdx?_eq_some_iff_getElem] at hf
  obtain⟨hk,hp,_⟩:=hf
  simp only[o2i,Int.toNat_natCast]
  rw[qaf hk];exact qaE.1 hp
theorem qcJ{c:List Sim}(h:VC c){k i:Nat}(hk:k<c.length)(hi:i<(qaU c k).length):idx? (qaU c k) (i:Int)=some ((fc c k i:Nat):Int)∧fc c k i<c.length∧c.getD (fc c k i) []=(c.getD k []).eraseIdx i:=by
 have hm:=qjG h hk (List.getElem_mem hi)
 have hl:=qaV (c:=c) (k:=k)
 have h1:1<(c.getD k []).length:=Classical.byContradiction fun hn=>by rw[if_neg hn] at hl;omega
 rw[if_pos h1] at hl
 have hfc:(qaU c k)[i]=qcT c ((c.getD k []).eraseIdx i):=by
  have:(qaU c k)[i]? = some (qcT c ((c.getD k []).eraseIdx i)):=by
   unfold qaU qb2
   rw[if_pos h1,List.map_map,List.getElem?_map,List.getElem?_range (by omega)];rfl
  rw[List.getElem?_eq_getElem hi] at this
  exact Option.some.inj this
 have hin:(c.getD k []).eraseIdx i∈c:=h.2.2.2 k hk _ (qc2.2 ⟨h1,i,by omega,rfl⟩)
 unfold fc
 rw[qaf hi]
 refine⟨?_,by omega,?_⟩
 ·rw[qak hi];congr 1;omega
 ·rw[hfc];exact qkJ hin
theorem VS.map{c:List Sim}{p:Int}{st:Sim}{ms:List Mat}(h:VS c p st ms){k i:Nat}(hk:k<c.length)(hi:i<(qaU c k).length):plc c k+i<ms.length∧Bt (mp c ms k i) p (st.getD (fc c k i) 0) (st.getD k 0):=by
 have hg:=qec hk hi
 have hlt:=(List.getElem?_eq_some_iff.1 hg).1
 exact⟨by rw[← h.2.2.2.1];exact hlt,h.2.2.2.2 k hk i hi⟩
theorem qkH(c:List Sim)(p:Int)(st:Sim)(ms:List Mat)(k:Nat)(hk:k≤c.length)(hv:VC c):Ret E n_Z42 [dLL c,dI p,dL st,dMs ms,dI (k:Int)] ⟨o_Z42,(((plc c k:Nat):Int),())⟩:=by
 have h48:=hv.1
 have htl:(c.take k).length=k:=by rw[List.length_take];omega
 refine qal ?_
 simp only[run_Z42,Z42.ev,Int.toNat_natCast,htl]
 refine qaq (by simp;omega) ?_
 refine Ev.start (p:=fun φ n=>Z42.l0 (mkR (run E (φ 0))) (φ 0) n 0 (c.take k) (k:Int) 0=_) 1 ?_ (fun _ _ _ h=>h)
 have:=qap 1 (L:=fun φ n j a=>Z42.l0 (mkR (run E (φ 0))) (φ 0) n a (c.take k) (k:Int) j) (len:=k) (fun j=>((plc c j:Nat):Int)) (r:=some ⟨o_Z42,(((plc c k:Nat):Int),())⟩) (fun _ _ _ _ _=>rfl) (fun j r hj ih=>?_) ?_
 ·exact this
 ·simp only[Z42.l0_succ _ qae]
  have hjc:j<c.length:=by omega
  have hpl:=hv.plc (k:=j) (by omega)
  have h4:=hv.len4 hjc
  have e:=qje (c:=c) (k:=j)
  rw[qaV] at e
  rw[qaf hjc] at e h4
  have hjt:j<(c.take k).length:=by omega
  have hgt:(c.take k)[j]=c[j]:=List.getElem_take
  refine qax (decide_eq_true (by omega)) (qac (qak hjt) ?_)
  rw[hgt]
  refine qdH (fun hl=>qaa (qcX _) ?_) fun hl=>?_
  ·rw[if_pos (by omega)] at e
   rw[qad (by omega),qah (by omega) (by omega)]
   rw[e] at ih
   simpa using ih
  ·rw[if_neg (by omega)] at e
   rw[qad (by omega)]
   rw[e] at ih;exact ih
 ·simp only[Z42.l0_succ _ qae]
  exact qaA (decide_eq_false (by omega)) qam
theorem qcj(c:List Sim)(p:Int)(st:Sim)(ms:List Mat)(k i:Nat)(hk:k<c.length)(hi:i<(qaU c k).length)(h:VS c p st ms):Ret E n_Z29 [dLL c,dI p,dL st,dMs ms,dI (k:Int),dI (i:Int)] ⟨o_Z29,mp c ms k i⟩:=by
 have h48:=h.1.1
 have hpl:=h.1.plc (k:=k) (by omega)
 have h4:=h.1.fIdx4 hk
 obtain⟨ht,_⟩:=h.map hk hi
 refine qal ?_
 simp only[run_Z29,Z29.ev]
 refine qaa (qkH c p st ms k (by omega) h.1) ?_
 simp only
 rw[qah (by omega) (by omega),show((plc c k:Nat):Int)+(i:Int)=((plc c k+i:Nat):Int) by omega]
 refine qac (qak ht) (qan ?_)
 rw[mp,qaf ht]
theorem qc1(x:Shf)(k i:Nat)(hk:k<x.1.length)(hi:i<(qaU x.1 k).length)(h:VS x.1 x.2.1 x.2.2.1 x.2.2.2.1):Ret E n_Z152 [dS x,dI (k:Int),dI (i:Int)] ⟨o_Z152,(mp x.1 x.2.2.2.1 k i,())⟩:=by
 have h4:=h.1.fIdx4 hk
 obtain⟨ht,_⟩:=h.map hk hi
 refine qal ?_
 simp only[run_Z152,Z152.ev]
 refine qaa (qdO x.1 k i (by omega) (by omega) h.1) (qac (qak ht) (qan ?_))
 rw[mp,qaf ht]
noncomputable def two(c:List Sim)(ms:List Mat)(k i j:Nat):Mat:=qoE (mp c ms k i) (mp c ms (fc c k i) j)
theorem ql9{a b:Mat}(ha:VM a)(hb:VM b):(qoE a b).2.2.2.1.length≤1048576:=by
 show(qat _ _ _).length≤_
 rw[qav]
 have h1:=ha.2.1
 have h2:=hb.2.2.1
 have:=qcY (R:=a.2.1.toNat) (C:=b.2.2.1.toNat) (by omega) (by omega)
 omega
structure Sq (c:List Sim) (p:Int) (st:Sim) (ms:List Mat) (k i j:Nat):Prop where
 kl:k<c.length
 n3:3≤(c.getD k []).length
 il:i<(c.getD k []).length
 jl:j+1<(c.getD k []).length
 v:VS c p st ms
theorem Sq.hi{c p st ms k i j}(h:Sq c p st ms k i j):i<(qaU c k).length:=by
 have:=h.n3;have:=h.il
 rw[qaV,if_pos (by omega)];exact this
theorem Sq.fk{c p st ms k i j}(h:Sq c p st ms k i j):fc c k i<c.length:=(qcJ h.v.1 h.kl h.hi).2.1
theorem Sq.hj{c p st ms k i j}(h:Sq c p st ms k i j):j<(qaU c (fc c k i)).length:=by
 have h1:=h.n3;have h2:=h.il;have h3:=h.jl
 have e:=(qcJ h.v.1 h.kl h.hi).2.2
 rw[qaV,e,List.length_eraseIdx,if_pos h2,if_pos (by omega)];omega
theorem Sq.b1{c p st ms k i j}(h:Sq c p st ms k i j):VM (mp c ms k i):=((h.v.map h.kl h.hi).2).1
theorem Sq.b2{c p st ms k i j}(h:Sq c p st ms k i j):VM (mp c ms (fc c k i) j):=((h.v.map h.fk h.hj).2).1
theorem Sq.sh{c p st ms k i j}(h:Sq c p st ms k i j):(mp c ms k i).2.2.1=(mp c ms (fc c k i) j).2.1:=by
 rw[((h.v.map h.kl h.hi).2).2.2.2,((h.v.map h.fk h.hj).2).2.2.1]
theorem Sq.impl{c p st ms k i j}(h:Sq c p st ms k i j):Ret E n_Z57 [dI (mp c ms k i).1,dI (mp c ms k i).2.1,dI (mp c ms k i).2.2.1,dL (mp c ms k i).2.2.2.1,dI (mp c ms (fc c k i) j).1,dI (mp c ms (fc c k i) j).2.1,dI (mp c ms (fc c k i) j).2.2.1,dL (mp c ms (fc c k i) j).2.2.2.1] ⟨o_Z57,two c ms k i j⟩ :=
 qhC _ _ h.b1 h.b2 h.sh
theorem qiI(x:Shf)(k i j:Nat)(hij:i≠j)(h:Sq x.1 x.2.1 x.2.2.1 x.2.2.2.1 k i (if i<j then j-1 else j))(hc:Sm (.sl (.sl (.int .i64))) x.1)(hj:j≤1048576):Ret E n_Z160 [dS x,dI (k:Int),dI (i:Int),dI (j:Int)] ⟨o_Z160,two x.1 x.2.2.2.1 k i (if i<j then j-1 else j)⟩:=by
 obtain⟨hidx,hF,_⟩:=qcJ h.v.1 h.kl h.hi
 refine qal ?_
 simp only[run_Z160,Z160.ev]
 refine qaa (qcM x.1 k h.kl hc) (qac hidx ?_)
 have tail:Ev fun φ=>Z160.j0 (mkR (run E (φ 0))) (φ 0) x (k:Int) (i:Int) (((if i<j then j-1 else j:Nat)):Int) ((fc x.1 k i:Nat):Int) 0 0 0=some ⟨o_Z160,two x.1 x.2.2.2.1 k i (if i<j then j-1 else j)⟩:=by
  simp only[Z160.j0_eq _ qae]
  refine qaa (qc1 x k i h.kl h.hi h.v) (qaa (qc1 x _ _ h.fk h.hj h.v) (qaa (qf5 _ _ h.b1 h.b2 h.sh) qam))
 refine qdH (fun hgt=>?_) fun hgt=>?_
 ·rw[qah (by omega) (by omega),show(j:Int)-1=((j-1:Nat):Int) by omega]
  rw[if_pos (by omega)] at tail ⊢;exact tail
 ·rw[if_neg (by omega)] at tail ⊢;exact tail
end VeT
open Go Go.Proofs Ve
namespace VeT
def Bq(c:List Sim)(ms:List Mat)(k i j:Nat):Prop:=two c ms k i (j-1)≠two c ms k j i
def Pi(c:List Sim)(ms:List Mat)(k i:Nat):Prop:=∃ j,i+1≤j∧j<i+1+((c.getD k []).length-(i+1))∧Bq c ms k i j
def Pk(c:List Sim)(ms:List Mat)(k:Nat):Prop:=3≤(c.getD k []).length∧∃ i,0≤i∧i<0+(c.getD k []).length∧Pi c ms k i
noncomputable def rI(c:List Sim)(ms:List Mat)(out:Nat→Nat→Nat→Option Dv)(k i:Nat)(rn:Option Dv):Option Dv:=orN (out k i) rn (qaP (Bq c ms k i) (i+1) ((c.getD k []).length-(i+1)))
noncomputable def rK(c:List Sim)(ms:List Mat)(out:Nat→Nat→Nat→Option Dv)(k:Nat)(rn:Option Dv):Option Dv:=orN (fun i=>rI c ms out k i none) rn (qaP (Pi c ms k) 0 (c.getD k []).length)
noncomputable def qiu(c:List Sim)(ms:List Mat)(out:Nat→Nat→Nat→Option Dv)(rn:Option Dv):Option Dv:=orN (fun k=>rK c ms out k none) rn (qaP (Pk c ms) 0 c.length)
theorem qqJ{c ms out k i}{rn rn':Option Dv}(h:Pi c ms k i):rI c ms out k i rn=rI c ms out k i rn':=by
 obtain⟨j,hj⟩:=qfb h
 unfold rI;rw[hj];rfl
theorem qqj{c ms out k i}{rn:Option Dv}(h:¬ Pi c ms k i):rI c ms out k i rn=rn:=by
 unfold rI
 cases hf:qaP (Bq c ms k i) (i+1) ((c.getD k []).length-(i+1)) with
 | none=>rfl
 | some j=>exact absurd ⟨j,qaN hf⟩ h
theorem qqK{c ms out k}{rn rn':Option Dv}(h:Pk c ms k):rK c ms out k rn=rK c ms out k rn':=by
 obtain⟨j,hj⟩:=qfb h.2
 unfold rK;rw[hj];rfl
theorem qqb{c ms out k}{rn:Option Dv}(h:¬ Pk c ms k)(h3:3≤(c.getD k []).length):rK c ms out k rn=rn:=by
 unfold rK
 cases hf:qaP (Pi c ms k) 0 (c.getD k []).length with
 | none=>rfl
 | some j=>exact absurd ⟨h3,j,qaN hf⟩ h
noncomputable def qdL(c:List Sim)(ms:List Mat):Option (Nat×Nat×Nat) :=
 (qaP (Pk c ms) 0 c.length).bind fun k=>(qaP (Pi c ms k) 0 (c.getD k []).length).bind fun i=>(qaP (Bq c ms k i) (i+1) ((c.getD k []).length-(i+1))).map fun j=>(k,i,j)
theorem qgR{c ms k i j}(h:qdL c ms=some (k,i,j)):k<c.length∧3≤(c.getD k []).length∧i<j∧j<(c.getD k []).length∧∀ out rn,qiu c ms out rn=out k i j:=by
 unfold qdL at h
 obtain⟨k',hk,h⟩:=Option.bind_eq_some_iff.1 h
 obtain⟨i',hi,h⟩:=Option.bind_eq_some_iff.1 h
 obtain⟨j',hj,h⟩:=Option.map_eq_some_iff.1 h
 simp only[Prod.mk.injEq] at h
 obtain⟨rfl,rfl,rfl⟩:=h
 have a:=qaN hk
 have b:=qaN hi
 have d:=qaN hj
 refine⟨by omega,a.2.2.1,by omega,by omega,fun out rn=>?_⟩
 unfold qiu rK rI
 rw[hk];simp only[orN];rw[hi];simp only[orN];rw[hj]
theorem qhr{c ms}(h:qdL c ms=none):∀ out rn,qiu c ms out rn=rn:=by
 intro out rn
 unfold qiu
 cases hk:qaP (Pk c ms) 0 c.length with
 | none=>rfl
 | some k =>
  have a:=qaN hk
  obtain⟨i,hi⟩:=qfb a.2.2.2
  obtain⟨j,hj⟩:=qfb (qaN hi).2.2
  unfold qdL at h
  rw[hk] at h
  simp only[Option.bind_some] at h
  rw[hi] at h
  simp only[Option.bind_some] at h
  rw[hj] at h
  cases h
theorem qfH(c:List Sim)(k:Nat)(hk:k<c.length)(hc:Sm (.sl (.sl (.int .i64))) c)(hv:VC c):Ret E n_Z33 [dLL c,dI (k:Int)] ⟨o_Z33,(qaU c k,())⟩:=qbN c k hk hc hv.srt
noncomputable def qoi(c:List Sim)(k i j:Nat):Option Dv:=some ⟨o_Z73,((k:Int),(qaU c (fc c k i)).getD (j-1) 0,true,())⟩
theorem qgu(c:List Sim)(p:Int)(st:Sim)(ms:List Mat)(hc:Sm (.sl (.sl (.int .i64))) c)(h:VS c p st ms):Ev fun φ=>run E (φ 0+1) n_Z73 [dLL c,dI p,dL st,dMs ms]=qiu c ms (qoi c) (some ⟨o_Z73,(0,0,false,())⟩):=by
  have hv:=h.1
  have h48:=hv.1
  simp only[run_Z73,Z73.ev]
  refine Ev.start (p:=fun φ n=>Z73.l0 (mkR (run E (φ 0))) (φ 0) n c (c.length:Int) 0 c p st ms=_) 1 ?_ (fun _ _ _ h=>h)
  have inner3:∀ k i (hk:k<c.length) (hn:3≤(c.getD k []).length) (hi:i<(c.getD k []).length) (rn:Option Dv),
      (¬ Pi c ms k i→Ev fun φ=>Z73.l1 (mkR (run E (φ 0))) (φ 0) (φ 1) (φ 2) (c.getD k []) (k:Int) (qaU c k) c (c.length:Int) (k:Int) ((c.getD k []).length:Int) ((i+1:Nat):Int) c p st ms=rn) →
      Ev fun φ=>Z73.l2 (mkR (run E (φ 0))) (φ 0) (φ 1) (φ 2) (φ 0) (c.getD k []) (k:Int) (qaU c k) (i:Int) ((i+1:Nat):Int) c (c.length:Int) (k:Int) ((c.getD k []).length:Int) (i:Int) c p st ms=rI c ms (qoi c) k i rn:=by
    intro k i hk hn hi rn hrn
    have h4:=hv.len4 hk
    refine Ev.start (p:=fun φ n=>Z73.l2 (mkR (run E (φ 0))) (φ 0) (φ 1) (φ 2) n (c.getD k []) (k:Int) (qaU c k) (i:Int) ((i+1:Nat):Int) c (c.length:Int) (k:Int) ((c.getD k []).length:Int) (i:Int) c p st ms=_) 3 ?_ (fun _ _ _ h=>h)
    -- one round
    have round:∀ j (hij:i+1≤j) (hj:j<(c.getD k []).length) (r:Option Dv),
        (Ev fun φ=>(bif (!pb (two c ms k i (j-1)=two c ms k j i)) then qoi c k i j else Z73.l2 (mkR (run E (φ 0))) (φ 0) (φ 1) (φ 2) (φ 3) (c.getD k []) (k:Int) (qaU c k) (i:Int) (w64 ((j:Int)+1)) c (c.length:Int) (k:Int) ((c.getD k []).length:Int) (i:Int) c p st ms)=r) →
        Ev fun φ=>Z73.l2 (mkR (run E (φ 0))) (φ 0) (φ 1) (φ 2) (φ 3+1) (c.getD k []) (k:Int) (qaU c k) (i:Int) (j:Int) c (c.length:Int) (k:Int) ((c.getD k []).length:Int) (i:Int) c p st ms=r:=by
      intro j hij hj r hr
      have s1:Sq c p st ms k i (j-1):=⟨hk,hn,hi,by omega,h⟩
      have s2:Sq c p st ms k j i:=⟨hk,hn,hj,by omega,h⟩
      obtain⟨ix1,F1,_⟩:=qcJ hv hk s1.hi
      obtain⟨ix2,F2,_⟩:=qcJ hv hk s2.hi
      have g1:=qcj c p st ms k i hk s1.hi h
      have g2:=qcj c p st ms (fc c k i) (j-1) F1 s1.hj h
      have g3:=qcj c p st ms k j hk s2.hi h
      have g4:=qcj c p st ms (fc c k j) i F2 s2.hj h
      have ej:w64 ((j:Int)-1)=((j-1:Nat):Int):=by rw[qah (by omega) (by omega)];omega
      have j4:Ev fun φ=>Z73.j4 (mkR (run E (φ 0))) (φ 0) (φ 1) (φ 2) (φ 3) (c.getD k []) (k:Int) (qaU c k) (i:Int) (j:Int) c (c.length:Int) (k:Int) ((c.getD k []).length:Int) (i:Int) c p st ms
          (two c ms k i (j-1)).1 (two c ms k i (j-1)).2.1 (two c ms k i (j-1)).2.2.1 (two c ms k i (j-1)).2.2.2.1 (two c ms k j i).1 (two c ms k j i).2.1 (two c ms k j i).2.2.1 (two c ms k j i).2.2.2.1=r:=by
        simp only[Z73.j4_eq _ qae,ej]
        refine qaa (qhW (two c ms k i (j-1)) (two c ms k j i) (ql9 s1.b1 s1.b2)) ?_
        by_cases he:two c ms k i (j-1)=two c ms k j i
        · rw[qaK he] at hr ⊢
          exact qaA rfl (by simpa using hr)
        · rw[qas he] at hr ⊢
          refine qax rfl (qac ix1 (qaa (qfH c (fc c k i) F1 hc hv) (qac (qak s1.hj) ?_)))
          have:qoi c k i j=r:=by
            obtain⟨n0,hr⟩:=hr
            exact hr (fun _=>n0) (fun _=>Nat.le_refl _)
          rw[← this,qoi,qaf s1.hj];exact qam
      have j3:Ev fun φ=>Z73.j3 (mkR (run E (φ 0))) (φ 0) (φ 1) (φ 2) (φ 3) (c.getD k []) (k:Int) (qaU c k) (i:Int) (j:Int) c (c.length:Int) (k:Int) ((c.getD k []).length:Int) (i:Int) c p st ms
          (two c ms k i (j-1)).1 (two c ms k i (j-1)).2.1 (two c ms k i (j-1)).2.2.1 (two c ms k i (j-1)).2.2.2.1=r:=by
        simp only[Z73.j3_eq _ qae]
        refine qac ix2 (qbO (qaa g3 (qbO (qaa g4 (qbO (qaa s2.impl j4) (qaa s2.impl j4))) (qaa g4 (qaa s2.impl j4)))) (qaa g3 (qaa g4 (qaa s2.impl j4))))
      simp only[Z73.l2_succ _ qae,ej]
      refine qax (decide_eq_true (by omega)) (qac ix1 (qbO (qaa g1 (qbO (qaa g2 (qbO (qaa s1.impl j3) (qaa s1.impl j3))) (qaa g2 (qaa s1.impl j3)))) (qaa g1 (qaa g2 (qaa s1.impl j3)))))
    refine qcq 3 (L:=fun φ n j=>Z73.l2 (mkR (run E (φ 0))) (φ 0) (φ 1) (φ 2) n (c.getD k []) (k:Int) (qaU c k) (i:Int) j c (c.length:Int) (k:Int) ((c.getD k []).length:Int) (i:Int) c p st ms) (len:=(c.getD k []).length) (Bq c ms k i) (qoi c k i) rn (fun _ _ _ _=>rfl) (i+1) (fun j h1 h2 hB=>?_) (fun j q h1 h2 hB ih=>?_) (fun hno=>?_) _ (by omega)
    · refine round j h1 h2 _ (qax ?_ qam)
      rw[qas hB];rfl
    · refine round j h1 h2 _ (qaA ?_ ?_)
      · rw[qaK (Classical.not_not.1 hB)];rfl
      · rw[qad (by omega)];exact ih
    · simp only[Z73.l2_succ _ qae]
      refine qaA (decide_eq_false (by omega)) ?_
      rw[qad (by omega)];exact hrn fun⟨j,h1,h2,h3⟩=>hno j h1 (by omega) h3
  have inner2:∀ k (hk:k<c.length) (hn:3≤(c.getD k []).length) (rn:Option Dv),
      (¬ Pk c ms k→Ev fun φ=>Z73.l0 (mkR (run E (φ 0))) (φ 0) (φ 1) c (c.length:Int) ((k+1:Nat):Int) c p st ms=rn) →
      Ev fun φ=>Z73.l1 (mkR (run E (φ 0))) (φ 0) (φ 1) (φ 0) (c.getD k []) (k:Int) (qaU c k) c (c.length:Int) (k:Int) ((c.getD k []).length:Int) 0 c p st ms=rK c ms (qoi c) k rn:=by
    intro k hk hn rn hrn
    have h4:=hv.len4 hk
    refine Ev.start (p:=fun φ n=>Z73.l1 (mkR (run E (φ 0))) (φ 0) (φ 1) n (c.getD k []) (k:Int) (qaU c k) c (c.length:Int) (k:Int) ((c.getD k []).length:Int) 0 c p st ms=_) 2 ?_ (fun _ _ _ h=>h)
    refine qcq 2 (L:=fun φ n i=>Z73.l1 (mkR (run E (φ 0))) (φ 0) (φ 1) n (c.getD k []) (k:Int) (qaU c k) c (c.length:Int) (k:Int) ((c.getD k []).length:Int) i c p st ms) (len:=(c.getD k []).length) (Pi c ms k) (fun i=>rI c ms (qoi c) k i none) rn (fun _ _ _ _=>rfl) 0 (fun i h1 h2 hP=>?_) (fun i q h1 h2 hP ih=>?_) (fun hno=>?_) _ (by omega)
    · simp only[Z73.l1_succ _ qae]
      refine qax (decide_eq_true (by omega)) ?_
      rw[qad (by omega)]
      exact inner3 k i hk hn h2 none fun hn=>absurd hP hn
    · simp only[Z73.l1_succ _ qae]
      refine qax (decide_eq_true (by omega)) ?_
      rw[qad (by omega)]
      exact(inner3 k i hk hn h2 q fun _=>ih).to (qqj hP)
    · simp only[Z73.l1_succ _ qae]
      refine qaA (decide_eq_false (by omega)) ?_
      rw[qad (by omega)];exact hrn fun⟨_,i,h1,h2,h3⟩=>hno i h1 (by omega) h3
  refine qcq 1 (L:=fun φ n k=>Z73.l0 (mkR (run E (φ 0))) (φ 0) n c (c.length:Int) k c p st ms) (len:=c.length) (Pk c ms) (fun k=>rK c ms (qoi c) k none) _ (fun _ _ _ _=>rfl) 0 (fun k h1 h2 hP=>?_) (fun k q h1 h2 hP ih=>?_) (fun hno=>?_) _ (by omega)
  · simp only[Z73.l0_succ _ qae]
    refine qax (decide_eq_true (by omega)) (qac (qak h2) ?_)
    have hn:=hP.1
    rw[← qaf (d:=[]) h2]
    exact qaA (decide_eq_false (by omega)) (qaa (qfH c k h2 hc hv) (inner2 k h2 hn none fun hn=>absurd hP hn))
  · simp only[Z73.l0_succ _ qae]
    refine qax (decide_eq_true (by omega)) (qac (qak h2) ?_)
    rw[← qaf (d:=[]) h2]
    refine qdH (fun hlt=>?_) fun hlt=>?_
    · rw[qad (by omega)];exact ih
    · exact qaa (qfH c k h2 hc hv) ((inner2 k h2 (by omega) q fun _=>ih).to (qqb hP (by omega)))
  · simp only[Z73.l0_succ _ qae]
    exact qaA (decide_eq_false (by omega)) qam
noncomputable def qpt(k i j:Nat):Option Dv:=some ⟨o_Z161,((k:Int),(i:Int),(j:Int),())⟩
theorem qjx(x:Shf)(hc:Sm (.sl (.sl (.int .i64))) x.1)(h:VS x.1 x.2.1 x.2.2.1 x.2.2.2.1):Ev fun φ=>run E (φ 0+1) n_Z161 [dS x]=qiu x.1 x.2.2.2.1 qpt (some ⟨o_Z161,(-1,0,0,())⟩):=by
  have hv:=h.1
  have h48:=hv.1
  simp only[run_Z161,Z161.ev]
  refine Ev.start (p:=fun φ n=>Z161.l0 (mkR (run E (φ 0))) (φ 0) n x 0=_) 1 ?_ (fun _ _ _ h=>h)
  have inner3:∀ k i (hk:k<x.1.length) (hn:3≤(x.1.getD k []).length) (hi:i<(x.1.getD k []).length) (rn:Option Dv),
      (¬ Pi x.1 x.2.2.2.1 k i→Ev fun φ=>Z161.l1 (mkR (run E (φ 0))) (φ 0) (φ 1) (φ 2) x (k:Int) ((x.1.getD k []).length:Int) ((i+1:Nat):Int)=rn) →
      Ev fun φ=>Z161.l3 (mkR (run E (φ 0))) (φ 0) (φ 1) (φ 2) (φ 0) x (k:Int) ((x.1.getD k []).length:Int) (i:Int) ((i+1:Nat):Int)=rI x.1 x.2.2.2.1 qpt k i rn:=by
    intro k i hk hn hi rn hrn
    have h4:=hv.len4 hk
    refine Ev.start (p:=fun φ n=>Z161.l3 (mkR (run E (φ 0))) (φ 0) (φ 1) (φ 2) n x (k:Int) ((x.1.getD k []).length:Int) (i:Int) ((i+1:Nat):Int)=_) 3 ?_ (fun _ _ _ h=>h)
    have round:∀ j (hij:i+1≤j) (hj:j<(x.1.getD k []).length) (r:Option Dv),
        (Ev fun φ=>(bif (!pb (two x.1 x.2.2.2.1 k i (j-1)=two x.1 x.2.2.2.1 k j i)) then qpt k i j else Z161.l3 (mkR (run E (φ 0))) (φ 0) (φ 1) (φ 2) (φ 3) x (k:Int) ((x.1.getD k []).length:Int) (i:Int) (w64 ((j:Int)+1)))=r) →
        Ev fun φ=>Z161.l3 (mkR (run E (φ 0))) (φ 0) (φ 1) (φ 2) (φ 3+1) x (k:Int) ((x.1.getD k []).length:Int) (i:Int) (j:Int)=r:=by
      intro j hij hj r hr
      have s1:Sq x.1 x.2.1 x.2.2.1 x.2.2.2.1 k i (j-1):=⟨hk,hn,hi,by omega,h⟩
      have s2:Sq x.1 x.2.1 x.2.2.1 x.2.2.2.1 k j i:=⟨hk,hn,hj,by omega,h⟩
      have t1:=qiI x k i j (by omega) (by rw[if_pos (by omega)];exact s1) hc (by omega)
      have t2:=qiI x k j i (by omega) (by rw[if_neg (by omega)];exact s2) hc (by omega)
      rw[if_pos (by omega)] at t1
      rw[if_neg (by omega)] at t2
      simp only[Z161.l3_succ _ qae]
      exact qax (decide_eq_true (by omega)) (qaa t1 (qaa t2 (qaa (qkZ (two x.1 x.2.2.2.1 k i (j-1)) (two x.1 x.2.2.2.1 k j i) (ql9 s1.b1 s1.b2)) hr)))
    refine qcq 3 (L:=fun φ n j=>Z161.l3 (mkR (run E (φ 0))) (φ 0) (φ 1) (φ 2) n x (k:Int) ((x.1.getD k []).length:Int) (i:Int) j) (len:=(x.1.getD k []).length) (Bq x.1 x.2.2.2.1 k i) (qpt k i) rn (fun _ _ _ _=>rfl) (i+1) (fun j h1 h2 hB=>?_) (fun j q h1 h2 hB ih=>?_) (fun hno=>?_) _ (by omega)
    · refine round j h1 h2 _ (qax ?_ qam)
      rw[qas hB];rfl
    · refine round j h1 h2 _ (qaA ?_ ?_)
      · rw[qaK (Classical.not_not.1 hB)];rfl
      · rw[qad (by omega)];exact ih
    · simp only[Z161.l3_succ _ qae]
      refine qaA (decide_eq_false (by omega)) ?_
      rw[qad (by omega)];exact hrn fun⟨j,h1,h2,h3⟩=>hno j h1 (by omega) h3
  have inner2:∀ k (hk:k<x.1.length) (hn:3≤(x.1.getD k []).length) (rn:Option Dv),
      (¬ Pk x.1 x.2.2.2.1 k→Ev fun φ=>Z161.l0 (mkR (run E (φ 0))) (φ 0) (φ 1) x ((k+1:Nat):Int)=rn) →
      Ev fun φ=>Z161.l1 (mkR (run E (φ 0))) (φ 0) (φ 1) (φ 0) x (k:Int) ((x.1.getD k []).length:Int) 0=rK x.1 x.2.2.2.1 qpt k rn:=by
    intro k hk hn rn hrn
    have h4:=hv.len4 hk
    refine Ev.start (p:=fun φ n=>Z161.l1 (mkR (run E (φ 0))) (φ 0) (φ 1) n x (k:Int) ((x.1.getD k []).length:Int) 0=_) 2 ?_ (fun _ _ _ h=>h)
    have h2':decide (((x.1.getD k []).length:Int)>2)=true:=decide_eq_true (by omega)
    refine qcq 2 (L:=fun φ n i=>Z161.l1 (mkR (run E (φ 0))) (φ 0) (φ 1) n x (k:Int) ((x.1.getD k []).length:Int) i) (len:=(x.1.getD k []).length) (Pi x.1 x.2.2.2.1 k) (fun i=>rI x.1 x.2.2.2.1 qpt k i none) rn (fun _ _ _ _=>rfl) 0 (fun i h1 h2 hP=>?_) (fun i q h1 h2 hP ih=>?_) (fun hno=>?_) _ (by omega)
    · simp only[Z161.l1_succ _ qae,h2',Z161.j2_eq _ qae,cond_true]
      refine qax (decide_eq_true (by omega)) ?_
      rw[qad (by omega)]
      exact inner3 k i hk hn h2 none fun hn=>absurd hP hn
    · simp only[Z161.l1_succ _ qae,h2',Z161.j2_eq _ qae,cond_true]
      refine qax (decide_eq_true (by omega)) ?_
      rw[qad (by omega)]
      exact(inner3 k i hk hn h2 q fun _=>ih).to (qqj hP)
    · simp only[Z161.l1_succ _ qae,Z161.j2_eq _ qae,cond_false]
      refine qaA (decide_eq_false (by omega)) ?_
      rw[qad (by omega)];exact hrn fun⟨_,i,h1,h2,h3⟩=>hno i h1 (by omega) h3
  refine qcq 1 (L:=fun φ n k=>Z161.l0 (mkR (run E (φ 0))) (φ 0) n x k) (len:=x.1.length) (Pk x.1 x.2.2.2.1) (fun k=>rK x.1 x.2.2.2.1 qpt k none) _ (fun _ _ _ _=>rfl) 0 (fun k h1 h2 hP=>?_) (fun k q h1 h2 hP ih=>?_) (fun hno=>?_) _ (by omega)
  · simp only[Z161.l0_succ _ qae]
    refine qax (decide_eq_true (by omega)) (qac (qak h2) ?_)
    have hn:=hP.1
    rw[← qaf (d:=[]) h2]
    exact inner2 k h2 hn none fun hn=>absurd hP hn
  · simp only[Z161.l0_succ _ qae]
    refine qax (decide_eq_true (by omega)) (qac (qak h2) ?_)
    rw[← qaf (d:=[]) h2]
    by_cases hn:3≤(x.1.getD k []).length
    · exact(inner2 k h2 hn q fun _=>ih).to (qqb hP hn)
    · have h2':decide (((x.1.getD k []).length:Int)>2)=false:=decide_eq_false (by omega)
      refine Ev.start (p:=fun φ n=>Z161.l1 (mkR (run E (φ 0))) (φ 0) (φ 1) n x (k:Int) ((x.1.getD k []).length:Int) 0=_) 2 ?_ (fun _ _ _ h=>h)
      refine Ev.round 2 (L:=fun φ n=>Z161.l1 (mkR (run E (φ 0))) (φ 0) (φ 1) n x (k:Int) ((x.1.getD k []).length:Int) 0) ?_ (fun _ _ _=>rfl)
      simp only[Z161.l1_succ _ qae,h2',Z161.j2_eq _ qae,cond_false]
      rw[qad (by omega)]
      exact qdH (fun _=>ih) fun _=>ih
  · simp only[Z161.l0_succ _ qae]
    exact qaA (decide_eq_false (by omega)) qam
end VeT
open Go Go.Proofs Ve
namespace VeT
noncomputable def wI(c:List Sim)(ms:List Mat):Int×Int×Bool×Unit:=match qdL c ms with
 | some (k,i,j)=>((k:Int),(qaU c (fc c k i)).getD (j-1) 0,true,())
 | none=>(0,0,false,())
noncomputable def wS(c:List Sim)(ms:List Mat):Int×Int×Int×Unit:=match qdL c ms with
 | some (k,i,j)=>((k:Int),(i:Int),(j:Int),())
 | none=>(-1,0,0,())
theorem qgV(c:List Sim)(p:Int)(st:Sim)(ms:List Mat)(hc:Sm (.sl (.sl (.int .i64))) c)(h:VS c p st ms):Ret E n_Z73 [dLL c,dI p,dL st,dMs ms] ⟨o_Z73,wI c ms⟩:=by
 refine qal ((qgu c p st ms hc h).to ?_)
 cases hw:qdL c ms with
 | none=>rw[qhr hw,wI,hw]
 | some t =>
  obtain⟨k,i,j⟩:=t
  rw[(qgR hw).2.2.2.2,wI,hw];rfl
theorem qkN(x:Shf)(hc:Sm (.sl (.sl (.int .i64))) x.1)(h:VS x.1 x.2.1 x.2.2.1 x.2.2.2.1):Ret E n_Z161 [dS x] ⟨o_Z161,wS x.1 x.2.2.2.1⟩:=by
 refine qal ((qjx x hc h).to ?_)
 cases hw:qdL x.1 x.2.2.2.1 with
 | none=>rw[qhr hw,wS,hw]
 | some t =>
  obtain⟨k,i,j⟩:=t
  rw[(qgR hw).2.2.2.2,wS,hw];rfl
def ISh(x:Shf):Prop:=VS x.1 x.2.1 x.2.2.1 x.2.2.2.1∧qdL x.1 x.2.2.2.1=none
theorem qgU(x:Shf)(hx:Sm (.st cS) x):Ret E n_Z6 [dLL x.1,dI x.2.1,dL x.2.2.1,dMs x.2.2.2.1] ⟨o_Z6,(pb (ISh x),())⟩:=by
 refine qal ?_
 simp only[run_Z6,Z6.ev]
 refine qaa (qjB x hx) (qb5 (fun h=>qan ?_) fun h=>?_)
 ·have h:=qa1.1 (show pb (VS x.1 x.2.1 x.2.2.1 x.2.2.2.1)=false by simpa using h)
  rw[qas fun hi=>h hi.1]
 ·have h:=qaE.1 (show pb (VS x.1 x.2.1 x.2.2.1 x.2.2.2.1)=true by simpa using h)
  refine qaa (qgV _ _ _ _ hx.1 h) (qan ?_)
  have:(!(wI x.1 x.2.2.2.1).2.2.1)=pb (ISh x):=qgq (by
   unfold ISh wI
   cases hw:qdL x.1 x.2.2.2.1 with
   | none=>simp[h]
   | some t=>simp)
  rw[this]
theorem qnh(x:Shf)(hx:Sm (.st cS) x):Ret E n_Z153 [dS x] ⟨o_Z153,(pb (ISh x),())⟩:=by
 refine qal ?_
 simp only[run_Z153,Z153.ev]
 refine qaa (qn4 x hx) (qb5 (fun h=>qan ?_) fun h=>?_)
 ·have h:=qa1.1 (show pb (VS x.1 x.2.1 x.2.2.1 x.2.2.2.1)=false by simpa using h)
  rw[qas fun hi=>h hi.1]
 ·have h:=qaE.1 (show pb (VS x.1 x.2.1 x.2.2.1 x.2.2.2.1)=true by simpa using h)
  refine qaa (qkN x hx.1 h) (qan ?_)
  have:decide ((wS x.1 x.2.2.2.1).1<0)=pb (ISh x):=qgq (by
   rw[decide_eq_true_iff]
   unfold ISh wS
   cases hw:qdL x.1 x.2.2.2.1 with
   | none=>simp[h]
   | some t=>simp only[reduceCtorEq,and_false,iff_false];omega)
  rw[this]
def SDn(c:List Sim)(st:Sim)(d:Int)(n:Nat):Int:=((qau c d n).map fun i=>st.getD i.toNat 0).sum
theorem qpL{c:List Sim}{st:Sim}{d:Int}:SD c st d=SDn c st d c.length:=by
 unfold SD qfv SDn
 rw[List.take_of_length_le (Nat.le_refl _)]
theorem qfr{c:List Sim}{st:Sim}{d:Int}{n:Nat}:SDn c st d (n+1)=SDn c st d n+if ((c.getD n []).length:Int)=d+1 then st.getD n 0 else 0:=by
 unfold SDn
 rw[qbG,List.map_append,List.sum_append]
 split<;>simp
theorem qoa{c:List Sim}{p:Int}{st:Sim}{ms:List Mat}(h:VS c p st ms)(d:Nat)(hd:d<4):0≤SD c st (d:Int)∧SD c st (d:Int)≤32:=⟨qmL h.2.2.1.2.1 _,h.2.2.1.2.2 d hd⟩
end VeT
open Go Go.Proofs Ve
namespace VeT
theorem qgl{st:Sim}(hst:∀ x∈st,0≤x∧x≤3)(k:Nat):0≤st.getD k 0∧st.getD k 0≤3:=by
 by_cases hl:k<st.length
 ·rw[qaf hl];exact hst _ (List.getElem_mem hl)
 ·rw[List.getD_eq_getElem?_getD,List.getElem?_eq_none (by omega)];simp
theorem qiw{c:List Sim}{st:Sim}{d:Int}(hst:∀ x∈st,0≤x∧x≤3):∀ {n:Nat},0≤SDn c st d n∧SDn c st d n≤3*n
 | 0=>by simp[SDn,qau]
 | n+1=>by
  have h1:=qiw (c:=c) (d:=d) hst (n:=n)
  have h2:=qgl hst n
  rw[qfr];split<;>omega
theorem qoR{c:List Sim}{st:Sim}{d:Int}(hst:∀ x∈st,0≤x∧x≤3){n m:Nat}(h:n≤m):SDn c st d n≤SDn c st d m:=by
 induction h with
 | refl=>exact Int.le_refl _
 | @step m h ih=>rw[qfr];have:=qgl hst m;split<;>omega
theorem qnL{c:List Sim}{st:Sim}{d:Int}(hst:∀ x∈st,0≤x∧x≤3){s n:Nat}(hs:s<n)(hd:((c.getD s []).length:Int)=d+1):SDn c st d s+st.getD s 0≤SDn c st d n:=by
 have:=qoR (c:=c) (d:=d) hst (show s+1≤n from hs)
 rw[qfr,if_pos hd] at this;exact this
theorem qkT{c:List Sim}{d:Int}{s n:Nat}(hs:s<n)(hd:((c.getD s []).length:Int)=d+1):∃ tl,qau c d n=qau c d s++(s:Int)::tl:=by
 induction n with
 | zero=>omega
 | succ n ih =>
  rw[qbG]
  by_cases h:s=n
  ·subst h;exact⟨[],by rw[if_pos hd]⟩
  ·obtain⟨tl,e⟩:=ih (by omega)
   exact⟨tl++_,by rw[e,List.append_assoc];rfl⟩
theorem qdI{c:List Sim}{d:Int}{k:Nat}{x:Int}:x∈qau c d k↔∃ i:Nat,x=i∧i<k∧((c.getD i []).length:Int)=d+1:=by
 unfold qau
 rw[List.mem_map]
 constructor
 ·rintro⟨i,hi,rfl⟩
  have:=List.mem_filter.1 hi
  exact⟨i,rfl,by simpa using this.1,by simpa using this.2⟩
 ·rintro⟨i,rfl,h1,h2⟩
  exact⟨i,List.mem_filter.2 ⟨by simpa using h1,by simpa using h2⟩,rfl⟩
def FC(c:List Sim)(st:Sim)(s:Nat):Int:=SDn c st (((c.getD s []).length:Int)-1) s
theorem qgB{c:List Sim}{st:Sim}(hst:∀ x∈st,0≤x∧x≤3){s:Nat}(hs:s<c.length):0≤FC c st s∧FC c st s+st.getD s 0≤SD c st (((c.getD s []).length:Int)-1):=by
 refine⟨(qiw hst).1,?_⟩
 rw[qpL]
 exact qnL hst hs (by omega)
abbrev St:=List (Nat×Int)
def qdu(S:St)(cs:Sim):Sim:=S.foldl (fun cs q=>cs.set q.1 q.2) cs
theorem qbY{S T:St}{cs:Sim}:qdu (S++T) cs=qdu T (qdu S cs):=by simp[qdu]
theorem qqu{q:Nat}{v:Int}{cs:Sim}:qdu [(q,v)] cs=cs.set q v:=rfl
theorem qbo{S:St}:∀ {cs:Sim},(qdu S cs).length=cs.length:=by
 induction S with
 | nil=>intro cs;rfl
 | cons q S ih=>intro cs;show(qdu S (cs.set q.1 q.2)).length=_;rw[ih,List.length_set]
theorem qfM{p:Int}{S:St}:∀ {cs:Sim},qbz cs p→(∀ q∈S,0≤q.2∧q.2≤p-1)→qbz (qdu S cs) p:=by
 induction S with
 | nil=>intro cs h _;exact h
 | cons q S ih =>
  intro cs h hS
  refine ih (cs:=cs.set q.1 q.2) (fun x hx=>?_) fun y hy=>hS y (List.mem_cons_of_mem _ hy)
  rcases List.mem_or_eq_of_mem_set hx with hx | rfl
  ·exact h x hx
  ·exact hS q List.mem_cons_self
theorem qhF{S:St}{q:Nat}:∀ {cs:Sim},(∀ x∈S,x.1≠q)→(qdu S cs).getD q 0=cs.getD q 0:=by
 induction S with
 | nil=>intro cs _;rfl
 | cons y S ih =>
  intro cs h
  have e:=ih (cs:=cs.set y.1 y.2) fun x hx=>h x (List.mem_cons_of_mem _ hx)
  show(qdu S (cs.set y.1 y.2)).getD q 0=_
  rw[e,List.getD_eq_getElem?_getD,List.getD_eq_getElem?_getD,List.getElem?_set_ne (h y List.mem_cons_self)]
theorem qme{S:St}{q:Nat}{v:Int}:∀ {cs:Sim},q<cs.length→(∀ x∈S,x.1=q→x.2=v)→(∃ x∈S,x.1=q)→(qdu S cs).getD q 0=v:=by
 induction S with
 | nil=>intro cs _ _ ⟨x,hx,_⟩;simp at hx
 | cons y S ih =>
  intro cs hq hall ⟨x,hx,e⟩
  show(qdu S (cs.set y.1 y.2)).getD q 0=_
  by_cases hS:∃ x∈S,x.1=q
  ·exact ih (by rw[List.length_set];exact hq) (fun x hx=>hall x (List.mem_cons_of_mem _ hx)) hS
  ·rw[qhF fun x hx e=>hS ⟨x,hx,e⟩]
   rcases List.mem_cons.1 hx with rfl | hx
   ·subst e
    rw[List.getD_eq_getElem?_getD,List.getElem?_set_self hq]
    exact hall x List.mem_cons_self rfl
   ·exact absurd ⟨x,hx,e⟩ hS
def sgn(p:Int)(a:Nat):Int:=if a%2=0 then 1 else p-1
theorem qqe{p:Int}(hp:2≤p∧p≤251)(a:Nat):0≤sgn p a∧sgn p a≤p-1:=by
 unfold sgn;split<;>omega
def stJ(p:Int)(m:Mat)(W top left:Nat)(sg:Int)(i n:Nat):St:=(List.range n).map fun j=>((top+i)*W+left+j,m.2.2.2.1.getD (i*m.2.2.1.toNat+j) 0*sg%p)
def stI(p:Int)(m:Mat)(W top left:Nat)(sg:Int)(n:Nat):St:=(List.range n).flatMap fun i=>stJ p m W top left sg i m.2.2.1.toNat
noncomputable def stF(c:List Sim)(p:Int)(st:Sim)(ms:List Mat)(k:Int)(s n:Nat):St :=
 (List.range n).flatMap fun a=>stI p (mp c ms s a) (SD c st k).toNat (FC c st s).toNat (FC c st (fc c s a)).toNat (sgn p a) (mp c ms s a).2.1.toNat
noncomputable def stS(c:List Sim)(p:Int)(st:Sim)(ms:List Mat)(k:Int)(n:Nat):St :=
 ((qau c (k+1) c.length).take n).flatMap fun s=>stF c p st ms k s.toNat (qaU c s.toNat).length
open Classical in
noncomputable def qjT(c:List Sim)(p:Int)(st:Sim)(ms:List Mat)(k:Int):Sim :=
 if k<0 then List.replicate ((SD c st (k+1)).toNat*(SD c st k).toNat) 0 else qdu (stS c p st ms k (qau c (k+1) c.length).length) (List.replicate ((SD c st (k+1)).toNat*(SD c st k).toNat) 0)
noncomputable def qpa(c:List Sim)(p:Int)(st:Sim)(ms:List Mat)(k:Int):Mat:=(p,SD c st (k+1),SD c st k,qjT c p st ms k,())
theorem qno{p:Int}{m:Mat}{W top left:Nat}{sg:Int}{i n:Nat}{q:Nat×Int}:q∈stJ p m W top left sg i n↔∃ j,j<n∧q=((top+i)*W+left+j,m.2.2.2.1.getD (i*m.2.2.1.toNat+j) 0*sg%p):=by
 unfold stJ
 rw[List.mem_map]
 constructor
 ·rintro⟨j,hj,rfl⟩;exact⟨j,List.mem_range.1 hj,rfl⟩
 ·rintro⟨j,hj,rfl⟩;exact⟨j,List.mem_range.2 hj,rfl⟩
theorem qjH{c:List Sim}{p:Int}{st:Sim}{ms:List Mat}{k:Int}{s n:Nat}{q:Nat×Int}:q∈stF c p st ms k s n↔∃ a i j,a<n∧i<(mp c ms s a).2.1.toNat∧j<(mp c ms s a).2.2.1.toNat ∧
  q=(((FC c st s).toNat+i)*(SD c st k).toNat+(FC c st (fc c s a)).toNat+j,(mp c ms s a).2.2.2.1.getD (i*(mp c ms s a).2.2.1.toNat+j) 0*sgn p a%p):=by
 unfold stF stI
 rw[List.mem_flatMap]
 constructor
 ·rintro⟨a,ha,h⟩
  obtain⟨i,hi,h⟩:=List.mem_flatMap.1 h
  obtain⟨j,hj,e⟩:=qno.1 h
  exact⟨a,i,j,List.mem_range.1 ha,List.mem_range.1 hi,hj,e⟩
 ·rintro⟨a,i,j,ha,hi,hj,e⟩
  exact⟨a,List.mem_range.2 ha,List.mem_flatMap.2 ⟨i,List.mem_range.2 hi,qno.2 ⟨j,hj,e⟩⟩⟩
theorem qjp{c:List Sim}{p:Int}{st:Sim}{ms:List Mat}{k:Int}{n:Nat}{q:Nat×Int}(hn:(qau c (k+1) c.length).length≤n):q∈stS c p st ms k n↔∃ s:Nat,s<c.length∧((c.getD s []).length:Int)=k+2∧q∈stF c p st ms k s (qaU c s).length:=by
 unfold stS
 rw[List.take_of_length_le hn,List.mem_flatMap]
 constructor
 ·rintro⟨x,hx,h⟩
  obtain⟨s,rfl,h1,h2⟩:=qdI.1 hx
  exact⟨s,h1,by omega,h⟩
 ·rintro⟨s,h1,h2,h⟩
  exact⟨(s:Int),qdI.2 ⟨s,rfl,h1,by omega⟩,h⟩
theorem qdZ{c:List Sim}{p:Int}{st:Sim}{ms:List Mat}(h:VS c p st ms){k:Int}{s a:Nat}(hs:s<c.length)(hd:((c.getD s []).length:Int)=k+2)(ha:a<(qaU c s).length) :
  (mp c ms s a).2.1=st.getD s 0∧(mp c ms s a).2.2.1=st.getD (fc c s a) 0∧fc c s a<c.length∧((c.getD (fc c s a) []).length:Int)=k+1 ∧
  (0≤FC c st s∧FC c st s+st.getD s 0≤SD c st (k+1))∧0≤FC c st (fc c s a)∧FC c st (fc c s a)+st.getD (fc c s a) 0≤SD c st k:=by
 obtain⟨_,hb⟩:=h.map hs ha
 obtain⟨_,hf,hg⟩:=qcJ h.1 hs ha
 have hl:=qaV (c:=c) (k:=s)
 have hfl:((c.getD (fc c s a) []).length:Int)=k+1:=by
  rw[hg,List.length_eraseIdx]
  split at hl
  ·rw[if_pos (by omega)];omega
  ·omega
 have b1:=qgB h.2.2.1.2.1 hs
 have b2:=qgB h.2.2.1.2.1 hf
 rw[show((c.getD s []).length:Int)-1=k+1 by omega] at b1
 rw[show((c.getD (fc c s a) []).length:Int)-1=k by omega] at b2
 exact⟨hb.2.2.1,hb.2.2.2,hf,hfl,b1,b2⟩
theorem qnH{c:List Sim}(hv:VC c)(st:Sim){d:Int}(hd:d<0∨4≤d):SD c st d=0:=by
 have:qau c d c.length=[]:=List.eq_nil_iff_forall_not_mem.2 fun x hx=>by
  obtain⟨i,_,hi,hl⟩:=qdI.1 hx
  have:=hv.2.1 i hi
  have h1:=this.1
  have h2:=this.2.1
  omega
 rw[qpL,SDn,this];rfl
theorem qcs{c:List Sim}{p:Int}{st:Sim}{ms:List Mat}(h:VS c p st ms)(d:Int):∃ n:Nat,SD c st d=(n:Int)∧n≤32∧(SD c st d).toNat=n:=by
 by_cases hd:d<0∨4≤d
 ·exact⟨0,qnH h.1 st hd,by omega,by rw[qnH h.1 st hd];rfl⟩
 ·have:=qoa h d.toNat (by omega)
  rw[Int.toNat_of_nonneg (by omega)] at this
  exact⟨(SD c st d).toNat,by omega,by omega,rfl⟩
theorem qlD{c:List Sim}{p:Int}{st:Sim}{ms:List Mat}{k:Int}:(qjT c p st ms k).length=(SD c st (k+1)).toNat*(SD c st k).toNat:=by
 unfold qjT;split
 ·rw[List.length_replicate]
 ·rw[qbo,List.length_replicate]
theorem qgT{n:Nat}{p:Int}(hp:2≤p):qbz (List.replicate n 0) p:=fun x hx=>by
 rw[List.mem_replicate] at hx;omega
theorem qmF{c:List Sim}{p:Int}{st:Sim}{ms:List Mat}(h:VS c p st ms)(k:Int):qbz (qjT c p st ms k) p:=by
 have hp:=h.2.1.1
 unfold qjT;split
 ·exact qgT hp
 ·refine qfM (qgT hp) fun q hq=>?_
  obtain⟨s,_,_,hq⟩:=(qjp (Nat.le_refl _)).1 hq
  obtain⟨a,i,j,_,_,_,rfl⟩:=qjH.1 hq
  have h0:=Int.emod_nonneg ((mp c ms s a).2.2.2.1.getD (i*(mp c ms s a).2.2.1.toNat+j) 0*sgn p a) (show p≠0 by omega)
  have h1:=Int.emod_lt_of_pos ((mp c ms s a).2.2.2.1.getD (i*(mp c ms s a).2.2.1.toNat+j) 0*sgn p a) (show 0<p by omega)
  exact⟨h0,by simp only;omega⟩
end VeT
open Go Go.Proofs Ve
namespace VeT
theorem qne(s:Sim)(v:Int)(hs:s.length≤1048576):Ret E n_Z123 [dL s,dI v] ⟨o_Z123,(qjd (fun x=>pb (x=v)) s,())⟩:=by
  obtain⟨o,h1,h2,h3⟩:=qbK 1 (L:=fun φ n k=>Z123.l0 (mkR (run E (φ 0))) (φ 0) n s v (s.length:Int) k) (len:=s.length) (fun k=>∃ h:k<s.length,pb (s[k]=v)=true) (fun o=>some ⟨o_Z123,(o2i o,())⟩) (fun _ _ _ _=>rfl) (fun k hk hP=>by
      obtain⟨_,hP⟩:=hP
      have hP:=qaE.1 hP
      simp only[Z123.l0_succ _ qae]
      exact qax (decide_eq_true (by omega)) (qac (qak hk) (qax (by simp[hP]) qam))) (fun k q hk hP ih=>by
      simp only[Z123.l0_succ _ qae]
      refine qax (decide_eq_true (by omega)) (qac (qak hk) (qaA (by simp only[beq_eq_false_iff_ne];exact fun e=>hP ⟨hk,qaK e.symm⟩) ?_))
      rw[qad (by omega)];exact ih) (by
      simp only[Z123.l0_succ _ qae]
      exact qaA (decide_eq_false (by omega)) qam)
  rw[qdo (p:=fun x=>pb (x=v)) h1 h2] at h3
  refine qal ?_
  simp only[run_Z123,Z123.ev]
  exact Ev.start (p:=fun φ n=>Z123.l0 (mkR (run E (φ 0))) (φ 0) n s v (s.length:Int) 0=_) 1 h3 (fun _ _ _ h=>h)
theorem qgb(s:Sim)(v:Int)(hs:s.length≤1048576):Ret E n_Z112 [dL s,dI v] ⟨o_Z112,(pb (v∈s),())⟩:=by
 refine qal ?_
 simp only[run_Z112,Z112.ev]
 refine qaa (qne s v hs) (qan ?_)
 have:decide (qjd (fun x=>pb (x=v)) s≥0)=pb (v∈s):=qgq (by
  rw[decide_eq_true_iff,ge_iff_le,qbZ]
  exact⟨fun⟨x,h,e⟩=>qaE.1 e ▸ h,fun h=>⟨v,h,qaK rfl⟩⟩)
 simp only[this]
theorem qid(s:Sim)(v:Int)(hs:s.length≤1048576):Ret E n_Z126 [dL s,dI v] ⟨o_Z126,(pb (v∈s),())⟩:=by
  obtain⟨o,h1,h2,h3⟩:=qbK 1 (L:=fun φ n k=>Z126.l0 (mkR (run E (φ 0))) (φ 0) n s v k) (len:=s.length) (fun k=>∃ h:k<s.length,s[k]=v) (fun o=>some ⟨o_Z126,(o.isSome,())⟩) (fun _ _ _ _=>rfl) (fun k hk hP=>by
      obtain⟨_,hP⟩:=hP
      simp only[Z126.l0_succ _ qae]
      exact qax (decide_eq_true (by omega)) (qac (qak hk) (qax (by simp[hP]) qam))) (fun k q hk hP ih=>by
      simp only[Z126.l0_succ _ qae]
      refine qax (decide_eq_true (by omega)) (qac (qak hk) (qaA (by simp only[beq_eq_false_iff_ne];exact fun e=>hP ⟨hk,e⟩) ?_))
      rw[qad (by omega)];exact ih) (by
      simp only[Z126.l0_succ _ qae]
      exact qaA (decide_eq_false (by omega)) qam)
  have:o.isSome=pb (v∈s):=qgq (by
    cases o with
    | none =>
      simp only[Option.isSome_none,Bool.false_eq_true,false_iff]
      intro hm
      obtain⟨j,hj,e⟩:=List.mem_iff_getElem.1 hm
      exact h2 rfl j hj ⟨hj,e⟩
    | some k =>
      obtain⟨_,⟨hk,e⟩,_⟩:=h1 k rfl
      simp only[Option.isSome_some,true_iff]
      exact e ▸ List.getElem_mem hk)
  rw[this] at h3
  refine qal ?_
  simp only[run_Z126,Z126.ev]
  exact Ev.start (p:=fun φ n=>Z126.l0 (mkR (run E (φ 0))) (φ 0) n s v 0=_) 1 h3 (fun _ _ _ h=>h)
def qnV(a b:Sim):Prop:=∀ x∈a,x∈b
end VeT
open Go Go.Proofs Ve
namespace VeT
theorem qmM(i j:Nat):Ret E n_Z75 [dI (i:Int),dI (j:Int)] ⟨o_Z75,((0:Int),())⟩:=by
 refine qal ?_
 simp only[run_Z75,Z75.ev]
 (first | exact qam | exact Ev.of fun _=>trivial)
theorem qin{C:Nat}:∀ {n:Nat},qat (fun _ _=>0) C n=List.replicate (n*C) 0
 | 0=>by simp[qat]
 | n+1=>by
  rw[qat,qin,Nat.add_mul,Nat.one_mul,← List.replicate_append_replicate]
  congr 1
  rw[List.map_const',List.length_range]
theorem qoy(p:Int)(R C:Nat)(hR:R≤32)(hC:C≤32):Ret E n_Z74 [dI p,dI (R:Int),dI (C:Int)] ⟨o_Z74,(p,(R:Int),(C:Int),List.replicate (R*C) 0,())⟩:=by
 have h1:=qcY hR hC
 refine qal ?_
 simp only[run_Z74,Z74.ev]
 rw[← qin]
 exact qaa (qdF p R C (fun _ _=>0) (by omega) (by omega) (by omega) fun i j _ _=>qmM i j) qam
theorem qcB(c:List Sim)(p:Int)(st:Sim)(ms:List Mat)(s:Nat)(hs:s<c.length)(hc:Sm (.sl (.sl (.int .i64))) c)(hl:st.length=c.length)(hst:∀ x∈st,0≤x∧x≤3) :
  Ret E n_Z41 [dLL c,dI p,dL st,dMs ms,dI (s:Int)] ⟨o_Z41,(FC c st s,())⟩:=by
 have hc1:c.length≤1048576:=hc.1
 have hls:(c[s]).length≤1048576:=(qbq hc hs).1
 have e:w64 (((c[s]).length:Int)-1)=((c[s]).length:Int)-1:=qah (by omega) (by omega)
 obtain⟨tl,hpre⟩:=qkT (c:=c) (d:=((c[s]).length:Int)-1) hs (by rw[qaf hs];omega)
 have hF:FC c st s=SDn c st (((c[s]).length:Int)-1) s:=by rw[FC,qaf hs]
 refine qal ?_
 simp only[run_Z41,Z41.ev]
 refine qac (qak hs) (qaa (qcX _) ?_)
 simp only[e]
 refine qaa (qcA c (((c[s]).length:Int)-1) hc ⟨by omega,by omega⟩) ?_
 rw[hF]
 generalize ((c[s]).length:Int)-1=d at hpre ⊢
 have hol:=qbp c d c.length
 have hlen:(qau c d s).length<(qau c d c.length).length:=by rw[hpre];simp
 refine Ev.start (p:=fun φ n=>Z41.l0 (mkR (run E (φ 0))) (φ 0) n (s:Int) 0 (qau c d c.length) ((qau c d c.length).length:Int) 0 c p st ms=_) 1 ?_ (fun _ _ _ h=>h)
 refine qef 1 (σ:=Nat) (L:=fun φ n t=>Z41.l0 (mkR (run E (φ 0))) (φ 0) n (s:Int) (qfv c st d t) (qau c d c.length) ((qau c d c.length).length:Int) (t:Int) c p st ms) (fun _ _ _ _=>rfl) (fun t=>t≤(qau c d s).length) (fun _=>_) (fun t=>(qau c d s).length-t) (fun t ht ih=>?_) 0 (Nat.zero_le _)
 have ht:t≤(qau c d s).length:=ht
 have htl:t<(qau c d c.length).length:=by omega
 simp only[Z41.l0_succ _ qae]
 refine qax (decide_eq_true (by omega)) ?_
 by_cases h:t=(qau c d s).length
 ·have hg:(qau c d c.length)[t]? = some (s:Int):=by rw[hpre,h,List.getElem?_append_right (Nat.le_refl _),Nat.sub_self];rfl
  refine qac (qbn.trans hg) (qax (by simp) (qan ?_))
  have:qfv c st d t=SDn c st d s:=by
   unfold qfv SDn
   rw[hpre,h,List.take_left' rfl]
  rw[this]
 ·have hp:t<(qau c d s).length:=by omega
  obtain⟨i,hi,his⟩:=qdV (List.getElem_mem hp)
  have hg:(qau c d c.length)[t]? = some (i:Int):=by rw[hpre,List.getElem?_append_left hp,List.getElem?_eq_getElem hp,hi]
  have hgi:(qau c d c.length)[t]=(i:Int):=by rw[List.getElem?_eq_getElem htl] at hg;exact Option.some.inj hg
  have hil:i<st.length:=by omega
  have:=ih (t+1) (by show t+1≤_;omega) (by show(qau c d s).length-(t+1)<(qau c d s).length-t;omega)
  rw[qdS _ _ _ _ htl,hgi,Int.toNat_natCast,qaf hil] at this
  have hb:=qhO hst d t (c:=c)
  have hb2:=hst _ (List.getElem_mem hil)
  refine qac (qbn.trans hg) (qaA (by simp;omega) (qac (qak hil) ?_))
  rw[qad (by omega),qah (by omega) (by omega)]
  exact this
theorem qgZ(p:Int)(i:Nat)(hp:2≤p∧p≤251):Ret E n_Z18 [dI (i:Int),dI p] ⟨o_Z18,(sgn p i,())⟩:=by
 refine qal ?_
 simp only[run_Z18,Z18.ev]
 rw[Int.tmod_eq_emod_of_nonneg (by omega),qah (by omega) (by omega)]
 refine qb5 (fun h=>qan ?_) fun h=>qan ?_
 ·have h:(i:Int)%2=0:=by simpa using h
  rw[sgn,if_pos (by omega)]
 ·have h:¬ (i:Int)%2=0:=by simpa using h
  rw[sgn,if_neg (by omega)]
theorem qoX{p:Int}{m:Mat}{W top left:Nat}{sg:Int}{i n:Nat}{cs:Sim}:qdu (stJ p m W top left sg i (n+1)) cs=(qdu (stJ p m W top left sg i n) cs).set ((top+i)*W+left+n) (m.2.2.2.1.getD (i*m.2.2.1.toNat+n) 0*sg%p):=by
 unfold stJ
 rw[List.range_succ,List.map_append,qbY];rfl
theorem qoz{p:Int}{m:Mat}{W top left:Nat}{sg:Int}{n:Nat}{cs:Sim}:qdu (stI p m W top left sg (n+1)) cs=qdu (stJ p m W top left sg n m.2.2.1.toNat) (qdu (stI p m W top left sg n) cs):=by
 unfold stI
 rw[List.range_succ,List.flatMap_append,qbY,List.flatMap_singleton]
theorem qoL{c:List Sim}{p:Int}{st:Sim}{ms:List Mat}{k:Int}{s n:Nat}{cs:Sim}:qdu (stF c p st ms k s (n+1)) cs=qdu (stI p (mp c ms s n) (SD c st k).toNat (FC c st s).toNat (FC c st (fc c s n)).toNat (sgn p n) (mp c ms s n).2.1.toNat) (qdu (stF c p st ms k s n) cs):=by
 unfold stF
 rw[List.range_succ,List.flatMap_append,qbY,List.flatMap_singleton]
theorem qoT{c:List Sim}{p:Int}{st:Sim}{ms:List Mat}{k:Int}{n:Nat}{cs:Sim}(hn:n<(qau c (k+1) c.length).length){s:Nat}(hs:(qau c (k+1) c.length)[n]=(s:Int)):qdu (stS c p st ms k (n+1)) cs=qdu (stF c p st ms k s (qaU c s).length) (qdu (stS c p st ms k n) cs):=by
 unfold stS
 rw[List.take_succ_eq_append_getElem hn,List.flatMap_append,qbY,List.flatMap_singleton,hs,Int.toNat_natCast]
end VeT
open Go Go.Proofs Ve
namespace VeT
structure CobF (c:List Sim) (p:Int) (st:Sim) (ms:List Mat) (k:Int) (s a T L R C H W:Nat):Prop where
 sl:s<c.length
 al:a<(qaU c s).length
 eT:FC c st s=(T:Int)
 eL:FC c st (fc c s a)=(L:Int)
 eR:(mp c ms s a).2.1=(R:Int)
 eC:(mp c ms s a).2.2.1=(C:Int)
 eW:SD c st k=(W:Int)
 hT:T+R≤H
 hL:L+C≤W
 hH:H≤32
 hW:W≤32
 len:(mp c ms s a).2.2.2.1.length=R*C
 el:qbz (mp c ms s a).2.2.2.1 p
 hp:2≤p∧p≤251
 hR:R≤32
 hC:C≤32
 h4:a≤4
theorem qpQ{c:List Sim}{p:Int}{st:Sim}{ms:List Mat}(h:VS c p st ms){k:Int}{s a H W:Nat}(hs:s<c.length)(hd:((c.getD s []).length:Int)=k+2)(ha:a<(qaU c s).length)(eH:SD c st (k+1)=(H:Int))(eW:SD c st k=(W:Int))(hH:H≤32)(hW:W≤32) :
  ∃ T L R C:Nat,CobF c p st ms k s a T L R C H W:=by
 obtain⟨g1,g2,g3,g4,g5,g6,g7⟩:=qdZ h hs hd ha
 obtain⟨_,hb⟩:=h.map hs ha
 obtain⟨R,C,em,hR,hC,hlen⟩:=hb.1.nat
 have e1:(mp c ms s a).2.1=(R:Int):=congrArg (fun m:Mat=>m.2.1) em
 have e2:(mp c ms s a).2.2.1=(C:Int):=congrArg (fun m:Mat=>m.2.2.1) em
 have hp:2≤p∧p≤251:=⟨h.2.1.1,h.2.1.2.1⟩
 have el:=hb.1.2.2.2.2
 rw[hb.2.1] at el
 have h4:=h.1.fIdx4 hs
 exact⟨(FC c st s).toNat,(FC c st (fc c s a)).toNat,R,C,hs,ha,by omega,by omega,e1,e2,eW,by omega,by omega,hH,hW,hlen,el,hp,hR,hC,by omega⟩
theorem qqc{T L i j W H:Nat}(h1:T+i<H)(h2:L+j<W)(hH:H≤32)(hW:W≤32):w64 (w64 (w64 (w64 ((T:Int)+(i:Int))*(W:Int))+(L:Int))+(j:Int))=(((T+i)*W+L+j:Nat):Int)∧(T+i)*W+L+j<H*W:=by
 have hlt:=qgr h1 h2
 have:=qcY hH hW
 have e1:w64 ((T:Int)+(i:Int))=((T+i:Nat):Int):=by rw[qah (by omega) (by omega)];omega
 have e2:w64 (((T+i:Nat):Int)*(W:Int))=(((T+i)*W:Nat):Int):=by rw[qbg];exact qah (by omega) (by omega)
 have e3:w64 ((((T+i)*W:Nat):Int)+(L:Int))=(((T+i)*W+L:Nat):Int):=by rw[qah (by omega) (by omega)];omega
 have e4:w64 ((((T+i)*W+L:Nat):Int)+(j:Int))=(((T+i)*W+L+j:Nat):Int):=by rw[qah (by omega) (by omega)];omega
 rw[e1,e2,e3,e4]
 exact⟨rfl,by omega⟩
theorem qnI{x y p:Int}(hx:0≤x∧x≤250)(hy:0≤y∧y≤250)(hp:2≤p∧p≤251):Int.tmod (w64 (x*y)) p=x*y%p:=by
 have:=qes hx hy
 rw[qah (by omega) (by omega),Int.tmod_eq_emod_of_nonneg (by omega)]
theorem qee(c:List Sim)(p:Int)(st:Sim)(ms:List Mat)(k:Int)(hk:-1≤k∧k≤3)(hc:Sm (.sl (.sl (.int .i64))) c)(h:VS c p st ms) :
    Ret E n_Z24 [dLL c,dI p,dL st,dMs ms,dI k] ⟨o_Z24,qpa c p st ms k⟩:=by
  obtain⟨H,eH,bH,tH⟩:=qcs h (k+1)
  obtain⟨W,eW,bW,tW⟩:=qcs h k
  have hst:=h.2.2.1.2.1
  have hl:=h.2.2.1.1
  have h48:=h.1.1
  have ek:w64 (k+1)=k+1:=qah (by omega) (by omega)
  have hHW:=qcY bH bW
  have s1:=qb9 c st (k+1) p ms hc hl hst (by omega)
  have s2:=qb9 c st k p ms hc hl hst (by omega)
  rw[show qfv c st (k+1) (qau c (k+1) c.length).length=(H:Int) from eH] at s1
  rw[show qfv c st k (qau c k c.length).length=(W:Int) from eW] at s2
  have z:=qoy p H W bH bW
  have hM:qpa c p st ms k=(p,(H:Int),(W:Int),qjT c p st ms k,()):=by rw[qpa,eH,eW]
  rw[hM]
  refine qal ?_
  simp only[run_Z24,Z24.ev,ek]
  suffices hmain:Ev fun φ=>Z24.j0 (mkR (run E (φ 0))) (φ 0) k c p st ms 0 0 0 p (H:Int) (W:Int) (List.replicate (H*W) 0)=some ⟨o_Z24,(p,(H:Int),(W:Int),qjT c p st ms k,())⟩ by
    exact qbO (qaa s1 (qbO (qaa s2 (qbO (qaa z hmain) (qaa z hmain))) (qaa s2 (qaa z hmain)))) (qaa s1 (qaa s2 (qaa z hmain)))
  simp only[Z24.j0_eq _ qae,ek]
  refine qaa (qcA c (k+1) hc (by omega)) ?_
  have hol:=qbp c (k+1) c.length
  by_cases hk0:k<0
  · have e0:qjT c p st ms k=List.replicate (H*W) 0:=by rw[qjT,if_pos hk0,tH,tW]
    rw[e0]
    refine Ev.start (p:=fun φ n=>Z24.l1 (mkR (run E (φ 0))) (φ 0) n k (qau c (k+1) c.length) ((qau c (k+1) c.length).length:Int) 0 c p st ms 0 0 0 p (H:Int) (W:Int) (List.replicate (H*W) 0)=_) 1 ?_ (fun _ _ _ h=>h)
    refine Ev.round 1 (L:=fun φ n=>Z24.l1 (mkR (run E (φ 0))) (φ 0) n k (qau c (k+1) c.length) ((qau c (k+1) c.length).length:Int) 0 c p st ms 0 0 0 p (H:Int) (W:Int) (List.replicate (H*W) 0)) ?_ (fun _ _ _=>rfl)
    simp only[Z24.l1_succ _ qae,Z24.j2_eq _ qae]
    refine qdH (fun hlt=>?_) fun _=>qam
    have hlt:0<(qau c (k+1) c.length).length:=by omega
    exact qac (qak (k:=0) hlt) (qax (decide_eq_true hk0) qam)
  have e0:qjT c p st ms k=qdu (stS c p st ms k (qau c (k+1) c.length).length) (List.replicate (H*W) 0):=by rw[qjT,if_neg hk0,tH,tW]
  rw[e0]
  -- one row of a face' stores
  have r5:∀(s a T L R C i:Nat) (F:CobF c p st ms k s a T L R C H W) (t:Nat) (ls:Sim) (n1:Int) (fs:Sim) (n2:Int) (cs:Sim) (hcs:cs.length=H*W) (hi:i<R) (r:Option Dv),
      (Ev fun φ=>Z24.l4 (mkR (run E (φ 0))) (φ 0) (φ 1) (φ 2) (φ 3) k (s:Int) (a:Int) (T:Int) (L:Int) ls n1 (t:Int) fs n2 (a:Int) (R:Int) ((i+1:Nat):Int) c p st ms 0 0 0 p (H:Int) (W:Int) (mp c ms s a).1 (R:Int) (C:Int) (mp c ms s a).2.2.2.1 (qdu (stJ p (mp c ms s a) W T L (sgn p a) i C) cs)=r) →
      Ev fun φ=>Z24.l5 (mkR (run E (φ 0))) (φ 0) (φ 1) (φ 2) (φ 3) (φ 0) k (s:Int) (a:Int) (T:Int) (L:Int) (i:Int) ls n1 (t:Int) fs n2 (a:Int) (R:Int) (i:Int) (C:Int) 0 c p st ms 0 0 0 p (H:Int) (W:Int) (mp c ms s a).1 (R:Int) (C:Int) (mp c ms s a).2.2.2.1 cs=r:=by
    intro s a T L R C i F t ls n1 fs n2 cs hcs hi r hr
    refine Ev.start (p:=fun φ n=>Z24.l5 (mkR (run E (φ 0))) (φ 0) (φ 1) (φ 2) (φ 3) n k (s:Int) (a:Int) (T:Int) (L:Int) (i:Int) ls n1 (t:Int) fs n2 (a:Int) (R:Int) (i:Int) (C:Int) 0 c p st ms 0 0 0 p (H:Int) (W:Int) (mp c ms s a).1 (R:Int) (C:Int) (mp c ms s a).2.2.2.1 cs=_) 4 ?_ (fun _ _ _ h=>h)
    refine qap 4 (L:=fun φ n j o=>Z24.l5 (mkR (run E (φ 0))) (φ 0) (φ 1) (φ 2) (φ 3) n k (s:Int) (a:Int) (T:Int) (L:Int) (i:Int) ls n1 (t:Int) fs n2 (a:Int) (R:Int) (i:Int) (C:Int) j c p st ms 0 0 0 p (H:Int) (W:Int) (mp c ms s a).1 (R:Int) (C:Int) (mp c ms s a).2.2.2.1 o) (len:=C) (fun j=>qdu (stJ p (mp c ms s a) W T L (sgn p a) i j) cs) (fun _ _ _ _ _=>rfl) (fun j q hj ih=>?_) ?_
    · simp only[Z24.l5_succ _ qae]
      have hT:=F.hT
      have hL:=F.hL
      have hp:=F.hp
      obtain⟨ep,hpos⟩:=qqc (T:=T) (L:=L) (i:=i) (j:=j) (W:=W) (H:=H) (by omega) (by omega) bH bW
      have hij:i*C+j<(mp c ms s a).2.2.2.1.length:=by rw[F.len];exact qgr hi hj
      have hRC:=qcY F.hR F.hC
      have hx:=F.el.get hp (i*C+j)
      have hy:=qqe hp a
      rw[qoX,F.eC,Int.toNat_natCast,qaf hij] at ih
      rw[qaf hij] at hx
      have hol':(qdu (stJ p (mp c ms s a) W T L (sgn p a) i j) cs).length=H*W:=by rw[qbo,hcs]
      have ev:=qnI hx (show 0≤sgn p a∧sgn p a≤250 by omega) hp
      refine qax (decide_eq_true (by omega)) (qaa (qih _ _ C _ i j hij (by rw[F.len];omega)) (qaa (qgZ p a hp) (qaq (by simp;omega) ?_)))
      simp only[ep,ev,hol',Int.toNat_natCast]
      refine qaq (by simp only[Bool.and_eq_true,decide_eq_true_eq];omega) ?_
      rw[qad (by omega)]
      exact ih
    · simp only[Z24.l5_succ _ qae]
      have:=F.hR
      refine qaA (decide_eq_false (by omega)) ?_
      rw[qad (by omega)]
      exact hr
  -- a face' stores
  have r4:∀(s a T L R C:Nat) (F:CobF c p st ms k s a T L R C H W) (t:Nat) (ls:Sim) (n1:Int) (fs:Sim) (n2:Int) (cs:Sim) (hcs:cs.length=H*W) (r:Option Dv),
      (Ev fun φ=>Z24.l3 (mkR (run E (φ 0))) (φ 0) (φ 1) (φ 2) k (s:Int) ls n1 (t:Int) fs n2 ((a+1:Nat):Int) c p st ms 0 0 0 p (H:Int) (W:Int) (qdu (stI p (mp c ms s a) W T L (sgn p a) R) cs)=r) →
      Ev fun φ=>Z24.l4 (mkR (run E (φ 0))) (φ 0) (φ 1) (φ 2) (φ 0) k (s:Int) (a:Int) (T:Int) (L:Int) ls n1 (t:Int) fs n2 (a:Int) (R:Int) 0 c p st ms 0 0 0 p (H:Int) (W:Int) (mp c ms s a).1 (R:Int) (C:Int) (mp c ms s a).2.2.2.1 cs=r:=by
    intro s a T L R C F t ls n1 fs n2 cs hcs r hr
    refine Ev.start (p:=fun φ n=>Z24.l4 (mkR (run E (φ 0))) (φ 0) (φ 1) (φ 2) n k (s:Int) (a:Int) (T:Int) (L:Int) ls n1 (t:Int) fs n2 (a:Int) (R:Int) 0 c p st ms 0 0 0 p (H:Int) (W:Int) (mp c ms s a).1 (R:Int) (C:Int) (mp c ms s a).2.2.2.1 cs=_) 3 ?_ (fun _ _ _ h=>h)
    refine qap 3 (L:=fun φ n i o=>Z24.l4 (mkR (run E (φ 0))) (φ 0) (φ 1) (φ 2) n k (s:Int) (a:Int) (T:Int) (L:Int) ls n1 (t:Int) fs n2 (a:Int) (R:Int) i c p st ms 0 0 0 p (H:Int) (W:Int) (mp c ms s a).1 (R:Int) (C:Int) (mp c ms s a).2.2.2.1 o) (len:=R) (fun i=>qdu (stI p (mp c ms s a) W T L (sgn p a) i) cs) (fun _ _ _ _ _=>rfl) (fun i q hi ih=>?_) ?_
    · simp only[Z24.l4_succ _ qae]
      rw[qoz,F.eC,Int.toNat_natCast] at ih
      exact qax (decide_eq_true (by omega)) (r5 s a T L R C i F t ls n1 fs n2 _ (by rw[qbo,hcs]) hi q ih)
    · simp only[Z24.l4_succ _ qae]
      have:=F.h4
      refine qaA (decide_eq_false (by omega)) ?_
      rw[qad (by omega)]
      exact hr
  refine Ev.start (p:=fun φ n=>Z24.l1 (mkR (run E (φ 0))) (φ 0) n k (qau c (k+1) c.length) ((qau c (k+1) c.length).length:Int) 0 c p st ms 0 0 0 p (H:Int) (W:Int) (List.replicate (H*W) 0)=_) 1 ?_ (fun _ _ _ h=>h)
  refine qap 1 (L:=fun φ n t o=>Z24.l1 (mkR (run E (φ 0))) (φ 0) n k (qau c (k+1) c.length) ((qau c (k+1) c.length).length:Int) t c p st ms 0 0 0 p (H:Int) (W:Int) o) (len:=(qau c (k+1) c.length).length) (fun t=>qdu (stS c p st ms k t) (List.replicate (H*W) 0)) (fun _ _ _ _ _=>rfl) (fun t q ht ih=>?_) ?_
  · simp only[Z24.l1_succ _ qae]
    obtain⟨s,hse,hs,hd⟩:=qdI.1 (List.getElem_mem ht)
    rw[qoT ht hse] at ih
    have hg:(qau c (k+1) c.length)[t]? = some (s:Int):=by rw[List.getElem?_eq_getElem ht,hse]
    have hf4:=h.1.fIdx4 hs
    generalize hO:qdu (stS c p st ms k t) (List.replicate (H*W) 0)=O at ih ⊢
    have hOl:O.length=H*W:=by rw[← hO,qbo,List.length_replicate]
    refine qax (decide_eq_true (by omega)) (qac (qbn.trans hg) (qaA (decide_eq_false hk0) (qaa (qbN c s hs hc h.1.srt) ?_)))
    refine Ev.start (p:=fun φ n=>Z24.l3 (mkR (run E (φ 0))) (φ 0) (φ 1) n k (s:Int) (qau c (k+1) c.length) ((qau c (k+1) c.length).length:Int) (t:Int) (qaU c s) ((qaU c s).length:Int) 0 c p st ms 0 0 0 p (H:Int) (W:Int) O=_) 2 ?_ (fun _ _ _ h=>h)
    refine qap 2 (L:=fun φ n a o=>Z24.l3 (mkR (run E (φ 0))) (φ 0) (φ 1) n k (s:Int) (qau c (k+1) c.length) ((qau c (k+1) c.length).length:Int) (t:Int) (qaU c s) ((qaU c s).length:Int) a c p st ms 0 0 0 p (H:Int) (W:Int) o) (len:=(qaU c s).length) (fun a=>qdu (stF c p st ms k s a) O) (fun _ _ _ _ _=>rfl) (fun a q2 ha ih2=>?_) ?_
    · simp only[Z24.l3_succ _ qae]
      obtain⟨T,L,R,C,F⟩:=qpQ h hs (by omega) ha eH eW bH bW
      obtain⟨ix,hfc,_⟩:=qcJ h.1 hs ha
      have f1:=qcB c p st ms s hs hc hl hst
      have f2:=qcB c p st ms (fc c s a) hfc hc hl hst
      rw[F.eT] at f1
      rw[F.eL] at f2
      rw[qoL,tW,F.eT,F.eL,F.eR,Int.toNat_natCast,Int.toNat_natCast,Int.toNat_natCast] at ih2
      refine qax (decide_eq_true (by omega)) (qac ix (qaa (qcj c p st ms s a hs ha h) (qaa f1 (qaa f2 ?_))))
      simp only[F.eR,F.eC]
      exact r4 s a T L R C F t _ _ _ _ _ (by rw[qbo,hOl]) q2 ih2
    · simp only[Z24.l3_succ _ qae]
      refine qaA (decide_eq_false (by omega)) ?_
      rw[qad (by omega)]
      exact ih
  · simp only[Z24.l1_succ _ qae,Z24.j2_eq _ qae]
    exact qaA (decide_eq_false (by omega)) qam
end VeT
open Go Go.Proofs Ve
namespace VeT
end VeT
open Go Go.Proofs Ve
namespace VeT
theorem qcu{p x x' y y':Int}(h1:x%p=x'%p)(h2:y%p=y'%p):x*y%p=x'*y'%p:=by
 rw[Int.mul_emod x,h1,h2,← Int.mul_emod]
theorem qhq{p x x':Int}(h:x%p=x'%p):∀ n:Nat,x ^ n%p=x' ^ n%p
 | 0=>by rw[Int.pow_zero,Int.pow_zero]
 | n+1=>by rw[Int.pow_succ,Int.pow_succ];exact qcu (qhq h n) h
def qgv(a p:Int):Int:=a ^ (p-2).toNat%p
theorem qnN{a p:Int}(hp:2≤p):0≤qgv a p∧qgv a p≤p-1:=by
 have h0:=Int.emod_nonneg (a ^ (p-2).toNat) (show p≠0 by omega)
 have h1:=Int.emod_lt_of_pos (a ^ (p-2).toNat) (show 0<p by omega)
 unfold qgv;omega
abbrev Ent:=Nat→Nat→Int
def qcc(top q:Nat)(A:Ent):Ent:=fun i=>if i=top then A q else if i=q then A top else A i
def elN(p:Int)(c top:Nat)(B:Ent):Nat→Int:=fun j=>B top j*qgv (B top c) p%p
def elM(p:Int)(c top:Nat)(B:Ent):Ent:=fun i j=>if i=top then elN p c top B j else B i j
def elF(p:Int)(c top:Nat)(B:Ent):Ent:=fun i j=>if i=top then elN p c top B j else if B i c≠0 then(B i j+(p-B i c)*elN p c top B j)%p else B i j
noncomputable def elP(p:Int)(R c:Nat)(S:Ent×List Nat):Ent×List Nat :=
 match qaP (fun i=>S.1 i c≠0) S.2.length (R-S.2.length) with
 | none=>S
 | some q=>(elF p c S.2.length (qcc S.2.length q S.1),S.2++[c])
noncomputable def elS(p:Int)(R:Nat)(A:Ent):Nat→Ent×List Nat
 | 0=>(A,[])
 | c+1=>elP p R c (elS p R A c)
def EIn(p:Int)(R W:Nat)(A:Ent):Prop:=∀ i j,i<R→j<W→0≤A i j∧A i j≤p-1
theorem EIn.sw{p:Int}{R W top q:Nat}{A:Ent}(h:EIn p R W A)(ht:top<R)(hq:q<R):EIn p R W (qcc top q A):=fun i j hi hj=>by
 unfold qcc;split
 ·exact h q j hq hj
 ·split
  ·exact h top j ht hj
  ·exact h i j hi hj
theorem qdg{p x:Int}(hp:2≤p):0≤x%p∧x%p≤p-1:=by
 have h0:=Int.emod_nonneg x (show p≠0 by omega)
 have h1:=Int.emod_lt_of_pos x (show 0<p by omega)
 omega
theorem EIn.f{p:Int}{R W c top:Nat}{B:Ent}(h:EIn p R W B)(hp:2≤p):EIn p R W (elF p c top B):=fun i j hi hj=>by
 unfold elF;split
 ·exact qdg hp
 ·split
  ·exact qdg hp
  ·exact h i j hi hj
theorem qhB{p:Int}{R W:Nat}{A:Ent}(hp:2≤p)(h:EIn p R W A):∀ c,EIn p R W (elS p R A c).1∧(elS p R A c).2.length≤R∧(elS p R A c).2.length≤c∧∀ x∈(elS p R A c).2,x<c
 | 0=>⟨h,Nat.zero_le _,Nat.zero_le _,fun x hx=>by simp[elS] at hx⟩
 | c+1=>by
  obtain⟨h1,h2,h3,h4⟩:=qhB hp h c
  rw[elS,elP]
  cases hf:qaP (fun i=>(elS p R A c).1 i c≠0) (elS p R A c).2.length (R-(elS p R A c).2.length) with
  | none=>exact⟨h1,h2,by show(elS p R A c).2.length≤c+1;omega,fun x hx=>by have:=h4 x hx;omega⟩
  | some q =>
   have hq:=qaN hf
   refine⟨(h1.sw (by omega) (by omega)).f hp,?_,?_,fun x hx=>?_⟩
   ·simp only[List.length_append,List.length_singleton];omega
   ·simp only[List.length_append,List.length_singleton];omega
   ·rcases List.mem_append.1 hx with hx | hx
    ·have:=h4 x hx;omega
    ·rw[List.mem_singleton] at hx;omega
def qaB(A:Ent)(R W:Nat):List Sim:=(List.range R).map fun i=>(List.range W).map (A i)
theorem qaD{A:Ent}{R W:Nat}:(qaB A R W).length=R:=by simp[qaB]
theorem qbr{A:Ent}{R W i:Nat}(hi:i<R):(qaB A R W)[i]? = some ((List.range W).map (A i)):=by
 unfold qaB;rw[List.getElem?_map,List.getElem?_range hi];rfl
theorem qbD{A B:Ent}{R W:Nat}(h:∀ i j,i<R→j<W→A i j=B i j):qaB A R W=qaB B R W :=
 List.map_congr_left fun i hi=>List.map_congr_left fun j hj=>h i j (List.mem_range.1 hi) (List.mem_range.1 hj)
theorem qfg{A:Ent}{R W i:Nat}{f:Nat→Int}:(qaB A R W).set i ((List.range W).map f)=qaB (fun k j=>if k=i then f j else A k j) R W:=by
 apply List.ext_getElem?
 intro k
 by_cases hk:k<R
 ·rw[qbr hk]
  by_cases hik:k=i
  ·subst hik
   rw[List.getElem?_set_self (by rw[qaD];exact hk)]
   simp
  ·rw[List.getElem?_set_ne (Ne.symm hik),qbr hk]
   simp[hik]
 ·rw[List.getElem?_eq_none (by rw[List.length_set,qaD];omega),List.getElem?_eq_none (by rw[qaD];omega)]
theorem qfG{f:Nat→Int}{W j:Nat}(hj:j<W):((List.range W).map f)[j]? = some (f j):=by
 rw[List.getElem?_map,List.getElem?_range hj];rfl
theorem qfp{A:Ent}{R W i j:Nat}{v:Int}(hi:i<R)(hj:j<W):(qat A W R).set (i*W+j) v=qat (fun k l=>if k=i∧l=j then v else A k l) W R:=by
 apply List.ext_getElem?
 intro n
 by_cases hn:n<R*W
 ·have hW:0<W:=by omega
  have e:n=n / W*W+n%W:=by have:=Nat.div_add_mod n W;rw[Nat.mul_comm] at this;omega
  have h1:n / W<R:=Nat.div_lt_of_lt_mul (by rw[Nat.mul_comm];exact hn)
  have h2:n%W<W:=Nat.mod_lt _ hW
  generalize n / W=a at e h1
  generalize n%W=b at e h2
  subst e
  rw[qbH h1 h2]
  by_cases hab:a=i∧b=j
  ·obtain⟨rfl,rfl⟩:=hab
   rw[List.getElem?_set_self (by rw[qav];exact hn)]
   simp
  ·rw[List.getElem?_set_ne,qbH h1 h2,if_neg hab]
   intro e
   have hbW:b<W:=h2
   have:a=i∧b=j:=by
    have h3:(i*W+j) / W=i:=by rw[Nat.mul_comm,Nat.mul_add_div (by omega),Nat.div_eq_of_lt hj,Nat.add_zero]
    have h4:(a*W+b) / W=a:=by rw[Nat.mul_comm,Nat.mul_add_div (by omega),Nat.div_eq_of_lt hbW,Nat.add_zero]
    have:a=i:=by rw[← h3,← h4,e]
    subst this
    exact⟨rfl,by omega⟩
   exact hab this
 ·rw[List.getElem?_eq_none (by rw[List.length_set,qav];omega),List.getElem?_eq_none (by rw[qav];omega)]
theorem qdi{A:Ent}{W:Nat}:∀ {R:Nat},(qaB A R W).flatten=qat A W R
 | 0=>by simp[qaB,qat]
 | R+1=>by
  have:=qdi (A:=A) (W:=W) (R:=R)
  unfold qaB at this ⊢
  rw[List.range_succ,List.map_append,List.flatten_append,this,qat]
  simp
def qcg(cells:Sim)(W:Nat):Ent:=fun i j=>cells.getD (i*W+j) 0
theorem qkQ{cells:Sim}{R W:Nat}(h:cells.length=R*W):qat (qcg cells W) W R=cells:=by
 refine List.ext_getElem (by rw[qav,h]) fun n h1 h2=>?_
 rw[qav] at h1
 have hW:0<W:=by
  cases W with
  | zero=>simp at h1
  | succ W=>omega
 have e:n=n / W*W+n%W:=by have:=Nat.div_add_mod n W;rw[Nat.mul_comm] at this;omega
 have h3:n / W<R:=Nat.div_lt_of_lt_mul (by rw[Nat.mul_comm];exact h1)
 have h4:n%W<W:=Nat.mod_lt _ hW
 have hg:=qbH (f:=qcg cells W) h3 h4
 rw[← e,List.getElem?_eq_getElem (by rw[qav];exact h1)] at hg
 rw[Option.some.inj hg]
 unfold qcg
 rw[← e,qaf h2]
theorem qeS{p:Int}{cells:Sim}{R W:Nat}(h:qbz cells p)(hl:cells.length=R*W):EIn p R W (qcg cells W):=fun i j hi hj=>by
 unfold qcg
 have:=qgr hi hj
 rw[qaf (by omega)]
 exact h _ (List.getElem_mem _)
end VeT
open Go Go.Proofs Ve
namespace VeT
def mkL(k:Int)(n:Nat):Sim:=(List.range n).map fun(i:Nat)=>k+(i:Int)
theorem qcr{k:Int}{n:Nat}:(mkL k n).length=n:=by simp[mkL]
theorem qpB{k:Int}{n i:Nat}(h:i<(mkL k n).length):(mkL k n)[i]=k+i:=by simp[mkL]
theorem qb6(s:Sim)(k:Int)(hk:0≤k∧k≤4611686018427387904)(hs:s.length≤1048576):Ret E n_Z85 [dL s,dI k] ⟨o_Z85,(k+s.length,mkL k s.length,())⟩:=by
 refine qal ?_
 simp only[run_Z85,Z85.ev]
 refine Ev.start (p:=fun φ n=>Z85.l0 (mkR (run E (φ 0))) (φ 0) n k 0 s=_) 1 ?_ (fun _ _ _ h=>h)
 have hl:∀ j,j≤s.length→(mkL k j++s.drop j).length=s.length:=fun j hj=>by rw[List.length_append,qcr,List.length_drop];omega
 have:=qap 1 (L:=fun φ n j (a:Int×Sim)=>Z85.l0 (mkR (run E (φ 0))) (φ 0) n a.1 j a.2) (len:=s.length) (fun j=>(k+(j:Int),mkL k j++s.drop j)) (r:=some ⟨o_Z85,(k+s.length,mkL k s.length,())⟩) (fun _ _ _ _ _=>rfl) (fun j r hj ih=>?_) ?_
 ·simpa [mkL] using this
 ·simp only[Z85.l0_succ _ qae,hl j (by omega)]
  refine qax (decide_eq_true (by omega)) (qaq (by simp;omega) ?_)
  rw[qad (by omega),qah (by omega) (by omega),Int.toNat_natCast]
  have e:(mkL k j++s.drop j).set j (k+j)=mkL k (j+1)++s.drop (j+1):=by
   rw[List.drop_eq_getElem_cons hj,List.set_append_right _ _ (by rw[qcr];omega),qcr,Nat.sub_self,List.set_cons_zero]
   unfold mkL
   rw[List.range_succ,List.map_append,List.append_assoc];rfl
  rw[e,show k+(j:Int)+1=k+((j+1:Nat):Int) by omega]
  exact ih
 ·simp only[Z85.l0_succ _ qae,hl s.length (Nat.le_refl _)]
  refine qaA (decide_eq_false (by omega)) (qan ?_)
  simp
theorem qh1(k:Int)(n:Nat)(hk:0≤k∧k≤4611686018427387904)(hn:n≤1048576):Ret E n_Z83 [dL (mkL k n),dI k] ⟨o_Z83,(k+n,())⟩:=by
 refine qal ?_
 simp only[run_Z83,Z83.ev]
 refine Ev.start (p:=fun φ m=>Z83.l0 (mkR (run E (φ 0))) (φ 0) m (mkL k n) k 0=_) 1 ?_ (fun _ _ _ h=>h)
 have:=qap 1 (L:=fun φ m j a=>Z83.l0 (mkR (run E (φ 0))) (φ 0) m (mkL k n) a j) (len:=n) (fun j=>k+(j:Int)) (r:=some ⟨o_Z83,(k+n,())⟩) (fun _ _ _ _ _=>rfl) (fun j r hj ih=>?_) ?_
 ·simpa using this
 ·simp only[Z83.l0_succ _ qae,qcr]
  have hj':j<(mkL k n).length:=by rw[qcr];exact hj
  refine qax (decide_eq_true (by omega)) (qac (qak hj') (qaA (by simp[qpB hj']) ?_))
  rw[qad (by omega),qah (by omega) (by omega),show k+(j:Int)+1=k+((j+1:Nat):Int) by omega]
  exact ih
 ·simp only[Z83.l0_succ _ qae,qcr]
  exact qaA (decide_eq_false (by omega)) qam
def qpX:List Sim→Int→List Sim
 | [],_=>[]
 | x::xs,k=>mkL k x.length::qpX xs (k+x.length)
def mkN:List Sim→Int→Int
 | [],k=>k
 | x::xs,k=>mkN xs (k+x.length)
theorem qo5:∀ {xs:List Sim} {k:Int},(∀ x∈xs,x.length≤1048576)→k≤mkN xs k∧mkN xs k≤k+1048576*xs.length
 | [],k,_=>by simp[mkN]
 | x::xs,k,h=>by
  have h1:=qo5 (xs:=xs) (k:=k+x.length) fun y hy=>h y (List.mem_cons_of_mem _ hy)
  have h2:=h x List.mem_cons_self
  simp only[mkN,List.length_cons];omega
theorem qf6:∀(xs:List Sim) (k:Int),0≤k→k+1048576*xs.length≤4611686018427387904→(∀ x∈xs,x.length≤1048576)→Evt fun n=>qbB n_Z85 (mkR (run E n)) xs k=some (mkN xs k,qpX xs k)
 | [],k,_,_,_=>Evt.of fun _=>rfl
 | x::xs,k,h0,hb,hx=>by
  have h2:=hx x List.mem_cons_self
  simp only[List.length_cons] at hb
  have h3:=qf6 xs (k+x.length) (by omega) (by omega) fun y hy=>hx y (List.mem_cons_of_mem _ hy)
  have h4:=qb6 x k (by omega) h2
  refine(h4.and h3).mono fun n ⟨a,b⟩=>?_
  have a':qgL (mkR (run E n)) n_Z85 oM [⟨tL,x⟩,⟨tI,k⟩]=some (k+x.length,mkL k x.length,()):=qaz a
  simp only[qbB,a',Option.bind_some,b,Option.map_some,mkN,qpX]
theorem qmt(n:Nat)(args:List Dv):run E (n+1) n_Z86 args=qfC n_Z85 (mkR (run E n)) args:=rfl
theorem qhu(xs:List Sim)(k:Int)(hk:0≤k∧k≤1125899906842624)(hs:Sm (.sl (.sl (.int .i64))) xs):Ret E n_Z86 [dLL xs,dI k] ⟨o_Z86,(mkN xs k,qpX xs k,())⟩:=by
 have hs1:xs.length≤1048576:=hs.1
 refine Evt.succ ((qf6 xs k hk.1 (by omega) fun x hx=>(hs.2 x hx).1).mono fun n h=>?_)
 rw[qmt]
 show((qbB n_Z85 (mkR (run E n)) xs k).map fun q=>(⟨.cons tI (.cons (.sl tL) .nil),(q.1,q.2,())⟩:Dv))=_
 rw[h];rfl
end VeT
open Go Go.Proofs Ve
namespace VeT
def qqa:List qmv→Int→List qmv
 | [],_=>[]
 | x::xs,k=>(k,k+1,k+1+1,mkL (k+1+1+1) x.2.2.2.1.length,())::qqa xs (k+1+1+1+x.2.2.2.1.length)
def qoK:List qmv→Int→Int
 | [],k=>k
 | x::xs,k=>qoK xs (k+1+1+1+x.2.2.2.1.length)
theorem qnp:∀ {xs:List qmv} {k:Int},(∀ x∈xs,x.2.2.2.1.length≤1048576)→k≤qoK xs k∧qoK xs k≤k+1048579*xs.length
 | [],k,_=>by simp[qoK]
 | x::xs,k,h=>by
  have h1:=qnp (xs:=xs) (k:=k+1+1+1+x.2.2.2.1.length) fun y hy=>h y (List.mem_cons_of_mem _ hy)
  have h2:=h x List.mem_cons_self
  simp only[qoK,List.length_cons];omega
theorem qfi:∀(xs:List qmv) (k:Int),0≤k→k+1048579*xs.length≤4611686018427387904→(∀ x∈xs,x.2.2.2.1.length≤1048576)→Evt fun n=>qbb n_Z85 (mkR (run E n)) xs k=some (qoK xs k,qqa xs k)
 | [],k,_,_,_=>Evt.of fun _=>rfl
 | x::xs,k,h0,hb,hx=>by
  have h2:=hx x List.mem_cons_self
  simp only[List.length_cons] at hb
  have h3:=qfi xs (k+1+1+1+x.2.2.2.1.length) (by omega) (by omega) fun y hy=>hx y (List.mem_cons_of_mem _ hy)
  have h4:=qb6 x.2.2.2.1 (k+1+1+1) (by omega) h2
  refine(h4.and h3).mono fun n ⟨a,b⟩=>?_
  have a':qgL (mkR (run E n)) n_Z85 oM [⟨tL,x.2.2.2.1⟩,⟨tI,k+1+1+1⟩]=some (k+1+1+1+x.2.2.2.1.length,mkL (k+1+1+1) x.2.2.2.1.length,()):=qaz a
  rw[qbb,if_pos (by omega)]
  simp only[a',Option.bind_some,b,Option.map_some,qoK,qqa]
theorem qml(n:Nat)(args:List Dv):run E (n+1) n_Z87 args=qfF n_Z85 (mkR (run E n)) args:=rfl
theorem qhj(xs:List qmv)(k:Int)(hk:0≤k∧k≤4398046511104)(hs:Sm (.sl tM) xs):Ret E n_Z87 [⟨.sl tM,xs⟩,⟨.int .i64,k⟩] ⟨o_Z87,(qoK xs k,qqa xs k,())⟩:=by
 have hs1:xs.length≤1048576:=hs.1
 refine Evt.succ ((qfi xs k hk.1 (by omega) fun x hx=>(hs.2 x hx).2.2.2.1.1).mono fun n h=>?_)
 rw[qml]
 show((qbb n_Z85 (mkR (run E n)) xs k).map fun q=>(⟨.cons tI (.cons (.sl tM) .nil),(q.1,q.2,())⟩:Dv))=_
 rw[h];rfl
theorem qgw(xs:List Sim)(k:Int)(hk:0≤k∧k≤1125899906842624)(hs:Sm (.sl (.sl (.int .i64))) xs):Ret E n_Z84 [dLL xs,dI k] ⟨o_Z84,(mkN xs k,qpX xs k,())⟩:=by
 refine qal ?_
 simp only[run_Z84,Z84.ev]
 exact qaa (qhu xs k hk hs) qam
def qp3(x:Shf)(k:Int):Int:=qoK x.2.2.2.1 (mkN x.1 k+x.2.2.1.length)
theorem qiY(x:Shf)(hx:Sm (.st cS) x):∃ a b c,Ret E n_Z88 [dLL x.1,dI x.2.1,dL x.2.2.1,dMs x.2.2.2.1,dI 1] ⟨o_Z88,(qp3 x 1,a,b,c,())⟩∧1≤qp3 x 1∧qp3 x 1≤4398046511104:=by
 have h1:Sm (.sl (.sl (.int .i64))) x.1:=hx.1
 have h2:x.2.2.1.length≤1048576:=hx.2.2.1.1
 have h3:Sm (.sl tM) x.2.2.2.1:=hx.2.2.2.1
 have l1:x.1.length≤1048576:=h1.1
 have l3:x.2.2.2.1.length≤1048576:=h3.1
 have g1:=qo5 (xs:=x.1) (k:=1) fun y hy=>(h1.2 y hy).1
 have g3:=qnp (xs:=x.2.2.2.1) (k:=mkN x.1 1+x.2.2.1.length) fun y hy=>(h3.2 y hy).2.2.2.1.1
 refine⟨qpX x.1 1,mkL (mkN x.1 1) x.2.2.1.length,qqa x.2.2.2.1 (mkN x.1 1+x.2.2.1.length),qal ?_,by unfold qp3;omega⟩
 ·simp only[run_Z88,Z88.ev]
  exact qaa (qgw x.1 1 (by omega) h1) (qaa (qb6 x.2.2.1 (mkN x.1 1) (by omega) h2) (qaa (qhj x.2.2.2.1 (mkN x.1 1+x.2.2.1.length) (by omega) h3) qam))
end VeT
open Go Go.Proofs Ve
namespace VeT
def qdB(i j:Nat):Int:=if i=j then 1 else 0
def qhI(p:Int)(n:Nat):Mat:=(p,(n:Int),(n:Int),qat qdB n n,())
theorem qmk(i j:Nat):Ret E n_Z70 [dI (i:Int),dI (j:Int)] ⟨o_Z70,(qdB i j,())⟩:=by
 refine qal ?_
 simp only[run_Z70,Z70.ev]
 refine qb5 (fun h=>qan ?_) fun h=>qan ?_
 ·have h:(i:Int)=j:=by simpa using h
  rw[qdB,if_pos (by omega)]
 ·have h:¬ (i:Int)=j:=by simpa using h
  rw[qdB,if_neg (by omega)]
theorem qon(p:Int)(n:Nat)(hn:n≤32):Ret E n_Z69 [dI p,dI (n:Int)] ⟨o_Z69,qhI p n⟩:=by
 have h:=qcY hn hn
 refine qal ?_
 simp only[run_Z69,Z69.ev]
 exact qaa (qdC p n n qdB (by omega) (by omega) (by omega) fun i j _ _=>qmk i j) qam
theorem qlp(p:Int)(n:Nat)(hn:n≤32):Ret E n_Z141 [dI p,dI (n:Int)] ⟨o_Z141,qhI p n⟩:=by
 have h:=qcY hn hn
 refine qal ?_
 simp only[run_Z141,Z141.ev]
 refine qaa (qez p n n hn hn) ?_
 refine Ev.start (p:=fun φ m=>Z141.l0 (mkR (run E (φ 0))) (φ 0) m (n:Int) 0 0 0 0 p (n:Int) (n:Int) (List.replicate (n*n) 0)=_) 1 ?_ (fun _ _ _ h=>h)
 have:=qap 1 (L:=fun φ m i o=>Z141.l0 (mkR (run E (φ 0))) (φ 0) m (n:Int) i 0 0 0 p (n:Int) (n:Int) o) (len:=n) (fun i=>qat qdB n i++List.replicate ((n-i)*n) 0) (r:=some ⟨o_Z141,qhI p n⟩) (fun _ _ _ _ _=>rfl) (fun i r hi ih=>?_) ?_
 ·simpa [qat] using this
 ·simp only[Z141.l0_succ _ qae]
  have hii:=qgr hi hi
  have hle:(i+1)*n≤n*n:=Nat.mul_le_mul_right _ hi
  rw[Nat.add_mul] at hle
  have hRi:(n-i)*n=n+(n-(i+1))*n:=by
   rw[show n-i=(n-(i+1))+1 by omega,Nat.add_mul];omega
  have hol:(qat qdB n i++List.replicate ((n-i)*n) (0:Int)).length=i*n+(n-i)*n:=by simp[qav]
  have e1:w64 (w64 ((i:Int)*(n:Int))+(i:Int))=((i*n+i:Nat):Int):=by
   rw[qbg,qah (n:=((i*n:Nat):Int)) (by omega) (by omega),qah (by omega) (by omega)];omega
  simp only[e1,Int.toNat_natCast]
  refine qax (decide_eq_true (by omega)) (qaq (by simp only[Bool.and_eq_true,decide_eq_true_eq,hol];omega) ?_)
  rw[qad (by omega)]
  have e2:(qat qdB n i++List.replicate ((n-i)*n) (0:Int)).set (i*n+i) 1=qat qdB n (i+1)++List.replicate ((n-(i+1))*n) 0:=by
   rw[List.set_append_right _ _ (by rw[qav];omega),qav,Nat.add_sub_cancel_left,qat,List.append_assoc]
   congr 1
   apply List.ext_getElem?
   intro j
   rw[List.getElem?_set,List.length_replicate]
   by_cases hj:j<n
   ·rw[List.getElem?_append_left (by simpa using hj)]
    by_cases hij:i=j
    ·subst hij
     rw[if_pos rfl,if_pos (by omega)]
     simp[hj,qdB]
    ·rw[if_neg hij,List.getElem?_replicate,if_pos (by omega)]
     simp[hj,qdB,hij]
   ·rw[if_neg (by omega),List.getElem?_append_right (by simpa using hj)]
    simp only[List.length_map,List.length_range,List.getElem?_replicate]
    by_cases h2:j<(n-i)*n
    ·rw[if_pos h2,if_pos (by omega)]
    ·rw[if_neg h2,if_neg (by omega)]
  rw[e2]
  exact ih
 ·simp only[Z141.l0_succ _ qae]
  refine qaA (decide_eq_false (by omega)) (qan ?_)
  simp[qhI]
end VeT
open Go Go.Proofs Ve
namespace VeT
noncomputable def qqo(x:Shf)(k:Int):Mat:=qpa x.1 x.2.1 x.2.2.1 x.2.2.2.1 k
theorem VM.len{m:Mat}(h:VM m):m.2.2.2.1.length≤1024:=by
 obtain⟨R,C,_,hR,hC,hl⟩:=h.nat
 have:=qcY hR hC
 omega
end VeT
open Go Go.Proofs Ve
namespace VeT
theorem qgn.lt{s:Sim}(h:qgn s):∀ {i j:Nat} (hj:j<s.length) (hij:i<j),s[i]<s[j]:=by
 intro i j
 induction j with
 | zero=>intro _ h;omega
 | succ j ih =>
  intro hj hij
  have:=h (j+1) (by omega) hj
  rw[Nat.add_sub_cancel,qaf (by omega),qaf hj] at this
  by_cases e:i=j
  ·subst e;exact this
  ·exact Int.lt_trans (ih (by omega) (by omega)) this
theorem qgn.pairwise{s:Sim}(h:qgn s):s.Pairwise (·<·):=by
 rw[List.pairwise_iff_getElem]
 intro i j hi hj hij
 exact h.lt hj hij
theorem qke:∀ {a b:Sim},a.Pairwise (·<·)→b.Pairwise (·<·)→(∀ x,x∈a↔x∈b)→a=b
 | [],[],_,_,_=>rfl
 | [],y::ys,_,_,h=>absurd ((h y).2 List.mem_cons_self) (by simp)
 | x::xs,[],_,_,h=>absurd ((h x).1 List.mem_cons_self) (by simp)
 | x::xs,y::ys,ha,hb,h=>by
  rw[List.pairwise_cons] at ha hb
  have exy:x=y:=by
   have h1:=(h x).1 List.mem_cons_self
   have h2:=(h y).2 List.mem_cons_self
   rw[List.mem_cons] at h1 h2
   rcases h1 with h1 | h1
   ·exact h1
   ·rcases h2 with h2 | h2
    ·exact h2.symm
    ·have:=hb.1 x h1
     have:=ha.1 y h2
     omega
  subst exy
  congr 1
  refine qke ha.2 hb.2 fun z=>⟨fun hz=>?_,fun hz=>?_⟩
  ·have:=(h z).1 (List.mem_cons_of_mem _ hz)
   rw[List.mem_cons] at this
   rcases this with e | e
   ·have:=ha.1 z hz;omega
   ·exact e
  ·have:=(h z).2 (List.mem_cons_of_mem _ hz)
   rw[List.mem_cons] at this
   rcases this with e | e
   ·have:=hb.1 z hz;omega
   ·exact e
theorem qmV{a b:Sim}(ha:qgn a)(hb:qgn b)(h:qnV a b)(hne:a≠b):∃ i,∃ hi:i<b.length,¬ b[i]∈a∧∀ j (hj:j<i),b[j]∈a:=by
 have hex:∃ x∈b,¬ x∈a:=Classical.byContradiction fun hn=>hne (qke ha.pairwise hb.pairwise fun x=>⟨h x,fun hx=>Classical.byContradiction fun hxa=>hn ⟨x,hx,hxa⟩⟩)
 obtain⟨x,hx,hxa⟩:=hex
 obtain⟨j,hj,rfl⟩:=List.mem_iff_getElem.1 hx
 have hf:b.findIdx (fun v=>!pb (v∈a))<b.length:=List.findIdx_lt_length_of_exists ⟨b[j],hx,by rw[qas hxa];rfl⟩
 refine⟨b.findIdx (fun v=>!pb (v∈a)),hf,?_,fun q hq=>?_⟩
 ·have:=List.findIdx_getElem (w:=hf)
  exact qa1.1 (by simpa using this)
 ·have:=List.not_of_lt_findIdx hq
  exact qaE.1 (by simpa using this)
theorem qms{a b:Sim}(h:qnV a b){i:Nat}(hi:i<b.length)(hn:¬ b[i]∈a):qnV a (b.eraseIdx i):=by
 intro x hx
 obtain⟨j,hj,rfl⟩:=List.mem_iff_getElem.1 (h x hx)
 have hji:j≠i:=fun e=>hn (by subst e;exact hx)
 rw[List.mem_iff_getElem?]
 by_cases hlt:j<i
 ·exact⟨j,by rw[List.getElem?_eraseIdx,if_pos hlt,List.getElem?_eq_getElem hj]⟩
 ·exact⟨j-1,by rw[List.getElem?_eraseIdx,if_neg (by omega),show j-1+1=j by omega,List.getElem?_eq_getElem hj]⟩
end VeT
open Go Go.Proofs Ve
namespace VeT
theorem qo7{W a b a' b':Nat}(hb:b<W)(hb':b'<W)(e:a*W+b=a'*W+b'):a=a'∧b=b':=by
 have h1:(a*W+b) / W=a:=by rw[Nat.mul_comm,Nat.mul_add_div (by omega),Nat.div_eq_of_lt hb,Nat.add_zero]
 have h2:(a'*W+b') / W=a':=by rw[Nat.mul_comm,Nat.mul_add_div (by omega),Nat.div_eq_of_lt hb',Nat.add_zero]
 have:a=a':=by rw[← h1,← h2,e]
 subst this
 exact⟨rfl,by omega⟩
theorem qp8{c:List Sim}{st:Sim}(hst:∀ x∈st,0≤x∧x≤3){s s':Nat}(hl:(c.getD s []).length=(c.getD s' []).length)(h:s<s'):FC c st s+st.getD s 0≤FC c st s':=by
 unfold FC
 rw[← hl]
 exact qnL hst h (by omega)
theorem qjC{c:List Sim}{st:Sim}(hst:∀ x∈st,0≤x∧x≤3){s s' i i':Nat}(hl:(c.getD s []).length=(c.getD s' []).length)(hi:i<(st.getD s 0).toNat)(hi':i'<(st.getD s' 0).toNat)
  (e:(FC c st s).toNat+i=(FC c st s').toNat+i'):s=s'∧i=i':=by
 have n1:0≤FC c st s:=(qiw hst).1
 have n2:0≤FC c st s':=(qiw hst).1
 rcases Nat.lt_trichotomy s s' with h | h | h
 ·have:=qp8 hst hl h;omega
 ·subst h;exact⟨rfl,by omega⟩
 ·have:=qp8 hst hl.symm h;omega
theorem qmW{s:Sim}(hs:qgn s){a b:Nat}(ha:a<s.length)(hb:b<s.length)(e:s.eraseIdx a=s.eraseIdx b):a=b:=by
 have key:∀ {a b:Nat},a<b→b<s.length→s.eraseIdx a=s.eraseIdx b→False:=fun {a b} hab hb e=>by
  have h:=congrArg (·[a]?) e
  simp only[List.getElem?_eraseIdx] at h
  rw[if_neg (by omega),if_pos hab,List.getElem?_eq_getElem (by omega),List.getElem?_eq_getElem (by omega)] at h
  have h:=Option.some.inj h
  have:=hs.lt (i:=a) (j:=a+1) (by omega) (by omega)
  omega
 rcases Nat.lt_trichotomy a b with h | h | h
 ·exact absurd e fun e=>key h hb e
 ·exact h
 ·exact absurd e.symm fun e=>key h ha e
theorem qo9{c:List Sim}(hv:VC c){s a b:Nat}(hs:s<c.length)(ha:a<(qaU c s).length)(hb:b<(qaU c s).length)(e:fc c s a=fc c s b):a=b:=by
 obtain⟨_,_,ea⟩:=qcJ hv hs ha
 obtain⟨_,_,eb⟩:=qcJ hv hs hb
 have hl:=qaV (c:=c) (k:=s)
 rw[e,eb] at ea
 split at hl
 ·exact(qmW (hv.2.1 s hs).2.2.1 (by omega) (by omega) ea).symm
 ·omega
theorem qnU{c:List Sim}{p:Int}{st:Sim}{ms:List Mat}(h:VS c p st ms){k:Int}(hk:0≤k){s a i j:Nat}(hs:s<c.length)(hd:((c.getD s []).length:Int)=k+2)(ha:a<(qaU c s).length)
  (hi:i<(st.getD s 0).toNat) (hj:j<(st.getD (fc c s a) 0).toNat) :
  (qjT c p st ms k).getD (((FC c st s).toNat+i)*(SD c st k).toNat+((FC c st (fc c s a)).toNat+j)) 0=(mp c ms s a).2.2.2.1.getD (i*(mp c ms s a).2.2.1.toNat+j) 0*sgn p a%p:=by
 have hst:=h.2.2.1.2.1
 obtain⟨g1,g2,g3,g4,g5,g6,g7⟩:=qdZ h hs hd ha
 have hW:(FC c st (fc c s a)).toNat+j<(SD c st k).toNat:=by omega
 have hH:(FC c st s).toNat+i<(SD c st (k+1)).toNat:=by omega
 unfold qjT
 rw[if_neg (by omega)]
 refine qme (by rw[List.length_replicate];exact qgr hH hW) (fun x hx e=>?_) ⟨_,(qjp (Nat.le_refl _)).2 ⟨s,hs,hd,qjH.2 ⟨a,i,j,ha,by omega,by omega,rfl⟩⟩,by simp only;omega⟩
 obtain⟨s',hs',hd',hx⟩:=(qjp (Nat.le_refl _)).1 hx
 obtain⟨a',i',j',ha',hi',hj',rfl⟩:=qjH.1 hx
 obtain⟨q1,q2,q3,q4,q5,q6,q7⟩:=qdZ h hs' hd' ha'
 simp only at e ⊢
 have hW':(FC c st (fc c s' a')).toNat+j'<(SD c st k).toNat:=by omega
 have e0:((FC c st s').toNat+i')*(SD c st k).toNat+((FC c st (fc c s' a')).toNat+j')=((FC c st s).toNat+i)*(SD c st k).toNat+((FC c st (fc c s a)).toNat+j):=by omega
 obtain⟨e1,e2⟩:=qo7 hW' hW e0
 obtain⟨rfl,rfl⟩:=qjC hst (by omega) (by omega) (by omega) e1
 obtain⟨e3,rfl⟩:=qjC hst (by omega) (by omega) (by omega) e2
 obtain rfl:=qo9 h.1 hs ha' ha e3
 rfl
theorem qoS{c:List Sim}{p:Int}{st:Sim}{ms:List Mat}(h:VS c p st ms){k:Int}{s i g:Nat}(hs:s<c.length)(hd:((c.getD s []).length:Int)=k+2)
  (hi:i<(st.getD s 0).toNat) (hg:g<(SD c st k).toNat) (hno:∀ a,a<(qaU c s).length→¬ ((FC c st (fc c s a)).toNat≤g∧g<(FC c st (fc c s a)).toNat+(st.getD (fc c s a) 0).toNat)) :
  (qjT c p st ms k).getD (((FC c st s).toNat+i)*(SD c st k).toNat+g) 0=0:=by
 have hst:=h.2.2.1.2.1
 have hrep:∀ n q,(List.replicate n (0:Int)).getD q 0=0:=fun n q=>by
  rw[List.getD_eq_getElem?_getD,List.getElem?_replicate];split<;>rfl
 unfold qjT
 split
 ·exact hrep _ _
 rw[qhF fun x hx e=>?_]
 ·exact hrep _ _
 obtain⟨s',hs',hd',hx⟩:=(qjp (Nat.le_refl _)).1 hx
 obtain⟨a',i',j',ha',hi',hj',rfl⟩:=qjH.1 hx
 obtain⟨q1,q2,q3,q4,q5,q6,q7⟩:=qdZ h hs' hd' ha'
 simp only at e
 have hW':(FC c st (fc c s' a')).toNat+j'<(SD c st k).toNat:=by omega
 have e0:((FC c st s').toNat+i')*(SD c st k).toNat+((FC c st (fc c s' a')).toNat+j')=((FC c st s).toNat+i)*(SD c st k).toNat+g:=by omega
 obtain⟨e1,e2⟩:=qo7 hW' hg e0
 obtain⟨rfl,rfl⟩:=qjC hst (by omega) (by omega) (by omega) e1
 exact hno a' ha' ⟨by omega,by omega⟩
end VeT
open Go Go.Proofs Ve
namespace VeT
noncomputable def fv(c:List Sim)(f k:Nat):Nat:=(c.getD k []).findIdx (fun v=>!pb (v∈c.getD f []))
noncomputable def qc4(c:List Sim)(p:Int)(st:Sim)(ms:List Mat)(f:Nat):Nat→Nat→Mat
 | 0,k=>qhI p (st.getD f 0).toNat
 | d+1,k=>if f=k then qhI p (st.getD f 0).toNat else qoE (mp c ms k (fv c f k)) (qc4 c p st ms f d (fc c k (fv c f k)))
theorem qjM{p:Int}{n:Nat}(hp:Pr p)(hn:n≤32):VM (qhI p n):=by
 refine⟨hp,⟨by show(0:Int)≤n;omega,by show(n:Int)≤32;omega⟩,⟨by show(0:Int)≤n;omega,by show(n:Int)≤32;omega⟩,?_,?_⟩
 ·show((qat qdB n n).length:Int)=(n:Int)*(n:Int)
  rw[qav,qbg]
 ·intro x hx
  have hx:x∈qat qdB n n:=hx
  have:∀ m,x∈qat qdB n m→0≤x∧x≤1:=by
   intro m
   induction m with
   | zero=>intro h;simp[qat] at h
   | succ m ih =>
    intro h
    rw[qat,List.mem_append] at h
    rcases h with h | h
    ·exact ih h
    ·rw[List.mem_map] at h
     obtain⟨j,_,rfl⟩:=h
     unfold qdB;split<;>omega
  have:=this n hx
  have:=hp.1
  show 0≤x∧x≤p-1
  omega
theorem qlA{a b:Mat}(ha:VM a)(hb:VM b):VM (qoE a b):=by
 refine⟨ha.1,ha.2.1,hb.2.2.1,?_,?_⟩
 ·show((qat _ b.2.2.1.toNat a.2.1.toNat).length:Int)=a.2.1*b.2.2.1
  rw[qav]
  have h1:=ha.2.1
  have h2:=hb.2.2.1
  obtain⟨x,hx⟩:=Int.eq_ofNat_of_zero_le h1.1
  obtain⟨y,hy⟩:=Int.eq_ofNat_of_zero_le h2.1
  rw[hx,hy,qbg];rfl
 ·intro x hx
  have hx:x∈qat (qkX a.1 a.2.2.2.1 b.2.2.2.1 a.2.2.1.toNat b.2.2.1.toNat) b.2.2.1.toNat a.2.1.toNat:=hx
  have hp:=ha.1.1
  have:∀ m,x∈qat (qkX a.1 a.2.2.2.1 b.2.2.2.1 a.2.2.1.toNat b.2.2.1.toNat) b.2.2.1.toNat m→0≤x∧x≤a.1-1:=by
   intro m
   induction m with
   | zero=>intro h;simp[qat] at h
   | succ m ih =>
    intro h
    rw[qat,List.mem_append] at h
    rcases h with h | h
    ·exact ih h
    ·rw[List.mem_map] at h
     obtain⟨j,_,rfl⟩:=h
     have h1:=Int.emod_nonneg (qaT (fun l=>a.2.2.2.1.getD (m*a.2.2.1.toNat+l) 0) (fun l=>b.2.2.2.1.getD (l*b.2.2.1.toNat+j) 0) a.2.2.1.toNat) (show a.1≠0 by omega)
     have h2:=Int.emod_lt_of_pos (qaT (fun l=>a.2.2.2.1.getD (m*a.2.2.1.toNat+l) 0) (fun l=>b.2.2.2.1.getD (l*b.2.2.1.toNat+j) 0) a.2.2.1.toNat) (show 0<a.1 by omega)
     unfold qkX;omega
  exact this _ hx
theorem qfT(v:Int)(a:Sim)(ha:a.length≤1048576):Ret E n_Z61 [dI v,⟨.ptr (.cons (.sl (.int .i64)) .nil),(a,())⟩] ⟨o_Z61,(!pb (v∈a),())⟩:=by
 refine qal ?_
 simp only[run_Z61,Z61.ev]
 exact qaa (qgb a v ha) qam
structure Down (c:List Sim) (p:Int) (st:Sim) (ms:List Mat) (f k:Nat):Prop where
 v:VS c p st ms
 fl:f<c.length
 kl:k<c.length
 ne:f≠k
 pt:qnV (c.getD f []) (c.getD k [])
theorem Down.facts{c p st ms f k}(h:Down c p st ms f k):fv c f k<(c.getD k []).length∧fv c f k<(qaU c k).length∧(∀ j (hj:j<fv c f k) (hl:j<(c.getD k []).length),(c.getD k [])[j]∈c.getD f [])∧(∀ hl:fv c f k<(c.getD k []).length,¬ (c.getD k [])[fv c f k]∈c.getD f [])∧qnV (c.getD f []) (c.getD (fc c k (fv c f k)) [])∧(c.getD (fc c k (fv c f k)) []).length<(c.getD k []).length∧fc c k (fv c f k)<c.length:=by
 have hx:=h.v.1.2.1 f h.fl
 have hy:=h.v.1.2.1 k h.kl
 have hne:c.getD f []≠c.getD k []:=fun e=>by
  have hs:=h.v.1.srt
  rw[qaf h.fl,qaf h.kl] at e
  rcases Nat.lt_or_gt_of_ne h.ne with hlt | hlt
  ·have:=hs f k h.kl hlt;rw[e,qc5.2 rfl] at this;omega
  ·have:=hs k f h.fl hlt;rw[e,qc5.2 rfl] at this;omega
 obtain⟨i,hi,hin,hbef⟩:=qmV hx.2.2.1 hy.2.2.1 h.pt hne
 have hfv:fv c f k<(c.getD k []).length:=List.findIdx_lt_length_of_exists ⟨_,List.getElem_mem hi,by rw[qas hin];rfl⟩
 have hno:∀ hl:fv c f k<(c.getD k []).length,¬ (c.getD k [])[fv c f k]∈c.getD f []:=fun hl=>by
  have t:(!pb ((c.getD k [])[fv c f k]∈c.getD f []))=true:=List.findIdx_getElem (w:=hl) (p:=fun v=>!pb (v∈c.getD f []))
  exact qa1.1 (by simpa only[Bool.not_eq_true'] using t)
 have hbf:∀ j (hj:j<fv c f k) (hl:j<(c.getD k []).length),(c.getD k [])[j]∈c.getD f []:=fun j hj hl=>by
  have:=List.not_of_lt_findIdx hj
  exact qaE.1 (by simpa using this)
 have h2:1<(c.getD k []).length:=by
  refine Classical.byContradiction fun hn=>?_
  have h1:(c.getD k []).length=1:=by omega
  have hf0:0<(c.getD f []).length:=hx.1
  have hm:=h.pt _ (List.getElem_mem hf0)
  obtain⟨q,hq,e⟩:=List.mem_iff_getElem.1 hm
  have hq0:q=fv c f k:=by omega
  subst hq0
  exact hno hfv (e ▸ List.getElem_mem hf0)
 have hil:fv c f k<(qaU c k).length:=by rw[qaV,if_pos h2];exact hfv
 obtain⟨_,hF,hFg⟩:=qcJ h.v.1 h.kl hil
 refine⟨hfv,hil,hbf,hno,?_,?_,hF⟩
 ·rw[hFg];exact qms h.pt hfv (hno hfv)
 ·rw[hFg,List.length_eraseIdx,if_pos hfv];omega
end VeT
open Go Go.Proofs Ve
namespace VeT
theorem Down.idx{c p st ms f k}(h:Down c p st ms f k):qjd (fun v=>!pb (v∈c.getD f [])) (c.getD k [])=(fv c f k:Nat):=by
 obtain⟨h1,_,h3,h4,_⟩:=h.facts
 have:(c.getD k []).findIdx? (fun v=>!pb (v∈c.getD f []))=some (fv c f k):=by
  rw[List.findIdx?_eq_some_iff_getElem]
  exact⟨h1,by rw[qas (h4 h1)];rfl,fun j hj=>by rw[qaK (h3 j hj (by omega))];simp⟩
 unfold qjd
 rw[this];rfl
theorem qpW{c p st ms}(h:VS c p st ms)(f:Nat)(hf:f<c.length):∃ hl:f<st.length,∃ n:Nat,st[f]=(n:Int)∧n≤3∧(st.getD f 0).toNat=n∧st.getD f 0=(n:Int):=by
 have hl:f<st.length:=by rw[h.2.2.1.1];exact hf
 have hb:=h.2.2.1.2.1 _ (List.getElem_mem hl)
 obtain⟨n,hn⟩:=Int.eq_ofNat_of_zero_le hb.1
 exact⟨hl,n,hn,by omega,by rw[qaf hl];omega,by rw[qaf hl,hn]⟩
theorem qm6{c:List Sim}{p:Int}{st:Sim}{ms:List Mat}(h:VS c p st ms){f:Nat}(hf:f<c.length):∀(d k:Nat),k<c.length→(c.getD k []).length≤d→qnV (c.getD f []) (c.getD k []) →
  VM (qc4 c p st ms f d k)∧(qc4 c p st ms f d k).2.1=st.getD k 0
 | 0,k,hk,hd,hp=>by have:=(h.1.2.1 k hk).1;omega
 | d+1,k,hk,hd,hp=>by
  obtain⟨_,n,_,hn,en,en2⟩:=qpW h f hf
  rw[qc4]
  by_cases e:f=k
  ·subst e
   rw[if_pos rfl,en,en2]
   exact⟨qjM h.2.1 (by omega),rfl⟩
  ·rw[if_neg e]
   have D:Down c p st ms f k:=⟨h,hf,hk,e,hp⟩
   obtain⟨_,f2,_,_,f5,f6,f7⟩:=D.facts
   obtain⟨r1,r2⟩:=qm6 h hf d (fc c k (fv c f k)) f7 (by omega) f5
   obtain⟨m1,m2,m3,m4⟩:=(h.map hk f2).2
   exact⟨qlA m1 r1,m3⟩
theorem qnT(c:List Sim)(p:Int)(st:Sim)(ms:List Mat)(hc:Sm (.sl (.sl (.int .i64))) c)(h:VS c p st ms)(f:Nat)(hf:f<c.length):∀(d k:Nat),k<c.length→(c.getD k []).length≤d→qnV (c.getD f []) (c.getD k []) →
  (VM (qc4 c p st ms f d k)∧(qc4 c p st ms f d k).2.1=st.getD k 0) ∧
  Ret E n_Z60 [dLL c,dI p,dL st,dMs ms,dI (f:Int),dI (k:Int)] ⟨o_Z60,qc4 c p st ms f d k⟩:=by
 intro d
 obtain⟨hfl,n,hn,hn3,hnt,hng⟩:=qpW h f hf
 induction d with
 | zero =>
  intro k hk hd
  have:=(h.1.2.1 k hk).1
  omega
 | succ d ih =>
  intro k hk hd hpt
  have h4f:=h.1.len4 hf
  rw[qc4]
  by_cases hfk:f=k
  ·subst hfk
   rw[if_pos rfl,hnt]
   refine⟨⟨qjM h.2.1 (by omega),by rw[hng];rfl⟩,qal ?_⟩
   ·simp only[run_Z60,Z60.ev]
    refine qax (by simp) (qac (qak hfl) ?_)
    rw[hn]
    exact qaa (qon p n (by omega)) qam
  ·rw[if_neg hfk]
   have D:Down c p st ms f k:=⟨h,hf,hk,hfk,hpt⟩
   obtain⟨f1,f2,f3,f4,f5,f6,f7⟩:=D.facts
   obtain⟨⟨v1,v2⟩,r1⟩:=ih (fc c k (fv c f k)) f7 (by omega) f5
   obtain⟨ix,_,hFg⟩:=qcJ h.1 hk f2
   obtain⟨_,hB⟩:=h.map hk f2
   have hsh:(mp c ms k (fv c f k)).2.2.1=(qc4 c p st ms f d (fc c k (fv c f k))).2.1:=by rw[hB.2.2.2,v2]
   have gf:c.getD f []=c[f]:=qaf hf
   have gk:c.getD k []=c[k]:=qaf hk
   have hlf:(c[f]).length≤1048576:=(qbq (t:=.sl (.int .i64)) (s:=c) hc hf).1
   have hlk:(c[k]).length≤1048576:=(qbq (t:=.sl (.int .i64)) (s:=c) hc hk).1
   refine⟨⟨qlA hB.1 v1,hB.2.2.1⟩,qal ?_⟩
   ·simp only[run_Z60,Z60.ev]
    refine qaA (by simp;omega) (qac (qak hf) (qac (qak hk) ?_))
    have hI:=qbc c[k] ((c[f],()),()) (fun v=>!pb (v∈c[f])) hlk fun v _=>qfT v c[f] hlf
    have hD:=D.idx
    rw[gf,gk] at hD
    rw[hD] at hI
    exact qaa hI (qaa (qbN c k hk hc h.1.srt) (qac ix (qaa (qcj c p st ms k (fv c f k) hk f2 h) (qaa r1 (qaa (qhC _ _ hB.1 v1 hsh) qam)))))
theorem qnr(c:List Sim)(p:Int)(st:Sim)(ms:List Mat)(hc:Sm (.sl (.sl (.int .i64))) c)(h:VS c p st ms)(f:Nat)(hf:f<c.length):∀(d k:Nat),k<c.length→(c.getD k []).length≤d→qnV (c.getD f []) (c.getD k []) →
    (VM (qc4 c p st ms f d k)∧(qc4 c p st ms f d k).2.1=st.getD k 0) ∧
    Ret E n_Z157 [dS (c,p,st,ms,()),dI (f:Int),dI (k:Int)] ⟨o_Z157,qc4 c p st ms f d k⟩:=by
  intro d
  obtain⟨hfl,n,hn,hn3,hnt,hng⟩:=qpW h f hf
  induction d with
  | zero =>
    intro k hk hd
    have:=(h.1.2.1 k hk).1
    omega
  | succ d ih =>
    intro k hk hd hpt
    have h4f:=h.1.len4 hf
    rw[qc4]
    by_cases hfk:f=k
    · subst hfk
      rw[if_pos rfl,hnt]
      refine⟨⟨qjM h.2.1 (by omega),by rw[hng];rfl⟩,qal ?_⟩
      · simp only[run_Z157,Z157.ev]
        refine qax (by simp) (qac (qak (xs:=st) hfl) ?_)
        rw[hn]
        exact qaa (qlp p n (by omega)) qam
    · rw[if_neg hfk]
      have D:Down c p st ms f k:=⟨h,hf,hk,hfk,hpt⟩
      obtain⟨f1,f2,f3,f4,f5,f6,f7⟩:=D.facts
      obtain⟨⟨v1,v2⟩,r2⟩:=ih (fc c k (fv c f k)) f7 (by omega) f5
      obtain⟨ix,_,hFg⟩:=qcJ h.1 hk f2
      obtain⟨_,hB⟩:=h.map hk f2
      have hsh:(mp c ms k (fv c f k)).2.2.1=(qc4 c p st ms f d (fc c k (fv c f k))).2.1:=by rw[hB.2.2.2,v2]
      have gf:c.getD f []=c[f]:=qaf hf
      have gk:c.getD k []=c[k]:=qaf hk
      have hlf:(c[f]).length≤1048576:=(qbq (t:=.sl (.int .i64)) (s:=c) hc hf).1
      have hlk:(c[k]).length≤1048576:=(qbq (t:=.sl (.int .i64)) (s:=c) hc hk).1
      refine⟨⟨qlA hB.1 v1,hB.2.2.1⟩,qal ?_⟩
      · simp only[run_Z157,Z157.ev]
        refine qaA (by simp;omega) (qac (qak (xs:=c) hk) ?_)
        refine Ev.start (p:=fun φ m=>Z157.l0 (mkR (run E (φ 0))) (φ 0) m (c,p,st,ms,()) (f:Int) (k:Int) c[k] 0 0 0 0=_) 1 ?_ (fun _ _ _ h=>h)
        rw[gk] at f1
        refine qef 1 (σ:=Nat) (L:=fun φ m i=>Z157.l0 (mkR (run E (φ 0))) (φ 0) m (c,p,st,ms,()) (f:Int) (k:Int) c[k] (i:Int) 0 0 0) (fun _ _ _ _=>rfl) (fun i=>i≤fv c f k) (fun _=>_) (fun i=>fv c f k-i) (fun i hi ihi=>?_) 0 (Nat.zero_le _)
        have hi:i≤fv c f k:=hi
        have hil:i<(c[k]).length:=by omega
        simp only[Z157.l0_succ _ qae]
        refine qac (qak (xs:=c) hf) (qac (qak hil) (qaa (qid c[f] c[k][i] hlf) ?_))
        by_cases he:i=fv c f k
        · subst he
          have hno:¬ c[k][fv c f k]∈c[f]:=by
            have:=f4 (by rw[gk];exact f1)
            simpa only[gk,gf] using this
          exact qaA (qas hno) (qaa (qcM c k hk hc) (qac ix (qaa r2 (qaa (qc1 (c,p,st,ms,()) k (fv c f k) hk f2 h) (qaa (qf5 _ _ hB.1 v1 hsh) qam)))))
        · have hin:c[k][i]∈c[f]:=by
            have:=f3 i (by omega) (by rw[gk];exact hil)
            simpa only[gk,gf] using this
          refine qax (qaK hin) ?_
          have h4k:=h.1.len4 hk
          rw[gk] at h4k
          rw[qad (by omega)]
          exact ihi (i+1) (by show i+1≤_;omega) (by show fv c f k-(i+1)<fv c f k-i;omega)
end VeT
open Go Go.Proofs Ve
namespace VeT
theorem VC.len1{c:List Sim}(h:VC c){k:Nat}(hk:k<c.length):1≤(c.getD k []).length:=(h.2.1 k hk).1
theorem qlO{c:List Sim}(h:VC c){v k:Nat}(hv:v<c.length)(h1:(c.getD v []).length=1)(hk:k<v):(c.getD k []).length=1:=by
 have hkc:k<c.length:=by omega
 have:=h.srt k v hv hk
 rw[qht] at this
 have h2:=h.len1 hkc
 rw[qaf hv] at h1
 rw[qaf hkc] at h2 ⊢
 omega
theorem qpn{c:List Sim}{st:Sim}{v:Nat}(h1:(c.getD v []).length=1):FC c st v=SDn c st 0 v:=by
 unfold FC;rw[h1];rfl
theorem qd2(x:Shf)(v:Nat)(hv:v<x.1.length)(h1:(x.1.getD v []).length=1)(h:VS x.1 x.2.1 x.2.2.1 x.2.2.2.1):Ret E n_Z170 [dS x,dI (v:Int)] ⟨o_Z170,(FC x.1 x.2.2.1 v,())⟩:=by
 have h48:=h.1.1
 have hst:=h.2.2.1.2.1
 have hl:=h.2.2.1.1
 rw[qpn h1]
 refine qal ?_
 simp only[run_Z170,Z170.ev]
 refine Ev.start (p:=fun φ n=>Z170.l0 (mkR (run E (φ 0))) (φ 0) n x (v:Int) 0 0=_) 1 ?_ (fun _ _ _ h=>h)
 refine qap 1 (L:=fun φ n k a=>Z170.l0 (mkR (run E (φ 0))) (φ 0) n x (v:Int) a k) (len:=v) (fun k=>SDn x.1 x.2.2.1 0 k) (fun _ _ _ _ _=>rfl) (fun k r hk ih=>?_) ?_
 ·have hks:k<x.2.2.1.length:=by omega
  simp only[Z170.l0_succ _ qae]
  have hb:=qiw (c:=x.1) (d:=0) hst (n:=k)
  have hb2:=hst _ (List.getElem_mem hks)
  have hl1:=qlO h.1 hv h1 hk
  rw[qfr,if_pos (by omega),qaf hks] at ih
  refine qax (decide_eq_true (by omega)) (qac (qak hks) ?_)
  rw[qad (by omega),qah (by omega) (by omega)];exact ih
 ·simp only[Z170.l0_succ _ qae]
  exact qaA (decide_eq_false (by omega)) qam
theorem qfw(x:Shf)(hc:Sm (.sl (.sl (.int .i64))) x.1)(h:VS x.1 x.2.1 x.2.2.1 x.2.2.2.1):Ret E n_Z162 [dS x] ⟨o_Z162,(SD x.1 x.2.2.1 0,())⟩:=by
 refine qal ?_
 simp only[run_Z162,Z162.ev]
 exact qaa (qfX x.1 x.2.2.1 0 hc h.2.2.1.1 h.2.2.1.2.1 (by omega)) qam
def qmR(a b:Sim)(c p:Int):Sim:=(List.range a.length).map fun i=>(a.getD i 0+c*b.getD i 0)%p
theorem qhk{a b:Sim}{c p:Int}:(qmR a b c p).length=a.length:=by simp[qmR]
theorem qoF{a b:Sim}{c p:Int}{i:Nat}(h:i<a.length):(qmR a b c p).getD i 0=(a.getD i 0+c*b.getD i 0)%p:=by
 simp[qmR,List.getD_eq_getElem?_getD,h]
theorem qmP(a b:Sim)(c p:Int)(hp:2≤p∧p≤251)(hc:0≤c∧c≤250)(hl:a.length≤b.length)(ha1:a.length≤1048576)(ea:∀ x∈a,0≤x∧x≤250)(eb:∀ x∈b,0≤x∧x≤250) :
  Ret E n_Z131 [dL a,dL b,dI c,dI p] ⟨o_Z131,(qmR a b c p,())⟩:=by
 refine qal ?_
 simp only[run_Z131,Z131.ev]
 refine Ev.start (p:=fun φ n=>Z131.l0 (mkR (run E (φ 0))) (φ 0) n a b c p 0 []=_) 1 ?_ (fun _ _ _ h=>h)
 refine qap 1 (L:=fun φ n k o=>Z131.l0 (mkR (run E (φ 0))) (φ 0) n a b c p k o) (len:=a.length) (fun k=>(List.range k).map fun i=>(a.getD i 0+c*b.getD i 0)%p) (fun _ _ _ _ _=>rfl) (fun k r hk ih=>?_) ?_
 ·simp only[Z131.l0_succ _ qae]
  have hkb:k<b.length:=by omega
  have h1:=ea _ (List.getElem_mem hk)
  have h2:=qes hc (eb _ (List.getElem_mem hkb))
  rw[List.range_succ,List.map_append,List.map_singleton,qaf hk,qaf hkb] at ih
  refine qax (decide_eq_true (by omega)) (qac (qak hk) (qac (qak hkb) (qaq (by simp;omega) ?_)))
  rw[qah (n:=c*b[k]) (by omega) (by omega),qah (by omega) (by omega),Int.tmod_eq_emod_of_nonneg (by omega),qad (by omega)]
  exact qaq (by simp;omega) ih
 ·simp only[Z131.l0_succ _ qae]
  exact qaA (decide_eq_false (by omega)) qam
def qmm(m:Mat)(a:Nat)(t:Int)(i n:Nat):St:=(List.range n).map fun j=>(a+j,m.2.2.2.1.getD (i*m.2.2.1.toNat+j) 0*t%m.1)
def qf2(m:Mat)(a n:Nat)(t:Int)(i:Nat):Sim:=qdu (qmm m a t i m.2.2.1.toNat) (List.replicate n 0)
theorem qmK{m:Mat}{a:Nat}{t:Int}{i n:Nat}{cs:Sim}:qdu (qmm m a t i (n+1)) cs=(qdu (qmm m a t i n) cs).set (a+n) (m.2.2.2.1.getD (i*m.2.2.1.toNat+n) 0*t%m.1):=by
 unfold qmm
 rw[List.range_succ,List.map_append,qbY];rfl
theorem qb1{m:Mat}{a n:Nat}{t:Int}{i:Nat}:(qf2 m a n t i).length=n:=by rw[qf2,qbo,List.length_replicate]
theorem qgG{m:Mat}{a n:Nat}{t:Int}{i j:Nat}(hj:j<m.2.2.1.toNat)(hn:a+j<n):(qf2 m a n t i).getD (a+j) 0=m.2.2.2.1.getD (i*m.2.2.1.toNat+j) 0*t%m.1:=by
 unfold qf2
 refine qme (by rw[List.length_replicate];exact hn) (fun x hx e=>?_) ⟨_,List.mem_map.2 ⟨j,List.mem_range.2 hj,rfl⟩,rfl⟩
 obtain⟨j',_,rfl⟩:=List.mem_map.1 hx
 simp only at e ⊢
 obtain rfl:j'=j:=by omega
 rfl
theorem qcv{m:Mat}{a n:Nat}{t:Int}{i g:Nat}(h:¬ (a≤g∧g<a+m.2.2.1.toNat)):(qf2 m a n t i).getD g 0=0:=by
 unfold qf2
 rw[qhF fun x hx e=>?_]
 ·rw[List.getD_eq_getElem?_getD,List.getElem?_replicate];split<;>rfl
 ·obtain⟨j',hj',rfl⟩:=List.mem_map.1 hx
  have:=List.mem_range.1 hj'
  simp only at e
  omega
theorem qis{m:Mat}{a n:Nat}{t:Int}{i:Nat}(hp:2≤m.1):qbz (qf2 m a n t i) m.1:=by
 refine qfM (qgT hp) fun q hq=>?_
 obtain⟨j,_,rfl⟩:=List.mem_map.1 hq
 have h0:=Int.emod_nonneg (m.2.2.2.1.getD (i*m.2.2.1.toNat+j) 0*t) (show m.1≠0 by omega)
 have h1:=Int.emod_lt_of_pos (m.2.2.2.1.getD (i*m.2.2.1.toNat+j) 0*t) (show 0<m.1 by omega)
 simp only;omega
theorem qeD(m:Mat)(a n:Nat)(t:Int)(hm:VM m)(ha:(a:Int)+m.2.2.1≤n)(hn:n≤1048576)(ht:0≤t∧t≤250):Ret E n_Z168 [dM m,dI (a:Int),dI (n:Int),dI t] ⟨o_Z168,((List.range m.2.1.toNat).map (qf2 m a n t),())⟩:=by
 obtain⟨R,C,em,hR,hC,hlen⟩:=hm.nat
 have hp:2≤m.1∧m.1≤251:=⟨hm.1.1,hm.1.2.1⟩
 have el:=hm.2.2.2.2
 have eR:m.2.1=(R:Int):=congrArg (fun m:Mat=>m.2.1) em
 have eC:m.2.2.1=(C:Int):=congrArg (fun m:Mat=>m.2.2.1) em
 have hRC:=qcY hR hC
 rw[eC] at ha
 rw[eR,Int.toNat_natCast]
 refine qal ?_
 simp only[run_Z168,Z168.ev]
 refine Ev.start (p:=fun φ q=>Z168.l0 (mkR (run E (φ 0))) (φ 0) q m (a:Int) (n:Int) t 0 []=_) 1 ?_ (fun _ _ _ h=>h)
 refine qap 1 (L:=fun φ q i o=>Z168.l0 (mkR (run E (φ 0))) (φ 0) q m (a:Int) (n:Int) t i o) (len:=R) (fun i=>(List.range i).map (qf2 m a n t)) (fun _ _ _ _ _=>rfl) (fun i r hi ih=>?_) ?_
 ·simp only[Z168.l0_succ _ qae,eR,Int.toNat_natCast]
  rw[List.range_succ,List.map_append,List.map_singleton] at ih
  refine qax (decide_eq_true (by omega)) (qaq (by simp only[Bool.and_eq_true,decide_eq_true_eq];omega) ?_)
  refine Ev.start (p:=fun φ q=>Z168.l1 (mkR (run E (φ 0))) (φ 0) (φ 1) q m (a:Int) (n:Int) t (i:Int) 0 ((List.range i).map (qf2 m a n t)) (List.replicate n 0)=_) 2 ?_ (fun _ _ _ h=>h)
  refine qap 2 (L:=fun φ q j o=>Z168.l1 (mkR (run E (φ 0))) (φ 0) (φ 1) q m (a:Int) (n:Int) t (i:Int) j ((List.range i).map (qf2 m a n t)) o) (len:=C) (fun j=>qdu (qmm m a t i j) (List.replicate n 0)) (fun _ _ _ _ _=>rfl) (fun j q hj ih2=>?_) ?_
  ·simp only[Z168.l1_succ _ qae]
   have hij:i*C+j<m.2.2.2.1.length:=by rw[hlen];exact qgr hi hj
   have hx:=el.get hp (i*C+j)
   rw[qmK,eC,Int.toNat_natCast,qaf hij] at ih2
   rw[qaf hij] at hx
   have hol':(qdu (qmm m a t i j) (List.replicate n 0)).length=n:=by rw[qbo,List.length_replicate]
   have ev:=qnI hx ht hp
   have e1:w64 (w64 ((i:Int)*(C:Int))+(j:Int))=((i*C+j:Nat):Int):=by
    rw[qbg,qah (n:=((i*C:Nat):Int)) (by omega) (by omega),qah (by omega) (by omega)];omega
   have e2:w64 ((a:Int)+(j:Int))=((a+j:Nat):Int):=by rw[qah (by omega) (by omega)];omega
   simp only[eC,e1,e2,hol',Int.toNat_natCast]
   refine qax (decide_eq_true (by omega)) (qac (qak hij) (qaq (by simp;omega) ?_))
   simp only[ev]
   refine qaq (by simp only[Bool.and_eq_true,decide_eq_true_eq];omega) ?_
   rw[qad (by omega)]
   exact ih2
  ·simp only[Z168.l1_succ _ qae,eC]
   refine qaA (decide_eq_false (by omega)) (qaq (by simp;omega) ?_)
   rw[qad (by omega)]
   rw[qf2,eC,Int.toNat_natCast] at ih
   exact ih
 ·simp only[Z168.l0_succ _ qae,eR]
  exact qaA (decide_eq_false (by omega)) qam
theorem qmB(a b:List Sim)(p:Int)(hp:2≤p∧p≤251)(hl:b.length=a.length)(ha:a.length≤1048576)(hr:∀ i (h:i<a.length) (h':i<b.length),a[i].length≤b[i].length∧a[i].length≤1048576∧(∀ x∈a[i],0≤x∧x≤250)∧∀ x∈b[i],0≤x∧x≤250) :
  Ret E n_Z171 [dLL a,dLL b,dI p] ⟨o_Z171,((List.range a.length).map fun i=>qmR (a.getD i []) (b.getD i []) 1 p,())⟩:=by
 refine qal ?_
 simp only[run_Z171,Z171.ev]
 refine Ev.start (p:=fun φ n=>Z171.l0 (mkR (run E (φ 0))) (φ 0) n a b p 0 []=_) 1 ?_ (fun _ _ _ h=>h)
 refine qap 1 (L:=fun φ n k o=>Z171.l0 (mkR (run E (φ 0))) (φ 0) n a b p k o) (len:=a.length) (fun k=>(List.range k).map fun i=>qmR (a.getD i []) (b.getD i []) 1 p) (fun _ _ _ _ _=>rfl) (fun k r hk ih=>?_) ?_
 ·simp only[Z171.l0_succ _ qae]
  have hkb:k<b.length:=by omega
  obtain⟨h1,h2,h3,h4⟩:=hr k hk hkb
  rw[List.range_succ,List.map_append,List.map_singleton,qaf hk,qaf hkb] at ih
  refine qax (decide_eq_true (by omega)) (qac (qak hk) (qac (qak hkb) (qaa (qmP a[k] b[k] 1 p hp (by omega) h1 h2 h3 h4) (qaq (by simp;omega) ?_))))
  rw[qad (by omega)];exact ih
 ·simp only[Z171.l0_succ _ qae]
  exact qaA (decide_eq_false (by omega)) qam
end VeT
open Go Go.Proofs Ve
namespace VeT
noncomputable def qoO(c:List Sim)(p:Int)(st:Sim)(ms:List Mat)(k:Int)(r:Nat):Sim:=(List.range (SD c st k).toNat).map fun g=>(qjT c p st ms k).getD (r*(SD c st k).toNat+g) 0
theorem qhb{c:List Sim}{p:Int}{st:Sim}{ms:List Mat}{k:Int}{r:Nat}:(qoO c p st ms k r).length=(SD c st k).toNat:=by simp[qoO]
theorem qov{c:List Sim}{p:Int}{st:Sim}{ms:List Mat}{k:Int}{r g:Nat}(h:g<(SD c st k).toNat):(qoO c p st ms k r).getD g 0=(qjT c p st ms k).getD (r*(SD c st k).toNat+g) 0:=by
 simp[qoO,List.getD_eq_getElem?_getD,h]
theorem ql6{a b:Sim}(hl:a.length=b.length)(h:∀ i,i<a.length→a.getD i 0=b.getD i 0):a=b:=by
 refine List.ext_getElem hl fun i h1 h2=>?_
 have:=h i h1
 rwa [qaf h1,qaf h2] at this
theorem qj8{c:List Sim}{s:Nat}(h2:(c.getD s []).length=2):(qaU c s).length=2:=by
 rw[qaV,if_pos (by omega)];exact h2
theorem qoB{c:List Sim}{p:Int}{st:Sim}{ms:List Mat}(h:VS c p st ms){s i:Nat}(hs:s<c.length)(h2:(c.getD s []).length=2)(hi:i<(st.getD s 0).toNat) :
  qmR (qf2 (mp c ms s 0) (FC c st (fc c s 0)).toNat (SD c st 0).toNat 1 i) (qf2 (mp c ms s 1) (FC c st (fc c s 1)).toNat (SD c st 0).toNat (p-1) i) 1 p=qoO c p st ms 0 ((FC c st s).toNat+i):=by
 have hst:=h.2.2.1.2.1
 have hp:2≤p∧p≤251:=⟨h.2.1.1,h.2.1.2.1⟩
 have hfl:=qj8 h2
 have hd:((c.getD s []).length:Int)=0+2:=by omega
 obtain⟨a1,a2,a3,a4,a5,a6,a7⟩:=qdZ h hs hd (a:=0) (by omega)
 obtain⟨b1,b2,b3,b4,b5,b6,b7⟩:=qdZ h hs hd (a:=1) (by omega)
 obtain⟨_,A⟩:=h.map hs (i:=0) (by omega)
 obtain⟨_,B⟩:=h.map hs (i:=1) (by omega)
 have hne:fc c s 0≠fc c s 1:=fun e=>by have:=qo9 h.1 hs (a:=0) (b:=1) (by omega) (by omega) e;omega
 have na:=qgl hst (fc c s 0)
 have nb:=qgl hst (fc c s 1)
 refine ql6 (by rw[qhk,qb1,qhb]) fun g hg=>?_
 rw[qhk,qb1] at hg
 rw[qoF (by rw[qb1];exact hg),qov hg]
 have one:∀ x:Int,(x%p+1*0)%p=x%p:=fun x=>by rw[Int.mul_zero,Int.add_zero,Int.emod_emod_of_dvd _ (Int.dvd_refl p)]
 have two:∀ x:Int,(0+1*(x%p))%p=x%p:=fun x=>by rw[Int.one_mul,Int.zero_add,Int.emod_emod_of_dvd _ (Int.dvd_refl p)]
 have A1:(mp c ms s 0).1=p:=A.2.1
 have B1:(mp c ms s 1).1=p:=B.2.1
 by_cases hA:(FC c st (fc c s 0)).toNat≤g∧g<(FC c st (fc c s 0)).toNat+(st.getD (fc c s 0) 0).toNat
 ·obtain⟨j,rfl⟩:∃ j,g=(FC c st (fc c s 0)).toNat+j:=⟨g-(FC c st (fc c s 0)).toNat,by omega⟩
  have hj:j<(st.getD (fc c s 0) 0).toNat:=by omega
  rw[qgG (by rw[a2];exact hj) hg,qcv (m:=mp c ms s 1),A1,one]
  ·rw[qnU h (by omega) hs hd (a:=0) (by omega) hi hj];rfl
  ·rw[b2]
   intro hh
   obtain⟨q,hq⟩:∃ q,(FC c st (fc c s 0)).toNat+j=(FC c st (fc c s 1)).toNat+q:=⟨(FC c st (fc c s 0)).toNat+j-(FC c st (fc c s 1)).toNat,by omega⟩
   exact hne (qjC hst (by omega) hj (i':=q) (by omega) hq).1
 ·by_cases hB:(FC c st (fc c s 1)).toNat≤g∧g<(FC c st (fc c s 1)).toNat+(st.getD (fc c s 1) 0).toNat
  ·obtain⟨j,rfl⟩:∃ j,g=(FC c st (fc c s 1)).toNat+j:=⟨g-(FC c st (fc c s 1)).toNat,by omega⟩
   have hj:j<(st.getD (fc c s 1) 0).toNat:=by omega
   rw[qcv (m:=mp c ms s 0) (by rw[a2];exact hA),qgG (by rw[b2];exact hj) hg,B1,two]
   rw[qnU h (by omega) hs hd (a:=1) (by omega) hi hj];rfl
  ·rw[qcv (m:=mp c ms s 0) (by rw[a2];exact hA),qcv (m:=mp c ms s 1) (by rw[b2];exact hB)]
   rw[qoS h hs hd hi hg fun a ha=>?_]
   ·simp
   ·have:a=0∨a=1:=by omega
    rcases this with rfl | rfl
    ·exact hA
    ·exact hB
noncomputable def qeg(c:List Sim)(p:Int)(st:Sim)(ms:List Mat)(n:Nat):List Sim:=(List.range n).map (qoO c p st ms 0)
theorem qny{c:List Sim}{p:Int}{st:Sim}{ms:List Mat}{a b:Nat}:qeg c p st ms (a+b)=qeg c p st ms a++(List.range b).map fun i=>qoO c p st ms 0 (a+i):=by
 induction b with
 | zero=>simp
 | succ b ih =>
  unfold qeg at ih ⊢
  rw[← Nat.add_assoc,List.range_succ,List.map_append,ih,List.range_succ,List.map_append,List.append_assoc];rfl
theorem qf4{c:List Sim}{p:Int}{st:Sim}{ms:List Mat}{n:Nat}:(qeg c p st ms n).length=n:=by simp[qeg]
theorem qpy{c:List Sim}{st:Sim}{d:Int}{t s:Nat}(ht:t<(qau c d c.length).length)(hs:(qau c d c.length)[t]=(s:Int))(hd:((c.getD s []).length:Int)=d+1)(hsl:s<c.length):qfv c st d t=FC c st s:=by
 obtain⟨tl,e⟩:=qkT (c:=c) (d:=d) hsl hd
 have hu:t=(qau c d s).length:=by
  rcases Nat.lt_trichotomy t (qau c d s).length with h | h | h
  ·have h1:(qau c d c.length)[t]? = (qau c d s)[t]?:=by rw[e,List.getElem?_append_left h]
   rw[List.getElem?_eq_getElem ht,List.getElem?_eq_getElem h,hs] at h1
   obtain⟨i,hi,his⟩:=qdV (List.getElem_mem h)
   have:=Option.some.inj h1
   omega
  ·exact h
  ·-- behind s only greater ones
   exfalso
   have hmono:∀ n m i j,i<(qau c d n).length→j<(qau c d n).length→i<j→m=n→(qau c d n).getD i 0<(qau c d n).getD j 0:=by
    intro n
    induction n with
    | zero=>intro m i j hi;simp[qau] at hi
    | succ n ih =>
     intro m i j hi hj hij hm
     rw[qbG] at hi hj ⊢
     by_cases hl:((c.getD n []).length:Int)=d+1
     ·rw[if_pos hl] at hi hj ⊢
      rw[List.length_append,List.length_singleton] at hi hj
      by_cases hjn:j<(qau c d n).length
      ·have:=ih n i j (by omega) hjn hij rfl
       rw[List.getD_eq_getElem?_getD,List.getD_eq_getElem?_getD,List.getElem?_append_left (by omega),List.getElem?_append_left hjn]
       rw[List.getD_eq_getElem?_getD,List.getD_eq_getElem?_getD] at this
       exact this
      ·have hin:i<(qau c d n).length:=by omega
       obtain⟨q,hq,hqn⟩:=qdV (List.getElem_mem hin)
       rw[List.getD_eq_getElem?_getD,List.getD_eq_getElem?_getD,List.getElem?_append_left hin,List.getElem?_append_right (by omega),List.getElem?_eq_getElem hin,hq,show j-(qau c d n).length=0 by omega]
       simp;omega
     ·rw[if_neg hl,List.append_nil] at hi hj ⊢
      exact ih n i j hi hj hij rfl
   have hlt:(qau c d s).length<(qau c d c.length).length:=by rw[e];simp
   have:=hmono c.length c.length _ t hlt ht h rfl
   rw[qaf ht,hs,List.getD_eq_getElem?_getD,e,List.getElem?_append_right (Nat.le_refl _),Nat.sub_self] at this
   simp at this
 have hdd:((c.getD s []).length:Int)-1=d:=by omega
 unfold FC
 rw[hdd]
 unfold qfv SDn
 rw[hu,e,List.take_left' rfl]
theorem qfP(x:Shf)(hc:Sm (.sl (.sl (.int .i64))) x.1)(h:VS x.1 x.2.1 x.2.2.1 x.2.2.2.1):Ret E n_Z163 [dS x] ⟨o_Z163,(qeg x.1 x.2.1 x.2.2.1 x.2.2.2.1 (SD x.1 x.2.2.1 1).toNat,())⟩:=by
 obtain⟨c,p,st,ms,⟨⟩⟩:=x
 have hc:Sm (.sl (.sl (.int .i64))) c:=hc
 have h:VS c p st ms:=h
 show Ret E n_Z163 [dS (c,p,st,ms,())] ⟨o_Z163,(qeg c p st ms (SD c st 1).toNat,())⟩
 obtain⟨W,eW,bW,tW⟩:=qcs h 0
 obtain⟨H,eH,bH,tH⟩:=qcs h 1
 have hst:=h.2.2.1.2.1
 have h48:=h.1.1
 have hp:2≤p∧p≤251:=⟨h.2.1.1,h.2.1.2.1⟩
 have hol:=qbp c 1 c.length
 have ep:w64 (p-1)=p-1:=qah (by omega) (by omega)
 have all:=qfw (c,p,st,ms,()) hc h
 rw[show SD (c,p,st,ms,()).1 (c,p,st,ms,()).2.2.1 0=(W:Int) from eW] at all
 refine qal ?_
 simp only[run_Z163,Z163.ev]
 refine qaa all (qaa (qhN c 1 hc (by omega)) ?_)
 refine Ev.start (p:=fun φ n=>Z163.l0 (mkR (run E (φ 0))) (φ 0) n (c,p,st,ms,()) (W:Int) (qau c 1 c.length) 0 []=_) 1 ?_ (fun _ _ _ h=>h)
 have:=qap 1 (L:=fun φ n t o=>Z163.l0 (mkR (run E (φ 0))) (φ 0) n (c,p,st,ms,()) (W:Int) (qau c 1 c.length) t o) (len:=(qau c 1 c.length).length) (fun t=>qeg c p st ms (qfv c st 1 t).toNat) (r:=some ⟨o_Z163,(qeg c p st ms (SD c st 1).toNat,())⟩) (fun _ _ _ _ _=>rfl) (fun t q ht ih=>?_) ?_
 ·exact this
 ·simp only[Z163.l0_succ _ qae]
  obtain⟨s,hse,hs,hd⟩:=qdI.1 (List.getElem_mem ht)
  have hg:(qau c 1 c.length)[t]? = some (s:Int):=by rw[List.getElem?_eq_getElem ht,hse]
  have h2:(c.getD s []).length=2:=by omega
  have hfl:=qj8 h2
  have hd0:((c.getD s []).length:Int)=0+2:=by omega
  obtain⟨a1,a2,a3,a4,a5,a6,a7⟩:=qdZ h hs hd0 (a:=0) (by omega)
  obtain⟨b1,b2,b3,b4,b5,b6,b7⟩:=qdZ h hs hd0 (a:=1) (by omega)
  obtain⟨_,A⟩:=h.map hs (i:=0) (by omega)
  obtain⟨_,B⟩:=h.map hs (i:=1) (by omega)
  obtain⟨ix0,_,_⟩:=qcJ h.1 hs (i:=0) (by omega)
  obtain⟨ix1,_,_⟩:=qcJ h.1 hs (i:=1) (by omega)
  have na:=qgl hst (fc c s 0)
  have nb:=qgl hst (fc c s 1)
  have ns:=qgl hst s
  have f0:=qd2 (c,p,st,ms,()) (fc c s 0) a3 (by show(c.getD (fc c s 0) []).length=1;omega) h
  have f1:=qd2 (c,p,st,ms,()) (fc c s 1) b3 (by show(c.getD (fc c s 1) []).length=1;omega) h
  obtain⟨T0,e0⟩:=Int.eq_ofNat_of_zero_le a6
  obtain⟨T1,e1⟩:=Int.eq_ofNat_of_zero_le b6
  rw[show FC (c,p,st,ms,()).1 (c,p,st,ms,()).2.2.1 (fc c s 0)=(T0:Int) from e0] at f0
  rw[show FC (c,p,st,ms,()).1 (c,p,st,ms,()).2.2.1 (fc c s 1)=(T1:Int) from e1] at f1
  have r0:=qeD (mp c ms s 0) T0 W 1 A.1 (by omega) (by omega) (by omega)
  have r1:=qeD (mp c ms s 1) T1 W (p-1) B.1 (by omega) (by omega) (by omega)
  have A1:(mp c ms s 0).1=p:=A.2.1
  have B1:(mp c ms s 1).1=p:=B.2.1
  have hR0:(mp c ms s 0).2.1.toNat=(st.getD s 0).toNat:=by rw[a1]
  have hR1:(mp c ms s 1).2.1.toNat=(st.getD s 0).toNat:=by rw[b1]
  rw[hR0] at r0
  rw[hR1] at r1
  have hin:∀ m:Mat,m.1=p→∀ a t i,∀ x∈qf2 m a W t i,0≤x∧x≤250:=fun m hm a t i x hx=>by
   have:=qis (m:=m) (a:=a) (n:=W) (t:=t) (i:=i) (by omega)
   rw[hm] at this
   exact this.mem hp x hx
  have sm:=qmB ((List.range (st.getD s 0).toNat).map (qf2 (mp c ms s 0) T0 W 1)) ((List.range (st.getD s 0).toNat).map (qf2 (mp c ms s 1) T1 W (p-1))) p hp (by simp) (by rw[List.length_map,List.length_range];omega) (fun i hi hi'=>by
   simp only[List.getElem_map,List.getElem_range,qb1]
   exact⟨Nat.le_refl _,by omega,hin _ A1 _ _ _,hin _ B1 _ _ _⟩)
  rw[List.length_map,List.length_range] at sm
  have hbk:=qhO hst 1 t (c:=c)
  have hFC:=qpy ht hse hd hs (st:=st)
  have hrow:((List.range (st.getD s 0).toNat).map fun i=>qmR (((List.range (st.getD s 0).toNat).map (qf2 (mp c ms s 0) T0 W 1)).getD i []) (((List.range (st.getD s 0).toNat).map (qf2 (mp c ms s 1) T1 W (p-1))).getD i []) 1 p)=(List.range (st.getD s 0).toNat).map fun i=>qoO c p st ms 0 ((qfv c st 1 t).toNat+i):=List.map_congr_left fun i hi=>by
   have hi:=List.mem_range.1 hi
   have hE:=qoB h hs h2 hi
   rw[e0,e1,Int.toNat_natCast,Int.toNat_natCast,tW] at hE
   rw[hFC,← hE]
   generalize (st.getD s 0).toNat=n at hi ⊢
   simp[List.getD_eq_getElem?_getD,hi]
  rw[hrow] at sm
  rw[qdS _ _ _ _ ht,hse,Int.toNat_natCast,show(qfv c st 1 t+st.getD s 0).toNat=(qfv c st 1 t).toNat+(st.getD s 0).toNat by omega,qny] at ih
  refine qax (decide_eq_true (by omega)) (qac (qbn.trans hg) (qaa (qcM c s hs hc) (qac (qbn.trans hg) (qac ix0 (qaa (qc1 (c,p,st,ms,()) s 0 hs (by show 0<(qaU c s).length;omega) h) (qaa f0 (qaa r0 (qac (qbn.trans hg) (qac ix1 (qaa (qc1 (c,p,st,ms,()) s 1 hs (by show 1<(qaU c s).length;omega) h) (qaa f1 ?_)))))))))))
  simp only[ep]
  refine qaa r1 (qaa sm (qaq (by simp only[qf4,List.length_map,List.length_range,decide_eq_true_eq];omega) ?_))
  rw[qad (by omega)]
  exact ih
 ·simp only[Z163.l0_succ _ qae]
  exact qaA (decide_eq_false (by omega)) qam
end VeT
open Go Go.Proofs Ve
namespace VeT
noncomputable def fvx(c:List Sim)(s:Nat):Nat:=(qcT c ((c.getD s []).take 1)).toNat
theorem qlR{c:List Sim}(h:VC c){s:Nat}(hs:s<c.length):∀ d n,n+d=(c.getD s []).length→1≤n→(c.getD s []).take n∈c
 | 0,n,e,_=>by
  rw[List.take_of_length_le (by omega),qaf hs];exact List.getElem_mem hs
 | d+1,n,e,h1=>by
  have hm:=qlR h hs d (n+1) (by omega) (by omega)
  obtain⟨k,hk,ek⟩:=List.mem_iff_getElem.1 hm
  have hf:=h.2.2.2 k hk ((c.getD s []).take n) (qc2.2 ⟨?_,n,?_,?_⟩)
  ·exact hf
  ·rw[qaf hk,ek,List.length_take];omega
  ·rw[qaf hk,ek,List.length_take];omega
  ·rw[qaf hk,ek]
   apply List.ext_getElem?
   intro j
   rw[List.getElem?_eraseIdx,List.getElem?_take,List.getElem?_take,List.getElem?_take]
   by_cases hj:j<n
   ·rw[if_pos hj,if_pos hj,if_pos (by omega)]
   ·rw[if_neg hj,if_neg hj,if_neg (by omega)]
theorem qjD{c:List Sim}(h:VC c){s:Nat}(hs:s<c.length):qcT c ((c.getD s []).take 1)=((fvx c s:Nat):Int)∧fvx c s<c.length∧c.getD (fvx c s) []=(c.getD s []).take 1∧(c.getD (fvx c s) []).length=1∧qnV (c.getD (fvx c s) []) (c.getD s []):=by
 have h1:=h.len1 hs
 have hm:=qlR h hs ((c.getD s []).length-1) 1 (by omega) (by omega)
 have h0:=qbF.2 hm
 have hlt:=qlP (c:=c) (s:=(c.getD s []).take 1)
 have hg:=qkJ hm
 refine⟨by unfold fvx;omega,by unfold fvx;omega,hg,?_,fun y hy=>?_⟩
 ·show(c.getD (qcT c ((c.getD s []).take 1)).toNat []).length=1
  rw[hg,List.length_take];omega
 ·have hy:y∈c.getD (qcT c ((c.getD s []).take 1)).toNat []:=hy
  rw[hg] at hy
  exact List.mem_of_mem_take hy
theorem qhc(x:Shf)(s:Nat)(hs:s<x.1.length)(hc:Sm (.sl (.sl (.int .i64))) x.1)(h:VC x.1):Ret E n_Z43 [dLL x.1,dI x.2.1,dL x.2.2.1,dMs x.2.2.2.1,dI (s:Int)] ⟨o_Z43,((fvx x.1 s:Nat),())⟩:=by
 have h1:=h.len1 hs
 have hg:=(qjD h hs).1
 rw[qaf hs] at h1 hg
 refine qal ?_
 simp only[run_Z43,Z43.ev]
 refine qac (qak hs) (qaq (by simp only[Bool.and_eq_true,decide_eq_true_eq];omega) (qaa (qeN x.1 _ hc h.srt) (qan ?_)))
 rw[← hg];rfl
theorem qkd(x:Shf)(s:Nat)(hs:s<x.1.length)(hc:Sm (.sl (.sl (.int .i64))) x.1)(h:VC x.1):Ret E n_Z164 [dS x,dI (s:Int)] ⟨o_Z164,((fvx x.1 s:Nat),())⟩:=by
 have h1:=h.len1 hs
 have hg:=(qjD h hs).1
 rw[qaf hs] at h1 hg
 refine qal ?_
 simp only[run_Z164,Z164.ev]
 refine qac (qak hs) (qaq (by simp only[Bool.and_eq_true,decide_eq_true_eq];omega) (qaa (qdh (x.1,()) _ hc) (qan ?_)))
 rw[← hg];rfl
theorem qib{c:List Sim}{p:Int}{st:Sim}{ms:List Mat}{f:Nat}(hst:∀ x∈st,0≤x∧x≤3):∀ {d k:Nat},(qc4 c p st ms f d k).2.2.1=st.getD f 0
 | 0,k=>by
  have:=qgl hst f
  show(((st.getD f 0).toNat:Nat):Int)=_;omega
 | d+1,k=>by
  have:=qgl hst f
  rw[qc4];split
  ·show(((st.getD f 0).toNat:Nat):Int)=_;omega
  ·exact qib hst (d:=d)
noncomputable def qcU(x:Shf)(f k:Nat):Mat:=qc4 x.1 x.2.1 x.2.2.1 x.2.2.2.1 f (x.1.getD k []).length k
end VeT
open Go Go.Proofs Ve
namespace VeT
def qmH(c:List Sim)(w:Sim):Prop:=qgn w∧∀ y∈w,0≤y∧y≤(c.length:Int)-1
theorem qmH.get{c:List Sim}{w:Sim}(h:qmH c w){i:Nat}(hi:i<w.length):∃ n:Nat,w[i]=(n:Int)∧n<c.length:=by
 have:=h.2 _ (List.getElem_mem hi)
 exact⟨(w[i]).toNat,by omega,by omega⟩
end VeT
open Go Go.Proofs Ve
namespace VeT
theorem qfO{P:Nat→Prop}:∀ {d a k:Nat},qaP P a d=some k→∀ i,a≤i→i<k→¬ P i
 | 0,a,k,h=>by simp[qaP] at h
 | d+1,a,k,h=>fun i h1 h2=>by
  rw[qaP] at h
  split at h
  ·obtain rfl:=Option.some.inj h;omega
  ·rename_i hp
   by_cases e:i=a
   ·subst e;exact hp
   ·exact qfO h i (by omega) h2
theorem qor{s:Sim}(h:s.Pairwise (·<·)):qgn s:=fun j h1 h2=>by
 rw[qaf (show j-1<s.length by omega),qaf h2]
 exact List.pairwise_iff_getElem.1 h (j-1) j (by omega) h2 (by omega)
theorem qmH.le48{c:List Sim}{w:Sim}(h:qmH c w):w.length≤c.length:=by
  by_cases h0:w.length=0
  · omega
  · have hge:∀ j,∀ hj:j<w.length,(j:Int)≤w[j]:=by
      intro j
      induction j with
      | zero=>intro hj;exact(h.2 _ (List.getElem_mem hj)).1
      | succ j ih =>
        intro hj
        have h1:=ih (by omega)
        have h2:=h.1.lt hj (Nat.lt_succ_self j)
        omega
    have h1:=hge (w.length-1) (by omega)
    have h2:=(h.2 _ (List.getElem_mem (show w.length-1<w.length by omega))).2
    omega
end VeT
open Go Go.Proofs Ve
namespace VeT
def qp0(a p:Int):Int:=Int.tmod (w64 (Int.tmod a p+p)) p
theorem qli{a p:Int}(hp:2≤p∧p≤251)(ha:-1048576≤a∧a≤1048576):qp0 a p=a%p:=by
 have h1:-p<Int.tmod a p∧Int.tmod a p<p:=by
  constructor
  ·by_cases h:a<0
   ·have:=Int.tmod_lt_of_pos (-a) (show 0<p by omega)
    rw[Int.neg_tmod] at this;omega
   ·have:=Int.tmod_nonneg p (show 0≤a by omega);omega
  ·exact Int.tmod_lt_of_pos a (by omega)
 have h2:Int.tmod a p%p=a%p:=by
  have:=Int.tmod_add_mul_tdiv a p
  have e:a=Int.tmod a p+p*Int.tdiv a p:=this.symm
  conv=>rhs;rw[e]
  rw[Int.add_mul_emod_self_left]
 unfold qp0
 rw[qah (by omega) (by omega),Int.tmod_eq_emod_of_nonneg (by omega),Int.add_emod_right,h2]
theorem qir(a p:Int)(hp:2≤p):Ret E n_Z59 [dI a,dI p] ⟨o_Z59,(qp0 a p,())⟩:=by
 refine qal ?_
 simp only[run_Z59,Z59.ev]
 exact qaq (by simp;omega) (qaq (by simp;omega) qam)
theorem qiC(a p:Int)(hp:2≤p):Ret E n_Z136 [dI a,dI p] ⟨o_Z136,(qp0 a p,())⟩:=by
 refine qal ?_
 simp only[run_Z136,Z136.ev]
 exact qaq (by simp;omega) (qaq (by simp;omega) qam)
theorem qfY(a b:Sim)(c p:Int)(hp:2≤p∧p≤251)(hc:0≤c∧c≤250)(hl:a.length≤b.length)(ha1:a.length≤1048576)(ea:∀ x∈a,0≤x∧x≤250)(eb:∀ x∈b,0≤x∧x≤250) :
  Ret E n_Z17 [dL a,dL b,dI c,dI p] ⟨o_Z17,(qmR a b c p,())⟩:=by
 refine qal ?_
 simp only[run_Z17,Z17.ev]
 refine Ev.start (p:=fun φ n=>Z17.l0 (mkR (run E (φ 0))) (φ 0) n a b c p (a.length:Int) 0 []=_) 1 ?_ (fun _ _ _ h=>h)
 refine qap 1 (L:=fun φ n k o=>Z17.l0 (mkR (run E (φ 0))) (φ 0) n a b c p (a.length:Int) k o) (len:=a.length) (fun k=>(List.range k).map fun i=>(a.getD i 0+c*b.getD i 0)%p) (fun _ _ _ _ _=>rfl) (fun k r hk ih=>?_) ?_
 ·simp only[Z17.l0_succ _ qae]
  have hkb:k<b.length:=by omega
  have h1:=ea _ (List.getElem_mem hk)
  have h2:=qes hc (eb _ (List.getElem_mem hkb))
  rw[List.range_succ,List.map_append,List.map_singleton,qaf hk,qaf hkb] at ih
  refine qax (decide_eq_true (by omega)) (qac (qak hk) (qac (qak hkb) (qaq (by simp;omega) ?_)))
  rw[qah (n:=c*b[k]) (by omega) (by omega),qah (by omega) (by omega),Int.tmod_eq_emod_of_nonneg (by omega),qad (by omega)]
  exact qaq (by simp;omega) ih
 ·simp only[Z17.l0_succ _ qae]
  exact qaA (decide_eq_false (by omega)) qam
theorem qnf{a:Int}:∀ k:Nat,(a*a) ^ k=a ^ (k+k)
 | 0=>by rw[Int.pow_zero,Nat.add_zero,Int.pow_zero]
 | k+1=>by rw[Int.pow_succ,qnf k,show k+1+(k+1)=k+k+1+1 by omega,Int.pow_succ,Int.pow_succ,Int.mul_assoc]
theorem qk7(a:Int)(n:Nat)(p:Int)(hp:2≤p∧p≤251)(ha:0≤a∧a≤p-1)(hn:n≤1048576):Ret E n_Z56 [dI a,dI (n:Int),dI p] ⟨o_Z56,(a ^ n%p,())⟩:=by
  refine qal ?_
  simp only[run_Z56,Z56.ev]
  refine Ev.start (p:=fun φ m=>Z56.l0 (mkR (run E (φ 0))) (φ 0) m a (n:Int) p 1=_) 1 ?_ (fun _ _ _ h=>h)
  refine qef 1 (σ:=Int×Nat×Int) (L:=fun φ m s=>Z56.l0 (mkR (run E (φ 0))) (φ 0) m s.1 (s.2.1:Int) p s.2.2) (fun _ _ _ _=>rfl) (fun s=>(0≤s.1∧s.1≤p-1)∧s.2.1≤1048576∧(0≤s.2.2∧s.2.2≤p-1)∧s.2.2*s.1 ^ s.2.1%p=a ^ n%p) (fun _=>_) (fun s=>s.2.1) (fun s hi ih=>?_) (a,n,1) ⟨ha,hn,by show 0≤(1:Int)∧(1:Int)≤p-1;omega,by show 1*a ^ n%p=_;rw[Int.one_mul]⟩
  obtain⟨b,m,q⟩:=s
  obtain⟨h1,h2,h3,h4⟩:=hi
  simp only at h1 h2 h3 h4 ih
  simp only[Z56.l0_succ _ qae]
  have hbb:=qes (x:=b) (y:=b) (by omega) (by omega)
  have hqb:=qes (x:=q) (y:=b) (by omega) (by omega)
  have e1:w64 (b*b)=b*b:=qah (by omega) (by omega)
  have e2:w64 (q*b)=q*b:=qah (by omega) (by omega)
  have e3:Int.tdiv (m:Int) 2=((m / 2:Nat):Int):=rfl
  have e4:w64 ((m / 2:Nat):Int)=((m / 2:Nat):Int):=qah (by omega) (by omega)
  have e5:Int.tmod (m:Int) 2=((m%2:Nat):Int):=rfl
  refine qdH (fun hm=>?_) fun hm=>qan ?_
  · rw[e5,e1,e2,e3,e4,Int.tmod_eq_emod_of_nonneg (by omega),Int.tmod_eq_emod_of_nonneg (by omega)]
    have hd:m / 2<m:=by omega
    refine qb5 (fun ho=>qaq (by simp;omega) (qaq (by simp;omega) ?_)) fun he=>qaq (by simp;omega) ?_
    · have ho : m % 2 = 1 := by have : ((m % 2 : Nat) : Int) = 1 := by simpa using ho
                                omega
      refine ih (b*b%p,m / 2,q*b%p) ⟨qdg (by omega),by show m / 2≤_;omega,qdg (by omega),?_⟩ hd
      rw[← h4]
      show q*b%p*(b*b%p) ^ (m / 2)%p=_
      have hx:(q*b%p)%p=(q*b)%p:=Int.emod_emod_of_dvd _ (Int.dvd_refl p)
      have hy:(b*b%p) ^ (m / 2)%p=(b*b) ^ (m / 2)%p:=qhq (Int.emod_emod_of_dvd _ (Int.dvd_refl p)) _
      rw[qcu hx hy,qnf]
      have hm2:m=m / 2+m / 2+1:=by omega
      conv=>rhs;rw[hm2,Int.pow_succ]
      rw[Int.mul_assoc,Int.mul_comm b]
    · have he:m%2=0:=by
        have:¬ ((m%2:Nat):Int)=1:=by simpa using he
        omega
      refine ih (b*b%p,m / 2,q) ⟨qdg (by omega),by show m / 2≤_;omega,h3,?_⟩ hd
      rw[← h4]
      show q*(b*b%p) ^ (m / 2)%p=_
      have hy:(b*b%p) ^ (m / 2)%p=(b*b) ^ (m / 2)%p:=qhq (Int.emod_emod_of_dvd _ (Int.dvd_refl p)) _
      rw[qcu rfl hy,qnf]
      have hm2:m=m / 2+m / 2:=by omega
      conv=>rhs;rw[hm2]
  · have hm:m=0:=by omega
    subst hm
    have:q=a ^ n%p:=by rw[← h4,Int.pow_zero,Int.mul_one,Int.emod_eq_of_lt (by omega) (by omega)]
    rw[this]
theorem qiV(a p:Int)(hp:2≤p∧p≤251)(ha:0≤a∧a≤p-1):Ret E n_Z46 [dI a,dI p] ⟨o_Z46,(qgv a p,())⟩:=by
 have e:w64 (p-2)=(((p-2).toNat:Nat):Int):=by rw[qah (by omega) (by omega)];omega
 refine qal ?_
 simp only[run_Z46,Z46.ev,e]
 exact qaa (qk7 a (p-2).toNat p hp ha (by omega)) qam
theorem qhZ(a p:Int)(hp:2≤p∧p≤251)(ha:0≤a∧a≤p-1):Ret E n_Z134 [dI a,dI p] ⟨o_Z134,(qgv a p,())⟩:=by
 have e:w64 (p-2)=(((p-2).toNat:Nat):Int):=by rw[qah (by omega) (by omega)];omega
 refine qal ?_
 simp only[run_Z134,Z134.ev,e]
 refine Ev.start (p:=fun φ m=>Z134.l0 (mkR (run E (φ 0))) (φ 0) m a p 1 (((p-2).toNat:Nat):Int)=_) 1 ?_ (fun _ _ _ h=>h)
 refine qef 1 (σ:=Nat×Int) (L:=fun φ m s=>Z134.l0 (mkR (run E (φ 0))) (φ 0) m a p s.2 (s.1:Int)) (fun _ _ _ _=>rfl) (fun s=>s.1≤1048576∧(0≤s.2∧s.2≤p-1)∧s.2*a ^ s.1%p=a ^ (p-2).toNat%p) (fun _=>_) (fun s=>s.1) (fun s hi ih=>?_) ((p-2).toNat,1) ⟨by show(p-2).toNat≤_;omega,by show 0≤(1:Int)∧(1:Int)≤p-1;omega,by show 1*_%p=_;rw[Int.one_mul]⟩
 obtain⟨m,q⟩:=s
 obtain⟨h2,h3,h4⟩:=hi
 simp only at h2 h3 h4 ih
 simp only[Z134.l0_succ _ qae]
 have hqa:=qes (x:=q) (y:=a) (by omega) (by omega)
 refine qdH (fun hm=>qaq (by simp;omega) ?_) fun hm=>qan ?_
 ·rw[qah (n:=q*a) (by omega) (by omega),Int.tmod_eq_emod_of_nonneg (by omega),qah (by omega) (by omega),show(m:Int)-1=((m-1:Nat):Int) by omega]
  refine ih (m-1,q*a%p) ⟨by show m-1≤_;omega,qdg (by omega),?_⟩ (by show m-1<m;omega)
  rw[← h4]
  show q*a%p*a ^ (m-1)%p=_
  have hx:(q*a%p)%p=(q*a)%p:=Int.emod_emod_of_dvd _ (Int.dvd_refl p)
  rw[qcu hx rfl]
  conv=>rhs;rw[show m=m-1+1 by omega,Int.pow_succ]
  rw[Int.mul_assoc,Int.mul_comm a]
 ·have hm:m=0:=by omega
  subst hm
  have:q=qgv a p:=by unfold qgv;rw[← h4,Int.pow_zero,Int.mul_one,Int.emod_eq_of_lt (by omega) (by omega)]
  rw[this]
theorem qlL{f g:Nat→Int}{W:Nat}{c p:Int}:qmR ((List.range W).map f) ((List.range W).map g) c p=(List.range W).map fun j=>(f j+c*g j)%p:=by
 unfold qmR
 rw[List.length_map,List.length_range]
 refine List.map_congr_left fun j hj=>?_
 have hj:=List.mem_range.1 hj
 simp[List.getD_eq_getElem?_getD,hj]
theorem qj0{W:Nat}:List.replicate W (0:Int)=(List.range W).map fun _=>0:=by
 rw[List.map_const',List.length_range]
theorem qm1{f:Nat→Int}{W:Nat}{p:Int}(hp:p≤251)(h:∀ j,j<W→0≤f j∧f j≤p-1):∀ x∈(List.range W).map f,0≤x∧x≤250:=fun x hx=>by
 obtain⟨j,hj,rfl⟩:=List.mem_map.1 hx
 have:=h j (List.mem_range.1 hj)
 omega
def pvL(l:List Nat):Sim:=l.map fun(n:Nat)=>(n:Int)
theorem qa0{l:List Nat}:(pvL l).length=l.length:=by simp[pvL]
theorem qmY{l:List Nat}{c:Nat}:pvL (l++[c])=pvL l++[(c:Int)]:=by simp[pvL]
theorem qmx{A:Ent}{R W c top:Nat}(hc:c<W)(ht:top≤R):qjd (fun row:Sim=>row.getD c 0 != 0) ((qaB A R W).drop top)=o2i ((qaP (fun i=>A i c≠0) top (R-top)).map fun q=>q-top):=by
 have hlen:((qaB A R W).drop top).length=R-top:=by rw[List.length_drop,qaD]
 have hget:∀ k (h:k<((qaB A R W).drop top).length),(((qaB A R W).drop top)[k].getD c 0 != 0)=true↔A (top+k) c≠0:=fun k h=>by
  rw[hlen] at h
  have h1:=qbr (A:=A) (W:=W) (show top+k<R by omega)
  have h2:((qaB A R W).drop top)[k]? = some ((List.range W).map (A (top+k))):=by rw[List.getElem?_drop];exact h1
  rw[List.getElem?_eq_getElem (by rw[hlen];exact h)] at h2
  rw[Option.some.inj h2,List.getD_eq_getElem?_getD,qfG hc]
  simp
 symm
 refine qdo (fun k hk=>?_) fun hno j hj ⟨hj',hP⟩=>?_
 ·cases hf:qaP (fun i=>A i c≠0) top (R-top) with
  | none=>rw[hf] at hk;cases hk
  | some q =>
   rw[hf] at hk
   have hk:q-top=k:=Option.some.inj hk
   have h1:=qaN hf
   have hkl:k<((qaB A R W).drop top).length:=by rw[hlen];omega
   refine⟨hkl,⟨hkl,(hget k hkl).2 (by rw[show top+k=q by omega];exact h1.2.2)⟩,fun j hj ⟨hj',hP⟩=>?_⟩
   exact qfO hf (top+j) (by omega) (by omega) ((hget j hj').1 hP)
 ·cases hf:qaP (fun i=>A i c≠0) top (R-top) with
  | none=>exact qcw hf (top+j) (by omega) (by rw[hlen] at hj;omega) ((hget j hj').1 hP)
  | some q=>rw[hf] at hno;cases hno
end VeT
open Go Go.Proofs Ve
namespace VeT
theorem qg1(row:Sim)(c:Nat)(hc:c<row.length):Ret E n_Z32 [dL row,⟨.ptr (.cons (.int .i64) .nil),((c:Int),())⟩] ⟨o_Z32,(row.getD c 0 != 0,())⟩:=by
 rw[qaf hc]
 refine qal ?_
 simp only[run_Z32,Z32.ev]
 exact qac (qak hc) qam
def elK(p:Int)(c top k:Nat)(B:Ent):Ent:=fun i j=>if i<k then elF p c top B i j else elM p c top B i j
theorem qod{p:Int}{c top:Nat}{B:Ent}{R W:Nat}:qaB (elK p c top 0 B) R W=qaB (elM p c top B) R W:=qbD fun i j _ _=>by simp[elK]
theorem qpV{p:Int}{c top:Nat}{B:Ent}{R W:Nat}:qaB (elK p c top R B) R W=qaB (elF p c top B) R W:=qbD fun i j hi _=>by simp[elK,hi]
theorem qna{top q R W:Nat}{A:Ent}(ht:top<R)(hq:q<R)(hne:q≠top):((qaB A R W).set top ((List.range W).map (A q))).set q ((List.range W).map (A top))=qaB (qcc top q A) R W:=by
 rw[qfg,qfg]
 refine qbD fun i j _ _=>?_
 unfold qcc
 by_cases h1:i=q
 ·subst h1;simp[hne]
 ·by_cases h2:i=top
  ·subst h2;simp[h1]
  ·simp[h1,h2]
theorem qm4{top R W:Nat}{A:Ent}:qaB (qcc top top A) R W=qaB A R W:=qbD fun i j _ _=>by
 unfold qcc
 by_cases h:i=top
 ·subst h;simp
 ·simp[h]
theorem qi4(A:Ent)(R W:Nat)(p:Int)(hp:2≤p∧p≤251)(hR:R≤1048576)(hW:W≤1048576)(hA:EIn p R W A) :
  ∃ det:Int,Ret E n_Z31 [dLL (qaB A R W),dI (W:Int),dI p] ⟨o_Z31,(pvL (elS p R A W).2,det,qaB (elS p R A W).1 R W,())⟩:=by
 have key:∀ d c det,c+d=W→∃ det':Int,Ev fun φ=>Z31.l0 (mkR (run E (φ 0))) (φ 0) (φ 1) (W:Int) p det (W:Int) (c:Int) (pvL (elS p R A c).2) (qaB (elS p R A c).1 R W)=some ⟨o_Z31,(pvL (elS p R A W).2,det',qaB (elS p R A W).1 R W,())⟩:=by
  intro d
  induction d with
  | zero =>
   intro c det hc
   obtain rfl:c=W:=by omega
   refine⟨det,Ev.round 1 (L:=fun φ n=>Z31.l0 (mkR (run E (φ 0))) (φ 0) n (c:Int) p det (c:Int) (c:Int) (pvL (elS p R A c).2) (qaB (elS p R A c).1 R c)) ?_ (fun _ _ _=>rfl)⟩
   simp only[Z31.l0_succ _ qae]
   exact qaA (decide_eq_false (by omega)) qam
  | succ d ih =>
   intro c det hcd
   have hc:c<W:=by omega
   obtain⟨hB,hpl,hpc,_⟩:=qhB hp.1 hA c
   have hstep:elS p R A (c+1)=elP p R c (elS p R A c):=rfl
   generalize hS:elS p R A c=S at hB hpl hpc hstep
   obtain⟨B0,pv⟩:=S
   simp only at hB hpl hpc hstep
   have hlen:(qaB B0 R W).length=R:=qaD
   have hI:=qba ((qaB B0 R W).drop pv.length) (((c:Int),()),()) (fun row=>row.getD c 0 != 0) (by rw[List.length_drop,hlen];omega) fun row hrow=>qg1 row c (by
    have:=List.mem_of_mem_drop hrow
    unfold qaB at this
    obtain⟨i,_,rfl⟩:=List.mem_map.1 this
    simpa using hc)
   rw[qmx hc hpl] at hI
   cases hf:qaP (fun i=>B0 i c≠0) pv.length (R-pv.length) with
   | none =>
    rw[hf] at hI
    have e:elS p R A (c+1)=(B0,pv):=by rw[hstep,elP];simp only[hf]
    obtain⟨det',h'⟩:=ih (c+1) 0 (by omega)
    rw[e] at h'
    refine⟨det',Ev.round 1 (L:=fun φ n=>Z31.l0 (mkR (run E (φ 0))) (φ 0) n (W:Int) p det (W:Int) (c:Int) (pvL pv) (qaB B0 R W)) ?_ (fun _ _ _=>rfl)⟩
    simp only[Z31.l0_succ _ qae,qa0,hlen,Int.toNat_natCast]
    rw[show List.take R (qaB B0 R W)=qaB B0 R W from List.take_of_length_le (by omega)]
    refine qax (decide_eq_true (by omega)) (qaq (by simp only[Bool.and_eq_true,decide_eq_true_eq];omega) (qaa hI (qax rfl ?_)))
    rw[qad (by omega)]
    exact h'
   | some q =>
    rw[hf] at hI
    have hq:=qaN hf
    have e:elS p R A (c+1)=(elF p c pv.length (qcc pv.length q B0),pv++[c]):=by rw[hstep,elP];simp only[hf]
    generalize ht:pv.length=top at hI hq e hpl hpc
    have htR:top<R:=by omega
    have hqR:q<R:=by omega
    have hsw:=hB.sw htR hqR
    have hlead:1≤qcc top q B0 top c∧qcc top q B0 top c≤p-1:=by
     have h1:=hsw top c htR hc
     have h2:qcc top q B0 top c=B0 q c:=by simp[qcc]
     have h3:=hq.2.2
     rw[← h2] at h3
     omega
    have hI':Ret E n_Z115 [dLL ((qaB B0 R W).drop top),⟨.fn n_Z32 (.cons (.ptr (.cons (.int .i64) .nil)) .nil),(((c:Int),()),())⟩] ⟨o_Z115,(((q-top:Nat):Int),())⟩:=hI
    -- what lies behind the exchange
    have back:∀ det2,∃ det',Ev fun φ=>Z31.j1 (mkR (run E (φ 0))) (φ 0) (φ 1) (W:Int) p det2 (top:Int) (W:Int) (c:Int) (c:Int) (pvL pv) (qaB (qcc top q B0) R W)=some ⟨o_Z31,(pvL (elS p R A W).2,det',qaB (elS p R A W).1 R W,())⟩:=fun det2=>by
     generalize qcc top q B0=B at hsw hlead e
     obtain⟨det',h'⟩:=ih (c+1) (Int.tmod (w64 (det2*B top c)) p) (by omega)
     rw[e] at h'
     simp only at h'
     rw[qmY,← qpV] at h'
     have hBl:(qaB B R W).length=R:=qaD
     have hNin:∀ j,0≤elN p c top B j∧elN p c top B j≤p-1:=fun j=>qdg hp.1
     have hinv:=qnN (a:=B top c) (p:=p) hp.1
     have hinvR:=qiV (B top c) p hp ⟨by omega,hlead.2⟩
     have hgt:=qbr (A:=B) (W:=W) htR
     have hat:Ret E n_Z17 [dL (List.replicate W 0),dL ((List.range W).map (B top)),dI (qgv (B top c) p),dI p] ⟨o_Z17,((List.range W).map (elN p c top B),())⟩:=by
      have:=qfY (List.replicate W 0) ((List.range W).map (B top)) (qgv (B top c) p) p hp (by omega) (by simp) (by rw[List.length_replicate];exact hW) (fun x hx=>by rw[List.mem_replicate] at hx;omega) (qm1 hp.2 fun j hj=>hsw top j htR hj)
      rw[qj0,qlL,← qj0] at this
      have e2:((List.range W).map fun j=>(0+qgv (B top c) p*B top j)%p)=(List.range W).map (elN p c top B):=List.map_congr_left fun j _=>by
       rw[Int.zero_add,Int.mul_comm];rfl
      rw[e2] at this
      exact this
     have hset:(qaB B R W).set top ((List.range W).map (elN p c top B))=qaB (elK p c top 0 B) R W:=by
      rw[qfg,qod];rfl
     refine⟨det',?_⟩
     -- the loop over the rows
     have loop:Ev fun φ=>Z31.j2 (mkR (run E (φ 0))) (φ 0) (φ 1) (W:Int) p (Int.tmod (w64 (det2*B top c)) p) (top:Int) (W:Int) (c:Int) (c:Int) (pvL pv) (qaB (elK p c top 0 B) R W)=some ⟨o_Z31,(pvL (elS p R A W).2,det',qaB (elS p R A W).1 R W,())⟩:=by
      simp only[Z31.j2_eq _ qae,qaD]
      generalize Int.tmod (w64 (det2*B top c)) p=D at h' ⊢
      refine Ev.start (p:=fun φ n=>Z31.l3 (mkR (run E (φ 0))) (φ 0) (φ 1) n (W:Int) p D (top:Int) (W:Int) (c:Int) (R:Int) 0 (c:Int) (pvL pv) (qaB (elK p c top 0 B) R W)=_) 2 ?_ (fun _ _ _ h=>h)
      refine qap 2 (L:=fun φ n i S=>Z31.l3 (mkR (run E (φ 0))) (φ 0) (φ 1) n (W:Int) p D (top:Int) (W:Int) (c:Int) (R:Int) i (c:Int) (pvL pv) S) (len:=R) (fun i=>qaB (elK p c top i B) R W) (fun _ _ _ _ _=>rfl) (fun i r hi ih2=>?_) ?_
      ·simp only[Z31.l3_succ _ qae,qaD,Int.toNat_natCast]
       have hrow:(qaB (elK p c top i B) R W)[i]? = some ((List.range W).map (elM p c top B i)):=by
        rw[qbr hi]
        have:elK p c top i B i=elM p c top B i:=funext fun j=>by simp[elK]
        rw[this]
       have htop:(qaB (elK p c top i B) R W)[top]? = some ((List.range W).map (elN p c top B)):=by
        rw[qbr htR]
        have:elK p c top i B top=elN p c top B:=funext fun j=>by simp[elK,elF,elM]
        rw[this]
       refine qax (decide_eq_true (by omega)) (qaq (by simp only[Bool.and_eq_true,decide_eq_true_eq];omega) (qac hrow ?_))
       by_cases hit:i=top
       ·subst hit
        refine qaA (by simp) ?_
        simp only[Z31.j4_eq _ qae,cond_false]
        have hsame:qaB (elK p c i (i+1) B) R W=qaB (elK p c i i B) R W:=qbD fun k j _ _=>by
         unfold elK
         by_cases h1:k=i
         ·subst h1;simp[elF,elM]
         ·by_cases h2:k<i
          ·rw[if_pos (by omega),if_pos h2]
          ·rw[if_neg (by omega),if_neg h2]
        rw[hsame] at ih2
        rw[qad (by omega)];exact ih2
       ·have hM:elM p c top B i=B i:=funext fun j=>by simp[elM,hit]
        rw[hM]
        have hBi:=hsw i c hi hc
        refine qax (by simp;omega) (qac (qbn.trans (qfG hc)) ?_)
        by_cases hz:B i c=0
        ·simp only[hz,bne_self_eq_false,Z31.j4_eq _ qae,cond_false]
         have hsame:qaB (elK p c top (i+1) B) R W=qaB (elK p c top i B) R W:=qbD fun k j _ _=>by
          unfold elK
          by_cases h1:k=i
          ·subst h1;simp[elF,elM,hit,hz]
          ·by_cases h2:k<i
           ·rw[if_pos (by omega),if_pos h2]
           ·rw[if_neg (by omega),if_neg h2]
         rw[hsame] at ih2
         rw[qad (by omega)];exact ih2
        ·have hne:(B i c != 0)=true:=by simpa using hz
         have ec:w64 (p-B i c)=p-B i c:=qah (by omega) (by omega)
         simp only[hne,Z31.j4_eq _ qae,cond_true,qaD,Int.toNat_natCast]
         refine qaq (by simp only[Bool.and_eq_true,decide_eq_true_eq];omega) (qac htop (qac (qbn.trans (qfG hc)) ?_))
         simp only[ec]
         have hat2:=qfY ((List.range W).map (B i)) ((List.range W).map (elN p c top B)) (p-B i c) p hp (by omega) (by simp) (by simpa using hW) (qm1 hp.2 fun j hj=>hsw i j hi hj) (qm1 hp.2 fun j _=>hNin j)
         rw[qlL] at hat2
         refine qaa hat2 (qaq (by simp only[Bool.and_eq_true,decide_eq_true_eq];omega) ?_)
         have hset2:(qaB (elK p c top i B) R W).set i ((List.range W).map fun j=>(B i j+(p-B i c)*elN p c top B j)%p)=qaB (elK p c top (i+1) B) R W:=by
          rw[qfg]
          refine qbD fun k j _ _=>?_
          unfold elK
          by_cases h1:k=i
          ·subst h1;simp[elF,hit,hz]
          ·by_cases h2:k<i
           ·rw[if_neg h1,if_pos h2,if_pos (by omega)]
           ·rw[if_neg h1,if_neg h2,if_neg (by omega)]
         rw[qad (by omega)]
         rw[← hset2] at ih2
         exact ih2
      ·simp only[Z31.l3_succ _ qae]
       refine qaA (decide_eq_false (by omega)) (qaq (by simp only[qa0,List.length_cons,List.length_nil,decide_eq_true_eq];omega) ?_)
       rw[qad (by omega)]
       exact h'
     simp only[Z31.j1_eq _ qae,qaD,Int.toNat_natCast]
     have hck:(decide ((0:Int)≤(top:Int))&&decide ((top:Int)<(R:Int)))=true:=by simp only[Bool.and_eq_true,decide_eq_true_eq];omega
     have hcw:(decide ((0:Int)≤(W:Int))&&decide ((W:Int)*8≤70368744177664))=true:=by simp only[Bool.and_eq_true,decide_eq_true_eq];omega
     have fin:=loop
     rw[← hset] at fin
     exact qaq hck (qac hgt (qac (qbn.trans (qfG hc)) (qaq (by simp;omega) (qaq hck (qac hgt (qbO (qaq hcw (qaa hinvR (qaa hat (qaq hck fin)))) (qaa hinvR (qaq hcw (qaa hat (qaq hck fin))))))))))
    by_cases hqt:q=top
    ·subst hqt
     obtain⟨det',h'⟩:=back det
     rw[qm4] at h'
     refine⟨det',Ev.round 1 (L:=fun φ n=>Z31.l0 (mkR (run E (φ 0))) (φ 0) n (W:Int) p det (W:Int) (c:Int) (pvL pv) (qaB B0 R W)) ?_ (fun _ _ _=>rfl)⟩
     simp only[Z31.l0_succ _ qae,qa0,hlen,Int.toNat_natCast,ht]
     rw[show List.take R (qaB B0 R W)=qaB B0 R W from List.take_of_length_le (by omega)]
     refine qax (decide_eq_true (by omega)) (qaq (by simp only[Bool.and_eq_true,decide_eq_true_eq];omega) (qaa hI' ?_))
     rw[Nat.sub_self]
     exact qaA rfl (qaA rfl h')
    ·obtain⟨det',h'⟩:=back (qp0 (w64 (0-det)) p)
     rw[← qna htR hqR hqt] at h'
     refine⟨det',Ev.round 1 (L:=fun φ n=>Z31.l0 (mkR (run E (φ 0))) (φ 0) n (W:Int) p det (W:Int) (c:Int) (pvL pv) (qaB B0 R W)) ?_ (fun _ _ _=>rfl)⟩
     simp only[Z31.l0_succ _ qae,qa0,hlen,Int.toNat_natCast,ht]
     rw[show List.take R (qaB B0 R W)=qaB B0 R W from List.take_of_length_le (by omega)]
     have e3:w64 ((top:Int)+((q-top:Nat):Int))=(q:Int):=by rw[qah (by omega) (by omega)];omega
     refine qax (decide_eq_true (by omega)) (qaq (by simp only[Bool.and_eq_true,decide_eq_true_eq];omega) (qaa hI' (qaA (decide_eq_false (Int.not_lt.2 (Int.natCast_nonneg _))) (qax (decide_eq_true (by show(0:Int)<((q-top:Nat):Int);omega)) ?_))))
     simp only[e3,Int.toNat_natCast,List.length_set,hlen]
     have hck:(decide ((0:Int)≤(top:Int))&&decide ((top:Int)<(R:Int)))=true:=by simp only[Bool.and_eq_true,decide_eq_true_eq];omega
     have hckq:(decide ((0:Int)≤(q:Int))&&decide ((q:Int)<(R:Int)))=true:=by simp only[Bool.and_eq_true,decide_eq_true_eq];omega
     exact qaq hckq (qac (qbr hqR) (qaq hck (qac (qbr htR) (qaq hck (qaq hckq (qaa (qir (w64 (0-det)) p hp.1) h'))))))
 obtain⟨det',h⟩:=key W 0 1 (by omega)
 refine⟨det',qal ?_⟩
 simp only[run_Z31,Z31.ev]
 exact Ev.start (p:=fun φ n=>Z31.l0 (mkR (run E (φ 0))) (φ 0) n (W:Int) p 1 (W:Int) 0 [] (qaB A R W)=_) 1 h (fun _ _ _ h=>h)
end VeT
open Go Go.Proofs Ve
namespace VeT
theorem qjk{i W j:Nat}(h:i*W+j≤4611686018427387904):w64 (w64 ((i:Int)*(W:Int))+(j:Int))=((i*W+j:Nat):Int):=by
 rw[qbg,qah (n:=((i*W:Nat):Int)) (by omega) (by omega),qah (by omega) (by omega)];omega
theorem qdW{A:Ent}{R W i j:Nat}(hi:i<R)(hj:j<W)(hRW:R*W≤1048576):(decide ((0:Int)≤((i*W+j:Nat):Int))&&decide (((i*W+j:Nat):Int)<((qat A W R).length:Int)))=true∧(qat A W R)[i*W+j]? = some (A i j):=by
 have:=qgr hi hj
 refine⟨?_,qbH hi hj⟩
 simp only[Bool.and_eq_true,decide_eq_true_eq,qav];omega
theorem qh8(p:Int)(R W:Nat)(cells:Sim)(hp:2≤p∧p≤251)(hR:R≤1048576)(hW:W≤1048576)(hRW:R*W≤1048576)(hl:cells.length=R*W)(he:qbz cells p) :
    ∃ det:Int,Ret E n_Z138 [dM (p,(R:Int),(W:Int),cells,())] ⟨o_Z138,(p,(R:Int),(W:Int),qat (elS p R (qcg cells W) W).1 W R,pvL (elS p R (qcg cells W) W).2,det,())⟩:=by
  generalize hMt:(p,(R:Int),(W:Int),cells,())=M
  have M1:M.1=p:=by rw[← hMt]
  have M2:M.2.1=(R:Int):=by rw[← hMt]
  have M3:M.2.2.1=(W:Int):=by rw[← hMt]
  have M4:M.2.2.2.1=cells:=by rw[← hMt]
  have hA:=qeS he hl
  have hfl:=qkQ hl
  generalize qcg cells W=A at hA hfl
  let G:Int→Option Dv:=fun det=>some ⟨o_Z138,(p,(R:Int),(W:Int),qat (elS p R A W).1 W R,pvL (elS p R A W).2,det,())⟩
  -- a column where no row is left
  have none_of:∀ c,(elS p R A c).2.length=R→elS p R A (c+1)=elS p R A c:=fun c h=>by
    show elP p R c (elS p R A c)=_
    rw[elP,h,Nat.sub_self];rfl
  have stay:∀ d c,c+d=W→(elS p R A c).2.length=R→elS p R A W=elS p R A c:=by
    intro d
    induction d with
    | zero=>intro c hc _;rw[show c=W by omega]
    | succ d ih =>
      intro c hc h
      have e:=none_of c h
      rw[ih (c+1) (by omega) (by rw[e];exact h),e]
  have key:∀ d c det,c+d=W→∃ det':Int,Ev fun φ=>Z138.l1 (mkR (run E (φ 0))) (φ 0) (φ 1) M p (W:Int) det ((elS p R A c).2.length:Int) (c:Int) 0 0 0 p (R:Int) (W:Int) (pvL (elS p R A c).2) (qat (elS p R A c).1 W R)=G det':=by
    intro d
    induction d with
    | zero =>
      intro c det hc
      obtain rfl:c=W:=by omega
      refine⟨det,Ev.round 1 (L:=fun φ n=>Z138.l1 (mkR (run E (φ 0))) (φ 0) n M p (c:Int) det ((elS p R A c).2.length:Int) (c:Int) 0 0 0 p (R:Int) (c:Int) (pvL (elS p R A c).2) (qat (elS p R A c).1 c R)) ?_ (fun _ _ _=>rfl)⟩
      simp only[Z138.l1_succ _ qae,Z138.j2_eq _ qae,cond_false]
      exact qaA (decide_eq_false (by omega)) qam
    | succ d ih =>
      intro c det hcd
      have hc:c<W:=by omega
      obtain⟨hB,hpl,hpc,_⟩:=qhB hp.1 hA c
      have hstep:elS p R A (c+1)=elP p R c (elS p R A c):=rfl
      by_cases hfull:(elS p R A c).2.length=R
      · refine⟨det,Ev.round 1 (L:=fun φ n=>Z138.l1 (mkR (run E (φ 0))) (φ 0) n M p (W:Int) det ((elS p R A c).2.length:Int) (c:Int) 0 0 0 p (R:Int) (W:Int) (pvL (elS p R A c).2) (qat (elS p R A c).1 W R)) ?_ (fun _ _ _=>rfl)⟩
        simp only[Z138.l1_succ _ qae,M2,hfull,show decide ((R:Int)<(R:Int))=false from decide_eq_false (by omega),Z138.j2_eq _ qae,cond_false]
        refine qax (decide_eq_true (by omega)) (qan ?_)
        show _=some _
        rw[stay (d+1) c hcd hfull]
      · have htR:(elS p R A c).2.length<R:=by omega
        generalize hS:elS p R A c=S at hB hpl hpc hstep hfull htR
        obtain⟨B0,pv⟩:=S
        simp only at hB hpl hpc hstep hfull htR
        generalize ht:pv.length=top at hpl hpc hfull htR
        -- what lies behind the exchange
        have back:∀ q,top≤q→q<R→B0 q c≠0→elS p R A (c+1)=(elF p c top (qcc top q B0),pv++[c])→∀ det2,∃ det',Ev fun φ=>Z138.j6 (mkR (run E (φ 0))) (φ 0) (φ 1) M p (W:Int) det2 (top:Int) (c:Int) 0 0 0 p (R:Int) (W:Int) (pvL pv) (qat (qcc top q B0) W R)=G det':=fun q hq1 hqR hq2 e det2=>by
          have hsw:=hB.sw htR hqR
          have hlead:1≤qcc top q B0 top c∧qcc top q B0 top c≤p-1:=by
            have h1:=hsw top c htR hc
            have h2:qcc top q B0 top c=B0 q c:=by simp[qcc]
            rw[← h2] at hq2
            omega
          generalize qcc top q B0=B at hsw hlead e
          obtain⟨det',h'⟩:=ih (c+1) (Int.tmod (w64 (det2*B top c)) p) (by omega)
          rw[e] at h'
          simp only at h'
          rw[qmY,List.length_append,List.length_singleton,ht] at h'
          have hNin:∀ j,0≤elN p c top B j∧elN p c top B j≤p-1:=fun j=>qdg hp.1
          have hinv:=qnN (a:=B top c) (p:=p) hp.1
          have hinvR:=qhZ (B top c) p hp ⟨by omega,hlead.2⟩
          have hidx:∀ i j,i<R→j<W→i*W+j≤4611686018427387904:=fun i j hi hj=>by have:=qgr hi hj;omega
          refine⟨det',?_⟩
          simp only[Z138.j6_eq _ qae,qjk (hidx top c htR hc),Int.toNat_natCast]
          obtain⟨k1,k2⟩:=qdW (A:=B) htR hc hRW
          refine qaq k1 (qac k2 (qaq (by simp;omega) (qaa hinvR ?_)))
          generalize Int.tmod (w64 (det2*B top c)) p=D at h' ⊢
          -- the loop that scales the row
          let N:Nat→Ent:=fun n i j=>if i=top∧j<n then elN p c top B j else B i j
          have hN0:qat (N 0) W R=qat B W R:=qaG fun i j _ _=>by simp[N]
          have hNW:qat (N W) W R=qat (elM p c top B) W R:=qaG fun i j _ hj=>by
            simp only[N,elM,hj,and_true]
          rw[← hN0]
          refine Ev.start (p:=fun φ n=>Z138.l7 (mkR (run E (φ 0))) (φ 0) (φ 1) n M p (W:Int) D (top:Int) (c:Int) (qgv (B top c) p) 0 0 0 0 p (R:Int) (W:Int) (pvL pv) (qat (N 0) W R)=_) 2 ?_ (fun _ _ _ h=>h)
          refine qap 2 (L:=fun φ n j o=>Z138.l7 (mkR (run E (φ 0))) (φ 0) (φ 1) n M p (W:Int) D (top:Int) (c:Int) (qgv (B top c) p) j 0 0 0 p (R:Int) (W:Int) (pvL pv) o) (len:=W) (fun j=>qat (N j) W R) (fun _ _ _ _ _=>rfl) (fun j r hj ih2=>?_) ?_
          · simp only[Z138.l7_succ _ qae,qjk (hidx top j htR hj),Int.toNat_natCast]
            obtain⟨k1,k2⟩:=qdW (A:=N j) htR hj hRW
            have hNj:N j top j=B top j:=by simp[N]
            rw[hNj] at k2
            have hb:=hsw top j htR hj
            have ev:=qnI (x:=B top j) (y:=qgv (B top c) p) (p:=p) (by omega) (by omega) hp
            have hset:(qat (N j) W R).set (top*W+j) (B top j*qgv (B top c) p%p)=qat (N (j+1)) W R:=by
              rw[qfp htR hj]
              refine qaG fun k l _ _=>?_
              simp only[N]
              by_cases h1:k=top
              · subst h1
                by_cases h2:l=j
                · subst h2;simp[elN]
                · simp only[true_and,h2,if_false,and_false]
                  by_cases h3:l<j
                  · rw[if_pos h3,if_pos (by omega)]
                  · rw[if_neg h3,if_neg (by omega)]
              · simp[h1]
            refine qax (decide_eq_true (by omega)) (qaq k1 (qac k2 (qaq (by simp;omega) (qaq k1 ?_))))
            simp only[ev]
            rw[qad (by omega),hset];exact ih2
          · simp only[Z138.l7_succ _ qae]
            refine qaA (decide_eq_false (by omega)) ?_
            rw[hNW]
            -- the loop over the rows
            let K:Nat→Ent:=fun n i j=>if i<n then elF p c top B i j else elM p c top B i j
            have hK0:qat (K 0) W R=qat (elM p c top B) W R:=qaG fun i j _ _=>by simp[K]
            have hKR:qat (K R) W R=qat (elF p c top B) W R:=qaG fun i j hi _=>by simp[K,hi]
            rw[← hK0]
            refine Ev.start (p:=fun φ n=>Z138.l8 (mkR (run E (φ 0))) (φ 0) (φ 1) n M p (W:Int) D (top:Int) (c:Int) 0 0 0 0 p (R:Int) (W:Int) (pvL pv) (qat (K 0) W R)=_) 3 ?_ (fun _ _ _ h=>h)
            refine qap 3 (L:=fun φ n i o=>Z138.l8 (mkR (run E (φ 0))) (φ 0) (φ 1) n M p (W:Int) D (top:Int) (c:Int) i 0 0 0 p (R:Int) (W:Int) (pvL pv) o) (len:=R) (fun i=>qat (K i) W R) (fun _ _ _ _ _=>rfl) (fun i r hi ih2=>?_) ?_
            · simp only[Z138.l8_succ _ qae,M2,qjk (hidx i c hi hc),Int.toNat_natCast]
              obtain⟨k1,k2⟩:=qdW (A:=K i) hi hc hRW
              refine qax (decide_eq_true (by omega)) (qaq k1 (qac k2 ?_))
              by_cases hit:i=top
              · subst hit
                refine qax (by simp) ?_
                simp only[Z138.j9_eq _ qae,cond_true]
                have hsame:qat (K (i+1)) W R=qat (K i) W R:=qaG fun k j _ _=>by
                  simp only[K]
                  by_cases h1:k=i
                  · subst h1;simp[elF,elM]
                  · by_cases h2:k<i
                    · rw[if_pos (by omega),if_pos h2]
                    · rw[if_neg (by omega),if_neg h2]
                rw[hsame] at ih2
                rw[qad (by omega)];exact ih2
              · have hM:∀ j,K i i j=B i j:=fun j=>by simp[K,elM,hit]
                rw[hM]
                have hBi:=hsw i c hi hc
                refine qaA (by simp;omega) ?_
                by_cases hz:B i c=0
                · simp only[hz,beq_self_eq_true,Z138.j9_eq _ qae,cond_true]
                  have hsame:qat (K (i+1)) W R=qat (K i) W R:=qaG fun k j _ _=>by
                    simp only[K]
                    by_cases h1:k=i
                    · subst h1;simp[elF,elM,hit,hz]
                    · by_cases h2:k<i
                      · rw[if_pos (by omega),if_pos h2]
                      · rw[if_neg (by omega),if_neg h2]
                  rw[hsame] at ih2
                  rw[qad (by omega)];exact ih2
                · have hne:(B i c==0)=false:=by simpa using hz
                  simp only[hne,Z138.j9_eq _ qae,cond_false]
                  let Q:Nat→Ent:=fun n k j=>if k=i∧j<n then elF p c top B i j else K i k j
                  have hQ0:qat (Q 0) W R=qat (K i) W R:=qaG fun k j _ _=>by simp[Q]
                  have hQW:qat (Q W) W R=qat (K (i+1)) W R:=qaG fun k j _ hj=>by
                    simp only[Q,K,hj,and_true]
                    by_cases h1:k=i
                    · subst h1;simp
                    · by_cases h2:k<i
                      · rw[if_neg h1,if_pos h2,if_pos (by omega)]
                      · rw[if_neg h1,if_neg h2,if_neg (by omega)]
                  rw[← hQ0]
                  refine Ev.start (p:=fun φ n=>Z138.l10 (mkR (run E (φ 0))) (φ 0) (φ 1) (φ 3) n M p (W:Int) D (top:Int) (c:Int) (i:Int) (B i c) 0 0 0 0 p (R:Int) (W:Int) (pvL pv) (qat (Q 0) W R)=_) 4 ?_ (fun _ _ _ h=>h)
                  refine qap 4 (L:=fun φ n j o=>Z138.l10 (mkR (run E (φ 0))) (φ 0) (φ 1) (φ 3) n M p (W:Int) D (top:Int) (c:Int) (i:Int) (B i c) j 0 0 0 p (R:Int) (W:Int) (pvL pv) o) (len:=W) (fun j=>qat (Q j) W R) (fun _ _ _ _ _=>rfl) (fun j r2 hj ih3=>?_) ?_
                  · simp only[Z138.l10_succ _ qae,qjk (hidx i j hi hj),qjk (hidx top j htR hj),Int.toNat_natCast]
                    obtain⟨k1,k2⟩:=qdW (A:=Q j) hi hj hRW
                    obtain⟨k3,k4⟩:=qdW (A:=Q j) htR hj hRW
                    have q1:Q j i j=B i j:=by simp only[Q,Nat.lt_irrefl,and_false,if_false];exact hM j
                    have q2:Q j top j=elN p c top B j:=by
                      have:¬ top=i:=fun e=>hit e.symm
                      simp[Q,K,this,elF,elM]
                    rw[q1] at k2
                    rw[q2] at k4
                    have hbij:=hsw i j hi hj
                    have hnj:=hNin j
                    have hm:=qes (x:=B i c) (y:=elN p c top B j) (by omega) (by omega)
                    have e1:w64 (B i c*elN p c top B j)=B i c*elN p c top B j:=qah (by omega) (by omega)
                    have e2:w64 (B i j-B i c*elN p c top B j)=B i j-B i c*elN p c top B j:=qah (by omega) (by omega)
                    have e3:qp0 (B i j-B i c*elN p c top B j) p=elF p c top B i j:=by
                      rw[qli hp (by omega)]
                      unfold elF
                      rw[if_neg hit,if_pos hz]
                      have:B i j+(p-B i c)*elN p c top B j=B i j-B i c*elN p c top B j+p*elN p c top B j:=by rw[Int.sub_mul];omega
                      rw[this,Int.add_mul_emod_self_left]
                    have hmod:=qiC (B i j-B i c*elN p c top B j) p hp.1
                    rw[e3] at hmod
                    have hset:(qat (Q j) W R).set (i*W+j) (elF p c top B i j)=qat (Q (j+1)) W R:=by
                      rw[qfp hi hj]
                      refine qaG fun k l _ _=>?_
                      simp only[Q]
                      by_cases h1:k=i
                      · subst h1
                        by_cases h2:l=j
                        · subst h2;simp
                        · simp only[true_and,h2,if_false,and_false]
                          by_cases h3:l<j
                          · rw[if_pos h3,if_pos (by omega)]
                          · rw[if_neg h3,if_neg (by omega)]
                      · simp[h1]
                    refine qax (decide_eq_true (by omega)) (qaq k1 (qac k2 (qaq k3 (qac k4 ?_))))
                    simp only[e1,e2]
                    refine qaa hmod (qaq k1 ?_)
                    rw[qad (by omega)]
                    rw[← hset] at ih3
                    exact ih3
                  · simp only[Z138.l10_succ _ qae]
                    refine qaA (decide_eq_false (by omega)) ?_
                    rw[qad (by omega),hQW];exact ih2
            · simp only[Z138.l8_succ _ qae,M2]
              refine qaA (decide_eq_false (by omega)) (qaq (by simp only[qa0,List.length_cons,List.length_nil,decide_eq_true_eq];omega) ?_)
              rw[qad (by omega),qad (by omega),hKR]
              exact h'
        have hidx:∀ i j,i<R→j<W→i*W+j≤4611686018427387904:=fun i j hi hj=>by have:=qgr hi hj;omega
        -- the search for the row
        have search:∀ rs:Nat→Option Dv,∀ rn:Option Dv,(∀ q,top≤q→q<R→B0 q c≠0→(∀ i,top≤i→i<q→¬ B0 i c≠0)→Ev fun φ=>Z138.j4 (mkR (run E (φ 0))) (φ 0) (φ 1) (φ 2) M p (W:Int) det (top:Int) (c:Int) (q:Int) false 0 0 0 p (R:Int) (W:Int) (pvL pv) (qat B0 W R)=rs q) →
            ((∀ i,top≤i→i<R→¬ B0 i c≠0)→Ev fun φ=>Z138.j4 (mkR (run E (φ 0))) (φ 0) (φ 1) (φ 2) M p (W:Int) det (top:Int) (c:Int) (R:Int) false 0 0 0 p (R:Int) (W:Int) (pvL pv) (qat B0 W R)=rn) →
            Ev fun φ=>Z138.l3 (mkR (run E (φ 0))) (φ 0) (φ 1) (φ 0) M p (W:Int) det (top:Int) (c:Int) (top:Int) 0 0 0 p (R:Int) (W:Int) (pvL pv) (qat B0 W R)=orN rs rn (qaP (fun i=>B0 i c≠0) top (R-top)):=fun rs rn hs hn=>by
          refine Ev.start (p:=fun φ n=>Z138.l3 (mkR (run E (φ 0))) (φ 0) (φ 1) n M p (W:Int) det (top:Int) (c:Int) (top:Int) 0 0 0 p (R:Int) (W:Int) (pvL pv) (qat B0 W R)=_) 2 ?_ (fun _ _ _ h=>h)
          -- the first one is kept in mind by the number of the round
          have go:∀ d a,top≤a→a+d=R→(∀ i,top≤i→i<a→¬ B0 i c≠0)→Ev fun φ=>Z138.l3 (mkR (run E (φ 0))) (φ 0) (φ 1) (φ 2) M p (W:Int) det (top:Int) (c:Int) (a:Int) 0 0 0 p (R:Int) (W:Int) (pvL pv) (qat B0 W R)=orN rs rn (qaP (fun i=>B0 i c≠0) a d):=by
            intro d
            induction d with
            | zero =>
              intro a ha hk hno
              obtain rfl:a=R:=by omega
              refine Ev.round 2 (L:=fun φ n=>Z138.l3 (mkR (run E (φ 0))) (φ 0) (φ 1) n M p (W:Int) det (top:Int) (c:Int) (a:Int) 0 0 0 p (a:Int) (W:Int) (pvL pv) (qat B0 W a)) ?_ (fun _ _ _=>rfl)
              simp only[Z138.l3_succ _ qae,M2]
              exact qaA (decide_eq_false (by omega)) (hn hno)
            | succ d ih3 =>
              intro a ha hk hno
              have haR:a<R:=by omega
              refine Ev.round 2 (L:=fun φ n=>Z138.l3 (mkR (run E (φ 0))) (φ 0) (φ 1) n M p (W:Int) det (top:Int) (c:Int) (a:Int) 0 0 0 p (R:Int) (W:Int) (pvL pv) (qat B0 W R)) ?_ (fun _ _ _=>rfl)
              simp only[Z138.l3_succ _ qae,M2,qjk (hidx a c haR hc),Int.toNat_natCast]
              obtain⟨k1,k2⟩:=qdW (A:=B0) haR hc hRW
              refine qax (decide_eq_true (by omega)) (qaq k1 (qac k2 ?_))
              rw[qaP]
              by_cases hz:B0 a c=0
              · rw[if_neg (by simpa using hz)]
                simp only[hz,beq_self_eq_true,Z138.j4_eq _ qae,cond_true]
                rw[qad (by omega)]
                refine ih3 (a+1) (by omega) (by omega) fun i h1 h2=>?_
                by_cases e:i=a
                · subst e;simpa using hz
                · exact hno i h1 (by omega)
              · rw[if_pos hz]
                have hne:(B0 a c==0)=false:=by simpa using hz
                simp only[hne]
                exact hs a ha haR hz hno
          exact go (R-top) top (Nat.le_refl _) (by omega) fun i h1 h2=>by omega
        have enter:∀ r,(Ev fun φ=>Z138.l3 (mkR (run E (φ 0))) (φ 0) (φ 1) (φ 0) M p (W:Int) det (top:Int) (c:Int) (top:Int) 0 0 0 p (R:Int) (W:Int) (pvL pv) (qat B0 W R)=r)→Ev fun φ=>Z138.l1 (mkR (run E (φ 0))) (φ 0) (φ 1) M p (W:Int) det (top:Int) (c:Int) 0 0 0 p (R:Int) (W:Int) (pvL pv) (qat B0 W R)=r:=fun r hr=>by
          refine Ev.round 1 (L:=fun φ n=>Z138.l1 (mkR (run E (φ 0))) (φ 0) n M p (W:Int) det (top:Int) (c:Int) 0 0 0 p (R:Int) (W:Int) (pvL pv) (qat B0 W R)) ?_ (fun _ _ _=>rfl)
          simp only[Z138.l1_succ _ qae,M2,show decide ((top:Int)<(R:Int))=true from decide_eq_true (by omega),Z138.j2_eq _ qae,cond_true]
          exact qax (decide_eq_true (by omega)) hr
        cases hf:qaP (fun i=>B0 i c≠0) top (R-top) with
        | none =>
          have e:elS p R A (c+1)=(B0,pv):=by rw[hstep,elP];simp only[ht,hf]
          obtain⟨det',h'⟩:=ih (c+1) det (by omega)
          rw[e] at h'
          simp only[ht] at h'
          refine⟨det',enter _ ?_⟩
          have:=search (fun _=>G det') (G det') (fun q h1 h2 h3 _=>absurd h3 (qcw hf q h1 (by omega))) fun _=>by
            simp only[Z138.j4_eq _ qae,cond_false,M2]
            refine qax (by simp) ?_
            rw[qad (by omega)];exact h'
          rw[hf] at this
          exact this
        | some q =>
          have hq:=qaN hf
          have hqR:q<R:=by omega
          have e:elS p R A (c+1)=(elF p c top (qcc top q B0),pv++[c]):=by rw[hstep,elP];simp only[ht,hf]
          by_cases hqt:q=top
          · subst hqt
            obtain⟨det',h'⟩:=back q (Nat.le_refl _) hqR hq.2.2 e det
            have hself:qat (qcc q q B0) W R=qat B0 W R:=qaG fun i j _ _=>by
              unfold qcc
              by_cases h:i=q
              · subst h;simp
              · simp[h]
            rw[hself] at h'
            refine⟨det',enter _ ?_⟩
            have:=search (fun _=>G det') (G det') (fun q' h1 h2 h3 h4=>by
              obtain rfl:q'=q:=Classical.byContradiction fun hne=>h4 q (Nat.le_refl _) (by omega) hq.2.2
              simp only[Z138.j4_eq _ qae,cond_false,M2]
              exact qaA (by simp;omega) (qaA (by simp) h')) fun hno=>absurd hq.2.2 (hno q (Nat.le_refl _) hqR)
            rw[hf] at this
            exact this
          · obtain⟨det',h'⟩:=back q hq.1 hqR hq.2.2 e (w64 (p-det))
            refine⟨det',enter _ ?_⟩
            have:=search (fun _=>G det') (G det') (fun q' h1 h2 h3 h4=>by
              obtain rfl:q'=q:=by
                rcases Nat.lt_trichotomy q' q with h | h | h
                · exact absurd h3 (qfO hf q' h1 h)
                · exact h
                · exact absurd hq.2.2 (h4 q hq.1 h)
              simp only[Z138.j4_eq _ qae,cond_false,M2]
              refine qaA (by simp;omega) (qax (by simp;omega) ?_)
              -- the loop that exchanges the rows
              let X:Nat→Ent:=fun n i j=>if j<n then qcc top q' B0 i j else B0 i j
              have hX0:qat (X 0) W R=qat B0 W R:=qaG fun i j _ _=>by simp[X]
              have hXW:qat (X W) W R=qat (qcc top q' B0) W R:=qaG fun i j _ hj=>by simp[X,hj]
              rw[← hX0]
              refine Ev.start (p:=fun φ n=>Z138.l5 (mkR (run E (φ 0))) (φ 0) (φ 1) n M p (W:Int) (w64 (p-det)) (top:Int) (c:Int) (q':Int) 0 0 0 0 p (R:Int) (W:Int) (pvL pv) (qat (X 0) W R)=_) 3 ?_ (fun _ _ _ h=>h)
              refine qap 3 (L:=fun φ n j o=>Z138.l5 (mkR (run E (φ 0))) (φ 0) (φ 1) n M p (W:Int) (w64 (p-det)) (top:Int) (c:Int) (q':Int) j 0 0 0 p (R:Int) (W:Int) (pvL pv) o) (len:=W) (fun j=>qat (X j) W R) (fun _ _ _ _ _=>rfl) (fun j r hj ih3=>?_) ?_
              · simp only[Z138.l5_succ _ qae,qjk (hidx q' j hqR hj),qjk (hidx top j htR hj),Int.toNat_natCast,List.length_set]
                obtain⟨k1,k2⟩:=qdW (A:=X j) hqR hj hRW
                obtain⟨k3,k4⟩:=qdW (A:=X j) htR hj hRW
                have x1:X j q' j=B0 q' j:=by simp[X]
                have x2:X j top j=B0 top j:=by simp[X]
                rw[x1] at k2
                rw[x2] at k4
                have hset:((qat (X j) W R).set (q'*W+j) (B0 top j)).set (top*W+j) (B0 q' j)=qat (X (j+1)) W R:=by
                  rw[qfp hqR hj,qfp htR hj]
                  refine qaG fun k l _ _=>?_
                  simp only[X]
                  by_cases hl:l=j
                  · subst hl
                    by_cases hk1:k=top
                    · subst hk1;simp[qcc]
                    · by_cases hk2:k=q'
                      · subst hk2;simp[qcc,hk1]
                      · simp[qcc,hk1,hk2]
                  · simp only[hl,and_false,if_false]
                    by_cases h3:l<j
                    · rw[if_pos h3,if_pos (by omega)]
                    · rw[if_neg h3,if_neg (by omega)]
                refine qax (decide_eq_true (by omega)) (qaq k1 (qac k2 (qaq k3 (qac k4 (qaq k1 (qaq k3 ?_))))))
                rw[qad (by omega),hset];exact ih3
              · simp only[Z138.l5_succ _ qae]
                refine qaA (decide_eq_false (by omega)) ?_
                rw[hXW];exact h') fun hno=>absurd hq.2.2 (hno q hq.1 hqR)
            rw[hf] at this
            exact this
  obtain⟨det',h⟩:=key W 0 1 (by omega)
  refine⟨det',qal ?_⟩
  have h0:qat (elS p R A 0).1 W R=cells:=hfl
  rw[h0] at h
  simp only[run_Z138,Z138.ev,Z138.j0_eq _ qae,M1,M2,M3,M4]
  have own:=qfI cells (by omega)
  have st:=Ev.start (p:=fun φ n=>Z138.l1 (mkR (run E (φ 0))) (φ 0) n M p (W:Int) 1 0 0 0 0 0 p (R:Int) (W:Int) [] cells=G det') 1 h (fun _ _ _ h=>h)
  exact qbO (qaa own st) (qaa own st)
end VeT
open Go Go.Proofs Ve
namespace VeT
theorem qpu{cells:Sim}{R C i:Nat}(hl:cells.length=R*C)(hi:i<R):(cells.take ((i+1)*C)).drop (i*C)=(List.range C).map (qcg cells C i):=by
 have h:=qkw (f:=qcg cells C) (C:=C) hi
 rw[qkQ hl] at h
 exact h
theorem qeP(p:Int)(R C:Nat)(cells:Sim)(hl:cells.length=R*C)(hR:R≤1048576)(hC:C≤1048576)(hRC:R*C≤1048576):Ret E n_Z62 [dI p,dI (R:Int),dI (C:Int),dL cells] ⟨o_Z62,(qaB (qcg cells C) R C,())⟩:=by
 refine qal ?_
 simp only[run_Z62,Z62.ev]
 refine Ev.start (p:=fun φ n=>Z62.l0 (mkR (run E (φ 0))) (φ 0) n (R:Int) 0 p (R:Int) (C:Int) cells []=_) 1 ?_ (fun _ _ _ h=>h)
 refine qap 1 (L:=fun φ n k a=>Z62.l0 (mkR (run E (φ 0))) (φ 0) n (R:Int) k p (R:Int) (C:Int) cells a) (len:=R) (fun k=>qaB (qcg cells C) k C) (fun _ _ _ _ _=>rfl) (fun k r hk ih=>?_) ?_
 ·simp only[Z62.l0_succ _ qae]
  have hle:(k+1)*C≤R*C:=Nat.mul_le_mul_right _ hk
  have e:qaB (qcg cells C) (k+1) C=qaB (qcg cells C) k C++[(List.range C).map (qcg cells C k)]:=by
   unfold qaB;rw[List.range_succ,List.map_append];rfl
  rw[e,← qpu hl hk] at ih
  refine qax (decide_eq_true (by omega)) (qaa (qeM p _ C cells k (by omega) (by omega) (by omega)) (qaa (qhm _ (by rw[List.length_drop,List.length_take];omega)) (qaq (by simp[qaD];omega) ?_)))
  rw[qad (by omega)];exact ih
 ·simp only[Z62.l0_succ _ qae]
  exact qaA (decide_eq_false (by omega)) qam
theorem qkm(p n:Int)(rows:List Sim)(h1:rows.length≤1048576)(h2:rows.flatten.length≤1048576):Ret E n_Z54 [dI p,dI n,dLL rows] ⟨o_Z54,(p,(rows.length:Int),n,rows.flatten,())⟩:=by
 refine qal ?_
 simp only[run_Z54,Z54.ev]
 exact qaa (qhG rows) (qaa (qiJ rows h1 h2) qam)
theorem qkf{rows:List Sim}{k:Nat}(hk:k<rows.length):(rows.take (k+1)).flatten=(rows.take k).flatten++rows[k]:=by
 rw[List.take_succ_eq_append_getElem hk,List.flatten_append];simp
theorem qhD{rows:List Sim}{k:Nat}:(rows.take k).flatten.length≤rows.flatten.length:=by
 conv=>rhs;rw[← List.take_append_drop k rows,List.flatten_append,List.length_append]
 omega
theorem qlw(p n:Int)(rows:List Sim)(h1:rows.length≤1048576)(h2:rows.flatten.length≤1048576):Ret E n_Z143 [dI p,dI n,dLL rows] ⟨o_Z143,(p,(rows.length:Int),n,rows.flatten,())⟩:=by
 refine qal ?_
 simp only[run_Z143,Z143.ev]
 refine Ev.start (p:=fun φ q=>Z143.l0 (mkR (run E (φ 0))) (φ 0) q rows 0 0 0 0 p (rows.length:Int) n []=_) 1 ?_ (fun _ _ _ h=>h)
 refine qap 1 (L:=fun φ q k o=>Z143.l0 (mkR (run E (φ 0))) (φ 0) q rows k 0 0 0 p (rows.length:Int) n o) (len:=rows.length) (fun k=>(rows.take k).flatten) (fun _ _ _ _ _=>rfl) (fun k r hk ih=>?_) ?_
 ·simp only[Z143.l0_succ _ qae]
  have hle:=qhD (rows:=rows) (k:=k+1)
  rw[qkf hk] at ih hle
  rw[List.length_append] at hle
  refine qax (decide_eq_true (by omega)) (qac (qak hk) (qaq (decide_eq_true (by omega)) ?_))
  rw[qad (by omega)];exact ih
 ·simp only[Z143.l0_succ _ qae]
  refine qaA (decide_eq_false (by omega)) (qan ?_)
  rw[List.take_of_length_le (Nat.le_refl _)]
def qqk(p:Int)(pv:List Nat)(F:Ent)(c n:Nat):St:=(List.range n).map fun i=>(pv.getD i 0,(0-F i c)%p)
def qiW(p:Int)(W:Nat)(pv:List Nat)(F:Ent)(c n:Nat):Sim:=qdu (qqk p pv F c n) ((List.replicate W 0).set c 1)
open Classical in
noncomputable def qft(p:Int)(W:Nat)(pv:List Nat)(F:Ent):Nat→List Sim
 | 0=>[]
 | c+1=>qft p W pv F c++if c∈pv then [] else [qiW p W pv F c pv.length]
theorem qcV{p:Int}{W:Nat}{pv:List Nat}{F:Ent}{c n:Nat}:qiW p W pv F c (n+1)=(qiW p W pv F c n).set (pv.getD n 0) ((0-F n c)%p):=by
 unfold qiW qqk
 rw[List.range_succ,List.map_append,qbY];rfl
theorem qbC{p:Int}{W:Nat}{pv:List Nat}{F:Ent}{c n:Nat}:(qiW p W pv F c n).length=W:=by
 unfold qiW;rw[qbo,List.length_set,List.length_replicate]
theorem qeF{p:Int}{W:Nat}{pv:List Nat}{F:Ent}:∀ {n:Nat},(qft p W pv F n).length≤n
 | 0=>by simp[qft]
 | n+1=>by
  have:=qeF (p:=p) (W:=W) (pv:=pv) (F:=F) (n:=n)
  rw[qft,List.length_append];split<;>simp<;>omega
theorem qlS{p:Int}{W:Nat}{pv:List Nat}{F:Ent}(hp:2≤p):∀ {n:Nat} {x:Sim},x∈qft p W pv F n→x.length=W∧qbz x p
 | 0,x,h=>by simp[qft] at h
 | n+1,x,h=>by
  rw[qft,List.mem_append] at h
  rcases h with h | h
  ·exact qlS hp h
  ·split at h
   ·simp at h
   ·rw[List.mem_singleton] at h
    subst h
    refine⟨qbC,qfM (fun y hy=>?_) fun q hq=>?_⟩
    ·rcases List.mem_or_eq_of_mem_set hy with hy | rfl
     ·rw[List.mem_replicate] at hy;omega
     ·omega
    ·obtain⟨i,_,rfl⟩:=List.mem_map.1 hq
     exact qdg hp
theorem qjb{l:List Nat}{c:Nat}:(c:Int)∈pvL l↔c∈l:=by
  unfold pvL
  rw[List.mem_map]
  exact ⟨fun ⟨a, h, e⟩ => by obtain rfl : a = c := by omega
                             exact h,fun h=>⟨c,h,rfl⟩⟩
theorem qnn{l:List Nat}{i:Nat}(hi:i<l.length):(pvL l)[i]? = some ((l.getD i 0:Nat):Int):=by
 unfold pvL
 rw[List.getElem?_map,List.getElem?_eq_getElem hi,qaf hi];rfl
theorem qfk{l:List Nat}{i:Nat}(hi:i<l.length):l.getD i 0∈l:=by
 rw[qaf hi];exact List.getElem_mem hi
noncomputable def qk4(p:Int)(R W:Nat)(cells:Sim):List Sim:=qft p W (elS p R (qcg cells W) W).2 (elS p R (qcg cells W) W).1 W
theorem qmC(p:Int)(R W:Nat)(cells:Sim)(hp:2≤p∧p≤251)(hR:R≤1048576)(hW:W≤1048576)(hRW:R*W≤1048576)(hl:cells.length=R*W)(he:qbz cells p) :
  Ret E n_Z53 [dI p,dI (R:Int),dI (W:Int),dL cells] ⟨o_Z53,(qk4 p R W cells,())⟩:=by
 have hA:=qeS he hl
 obtain⟨det,hel⟩:=qi4 (qcg cells W) R W p hp hR hW hA
 obtain⟨hF,hpl,hpc,hpv⟩:=qhB hp.1 hA W
 refine qal ?_
 simp only[run_Z53,Z53.ev]
 refine qaa (qeP p R W cells hl hR hW hRW) (qaa hel ?_)
 unfold qk4
 generalize elS p R (qcg cells W) W=S at hF hpl hpc hpv
 obtain⟨F,pv⟩:=S
 simp only at hF hpl hpc hpv
 refine Ev.start (p:=fun φ n=>Z53.l0 (mkR (run E (φ 0))) (φ 0) n (pvL pv) (W:Int) 0 p (R:Int) (W:Int) cells [] (qaB F R W)=_) 1 ?_ (fun _ _ _ h=>h)
 refine qap 1 (L:=fun φ n c o=>Z53.l0 (mkR (run E (φ 0))) (φ 0) n (pvL pv) (W:Int) c p (R:Int) (W:Int) cells o (qaB F R W)) (len:=W) (fun c=>qft p W pv F c) (fun _ _ _ _ _=>rfl) (fun c r hc ih=>?_) ?_
 ·simp only[Z53.l0_succ _ qae,Int.toNat_natCast,List.length_replicate]
  rw[qft] at ih
  refine qax (decide_eq_true (by omega)) (qaa (qgb (pvL pv) (c:Int) (by rw[qa0];omega)) (qb5 (fun h=>?_) fun h=>?_))
  ·rw[if_pos (qjb.1 (qaE.1 h)),List.append_nil] at ih
   rw[qad (by omega)];exact ih
  ·rw[if_neg (mt qjb.2 (qa1.1 h))] at ih
   refine qaq (by simp only[Bool.and_eq_true,decide_eq_true_eq];omega) (qaq (by simp only[Bool.and_eq_true,decide_eq_true_eq];omega) ?_)
   have hkl:=qeF (p:=p) (W:=W) (pv:=pv) (F:=F) (n:=c)
   generalize qft p W pv F c=K at ih hkl ⊢
   refine Ev.start (p:=fun φ n=>Z53.l1 (mkR (run E (φ 0))) (φ 0) (φ 1) n (pvL pv) (c:Int) (W:Int) (c:Int) (pvL pv) ((pvL pv).length:Int) 0 p (R:Int) (W:Int) cells ((List.replicate W 0).set c 1) K (qaB F R W)=_) 2 ?_ (fun _ _ _ h=>h)
   refine qap 2 (L:=fun φ n i x=>Z53.l1 (mkR (run E (φ 0))) (φ 0) (φ 1) n (pvL pv) (c:Int) (W:Int) (c:Int) (pvL pv) ((pvL pv).length:Int) i p (R:Int) (W:Int) cells x K (qaB F R W)) (len:=pv.length) (fun i=>qiW p W pv F c i) (fun _ _ _ _ _=>rfl) (fun i q hi ih2=>?_) ?_
   ·simp only[Z53.l1_succ _ qae,qa0,qaD,Int.toNat_natCast,qbC]
    have hiR:i<R:=by omega
    have hFi:=hF i c hiR hc
    have hpi:=hpv _ (qfk hi)
    have e0:w64 (0-F i c)=0-F i c:=qah (by omega) (by omega)
    have hred:=qir (0-F i c) p hp.1
    rw[qli hp (by omega)] at hred
    rw[qcV] at ih2
    simp only[qa0] at ih2
    refine qax (decide_eq_true (by omega)) (qac (qbn.trans (qnn hi)) (qaq (by simp only[Bool.and_eq_true,decide_eq_true_eq];omega) (qac (qbr hiR) (qac (qbn.trans (qfG hc)) ?_))))
    simp only[e0,Int.toNat_natCast]
    refine qaa hred (qaq (by simp only[Bool.and_eq_true,decide_eq_true_eq];omega) ?_)
    rw[qad (by omega)];exact ih2
   ·simp only[Z53.l1_succ _ qae,qa0]
    refine qaA (decide_eq_false (by omega)) (qaq (by simp only[List.length_cons,List.length_nil,decide_eq_true_eq];omega) ?_)
    rw[qad (by omega)];exact ih
 ·simp only[Z53.l0_succ _ qae]
  exact qaA (decide_eq_false (by omega)) qam
theorem qiR(p:Int)(R W:Nat)(cells:Sim)(hp:2≤p∧p≤251)(hR:R≤1048576)(hW:W≤1048576)(hRW:R*W≤1048576)(hl:cells.length=R*W)(he:qbz cells p) :
  Ret E n_Z135 [dM (p,(R:Int),(W:Int),cells,())] ⟨o_Z135,(qk4 p R W cells,())⟩:=by
 have hA:=qeS he hl
 obtain⟨det,hel⟩:=qh8 p R W cells hp hR hW hRW hl he
 obtain⟨hF,hpl,hpc,hpv⟩:=qhB hp.1 hA W
 refine qal ?_
 simp only[run_Z135,Z135.ev]
 refine qaa hel ?_
 unfold qk4
 generalize elS p R (qcg cells W) W=S at hF hpl hpc hpv
 obtain⟨F,pv⟩:=S
 simp only at hF hpl hpc hpv
 generalize hMt:(p,(R:Int),(W:Int),cells,())=M
 have M1:M.1=p:=by rw[← hMt]
 have M3:M.2.2.1=(W:Int):=by rw[← hMt]
 refine Ev.start (p:=fun φ n=>Z135.l0 (mkR (run E (φ 0))) (φ 0) n M (pvL pv) 0 p (R:Int) (W:Int) (qat F W R) []=_) 1 ?_ (fun _ _ _ h=>h)
 refine qap 1 (L:=fun φ n c o=>Z135.l0 (mkR (run E (φ 0))) (φ 0) n M (pvL pv) c p (R:Int) (W:Int) (qat F W R) o) (len:=W) (fun c=>qft p W pv F c) (fun _ _ _ _ _=>rfl) (fun c r hc ih=>?_) ?_
 ·simp only[Z135.l0_succ _ qae,M3,Int.toNat_natCast,List.length_replicate]
  rw[qft] at ih
  refine qax (decide_eq_true (by omega)) (qaa (qid (pvL pv) (c:Int) (by rw[qa0];omega)) (qb5 (fun h=>?_) fun h=>?_))
  ·rw[if_pos (qjb.1 (qaE.1 h)),List.append_nil] at ih
   rw[qad (by omega)];exact ih
  ·rw[if_neg (mt qjb.2 (qa1.1 h))] at ih
   refine qaq (by simp only[Bool.and_eq_true,decide_eq_true_eq];omega) (qaq (by simp only[Bool.and_eq_true,decide_eq_true_eq];omega) ?_)
   have hkl:=qeF (p:=p) (W:=W) (pv:=pv) (F:=F) (n:=c)
   generalize qft p W pv F c=K at ih hkl ⊢
   refine Ev.start (p:=fun φ n=>Z135.l1 (mkR (run E (φ 0))) (φ 0) (φ 1) n M (pvL pv) (c:Int) 0 p (R:Int) (W:Int) (qat F W R) K ((List.replicate W 0).set c 1)=_) 2 ?_ (fun _ _ _ h=>h)
   refine qap 2 (L:=fun φ n i x=>Z135.l1 (mkR (run E (φ 0))) (φ 0) (φ 1) n M (pvL pv) (c:Int) i p (R:Int) (W:Int) (qat F W R) K x) (len:=pv.length) (fun i=>qiW p W pv F c i) (fun _ _ _ _ _=>rfl) (fun i q hi ih2=>?_) ?_
   ·have hiR:i<R:=by omega
    have hlt:=qgr hiR hc
    simp only[Z135.l1_succ _ qae,qa0,M1,M3,qjk (show i*W+c≤4611686018427387904 by omega),qbC]
    have hFi:=hF i c hiR hc
    have hpi:=hpv _ (qfk hi)
    have e0:w64 (0-F i c)=0-F i c:=qah (by omega) (by omega)
    have hred:=qiC (0-F i c) p hp.1
    rw[qli hp (by omega)] at hred
    rw[qcV] at ih2
    refine qax (decide_eq_true (by omega)) (qac (qbn.trans (qnn hi)) (qac (qbn.trans (qbH hiR hc)) ?_))
    simp only[e0,Int.toNat_natCast]
    refine qaa hred (qaq (by simp only[Bool.and_eq_true,decide_eq_true_eq];omega) ?_)
    rw[qad (by omega)];exact ih2
   ·simp only[Z135.l1_succ _ qae,qa0]
    refine qaA (decide_eq_false (by omega)) (qaq (by simp only[List.length_cons,List.length_nil,decide_eq_true_eq];omega) ?_)
    rw[qad (by omega)];exact ih
 ·simp only[Z135.l0_succ _ qae,M3]
  exact qaA (decide_eq_false (by omega)) qam
def Rws(p:Int)(W:Nat)(rows:List Sim):Prop:=∀ x∈rows,x.length=W∧qbz x p
theorem Rws.flat{p:Int}{W:Nat}{rows:List Sim}(h:Rws p W rows):rows.flatten.length=rows.length*W∧qbz rows.flatten p:=by
 induction rows with
 | nil=>exact⟨by simp,fun x hx=>by simp at hx⟩
 | cons r rows ih =>
  obtain⟨h1,h2⟩:=ih fun x hx=>h x (List.mem_cons_of_mem _ hx)
  obtain⟨h3,h4⟩:=h r List.mem_cons_self
  refine⟨by rw[List.flatten_cons,List.length_append,h1,h3,List.length_cons,Nat.add_mul];omega,fun x hx=>?_⟩
  rw[List.flatten_cons,List.mem_append] at hx
  rcases hx with hx | hx
  ·exact h4 x hx
  ·exact h2 x hx
noncomputable def qqp(p:Int)(W:Nat)(rows:List Sim):List Sim:=qk4 p rows.length W rows.flatten
theorem qiM(p:Int)(W:Nat)(rows:List Sim)(hp:2≤p∧p≤251)(hR:rows.length≤1048576)(hW:W≤1048576)(hRW:rows.length*W≤1048576)(hr:Rws p W rows) :
  Ret E n_Z167 [dI p,dI (W:Int),dLL rows] ⟨o_Z167,(qqp p W rows,())⟩:=by
 obtain⟨h1,h2⟩:=hr.flat
 refine qal ?_
 simp only[run_Z167,Z167.ev]
 exact qaa (qlw p (W:Int) rows hR (by omega)) (qaa (qiR p rows.length W rows.flatten hp hR hW hRW h1 h2) qam)
theorem qk6(p:Int)(W:Nat)(rows:List Sim)(hp:2≤p∧p≤251)(hR:rows.length≤1048576)(hW:W≤1048576)(hRW:rows.length*W≤1048576)(hr:Rws p W rows) :
  Ret E n_Z53 [dI p,dI (rows.length:Int),dI (W:Int),dL rows.flatten] ⟨o_Z53,(qqp p W rows,())⟩:=by
 obtain⟨h1,h2⟩:=hr.flat
 exact qmC p rows.length W rows.flatten hp hR hW hRW h1 h2
theorem qld{x:Shf}{n:Nat}:qeg x.1 x.2.1 x.2.2.1 x.2.2.2.1 n=qaB (qcg (qqo x 0).2.2.2.1 (SD x.1 x.2.2.1 0).toNat) n (SD x.1 x.2.2.1 0).toNat:=rfl
theorem qnj{x:Shf}(hs:VS x.1 x.2.1 x.2.2.1 x.2.2.2.1)(n:Nat):Rws x.2.1 (SD x.1 x.2.2.1 0).toNat (qeg x.1 x.2.1 x.2.2.1 x.2.2.2.1 n):=fun r hr=>by
 unfold qeg at hr
 obtain⟨i,_,rfl⟩:=List.mem_map.1 hr
 refine⟨qhb,fun y hy=>?_⟩
 unfold qoO at hy
 obtain⟨g,_,rfl⟩:=List.mem_map.1 hy
 by_cases hg:i*(SD x.1 x.2.2.1 0).toNat+g<(qjT x.1 x.2.1 x.2.2.1 x.2.2.2.1 0).length
 ·rw[qaf hg];exact qmF hs 0 _ (List.getElem_mem hg)
 ·rw[List.getD_eq_getElem?_getD,List.getElem?_eq_none (by omega)]
  have:=hs.2.1.1
  show 0≤(0:Int)∧(0:Int)≤_;omega
end VeT
open Go Go.Proofs Ve
namespace VeT
theorem qoj{m:Mat}{a n i R C:Nat}(hm:VM m)(eR:m.2.1=(R:Int))(eC:m.2.2.1=(C:Int))(hi:i<R)(ha:a+C≤n) :
  List.take a (List.replicate n (0:Int))++List.take (n-a) ((List.range C).map (qcg m.2.2.2.1 C i))++List.drop (a+(List.take (n-a) ((List.range C).map (qcg m.2.2.2.1 C i))).length) (List.replicate n (0:Int))=qf2 m a n 1 i:=by
 have hp:=hm.1.1
 have el:=hm.2.2.2.2
 have hlc:m.2.2.2.1.length=R*C:=by
  have:=hm.2.2.2.1
  rw[eR,eC,qbg] at this;omega
 have htk:List.take (n-a) ((List.range C).map (qcg m.2.2.2.1 C i))=(List.range C).map (qcg m.2.2.2.1 C i):=List.take_of_length_le (by rw[List.length_map,List.length_range];omega)
 have hC:m.2.2.1.toNat=C:=by rw[eC];rfl
 rw[htk,List.length_map,List.length_range]
 have hl1:(List.take a (List.replicate n (0:Int))).length=a:=by rw[List.length_take,List.length_replicate];omega
 refine ql6 (by rw[qb1];simp;omega) fun g hg=>?_
 have hgn:g<n:=by
  have:g<(List.take a (List.replicate n (0:Int))++(List.range C).map (qcg m.2.2.2.1 C i)++List.drop (a+C) (List.replicate n (0:Int))).length:=hg
  simp at this;omega
 have hz:∀ k q:Nat,(List.replicate k (0:Int))[q]?.getD 0=0:=fun k q=>by rw[List.getElem?_replicate];split<;>rfl
 rw[List.getD_eq_getElem?_getD]
 by_cases h1:g<a
 ·rw[qcv (by omega),List.getElem?_append_left (by rw[List.length_append,hl1];omega),List.getElem?_append_left (by rw[hl1];exact h1),List.getElem?_take,if_pos h1]
  exact hz _ _
 ·by_cases h2:g<a+C
  ·obtain⟨j,rfl⟩:∃ j,g=a+j:=⟨g-a,by omega⟩
   have hj:j<C:=by omega
   rw[qgG (by rw[hC];exact hj) hgn,List.getElem?_append_left (by rw[List.length_append,hl1,List.length_map,List.length_range];omega),List.getElem?_append_right (by rw[hl1];omega),hl1,Nat.add_sub_cancel_left,qfG hj,hC]
   have hlt:=qgr hi hj
   have he:0≤qcg m.2.2.2.1 C i j∧qcg m.2.2.2.1 C i j≤m.1-1:=by unfold qcg;rw[qaf (by omega)];exact el _ (List.getElem_mem _)
   show qcg m.2.2.2.1 C i j=qcg m.2.2.2.1 C i j*1%m.1
   rw[Int.mul_one,Int.emod_eq_of_lt he.1 (by omega)]
  ·rw[qcv (by omega),List.getElem?_append_right (by rw[List.length_append,hl1,List.length_map,List.length_range];omega),List.getElem?_drop]
   exact hz _ _
noncomputable def gvR(x:Shf)(s n:Nat):List Sim:=(List.range n).map (qf2 (qcU x (fvx x.1 s) s) (FC x.1 x.2.2.1 (fvx x.1 s)).toNat (SD x.1 x.2.2.1 0).toNat 1)
noncomputable def gvL(x:Shf)(w:Sim)(n:Nat):List Sim:=qeg x.1 x.2.1 x.2.2.1 x.2.2.2.1 (SD x.1 x.2.2.1 1).toNat++((w.take n).map fun k=>gvR x k.toNat (x.2.2.1.getD k.toNat 0).toNat).flatten
theorem qi3{x:Shf}{w:Sim}{n:Nat}(hn:n<w.length){s:Nat}(hs:w[n]=(s:Int)):gvL x w (n+1)=gvL x w n++gvR x s (x.2.2.1.getD s 0).toNat:=by
 unfold gvL
 rw[List.take_succ_eq_append_getElem hn,List.map_append,List.flatten_append,hs,List.append_assoc]
 simp
structure Gv (x:Shf) (s W:Nat):Prop where
 vm:VM (qcU x (fvx x.1 s) s)
 eR:(qcU x (fvx x.1 s) s).2.1=x.2.2.1.getD s 0
 eC:(qcU x (fvx x.1 s) s).2.2.1=x.2.2.1.getD (fvx x.1 s) 0
 e1:(qcU x (fvx x.1 s) s).1=x.2.1
 fl:fvx x.1 s<x.1.length
 f1:(x.1.getD (fvx x.1 s) []).length=1
 pt:qnV (x.1.getD (fvx x.1 s) []) (x.1.getD s [])
 hF:0≤FC x.1 x.2.2.1 (fvx x.1 s)∧FC x.1 x.2.2.1 (fvx x.1 s)+x.2.2.1.getD (fvx x.1 s) 0≤W
 h3:0≤x.2.2.1.getD s 0∧x.2.2.1.getD s 0≤3
 h3f:0≤x.2.2.1.getD (fvx x.1 s) 0∧x.2.2.1.getD (fvx x.1 s) 0≤3
theorem qpN{c:List Sim}{p:Int}{st:Sim}{ms:List Mat}{f:Nat}(h:VS c p st ms)(hf:f<c.length):∀ {d k:Nat},k<c.length→(c.getD k []).length≤d→qnV (c.getD f []) (c.getD k [])→(qc4 c p st ms f d k).1=p
 | 0,k,_,_,_=>rfl
 | d+1,k,hk,hd,hpt=>by
  rw[qc4]
  by_cases hfk:f=k
  ·rw[if_pos hfk];rfl
  ·rw[if_neg hfk]
   have D:Down c p st ms f k:=⟨h,hf,hk,hfk,hpt⟩
   obtain⟨_,f2,_⟩:=D.facts
   exact(h.map hk f2).2.2.1
theorem qpw{x:Shf}{s W:Nat}(hx:Sm (.st cS) x)(h:VS x.1 x.2.1 x.2.2.1 x.2.2.2.1)(hs:s<x.1.length)(eW:SD x.1 x.2.2.1 0=(W:Int)):Gv x s W:=by
 obtain⟨_,hf,_,hf1,hpt⟩:=qjD h.1 hs
 have hst:=h.2.2.1.2.1
 obtain⟨hVM,hR⟩:=qm6 h hf _ s hs (Nat.le_refl _) hpt
 have hb:=qgB hst hf
 rw[show((x.1.getD (fvx x.1 s) []).length:Int)-1=0 by omega,eW] at hb
 exact⟨hVM,hR,qib hst,qpN h hf hs (Nat.le_refl _) hpt,hf,hf1,hpt,hb,qgl hst s,qgl hst _⟩
theorem qpD{x:Shf}{s W n:Nat}(g:Gv x s W)(hp:2≤x.2.1)(tW:(SD x.1 x.2.2.1 0).toNat=W):Rws x.2.1 W (gvR x s n):=fun r hr=>by
 unfold gvR at hr
 obtain⟨i,_,rfl⟩:=List.mem_map.1 hr
 refine⟨by rw[qb1,tW],?_⟩
 have:=qis (m:=qcU x (fvx x.1 s) s) (a:=(FC x.1 x.2.2.1 (fvx x.1 s)).toNat) (n:=(SD x.1 x.2.2.1 0).toNat) (t:=1) (i:=i) (by rw[g.e1];exact hp)
 rw[g.e1] at this
 exact this
theorem qd5{x:Shf}{w:Sim}{W H:Nat}(hx:Sm (.st cS) x)(h:VS x.1 x.2.1 x.2.2.1 x.2.2.2.1)(hw:qmH x.1 w)(eW:SD x.1 x.2.2.1 0=(W:Int))(eH:SD x.1 x.2.2.1 1=(H:Int)) :
  ∀ n,n≤w.length→(gvL x w n).length≤H+3*n∧Rws x.2.1 W (gvL x w n):=by
 have tW:(SD x.1 x.2.2.1 0).toNat=W:=by omega
 intro n
 induction n with
 | zero =>
  intro _
  have e:gvL x w 0=qeg x.1 x.2.1 x.2.2.1 x.2.2.2.1 (SD x.1 x.2.2.1 1).toNat:=by simp[gvL]
  rw[e]
  have:=qnj h (SD x.1 x.2.2.1 1).toNat
  rw[tW] at this
  exact⟨by rw[qf4];omega,this⟩
 | succ n ih =>
  intro hn
  obtain⟨h1,h2⟩:=ih (by omega)
  obtain⟨s,hs,hsl⟩:=hw.get (show n<w.length by omega)
  have g:=qpw hx h hsl eW
  rw[qi3 (by omega) hs]
  refine⟨?_,fun r hr=>?_⟩
  ·have:=g.h3
   have hl:(gvR x s (x.2.2.1.getD s 0).toNat).length=(x.2.2.1.getD s 0).toNat:=by simp[gvR]
   rw[List.length_append,hl];omega
  ·rcases List.mem_append.1 hr with hr | hr
   ·exact h2 r hr
   ·exact qpD g h.2.1.1 tW r hr
theorem qh9(x:Shf)(w:Sim)(hx:Sm (.st cS) x)(hw1:Sm (.sl (.int .i64)) w)(h:VS x.1 x.2.1 x.2.2.1 x.2.2.2.1)(hw:qmH x.1 w) :
  Ret E n_Z27 [dLL x.1,dI x.2.1,dL x.2.2.1,dMs x.2.2.2.1,dL w] ⟨o_Z27,(x.2.1,((gvL x w w.length).length:Int),SD x.1 x.2.2.1 0,(gvL x w w.length).flatten,())⟩:=by
 obtain⟨W,eW,bW,tW⟩:=qcs h 0
 obtain⟨H,eH,bH,tH⟩:=qcs h 1
 have hst:=h.2.2.1.2.1
 have hRC:=qcY bH bW
 have h48:=h.1.1
 have hwl:=hw.le48
 have facts:=qd5 hx h hw eW eH
 have s0:=qb9 x.1 x.2.2.1 0 x.2.1 x.2.2.2.1 hx.1 h.2.2.1.1 hst (by omega)
 rw[show qfv x.1 x.2.2.1 0 (qau x.1 0 x.1.length).length=(W:Int) from eW] at s0
 have hrows:=qeP x.2.1 H W (qqo x 0).2.2.2.1 (by show(qjT _ _ _ _ 0).length=_;rw[qlD,show SD x.1 x.2.2.1 (0+1)=SD x.1 x.2.2.1 1 from rfl,tH,tW]) (by omega) (by omega) (by omega)
 rw[eW]
 refine qal ?_
 simp only[run_Z27,Z27.ev]
 refine qaa s0 (qaa (qee x.1 x.2.1 x.2.2.1 x.2.2.2.1 0 (by omega) hx.1 h) ?_)
 have e1:(qpa x.1 x.2.1 x.2.2.1 x.2.2.2.1 0).1=x.2.1:=rfl
 have e2:(qpa x.1 x.2.1 x.2.2.1 x.2.2.2.1 0).2.1=(H:Int):=eH
 have e3:(qpa x.1 x.2.1 x.2.2.1 x.2.2.2.1 0).2.2.1=(W:Int):=eW
 have e4:(qpa x.1 x.2.1 x.2.2.1 x.2.2.2.1 0).2.2.2.1=(qqo x 0).2.2.2.1:=rfl
 simp only[e1,e2,e3,e4]
 refine qaa hrows ?_
 have e0:qaB (qcg (qqo x 0).2.2.2.1 W) H W=gvL x w 0:=by
  have:gvL x w 0=qeg x.1 x.2.1 x.2.2.1 x.2.2.2.1 (SD x.1 x.2.2.1 1).toNat:=by simp[gvL]
  rw[this,qld,tW,tH]
 rw[e0]
 refine Ev.start (p:=fun φ n=>Z27.l0 (mkR (run E (φ 0))) (φ 0) n (W:Int) w (w.length:Int) 0 x.1 x.2.1 x.2.2.1 x.2.2.2.1 0 0 0 (gvL x w 0)=_) 1 ?_ (fun _ _ _ h=>h)
 refine qap 1 (L:=fun φ n k o=>Z27.l0 (mkR (run E (φ 0))) (φ 0) n (W:Int) w (w.length:Int) k x.1 x.2.1 x.2.2.1 x.2.2.2.1 0 0 0 o) (len:=w.length) (fun k=>gvL x w k) (fun _ _ _ _ _=>rfl) (fun k r hk ih=>?_) ?_
 ·simp only[Z27.l0_succ _ qae]
  obtain⟨s,hs,hsl⟩:=hw.get hk
  have hg:w[k]? = some (s:Int):=by rw[List.getElem?_eq_getElem hk,hs]
  have g:=qpw hx h hsl eW
  obtain⟨_,r1⟩:=qnT x.1 x.2.1 x.2.2.1 x.2.2.2.1 hx.1 h (fvx x.1 s) g.fl _ s hsl (Nat.le_refl _) g.pt
  obtain⟨R,C,em,hR,hC,hlen⟩:=g.vm.nat
  have eR:(qcU x (fvx x.1 s) s).2.1=(R:Int):=congrArg (fun m:Mat=>m.2.1) em
  have eC:(qcU x (fvx x.1 s) s).2.2.1=(C:Int):=congrArg (fun m:Mat=>m.2.2.1) em
  have hRC2:=qcY hR hC
  have rr:=qeP (qcU x (fvx x.1 s) s).1 R C (qcU x (fvx x.1 s) s).2.2.2.1 hlen (by omega) (by omega) (by omega)
  rw[← eR,← eC] at rr
  obtain⟨T,eT⟩:=Int.eq_ofNat_of_zero_le g.hF.1
  have hTC:T+C≤W:=by have:=g.hF.2;have:=g.eC;omega
  have fc:=qcB x.1 x.2.1 x.2.2.1 x.2.2.2.1 (fvx x.1 s) g.fl hx.1 h.2.2.1.1 hst
  rw[eT] at fc
  have hRs:(x.2.2.1.getD s 0).toNat=R:=by have:=g.eR;omega
  obtain⟨hf1,hf2⟩:=facts k (by omega)
  rw[qi3 hk hs,hRs] at ih
  refine qax (decide_eq_true (by omega)) (qac (qbn.trans hg) (qaa (qhc x s hsl hx.1 h.1) (qaa r1 (qaa rr ?_))))
  generalize hB:gvL x w k=B at ih hf1 ⊢
  have hgv:gvR x s R=(List.range R).map (qf2 (qcU x (fvx x.1 s) s) T W 1):=by unfold gvR;rw[eT,tW];rfl
  rw[hgv] at ih
  rw[qaD]
  refine Ev.start (p:=fun φ n=>Z27.l1 (mkR (run E (φ 0))) (φ 0) (φ 1) n (W:Int) ((fvx x.1 s:Nat):Int) w (w.length:Int) (k:Int) (qaB (qcg (qcU x (fvx x.1 s) s).2.2.2.1 C) R C) (R:Int) 0 x.1 x.2.1 x.2.2.1 x.2.2.2.1 0 0 0 B=_) 2 ?_ (fun _ _ _ h=>h)
  have:=qap 2 (L:=fun φ n i o=>Z27.l1 (mkR (run E (φ 0))) (φ 0) (φ 1) n (W:Int) ((fvx x.1 s:Nat):Int) w (w.length:Int) (k:Int) (qaB (qcg (qcU x (fvx x.1 s) s).2.2.2.1 C) R C) (R:Int) i x.1 x.2.1 x.2.2.1 x.2.2.2.1 0 0 0 o) (len:=R) (fun i=>B++(List.range i).map (qf2 (qcU x (fvx x.1 s) s) T W 1)) (r:=r) (fun _ _ _ _ _=>rfl) (fun i q hi ih2=>?_) ?_
  ·simpa using this
  ·simp only[Z27.l1_succ _ qae,Int.toNat_natCast,List.length_replicate]
   rw[List.range_succ,List.map_append,List.map_singleton,← List.append_assoc] at ih2
   have hcp:=qoj g.vm eR eC hi hTC
   refine qax (decide_eq_true (by omega)) (qac (qbn.trans (qbr hi)) (qaq (by simp only[Bool.and_eq_true,decide_eq_true_eq];omega) (qaa fc ?_)))
   simp only[Int.toNat_natCast,hcp]
   have hT0:(0:Int)≤(T:Int):=by omega
   have hTW:(T:Int)≤(W:Int):=by omega
   refine qaq (by simp only[Bool.and_eq_true,decide_eq_true_eq];exact⟨hT0,hTW⟩) (qaq (by simp only[Bool.and_eq_true,decide_eq_true_eq];omega) (qaq (by simp only[List.length_append,List.length_map,List.length_range,List.length_cons,List.length_nil,decide_eq_true_eq];omega) ?_))
   rw[qad (by omega)];exact ih2
  ·simp only[Z27.l1_succ _ qae]
   refine qaA (decide_eq_false (by omega)) ?_
   rw[qad (by omega)];exact ih
 ·simp only[Z27.l0_succ _ qae]
  obtain⟨hf1,hf2⟩:=facts w.length (Nat.le_refl _)
  obtain⟨hl1,hl2⟩:=hf2.flat
  have hmul:(gvL x w w.length).length*W≤176*32:=Nat.mul_le_mul (by omega) bW
  exact qaA (decide_eq_false (by omega)) (qaa (qkm x.2.1 (W:Int) (gvL x w w.length) (by omega) (by omega)) qam)
theorem qj2(x:Shf)(w:Sim)(hx:Sm (.st cS) x)(hw1:Sm (.sl (.int .i64)) w)(h:VS x.1 x.2.1 x.2.2.1 x.2.2.2.1)(hw:qmH x.1 w) :
  Ret E n_Z166 [dS x,dL w] ⟨o_Z166,(gvL x w w.length,())⟩:=by
 obtain⟨W,eW,bW,tW⟩:=qcs h 0
 obtain⟨H,eH,bH,tH⟩:=qcs h 1
 have hst:=h.2.2.1.2.1
 have h48:=h.1.1
 have hwl:=hw.le48
 have facts:=qd5 hx h hw eW eH
 have all:=qfw x hx.1 h
 rw[eW] at all
 refine qal ?_
 simp only[run_Z166,Z166.ev]
 refine qaa all (qaa (qfP x hx.1 h) ?_)
 have e0:qeg x.1 x.2.1 x.2.2.1 x.2.2.2.1 (SD x.1 x.2.2.1 1).toNat=gvL x w 0:=by simp[gvL]
 rw[e0]
 refine Ev.start (p:=fun φ n=>Z166.l0 (mkR (run E (φ 0))) (φ 0) n x w (W:Int) 0 (gvL x w 0)=_) 1 ?_ (fun _ _ _ h=>h)
 refine qap 1 (L:=fun φ n k o=>Z166.l0 (mkR (run E (φ 0))) (φ 0) n x w (W:Int) k o) (len:=w.length) (fun k=>gvL x w k) (fun _ _ _ _ _=>rfl) (fun k r hk ih=>?_) ?_
 ·simp only[Z166.l0_succ _ qae]
  obtain⟨s,hs,hsl⟩:=hw.get hk
  have hg:w[k]? = some (s:Int):=by rw[List.getElem?_eq_getElem hk,hs]
  have g:=qpw hx h hsl eW
  obtain⟨_,r2⟩:=qnr x.1 x.2.1 x.2.2.1 x.2.2.2.1 hx.1 h (fvx x.1 s) g.fl _ s hsl (Nat.le_refl _) g.pt
  obtain⟨T,eT⟩:=Int.eq_ofNat_of_zero_le g.hF.1
  have hTC:(T:Int)+(qcU x (fvx x.1 s) s).2.2.1≤W:=by have:=g.hF.2;rw[g.eC];omega
  have ls:=qd2 x (fvx x.1 s) g.fl g.f1 h
  rw[eT] at ls
  have rr:=qeD (qcU x (fvx x.1 s) s) T W 1 g.vm hTC (by omega) (by omega)
  have hgv:gvR x s (x.2.2.1.getD s 0).toNat=(List.range (qcU x (fvx x.1 s) s).2.1.toNat).map (qf2 (qcU x (fvx x.1 s) s) T W 1):=by unfold gvR;rw[eT,tW,g.eR];rfl
  rw[← hgv] at rr
  obtain⟨hf1,hf2⟩:=facts k (by omega)
  have hl:(gvR x s (x.2.2.1.getD s 0).toNat).length=(x.2.2.1.getD s 0).toNat:=by simp[gvR]
  have h3:=g.h3
  rw[qi3 hk hs] at ih
  refine qax (decide_eq_true (by omega)) (qac (qbn.trans hg) (qaa (qkd x s hsl hx.1 h.1) (qac (qbn.trans hg) (qaa r2 (qaa ls (qaa rr (qaq (by simp only[hl,decide_eq_true_eq];omega) ?_)))))))
  rw[qad (by omega)];exact ih
 ·simp only[Z166.l0_succ _ qae]
  exact qaA (decide_eq_false (by omega)) qam
noncomputable def qbV(x:Shf)(w:Sim):Int:=((qqp x.2.1 (SD x.1 x.2.2.1 0).toNat (gvL x w w.length)).length:Int)
theorem qhe(x:Shf)(w:Sim)(hx:Sm (.st cS) x)(hw1:Sm (.sl (.int .i64)) w)(h:VS x.1 x.2.1 x.2.2.1 x.2.2.2.1)(hw:qmH x.1 w) :
  Ret E n_Z44 [dLL x.1,dI x.2.1,dL x.2.2.1,dMs x.2.2.2.1,dL w] ⟨o_Z44,(qbV x w,())⟩:=by
 obtain⟨W,eW,bW,tW⟩:=qcs h 0
 obtain⟨H,eH,bH,tH⟩:=qcs h 1
 have hp:2≤x.2.1∧x.2.1≤251:=⟨h.2.1.1,h.2.1.2.1⟩
 have h48:=h.1.1
 have hwl:=hw.le48
 obtain⟨hf1,hf2⟩:=qd5 hx h hw eW eH w.length (Nat.le_refl _)
 have hmul:(gvL x w w.length).length*W≤176*32:=Nat.mul_le_mul (by omega) bW
 have hc:=qh9 x w hx hw1 h hw
 rw[eW] at hc
 refine qal ?_
 simp only[run_Z44,Z44.ev]
 unfold qbV
 rw[tW]
 exact qaa hc (qaa (qk6 x.2.1 W (gvL x w w.length) hp (by omega) (by omega) (by omega) hf2) (qaa (qhG _) qam))
theorem qh3(x:Shf)(w:Sim)(hx:Sm (.st cS) x)(hw1:Sm (.sl (.int .i64)) w)(h:VS x.1 x.2.1 x.2.2.1 x.2.2.2.1)(hw:qmH x.1 w) :
  Ret E n_Z165 [dS x,dL w] ⟨o_Z165,(qbV x w,())⟩:=by
 obtain⟨W,eW,bW,tW⟩:=qcs h 0
 obtain⟨H,eH,bH,tH⟩:=qcs h 1
 have hp:2≤x.2.1∧x.2.1≤251:=⟨h.2.1.1,h.2.1.2.1⟩
 have h48:=h.1.1
 have hwl:=hw.le48
 obtain⟨hf1,hf2⟩:=qd5 hx h hw eW eH w.length (Nat.le_refl _)
 have hmul:(gvL x w w.length).length*W≤176*32:=Nat.mul_le_mul (by omega) bW
 have all:=qfw x hx.1 h
 rw[eW] at all
 refine qal ?_
 simp only[run_Z165,Z165.ev]
 unfold qbV
 rw[tW]
 exact qaa all (qaa (qj2 x w hx hw1 h hw) (qaa (qiM x.2.1 W (gvL x w w.length) hp (by omega) (by omega) (by omega) hf2) qam))
end VeT
open Go Go.Proofs Ve
namespace VeT
def qo6:Bool:=(List.range 252).all fun p=>!(decide (2≤p)&&(List.range 16).all fun k=>!(decide (2≤k)&&decide (k*k≤p)&&decide (p%k=0))) || (List.range p).all fun a=>a==0 || (a*(a ^ (p-2)%p)%p==1)
theorem qnt:qo6=true:=by kernel_rfl
theorem qlr{p a:Int}(hp:Pr p)(h1:1≤a)(h2:a≤p-1):a*qgv a p%p=1:=by
  obtain⟨hp2,hp251,hpk⟩:=hp
  obtain⟨P,rfl⟩:=Int.eq_ofNat_of_zero_le (show 0≤p by omega)
  obtain⟨N,rfl⟩:=Int.eq_ofNat_of_zero_le (show 0≤a by omega)
  have h:=qnt
  unfold qo6 at h
  rw[List.all_eq_true] at h
  have hP:=h P (List.mem_range.2 (by omega))
  rw[Bool.or_eq_true] at hP
  rcases hP with hP | hP
  · exfalso
    rw[Bool.not_eq_true',Bool.and_eq_false_iff] at hP
    rcases hP with hP | hP
    · have:=of_decide_eq_false hP;omega
    · rw[← Bool.not_eq_true,List.all_eq_true] at hP
      refine hP fun k hk=>?_
      have hk16:=List.mem_range.1 hk
      rw[Bool.not_eq_true',Bool.and_eq_false_iff,Bool.and_eq_false_iff]
      by_cases hk2:2≤k
      · by_cases hkk:k*k≤P
        · right
          refine decide_eq_false fun e=>?_
          have := hpk k hk2 (by have : ((k * k : Nat) : Int) ≤ (P : Int) := by omega
                                rwa [Int.natCast_mul] at this)
          exact this (by omega)
        · exact .inl (.inr (decide_eq_false hkk))
      · exact .inl (.inl (decide_eq_false hk2))
  · rw[List.all_eq_true] at hP
    have hN:=hP N (List.mem_range.2 (by omega))
    rw[Bool.or_eq_true] at hN
    rcases hN with hN | hN
    · have:N=0:=by simpa using hN
      omega
    · have hN:N*(N ^ (P-2)%P)%P=1:=by simpa using hN
      unfold qgv
      have e:((P:Int)-2).toNat=P-2:=by omega
      rw[e]
      have:((N*(N ^ (P-2)%P)%P:Nat):Int)=1:=by rw[hN];rfl
      rwa [Int.natCast_emod,Int.natCast_mul,Int.natCast_emod,Int.natCast_pow] at this
theorem qlI{c d g:Nat→Int}:∀ {n:Nat},qaT (fun i=>c i+d i) g n=qaT c g n+qaT d g n
 | 0=>rfl
 | n+1=>by simp only[qaT];rw[qlI,Int.add_mul];omega
theorem qj6{k:Int}{c g:Nat→Int}:∀ {n:Nat},qaT (fun i=>k*c i) g n=k*qaT c g n
 | 0=>by simp[qaT]
 | n+1=>by simp only[qaT];rw[qj6,Int.mul_add,Int.mul_assoc]
theorem qkM{k:Nat}{g:Nat→Int}:∀ {n:Nat},n≤k→qaT (fun i=>if i=k then 1 else 0) g n=0
 | 0,_=>rfl
 | n+1,h=>by simp only[qaT];rw[qkM (by omega),if_neg (by omega),Int.zero_mul];rfl
theorem qdd{k:Nat}{g:Nat→Int}:∀ {n:Nat},k<n→qaT (fun i=>if i=k then 1 else 0) g n=g k
 | n+1,h=>by
  simp only[qaT]
  by_cases hk:k=n
  ·subst hk;rw[qkM (Nat.le_refl _),if_pos rfl,Int.one_mul,Int.zero_add]
  ·rw[qdd (by omega),if_neg (by omega),Int.zero_mul,Int.add_zero]
def Spn(p:Int)(R W:Nat)(A:Ent)(x:Nat→Int):Prop:=∃ c:Nat→Int,∀ j,j<W→qaT c (fun i=>A i j) R%p=x j%p
theorem Spn.row{p:Int}{R W:Nat}{A:Ent}{i:Nat}(hi:i<R):Spn p R W A (A i):=⟨fun k=>if k=i then 1 else 0,fun j _=>by rw[qdd hi]⟩
theorem Spn.congr{p:Int}{R W:Nat}{A:Ent}{x y:Nat→Int}(h:∀ j,j<W→x j%p=y j%p):Spn p R W A x→Spn p R W A y:=fun⟨c,hc⟩=>⟨c,fun j hj=>(hc j hj).trans (h j hj)⟩
theorem Spn.add{p:Int}{R W:Nat}{A:Ent}{x y:Nat→Int}(hx:Spn p R W A x)(hy:Spn p R W A y):Spn p R W A (fun j=>x j+y j):=by
 obtain⟨c,hc⟩:=hx
 obtain⟨d,hd⟩:=hy
 exact⟨fun i=>c i+d i,fun j hj=>by rw[qlI,Int.add_emod,hc j hj,hd j hj,← Int.add_emod]⟩
theorem Spn.smul{p:Int}{R W:Nat}{A:Ent}{x:Nat→Int}(k:Int)(hx:Spn p R W A x):Spn p R W A (fun j=>k*x j):=by
 obtain⟨c,hc⟩:=hx
 exact⟨fun i=>k*c i,fun j hj=>by rw[qj6,Int.mul_emod,hc j hj,← Int.mul_emod]⟩
theorem Spn.zero{p:Int}{R W:Nat}{A:Ent}:Spn p R W A (fun _=>0):=⟨fun _=>0,fun j _=>by
 have:∀ n,qaT (fun _=>0) (fun i=>A i j) n=0:=fun n=>by
  induction n with
  | zero=>rfl
  | succ n ih=>simp only[qaT,ih,Int.zero_mul];rfl
 rw[this]⟩
theorem Spn.sum{p:Int}{R W:Nat}{A B:Ent}{c:Nat→Int}:∀ {n:Nat},(∀ i,i<n→Spn p R W A (B i))→Spn p R W A (fun j=>qaT c (fun i=>B i j) n)
 | 0,_=>Spn.zero
 | n+1,h=>(Spn.sum (n:=n) fun i hi=>h i (by omega)).add ((h n (Nat.lt_succ_self n)).smul (c n))
theorem Spn.trans{p:Int}{R R' W:Nat}{A B:Ent}{x:Nat→Int}(h:∀ i,i<R'→Spn p R W A (B i))(hx:Spn p R' W B x):Spn p R W A x:=by
 obtain⟨c,hc⟩:=hx
 exact(Spn.sum h).congr hc
def Eqv(p:Int)(R W:Nat)(A B:Ent):Prop:=(∀ i,i<R→Spn p R W A (B i))∧(∀ i,i<R→Spn p R W B (A i))
theorem Eqv.refl{p:Int}{R W:Nat}{A:Ent}:Eqv p R W A A:=⟨fun _ h=>Spn.row h,fun _ h=>Spn.row h⟩
theorem Eqv.trans{p:Int}{R W:Nat}{A B C:Ent}(h:Eqv p R W A B)(k:Eqv p R W B C):Eqv p R W A C:=⟨fun i hi=>Spn.trans h.1 (k.1 i hi),fun i hi=>Spn.trans k.2 (h.2 i hi)⟩
theorem Eqv.sw{p:Int}{R W top q:Nat}{A:Ent}(ht:top<R)(hq:q<R):Eqv p R W A (qcc top q A):=by
 refine⟨fun i hi=>?_,fun i hi=>?_⟩
 ·unfold qcc
  split
  ·exact Spn.row hq
  ·split
   ·exact Spn.row ht
   ·exact Spn.row hi
 ·have key:∀ k,k<R→(qcc top q A) k=A i→Spn p R W (qcc top q A) (A i):=fun k hk e=>by rw[← e];exact Spn.row hk
  by_cases h1:i=top
  ·subst h1
   by_cases h2:q=i
   ·subst h2;exact key q hq (by simp[qcc])
   ·exact key q hq (by simp[qcc,h2])
  ·by_cases h2:i=q
   ·subst h2;exact key top ht (by simp[qcc])
   ·exact key i hi (by simp[qcc,h1,h2])
theorem Eqv.f{p:Int}{R W c top:Nat}{B:Ent}(hp:Pr p)(ht:top<R)(hl:1≤B top c∧B top c≤p-1):Eqv p R W B (elF p c top B):=by
 have hinv:=qlr hp hl.1 hl.2
 have hN:Spn p R W B (elN p c top B):=((Spn.row ht).smul (qgv (B top c) p)).congr fun j _=>by
  show qgv (B top c) p*B top j%p=(B top j*qgv (B top c) p%p)%p
  rw[Int.emod_emod_of_dvd _ (Int.dvd_refl p),Int.mul_comm]
 have eTop:elF p c top B top=elN p c top B:=by funext j;simp[elF]
 have hN2:Spn p R W (elF p c top B) (elN p c top B):=by rw[← eTop];exact Spn.row ht
 refine⟨fun i hi=>?_,fun i hi=>?_⟩
 ·by_cases h1:i=top
  ·subst h1;rw[eTop];exact hN
  ·by_cases h2:B i c=0
   ·have e:elF p c top B i=B i:=by funext j;simp[elF,h1,h2]
    rw[e];exact Spn.row hi
   ·refine((Spn.row hi).add (hN.smul (p-B i c))).congr fun j _=>?_
    have e:elF p c top B i j=(B i j+(p-B i c)*elN p c top B j)%p:=by simp[elF,h1,h2]
    rw[e,Int.emod_emod_of_dvd _ (Int.dvd_refl p)]
 ·by_cases h1:i=top
  ·subst h1
   refine(hN2.smul (B i c)).congr fun j _=>?_
   show B i c*(B i j*qgv (B i c) p%p)%p=B i j%p
   rw[Int.mul_emod,Int.emod_emod_of_dvd _ (Int.dvd_refl p),← Int.mul_emod,show B i c*(B i j*qgv (B i c) p)=B i j*(B i c*qgv (B i c) p) by rw[← Int.mul_assoc,Int.mul_comm (B i c),Int.mul_assoc],Int.mul_emod,hinv,Int.mul_one,Int.emod_emod_of_dvd _ (Int.dvd_refl p)]
  ·by_cases h2:B i c=0
   ·have e:elF p c top B i=B i:=by funext j;simp[elF,h1,h2]
    rw[← e];exact Spn.row hi
   ·refine((Spn.row hi).add (hN2.smul (B i c))).congr fun j _=>?_
    have e:elF p c top B i j=(B i j+(p-B i c)*elN p c top B j)%p:=by simp[elF,h1,h2]
    rw[e,Int.add_emod,Int.emod_emod_of_dvd _ (Int.dvd_refl p),← Int.add_emod,show B i j+(p-B i c)*elN p c top B j+B i c*elN p c top B j=B i j+p*elN p c top B j by rw[Int.sub_mul];omega,Int.add_mul_emod_self_left]
structure Rf (R c:Nat) (B:Ent) (pv:List Nat):Prop where
 len:pv.length≤R
 lt:∀ i,i<pv.length→pv.getD i 0<c
 mono:∀ i j,i<j→j<pv.length→pv.getD i 0<pv.getD j 0
 one:∀ i j,i<R→j<pv.length→B i (pv.getD j 0)=if i=j then 1 else 0
 low:∀ i j,i<pv.length→j<pv.getD i 0→B i j=0
 bot:∀ i j,pv.length≤i→i<R→j<c→B i j=0
end VeT
open Go Go.Proofs Ve
namespace VeT
theorem qb3{l:List Nat}{c i:Nat}(h:i<l.length):(l++[c]).getD i 0=l.getD i 0:=by
 rw[List.getD_eq_getElem?_getD,List.getD_eq_getElem?_getD,List.getElem?_append_left h]
theorem qdc{l:List Nat}{c:Nat}:(l++[c]).getD l.length 0=c:=by
 rw[List.getD_eq_getElem?_getD,List.getElem?_append_right (Nat.le_refl _)];simp
theorem Rf.next{p:Int}{R W c:Nat}{B:Ent}{pv:List Nat}(hp:Pr p)(hB:EIn p R W B)(hc:c<W)(h:Rf R c B pv){q:Nat}(hq:pv.length≤q∧q<R)(hne:B q c≠0) :
  Rf R (c+1) (elF p c pv.length (qcc pv.length q B)) (pv++[c]):=by
 obtain⟨hlen,hlt,hmono,hone,hlow,hbot⟩:=h
 generalize ht:pv.length=top at *
 have hB':EIn p R W (qcc top q B):=hB.sw (by omega) hq.2
 have rowLt:∀ i,i<top→qcc top q B i=B i:=fun i hi=>by
  unfold qcc;rw[if_neg (by omega),if_neg (by omega)]
 have rowGe:∀ i,top≤i→i<R→∀ j,j<c→qcc top q B i j=0:=fun i h1 h2 j hj=>by
  unfold qcc
  split
  ·exact hbot q j hq.1 hq.2 hj
  ·split
   ·exact hbot top j (Nat.le_refl _) (by omega) hj
   ·exact hbot i j h1 h2 hj
 have eLead:qcc top q B top c=B q c:=by simp[qcc]
 have hlead:1≤qcc top q B top c∧qcc top q B top c≤p-1:=by
  have:=hB q c hq.2 hc
  rw[eLead];omega
 generalize qcc top q B=B' at hB' rowLt rowGe eLead hlead
 have hinv:=qlr hp hlead.1 hlead.2
 have nLt:∀ j,j<c→elN p c top B' j=0:=fun j hj=>by
  unfold elN;rw[rowGe top (Nat.le_refl _) (by omega) j hj,Int.zero_mul];exact Int.zero_emod p
 have nC:elN p c top B' c=1:=hinv
 have fLt:∀ i j,i<R→j<c→elF p c top B' i j=B' i j:=fun i j hi hj=>by
  unfold elF
  split
  ·rename_i e;subst e;rw[nLt j hj,rowGe i (Nat.le_refl _) hi j hj]
  ·split
   ·rw[nLt j hj,Int.mul_zero,Int.add_zero]
    have:=hB' i j hi (by omega)
    exact Int.emod_eq_of_lt this.1 (by omega)
   ·rfl
 have fC:∀ i,i<R→elF p c top B' i c=if i=top then 1 else 0:=fun i hi=>by
  unfold elF
  split
  ·exact nC
  ·split
   ·rw[nC,Int.mul_one,show B' i c+(p-B' i c)=p by omega,Int.emod_self]
   ·rename_i _ h2;exact Classical.byContradiction fun e=>h2 e
 refine⟨?_,?_,?_,?_,?_,?_⟩
 ·rw[List.length_append,List.length_singleton,ht];omega
 ·intro i hi
  rw[List.length_append,List.length_singleton,ht] at hi
  by_cases hi2:i<top
  ·rw[qb3 (by omega)];have:=hlt i hi2;omega
  ·obtain rfl:i=top:=by omega
   subst ht
   rw[qdc];omega
 ·intro i j hij hj
  rw[List.length_append,List.length_singleton,ht] at hj
  by_cases hj2:j<top
  ·rw[qb3 (by omega),qb3 (by omega)];exact hmono i j hij hj2
  ·obtain rfl:j=top:=by omega
   have:=hlt i hij
   subst ht
   rw[qb3 hij,qdc];exact this
 ·intro i j hi hj
  rw[List.length_append,List.length_singleton,ht] at hj
  by_cases hj2:j<top
  ·have hpj:=hlt j hj2
   rw[qb3 (by omega),fLt i _ hi hpj]
   by_cases hi2:i<top
   ·rw[rowLt i hi2];exact hone i j hi hj2
   ·rw[rowGe i (by omega) hi _ hpj,if_neg (by omega)]
  ·obtain rfl:j=top:=by omega
   have hfc:=fC i hi
   subst ht
   rw[qdc];exact hfc
 ·intro i j hi hj
  rw[List.length_append,List.length_singleton,ht] at hi
  by_cases hi2:i<top
  ·rw[qb3 (by omega)] at hj
   have:=hlt i hi2
   rw[fLt i j (by omega) (by omega),rowLt i hi2];exact hlow i j hi2 hj
  ·obtain rfl:i=top:=by omega
   have hfl:j<c→elF p c i B' i j=0:=fun h=>by rw[fLt i j (by omega) h];exact rowGe i (Nat.le_refl _) (by omega) j h
   have e:(pv++[c]).getD i 0=c:=by rw[← ht];exact qdc
   rw[e] at hj
   exact hfl hj
 ·intro i j hi hiR hj
  rw[List.length_append,List.length_singleton,ht] at hi
  by_cases hjc:j<c
  ·rw[fLt i j hiR hjc];exact rowGe i (by omega) hiR j hjc
  ·obtain rfl:j=c:=by omega
   rw[fC i hiR,if_neg (by omega)]
theorem qiF{p:Int}{R W:Nat}{A:Ent}(hp:Pr p)(hA:EIn p R W A):∀ c,c≤W→Rf R c (elS p R A c).1 (elS p R A c).2∧Eqv p R W A (elS p R A c).1
 | 0,_=>⟨⟨Nat.zero_le _,fun i h=>by simp[elS] at h,fun i j _ h=>by simp[elS] at h,fun i j _ h=>by simp[elS] at h,fun i j h=>by simp[elS] at h,fun i j _ _ h=>by omega⟩,Eqv.refl⟩
 | c+1,hc=>by
  obtain⟨h1,h2⟩:=qiF hp hA c (by omega)
  have hB:=(qhB hp.1 hA c).1
  rw[elS,elP]
  generalize elS p R A c=S at h1 h2 hB
  obtain⟨B,pv⟩:=S
  simp only at h1 h2 hB ⊢
  cases hf:qaP (fun i=>B i c≠0) pv.length (R-pv.length) with
  | none =>
   have hn:=qcw hf
   show Rf R (c+1) B pv∧Eqv p R W A B
   refine⟨⟨h1.len,fun i hi=>by have:=h1.lt i hi;omega,h1.mono,h1.one,h1.low,fun i j h3 h4 h5=>?_⟩,h2⟩
   by_cases hj:j<c
   ·exact h1.bot i j h3 h4 hj
   ·obtain rfl:j=c:=by omega
    exact Classical.byContradiction fun e=>hn i h3 (by omega) e
  | some q =>
   have hq:=qaN hf
   have hq2:pv.length≤q∧q<R:=by omega
   have hlead:1≤qcc pv.length q B pv.length c∧qcc pv.length q B pv.length c≤p-1:=by
    have e:qcc pv.length q B pv.length c=B q c:=by simp[qcc]
    have:=hB q c hq2.2 (by omega)
    have:=hq.2.2
    rw[e];omega
   exact⟨h1.next hp hB (by omega) hq2 hq.2.2,(h2.trans (Eqv.sw (by omega) hq2.2)).trans (Eqv.f hp (by omega) hlead)⟩
end VeT
open Go Go.Proofs Ve
namespace VeT
def qqs(A:Ent)(b:Sim)(W:Nat):Ent:=fun i j=>if j=W then b.getD i 0 else A i j
theorem qpl{p:Int}{R W:Nat}{A:Ent}{b:Sim}(hA:EIn p R W A)(hb:qbz b p)(hl:b.length=R):EIn p R (W+1) (qqs A b W):=fun i j hi hj=>by
 unfold qqs
 split
 ·rw[qaf (by omega)];exact hb _ (List.getElem_mem _)
 ·exact hA i j hi (by omega)
def qqx(cells b:Sim)(W R:Nat):Sim:=qat (qqs (qcg cells W) b W) (W+1) R
theorem qfy{f:Ent}{W R i j:Nat}(hi:i<R)(hj:j<W):qcg (qat f W R) W i j=f i j:=by
 unfold qcg
 rw[List.getD_eq_getElem?_getD,qbH hi hj];rfl
end VeT
open Go Go.Proofs Ve
namespace VeT
theorem qgQ{c g h:Nat→Int}:∀ {n:Nat},qaT c (fun i=>g i+h i) n=qaT c g n+qaT c h n
 | 0=>rfl
 | n+1=>by simp only[qaT];rw[qgQ,Int.mul_add];omega
theorem qiz{k:Int}{c g:Nat→Int}:∀ {n:Nat},qaT c (fun i=>k*g i) n=k*qaT c g n
 | 0=>by simp[qaT]
 | n+1=>by simp only[qaT];rw[qiz,Int.mul_add,← Int.mul_assoc,Int.mul_comm (c n) k,Int.mul_assoc]
theorem qfU{c:Nat→Int}:∀ {n:Nat},qaT c (fun _=>0) n=0
 | 0=>rfl
 | n+1=>by simp only[qaT];rw[qfU,Int.mul_zero];rfl
theorem qbt{c g:Nat→Int}:∀ {n:Nat},qaT c g n=qaT g c n
 | 0=>rfl
 | n+1=>by simp only[qaT];rw[qbt,Int.mul_comm]
theorem qj5{y c:Nat→Int}{A:Ent}{W:Nat}:∀ {R:Nat},qaT y (fun j=>qaT c (fun i=>A i j) R) W=qaT c (fun i=>qaT y (A i) W) R
 | 0=>qfU
 | R+1=>by
  simp only[qaT]
  rw[qgQ,qj5,qiz]
theorem qed{p:Int}{c g h:Nat→Int}:∀ {n:Nat},(∀ i,i<n→g i%p=h i%p)→qaT c g n%p=qaT c h n%p
 | 0,_=>rfl
 | n+1,hgh=>by
  simp only[qaT]
  rw[Int.add_emod,qed (n:=n) fun i hi=>hgh i (by omega),Int.mul_emod,hgh n (Nat.lt_succ_self n),← Int.mul_emod,← Int.add_emod]
theorem qaS{c d g h:Nat→Int}:∀ {n:Nat},(∀ i,i<n→c i=d i∧g i=h i)→qaT c g n=qaT d h n
 | 0,_=>rfl
 | n+1,e=>by simp only[qaT];rw[qaS (n:=n) fun i hi=>e i (by omega),(e n (Nat.lt_succ_self n)).1,(e n (Nat.lt_succ_self n)).2]
theorem Spn.orth{p:Int}{R W:Nat}{A:Ent}{x y:Nat→Int}(hy:∀ i,i<R→qaT y (A i) W%p=0)(hx:Spn p R W A x):qaT y x W%p=0:=by
 obtain⟨c,hc⟩:=hx
 rw[← qed (p:=p) (c:=y) (g:=fun j=>qaT c (fun i=>A i j) R) (h:=x) hc,qj5,qed (p:=p) (h:=fun _=>0) fun i hi=>by rw[hy i hi,Int.zero_emod],qfU,Int.zero_emod]
theorem qlT{y g:Nat→Int}{q:Nat}{v:Int}:∀ {n:Nat},q<n→qaT (fun j=>if j=q then v else y j) g n=qaT y g n+(v-y q)*g q
 | n+1,h=>by
  simp only[qaT]
  by_cases hq:q=n
  ·subst hq
   rw[if_pos rfl,qaS (d:=y) (h:=g) fun i hi=>⟨if_neg (by omega),rfl⟩,Int.sub_mul];omega
  ·rw[qlT (by omega),if_neg (by omega)];omega
theorem qcy{o:Sim}{q j:Nat}{v:Int}(hq:q<o.length):(o.set q v).getD j 0=if j=q then v else o.getD j 0:=by
 by_cases e:q=j
 ·subst e
  rw[if_pos rfl,qaf (by rw[List.length_set];exact hq),List.getElem_set_self]
 ·rw[if_neg fun e2=>e e2.symm,List.getD_eq_getElem?_getD,List.getElem?_set_ne e,List.getD_eq_getElem?_getD]
end VeT
open Go Go.Proofs Ve
namespace VeT
theorem qkW{c g:Nat→Int}{t:Nat}:∀ {n:Nat},t≤n→(∀ i,t≤i→i<n→g i=0)→qaT c g n=qaT c g t
 | 0,h,_=>by rw[show t=0 by omega]
 | n+1,h,hz=>by
  by_cases ht:t=n+1
  ·rw[ht]
  ·simp only[qaT]
   rw[qkW (n:=n) (by omega) fun i h1 h2=>hz i h1 (by omega),hz n (by omega) (Nat.lt_succ_self n),Int.mul_zero,Int.add_zero]
def qdy(rows:List Sim):Ent:=fun i j=>(rows.getD i []).getD j 0
theorem qmr{rows:List Sim}{W:Nat}(h:∀ x∈rows,x.length=W):qaB (qdy rows) rows.length W=rows:=by
 apply List.ext_getElem
 ·rw[qaD]
 ·intro i h1 h2
  have e:=qbr (A:=qdy rows) (W:=W) h2
  rw[List.getElem?_eq_getElem h1] at e
  rw[Option.some.inj e]
  apply List.ext_getElem
  ·rw[List.length_map,List.length_range];exact(h _ (List.getElem_mem h2)).symm
  ·intro j h3 h4
   rw[List.getElem_map,List.getElem_range]
   unfold qdy
   rw[qaf h2,qaf h4]
theorem qi8{p:Int}{rows:List Sim}{W:Nat}(h:Rws p W rows):EIn p rows.length W (qdy rows):=fun i j hi hj=>by
 obtain⟨h1,h2⟩:=h _ (List.getElem_mem hi)
 unfold qdy
 rw[qaf hi,qaf (by omega)]
 exact h2 _ (List.getElem_mem _)
end VeT
open Go Go.Proofs Ve
namespace VeT
def InR(p:Int)(W:Nat)(rows:List Sim)(x:Sim):Prop:=Spn p rows.length W (qdy rows) (fun j=>x.getD j 0)
end VeT
open Go Go.Proofs Ve
namespace VeT
theorem InR.mem{p:Int}{W:Nat}{rows:List Sim}{r:Sim}(h:r∈rows):InR p W rows r:=by
 obtain⟨i,hi,e⟩:=List.mem_iff_getElem.1 h
 have:qdy rows i=fun j=>r.getD j 0:=by funext j;unfold qdy;rw[qaf hi,e]
 unfold InR
 rw[← this]
 exact Spn.row hi
theorem InR.trans{p:Int}{W:Nat}{A B:List Sim}{y:Sim}(h:∀ r∈A,InR p W B r)(hy:InR p W A y):InR p W B y :=
 Spn.trans (fun i hi=>by
  have e:qdy A i=fun j=>(A[i]).getD j 0:=by funext j;unfold qdy;rw[qaf hi]
  rw[e]
  exact h _ (List.getElem_mem hi)) hy
def qp4(p:Int)(W:Nat)(A B:List Sim):Prop:=∀ y,InR p W A y↔InR p W B y
theorem qp4.refl{p:Int}{W:Nat}{A:List Sim}:qp4 p W A A:=fun _=>Iff.rfl
end VeT
open Go Go.Proofs Ve
namespace VeT
def qqw(p:Int)(W:Nat)(cells:Sim)(h:List Sim):Prop:=(cells.length=W*h.length∧qbz cells p)∧∀ i j,i<W→j<h.length→qcg cells h.length i j=qdy h j i
theorem qqw.next{p:Int}{W:Nat}{cells:Sim}{h:List Sim}{v:Sim}(hc:qqw p W cells h)(hv:qbz v p)(hl:v.length=W):qqw p W (qqx cells v h.length W) (h++[v]):=by
 have hlen:(h++[v]).length=h.length+1:=by simp
 have hA0:=qeS hc.1.2 hc.1.1
 have hA1:=qpl hA0 hv hl
 refine⟨⟨by rw[hlen];exact qav,fun x hx=>?_⟩,fun i j hi hj=>?_⟩
 ·unfold qqx at hx
  rw[← qdi] at hx
  obtain⟨row,hrow,hx⟩:=List.mem_flatten.1 hx
  obtain⟨i,hi,rfl⟩:=List.mem_map.1 hrow
  obtain⟨j,hj,rfl⟩:=List.mem_map.1 hx
  exact hA1 i j (List.mem_range.1 hi) (List.mem_range.1 hj)
 ·rw[hlen] at hj ⊢
  unfold qqx
  rw[qfy hi hj]
  unfold qqs qdy
  by_cases hjh:j<h.length
  ·rw[if_neg (by omega),hc.2 i j hi hjh,List.getD_eq_getElem?_getD (l:=h++[v]),List.getElem?_append_left hjh,← List.getD_eq_getElem?_getD];rfl
  ·obtain rfl:j=h.length:=by omega
   rw[if_pos rfl,List.getD_eq_getElem?_getD (l:=h++[v]),List.getElem?_append_right (Nat.le_refl _)];simp
end VeT
open Go Go.Proofs Ve
namespace VeT
theorem InR.left{p:Int}{W:Nat}{A B:List Sim}{x:Sim}(h:InR p W A x):InR p W (A++B) x:=InR.trans (fun r hr=>InR.mem (List.mem_append.2 (.inl hr))) h
end VeT
open Go Go.Proofs Ve
namespace VeT
theorem qnP{p:Int}{W:Nat}{pv:List Nat}{F:Ent}:∀ {n c:Nat},c<n→c∉pv→qiW p W pv F c pv.length∈qft p W pv F n
 | n+1,c,h,hc=>by
  rw[qft,List.mem_append]
  by_cases e:c=n
  ·subst e
   right;rw[if_neg hc];exact List.mem_singleton.2 rfl
  ·exact .inl (qnP (by omega) hc)
theorem qnz{p:Int}{R W c:Nat}{pv:List Nat}{F:Ent}(hrf:Rf R W F pv):∀ n,n≤pv.length→∀ i,i<n→(qiW p W pv F c n).getD (pv.getD i 0) 0=(0-F i c)%p
 | 0,_,i,hi=>by omega
 | n+1,hn,i,hi=>by
  have hq:=hrf.lt n (by omega)
  rw[qcV,qcy (by rw[qbC];exact hq)]
  by_cases e:i=n
  ·subst e;rw[if_pos rfl]
  ·have:=hrf.mono i n (by omega) (by omega)
   rw[if_neg (by omega)];exact qnz hrf n (by omega) i (by omega)
theorem qfc{p:Int}{R W c j:Nat}{pv:List Nat}{F:Ent}(hrf:Rf R W F pv)(hj:j<W)(hjp:j∉pv)(hc:c<W):∀ n,n≤pv.length→(qiW p W pv F c n).getD j 0=if j=c then 1 else 0
 | 0,_=>by
  show((List.replicate W (0:Int)).set c 1).getD j 0=_
  rw[qcy (by simpa using hc)]
  split
  ·rfl
  ·rw[List.getD_eq_getElem?_getD,List.getElem?_replicate,if_pos hj];rfl
 | n+1,hn=>by
  have hq:=hrf.lt n (by omega)
  rw[qcV,qcy (by rw[qbC];exact hq),if_neg fun e=>hjp (by rw[e];exact qfk (by omega))]
  exact qfc hrf hj hjp hc n (by omega)
theorem qp9{pv:List Nat}{j:Nat}(h:j∈pv):∃ i,i<pv.length∧pv.getD i 0=j:=by
 obtain⟨i,hi,e⟩:=List.mem_iff_getElem.1 h
 exact⟨i,hi,by rw[qaf hi];exact e⟩
open Classical in
theorem qnY{p:Int}{R W:Nat}{cells x:Sim}(hp:Pr p)(hl:cells.length=R*W)(he:qbz cells p)(h0:∀ i,i<R→qaT (fun j=>x.getD j 0) (qcg cells W i) W%p=0):InR p W (qk4 p R W cells) x:=by
  have hA:=qeS he hl
  obtain⟨hrf,heq⟩:=qiF hp hA W (Nat.le_refl _)
  have hF0:∀ i,i<R→qaT (fun j=>x.getD j 0) ((elS p R (qcg cells W) W).1 i) W%p=0:=fun i hi=>Spn.orth h0 (heq.1 i hi)
  unfold qk4
  generalize elS p R (qcg cells W) W=S at hrf hF0
  obtain⟨F,pv⟩:=S
  simp only at hrf hF0 ⊢
  let K:Ent:=fun c j=>if c∈pv then 0 else(qiW p W pv F c pv.length).getD j 0
  refine(Spn.sum (c:=fun j=>x.getD j 0) (B:=K) (n:=W) fun c hc=>?_).congr fun j hj=>?_
  · by_cases h:c∈pv
    · rw[show K c=fun _=>0 by funext j;simp[K,h]];exact Spn.zero
    · rw[show K c=fun j=>(qiW p W pv F c pv.length).getD j 0 by funext j;simp[K,h]]
      exact InR.mem (qnP hc h)
  · show qaT (fun j=>x.getD j 0) (fun c=>K c j) W%p=x.getD j 0%p
    by_cases hjp:j∈pv
    · obtain⟨i,hi,rfl⟩:=qp9 hjp
      have hiR:i<R:=Nat.lt_of_lt_of_le hi hrf.len
      have e:qaT (fun j=>x.getD j 0) (fun c=>F i c+K c (pv.getD i 0)) W%p=qaT (fun j=>x.getD j 0) (fun c=>if c=pv.getD i 0 then 1 else 0) W%p:=qed fun c hc=>by
        by_cases hcp:c∈pv
        · obtain⟨k,hk,rfl⟩:=qp9 hcp
          have h1:=hrf.one i k hiR hk
          rw[show K (pv.getD k 0) (pv.getD i 0)=0 from if_pos hcp,Int.add_zero,h1]
          by_cases hik:i=k
          · subst hik;simp
          · rw[if_neg hik,if_neg]
            intro e
            rcases Nat.lt_or_gt_of_ne hik with h | h
            · have:=hrf.mono i k h hk;omega
            · have:=hrf.mono k i h hi;omega
        · rw[show K c (pv.getD i 0)=(0-F i c)%p from(if_neg hcp).trans (qnz hrf pv.length (Nat.le_refl _) i hi),if_neg fun e=>hcp (by rw[e];exact qfk hi),Int.add_emod,Int.emod_emod_of_dvd _ (Int.dvd_refl p),← Int.add_emod,show F i c+(0-F i c)=0 by omega]
      rw[qgQ,Int.add_emod,hF0 i hiR,Int.zero_add,Int.emod_emod_of_dvd _ (Int.dvd_refl p),qbt (g:=fun c=>if c=pv.getD i 0 then 1 else 0),qdd (hrf.lt i hi)] at e
      exact e
    · rw[qaS (d:=fun j=>x.getD j 0) (h:=fun c=>if c=j then 1 else 0) fun c hc=>⟨rfl,by
        by_cases hcp:c∈pv
        · rw[show K c j=0 from if_pos hcp,if_neg fun(e:c=j)=>hjp (by rw[← e];exact hcp)]
        · rw[show K c j=if j=c then 1 else 0 from(if_neg hcp).trans (qfc hrf hj hjp hc pv.length (Nat.le_refl _))]
          by_cases e:j=c
          · rw[if_pos e,if_pos e.symm]
          · rw[if_neg e,if_neg fun e2=>e e2.symm]⟩,qbt,qdd hj]
end VeT
open Go Go.Proofs Ve
namespace VeT
end VeT
