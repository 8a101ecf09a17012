import Derived.Test.YtjnnliedeobfgaaGreatT5
import Derived.Test.YtjnnliedeobfgaaGreatV2
import Derived.KernelRfl
set_option linter.unusedVariables false
set_option linter.unusedSimpArgs false
open Go Go.Proofs Ve
namespace VeT
theorem qnE{c:List Sim}{st:Sim}(hst:∀ x∈st,0≤x∧x≤3)(d:Int):0≤qiD c st d (qav c d c.length).length:=(qkf hst d _).1
def SD(c:List Sim)(st:Sim)(d:Int):Int:=qiD c st d (qav c d c.length).length
def SK(c:List Sim)(st:Sim):Prop:=st.length=c.length∧(∀ x∈st,0≤x∧x≤3)∧∀ d:Nat,d<4→SD c st (d:Int)≤32
theorem qh8(n:Int):Ret E n_Z28 [dI n] ⟨o_Z28,(!pb (0≤n∧n≤3),())⟩:=by
 refine qaj ?_
 simp only[run_Z28,Z28.ev]
 exact qaa (qc3 _ _ _) qal
theorem qjM(c:List Sim)(st:Sim)(hc:Sm (.sl (.sl (.int .i64))) c)(hs:st.length≤1048576):Ret E n_Z27 [dLL c,dL st] ⟨o_Z27,(pb (SK c st),())⟩:=by
  refine qaj ?_
  simp only[run_Z27,Z27.ev]
  refine qbL (fun h=>?_) fun h=>?_
  · simp only[Z27.j0_eq _ qae,cond_true]
    have h:¬ (st.length:Int)=c.length:=by simpa using h
    rw[qat fun hk=>h (by rw[hk.1])];(first | exact qal | exact Ev.of fun _=>trivial)
  have hl : st.length = c.length := by have : (st.length : Int) = c.length := by simpa using h
                                       omega
  refine qaa (qbm st _ hs fun x _=>qh8 x) ?_
  simp only[Z27.j0_eq _ qae]
  have e:=qjP (s:=st) (P:=fun x=>0≤x∧x≤3)
  refine qbL (fun h=>?_) fun h=>?_
  · simp only[h] at e
    rw[qat fun hk=>qaY.1 e.symm hk.2.1];(first | exact qal | exact Ev.of fun _=>trivial)
  · simp only[h] at e
    have hst:∀ x∈st,0≤x∧x≤3:=qaG.1 e.symm
    refine Ev.start (p:=fun φ n=>Z27.l1 (mkR (run E (φ 0))) (φ 0) n st 0 c=_) 1 ?_ (fun _ _ _ h=>h)
    refine(qdN 1 (L:=fun φ n k=>Z27.l1 (mkR (run E (φ 0))) (φ 0) n st k c) (len:=4) 0 (by omega) (fun d=>SD c st (d:Int)≤32) (fun b=>some ⟨o_Z27,(b,())⟩) (fun _ _ _ _=>rfl) (fun k h1 h2 hP _=>?_) (fun k r h1 h2 hP _ ih=>?_) (fun _=>?_)).to ?_
    · simp only[Z27.l1_succ _ qae]
      exact qaC (decide_eq_true (by omega)) (qaa (qcM c st _ _ _ hc hl hst (by omega)) (qaC (decide_eq_true (Int.not_le.1 hP)) qal))
    · simp only[Z27.l1_succ _ qae]
      refine qaC (decide_eq_true (by omega)) (qaa (qcM c st _ _ _ hc hl hst (by omega)) (qaI (decide_eq_false (Int.not_lt.2 hP)) ?_))
      rw[qad (by omega)];exact ih
    · simp only[Z27.l1_succ _ qae]
      exact qaI (decide_eq_false (by omega)) qal
    · exact congrArg (fun b:Bool=>some (⟨o_Z27,(b,())⟩:Dv)) (qaN ⟨fun h=>⟨hl,hst,fun d hd=>h d (by omega) hd⟩,fun h d _ hd=>h.2.2 d hd⟩)
theorem qjD(c:List Sim)(st:Sim)(hc:Sm (.sl (.sl (.int .i64))) c)(hs:st.length≤1048576):Ret E n_Z174 [dC (c,()),dL st] ⟨o_Z174,(pb (SK c st),())⟩:=by
 refine qaj ?_
 simp only[run_Z174,Z174.ev]
 refine qaa (qdV st _ _ hs (by omega)) (qbL (fun h=>?_) fun h=>?_)
 ·have h:=qaY.1 (show pb (qax st 4∧(st.length:Int)=c.length)=false by simpa using h)
  rw[qat fun hk=>h ⟨hk.2.1,by rw[hk.1]⟩];(first | exact qal | exact Ev.of fun _=>trivial)
 ·have h:=qaG.1 (show pb (qax st 4∧(st.length:Int)=c.length)=true by simpa using h)
  have hl:st.length=c.length:=by have:=h.2;omega
  have hst:∀ x∈st,0≤x∧x≤3:=h.1
  refine Ev.start (p:=fun φ n=>Z174.l0 (mkR (run E (φ 0))) (φ 0) n (c,()) st 0=_) 1 ?_ (fun _ _ _ h=>h)
  refine(qdN 1 (L:=fun φ n k=>Z174.l0 (mkR (run E (φ 0))) (φ 0) n (c,()) st k) (len:=4) 0 (by omega) (fun d=>SD c st (d:Int)≤32) (fun b=>some ⟨o_Z174,(b,())⟩) (fun _ _ _ _=>rfl) (fun k h1 h2 hP _=>?_) (fun k r h1 h2 hP _ ih=>?_) (fun _=>?_)).to ?_
  ·simp only[Z174.l0_succ _ qae]
   exact qaC (decide_eq_true (by omega)) (qaa (qcX c st _ hc hl hst (by omega)) (qaC (decide_eq_true (Int.not_le.1 hP)) qal))
  ·simp only[Z174.l0_succ _ qae]
   refine qaC (decide_eq_true (by omega)) (qaa (qcX c st _ hc hl hst (by omega)) (qaI (decide_eq_false (Int.not_lt.2 hP)) ?_))
   rw[qad (by omega)];exact ih
  ·simp only[Z174.l0_succ _ qae]
   exact qaI (decide_eq_false (by omega)) qal
  ·exact congrArg (fun b:Bool=>some (⟨o_Z174,(b,())⟩:Dv)) (qaN ⟨fun h=>⟨hl,hst,fun d hd=>h d (by omega) hd⟩,fun h d _ hd=>h.2.2 d hd⟩)
noncomputable def qaH(c:List Sim)(k:Nat):List Int:=(qcp (c.getD k [])).map (qeu c)
theorem qp8{c:List Sim}{s:Sim}:qeu c s<c.length∧-1≤qeu c s:=by
 unfold qeu qjH
 cases h:c.findIdx? (fun x=>pb (x=s)) with
 | none=>simp only[o2i];omega
 | some k =>
  rw[List.findIdx?_eq_some_iff_getElem] at h
  obtain⟨h,_⟩:=h
  simp only[o2i];omega
theorem qaF{c:List Sim}{k:Nat}:(qaH c k).length=if 1<(c.getD k []).length then(c.getD k []).length else 0:=by
 unfold qaH qcp
 rw[List.length_map]
 split<;>simp
theorem qkg{c:List Sim}(h:VC c){k:Nat}(hk:k<c.length){x:Int}(hx:x∈qaH c k):0≤x∧x<c.length:=by
 unfold qaH at hx
 rw[List.mem_map] at hx
 obtain⟨f,hf,rfl⟩:=hx
 exact⟨qba.2 (h.2.2.2 k hk f hf),qp8.1⟩
theorem qdc(c:List Sim)(k:Nat)(hk:k<c.length)(hc:Sm (.sl (.sl (.int .i64))) c)(hs:Srt c):Ret E n_Z43 [dLL c,dI (k:Int)] ⟨o_Z43,(qaH c k,())⟩:=by
 have hks:(c[k]).length≤1048576:=(qb2 hc hk).1
 have hfl:=qgH (s:=c[k])
 refine qaj ?_
 simp only[run_Z43,Z43.ev]
 refine qac (qak hk) (qaa (qfq _ hks) ?_)
 refine Ev.start (p:=fun φ n=>Z43.l0 (mkR (run E (φ 0))) (φ 0) n (qcp c[k]) ((qcp c[k]).length:Int) 0 c []=_) 1 ?_ (fun _ _ _ h=>h)
 refine qan 1 (L:=fun φ n j a=>Z43.l0 (mkR (run E (φ 0))) (φ 0) n (qcp c[k]) ((qcp c[k]).length:Int) j c a) (len:=(qcp c[k]).length) (fun j=>((qcp c[k]).take j).map (qeu c)) (fun _ _ _ _ _=>rfl) (fun j r hj ih=>?_) ?_
 ·simp only[Z43.l0_succ _ qae]
  rw[List.take_succ_eq_append_getElem hj,List.map_append] at ih
  refine qaC (decide_eq_true (by omega)) (qac (qak hj) (qaa (qh0 c _ hc hs) (qao (by simp;omega) ?_)))
  rw[qad (by omega)];exact ih
 ·simp only[Z43.l0_succ _ qae]
  refine qaI (decide_eq_false (by omega)) (qah ?_)
  rw[List.take_of_length_le (Nat.le_refl _),qaH,qag hk]
theorem qcG(c:List Sim)(k:Nat)(hk:k<c.length)(hc:Sm (.sl (.sl (.int .i64))) c):Ret E n_Z154 [dC (c,()),dI (k:Int)] ⟨o_Z154,(qaH c k,())⟩:=by
 have hks:(c[k]).length≤1048576:=(qb2 hc hk).1
 refine qaj ?_
 simp only[run_Z154,Z154.ev]
 refine qac (qak hk) ?_
 refine Ev.start (p:=fun φ n=>Z154.l0 (mkR (run E (φ 0))) (φ 0) n (c,()) c[k] 0 []=_) 1 ?_ (fun _ _ _ h=>h)
 by_cases hlen:1<(c[k]).length
 ·refine qan 1 (L:=fun φ n j a=>Z154.l0 (mkR (run E (φ 0))) (φ 0) n (c,()) c[k] j a) (len:=(c[k]).length) (fun j=>(List.range j).map fun i=>qeu c ((c[k]).eraseIdx i)) (fun _ _ _ _ _=>rfl) (fun j r hj ih=>?_) ?_
  ·simp only[Z154.l0_succ _ qae]
   rw[List.range_succ,List.map_append] at ih
   refine qaC (decide_eq_true (by omega)) ?_
   simp only[show decide (((c[k]).length:Int)>1)=true from decide_eq_true (by omega),Z154.j1_eq _ qae,cond_true]
   refine qaa (qdO _ j hj hks) (qaa (qb7 (c,()) _ hc) (qao (by simp;omega) ?_))
   rw[qad (by omega)];exact ih
  ·simp only[Z154.l0_succ _ qae]
   refine qaI (decide_eq_false (by omega)) ?_
   simp only[Z154.j1_eq _ qae,cond_false]
   refine qah ?_
   rw[qaH,qag hk,qcp,if_pos hlen,List.map_map];rfl
 ·refine Ev.round 1 (L:=fun φ n=>Z154.l0 (mkR (run E (φ 0))) (φ 0) n (c,()) c[k] 0 []) ?_ (fun _ _ _=>rfl)
  have hj:Ev fun φ=>Z154.j1 (mkR (run E (φ 0))) (φ 0) (φ 1) (c,()) c[k] 0 false []=some ⟨o_Z154,(qaH c k,())⟩:=by
   simp only[Z154.j1_eq _ qae,cond_false]
   refine qah ?_
   rw[qaH,qag hk,qcp,if_neg hlen];rfl
  simp only[Z154.l0_succ _ qae]
  refine qee (fun _=>?_) fun _=>hj
  simp only[show decide (((c[k]).length:Int)>1)=false from decide_eq_false (by omega)]
  exact hj
abbrev Arw:=Int×Int×Int×Unit
noncomputable def qmD(c:List Sim)(k i:Nat):List Arw:=(List.range i).map fun(j:Nat)=>((k:Int),(j:Int),(qaH c k).getD j 0,())
noncomputable def qb4(c:List Sim):Nat→List Arw
 | 0=>[]
 | k+1=>qb4 c k++qmD c k (qaH c k).length
noncomputable def plc(c:List Sim)(k:Nat):Nat:=(qb4 c k).length
theorem qdY{c:List Sim}{k i:Nat}:(qmD c k i).length=i:=by simp[qmD]
theorem qeP{c:List Sim}{k:Nat}:plc c (k+1)=plc c k+(qaH c k).length:=by
 unfold plc;rw[qb4,List.length_append,qdY]
theorem VC.len4{c:List Sim}(h:VC c){k:Nat}(hk:k<c.length):(c.getD k []).length≤4:=(h.2.1 k hk).2.1
theorem VC.fIdx4{c:List Sim}(h:VC c){k:Nat}(hk:k<c.length):(qaH c k).length≤4:=by
 have:=h.len4 hk
 rw[qaF];split<;>omega
theorem VC.plc{c:List Sim}(h:VC c):∀ {k:Nat},k≤c.length→plc c k≤4*k
 | 0,_=>by simp[VeT.plc,qb4]
 | k+1,hk=>by
  have h1:=h.plc (k:=k) (by omega)
  have h2:=h.fIdx4 (k:=k) (by omega)
  rw[qeP];omega
theorem qcB{c:List Sim}:∀ {n k i:Nat},k<n→i<(qaH c k).length→(qb4 c n)[plc c k+i]? = some ((k:Int),(i:Int),(qaH c k).getD i 0,())
 | 0,_,_,h,_=>by omega
 | n+1,k,i,h,hi=>by
  rw[qb4]
  by_cases hk:k<n
  ·have:=qcB hk hi
   have hl:=(List.getElem?_eq_some_iff.1 this).1
   rw[List.getElem?_append_left hl];exact this
  ·obtain rfl:k=n:=by omega
   rw[List.getElem?_append_right (by unfold plc;omega)]
   rw[show plc c k+i-(qb4 c k).length=i by unfold plc;omega]
   simp[qmD,hi]
theorem qhp{c:List Sim}:∀ {n t:Nat},t<(qb4 c n).length→∃ k i,k<n∧i<(qaH c k).length∧t=plc c k+i
 | 0,_,h=>by simp[qb4] at h
 | n+1,t,h=>by
  by_cases ht:t<(qb4 c n).length
  ·obtain⟨k,i,h1,h2,h3⟩:=qhp ht
   exact⟨k,i,by omega,h2,h3⟩
  ·rw[qb4,List.length_append,qdY] at h
   exact⟨n,t-(qb4 c n).length,by omega,by omega,by unfold plc;omega⟩
theorem qnN(c:List Sim)(hc:Sm (.sl (.sl (.int .i64))) c)(hv:VC c):Ret E n_Z29 [dLL c] ⟨o_Z29,(qb4 c c.length,())⟩:=by
 have hs:=hv.srt
 have h48:=hv.1
 refine qaj ?_
 simp only[run_Z29,Z29.ev]
 refine qaa (qlq _) ?_
 refine Ev.start (p:=fun φ n=>Z29.l0 (mkR (run E (φ 0))) (φ 0) n (c.length:Int) 0 c []=_) 1 ?_ (fun _ _ _ h=>h)
 refine qan 1 (L:=fun φ n k a=>Z29.l0 (mkR (run E (φ 0))) (φ 0) n (c.length:Int) k c a) (len:=c.length) (fun k=>qb4 c k) (fun _ _ _ _ _=>rfl) (fun k r hk ih=>?_) ?_
 ·simp only[Z29.l0_succ _ qae]
  have hpl:=hv.plc (k:=k) (by omega)
  have hf4:=hv.fIdx4 hk
  refine qaC (decide_eq_true (by omega)) (qaa (qdc c k hk hc hs) ?_)
  refine Ev.start (p:=fun φ n=>Z29.l1 (mkR (run E (φ 0))) (φ 0) (φ 1) n (k:Int) (c.length:Int) (k:Int) (qaH c k) ((qaH c k).length:Int) 0 c (qb4 c k)=_) 2 ?_ (fun _ _ _ h=>h)
  have:=qan 2 (L:=fun φ n j a=>Z29.l1 (mkR (run E (φ 0))) (φ 0) (φ 1) n (k:Int) (c.length:Int) (k:Int) (qaH c k) ((qaH c k).length:Int) j c a) (len:=(qaH c k).length) (fun j=>qb4 c k++qmD c k j) (r:=r) (fun _ _ _ _ _=>rfl) (fun j r hj ih=>?_) ?_
  ·simpa [qmD] using this
  ·simp only[Z29.l1_succ _ qae]
   refine qaC (decide_eq_true (by omega)) (qac (qak hj) (qao (decide_eq_true ?_) ?_))
   ·rw[List.length_append,qdY];show(_+_+1)*24≤_
    have:(qb4 c k).length=plc c k:=rfl
    omega
   ·rw[qad (by omega)]
    have e:qmD c k (j+1)=qmD c k j++[((k:Int),(j:Int),(qaH c k)[j],())]:=by
     unfold qmD;rw[List.range_succ,List.map_append];simp[List.getD_eq_getElem?_getD,hj]
    rw[e,← List.append_assoc] at ih
    exact ih
  ·simp only[Z29.l1_succ _ qae]
   refine qaI (decide_eq_false (by omega)) ?_
   rw[qad (by omega)];exact ih
 ·simp only[Z29.l0_succ _ qae]
  exact qaI (decide_eq_false (by omega)) qal
theorem qdv(c:List Sim)(k i:Nat)(hk:k≤c.length)(hi:i≤1048576)(hv:VC c):Ret E n_Z173 [dC (c,()),dI (k:Int),dI (i:Int)] ⟨o_Z173,(((plc c k+i:Nat):Int),())⟩:=by
 have h48:=hv.1
 refine qaj ?_
 simp only[run_Z173,Z173.ev]
 refine Ev.start (p:=fun φ n=>Z173.l0 (mkR (run E (φ 0))) (φ 0) n (c,()) (k:Int) (i:Int) 0 0=_) 1 ?_ (fun _ _ _ h=>h)
 have:=qan 1 (L:=fun φ n j a=>Z173.l0 (mkR (run E (φ 0))) (φ 0) n (c,()) (k:Int) (i:Int) a j) (len:=k) (fun j=>((plc c j:Nat):Int)) (r:=some ⟨o_Z173,(((plc c k+i:Nat):Int),())⟩) (fun _ _ _ _ _=>rfl) (fun j r hj ih=>?_) ?_
 ·exact this
 ·simp only[Z173.l0_succ _ qae]
  have hjc:j<c.length:=by omega
  have hpl:=hv.plc (k:=j) (by omega)
  have h4:=hv.len4 hjc
  have e:=qeP (c:=c) (k:=j)
  rw[qaF] at e
  rw[qag hjc] at e h4
  refine qaC (decide_eq_true (by omega)) (qac (qak hjc) (qee (fun hl=>qac (qak hjc) ?_) fun hl=>?_))
  ·rw[if_pos (by omega)] at e
   rw[qad (by omega),qaf (by omega) (by omega)]
   rw[e] at ih
   simpa using ih
  ·rw[if_neg (by omega)] at e
   rw[qad (by omega)]
   rw[e] at ih;exact ih
 ·simp only[Z173.l0_succ _ qae]
  have hpl:=hv.plc hk
  refine qaI (decide_eq_false (by omega)) (qah ?_)
  rw[qaf (by omega) (by omega)]
  simp
theorem qlo(c:List Sim)(hv:VC c):Ret E n_Z164 [dC (c,())] ⟨o_Z164,(((plc c c.length:Nat):Int),())⟩:=by
 refine qaj ?_
 simp only[run_Z164,Z164.ev]
 exact qaa (qdv c c.length 0 (Nat.le_refl _) (by omega) hv) qal
end VeT
open Go Go.Proofs Ve
namespace VeT
def mz:Mat:=(0,0,0,[],())
def QB(p:Int)(st:Sim)(ms:List Mat)(t k:Nat)(f:Int):Prop:=Bt (ms.getD t mz) p (st.getD f.toNat 0) (st.getD k 0)
def VS(c:List Sim)(p:Int)(st:Sim)(ms:List Mat):Prop:=VC c∧Pr p∧SK c st∧plc c c.length=ms.length∧∀ k,k<c.length→∀ i,i<(qaH c k).length→QB p st ms (plc c k+i) k ((qaH c k).getD i 0)
def az:Arw:=(0,0,0,())
def QA(p:Int)(st:Sim)(ms:List Mat)(t:Nat)(a:Arw):Prop:=t<ms.length∧Bt (ms.getD t mz) p (st.getD a.2.2.1.toNat 0) (st.getD a.1.toNat 0)
theorem qpv{c:List Sim}{p:Int}{st:Sim}{ms:List Mat}(hl:plc c c.length=ms.length) :
  (∀ t,0≤t→t<plc c c.length→QA p st ms t ((qb4 c c.length).getD t az))↔∀ k,k<c.length→∀ i,i<(qaH c k).length→QB p st ms (plc c k+i) k ((qaH c k).getD i 0):=by
 constructor
 ·intro h k hk i hi
  have hg:=qcB hk hi
  have hlt:=(List.getElem?_eq_some_iff.1 hg).1
  have:=h (plc c k+i) (by omega) hlt
  rw[List.getD_eq_getElem?_getD,hg] at this
  exact this.2
 ·intro h t _ ht
  obtain⟨k,i,hk,hi,rfl⟩:=qhp ht
  have hg:=qcB hk hi
  have:=h k hk i hi
  rw[List.getD_eq_getElem?_getD,hg]
  exact⟨by omega,this⟩
theorem qom{ms:List Mat}(h:Sm (.sl (.st cM)) ms){t:Nat}(ht:t<ms.length):Sm (.st cM) ms[t]:=h.2 _ (List.getElem_mem ht)
theorem qfK(c:List Sim)(p:Int)(st:Sim)(ms:List Mat)(hc:Sm (.sl (.sl (.int .i64))) c)(hst:st.length≤1048576)(hm:Sm (.sl (.st cM)) ms) :
    Ret E n_Z19 [dLL c,dI p,dL st,dMs ms] ⟨o_Z19,(pb (VS c p st ms),())⟩:=by
  have hm1:ms.length≤1048576:=hm.1
  refine qaj ?_
  simp only[run_Z19,Z19.ev]
  have no:¬ VS c p st ms→Ev fun φ=>Z19.j0 (mkR (run E (φ 0))) (φ 0) true c p st ms=some ⟨o_Z19,(pb (VS c p st ms),())⟩:=fun h=>by
    simp only[Z19.j0_eq _ qae,cond_true]
    rw[qat h];(first | exact qal | exact Ev.of fun _=>trivial)
  refine qaa (qg5 c hc) (qbL (fun h=>no fun hv=>qaY.1 (show pb (VC c)=false by simpa using h) hv.1) fun h=>?_)
  have hv:VC c:=qaG.1 (by simpa using h)
  refine qaa (qfd p) (qbL (fun h=>no fun hv=>qaY.1 (show pb (Pr p)=false by simpa using h) hv.2.1) fun h=>?_)
  have hp:Pr p:=qaG.1 (by simpa using h)
  refine qaa (qjM c st hc hst) ?_
  by_cases hk:SK c st
  · simp only[qaP hk,Bool.not_true,Z19.j0_eq _ qae,cond_false]
    refine qaa (qnN c hc hv) ?_
    have hpl:=hv.plc (Nat.le_refl _)
    have h48:=hv.1
    refine Ev.start (p:=fun φ n=>Z19.l1 (mkR (run E (φ 0))) (φ 0) n (qb4 c c.length) (qb4 c c.length) ((qb4 c c.length).length:Int) 0 c p st ms=_) 1 ?_ (fun _ _ _ h=>h)
    have get:∀ t (ht:t<plc c c.length),∃ k i,k<c.length∧i<(qaH c k).length∧(qb4 c c.length)[t]? = some ((k:Int),(i:Int),(qaH c k).getD i 0,())∧((qaH c k).getD i 0).toNat<st.length∧0≤(qaH c k).getD i 0:=fun t ht=>by
      obtain⟨k,i,hk',hi,rfl⟩:=qhp ht
      have hb:=qkg hv hk' (List.getElem_mem hi)
      exact⟨k,i,hk',hi,qcB hk' hi,by rw[qag hi,hk.1];omega,by rw[qag hi];omega⟩
    refine(qdN 1 (L:=fun φ n t=>Z19.l1 (mkR (run E (φ 0))) (φ 0) n (qb4 c c.length) (qb4 c c.length) ((qb4 c c.length).length:Int) t c p st ms) (len:=plc c c.length) 0 (by omega) (fun t=>QA p st ms t ((qb4 c c.length).getD t az)) (fun b=>some ⟨o_Z19,(b&&((plc c c.length:Int)==(ms.length:Int)),())⟩) (fun _ _ _ _=>rfl) (fun t h1 h2 hP _=>?_) (fun t r h1 h2 hP _ ih=>?_) (fun _=>?_)).to ?_
    · simp only[Z19.l1_succ _ qae]
      obtain⟨k,i,hkc,hi,hg,hf,hf0⟩:=get t h2
      have hlt:t<(qb4 c c.length).length:=h2
      have hgt:(qb4 c c.length)[t]=((k:Int),(i:Int),(qaH c k).getD i 0,()):=by
        rw[List.getElem?_eq_getElem hlt] at hg;exact Option.some.inj hg
      refine qaC (decide_eq_true (by omega)) (qac (qak hlt) ?_)
      rw[qag hlt] at hP
      rw[hgt] at hP ⊢
      refine qee (fun hge=>?_) fun hge=>?_
      · simp only[Z19.j2_eq _ qae,cond_true];(first | exact qal | exact Ev.of fun _=>trivial)
      · have htm:t<ms.length:=by omega
        refine qac (qak htm) ?_
        simp only
        rw[show(qaH c k).getD i 0=((((qaH c k).getD i 0).toNat:Nat):Int) by omega]
        refine qac (qak hf) (qac (qak (show k<st.length by rw[hk.1];exact hkc)) (qaa (qf0 _ _ _ _ (qom hm htm)) ?_))
        have:¬ Bt ms[t] p st[((qaH c k).getD i 0).toNat] (st[k]'(by rw[hk.1];exact hkc)):=fun hb=>hP ⟨htm,by
          simp only[Int.toNat_natCast]
          rw[qag htm,qag hf,qag (s:=st) (k:=k) (by rw[hk.1];exact hkc)];exact hb⟩
        simp only[qat this,Bool.not_false,Z19.j2_eq _ qae,cond_true];(first | exact qal | exact Ev.of fun _=>trivial)
    · simp only[Z19.l1_succ _ qae]
      obtain⟨k,i,hkc,hi,hg,hf,hf0⟩:=get t h2
      have hlt:t<(qb4 c c.length).length:=h2
      have hgt:(qb4 c c.length)[t]=((k:Int),(i:Int),(qaH c k).getD i 0,()):=by
        rw[List.getElem?_eq_getElem hlt] at hg;exact Option.some.inj hg
      refine qaC (decide_eq_true (by omega)) (qac (qak hlt) ?_)
      rw[qag hlt] at hP
      rw[hgt] at hP ⊢
      obtain⟨htm,hb⟩:=hP
      refine qaI (decide_eq_false (by omega)) (qac (qak htm) ?_)
      simp only
      rw[show(qaH c k).getD i 0=((((qaH c k).getD i 0).toNat:Nat):Int) by omega]
      refine qac (qak hf) (qac (qak (show k<st.length by rw[hk.1];exact hkc)) (qaa (qf0 _ _ _ _ (qom hm htm)) ?_))
      simp only[Int.toNat_natCast] at hb
      rw[qag htm,qag hf,qag (s:=st) (k:=k) (by rw[hk.1];exact hkc)] at hb
      simp only[qaP hb,Bool.not_true,Z19.j2_eq _ qae,cond_false]
      rw[qad (by omega)];exact ih
    · simp only[Z19.l1_succ _ qae]
      exact qaI (decide_eq_false (by show ¬ ((plc c c.length:Nat):Int)<((plc c c.length:Nat):Int);omega)) (qah (by rw[Bool.true_and];rfl))
    · have:(pb (∀ t,0≤t→t<plc c c.length→QA p st ms t ((qb4 c c.length).getD t az))&&((plc c c.length:Int)==(ms.length:Int)))=pb (VS c p st ms):=qim (by
        rw[Bool.and_eq_true,qaG,beq_iff_eq]
        constructor
        · rintro⟨h1,h2⟩
          have h2:plc c c.length=ms.length:=by omega
          exact⟨hv,hp,hk,h2,(qpv h2).1 h1⟩
        · rintro⟨_,_,_,h2,h1⟩
          exact⟨(qpv h2).2 h1,by omega⟩)
      rw[this]
  · simp only[qat hk,Bool.not_false]
    exact no fun hv=>hk hv.2.2.1
theorem qnO(x:Shf)(k i:Nat)(m:Mat)(hv:VC x.1)(hk:SK x.1 x.2.2.1)(hkc:k<x.1.length)(hi:i<(qaH x.1 k).length)(hc:Sm (.sl (.sl (.int .i64))) x.1)(hm:Sm (.st cM) m) :
  Ret E n_Z170 [dS x,dI (k:Int),dI (i:Int),dM m] ⟨o_Z170,(pb (Bt m x.2.1 (x.2.2.1.getD ((qaH x.1 k).getD i 0).toNat 0) (x.2.2.1.getD k 0)),())⟩:=by
 have hb:=qkg hv hkc (List.getElem_mem hi)
 have hks:k<x.2.2.1.length:=by rw[hk.1];exact hkc
 have hfs:((qaH x.1 k)[i]).toNat<x.2.2.1.length:=by rw[hk.1];omega
 rw[qag hi,qag hks,qag hfs]
 refine qaj ?_
 simp only[run_Z170,Z170.ev]
 refine qaa (qcG x.1 k hkc hc) (qac (qak hi) (qaa (qlK m hm) (qbL (fun h1=>qbL (fun h2=>qac (qak hks) (qbL (fun h3=>?_) fun h3=>qah ?_)) fun h2=>qah ?_) fun h1=>qah ?_)))
 ·have e:(qaH x.1 k)[i]=((((qaH x.1 k)[i]).toNat:Nat):Int):=by omega
  refine qac ((congrArg (idx? x.2.2.1) e).trans (qak hfs)) (qah ?_)
  have:(m.2.2.1==x.2.2.1[((qaH x.1 k)[i]).toNat])=pb (Bt m x.2.1 x.2.2.1[((qaH x.1 k)[i]).toNat] x.2.2.1[k]):=qim (by
   rw[beq_iff_eq];exact⟨fun h=>⟨qaG.1 h1,by simpa using h2,by simpa using h3,h⟩,fun h=>h.2.2.2⟩)
  simp only[this]
 ·rw[qat fun h=>by have:=h.2.2.1;simp[this] at h3]
 ·rw[qat fun h=>by have:=h.2.1;simp[this] at h2]
 ·rw[qat fun h=>qaY.1 h1 h.1]
theorem qk4(x:Shf)(hx:Sm (.st cS) x):Ret E n_Z172 [dS x] ⟨o_Z172,(pb (VS x.1 x.2.1 x.2.2.1 x.2.2.2.1),())⟩:=by
 have hc:Sm (.sl (.sl (.int .i64))) x.1:=hx.1
 have hm:Sm (.sl (.st cM)) x.2.2.2.1:=hx.2.2.2.1
 have hst:x.2.2.1.length≤1048576:=hx.2.2.1.1
 refine qaj ?_
 simp only[run_Z172,Z172.ev]
 have no:¬ VS x.1 x.2.1 x.2.2.1 x.2.2.2.1→Ev fun φ=>Z172.j0 (mkR (run E (φ 0))) (φ 0) x true=some ⟨o_Z172,(pb (VS x.1 x.2.1 x.2.2.1 x.2.2.2.1),())⟩:=fun h=>by
  simp only[Z172.j0_eq _ qae,cond_true]
  rw[qat h];(first | exact qal | exact Ev.of fun _=>trivial)
 refine qaa (qog (x.1,()) hc) (qbL (fun h=>no fun hv=>qaY.1 (show pb (VC x.1)=false by simpa using h) hv.1) fun h=>?_)
 have hv:VC x.1:=qaG.1 (show pb (VC x.1)=true by simpa using h)
 refine qaa (qdm _) (qbL (fun h=>no fun hv=>qaY.1 (show pb (Pr x.2.1)=false by simpa using h) hv.2.1) fun h=>?_)
 have hp:Pr x.2.1:=qaG.1 (by simpa using h)
 refine qaa (qjD x.1 x.2.2.1 hc hst) (qbL (fun h=>no fun hv=>qaY.1 (show pb (SK x.1 x.2.2.1)=false by simpa using h) hv.2.2.1) fun h=>?_)
 have hk:SK x.1 x.2.2.1:=qaG.1 (by simpa using h)
 refine qaa (qlo x.1 hv) ?_
 by_cases hl:plc x.1 x.1.length=x.2.2.2.1.length
 ·have h48:=hv.1
  simp only[show((x.2.2.2.1.length:Int) != ((plc x.1 x.1.length:Nat):Int))=false by simp[hl],Z172.j0_eq _ qae,cond_false]
  refine Ev.start (p:=fun φ n=>Z172.l1 (mkR (run E (φ 0))) (φ 0) n x 0=_) 1 ?_ (fun _ _ _ h=>h)
  let P:Nat→Prop:=fun k=>∀ i,i<(qaH x.1 k).length→QB x.2.1 x.2.2.1 x.2.2.2.1 (plc x.1 k+i) k ((qaH x.1 k).getD i 0)
  have inner:∀(k:Nat) (h2:k<x.1.length) (r:Option Dv),(P k→Ev fun φ=>Z172.l1 (mkR (run E (φ 0))) (φ 0) (φ 1) x ((k+1:Nat):Int)=r)→(¬ P k→r=some ⟨o_Z172,(false,())⟩)→Ev fun φ=>Z172.l2 (mkR (run E (φ 0))) (φ 0) (φ 1) (φ 0) x (k:Int) 0=r:=fun k h2 r hgo hstop=>by
   have h4:=hv.len4 h2
   have hfl:=qaF (c:=x.1) (k:=k)
   rw[qag h2] at h4 hfl
   refine Ev.start (p:=fun φ n=>Z172.l2 (mkR (run E (φ 0))) (φ 0) (φ 1) n x (k:Int) 0=_) 2 ?_ (fun _ _ _ h=>h)
   by_cases hlen:1<(x.1[k]).length
   ·rw[if_pos hlen] at hfl
    have mapAt:∀ i (hi:i<(qaH x.1 k).length),∃ ht:plc x.1 k+i<x.2.2.2.1.length,∀ R,(Ev fun φ=>(bif (!pb (Bt x.2.2.2.1[plc x.1 k+i] x.2.1 (x.2.2.1.getD ((qaH x.1 k).getD i 0).toNat 0) (x.2.2.1.getD k 0))) then some ⟨o_Z172,(false,())⟩ else Z172.l2 (mkR (run E (φ 0))) (φ 0) (φ 1) (φ 2) x (k:Int) (w64 ((i:Int)+1)))=R)→Ev fun φ=>Z172.j3 (mkR (run E (φ 0))) (φ 0) (φ 1) (φ 2) x (k:Int) (i:Int) true=R:=fun i hi=>by
     have hg:=qcB h2 hi
     have hlt:=(List.getElem?_eq_some_iff.1 hg).1
     have ht:plc x.1 k+i<x.2.2.2.1.length:=by rw[← hl];exact hlt
     refine⟨ht,fun R hR=>?_⟩
     simp only[Z172.j3_eq _ qae,cond_true]
     refine qaa (qdv x.1 k i (by omega) (by omega) hv) (qac (qak ht) (qaa (qnO x k i _ hv hk h2 hi hc (qom hm ht)) hR))
    obtain⟨t,f⟩:=qkb 2 (L:=fun φ n i=>Z172.l2 (mkR (run E (φ 0))) (φ 0) (φ 1) n x (k:Int) i) (len:=(x.1[k]).length) 0 (by omega) (fun i=>QB x.2.1 x.2.2.1 x.2.2.2.1 (plc x.1 k+i) k ((qaH x.1 k).getD i 0)) (rt:=r) (rf:=some ⟨o_Z172,(false,())⟩) (fun _ _ _ _=>rfl) (fun i _ hi hP _=>by
     obtain⟨ht,hm'⟩:=mapAt i (by omega)
     simp only[Z172.l2_succ _ qae]
     refine qac (qak h2) (qaC (decide_eq_true (by omega)) (qac (qak h2) ?_))
     simp only[show decide (((x.1[k]).length:Int)>1)=true from decide_eq_true (by omega)]
     refine hm' _ (qaC ?_ qal)
     rw[qat];· rfl
     intro hb;refine hP ?_
     show Bt _ _ _ _
     rw[qag ht];exact hb) (fun i q _ hi hP _ ih=>by
     obtain⟨ht,hm'⟩:=mapAt i (by omega)
     simp only[Z172.l2_succ _ qae]
     refine qac (qak h2) (qaC (decide_eq_true (by omega)) (qac (qak h2) ?_))
     simp only[show decide (((x.1[k]).length:Int)>1)=true from decide_eq_true (by omega)]
     refine hm' _ (qaI ?_ ?_)
     ·have hP:Bt (x.2.2.2.1.getD (plc x.1 k+i) mz) _ _ _:=hP
      rw[qag ht] at hP
      rw[qaP hP];rfl
     ·rw[qad (by omega)];exact ih) (fun hall=>by
     simp only[Z172.l2_succ _ qae]
     refine qac (qak h2) (qaI (decide_eq_false (by omega)) ?_)
     simp only[Z172.j3_eq _ qae,cond_false]
     rw[qad (by omega)]
     exact hgo fun i hi=>hall i (by omega) (by omega))
    by_cases hall:∀ i,0≤i→i<(x.1[k]).length→QB x.2.1 x.2.2.1 x.2.2.2.1 (plc x.1 k+i) k ((qaH x.1 k).getD i 0)
    ·exact t hall
    ·rw[hstop fun hf=>hall fun i _ hi=>hf i (by omega)]
     exact f hall
   ·rw[if_neg hlen] at hfl
    refine Ev.round 2 (L:=fun φ n=>Z172.l2 (mkR (run E (φ 0))) (φ 0) (φ 1) n x (k:Int) 0) ?_ (fun _ _ _=>rfl)
    have hgo:=hgo fun i hi=>by omega
    have hj:Ev fun φ=>Z172.j3 (mkR (run E (φ 0))) (φ 0) (φ 1) (φ 2) x (k:Int) 0 false=r:=by
     simp only[Z172.j3_eq _ qae,cond_false]
     rw[qad (by omega)];exact hgo
    simp only[Z172.l2_succ _ qae]
    refine qac (qak h2) (qee (fun _=>qac (qak h2) ?_) fun _=>hj)
    simp only[show decide (((x.1[k]).length:Int)>1)=false from decide_eq_false (by omega)]
    exact hj
  refine(qdN 1 (L:=fun φ n k=>Z172.l1 (mkR (run E (φ 0))) (φ 0) n x k) (len:=x.1.length) 0 (by omega) P (fun b=>some ⟨o_Z172,(b,())⟩) (fun _ _ _ _=>rfl) (fun k h1 h2 hP hpre=>?_) (fun k r h1 h2 hP hpre ih=>?_) (fun _=>?_)).to ?_
  ·simp only[Z172.l1_succ _ qae]
   exact qaC (decide_eq_true (by omega)) (inner k h2 _ (fun h=>absurd h hP) fun _=>rfl)
  ·simp only[Z172.l1_succ _ qae]
   exact qaC (decide_eq_true (by omega)) (inner k h2 _ (fun _=>ih) fun h=>absurd hP h)
  ·simp only[Z172.l1_succ _ qae]
   exact qaI (decide_eq_false (by omega)) qal
  ·exact congrArg (fun b:Bool=>some (⟨o_Z172,(b,())⟩:Dv)) (qaN ⟨fun h=>⟨hv,hp,hk,hl,fun k hk'=>h k (by omega) hk'⟩,fun h k _ hk'=>h.2.2.2.2 k hk'⟩)
 ·simp only[show((x.2.2.2.1.length:Int) != ((plc x.1 x.1.length:Nat):Int))=true by simp;omega]
  exact no fun h=>hl h.2.2.2.1
end VeT
open Go Go.Proofs Ve
namespace VeT
theorem qj0(x:Shf)(hx:Sm (.st cS) x):Ret E n_Z19 [dLL x.1,dI x.2.1,dL x.2.2.1,dMs x.2.2.2.1] ⟨o_Z19,(pb (VS x.1 x.2.1 x.2.2.1 x.2.2.2.1),())⟩ :=
 qfK x.1 x.2.1 x.2.2.1 x.2.2.2.1 hx.1 hx.2.2.1.1 hx.2.2.2.1
theorem qh5(n:Int):Ret E n_Z57 [dI n] ⟨o_Z57,(pb (0≤n∧n≤3),())⟩:=by
 refine qaj ?_
 simp only[run_Z57,Z57.ev]
 exact qaa (qc3 _ _ _) qal
theorem qeg(n:Int):Ret E n_Z151 [dI n] ⟨o_Z151,(pb (0≤n∧n≤3),())⟩:=by
 refine qaj ?_
 simp only[run_Z151,Z151.ev]
 exact qaa (qch _ _ _) qal
open Classical in
noncomputable def qdB(x:Shf)(k:Int):Int×Int×Unit :=
 if VS x.1 x.2.1 x.2.2.1 x.2.2.2.1 then(if 0≤k∧k≤3 then(SD x.1 x.2.2.1 k,0,()) else(0,2,())) else(0,1,())
theorem qed(x:Shf)(k:Int)(hx:Sm (.st cS) x):Ret E n_Z123 [dLL x.1,dI x.2.1,dL x.2.2.1,dMs x.2.2.2.1,dI k] ⟨o_Z123,qdB x k⟩:=by
 refine qaj ?_
 simp only[run_Z123,Z123.ev]
 refine qaa (qk4 x hx) (qbL (fun h=>qah ?_) fun h=>qaa (qeg k) (qbL (fun h2=>qah ?_) fun h2=>?_))
 ·have h:=qaY.1 (show pb (VS x.1 x.2.1 x.2.2.1 x.2.2.2.1)=false by simpa using h)
  rw[qdB,if_neg h]
 ·have h:=qaG.1 (show pb (VS x.1 x.2.1 x.2.2.1 x.2.2.2.1)=true by simpa using h)
  have h2:=qaY.1 (show pb (0≤k∧k≤3)=false by simpa using h2)
  rw[qdB,if_pos h,if_neg h2]
 ·have h:=qaG.1 (show pb (VS x.1 x.2.1 x.2.2.1 x.2.2.2.1)=true by simpa using h)
  have h2:=qaG.1 (show pb (0≤k∧k≤3)=true by simpa using h2)
  refine qaa (qcX _ _ _ hx.1 h.2.2.1.1 h.2.2.1.2.1 (by omega)) (qah ?_)
  rw[qdB,if_pos h,if_pos h2];rfl
end VeT
open Go Go.Proofs Ve
namespace VeT
theorem qjl(p r:Int)(C:Nat)(cells:Sim)(i j:Nat)(h:i*C+j<cells.length)(hl:cells.length≤1048576):Ret E n_Z10 [dI p,dI r,dI (C:Int),dL cells,dI (i:Int),dI (j:Int)] ⟨o_Z10,(cells[i*C+j],())⟩:=by
 refine qaj ?_
 simp only[run_Z10,Z10.ev]
 rw[qa0,qaf (n:=((i*C:Nat):Int)) (by omega) (by omega),qaf (by omega) (by omega),show((i*C:Nat):Int)+(j:Int)=((i*C+j:Nat):Int) by omega]
 exact qac (qak h) qal
theorem qdX(p r:Int)(C:Nat)(cells:Sim)(i:Nat)(h:(i+1)*C≤cells.length)(hi:i≤1048576)(hl:cells.length≤1048576):Ret E n_Z11 [dI p,dI r,dI (C:Int),dL cells,dI (i:Int)] ⟨o_Z11,((cells.take ((i+1)*C)).drop (i*C),())⟩:=by
 refine qaj ?_
 simp only[run_Z11,Z11.ev]
 have h1:i*C≤(i+1)*C:=Nat.mul_le_mul_right _ (by omega)
 have e1:w64 ((i:Int)*(C:Int))=((i*C:Nat):Int):=by rw[qa0];exact qaf (by omega) (by omega)
 have e2:w64 ((i:Int)+1)=((i+1:Nat):Int):=qad (by omega)
 have e3:w64 (((i+1:Nat):Int)*(C:Int))=(((i+1)*C:Nat):Int):=by rw[qa0];exact qaf (by omega) (by omega)
 simp only[e1,e2,e3,Int.toNat_natCast]
 exact qao (by simp only[Bool.and_eq_true,decide_eq_true_eq];omega) qal
theorem qh1(s:Sim)(hs:s.length≤1048576):Ret E n_Z94 [dL s] ⟨o_Z94,(s,())⟩:=by
 refine qaj ?_
 simp only[run_Z94,Z94.ev,Z94.j0_eq _ qae,cond_true,cond_false]
 have h:Ev fun φ=>(Option.bind (chk (decide ((List.length ([]:List Int)+List.length s)*8≤70368744177664))) fun _=>some (⟨o_Z94,((([]:List Int)++s),())⟩:Dv))=some ⟨o_Z94,(s,())⟩ :=
  qao (by simp;omega) (qah rfl)
 cases s with
 | nil=>exact qaC rfl (qbF qal h)
 | cons a s=>exact qaI rfl h
theorem qeL(m:Mat)(C:Nat)(i j:Nat)(hC:m.2.2.1=(C:Int))(h:j*C+i<m.2.2.2.1.length)(hl:m.2.2.2.1.length≤1048576):Ret E n_Z82 [dI (i:Int),dI (j:Int),dM m] ⟨o_Z82,(m.2.2.2.1.getD (j*C+i) 0,())⟩:=by
 rw[qag h]
 refine qaj ?_
 simp only[run_Z82,Z82.ev]
 rw[hC]
 exact qaa (qjl _ _ C _ j i h hl) qal
theorem qpo(a b:Sim)(p:Int)(hp:2≤p∧p≤251)(ha:a.length≤32)(hb:a.length≤b.length)(ea:∀ x∈a,0≤x∧x≤250)(eb:∀ x∈b,0≤x∧x≤250) :
  Ret E n_Z40 [dL a,dL b,dI p] ⟨o_Z40,(qaB (fun l=>a.getD l 0) (fun l=>b.getD l 0) a.length%p,())⟩:=by
 refine qaj ?_
 simp only[run_Z40,Z40.ev]
 refine Ev.start (p:=fun φ n=>Z40.l0 (mkR (run E (φ 0))) (φ 0) n a b p 0 (a.length:Int) 0=_) 1 ?_ (fun _ _ _ h=>h)
 have:=qan 1 (L:=fun φ n k s=>Z40.l0 (mkR (run E (φ 0))) (φ 0) n a b p s (a.length:Int) k) (len:=a.length) (fun k=>qaB (fun l=>a.getD l 0) (fun l=>b.getD l 0) k%p) (r:=some ⟨o_Z40,(qaB (fun l=>a.getD l 0) (fun l=>b.getD l 0) a.length%p,())⟩) (fun _ _ _ _ _=>rfl) (fun k r hk ih=>?_) ?_
 ·simpa [qaB] using this
 ·simp only[Z40.l0_succ _ qae]
  have hkb:k<b.length:=by omega
  have hm:=qfb (ea _ (List.getElem_mem hk)) (eb _ (List.getElem_mem hkb))
  have h0:=Int.emod_nonneg (qaB (fun l=>a.getD l 0) (fun l=>b.getD l 0) k) (show p≠0 by omega)
  have h1:=Int.emod_lt_of_pos (qaB (fun l=>a.getD l 0) (fun l=>b.getD l 0) k) (show 0<p by omega)
  refine qaC (decide_eq_true (by omega)) (qac (qak hk) (qac (qak hkb) (qao (by simp;omega) ?_)))
  rw[qaf (n:=a[k]*b[k]) (by omega) (by omega),qaf (by omega) (by omega),Int.tmod_eq_emod_of_nonneg (by omega),Int.emod_add_emod,qad (by omega)]
  simp only[qaB] at ih
  rw[qag hk,qag hkb] at ih
  exact ih
 ·simp only[Z40.l0_succ _ qae]
  exact qaI (decide_eq_false (by omega)) qal
theorem qnY(p:Int)(R C:Nat)(cells:Sim)(hl:cells.length=R*C)(hR:R≤32)(hC:C≤32):Ret E n_Z74 [dI p,dI (R:Int),dI (C:Int),dL cells] ⟨o_Z74,((List.range R).map fun i=>(cells.take ((i+1)*C)).drop (i*C),())⟩:=by
 have h1024:=qcN hR hC
 refine qaj ?_
 simp only[run_Z74,Z74.ev]
 refine Ev.start (p:=fun φ n=>Z74.l0 (mkR (run E (φ 0))) (φ 0) n (R:Int) 0 p (R:Int) (C:Int) cells []=_) 1 ?_ (fun _ _ _ h=>h)
 refine qan 1 (L:=fun φ n k a=>Z74.l0 (mkR (run E (φ 0))) (φ 0) n (R:Int) k p (R:Int) (C:Int) cells a) (len:=R) (fun k=>(List.range k).map fun i=>(cells.take ((i+1)*C)).drop (i*C)) (fun _ _ _ _ _=>rfl) (fun k r hk ih=>?_) ?_
 ·simp only[Z74.l0_succ _ qae]
  have hle:(k+1)*C≤R*C:=Nat.mul_le_mul_right _ hk
  rw[List.range_succ,List.map_append] at ih
  refine qaC (decide_eq_true (by omega)) (qaa (qdX p _ C cells k (by omega) (by omega) (by omega)) (qaa (qh1 _ (by simp;omega)) (qao (by simp;omega) ?_)))
  rw[qad (by omega)];exact ih
 ·simp only[Z74.l0_succ _ qae]
  exact qaI (decide_eq_false (by omega)) qal
end VeT
open Go Go.Proofs Ve
namespace VeT
theorem qax.get{v:Sim}{p:Int}(h:qax v p)(hp:2≤p∧p≤251)(i:Nat):0≤v.getD i 0∧v.getD i 0≤250:=by
 by_cases hi:i<v.length
 ·rw[qag hi]
  have:=h _ (List.getElem_mem hi)
  omega
 ·rw[List.getD_eq_getElem?_getD,List.getElem?_eq_none (by omega)];simp
theorem qax.mem{v:Sim}{p:Int}(h:qax v p)(hp:2≤p∧p≤251):∀ x∈v,0≤x∧x≤250:=fun x hx=>by
 have:=h x hx;omega
def qig(p:Int)(ca cb:Sim)(K C i j:Nat):Int:=qaB (fun l=>ca.getD (i*K+l) 0) (fun l=>cb.getD (l*C+j) 0) K%p
def qfE(a b:Mat):Mat:=(a.1,a.2.1,b.2.2.1,qar (qig a.1 a.2.2.2.1 b.2.2.2.1 a.2.2.1.toNat b.2.2.1.toNat) b.2.2.1.toNat a.2.1.toNat,())
def qck(K C:Nat)(cb:Sim):List Sim:=(List.range C).map fun i=>(List.range K).map fun j=>cb.getD (j*C+i) 0
theorem qkh(q:Int)(K C:Nat)(cb:Sim)(hl:cb.length=K*C)(hK:K≤32)(hC:C≤32):Ret E n_Z81 [dI q,dI (K:Int),dI (C:Int),dL cb] ⟨o_Z81,(q,(C:Int),(K:Int),qar (fun i j=>cb.getD (j*C+i) 0) K C,())⟩:=by
 have h1:=qcN hK hC
 have h2:=qcN hC hK
 refine qaj ?_
 simp only[run_Z81,Z81.ev]
 refine qaa (qbM q C K ((q,(K:Int),(C:Int),cb,()),()) (fun i j=>cb.getD (j*C+i) 0) (by omega) (by omega) (by omega) fun i j hi hj=>?_) qal
 exact qeL (q,(K:Int),(C:Int),cb,()) C i j rfl (by show _<cb.length;rw[hl];exact qe4 hj hi) (by show cb.length≤_;omega)
theorem qd0(q:Int)(K C:Nat)(cb:Sim)(hl:cb.length=K*C)(hK:K≤32)(hC:C≤32):Ret E n_Z33 [dI q,dI (K:Int),dI (C:Int),dL cb] ⟨o_Z33,(qck K C cb,())⟩:=by
 refine qaj ?_
 simp only[run_Z33,Z33.ev]
 refine qaa (qkh q K C cb hl hK hC) (qaa (qnY q C K _ qaq hC hK) (qah ?_))
 have:((List.range C).map fun i=>((qar (fun i j=>cb.getD (j*C+i) 0) K C).take ((i+1)*K)).drop (i*K))=qck K C cb :=
  List.map_congr_left fun i hi=>qkT (List.mem_range.1 hi)
 rw[this]
theorem qo3{K C:Nat}{cb:Sim}{q:Int}(hb:qax cb q)(hq:2≤q∧q≤251){j:Nat}(hj:j<(qck K C cb).length):∀ x∈(qck K C cb)[j],0≤x∧x≤250:=by
 intro x hx
 have hm:=List.getElem_mem hj
 generalize (qck K C cb)[j]=y at hm hx
 unfold qck at hm
 rw[List.mem_map] at hm
 obtain⟨i,_,rfl⟩:=hm
 rw[List.mem_map] at hx
 obtain⟨l,_,rfl⟩:=hx
 exact hb.get hq _
theorem qjN(p:Int)(R K C:Nat)(ca cb:Sim)(i j:Nat)(hi:i<R)(hj:j<C)(hp:2≤p∧p≤251)(hla:ca.length=R*K)(hR:R≤32)(hK:K≤32)(ea:qax ca p){q:Int}(hq:2≤q∧q≤251)(eb:qax cb q) :
  Ret E n_Z72 [dI (i:Int),dI (j:Int),dM (p,(R:Int),(K:Int),ca,()),⟨.ptr (.cons (.sl (.sl (.int .i64))) .nil),(qck K C cb,())⟩] ⟨o_Z72,(qig p ca cb K C i j,())⟩:=by
 have h1:=qcN hR hK
 have hle:(i+1)*K≤R*K:=Nat.mul_le_mul_right _ hi
 have hjl:j<(qck K C cb).length:=by simp[qck,hj]
 have hcl:((qck K C cb)[j]).length=K:=by simp[qck]
 have hrl:((ca.take ((i+1)*K)).drop (i*K)).length=K:=by
  rw[List.length_drop,List.length_take,Nat.min_eq_left (by omega),Nat.add_mul];omega
 refine qaj ?_
 simp only[run_Z72,Z72.ev]
 refine qac (qak hjl) (qaa (qdX p _ K ca i (by omega) (by omega) (by omega)) (qaa (qpo ((ca.take ((i+1)*K)).drop (i*K)) ((qck K C cb)[j]) p hp (by omega) (by omega) (fun x hx=>ea.mem hp x (List.mem_of_mem_take (List.mem_of_mem_drop hx))) (qo3 eb hq hjl)) (qah ?_)))
 rw[hrl]
 have:qaB (fun l=>((ca.take ((i+1)*K)).drop (i*K)).getD l 0) (fun l=>((qck K C cb)[j]).getD l 0) K=qaB (fun l=>ca.getD (i*K+l) 0) (fun l=>cb.getD (l*C+j) 0) K:=qaw fun l hl=>⟨by
  rw[List.getD_eq_getElem?_getD,List.getD_eq_getElem?_getD,List.getElem?_drop,List.getElem?_take_of_lt (by rw[Nat.add_mul];omega)],by
  simp[qck,List.getD_eq_getElem?_getD,hl]⟩
 rw[this];rfl
theorem VM.nat{m:Mat}(h:VM m):∃ R K:Nat,m=(m.1,(R:Int),(K:Int),m.2.2.2.1,())∧R≤32∧K≤32∧m.2.2.2.1.length=R*K:=by
 obtain⟨p,r,k,c,⟨⟩⟩:=m
 obtain⟨_,h2,h3,h4,_⟩:=h
 simp only at h2 h3 h4
 obtain⟨R,rfl⟩:=Int.eq_ofNat_of_zero_le h2.1
 obtain⟨K,rfl⟩:=Int.eq_ofNat_of_zero_le h3.1
 refine⟨R,K,rfl,by omega,by omega,?_⟩
 rw[qa0] at h4;simp only;omega
theorem qlZ(a b:Mat)(ha:VM a)(hb:VM b)(hab:a.2.2.1=b.2.1):Ret E n_Z71 [dI a.1,dI a.2.1,dI a.2.2.1,dL a.2.2.2.1,dI b.1,dI b.2.1,dI b.2.2.1,dL b.2.2.2.1] ⟨o_Z71,qfE a b⟩:=by
  obtain⟨R,K,ea,hR,hK,hla⟩:=ha.nat
  obtain⟨K',C,eb,hK',hC,hlb⟩:=hb.nat
  have pa:2≤a.1∧a.1≤251:=⟨ha.1.1,ha.1.2.1⟩
  have pb':2≤b.1∧b.1≤251:=⟨hb.1.1,hb.1.2.1⟩
  have ela:=ha.2.2.2.2
  have elb:=hb.2.2.2.2
  rw[ea,eb] at hab
  obtain rfl : K = K' := by have hab : (K : Int) = (K' : Int) := hab
                            omega
  rw[ea,eb]
  simp only
  refine qaj ?_
  simp only[run_Z71,Z71.ev]
  have hRC:=qcN hR hC
  refine qaa (qd0 _ K C _ hlb hK hC) (qaa (qdy a.1 R C ((a.1,(R:Int),(K:Int),a.2.2.2.1,()),(qck K C b.2.2.2.1,()),()) (qig a.1 a.2.2.2.1 b.2.2.2.1 K C) (by omega) (by omega) (by omega) fun i j hi hj=>?_) (qah ?_))
  · exact qjN a.1 R K C _ _ i j hi hj pa hla hR hK ela pb' elb
  · simp only[qfE,Int.toNat_natCast]
theorem qb9(p:Int)(R C:Nat)(hR:R≤32)(hC:C≤32):Ret E n_Z148 [dI p,dI (R:Int),dI (C:Int)] ⟨o_Z148,(p,(R:Int),(C:Int),List.replicate (R*C) 0,())⟩:=by
 have h1:=qcN hR hC
 have e1:w64 ((R:Int)*(C:Int))=((R*C:Nat):Int):=by rw[qa0];exact qaf (by omega) (by omega)
 refine qaj ?_
 simp only[run_Z148,Z148.ev,e1,Int.toNat_natCast]
 exact qao (by simp only[Bool.and_eq_true,decide_eq_true_eq];omega) qal
theorem qgM(a b:Mat)(ha:VM a)(hb:VM b)(hab:a.2.2.1=b.2.1):Ret E n_Z146 [dM a,dM b] ⟨o_Z146,qfE a b⟩:=by
  obtain⟨R,K,ea,hR,hK,hla⟩:=ha.nat
  obtain⟨K',C,eb,hK',hC,hlb⟩:=hb.nat
  have pa:2≤a.1∧a.1≤251:=⟨ha.1.1,ha.1.2.1⟩
  have pb':2≤b.1∧b.1≤251:=⟨hb.1.1,hb.1.2.1⟩
  have ela:=ha.2.2.2.2
  have elb:=hb.2.2.2.2
  rw[ea,eb] at hab
  obtain rfl : K = K' := by have hab : (K : Int) = (K' : Int) := hab
                            omega
  obtain⟨p,r,k,ca,⟨⟩⟩:=a
  obtain⟨q,k',c,cb,⟨⟩⟩:=b
  simp only[Prod.mk.injEq,true_and,and_true] at ea eb pa pb' ela elb hla hlb
  obtain⟨rfl,rfl⟩:=ea
  obtain⟨rfl,rfl⟩:=eb
  have hRC:=qcN hR hC
  have hRK:=qcN hR hK
  have hKC:=qcN hK hC
  have hM:qfE (p,(R:Int),(K:Int),ca,()) (q,(K:Int),(C:Int),cb,())=(p,(R:Int),(C:Int),qar (qig p ca cb K C) C R,()):=by simp[qfE]
  rw[hM]
  refine qaj ?_
  simp only[run_Z146,Z146.ev,Z146.j0_eq _ qae]
  suffices h:Ev fun φ=>Z146.l1 (mkR (run E (φ 0))) (φ 0) (φ 0) (p,(R:Int),(K:Int),ca,()) (q,(K:Int),(C:Int),cb,()) 0 0 0 0 p (R:Int) (C:Int) (List.replicate (R*C) 0)=some ⟨o_Z146,(p,(R:Int),(C:Int),qar (qig p ca cb K C) C R,())⟩ by
    exact qbF (qaa (qb9 p R C hR hC) h) (qaa (qb9 p R C hR hC) h)
  refine Ev.start (p:=fun φ n=>Z146.l1 (mkR (run E (φ 0))) (φ 0) n (p,(R:Int),(K:Int),ca,()) (q,(K:Int),(C:Int),cb,()) 0 0 0 0 p (R:Int) (C:Int) (List.replicate (R*C) 0)=_) 1 ?_ (fun _ _ _ h=>h)
  have:=qan 1 (L:=fun φ n i o=>Z146.l1 (mkR (run E (φ 0))) (φ 0) n (p,(R:Int),(K:Int),ca,()) (q,(K:Int),(C:Int),cb,()) i 0 0 0 p (R:Int) (C:Int) o) (len:=R) (fun i=>qar (qig p ca cb K C) C i++List.replicate ((R-i)*C) 0) (r:=some ⟨o_Z146,(p,(R:Int),(C:Int),qar (qig p ca cb K C) C R,())⟩) (fun _ _ _ _ _=>rfl) (fun i r hi ih=>?_) ?_
  · simpa [qar] using this
  · simp only[Z146.l1_succ _ qae]
    refine qaC (decide_eq_true (by omega)) ?_
    refine Ev.start (p:=fun φ n=>Z146.l2 (mkR (run E (φ 0))) (φ 0) (φ 1) n (p,(R:Int),(K:Int),ca,()) (q,(K:Int),(C:Int),cb,()) (i:Int) 0 0 0 0 p (R:Int) (C:Int) (qar (qig p ca cb K C) C i++List.replicate ((R-i)*C) 0)=_) 2 ?_ (fun _ _ _ h=>h)
    have hRi:(R-i)*C=(R-(i+1))*C+C:=by
      rw[show R-i=(R-(i+1))+1 by omega,Nat.add_mul];omega
    have hiC:(i+1)*C≤R*C:=Nat.mul_le_mul_right _ hi
    have hiK:(i+1)*K≤R*K:=Nat.mul_le_mul_right _ hi
    rw[Nat.add_mul] at hiC hiK
    have:=qan 2 (L:=fun φ n j o=>Z146.l2 (mkR (run E (φ 0))) (φ 0) (φ 1) n (p,(R:Int),(K:Int),ca,()) (q,(K:Int),(C:Int),cb,()) (i:Int) j 0 0 0 p (R:Int) (C:Int) o) (len:=C) (fun j=>(qar (qig p ca cb K C) C i++(List.range j).map (qig p ca cb K C i))++List.replicate ((R-i)*C-j) 0) (r:=r) (fun _ _ _ _ _=>rfl) (fun j r hj ih=>?_) ?_
    · simpa using this
    · simp only[Z146.l2_succ _ qae]
      refine qaC (decide_eq_true (by omega)) ?_
      have hpl:(qar (qig p ca cb K C) C i++(List.range j).map (qig p ca cb K C i)).length=i*C+j:=by simp[qaq]
      have hsp:(R-i)*C-j=((R-i)*C-(j+1))+1:=by omega
      generalize hO:(qar (qig p ca cb K C) C i++(List.range j).map (qig p ca cb K C i))++List.replicate ((R-i)*C-j) 0=O
      have hOl:O.length=R*C:=by
        rw[← hO,List.length_append,hpl,List.length_replicate,hRi]
        have:R*C=(R-(i+1))*C+(i*C+C):=by
          have e:R=(R-(i+1))+(i+1):=by omega
          have:=congrArg (·*C) e
          simp only[Nat.add_mul,Nat.one_mul] at this ⊢;omega
        omega
      refine Ev.start (p:=fun φ n=>Z146.l3 (mkR (run E (φ 0))) (φ 0) (φ 1) (φ 2) n (p,(R:Int),(K:Int),ca,()) (q,(K:Int),(C:Int),cb,()) (i:Int) (j:Int) 0 0 0 0 0 p (R:Int) (C:Int) O=_) 3 ?_ (fun _ _ _ h=>h)
      refine qan 3 (L:=fun φ n l s=>Z146.l3 (mkR (run E (φ 0))) (φ 0) (φ 1) (φ 2) n (p,(R:Int),(K:Int),ca,()) (q,(K:Int),(C:Int),cb,()) (i:Int) (j:Int) s l 0 0 0 p (R:Int) (C:Int) O) (len:=K) (fun l=>qaB (fun l=>ca.getD (i*K+l) 0) (fun l=>cb.getD (l*C+j) 0) l) (fun _ _ _ _ _=>rfl) (fun l r hl ih=>?_) ?_
      · simp only[Z146.l3_succ _ qae]
        have b1:=qhH (f:=fun l=>ca.getD (i*K+l) 0) (g:=fun l=>cb.getD (l*C+j) 0) (n:=l) fun l _=>⟨ela.get pa _,elb.get pb' _⟩
        have b2:=qfb (ela.get pa (i*K+l)) (elb.get pb' (l*C+j))
        have hlC:(l+1)*C≤K*C:=Nat.mul_le_mul_right _ hl
        rw[Nat.add_mul] at hlC
        have e1:w64 (w64 ((i:Int)*(K:Int))+(l:Int))=((i*K+l:Nat):Int):=by
          rw[qa0,qaf (n:=((i*K:Nat):Int)) (by omega) (by omega),qaf (by omega) (by omega)];omega
        have e2:w64 (w64 ((l:Int)*(C:Int))+(j:Int))=((l*C+j:Nat):Int):=by
          rw[qa0,qaf (n:=((l*C:Nat):Int)) (by omega) (by omega),qaf (by omega) (by omega)];omega
        simp only[e1,e2]
        have i1:i*K+l<ca.length:=by omega
        have i2:l*C+j<cb.length:=by omega
        refine qaC (decide_eq_true (by omega)) (qac (qak i1) (qac (qak i2) ?_))
        simp only[qaB] at ih
        rw[qag i1,qag i2] at ih b2
        rw[qaf (n:=ca[i*K+l]*cb[l*C+j]) (by omega) (by omega),qaf (by omega) (by omega),qad (by omega)]
        exact ih
      · simp only[Z146.l3_succ _ qae]
        have b1:=qhH (f:=fun l=>ca.getD (i*K+l) 0) (g:=fun l=>cb.getD (l*C+j) 0) (n:=K) fun l _=>⟨ela.get pa _,elb.get pb' _⟩
        have e1:w64 (w64 ((i:Int)*(C:Int))+(j:Int))=((i*C+j:Nat):Int):=by
          rw[qa0,qaf (n:=((i*C:Nat):Int)) (by omega) (by omega),qaf (by omega) (by omega)];omega
        simp only[e1,Int.toNat_natCast]
        refine qaI (decide_eq_false (by omega)) (qao (by simp;omega) (qao (by simp only[Bool.and_eq_true,decide_eq_true_eq];omega) ?_))
        rw[Int.tmod_eq_emod_of_nonneg (by omega),qad (by omega),← hO,hsp,← hpl,qq9]
        rw[List.range_succ,List.map_append,← List.append_assoc] at ih
        exact ih
    · simp only[Z146.l2_succ _ qae]
      refine qaI (decide_eq_false (by omega)) ?_
      rw[qad (by omega),hRi,Nat.add_sub_cancel]
      exact ih
  · simp only[Z146.l1_succ _ qae]
    refine qaI (decide_eq_false (by omega)) (qah ?_)
    simp
end VeT
open Go Go.Proofs Ve
namespace VeT
theorem qnD(a b:Sim)(ha:a.length≤1048576):Ret E n_Z106 [dL a,dL b] ⟨o_Z106,(pb (a=b),())⟩:=by
 refine qaj ?_
 simp only[run_Z106,Z106.ev]
 refine qbL (fun h=>qah ?_) fun h=>?_
 ·have h:(a.length:Int)≠b.length:=by simpa using h
  rw[qat fun e=>h (by rw[e])]
 ·have h:(a.length:Int)=b.length:=by simpa using h
  refine Ev.start (p:=fun φ n=>Z106.l0 (mkR (run E (φ 0))) (φ 0) n a b (a.length:Int) 0=_) 1 ?_ (fun _ _ _ h=>h)
  refine(qdN 1 (L:=fun φ n k=>Z106.l0 (mkR (run E (φ 0))) (φ 0) n a b (a.length:Int) k) (len:=a.length) 0 (by omega) (fun j=>a.getD j 0=b.getD j 0) (fun b=>some ⟨o_Z106,(b,())⟩) (fun _ _ _ _=>rfl) (fun k h1 h2 hP _=>?_) (fun k r h1 h2 hP _ ih=>?_) (fun _=>?_)).to ?_
  ·simp only[Z106.l0_succ _ qae]
   have hb:k<b.length:=by omega
   rw[qag h2,qag hb] at hP
   exact qaC (decide_eq_true (by omega)) (qac (qak h2) (qac (qak hb) (qaC (by simpa using hP) qal)))
  ·simp only[Z106.l0_succ _ qae]
   have hb:k<b.length:=by omega
   rw[qag h2,qag hb] at hP
   refine qaC (decide_eq_true (by omega)) (qac (qak h2) (qac (qak hb) (qaI (by simpa using hP) ?_)))
   rw[qad (by omega)];exact ih
  ·simp only[Z106.l0_succ _ qae]
   exact qaI (decide_eq_false (by omega)) qal
  ·refine congrArg (fun b:Bool=>some (⟨o_Z106,(b,())⟩:Dv)) (qaN ⟨fun hh=>List.ext_getElem (by omega) fun j h1 h2=>?_,fun hh j _ _=>by rw[hh]⟩)
   have:=hh j (by omega) h1
   rwa [qag h1,qag h2] at this
theorem qef{a b:Mat}:a=b↔a.1=b.1∧a.2.1=b.2.1∧a.2.2.1=b.2.2.1∧a.2.2.2.1=b.2.2.2.1:=by
 obtain⟨p,r,k,c,⟨⟩⟩:=a
 obtain⟨p',r',k',c',⟨⟩⟩:=b
 simp only[Prod.mk.injEq,and_true]
theorem qij(a b:Mat)(ha:a.2.2.2.1.length≤1048576):Ret E n_Z14 [dI a.1,dI a.2.1,dI a.2.2.1,dL a.2.2.2.1,dI b.1,dI b.2.1,dI b.2.2.1,dL b.2.2.2.1] ⟨o_Z14,(pb (a=b),())⟩:=by
 refine qaj ?_
 simp only[run_Z14,Z14.ev]
 refine qbL (fun h1=>qbL (fun h2=>qbL (fun h3=>qaa (qnD _ _ ha) (qah ?_)) fun h3=>qah ?_) fun h2=>qah ?_) fun h1=>qah ?_
 ·exact congrArg (fun b:Bool=>some (⟨o_Z14,(b,())⟩:Dv)) (qaN ⟨fun h=>qef.2 ⟨by simpa using h1,by simpa using h2,by simpa using h3,h⟩,fun h=>(qef.1 h).2.2.2⟩)
 ·rw[qat fun h=>by have:=(qef.1 h).2.2.1;simp[this] at h3]
 ·rw[qat fun h=>by have:=(qef.1 h).2.1;simp[this] at h2]
 ·rw[qat fun h=>by have:=(qef.1 h).1;simp[this] at h1]
theorem qkG(a b:Mat)(ha:a.2.2.2.1.length≤1048576):Ret E n_Z145 [dM a,dM b] ⟨o_Z145,(pb (a=b),())⟩:=by
 refine qaj ?_
 simp only[run_Z145,Z145.ev]
 have no:a≠b→Ev fun φ=>Z145.j0 (mkR (run E (φ 0))) (φ 0) a b true=some ⟨o_Z145,(pb (a=b),())⟩:=fun h=>by
  simp only[Z145.j0_eq _ qae,cond_true]
  rw[qat h];(first | exact qal | exact Ev.of fun _=>trivial)
 refine qbL (fun h1=>no fun h=>by simp[(qef.1 h).1] at h1) fun h1=>qbL (fun h2=>no fun h=>by simp[(qef.1 h).2.1] at h2) fun h2=>qbL (fun h3=>no fun h=>by simp[(qef.1 h).2.2.1] at h3) fun h3=>?_
 have h1:a.1=b.1:=by simpa using h1
 have h2:a.2.1=b.2.1:=by simpa using h2
 have h3:a.2.2.1=b.2.2.1:=by simpa using h3
 by_cases hl:a.2.2.2.1.length=b.2.2.2.1.length
 ·simp only[show((a.2.2.2.1.length:Int) != (b.2.2.2.1.length:Int))=false by simp[hl],Z145.j0_eq _ qae,cond_false]
  refine Ev.start (p:=fun φ n=>Z145.l1 (mkR (run E (φ 0))) (φ 0) n a b 0=_) 1 ?_ (fun _ _ _ h=>h)
  refine(qdN 1 (L:=fun φ n k=>Z145.l1 (mkR (run E (φ 0))) (φ 0) n a b k) (len:=a.2.2.2.1.length) 0 (by omega) (fun j=>a.2.2.2.1.getD j 0=b.2.2.2.1.getD j 0) (fun b=>some ⟨o_Z145,(b,())⟩) (fun _ _ _ _=>rfl) (fun k k1 k2 hP _=>?_) (fun k r k1 k2 hP _ ih=>?_) (fun _=>?_)).to ?_
  ·simp only[Z145.l1_succ _ qae]
   have hb:k<b.2.2.2.1.length:=by omega
   rw[qag k2,qag hb] at hP
   exact qaC (decide_eq_true (by omega)) (qac (qak k2) (qac (qak hb) (qaC (by simpa using hP) qal)))
  ·simp only[Z145.l1_succ _ qae]
   have hb:k<b.2.2.2.1.length:=by omega
   rw[qag k2,qag hb] at hP
   refine qaC (decide_eq_true (by omega)) (qac (qak k2) (qac (qak hb) (qaI (by simpa using hP) ?_)))
   rw[qad (by omega)];exact ih
  ·simp only[Z145.l1_succ _ qae]
   exact qaI (decide_eq_false (by omega)) qal
  ·refine congrArg (fun b:Bool=>some (⟨o_Z145,(b,())⟩:Dv)) (qaN ⟨fun hh=>qef.2 ⟨h1,h2,h3,List.ext_getElem hl fun j g1 g2=>?_⟩,fun hh j _ _=>by rw[hh]⟩)
   have:=hh j (by omega) g1
   rwa [qag g1,qag g2] at this
 ·simp only[show((a.2.2.2.1.length:Int) != (b.2.2.2.1.length:Int))=true by simp;omega]
  exact no fun h=>hl (by rw[(qef.1 h).2.2.2])
noncomputable def mp(c:List Sim)(ms:List Mat)(k i:Nat):Mat:=ms.getD (plc c k+i) mz
noncomputable def fc(c:List Sim)(k i:Nat):Nat:=((qaH c k).getD i 0).toNat
theorem qps{c:List Sim}{s:Sim}(h:s∈c):c.getD (qeu c s).toNat []=s:=by
 have h0:=qba.2 h
 unfold qeu qjH at h0 ⊢
 cases hf:c.findIdx? (fun x=>pb (x=s)) with
 | none=>rw[hf] at h0;simp[o2i] at h0
 | some k =>
  rw[List.findIdx?_eq_some_iff_getElem] at hf
  obtain⟨hk,hp,_⟩:=hf
  simp only[o2i,Int.toNat_natCast]
  rw[qag hk];exact qaG.1 hp
theorem qbk{c:List Sim}(h:VC c){k i:Nat}(hk:k<c.length)(hi:i<(qaH c k).length):idx? (qaH c k) (i:Int)=some ((fc c k i:Nat):Int)∧fc c k i<c.length∧c.getD (fc c k i) []=(c.getD k []).eraseIdx i:=by
 have hm:=qkg h hk (List.getElem_mem hi)
 have hl:=qaF (c:=c) (k:=k)
 have h1:1<(c.getD k []).length:=Classical.byContradiction fun hn=>by rw[if_neg hn] at hl;omega
 rw[if_pos h1] at hl
 have hfc:(qaH c k)[i]=qeu c ((c.getD k []).eraseIdx i):=by
  have:(qaH c k)[i]? = some (qeu c ((c.getD k []).eraseIdx i)):=by
   unfold qaH qcp
   rw[if_pos h1,List.map_map,List.getElem?_map,List.getElem?_range (by omega)];rfl
  rw[List.getElem?_eq_getElem hi] at this
  exact Option.some.inj this
 have hin:(c.getD k []).eraseIdx i∈c:=h.2.2.2 k hk _ (qda.2 ⟨h1,i,by omega,rfl⟩)
 unfold fc
 rw[qag hi]
 refine⟨?_,by omega,?_⟩
 ·rw[qak hi];congr 1;omega
 ·rw[hfc];exact qps hin
theorem VS.map{c:List Sim}{p:Int}{st:Sim}{ms:List Mat}(h:VS c p st ms){k i:Nat}(hk:k<c.length)(hi:i<(qaH c k).length):plc c k+i<ms.length∧Bt (mp c ms k i) p (st.getD (fc c k i) 0) (st.getD k 0):=by
 have hg:=qcB hk hi
 have hlt:=(List.getElem?_eq_some_iff.1 hg).1
 exact⟨by rw[← h.2.2.2.1];exact hlt,h.2.2.2.2 k hk i hi⟩
theorem qkA(c:List Sim)(p:Int)(st:Sim)(ms:List Mat)(k:Nat)(hk:k≤c.length)(hv:VC c):Ret E n_Z50 [dLL c,dI p,dL st,dMs ms,dI (k:Int)] ⟨o_Z50,(((plc c k:Nat):Int),())⟩:=by
 have h48:=hv.1
 have htl:(c.take k).length=k:=by rw[List.length_take];omega
 refine qaj ?_
 simp only[run_Z50,Z50.ev,Int.toNat_natCast,htl]
 refine qao (by simp;omega) ?_
 refine Ev.start (p:=fun φ n=>Z50.l0 (mkR (run E (φ 0))) (φ 0) n 0 (c.take k) (k:Int) 0=_) 1 ?_ (fun _ _ _ h=>h)
 have:=qan 1 (L:=fun φ n j a=>Z50.l0 (mkR (run E (φ 0))) (φ 0) n a (c.take k) (k:Int) j) (len:=k) (fun j=>((plc c j:Nat):Int)) (r:=some ⟨o_Z50,(((plc c k:Nat):Int),())⟩) (fun _ _ _ _ _=>rfl) (fun j r hj ih=>?_) ?_
 ·exact this
 ·simp only[Z50.l0_succ _ qae]
  have hjc:j<c.length:=by omega
  have hpl:=hv.plc (k:=j) (by omega)
  have h4:=hv.len4 hjc
  have e:=qeP (c:=c) (k:=j)
  rw[qaF] at e
  rw[qag hjc] at e h4
  have hjt:j<(c.take k).length:=by omega
  have hgt:(c.take k)[j]=c[j]:=List.getElem_take
  refine qaC (decide_eq_true (by omega)) (qac (qak hjt) ?_)
  rw[hgt]
  refine qee (fun hl=>qaa (qen _) ?_) fun hl=>?_
  ·rw[if_pos (by omega)] at e
   rw[qad (by omega),qaf (by omega) (by omega)]
   rw[e] at ih
   simpa using ih
  ·rw[if_neg (by omega)] at e
   rw[qad (by omega)]
   rw[e] at ih;exact ih
 ·simp only[Z50.l0_succ _ qae]
  exact qaI (decide_eq_false (by omega)) qal
theorem qdH(c:List Sim)(p:Int)(st:Sim)(ms:List Mat)(k i:Nat)(hk:k<c.length)(hi:i<(qaH c k).length)(h:VS c p st ms):Ret E n_Z39 [dLL c,dI p,dL st,dMs ms,dI (k:Int),dI (i:Int)] ⟨o_Z39,mp c ms k i⟩:=by
 have h48:=h.1.1
 have hpl:=h.1.plc (k:=k) (by omega)
 have h4:=h.1.fIdx4 hk
 obtain⟨ht,_⟩:=h.map hk hi
 refine qaj ?_
 simp only[run_Z39,Z39.ev]
 refine qaa (qkA c p st ms k (by omega) h.1) ?_
 simp only
 rw[qaf (by omega) (by omega),show((plc c k:Nat):Int)+(i:Int)=((plc c k+i:Nat):Int) by omega]
 refine qac (qak ht) (qah ?_)
 rw[mp,qag ht]
theorem qgk(x:Shf)(k i:Nat)(hk:k<x.1.length)(hi:i<(qaH x.1 k).length)(h:VS x.1 x.2.1 x.2.2.1 x.2.2.2.1):Ret E n_Z167 [dS x,dI (k:Int),dI (i:Int)] ⟨o_Z167,(mp x.1 x.2.2.2.1 k i,())⟩:=by
 have h4:=h.1.fIdx4 hk
 obtain⟨ht,_⟩:=h.map hk hi
 refine qaj ?_
 simp only[run_Z167,Z167.ev]
 refine qaa (qdv x.1 k i (by omega) (by omega) h.1) (qac (qak ht) (qah ?_))
 rw[mp,qag ht]
noncomputable def two(c:List Sim)(ms:List Mat)(k i j:Nat):Mat:=qfE (mp c ms k i) (mp c ms (fc c k i) j)
theorem qmU{a b:Mat}(ha:VM a)(hb:VM b):(qfE a b).2.2.2.1.length≤1048576:=by
 show(qar _ _ _).length≤_
 rw[qaq]
 have h1:=ha.2.1
 have h2:=hb.2.2.1
 have:=qcN (R:=a.2.1.toNat) (C:=b.2.2.1.toNat) (by omega) (by omega)
 omega
structure Sq (c:List Sim) (p:Int) (st:Sim) (ms:List Mat) (k i j:Nat):Prop where
 kl:k<c.length
 n3:3≤(c.getD k []).length
 il:i<(c.getD k []).length
 jl:j+1<(c.getD k []).length
 v:VS c p st ms
theorem Sq.hi{c p st ms k i j}(h:Sq c p st ms k i j):i<(qaH c k).length:=by
 have:=h.n3;have:=h.il
 rw[qaF,if_pos (by omega)];exact this
theorem Sq.fk{c p st ms k i j}(h:Sq c p st ms k i j):fc c k i<c.length:=(qbk h.v.1 h.kl h.hi).2.1
theorem Sq.hj{c p st ms k i j}(h:Sq c p st ms k i j):j<(qaH c (fc c k i)).length:=by
 have h1:=h.n3;have h2:=h.il;have h3:=h.jl
 have e:=(qbk h.v.1 h.kl h.hi).2.2
 rw[qaF,e,List.length_eraseIdx,if_pos h2,if_pos (by omega)];omega
theorem Sq.b1{c p st ms k i j}(h:Sq c p st ms k i j):VM (mp c ms k i):=((h.v.map h.kl h.hi).2).1
theorem Sq.b2{c p st ms k i j}(h:Sq c p st ms k i j):VM (mp c ms (fc c k i) j):=((h.v.map h.fk h.hj).2).1
theorem Sq.sh{c p st ms k i j}(h:Sq c p st ms k i j):(mp c ms k i).2.2.1=(mp c ms (fc c k i) j).2.1:=by
 rw[((h.v.map h.kl h.hi).2).2.2.2,((h.v.map h.fk h.hj).2).2.2.1]
theorem Sq.impl{c p st ms k i j}(h:Sq c p st ms k i j):Ret E n_Z71 [dI (mp c ms k i).1,dI (mp c ms k i).2.1,dI (mp c ms k i).2.2.1,dL (mp c ms k i).2.2.2.1,dI (mp c ms (fc c k i) j).1,dI (mp c ms (fc c k i) j).2.1,dI (mp c ms (fc c k i) j).2.2.1,dL (mp c ms (fc c k i) j).2.2.2.1] ⟨o_Z71,two c ms k i j⟩ :=
 qlZ _ _ h.b1 h.b2 h.sh
theorem qiS(x:Shf)(k i j:Nat)(hij:i≠j)(h:Sq x.1 x.2.1 x.2.2.1 x.2.2.2.1 k i (if i<j then j-1 else j))(hc:Sm (.sl (.sl (.int .i64))) x.1)(hj:j≤1048576):Ret E n_Z176 [dS x,dI (k:Int),dI (i:Int),dI (j:Int)] ⟨o_Z176,two x.1 x.2.2.2.1 k i (if i<j then j-1 else j)⟩:=by
 obtain⟨hidx,hF,_⟩:=qbk h.v.1 h.kl h.hi
 refine qaj ?_
 simp only[run_Z176,Z176.ev]
 refine qaa (qcG x.1 k h.kl hc) (qac hidx ?_)
 have tail:Ev fun φ=>Z176.j0 (mkR (run E (φ 0))) (φ 0) x (k:Int) (i:Int) (((if i<j then j-1 else j:Nat)):Int) ((fc x.1 k i:Nat):Int) 0 0 0=some ⟨o_Z176,two x.1 x.2.2.2.1 k i (if i<j then j-1 else j)⟩:=by
  simp only[Z176.j0_eq _ qae]
  refine qaa (qgk x k i h.kl h.hi h.v) (qaa (qgk x _ _ h.fk h.hj h.v) (qaa (qgM _ _ h.b1 h.b2 h.sh) qal))
 refine qee (fun hgt=>?_) fun hgt=>?_
 ·rw[qaf (by omega) (by omega),show(j:Int)-1=((j-1:Nat):Int) by omega]
  rw[if_pos (by omega)] at tail ⊢;exact tail
 ·rw[if_neg (by omega)] at tail ⊢;exact tail
end VeT
open Go Go.Proofs Ve
namespace VeT
def Bq(c:List Sim)(ms:List Mat)(k i j:Nat):Prop:=two c ms k i (j-1)≠two c ms k j i
def Pi(c:List Sim)(ms:List Mat)(k i:Nat):Prop:=∃ j,i+1≤j∧j<i+1+((c.getD k []).length-(i+1))∧Bq c ms k i j
def Pk(c:List Sim)(ms:List Mat)(k:Nat):Prop:=3≤(c.getD k []).length∧∃ i,0≤i∧i<0+(c.getD k []).length∧Pi c ms k i
noncomputable def rI(c:List Sim)(ms:List Mat)(out:Nat→Nat→Nat→Option Dv)(k i:Nat)(rn:Option Dv):Option Dv:=orN (out k i) rn (qa2 (Bq c ms k i) (i+1) ((c.getD k []).length-(i+1)))
noncomputable def rK(c:List Sim)(ms:List Mat)(out:Nat→Nat→Nat→Option Dv)(k:Nat)(rn:Option Dv):Option Dv:=orN (fun i=>rI c ms out k i none) rn (qa2 (Pi c ms k) 0 (c.getD k []).length)
noncomputable def qjm(c:List Sim)(ms:List Mat)(out:Nat→Nat→Nat→Option Dv)(rn:Option Dv):Option Dv:=orN (fun k=>rK c ms out k none) rn (qa2 (Pk c ms) 0 c.length)
theorem qsg{c ms out k i}{rn rn':Option Dv}(h:Pi c ms k i):rI c ms out k i rn=rI c ms out k i rn':=by
 obtain⟨j,hj⟩:=qcE h
 unfold rI;rw[hj];rfl
theorem qrH{c ms out k i}{rn:Option Dv}(h:¬ Pi c ms k i):rI c ms out k i rn=rn:=by
 unfold rI
 cases hf:qa2 (Bq c ms k i) (i+1) ((c.getD k []).length-(i+1)) with
 | none=>rfl
 | some j=>exact absurd ⟨j,qaM hf⟩ h
theorem qsl{c ms out k}{rn rn':Option Dv}(h:Pk c ms k):rK c ms out k rn=rK c ms out k rn':=by
 obtain⟨j,hj⟩:=qcE h.2
 unfold rK;rw[hj];rfl
theorem qrJ{c ms out k}{rn:Option Dv}(h:¬ Pk c ms k)(h3:3≤(c.getD k []).length):rK c ms out k rn=rn:=by
 unfold rK
 cases hf:qa2 (Pi c ms k) 0 (c.getD k []).length with
 | none=>rfl
 | some j=>exact absurd ⟨h3,j,qaM hf⟩ h
noncomputable def qbX(c:List Sim)(ms:List Mat):Option (Nat×Nat×Nat) :=
 (qa2 (Pk c ms) 0 c.length).bind fun k=>(qa2 (Pi c ms k) 0 (c.getD k []).length).bind fun i=>(qa2 (Bq c ms k i) (i+1) ((c.getD k []).length-(i+1))).map fun j=>(k,i,j)
theorem qfp{c ms k i j}(h:qbX c ms=some (k,i,j)):k<c.length∧3≤(c.getD k []).length∧i<j∧j<(c.getD k []).length∧∀ out rn,qjm c ms out rn=out k i j:=by
 unfold qbX at h
 obtain⟨k',hk,h⟩:=Option.bind_eq_some_iff.1 h
 obtain⟨i',hi,h⟩:=Option.bind_eq_some_iff.1 h
 obtain⟨j',hj,h⟩:=Option.map_eq_some_iff.1 h
 simp only[Prod.mk.injEq] at h
 obtain⟨rfl,rfl,rfl⟩:=h
 have a:=qaM hk
 have b:=qaM hi
 have d:=qaM hj
 refine⟨by omega,a.2.2.1,by omega,by omega,fun out rn=>?_⟩
 unfold qjm rK rI
 rw[hk];simp only[orN];rw[hi];simp only[orN];rw[hj]
theorem qfi{c ms}(h:qbX c ms=none):∀ out rn,qjm c ms out rn=rn:=by
 intro out rn
 unfold qjm
 cases hk:qa2 (Pk c ms) 0 c.length with
 | none=>rfl
 | some k =>
  have a:=qaM hk
  obtain⟨i,hi⟩:=qcE a.2.2.2
  obtain⟨j,hj⟩:=qcE (qaM hi).2.2
  unfold qbX at h
  rw[hk] at h
  simp only[Option.bind_some] at h
  rw[hi] at h
  simp only[Option.bind_some] at h
  rw[hj] at h
  cases h
theorem qgu(c:List Sim)(k:Nat)(hk:k<c.length)(hc:Sm (.sl (.sl (.int .i64))) c)(hv:VC c):Ret E n_Z43 [dLL c,dI (k:Int)] ⟨o_Z43,(qaH c k,())⟩:=qdc c k hk hc hv.srt
noncomputable def qp4(c:List Sim)(k i j:Nat):Option Dv:=some ⟨o_Z85,((k:Int),(qaH c (fc c k i)).getD (j-1) 0,true,())⟩
theorem qg1(c:List Sim)(p:Int)(st:Sim)(ms:List Mat)(hc:Sm (.sl (.sl (.int .i64))) c)(h:VS c p st ms):Ev fun φ=>run E (φ 0+1) n_Z85 [dLL c,dI p,dL st,dMs ms]=qjm c ms (qp4 c) (some ⟨o_Z85,(0,0,false,())⟩):=by
  have hv:=h.1
  have h48:=hv.1
  simp only[run_Z85,Z85.ev]
  refine Ev.start (p:=fun φ n=>Z85.l0 (mkR (run E (φ 0))) (φ 0) n c (c.length:Int) 0 c p st ms=_) 1 ?_ (fun _ _ _ h=>h)
  have inner3:∀ k i (hk:k<c.length) (hn:3≤(c.getD k []).length) (hi:i<(c.getD k []).length) (rn:Option Dv),
      (¬ Pi c ms k i→Ev fun φ=>Z85.l1 (mkR (run E (φ 0))) (φ 0) (φ 1) (φ 2) (c.getD k []) (k:Int) (qaH c k) c (c.length:Int) (k:Int) ((c.getD k []).length:Int) ((i+1:Nat):Int) c p st ms=rn) →
      Ev fun φ=>Z85.l2 (mkR (run E (φ 0))) (φ 0) (φ 1) (φ 2) (φ 0) (c.getD k []) (k:Int) (qaH c k) (i:Int) ((i+1:Nat):Int) c (c.length:Int) (k:Int) ((c.getD k []).length:Int) (i:Int) c p st ms=rI c ms (qp4 c) k i rn:=by
    intro k i hk hn hi rn hrn
    have h4:=hv.len4 hk
    refine Ev.start (p:=fun φ n=>Z85.l2 (mkR (run E (φ 0))) (φ 0) (φ 1) (φ 2) n (c.getD k []) (k:Int) (qaH c k) (i:Int) ((i+1:Nat):Int) c (c.length:Int) (k:Int) ((c.getD k []).length:Int) (i:Int) c p st ms=_) 3 ?_ (fun _ _ _ h=>h)
    -- one round
    have round:∀ j (hij:i+1≤j) (hj:j<(c.getD k []).length) (r:Option Dv),
        (Ev fun φ=>(bif (!pb (two c ms k i (j-1)=two c ms k j i)) then qp4 c k i j else Z85.l2 (mkR (run E (φ 0))) (φ 0) (φ 1) (φ 2) (φ 3) (c.getD k []) (k:Int) (qaH c k) (i:Int) (w64 ((j:Int)+1)) c (c.length:Int) (k:Int) ((c.getD k []).length:Int) (i:Int) c p st ms)=r) →
        Ev fun φ=>Z85.l2 (mkR (run E (φ 0))) (φ 0) (φ 1) (φ 2) (φ 3+1) (c.getD k []) (k:Int) (qaH c k) (i:Int) (j:Int) c (c.length:Int) (k:Int) ((c.getD k []).length:Int) (i:Int) c p st ms=r:=by
      intro j hij hj r hr
      have s1:Sq c p st ms k i (j-1):=⟨hk,hn,hi,by omega,h⟩
      have s2:Sq c p st ms k j i:=⟨hk,hn,hj,by omega,h⟩
      obtain⟨ix1,F1,_⟩:=qbk hv hk s1.hi
      obtain⟨ix2,F2,_⟩:=qbk hv hk s2.hi
      have g1:=qdH c p st ms k i hk s1.hi h
      have g2:=qdH c p st ms (fc c k i) (j-1) F1 s1.hj h
      have g3:=qdH c p st ms k j hk s2.hi h
      have g4:=qdH c p st ms (fc c k j) i F2 s2.hj h
      have ej:w64 ((j:Int)-1)=((j-1:Nat):Int):=by rw[qaf (by omega) (by omega)];omega
      have j4:Ev fun φ=>Z85.j4 (mkR (run E (φ 0))) (φ 0) (φ 1) (φ 2) (φ 3) (c.getD k []) (k:Int) (qaH c k) (i:Int) (j:Int) c (c.length:Int) (k:Int) ((c.getD k []).length:Int) (i:Int) c p st ms
          (two c ms k i (j-1)).1 (two c ms k i (j-1)).2.1 (two c ms k i (j-1)).2.2.1 (two c ms k i (j-1)).2.2.2.1 (two c ms k j i).1 (two c ms k j i).2.1 (two c ms k j i).2.2.1 (two c ms k j i).2.2.2.1=r:=by
        simp only[Z85.j4_eq _ qae,ej]
        refine qaa (qij (two c ms k i (j-1)) (two c ms k j i) (qmU s1.b1 s1.b2)) ?_
        by_cases he:two c ms k i (j-1)=two c ms k j i
        · rw[qaP he] at hr ⊢
          exact qaI rfl (by simpa using hr)
        · rw[qat he] at hr ⊢
          refine qaC rfl (qac ix1 (qaa (qgu c (fc c k i) F1 hc hv) (qac (qak s1.hj) ?_)))
          have:qp4 c k i j=r:=by
            obtain⟨n0,hr⟩:=hr
            exact hr (fun _=>n0) (fun _=>Nat.le_refl _)
          rw[← this,qp4,qag s1.hj];exact qal
      have j3:Ev fun φ=>Z85.j3 (mkR (run E (φ 0))) (φ 0) (φ 1) (φ 2) (φ 3) (c.getD k []) (k:Int) (qaH c k) (i:Int) (j:Int) c (c.length:Int) (k:Int) ((c.getD k []).length:Int) (i:Int) c p st ms
          (two c ms k i (j-1)).1 (two c ms k i (j-1)).2.1 (two c ms k i (j-1)).2.2.1 (two c ms k i (j-1)).2.2.2.1=r:=by
        simp only[Z85.j3_eq _ qae]
        refine qac ix2 (qbF (qaa g3 (qbF (qaa g4 (qbF (qaa s2.impl j4) (qaa s2.impl j4))) (qaa g4 (qaa s2.impl j4)))) (qaa g3 (qaa g4 (qaa s2.impl j4))))
      simp only[Z85.l2_succ _ qae,ej]
      refine qaC (decide_eq_true (by omega)) (qac ix1 (qbF (qaa g1 (qbF (qaa g2 (qbF (qaa s1.impl j3) (qaa s1.impl j3))) (qaa g2 (qaa s1.impl j3)))) (qaa g1 (qaa g2 (qaa s1.impl j3)))))
    refine qcW 3 (L:=fun φ n j=>Z85.l2 (mkR (run E (φ 0))) (φ 0) (φ 1) (φ 2) n (c.getD k []) (k:Int) (qaH c k) (i:Int) j c (c.length:Int) (k:Int) ((c.getD k []).length:Int) (i:Int) c p st ms) (len:=(c.getD k []).length) (Bq c ms k i) (qp4 c k i) rn (fun _ _ _ _=>rfl) (i+1) (fun j h1 h2 hB=>?_) (fun j q h1 h2 hB ih=>?_) (fun hno=>?_) _ (by omega)
    · refine round j h1 h2 _ (qaC ?_ qal)
      rw[qat hB];rfl
    · refine round j h1 h2 _ (qaI ?_ ?_)
      · rw[qaP (Classical.not_not.1 hB)];rfl
      · rw[qad (by omega)];exact ih
    · simp only[Z85.l2_succ _ qae]
      refine qaI (decide_eq_false (by omega)) ?_
      rw[qad (by omega)];exact hrn fun⟨j,h1,h2,h3⟩=>hno j h1 (by omega) h3
  have inner2:∀ k (hk:k<c.length) (hn:3≤(c.getD k []).length) (rn:Option Dv),
      (¬ Pk c ms k→Ev fun φ=>Z85.l0 (mkR (run E (φ 0))) (φ 0) (φ 1) c (c.length:Int) ((k+1:Nat):Int) c p st ms=rn) →
      Ev fun φ=>Z85.l1 (mkR (run E (φ 0))) (φ 0) (φ 1) (φ 0) (c.getD k []) (k:Int) (qaH c k) c (c.length:Int) (k:Int) ((c.getD k []).length:Int) 0 c p st ms=rK c ms (qp4 c) k rn:=by
    intro k hk hn rn hrn
    have h4:=hv.len4 hk
    refine Ev.start (p:=fun φ n=>Z85.l1 (mkR (run E (φ 0))) (φ 0) (φ 1) n (c.getD k []) (k:Int) (qaH c k) c (c.length:Int) (k:Int) ((c.getD k []).length:Int) 0 c p st ms=_) 2 ?_ (fun _ _ _ h=>h)
    refine qcW 2 (L:=fun φ n i=>Z85.l1 (mkR (run E (φ 0))) (φ 0) (φ 1) n (c.getD k []) (k:Int) (qaH c k) c (c.length:Int) (k:Int) ((c.getD k []).length:Int) i c p st ms) (len:=(c.getD k []).length) (Pi c ms k) (fun i=>rI c ms (qp4 c) k i none) rn (fun _ _ _ _=>rfl) 0 (fun i h1 h2 hP=>?_) (fun i q h1 h2 hP ih=>?_) (fun hno=>?_) _ (by omega)
    · simp only[Z85.l1_succ _ qae]
      refine qaC (decide_eq_true (by omega)) ?_
      rw[qad (by omega)]
      exact inner3 k i hk hn h2 none fun hn=>absurd hP hn
    · simp only[Z85.l1_succ _ qae]
      refine qaC (decide_eq_true (by omega)) ?_
      rw[qad (by omega)]
      exact(inner3 k i hk hn h2 q fun _=>ih).to (qrH hP)
    · simp only[Z85.l1_succ _ qae]
      refine qaI (decide_eq_false (by omega)) ?_
      rw[qad (by omega)];exact hrn fun⟨_,i,h1,h2,h3⟩=>hno i h1 (by omega) h3
  refine qcW 1 (L:=fun φ n k=>Z85.l0 (mkR (run E (φ 0))) (φ 0) n c (c.length:Int) k c p st ms) (len:=c.length) (Pk c ms) (fun k=>rK c ms (qp4 c) k none) _ (fun _ _ _ _=>rfl) 0 (fun k h1 h2 hP=>?_) (fun k q h1 h2 hP ih=>?_) (fun hno=>?_) _ (by omega)
  · simp only[Z85.l0_succ _ qae]
    refine qaC (decide_eq_true (by omega)) (qac (qak h2) ?_)
    have hn:=hP.1
    rw[← qag (d:=[]) h2]
    exact qaI (decide_eq_false (by omega)) (qaa (qgu c k h2 hc hv) (inner2 k h2 hn none fun hn=>absurd hP hn))
  · simp only[Z85.l0_succ _ qae]
    refine qaC (decide_eq_true (by omega)) (qac (qak h2) ?_)
    rw[← qag (d:=[]) h2]
    refine qee (fun hlt=>?_) fun hlt=>?_
    · rw[qad (by omega)];exact ih
    · exact qaa (qgu c k h2 hc hv) ((inner2 k h2 (by omega) q fun _=>ih).to (qrJ hP (by omega)))
  · simp only[Z85.l0_succ _ qae]
    exact qaI (decide_eq_false (by omega)) qal
noncomputable def qrp(k i j:Nat):Option Dv:=some ⟨o_Z177,((k:Int),(i:Int),(j:Int),())⟩
theorem qkv(x:Shf)(hc:Sm (.sl (.sl (.int .i64))) x.1)(h:VS x.1 x.2.1 x.2.2.1 x.2.2.2.1):Ev fun φ=>run E (φ 0+1) n_Z177 [dS x]=qjm x.1 x.2.2.2.1 qrp (some ⟨o_Z177,(-1,0,0,())⟩):=by
  have hv:=h.1
  have h48:=hv.1
  simp only[run_Z177,Z177.ev]
  refine Ev.start (p:=fun φ n=>Z177.l0 (mkR (run E (φ 0))) (φ 0) n x 0=_) 1 ?_ (fun _ _ _ h=>h)
  have inner3:∀ k i (hk:k<x.1.length) (hn:3≤(x.1.getD k []).length) (hi:i<(x.1.getD k []).length) (rn:Option Dv),
      (¬ Pi x.1 x.2.2.2.1 k i→Ev fun φ=>Z177.l1 (mkR (run E (φ 0))) (φ 0) (φ 1) (φ 2) x (k:Int) ((x.1.getD k []).length:Int) ((i+1:Nat):Int)=rn) →
      Ev fun φ=>Z177.l3 (mkR (run E (φ 0))) (φ 0) (φ 1) (φ 2) (φ 0) x (k:Int) ((x.1.getD k []).length:Int) (i:Int) ((i+1:Nat):Int)=rI x.1 x.2.2.2.1 qrp k i rn:=by
    intro k i hk hn hi rn hrn
    have h4:=hv.len4 hk
    refine Ev.start (p:=fun φ n=>Z177.l3 (mkR (run E (φ 0))) (φ 0) (φ 1) (φ 2) n x (k:Int) ((x.1.getD k []).length:Int) (i:Int) ((i+1:Nat):Int)=_) 3 ?_ (fun _ _ _ h=>h)
    have round:∀ j (hij:i+1≤j) (hj:j<(x.1.getD k []).length) (r:Option Dv),
        (Ev fun φ=>(bif (!pb (two x.1 x.2.2.2.1 k i (j-1)=two x.1 x.2.2.2.1 k j i)) then qrp k i j else Z177.l3 (mkR (run E (φ 0))) (φ 0) (φ 1) (φ 2) (φ 3) x (k:Int) ((x.1.getD k []).length:Int) (i:Int) (w64 ((j:Int)+1)))=r) →
        Ev fun φ=>Z177.l3 (mkR (run E (φ 0))) (φ 0) (φ 1) (φ 2) (φ 3+1) x (k:Int) ((x.1.getD k []).length:Int) (i:Int) (j:Int)=r:=by
      intro j hij hj r hr
      have s1:Sq x.1 x.2.1 x.2.2.1 x.2.2.2.1 k i (j-1):=⟨hk,hn,hi,by omega,h⟩
      have s2:Sq x.1 x.2.1 x.2.2.1 x.2.2.2.1 k j i:=⟨hk,hn,hj,by omega,h⟩
      have t1:=qiS x k i j (by omega) (by rw[if_pos (by omega)];exact s1) hc (by omega)
      have t2:=qiS x k j i (by omega) (by rw[if_neg (by omega)];exact s2) hc (by omega)
      rw[if_pos (by omega)] at t1
      rw[if_neg (by omega)] at t2
      simp only[Z177.l3_succ _ qae]
      exact qaC (decide_eq_true (by omega)) (qaa t1 (qaa t2 (qaa (qkG (two x.1 x.2.2.2.1 k i (j-1)) (two x.1 x.2.2.2.1 k j i) (qmU s1.b1 s1.b2)) hr)))
    refine qcW 3 (L:=fun φ n j=>Z177.l3 (mkR (run E (φ 0))) (φ 0) (φ 1) (φ 2) n x (k:Int) ((x.1.getD k []).length:Int) (i:Int) j) (len:=(x.1.getD k []).length) (Bq x.1 x.2.2.2.1 k i) (qrp k i) rn (fun _ _ _ _=>rfl) (i+1) (fun j h1 h2 hB=>?_) (fun j q h1 h2 hB ih=>?_) (fun hno=>?_) _ (by omega)
    · refine round j h1 h2 _ (qaC ?_ qal)
      rw[qat hB];rfl
    · refine round j h1 h2 _ (qaI ?_ ?_)
      · rw[qaP (Classical.not_not.1 hB)];rfl
      · rw[qad (by omega)];exact ih
    · simp only[Z177.l3_succ _ qae]
      refine qaI (decide_eq_false (by omega)) ?_
      rw[qad (by omega)];exact hrn fun⟨j,h1,h2,h3⟩=>hno j h1 (by omega) h3
  have inner2:∀ k (hk:k<x.1.length) (hn:3≤(x.1.getD k []).length) (rn:Option Dv),
      (¬ Pk x.1 x.2.2.2.1 k→Ev fun φ=>Z177.l0 (mkR (run E (φ 0))) (φ 0) (φ 1) x ((k+1:Nat):Int)=rn) →
      Ev fun φ=>Z177.l1 (mkR (run E (φ 0))) (φ 0) (φ 1) (φ 0) x (k:Int) ((x.1.getD k []).length:Int) 0=rK x.1 x.2.2.2.1 qrp k rn:=by
    intro k hk hn rn hrn
    have h4:=hv.len4 hk
    refine Ev.start (p:=fun φ n=>Z177.l1 (mkR (run E (φ 0))) (φ 0) (φ 1) n x (k:Int) ((x.1.getD k []).length:Int) 0=_) 2 ?_ (fun _ _ _ h=>h)
    have h2':decide (((x.1.getD k []).length:Int)>2)=true:=decide_eq_true (by omega)
    refine qcW 2 (L:=fun φ n i=>Z177.l1 (mkR (run E (φ 0))) (φ 0) (φ 1) n x (k:Int) ((x.1.getD k []).length:Int) i) (len:=(x.1.getD k []).length) (Pi x.1 x.2.2.2.1 k) (fun i=>rI x.1 x.2.2.2.1 qrp k i none) rn (fun _ _ _ _=>rfl) 0 (fun i h1 h2 hP=>?_) (fun i q h1 h2 hP ih=>?_) (fun hno=>?_) _ (by omega)
    · simp only[Z177.l1_succ _ qae,h2',Z177.j2_eq _ qae,cond_true]
      refine qaC (decide_eq_true (by omega)) ?_
      rw[qad (by omega)]
      exact inner3 k i hk hn h2 none fun hn=>absurd hP hn
    · simp only[Z177.l1_succ _ qae,h2',Z177.j2_eq _ qae,cond_true]
      refine qaC (decide_eq_true (by omega)) ?_
      rw[qad (by omega)]
      exact(inner3 k i hk hn h2 q fun _=>ih).to (qrH hP)
    · simp only[Z177.l1_succ _ qae,Z177.j2_eq _ qae,cond_false]
      refine qaI (decide_eq_false (by omega)) ?_
      rw[qad (by omega)];exact hrn fun⟨_,i,h1,h2,h3⟩=>hno i h1 (by omega) h3
  refine qcW 1 (L:=fun φ n k=>Z177.l0 (mkR (run E (φ 0))) (φ 0) n x k) (len:=x.1.length) (Pk x.1 x.2.2.2.1) (fun k=>rK x.1 x.2.2.2.1 qrp k none) _ (fun _ _ _ _=>rfl) 0 (fun k h1 h2 hP=>?_) (fun k q h1 h2 hP ih=>?_) (fun hno=>?_) _ (by omega)
  · simp only[Z177.l0_succ _ qae]
    refine qaC (decide_eq_true (by omega)) (qac (qak h2) ?_)
    have hn:=hP.1
    rw[← qag (d:=[]) h2]
    exact inner2 k h2 hn none fun hn=>absurd hP hn
  · simp only[Z177.l0_succ _ qae]
    refine qaC (decide_eq_true (by omega)) (qac (qak h2) ?_)
    rw[← qag (d:=[]) h2]
    by_cases hn:3≤(x.1.getD k []).length
    · exact(inner2 k h2 hn q fun _=>ih).to (qrJ hP hn)
    · have h2':decide (((x.1.getD k []).length:Int)>2)=false:=decide_eq_false (by omega)
      refine Ev.start (p:=fun φ n=>Z177.l1 (mkR (run E (φ 0))) (φ 0) (φ 1) n x (k:Int) ((x.1.getD k []).length:Int) 0=_) 2 ?_ (fun _ _ _ h=>h)
      refine Ev.round 2 (L:=fun φ n=>Z177.l1 (mkR (run E (φ 0))) (φ 0) (φ 1) n x (k:Int) ((x.1.getD k []).length:Int) 0) ?_ (fun _ _ _=>rfl)
      simp only[Z177.l1_succ _ qae,h2',Z177.j2_eq _ qae,cond_false]
      rw[qad (by omega)]
      exact qee (fun _=>ih) fun _=>ih
  · simp only[Z177.l0_succ _ qae]
    exact qaI (decide_eq_false (by omega)) qal
end VeT
open Go Go.Proofs Ve
namespace VeT
noncomputable def wI(c:List Sim)(ms:List Mat):Int×Int×Bool×Unit:=match qbX c ms with
 | some (k,i,j)=>((k:Int),(qaH c (fc c k i)).getD (j-1) 0,true,())
 | none=>(0,0,false,())
noncomputable def wS(c:List Sim)(ms:List Mat):Int×Int×Int×Unit:=match qbX c ms with
 | some (k,i,j)=>((k:Int),(i:Int),(j:Int),())
 | none=>(-1,0,0,())
theorem qiw(c:List Sim)(p:Int)(st:Sim)(ms:List Mat)(hc:Sm (.sl (.sl (.int .i64))) c)(h:VS c p st ms):Ret E n_Z85 [dLL c,dI p,dL st,dMs ms] ⟨o_Z85,wI c ms⟩:=by
 refine qaj ((qg1 c p st ms hc h).to ?_)
 cases hw:qbX c ms with
 | none=>rw[qfi hw,wI,hw]
 | some t =>
  obtain⟨k,i,j⟩:=t
  rw[(qfp hw).2.2.2.2,wI,hw];rfl
theorem qlS(x:Shf)(hc:Sm (.sl (.sl (.int .i64))) x.1)(h:VS x.1 x.2.1 x.2.2.1 x.2.2.2.1):Ret E n_Z177 [dS x] ⟨o_Z177,wS x.1 x.2.2.2.1⟩:=by
 refine qaj ((qkv x hc h).to ?_)
 cases hw:qbX x.1 x.2.2.2.1 with
 | none=>rw[qfi hw,wS,hw]
 | some t =>
  obtain⟨k,i,j⟩:=t
  rw[(qfp hw).2.2.2.2,wS,hw];rfl
def ISh(x:Shf):Prop:=VS x.1 x.2.1 x.2.2.1 x.2.2.2.1∧qbX x.1 x.2.2.2.1=none
theorem qh7(x:Shf)(hx:Sm (.st cS) x):Ret E n_Z9 [dLL x.1,dI x.2.1,dL x.2.2.1,dMs x.2.2.2.1] ⟨o_Z9,(pb (ISh x),())⟩:=by
 refine qaj ?_
 simp only[run_Z9,Z9.ev]
 refine qaa (qj0 x hx) (qbL (fun h=>qah ?_) fun h=>?_)
 ·have h:=qaY.1 (show pb (VS x.1 x.2.1 x.2.2.1 x.2.2.2.1)=false by simpa using h)
  rw[qat fun hi=>h hi.1]
 ·have h:=qaG.1 (show pb (VS x.1 x.2.1 x.2.2.1 x.2.2.2.1)=true by simpa using h)
  refine qaa (qiw _ _ _ _ hx.1 h) (qah ?_)
  have:(!(wI x.1 x.2.2.2.1).2.2.1)=pb (ISh x):=qim (by
   unfold ISh wI
   cases hw:qbX x.1 x.2.2.2.1 with
   | none=>simp[h]
   | some t=>simp)
  rw[this]
theorem qo1(x:Shf)(hx:Sm (.st cS) x):Ret E n_Z169 [dS x] ⟨o_Z169,(pb (ISh x),())⟩:=by
 refine qaj ?_
 simp only[run_Z169,Z169.ev]
 refine qaa (qk4 x hx) (qbL (fun h=>qah ?_) fun h=>?_)
 ·have h:=qaY.1 (show pb (VS x.1 x.2.1 x.2.2.1 x.2.2.2.1)=false by simpa using h)
  rw[qat fun hi=>h hi.1]
 ·have h:=qaG.1 (show pb (VS x.1 x.2.1 x.2.2.1 x.2.2.2.1)=true by simpa using h)
  refine qaa (qlS x hx.1 h) (qah ?_)
  have:decide ((wS x.1 x.2.2.2.1).1<0)=pb (ISh x):=qim (by
   rw[decide_eq_true_iff]
   unfold ISh wS
   cases hw:qbX x.1 x.2.2.2.1 with
   | none=>simp[h]
   | some t=>simp only[reduceCtorEq,and_false,iff_false];omega)
  rw[this]
theorem qfj{s:Sim}{i j:Nat}(h:i<j):(s.eraseIdx j).eraseIdx i=(s.eraseIdx i).eraseIdx (j-1):=by
 apply List.ext_getElem?
 intro n
 rw[List.getElem?_eraseIdx,List.getElem?_eraseIdx,List.getElem?_eraseIdx,List.getElem?_eraseIdx]
 by_cases h1:n<i
 ·rw[if_pos h1,if_pos (by omega),if_pos (by omega),List.getElem?_eraseIdx,if_pos h1]
 ·by_cases h2:n+1<j
  ·rw[if_neg h1,if_pos h2,if_pos (by omega),List.getElem?_eraseIdx,if_neg h1]
  ·rw[if_neg h1,if_neg h2,if_neg (by omega),List.getElem?_eraseIdx,if_neg (by omega)]
def SDn(c:List Sim)(st:Sim)(d:Int)(n:Nat):Int:=((qav c d n).map fun i=>st.getD i.toNat 0).sum
theorem qoH{c:List Sim}{st:Sim}{d:Int}:SD c st d=SDn c st d c.length:=by
 unfold SD qiD SDn
 rw[List.take_of_length_le (Nat.le_refl _)]
theorem qeO{c:List Sim}{st:Sim}{d:Int}{n:Nat}:SDn c st d (n+1)=SDn c st d n+if ((c.getD n []).length:Int)=d+1 then st.getD n 0 else 0:=by
 unfold SDn
 rw[qc4,List.map_append,List.sum_append]
 split<;>simp
theorem qqf{c:List Sim}{p:Int}{st:Sim}{ms:List Mat}(h:VS c p st ms)(d:Nat)(hd:d<4):0≤SD c st (d:Int)∧SD c st (d:Int)≤32:=⟨qnE h.2.2.1.2.1 _,h.2.2.1.2.2 d hd⟩
end VeT
open Go Go.Proofs Ve
namespace VeT
theorem qjV{st:Sim}(hst:∀ x∈st,0≤x∧x≤3)(k:Nat):0≤st.getD k 0∧st.getD k 0≤3:=by
 by_cases hl:k<st.length
 ·rw[qag hl];exact hst _ (List.getElem_mem hl)
 ·rw[List.getD_eq_getElem?_getD,List.getElem?_eq_none (by omega)];simp
theorem qiV{c:List Sim}{st:Sim}{d:Int}(hst:∀ x∈st,0≤x∧x≤3):∀ {n:Nat},0≤SDn c st d n∧SDn c st d n≤3*n
 | 0=>by simp[SDn,qav]
 | n+1=>by
  have h1:=qiV (c:=c) (d:=d) hst (n:=n)
  have h2:=qjV hst n
  rw[qeO];split<;>omega
theorem qql{c:List Sim}{st:Sim}{d:Int}(hst:∀ x∈st,0≤x∧x≤3){n m:Nat}(h:n≤m):SDn c st d n≤SDn c st d m:=by
 induction h with
 | refl=>exact Int.le_refl _
 | @step m h ih=>rw[qeO];have:=qjV hst m;split<;>omega
theorem qoh{c:List Sim}{st:Sim}{d:Int}(hst:∀ x∈st,0≤x∧x≤3){s n:Nat}(hs:s<n)(hd:((c.getD s []).length:Int)=d+1):SDn c st d s+st.getD s 0≤SDn c st d n:=by
 have:=qql (c:=c) (d:=d) hst (show s+1≤n from hs)
 rw[qeO,if_pos hd] at this;exact this
theorem qoq{c:List Sim}{d:Int}{s n:Nat}(hs:s<n)(hd:((c.getD s []).length:Int)=d+1):∃ tl,qav c d n=qav c d s++(s:Int)::tl:=by
 induction n with
 | zero=>omega
 | succ n ih =>
  rw[qc4]
  by_cases h:s=n
  ·subst h;exact⟨[],by rw[if_pos hd]⟩
  ·obtain⟨tl,e⟩:=ih (by omega)
   exact⟨tl++_,by rw[e,List.append_assoc];rfl⟩
theorem qeK{c:List Sim}{d:Int}{k:Nat}{x:Int}:x∈qav c d k↔∃ i:Nat,x=i∧i<k∧((c.getD i []).length:Int)=d+1:=by
 unfold qav
 rw[List.mem_map]
 constructor
 ·rintro⟨i,hi,rfl⟩
  have:=List.mem_filter.1 hi
  exact⟨i,rfl,by simpa using this.1,by simpa using this.2⟩
 ·rintro⟨i,rfl,h1,h2⟩
  exact⟨i,List.mem_filter.2 ⟨by simpa using h1,by simpa using h2⟩,rfl⟩
def FC(c:List Sim)(st:Sim)(s:Nat):Int:=SDn c st (((c.getD s []).length:Int)-1) s
theorem qjL{c:List Sim}{st:Sim}(hst:∀ x∈st,0≤x∧x≤3){s:Nat}(hs:s<c.length):0≤FC c st s∧FC c st s+st.getD s 0≤SD c st (((c.getD s []).length:Int)-1):=by
 refine⟨(qiV hst).1,?_⟩
 rw[qoH]
 exact qoh hst hs (by omega)
abbrev St:=List (Nat×Int)
def qdz(S:St)(cs:Sim):Sim:=S.foldl (fun cs q=>cs.set q.1 q.2) cs
theorem qdh{S T:St}{cs:Sim}:qdz (S++T) cs=qdz T (qdz S cs):=by simp[qdz]
theorem qrX{q:Nat}{v:Int}{cs:Sim}:qdz [(q,v)] cs=cs.set q v:=rfl
theorem qbi{S:St}:∀ {cs:Sim},(qdz S cs).length=cs.length:=by
 induction S with
 | nil=>intro cs;rfl
 | cons q S ih=>intro cs;show(qdz S (cs.set q.1 q.2)).length=_;rw[ih,List.length_set]
theorem qiR{p:Int}{S:St}:∀ {cs:Sim},qax cs p→(∀ q∈S,0≤q.2∧q.2≤p-1)→qax (qdz S cs) p:=by
 induction S with
 | nil=>intro cs h _;exact h
 | cons q S ih =>
  intro cs h hS
  refine ih (cs:=cs.set q.1 q.2) (fun x hx=>?_) fun y hy=>hS y (List.mem_cons_of_mem _ hy)
  rcases List.mem_or_eq_of_mem_set hx with hx | rfl
  ·exact h x hx
  ·exact hS q List.mem_cons_self
theorem qlM{S:St}{q:Nat}:∀ {cs:Sim},(∀ x∈S,x.1≠q)→(qdz S cs).getD q 0=cs.getD q 0:=by
 induction S with
 | nil=>intro cs _;rfl
 | cons y S ih =>
  intro cs h
  have e:=ih (cs:=cs.set y.1 y.2) fun x hx=>h x (List.mem_cons_of_mem _ hx)
  show(qdz S (cs.set y.1 y.2)).getD q 0=_
  rw[e,List.getD_eq_getElem?_getD,List.getD_eq_getElem?_getD,List.getElem?_set_ne (h y List.mem_cons_self)]
theorem qpP{S:St}{q:Nat}{v:Int}:∀ {cs:Sim},q<cs.length→(∀ x∈S,x.1=q→x.2=v)→(∃ x∈S,x.1=q)→(qdz S cs).getD q 0=v:=by
 induction S with
 | nil=>intro cs _ _ ⟨x,hx,_⟩;simp at hx
 | cons y S ih =>
  intro cs hq hall ⟨x,hx,e⟩
  show(qdz S (cs.set y.1 y.2)).getD q 0=_
  by_cases hS:∃ x∈S,x.1=q
  ·exact ih (by rw[List.length_set];exact hq) (fun x hx=>hall x (List.mem_cons_of_mem _ hx)) hS
  ·rw[qlM fun x hx e=>hS ⟨x,hx,e⟩]
   rcases List.mem_cons.1 hx with rfl | hx
   ·subst e
    rw[List.getD_eq_getElem?_getD,List.getElem?_set_self hq]
    exact hall x List.mem_cons_self rfl
   ·exact absurd ⟨x,hx,e⟩ hS
def sgn(p:Int)(a:Nat):Int:=if a%2=0 then 1 else p-1
theorem qod{p:Int}(hp:2≤p∧p≤251)(a:Nat):0≤sgn p a∧sgn p a≤p-1:=by
 unfold sgn;split<;>omega
def stJ(p:Int)(m:Mat)(W top left:Nat)(sg:Int)(i n:Nat):St:=(List.range n).map fun j=>((top+i)*W+left+j,m.2.2.2.1.getD (i*m.2.2.1.toNat+j) 0*sg%p)
def stI(p:Int)(m:Mat)(W top left:Nat)(sg:Int)(n:Nat):St:=(List.range n).flatMap fun i=>stJ p m W top left sg i m.2.2.1.toNat
noncomputable def stF(c:List Sim)(p:Int)(st:Sim)(ms:List Mat)(k:Int)(s n:Nat):St :=
 (List.range n).flatMap fun a=>stI p (mp c ms s a) (SD c st k).toNat (FC c st s).toNat (FC c st (fc c s a)).toNat (sgn p a) (mp c ms s a).2.1.toNat
noncomputable def stS(c:List Sim)(p:Int)(st:Sim)(ms:List Mat)(k:Int)(n:Nat):St :=
 ((qav c (k+1) c.length).take n).flatMap fun s=>stF c p st ms k s.toNat (qaH c s.toNat).length
open Classical in
noncomputable def qek(c:List Sim)(p:Int)(st:Sim)(ms:List Mat)(k:Int):Sim :=
 if k<0 then List.replicate ((SD c st (k+1)).toNat*(SD c st k).toNat) 0 else qdz (stS c p st ms k (qav c (k+1) c.length).length) (List.replicate ((SD c st (k+1)).toNat*(SD c st k).toNat) 0)
noncomputable def qqn(c:List Sim)(p:Int)(st:Sim)(ms:List Mat)(k:Int):Mat:=(p,SD c st (k+1),SD c st k,qek c p st ms k,())
theorem qo2{p:Int}{m:Mat}{W top left:Nat}{sg:Int}{i n:Nat}{q:Nat×Int}:q∈stJ p m W top left sg i n↔∃ j,j<n∧q=((top+i)*W+left+j,m.2.2.2.1.getD (i*m.2.2.1.toNat+j) 0*sg%p):=by
 unfold stJ
 rw[List.mem_map]
 constructor
 ·rintro⟨j,hj,rfl⟩;exact⟨j,List.mem_range.1 hj,rfl⟩
 ·rintro⟨j,hj,rfl⟩;exact⟨j,List.mem_range.2 hj,rfl⟩
theorem qkc{c:List Sim}{p:Int}{st:Sim}{ms:List Mat}{k:Int}{s n:Nat}{q:Nat×Int}:q∈stF c p st ms k s n↔∃ a i j,a<n∧i<(mp c ms s a).2.1.toNat∧j<(mp c ms s a).2.2.1.toNat ∧
  q=(((FC c st s).toNat+i)*(SD c st k).toNat+(FC c st (fc c s a)).toNat+j,(mp c ms s a).2.2.2.1.getD (i*(mp c ms s a).2.2.1.toNat+j) 0*sgn p a%p):=by
 unfold stF stI
 rw[List.mem_flatMap]
 constructor
 ·rintro⟨a,ha,h⟩
  obtain⟨i,hi,h⟩:=List.mem_flatMap.1 h
  obtain⟨j,hj,e⟩:=qo2.1 h
  exact⟨a,i,j,List.mem_range.1 ha,List.mem_range.1 hi,hj,e⟩
 ·rintro⟨a,i,j,ha,hi,hj,e⟩
  exact⟨a,List.mem_range.2 ha,List.mem_flatMap.2 ⟨i,List.mem_range.2 hi,qo2.2 ⟨j,hj,e⟩⟩⟩
theorem qj1{c:List Sim}{p:Int}{st:Sim}{ms:List Mat}{k:Int}{n:Nat}{q:Nat×Int}(hn:(qav c (k+1) c.length).length≤n):q∈stS c p st ms k n↔∃ s:Nat,s<c.length∧((c.getD s []).length:Int)=k+2∧q∈stF c p st ms k s (qaH c s).length:=by
 unfold stS
 rw[List.take_of_length_le hn,List.mem_flatMap]
 constructor
 ·rintro⟨x,hx,h⟩
  obtain⟨s,rfl,h1,h2⟩:=qeK.1 hx
  exact⟨s,h1,by omega,h⟩
 ·rintro⟨s,h1,h2,h⟩
  exact⟨(s:Int),qeK.2 ⟨s,rfl,h1,by omega⟩,h⟩
theorem qc7{c:List Sim}{p:Int}{st:Sim}{ms:List Mat}(h:VS c p st ms){k:Int}{s a:Nat}(hs:s<c.length)(hd:((c.getD s []).length:Int)=k+2)(ha:a<(qaH c s).length) :
  (mp c ms s a).2.1=st.getD s 0∧(mp c ms s a).2.2.1=st.getD (fc c s a) 0∧fc c s a<c.length∧((c.getD (fc c s a) []).length:Int)=k+1 ∧
  (0≤FC c st s∧FC c st s+st.getD s 0≤SD c st (k+1))∧0≤FC c st (fc c s a)∧FC c st (fc c s a)+st.getD (fc c s a) 0≤SD c st k:=by
 obtain⟨_,hb⟩:=h.map hs ha
 obtain⟨_,hf,hg⟩:=qbk h.1 hs ha
 have hl:=qaF (c:=c) (k:=s)
 have hfl:((c.getD (fc c s a) []).length:Int)=k+1:=by
  rw[hg,List.length_eraseIdx]
  split at hl
  ·rw[if_pos (by omega)];omega
  ·omega
 have b1:=qjL h.2.2.1.2.1 hs
 have b2:=qjL h.2.2.1.2.1 hf
 rw[show((c.getD s []).length:Int)-1=k+1 by omega] at b1
 rw[show((c.getD (fc c s a) []).length:Int)-1=k by omega] at b2
 exact⟨hb.2.2.1,hb.2.2.2,hf,hfl,b1,b2⟩
theorem qor{c:List Sim}(hv:VC c)(st:Sim){d:Int}(hd:d<0∨4≤d):SD c st d=0:=by
 have:qav c d c.length=[]:=List.eq_nil_iff_forall_not_mem.2 fun x hx=>by
  obtain⟨i,_,hi,hl⟩:=qeK.1 hx
  have:=hv.2.1 i hi
  have h1:=this.1
  have h2:=this.2.1
  omega
 rw[qoH,SDn,this];rfl
theorem qcb{c:List Sim}{p:Int}{st:Sim}{ms:List Mat}(h:VS c p st ms)(d:Int):∃ n:Nat,SD c st d=(n:Int)∧n≤32∧(SD c st d).toNat=n:=by
 by_cases hd:d<0∨4≤d
 ·exact⟨0,qor h.1 st hd,by omega,by rw[qor h.1 st hd];rfl⟩
 ·have:=qqf h d.toNat (by omega)
  rw[Int.toNat_of_nonneg (by omega)] at this
  exact⟨(SD c st d).toNat,by omega,by omega,rfl⟩
theorem qbg{c:List Sim}{p:Int}{st:Sim}{ms:List Mat}{k:Int}:(qek c p st ms k).length=(SD c st (k+1)).toNat*(SD c st k).toNat:=by
 unfold qek;split
 ·rw[List.length_replicate]
 ·rw[qbi,List.length_replicate]
theorem qih{n:Nat}{p:Int}(hp:2≤p):qax (List.replicate n 0) p:=fun x hx=>by
 rw[List.mem_replicate] at hx;omega
theorem qbD{c:List Sim}{p:Int}{st:Sim}{ms:List Mat}(h:VS c p st ms)(k:Int):qax (qek c p st ms k) p:=by
 have hp:=h.2.1.1
 unfold qek;split
 ·exact qih hp
 ·refine qiR (qih hp) fun q hq=>?_
  obtain⟨s,_,_,hq⟩:=(qj1 (Nat.le_refl _)).1 hq
  obtain⟨a,i,j,_,_,_,rfl⟩:=qkc.1 hq
  have h0:=Int.emod_nonneg ((mp c ms s a).2.2.2.1.getD (i*(mp c ms s a).2.2.1.toNat+j) 0*sgn p a) (show p≠0 by omega)
  have h1:=Int.emod_lt_of_pos ((mp c ms s a).2.2.2.1.getD (i*(mp c ms s a).2.2.1.toNat+j) 0*sgn p a) (show 0<p by omega)
  exact⟨h0,by simp only;omega⟩
theorem qpd{c:List Sim}{p:Int}{st:Sim}{ms:List Mat}(h:VS c p st ms)(k:Int):VM (qqn c p st ms k):=by
 obtain⟨H,eH,bH,tH⟩:=qcb h (k+1)
 obtain⟨W,eW,bW,tW⟩:=qcb h k
 refine⟨h.2.1,by show 0≤SD c st (k+1)∧SD c st (k+1)≤32;omega,by show 0≤SD c st k∧SD c st k≤32;omega,?_,qbD h k⟩
 show((qek c p st ms k).length:Int)=SD c st (k+1)*SD c st k
 rw[qbg,tH,tW,eH,eW,qa0]
def qi4(m:Mat)(v:Sim)(n:Nat):Sim:=(List.range n).map fun i=>qaB (fun l=>m.2.2.2.1.getD (i*m.2.2.1.toNat+l) 0) (fun l=>v.getD l 0) m.2.2.1.toNat%m.1
theorem qdW{m:Mat}{v:Sim}{n:Nat}:(qi4 m v n).length=n:=by simp[qi4]
theorem qnn{m:Mat}{v:Sim}{n:Nat}(hp:2≤m.1):qax (qi4 m v n) m.1:=fun x hx=>by
 unfold qi4 at hx
 obtain⟨i,_,rfl⟩:=List.mem_map.1 hx
 have h0:=Int.emod_nonneg (qaB (fun l=>m.2.2.2.1.getD (i*m.2.2.1.toNat+l) 0) (fun l=>v.getD l 0) m.2.2.1.toNat) (show m.1≠0 by omega)
 have h1:=Int.emod_lt_of_pos (qaB (fun l=>m.2.2.2.1.getD (i*m.2.2.1.toNat+l) 0) (fun l=>v.getD l 0) m.2.2.1.toNat) (show 0<m.1 by omega)
 omega
end VeT
open Go Go.Proofs Ve
namespace VeT
theorem qoG(s:Sim)(v:Int)(hs:s.length≤1048576):Ret E n_Z118 [dL s,dI v] ⟨o_Z118,(qjH (fun x=>pb (x=v)) s,())⟩:=by
  obtain⟨o,h1,h2,h3⟩:=qco 1 (L:=fun φ n k=>Z118.l0 (mkR (run E (φ 0))) (φ 0) n s v (s.length:Int) k) (len:=s.length) (fun k=>∃ h:k<s.length,pb (s[k]=v)=true) (fun o=>some ⟨o_Z118,(o2i o,())⟩) (fun _ _ _ _=>rfl) (fun k hk hP=>by
      obtain⟨_,hP⟩:=hP
      have hP:=qaG.1 hP
      simp only[Z118.l0_succ _ qae]
      exact qaC (decide_eq_true (by omega)) (qac (qak hk) (qaC (by simp[hP]) qal))) (fun k q hk hP ih=>by
      simp only[Z118.l0_succ _ qae]
      refine qaC (decide_eq_true (by omega)) (qac (qak hk) (qaI (by simp only[beq_eq_false_iff_ne];exact fun e=>hP ⟨hk,qaP e.symm⟩) ?_))
      rw[qad (by omega)];exact ih) (by
      simp only[Z118.l0_succ _ qae]
      exact qaI (decide_eq_false (by omega)) qal)
  rw[qdd (p:=fun x=>pb (x=v)) h1 h2] at h3
  refine qaj ?_
  simp only[run_Z118,Z118.ev]
  exact Ev.start (p:=fun φ n=>Z118.l0 (mkR (run E (φ 0))) (φ 0) n s v (s.length:Int) 0=_) 1 h3 (fun _ _ _ h=>h)
theorem qkN(s:Sim)(v:Int)(hs:s.length≤1048576):Ret E n_Z105 [dL s,dI v] ⟨o_Z105,(pb (v∈s),())⟩:=by
 refine qaj ?_
 simp only[run_Z105,Z105.ev]
 refine qaa (qoG s v hs) (qah ?_)
 have:decide (qjH (fun x=>pb (x=v)) s≥0)=pb (v∈s):=qim (by
  rw[decide_eq_true_iff,ge_iff_le,qb8]
  exact⟨fun⟨x,h,e⟩=>qaG.1 e ▸ h,fun h=>⟨v,h,qaP rfl⟩⟩)
 simp only[this]
end VeT
open Go Go.Proofs Ve
namespace VeT
theorem qnq(i j:Nat):Ret E n_Z87 [dI (i:Int),dI (j:Int)] ⟨o_Z87,((0:Int),())⟩:=by
 refine qaj ?_
 simp only[run_Z87,Z87.ev]
 (first | exact qal | exact Ev.of fun _=>trivial)
theorem qgr{C:Nat}:∀ {n:Nat},qar (fun _ _=>0) C n=List.replicate (n*C) 0
 | 0=>by simp[qar]
 | n+1=>by
  rw[qar,qgr,Nat.add_mul,Nat.one_mul,← List.replicate_append_replicate]
  congr 1
  rw[List.map_const',List.length_range]
theorem qpU(p:Int)(R C:Nat)(hR:R≤32)(hC:C≤32):Ret E n_Z86 [dI p,dI (R:Int),dI (C:Int)] ⟨o_Z86,(p,(R:Int),(C:Int),List.replicate (R*C) 0,())⟩:=by
 have h1:=qcN hR hC
 refine qaj ?_
 simp only[run_Z86,Z86.ev]
 rw[← qgr]
 exact qaa (qej p R C (fun _ _=>0) (by omega) (by omega) (by omega) fun i j _ _=>qnq i j) qal
theorem qeB(c:List Sim)(p:Int)(st:Sim)(ms:List Mat)(s:Nat)(hs:s<c.length)(hc:Sm (.sl (.sl (.int .i64))) c)(hl:st.length=c.length)(hst:∀ x∈st,0≤x∧x≤3) :
  Ret E n_Z49 [dLL c,dI p,dL st,dMs ms,dI (s:Int)] ⟨o_Z49,(FC c st s,())⟩:=by
 have hc1:c.length≤1048576:=hc.1
 have hls:(c[s]).length≤1048576:=(qb2 hc hs).1
 have e:w64 (((c[s]).length:Int)-1)=((c[s]).length:Int)-1:=qaf (by omega) (by omega)
 obtain⟨tl,hpre⟩:=qoq (c:=c) (d:=((c[s]).length:Int)-1) hs (by rw[qag hs];omega)
 have hF:FC c st s=SDn c st (((c[s]).length:Int)-1) s:=by rw[FC,qag hs]
 refine qaj ?_
 simp only[run_Z49,Z49.ev]
 refine qac (qak hs) (qaa (qen _) ?_)
 simp only[e]
 refine qaa (qc8 c (((c[s]).length:Int)-1) hc ⟨by omega,by omega⟩) ?_
 rw[hF]
 generalize ((c[s]).length:Int)-1=d at hpre ⊢
 have hol:=qbS c d c.length
 have hlen:(qav c d s).length<(qav c d c.length).length:=by rw[hpre];simp
 refine Ev.start (p:=fun φ n=>Z49.l0 (mkR (run E (φ 0))) (φ 0) n (s:Int) 0 (qav c d c.length) ((qav c d c.length).length:Int) 0 c p st ms=_) 1 ?_ (fun _ _ _ h=>h)
 refine qe2 1 (σ:=Nat) (L:=fun φ n t=>Z49.l0 (mkR (run E (φ 0))) (φ 0) n (s:Int) (qiD c st d t) (qav c d c.length) ((qav c d c.length).length:Int) (t:Int) c p st ms) (fun _ _ _ _=>rfl) (fun t=>t≤(qav c d s).length) (fun _=>_) (fun t=>(qav c d s).length-t) (fun t ht ih=>?_) 0 (Nat.zero_le _)
 have ht:t≤(qav c d s).length:=ht
 have htl:t<(qav c d c.length).length:=by omega
 simp only[Z49.l0_succ _ qae]
 refine qaC (decide_eq_true (by omega)) ?_
 by_cases h:t=(qav c d s).length
 ·have hg:(qav c d c.length)[t]? = some (s:Int):=by rw[hpre,h,List.getElem?_append_right (Nat.le_refl _),Nat.sub_self];rfl
  refine qac (qbh.trans hg) (qaC (by simp) (qah ?_))
  have:qiD c st d t=SDn c st d s:=by
   unfold qiD SDn
   rw[hpre,h,List.take_left' rfl]
  rw[this]
 ·have hp:t<(qav c d s).length:=by omega
  obtain⟨i,hi,his⟩:=qhD (List.getElem_mem hp)
  have hg:(qav c d c.length)[t]? = some (i:Int):=by rw[hpre,List.getElem?_append_left hp,List.getElem?_eq_getElem hp,hi]
  have hgi:(qav c d c.length)[t]=(i:Int):=by rw[List.getElem?_eq_getElem htl] at hg;exact Option.some.inj hg
  have hil:i<st.length:=by omega
  have:=ih (t+1) (by show t+1≤_;omega) (by show(qav c d s).length-(t+1)<(qav c d s).length-t;omega)
  rw[qfN _ _ _ _ htl,hgi,Int.toNat_natCast,qag hil] at this
  have hb:=qkf hst d t (c:=c)
  have hb2:=hst _ (List.getElem_mem hil)
  refine qac (qbh.trans hg) (qaI (by simp;omega) (qac (qak hil) ?_))
  rw[qad (by omega),qaf (by omega) (by omega)]
  exact this
theorem qk0(x:Shf)(s:Nat)(hs:s<x.1.length)(hc:Sm (.sl (.sl (.int .i64))) x.1)(hl:x.2.2.1.length=x.1.length)(hst:∀ y∈x.2.2.1,0≤y∧y≤3) :
  Ret E n_Z179 [dS x,dI (s:Int)] ⟨o_Z179,(FC x.1 x.2.2.1 s,())⟩:=by
 have hc1:x.1.length≤1048576:=hc.1
 refine qaj ?_
 simp only[run_Z179,Z179.ev]
 refine Ev.start (p:=fun φ n=>Z179.l0 (mkR (run E (φ 0))) (φ 0) n x (s:Int) 0 0=_) 1 ?_ (fun _ _ _ h=>h)
 refine qan 1 (L:=fun φ n k a=>Z179.l0 (mkR (run E (φ 0))) (φ 0) n x (s:Int) a k) (len:=s) (fun k=>SDn x.1 x.2.2.1 (((x.1.getD s []).length:Int)-1) k) (fun _ _ _ _ _=>rfl) (fun k r hk ih=>?_) ?_
 ·have hkc:k<x.1.length:=by omega
  have hks:k<x.2.2.1.length:=by omega
  simp only[Z179.l0_succ _ qae]
  have hb:=qiV (c:=x.1) (d:=((x.1.getD s []).length:Int)-1) hst (n:=k)
  have hb2:=hst _ (List.getElem_mem hks)
  rw[qeO,qag hkc,qag hks,qag hs] at ih
  rw[qag hs] at hb
  rw[qad (by omega)]
  refine qaC (decide_eq_true (by omega)) (qac (qak hkc) (qac (qak hs) (qbL (fun he=>qac (qak hks) ?_) fun he=>?_)))
  ·have he:((x.1[k]).length:Int)=((x.1[s]).length:Int):=by simpa using he
   rw[if_pos (by omega)] at ih
   rw[qag hs,qaf (by omega) (by omega)];exact ih
  ·have he:¬ ((x.1[k]).length:Int)=((x.1[s]).length:Int):=by simpa using he
   rw[if_neg (by omega),Int.add_zero] at ih
   rw[qag hs];exact ih
 ·simp only[Z179.l0_succ _ qae]
  exact qaI (decide_eq_false (by omega)) qal
theorem qhN(p:Int)(i:Nat)(hp:2≤p∧p≤251):Ret E n_Z23 [dI (i:Int),dI p] ⟨o_Z23,(sgn p i,())⟩:=by
 refine qaj ?_
 simp only[run_Z23,Z23.ev]
 rw[Int.tmod_eq_emod_of_nonneg (by omega),qaf (by omega) (by omega)]
 refine qbL (fun h=>qah ?_) fun h=>qah ?_
 ·have h:(i:Int)%2=0:=by simpa using h
  rw[sgn,if_pos (by omega)]
 ·have h:¬ (i:Int)%2=0:=by simpa using h
  rw[sgn,if_neg (by omega)]
theorem ql4(p:Int)(i:Nat)(hp:2≤p∧p≤251):Ret E n_Z161 [dI (i:Int),dI p] ⟨o_Z161,(sgn p i,())⟩:=by
 refine qaj ?_
 simp only[run_Z161,Z161.ev]
 rw[Int.tmod_eq_emod_of_nonneg (by omega),qaf (by omega) (by omega)]
 refine qbL (fun h=>qao (by simp;omega) (qah ?_)) fun h=>qah ?_
 ·have h:(i:Int)%2=0:=by simpa using h
  rw[sgn,if_pos (by omega),Int.tmod_eq_emod_of_nonneg (by omega),Int.emod_eq_of_lt (by omega) (by omega)]
 ·have h:¬ (i:Int)%2=0:=by simpa using h
  rw[sgn,if_neg (by omega)]
theorem qnd{p:Int}{m:Mat}{W top left:Nat}{sg:Int}{i n:Nat}{cs:Sim}:qdz (stJ p m W top left sg i (n+1)) cs=(qdz (stJ p m W top left sg i n) cs).set ((top+i)*W+left+n) (m.2.2.2.1.getD (i*m.2.2.1.toNat+n) 0*sg%p):=by
 unfold stJ
 rw[List.range_succ,List.map_append,qdh];rfl
theorem qnj{p:Int}{m:Mat}{W top left:Nat}{sg:Int}{n:Nat}{cs:Sim}:qdz (stI p m W top left sg (n+1)) cs=qdz (stJ p m W top left sg n m.2.2.1.toNat) (qdz (stI p m W top left sg n) cs):=by
 unfold stI
 rw[List.range_succ,List.flatMap_append,qdh,List.flatMap_singleton]
theorem qne{c:List Sim}{p:Int}{st:Sim}{ms:List Mat}{k:Int}{s n:Nat}{cs:Sim}:qdz (stF c p st ms k s (n+1)) cs=qdz (stI p (mp c ms s n) (SD c st k).toNat (FC c st s).toNat (FC c st (fc c s n)).toNat (sgn p n) (mp c ms s n).2.1.toNat) (qdz (stF c p st ms k s n) cs):=by
 unfold stF
 rw[List.range_succ,List.flatMap_append,qdh,List.flatMap_singleton]
theorem qnk{c:List Sim}{p:Int}{st:Sim}{ms:List Mat}{k:Int}{n:Nat}{cs:Sim}(hn:n<(qav c (k+1) c.length).length){s:Nat}(hs:(qav c (k+1) c.length)[n]=(s:Int)):qdz (stS c p st ms k (n+1)) cs=qdz (stF c p st ms k s (qaH c s).length) (qdz (stS c p st ms k n) cs):=by
 unfold stS
 rw[List.take_succ_eq_append_getElem hn,List.flatMap_append,qdh,List.flatMap_singleton,hs,Int.toNat_natCast]
end VeT
open Go Go.Proofs Ve
namespace VeT
structure CobF (c:List Sim) (p:Int) (st:Sim) (ms:List Mat) (k:Int) (s a T L R C H W:Nat):Prop where
 sl:s<c.length
 al:a<(qaH c s).length
 eT:FC c st s=(T:Int)
 eL:FC c st (fc c s a)=(L:Int)
 eR:(mp c ms s a).2.1=(R:Int)
 eC:(mp c ms s a).2.2.1=(C:Int)
 eW:SD c st k=(W:Int)
 hT:T+R≤H
 hL:L+C≤W
 hH:H≤32
 hW:W≤32
 len:(mp c ms s a).2.2.2.1.length=R*C
 el:qax (mp c ms s a).2.2.2.1 p
 hp:2≤p∧p≤251
 hR:R≤32
 hC:C≤32
 h4:a≤4
theorem qok{c:List Sim}{p:Int}{st:Sim}{ms:List Mat}(h:VS c p st ms){k:Int}{s a H W:Nat}(hs:s<c.length)(hd:((c.getD s []).length:Int)=k+2)(ha:a<(qaH c s).length)(eH:SD c st (k+1)=(H:Int))(eW:SD c st k=(W:Int))(hH:H≤32)(hW:W≤32) :
  ∃ T L R C:Nat,CobF c p st ms k s a T L R C H W:=by
 obtain⟨g1,g2,g3,g4,g5,g6,g7⟩:=qc7 h hs hd ha
 obtain⟨_,hb⟩:=h.map hs ha
 obtain⟨R,C,em,hR,hC,hlen⟩:=hb.1.nat
 have e1:(mp c ms s a).2.1=(R:Int):=congrArg (fun m:Mat=>m.2.1) em
 have e2:(mp c ms s a).2.2.1=(C:Int):=congrArg (fun m:Mat=>m.2.2.1) em
 have hp:2≤p∧p≤251:=⟨h.2.1.1,h.2.1.2.1⟩
 have el:=hb.1.2.2.2.2
 rw[hb.2.1] at el
 have h4:=h.1.fIdx4 hs
 exact⟨(FC c st s).toNat,(FC c st (fc c s a)).toNat,R,C,hs,ha,by omega,by omega,e1,e2,eW,by omega,by omega,hH,hW,hlen,el,hp,hR,hC,by omega⟩
theorem qqA{T L i j W H:Nat}(h1:T+i<H)(h2:L+j<W)(hH:H≤32)(hW:W≤32):w64 (w64 (w64 (w64 ((T:Int)+(i:Int))*(W:Int))+(L:Int))+(j:Int))=(((T+i)*W+L+j:Nat):Int)∧(T+i)*W+L+j<H*W:=by
 have hlt:=qe4 h1 h2
 have:=qcN hH hW
 have e1:w64 ((T:Int)+(i:Int))=((T+i:Nat):Int):=by rw[qaf (by omega) (by omega)];omega
 have e2:w64 (((T+i:Nat):Int)*(W:Int))=(((T+i)*W:Nat):Int):=by rw[qa0];exact qaf (by omega) (by omega)
 have e3:w64 ((((T+i)*W:Nat):Int)+(L:Int))=(((T+i)*W+L:Nat):Int):=by rw[qaf (by omega) (by omega)];omega
 have e4:w64 ((((T+i)*W+L:Nat):Int)+(j:Int))=(((T+i)*W+L+j:Nat):Int):=by rw[qaf (by omega) (by omega)];omega
 rw[e1,e2,e3,e4]
 exact⟨rfl,by omega⟩
theorem qo5{x y p:Int}(hx:0≤x∧x≤250)(hy:0≤y∧y≤250)(hp:2≤p∧p≤251):Int.tmod (w64 (x*y)) p=x*y%p:=by
 have:=qfb hx hy
 rw[qaf (by omega) (by omega),Int.tmod_eq_emod_of_nonneg (by omega)]
theorem qaV(c:List Sim)(p:Int)(st:Sim)(ms:List Mat)(k:Int)(hk:-1≤k∧k≤3)(hc:Sm (.sl (.sl (.int .i64))) c)(h:VS c p st ms) :
    Ret E n_Z31 [dLL c,dI p,dL st,dMs ms,dI k] ⟨o_Z31,qqn c p st ms k⟩:=by
  obtain⟨H,eH,bH,tH⟩:=qcb h (k+1)
  obtain⟨W,eW,bW,tW⟩:=qcb h k
  have hst:=h.2.2.1.2.1
  have hl:=h.2.2.1.1
  have h48:=h.1.1
  have ek:w64 (k+1)=k+1:=qaf (by omega) (by omega)
  have hHW:=qcN bH bW
  have s1:=qcM c st (k+1) p ms hc hl hst (by omega)
  have s2:=qcM c st k p ms hc hl hst (by omega)
  rw[show qiD c st (k+1) (qav c (k+1) c.length).length=(H:Int) from eH] at s1
  rw[show qiD c st k (qav c k c.length).length=(W:Int) from eW] at s2
  have z:=qpU p H W bH bW
  have hM:qqn c p st ms k=(p,(H:Int),(W:Int),qek c p st ms k,()):=by rw[qqn,eH,eW]
  rw[hM]
  refine qaj ?_
  simp only[run_Z31,Z31.ev,ek]
  suffices hmain:Ev fun φ=>Z31.j0 (mkR (run E (φ 0))) (φ 0) k c p st ms 0 0 0 p (H:Int) (W:Int) (List.replicate (H*W) 0)=some ⟨o_Z31,(p,(H:Int),(W:Int),qek c p st ms k,())⟩ by
    exact qbF (qaa s1 (qbF (qaa s2 (qbF (qaa z hmain) (qaa z hmain))) (qaa s2 (qaa z hmain)))) (qaa s1 (qaa s2 (qaa z hmain)))
  simp only[Z31.j0_eq _ qae,ek]
  refine qaa (qc8 c (k+1) hc (by omega)) ?_
  have hol:=qbS c (k+1) c.length
  by_cases hk0:k<0
  · have e0:qek c p st ms k=List.replicate (H*W) 0:=by rw[qek,if_pos hk0,tH,tW]
    rw[e0]
    refine Ev.start (p:=fun φ n=>Z31.l1 (mkR (run E (φ 0))) (φ 0) n k (qav c (k+1) c.length) ((qav c (k+1) c.length).length:Int) 0 c p st ms 0 0 0 p (H:Int) (W:Int) (List.replicate (H*W) 0)=_) 1 ?_ (fun _ _ _ h=>h)
    refine Ev.round 1 (L:=fun φ n=>Z31.l1 (mkR (run E (φ 0))) (φ 0) n k (qav c (k+1) c.length) ((qav c (k+1) c.length).length:Int) 0 c p st ms 0 0 0 p (H:Int) (W:Int) (List.replicate (H*W) 0)) ?_ (fun _ _ _=>rfl)
    simp only[Z31.l1_succ _ qae,Z31.j2_eq _ qae]
    refine qee (fun hlt=>?_) fun _=>qal
    have hlt:0<(qav c (k+1) c.length).length:=by omega
    exact qac (qak (k:=0) hlt) (qaC (decide_eq_true hk0) qal)
  have e0:qek c p st ms k=qdz (stS c p st ms k (qav c (k+1) c.length).length) (List.replicate (H*W) 0):=by rw[qek,if_neg hk0,tH,tW]
  rw[e0]
  -- one row of a face' stores
  have r5:∀(s a T L R C i:Nat) (F:CobF c p st ms k s a T L R C H W) (t:Nat) (ls:Sim) (n1:Int) (fs:Sim) (n2:Int) (cs:Sim) (hcs:cs.length=H*W) (hi:i<R) (r:Option Dv),
      (Ev fun φ=>Z31.l4 (mkR (run E (φ 0))) (φ 0) (φ 1) (φ 2) (φ 3) k (s:Int) (a:Int) (T:Int) (L:Int) ls n1 (t:Int) fs n2 (a:Int) (R:Int) ((i+1:Nat):Int) c p st ms 0 0 0 p (H:Int) (W:Int) (mp c ms s a).1 (R:Int) (C:Int) (mp c ms s a).2.2.2.1 (qdz (stJ p (mp c ms s a) W T L (sgn p a) i C) cs)=r) →
      Ev fun φ=>Z31.l5 (mkR (run E (φ 0))) (φ 0) (φ 1) (φ 2) (φ 3) (φ 0) k (s:Int) (a:Int) (T:Int) (L:Int) (i:Int) ls n1 (t:Int) fs n2 (a:Int) (R:Int) (i:Int) (C:Int) 0 c p st ms 0 0 0 p (H:Int) (W:Int) (mp c ms s a).1 (R:Int) (C:Int) (mp c ms s a).2.2.2.1 cs=r:=by
    intro s a T L R C i F t ls n1 fs n2 cs hcs hi r hr
    refine Ev.start (p:=fun φ n=>Z31.l5 (mkR (run E (φ 0))) (φ 0) (φ 1) (φ 2) (φ 3) n k (s:Int) (a:Int) (T:Int) (L:Int) (i:Int) ls n1 (t:Int) fs n2 (a:Int) (R:Int) (i:Int) (C:Int) 0 c p st ms 0 0 0 p (H:Int) (W:Int) (mp c ms s a).1 (R:Int) (C:Int) (mp c ms s a).2.2.2.1 cs=_) 4 ?_ (fun _ _ _ h=>h)
    refine qan 4 (L:=fun φ n j o=>Z31.l5 (mkR (run E (φ 0))) (φ 0) (φ 1) (φ 2) (φ 3) n k (s:Int) (a:Int) (T:Int) (L:Int) (i:Int) ls n1 (t:Int) fs n2 (a:Int) (R:Int) (i:Int) (C:Int) j c p st ms 0 0 0 p (H:Int) (W:Int) (mp c ms s a).1 (R:Int) (C:Int) (mp c ms s a).2.2.2.1 o) (len:=C) (fun j=>qdz (stJ p (mp c ms s a) W T L (sgn p a) i j) cs) (fun _ _ _ _ _=>rfl) (fun j q hj ih=>?_) ?_
    · simp only[Z31.l5_succ _ qae]
      have hT:=F.hT
      have hL:=F.hL
      have hp:=F.hp
      obtain⟨ep,hpos⟩:=qqA (T:=T) (L:=L) (i:=i) (j:=j) (W:=W) (H:=H) (by omega) (by omega) bH bW
      have hij:i*C+j<(mp c ms s a).2.2.2.1.length:=by rw[F.len];exact qe4 hi hj
      have hRC:=qcN F.hR F.hC
      have hx:=F.el.get hp (i*C+j)
      have hy:=qod hp a
      rw[qnd,F.eC,Int.toNat_natCast,qag hij] at ih
      rw[qag hij] at hx
      have hol':(qdz (stJ p (mp c ms s a) W T L (sgn p a) i j) cs).length=H*W:=by rw[qbi,hcs]
      have ev:=qo5 hx (show 0≤sgn p a∧sgn p a≤250 by omega) hp
      refine qaC (decide_eq_true (by omega)) (qaa (qjl _ _ C _ i j hij (by rw[F.len];omega)) (qaa (qhN p a hp) (qao (by simp;omega) ?_)))
      simp only[ep,ev,hol',Int.toNat_natCast]
      refine qao (by simp only[Bool.and_eq_true,decide_eq_true_eq];omega) ?_
      rw[qad (by omega)]
      exact ih
    · simp only[Z31.l5_succ _ qae]
      have:=F.hR
      refine qaI (decide_eq_false (by omega)) ?_
      rw[qad (by omega)]
      exact hr
  -- a face' stores
  have r4:∀(s a T L R C:Nat) (F:CobF c p st ms k s a T L R C H W) (t:Nat) (ls:Sim) (n1:Int) (fs:Sim) (n2:Int) (cs:Sim) (hcs:cs.length=H*W) (r:Option Dv),
      (Ev fun φ=>Z31.l3 (mkR (run E (φ 0))) (φ 0) (φ 1) (φ 2) k (s:Int) ls n1 (t:Int) fs n2 ((a+1:Nat):Int) c p st ms 0 0 0 p (H:Int) (W:Int) (qdz (stI p (mp c ms s a) W T L (sgn p a) R) cs)=r) →
      Ev fun φ=>Z31.l4 (mkR (run E (φ 0))) (φ 0) (φ 1) (φ 2) (φ 0) k (s:Int) (a:Int) (T:Int) (L:Int) ls n1 (t:Int) fs n2 (a:Int) (R:Int) 0 c p st ms 0 0 0 p (H:Int) (W:Int) (mp c ms s a).1 (R:Int) (C:Int) (mp c ms s a).2.2.2.1 cs=r:=by
    intro s a T L R C F t ls n1 fs n2 cs hcs r hr
    refine Ev.start (p:=fun φ n=>Z31.l4 (mkR (run E (φ 0))) (φ 0) (φ 1) (φ 2) n k (s:Int) (a:Int) (T:Int) (L:Int) ls n1 (t:Int) fs n2 (a:Int) (R:Int) 0 c p st ms 0 0 0 p (H:Int) (W:Int) (mp c ms s a).1 (R:Int) (C:Int) (mp c ms s a).2.2.2.1 cs=_) 3 ?_ (fun _ _ _ h=>h)
    refine qan 3 (L:=fun φ n i o=>Z31.l4 (mkR (run E (φ 0))) (φ 0) (φ 1) (φ 2) n k (s:Int) (a:Int) (T:Int) (L:Int) ls n1 (t:Int) fs n2 (a:Int) (R:Int) i c p st ms 0 0 0 p (H:Int) (W:Int) (mp c ms s a).1 (R:Int) (C:Int) (mp c ms s a).2.2.2.1 o) (len:=R) (fun i=>qdz (stI p (mp c ms s a) W T L (sgn p a) i) cs) (fun _ _ _ _ _=>rfl) (fun i q hi ih=>?_) ?_
    · simp only[Z31.l4_succ _ qae]
      rw[qnj,F.eC,Int.toNat_natCast] at ih
      exact qaC (decide_eq_true (by omega)) (r5 s a T L R C i F t ls n1 fs n2 _ (by rw[qbi,hcs]) hi q ih)
    · simp only[Z31.l4_succ _ qae]
      have:=F.h4
      refine qaI (decide_eq_false (by omega)) ?_
      rw[qad (by omega)]
      exact hr
  refine Ev.start (p:=fun φ n=>Z31.l1 (mkR (run E (φ 0))) (φ 0) n k (qav c (k+1) c.length) ((qav c (k+1) c.length).length:Int) 0 c p st ms 0 0 0 p (H:Int) (W:Int) (List.replicate (H*W) 0)=_) 1 ?_ (fun _ _ _ h=>h)
  refine qan 1 (L:=fun φ n t o=>Z31.l1 (mkR (run E (φ 0))) (φ 0) n k (qav c (k+1) c.length) ((qav c (k+1) c.length).length:Int) t c p st ms 0 0 0 p (H:Int) (W:Int) o) (len:=(qav c (k+1) c.length).length) (fun t=>qdz (stS c p st ms k t) (List.replicate (H*W) 0)) (fun _ _ _ _ _=>rfl) (fun t q ht ih=>?_) ?_
  · simp only[Z31.l1_succ _ qae]
    obtain⟨s,hse,hs,hd⟩:=qeK.1 (List.getElem_mem ht)
    rw[qnk ht hse] at ih
    have hg:(qav c (k+1) c.length)[t]? = some (s:Int):=by rw[List.getElem?_eq_getElem ht,hse]
    have hf4:=h.1.fIdx4 hs
    generalize hO:qdz (stS c p st ms k t) (List.replicate (H*W) 0)=O at ih ⊢
    have hOl:O.length=H*W:=by rw[← hO,qbi,List.length_replicate]
    refine qaC (decide_eq_true (by omega)) (qac (qbh.trans hg) (qaI (decide_eq_false hk0) (qaa (qdc c s hs hc h.1.srt) ?_)))
    refine Ev.start (p:=fun φ n=>Z31.l3 (mkR (run E (φ 0))) (φ 0) (φ 1) n k (s:Int) (qav c (k+1) c.length) ((qav c (k+1) c.length).length:Int) (t:Int) (qaH c s) ((qaH c s).length:Int) 0 c p st ms 0 0 0 p (H:Int) (W:Int) O=_) 2 ?_ (fun _ _ _ h=>h)
    refine qan 2 (L:=fun φ n a o=>Z31.l3 (mkR (run E (φ 0))) (φ 0) (φ 1) n k (s:Int) (qav c (k+1) c.length) ((qav c (k+1) c.length).length:Int) (t:Int) (qaH c s) ((qaH c s).length:Int) a c p st ms 0 0 0 p (H:Int) (W:Int) o) (len:=(qaH c s).length) (fun a=>qdz (stF c p st ms k s a) O) (fun _ _ _ _ _=>rfl) (fun a q2 ha ih2=>?_) ?_
    · simp only[Z31.l3_succ _ qae]
      obtain⟨T,L,R,C,F⟩:=qok h hs (by omega) ha eH eW bH bW
      obtain⟨ix,hfc,_⟩:=qbk h.1 hs ha
      have f1:=qeB c p st ms s hs hc hl hst
      have f2:=qeB c p st ms (fc c s a) hfc hc hl hst
      rw[F.eT] at f1
      rw[F.eL] at f2
      rw[qne,tW,F.eT,F.eL,F.eR,Int.toNat_natCast,Int.toNat_natCast,Int.toNat_natCast] at ih2
      refine qaC (decide_eq_true (by omega)) (qac ix (qaa (qdH c p st ms s a hs ha h) (qaa f1 (qaa f2 ?_))))
      simp only[F.eR,F.eC]
      exact r4 s a T L R C F t _ _ _ _ _ (by rw[qbi,hOl]) q2 ih2
    · simp only[Z31.l3_succ _ qae]
      refine qaI (decide_eq_false (by omega)) ?_
      rw[qad (by omega)]
      exact ih
  · simp only[Z31.l1_succ _ qae,Z31.j2_eq _ qae]
    exact qaI (decide_eq_false (by omega)) qal
end VeT
open Go Go.Proofs Ve
namespace VeT
theorem qkm(x:Shf)(k:Int)(hk:-1≤k∧k≤3)(hc:Sm (.sl (.sl (.int .i64))) x.1)(h:VS x.1 x.2.1 x.2.2.1 x.2.2.2.1) :
    Ret E n_Z181 [dS x,dI k] ⟨o_Z181,qqn x.1 x.2.1 x.2.2.1 x.2.2.2.1 k⟩:=by
  obtain⟨c,p,st,ms,⟨⟩⟩:=x
  have hc:Sm (.sl (.sl (.int .i64))) c:=hc
  have h:VS c p st ms:=h
  show Ret E n_Z181 [dS (c,p,st,ms,()),dI k] ⟨o_Z181,qqn c p st ms k⟩
  obtain⟨H,eH,bH,tH⟩:=qcb h (k+1)
  obtain⟨W,eW,bW,tW⟩:=qcb h k
  have hst:=h.2.2.1.2.1
  have hl:=h.2.2.1.1
  have h48:=h.1.1
  have ek:w64 (k+1)=k+1:=qaf (by omega) (by omega)
  have hHW:=qcN bH bW
  have s1:=qcX c st (k+1) hc hl hst (by omega)
  have s2:=qcX c st k hc hl hst (by omega)
  rw[show qiD c st (k+1) (qav c (k+1) c.length).length=(H:Int) from eH] at s1
  rw[show qiD c st k (qav c k c.length).length=(W:Int) from eW] at s2
  have z:=qb9 p H W bH bW
  have hM:qqn c p st ms k=(p,(H:Int),(W:Int),qek c p st ms k,()):=by rw[qqn,eH,eW]
  rw[hM]
  refine qaj ?_
  simp only[run_Z181,Z181.ev,ek]
  suffices hmain:Ev fun φ=>Z181.j0 (mkR (run E (φ 0))) (φ 0) (c,p,st,ms,()) k 0 0 0 p (H:Int) (W:Int) (List.replicate (H*W) 0)=some ⟨o_Z181,(p,(H:Int),(W:Int),qek c p st ms k,())⟩ by
    exact qbF (qaa s1 (qbF (qaa s2 (qbF (qaa z hmain) (qaa z hmain))) (qaa s2 (qaa z hmain)))) (qaa s1 (qaa s2 (qaa z hmain)))
  simp only[Z181.j0_eq _ qae,ek]
  refine qaa (qlz c (k+1) hc (by omega)) ?_
  have hol:=qbS c (k+1) c.length
  by_cases hk0:k<0
  · have e0:qek c p st ms k=List.replicate (H*W) 0:=by rw[qek,if_pos hk0,tH,tW]
    rw[e0]
    refine Ev.start (p:=fun φ n=>Z181.l1 (mkR (run E (φ 0))) (φ 0) n (c,p,st,ms,()) k (qav c (k+1) c.length) 0 0 0 0 p (H:Int) (W:Int) (List.replicate (H*W) 0)=_) 1 ?_ (fun _ _ _ h=>h)
    refine Ev.round 1 (L:=fun φ n=>Z181.l1 (mkR (run E (φ 0))) (φ 0) n (c,p,st,ms,()) k (qav c (k+1) c.length) 0 0 0 0 p (H:Int) (W:Int) (List.replicate (H*W) 0)) ?_ (fun _ _ _=>rfl)
    simp only[Z181.l1_succ _ qae,Z181.j2_eq _ qae,show decide (k≥0)=false from decide_eq_false (by omega),cond_false]
    exact qee (fun _=>qal) fun _=>qal
  have e0:qek c p st ms k=qdz (stS c p st ms k (qav c (k+1) c.length).length) (List.replicate (H*W) 0):=by rw[qek,if_neg hk0,tH,tW]
  rw[e0]
  -- one row of a face' stores
  have r5:∀(s a T L R C i:Nat) (F:CobF c p st ms k s a T L R C H W) (t:Nat) (ls:Sim) (fs:Sim) (cs:Sim) (hcs:cs.length=H*W) (hi:i<R) (r:Option Dv),
      (Ev fun φ=>Z181.l4 (mkR (run E (φ 0))) (φ 0) (φ 1) (φ 2) (φ 3) (c,p,st,ms,()) k ls (t:Int) fs (T:Int) (a:Int) (mp c ms s a) (L:Int) (sgn p a) ((i+1:Nat):Int) 0 0 0 p (H:Int) (W:Int) (qdz (stJ p (mp c ms s a) W T L (sgn p a) i C) cs)=r) →
      Ev fun φ=>Z181.l5 (mkR (run E (φ 0))) (φ 0) (φ 1) (φ 2) (φ 3) (φ 0) (c,p,st,ms,()) k ls (t:Int) fs (T:Int) (a:Int) (mp c ms s a) (L:Int) (sgn p a) (i:Int) 0 0 0 0 p (H:Int) (W:Int) cs=r:=by
    intro s a T L R C i F t ls fs cs hcs hi r hr
    refine Ev.start (p:=fun φ n=>Z181.l5 (mkR (run E (φ 0))) (φ 0) (φ 1) (φ 2) (φ 3) n (c,p,st,ms,()) k ls (t:Int) fs (T:Int) (a:Int) (mp c ms s a) (L:Int) (sgn p a) (i:Int) 0 0 0 0 p (H:Int) (W:Int) cs=_) 4 ?_ (fun _ _ _ h=>h)
    refine qan 4 (L:=fun φ n j o=>Z181.l5 (mkR (run E (φ 0))) (φ 0) (φ 1) (φ 2) (φ 3) n (c,p,st,ms,()) k ls (t:Int) fs (T:Int) (a:Int) (mp c ms s a) (L:Int) (sgn p a) (i:Int) j 0 0 0 p (H:Int) (W:Int) o) (len:=C) (fun j=>qdz (stJ p (mp c ms s a) W T L (sgn p a) i j) cs) (fun _ _ _ _ _=>rfl) (fun j q hj ih=>?_) ?_
    · simp only[Z181.l5_succ _ qae]
      have hT:=F.hT
      have hL:=F.hL
      have hp:=F.hp
      obtain⟨ep,hpos⟩:=qqA (T:=T) (L:=L) (i:=i) (j:=j) (W:=W) (H:=H) (by omega) (by omega) bH bW
      have hij:i*C+j<(mp c ms s a).2.2.2.1.length:=by rw[F.len];exact qe4 hi hj
      have hRC:=qcN F.hR F.hC
      have hx:=F.el.get hp (i*C+j)
      have hy:=qod hp a
      rw[qnd,F.eC,Int.toNat_natCast,qag hij] at ih
      rw[qag hij] at hx
      have hol':(qdz (stJ p (mp c ms s a) W T L (sgn p a) i j) cs).length=H*W:=by rw[qbi,hcs]
      have ev:=qo5 hx (show 0≤sgn p a∧sgn p a≤250 by omega) hp
      have hlen:=F.len
      have e1:w64 (w64 ((i:Int)*(C:Int))+(j:Int))=((i*C+j:Nat):Int):=by
        rw[qa0,qaf (n:=((i*C:Nat):Int)) (by omega) (by omega),qaf (by omega) (by omega)];omega
      simp only[F.eC,e1,ep,hol',Int.toNat_natCast]
      refine qaC (decide_eq_true (by omega)) (qac (qak hij) (qao (by simp;omega) ?_))
      simp only[ev]
      refine qao (by simp only[Bool.and_eq_true,decide_eq_true_eq];omega) ?_
      rw[qad (by omega)]
      exact ih
    · simp only[Z181.l5_succ _ qae,F.eC]
      have:=F.hR
      refine qaI (decide_eq_false (by omega)) ?_
      rw[qad (by omega)]
      exact hr
  -- a face' stores
  have r4:∀(s a T L R C:Nat) (F:CobF c p st ms k s a T L R C H W) (t:Nat) (ls:Sim) (fs:Sim) (cs:Sim) (hcs:cs.length=H*W) (r:Option Dv),
      (Ev fun φ=>Z181.l3 (mkR (run E (φ 0))) (φ 0) (φ 1) (φ 2) (c,p,st,ms,()) k ls (t:Int) fs (T:Int) ((a+1:Nat):Int) 0 0 0 p (H:Int) (W:Int) (qdz (stI p (mp c ms s a) W T L (sgn p a) R) cs)=r) →
      Ev fun φ=>Z181.l4 (mkR (run E (φ 0))) (φ 0) (φ 1) (φ 2) (φ 0) (c,p,st,ms,()) k ls (t:Int) fs (T:Int) (a:Int) (mp c ms s a) (L:Int) (sgn p a) 0 0 0 0 p (H:Int) (W:Int) cs=r:=by
    intro s a T L R C F t ls fs cs hcs r hr
    refine Ev.start (p:=fun φ n=>Z181.l4 (mkR (run E (φ 0))) (φ 0) (φ 1) (φ 2) n (c,p,st,ms,()) k ls (t:Int) fs (T:Int) (a:Int) (mp c ms s a) (L:Int) (sgn p a) 0 0 0 0 p (H:Int) (W:Int) cs=_) 3 ?_ (fun _ _ _ h=>h)
    refine qan 3 (L:=fun φ n i o=>Z181.l4 (mkR (run E (φ 0))) (φ 0) (φ 1) (φ 2) n (c,p,st,ms,()) k ls (t:Int) fs (T:Int) (a:Int) (mp c ms s a) (L:Int) (sgn p a) i 0 0 0 p (H:Int) (W:Int) o) (len:=R) (fun i=>qdz (stI p (mp c ms s a) W T L (sgn p a) i) cs) (fun _ _ _ _ _=>rfl) (fun i q hi ih=>?_) ?_
    · simp only[Z181.l4_succ _ qae,F.eR]
      rw[qnj,F.eC,Int.toNat_natCast] at ih
      exact qaC (decide_eq_true (by omega)) (r5 s a T L R C i F t ls fs _ (by rw[qbi,hcs]) hi q ih)
    · simp only[Z181.l4_succ _ qae,F.eR]
      have:=F.h4
      refine qaI (decide_eq_false (by omega)) ?_
      rw[qad (by omega)]
      exact hr
  refine Ev.start (p:=fun φ n=>Z181.l1 (mkR (run E (φ 0))) (φ 0) n (c,p,st,ms,()) k (qav c (k+1) c.length) 0 0 0 0 p (H:Int) (W:Int) (List.replicate (H*W) 0)=_) 1 ?_ (fun _ _ _ h=>h)
  refine qan 1 (L:=fun φ n t o=>Z181.l1 (mkR (run E (φ 0))) (φ 0) n (c,p,st,ms,()) k (qav c (k+1) c.length) t 0 0 0 p (H:Int) (W:Int) o) (len:=(qav c (k+1) c.length).length) (fun t=>qdz (stS c p st ms k t) (List.replicate (H*W) 0)) (fun _ _ _ _ _=>rfl) (fun t q ht ih=>?_) ?_
  · simp only[Z181.l1_succ _ qae]
    obtain⟨s,hse,hs,hd⟩:=qeK.1 (List.getElem_mem ht)
    rw[qnk ht hse] at ih
    have hg:(qav c (k+1) c.length)[t]? = some (s:Int):=by rw[List.getElem?_eq_getElem ht,hse]
    have hf4:=h.1.fIdx4 hs
    generalize hO:qdz (stS c p st ms k t) (List.replicate (H*W) 0)=O at ih ⊢
    have hOl:O.length=H*W:=by rw[← hO,qbi,List.length_replicate]
    have a1:=qk0 (c,p,st,ms,()) s hs hc hl hst
    have hFC:=(qjL hst hs).1
    obtain⟨T,eT⟩:=Int.eq_ofNat_of_zero_le hFC
    rw[show FC (c,p,st,ms,()).1 (c,p,st,ms,()).2.2.1 s=(T:Int) from eT] at a1
    refine qaC (decide_eq_true (by omega)) ?_
    simp only[Z181.j2_eq _ qae,show decide (k≥0)=true from decide_eq_true (by omega),cond_true]
    refine qac (qbh.trans hg) (qaa (qcG c s hs hc) (qac (qbh.trans hg) (qaa a1 ?_)))
    refine Ev.start (p:=fun φ n=>Z181.l3 (mkR (run E (φ 0))) (φ 0) (φ 1) n (c,p,st,ms,()) k (qav c (k+1) c.length) (t:Int) (qaH c s) (T:Int) 0 0 0 0 p (H:Int) (W:Int) O=_) 2 ?_ (fun _ _ _ h=>h)
    refine qan 2 (L:=fun φ n a o=>Z181.l3 (mkR (run E (φ 0))) (φ 0) (φ 1) n (c,p,st,ms,()) k (qav c (k+1) c.length) (t:Int) (qaH c s) (T:Int) a 0 0 0 p (H:Int) (W:Int) o) (len:=(qaH c s).length) (fun a=>qdz (stF c p st ms k s a) O) (fun _ _ _ _ _=>rfl) (fun a q2 ha ih2=>?_) ?_
    · simp only[Z181.l3_succ _ qae]
      obtain⟨T',L,R,C,F⟩:=qok h hs (by omega) ha eH eW bH bW
      obtain rfl:T=T':=by have:=F.eT;omega
      obtain⟨ix,hfc,_⟩:=qbk h.1 hs ha
      have f2:=qk0 (c,p,st,ms,()) (fc c s a) hfc hc hl hst
      rw[show FC (c,p,st,ms,()).1 (c,p,st,ms,()).2.2.1 (fc c s a)=(L:Int) from F.eL] at f2
      rw[qne,tW,F.eT,F.eL,F.eR,Int.toNat_natCast,Int.toNat_natCast,Int.toNat_natCast] at ih2
      refine qaC (decide_eq_true (by omega)) (qac (qbh.trans hg) (qaa (qgk (c,p,st,ms,()) s a hs ha h) (qac ix (qaa f2 (qaa (ql4 p a F.hp) ?_)))))
      exact r4 s a T L R C F t _ _ _ (by rw[qbi,hOl]) q2 ih2
    · simp only[Z181.l3_succ _ qae]
      refine qaI (decide_eq_false (by omega)) ?_
      rw[qad (by omega)]
      exact ih
  · simp only[Z181.l1_succ _ qae,Z181.j2_eq _ qae,cond_false]
    exact qaI (decide_eq_false (by omega)) qal
theorem qo4(m:Mat)(v:Sim)(hm:VM m)(hv:m.2.2.1≤v.length)(ev:∀ x∈v,0≤x∧x≤250):Ret E n_Z24 [dI m.1,dI m.2.1,dI m.2.2.1,dL m.2.2.2.1,dL v] ⟨o_Z24,(qi4 m v m.2.1.toNat,())⟩:=by
 obtain⟨R,C,em,hR,hC,hlen⟩:=hm.nat
 have hp:2≤m.1∧m.1≤251:=⟨hm.1.1,hm.1.2.1⟩
 have el:=hm.2.2.2.2
 obtain⟨p,r,k,cs,⟨⟩⟩:=m
 simp only[Prod.mk.injEq,true_and,and_true] at em hlen hv hp el
 obtain⟨rfl,rfl⟩:=em
 have hRC:=qcN hR hC
 show Ret E n_Z24 [dI p,dI (R:Int),dI (C:Int),dL cs,dL v] ⟨o_Z24,(qi4 (p,(R:Int),(C:Int),cs,()) v R,())⟩
 refine qaj ?_
 simp only[run_Z24,Z24.ev]
 refine Ev.start (p:=fun φ n=>Z24.l0 (mkR (run E (φ 0))) (φ 0) n v (R:Int) 0 p (R:Int) (C:Int) cs []=_) 1 ?_ (fun _ _ _ h=>h)
 refine qan 1 (L:=fun φ n i a=>Z24.l0 (mkR (run E (φ 0))) (φ 0) n v (R:Int) i p (R:Int) (C:Int) cs a) (len:=R) (fun i=>qi4 (p,(R:Int),(C:Int),cs,()) v i) (fun _ _ _ _ _=>rfl) (fun i q hi ih=>?_) ?_
 ·simp only[Z24.l0_succ _ qae]
  have hle:(i+1)*C≤R*C:=Nat.mul_le_mul_right _ hi
  have hrl:((cs.take ((i+1)*C)).drop (i*C)).length=C:=by
   rw[List.length_drop,List.length_take,Nat.min_eq_left (by omega),Nat.add_mul];omega
  have hd:=qpo ((cs.take ((i+1)*C)).drop (i*C)) v p hp (by omega) (by omega) (fun x hx=>el.mem hp x (List.mem_of_mem_take (List.mem_of_mem_drop hx))) ev
  have e:qaB (fun l=>((cs.take ((i+1)*C)).drop (i*C)).getD l 0) (fun l=>v.getD l 0) ((cs.take ((i+1)*C)).drop (i*C)).length=qaB (fun l=>cs.getD (i*C+l) 0) (fun l=>v.getD l 0) C:=by
   rw[hrl]
   exact qaw fun l hl=>⟨by
    rw[List.getD_eq_getElem?_getD,List.getD_eq_getElem?_getD,List.getElem?_drop,List.getElem?_take_of_lt (by rw[Nat.add_mul];omega)],rfl⟩
  rw[e] at hd
  have ea:qi4 (p,(R:Int),(C:Int),cs,()) v (i+1)=qi4 (p,(R:Int),(C:Int),cs,()) v i++[qaB (fun l=>cs.getD (i*C+l) 0) (fun l=>v.getD l 0) C%p]:=by
   unfold qi4
   rw[List.range_succ,List.map_append];rfl
  rw[ea] at ih
  refine qaC (decide_eq_true (by omega)) (qaa (qdX p _ C cs i (by omega) (by omega) (by omega)) (qaa hd (qao (by simp[qdW];omega) ?_)))
  rw[qad (by omega)];exact ih
 ·simp only[Z24.l0_succ _ qae]
  exact qaI (decide_eq_false (by omega)) qal
theorem qlG(m:Mat)(v:Sim)(hm:VM m)(hv:m.2.2.1≤v.length)(ev:∀ x∈v,0≤x∧x≤250):Ret E n_Z136 [dM m,dL v] ⟨o_Z136,(qi4 m v m.2.1.toNat,())⟩:=by
 obtain⟨R,C,em,hR,hC,hlen⟩:=hm.nat
 have hp:2≤m.1∧m.1≤251:=⟨hm.1.1,hm.1.2.1⟩
 have el:=hm.2.2.2.2
 obtain⟨p,r,k,cs,⟨⟩⟩:=m
 simp only[Prod.mk.injEq,true_and,and_true] at em hlen hv hp el
 obtain⟨rfl,rfl⟩:=em
 have hRC:=qcN hR hC
 show Ret E n_Z136 [dM (p,(R:Int),(C:Int),cs,()),dL v] ⟨o_Z136,(qi4 (p,(R:Int),(C:Int),cs,()) v R,())⟩
 refine qaj ?_
 simp only[run_Z136,Z136.ev]
 refine Ev.start (p:=fun φ n=>Z136.l0 (mkR (run E (φ 0))) (φ 0) n (p,(R:Int),(C:Int),cs,()) v 0 []=_) 1 ?_ (fun _ _ _ h=>h)
 refine qan 1 (L:=fun φ n i a=>Z136.l0 (mkR (run E (φ 0))) (φ 0) n (p,(R:Int),(C:Int),cs,()) v i a) (len:=R) (fun i=>qi4 (p,(R:Int),(C:Int),cs,()) v i) (fun _ _ _ _ _=>rfl) (fun i q hi ih=>?_) ?_
 ·simp only[Z136.l0_succ _ qae]
  have ea:qi4 (p,(R:Int),(C:Int),cs,()) v (i+1)=qi4 (p,(R:Int),(C:Int),cs,()) v i++[qaB (fun l=>cs.getD (i*C+l) 0) (fun l=>v.getD l 0) C%p]:=by
   unfold qi4
   rw[List.range_succ,List.map_append];rfl
  rw[ea] at ih
  have hle:(i+1)*C≤R*C:=Nat.mul_le_mul_right _ hi
  rw[Nat.add_mul] at hle
  have gv:∀ l,0≤v.getD l 0∧v.getD l 0≤250:=fun l=>by
   by_cases hl:l<v.length
   ·rw[qag hl];exact ev _ (List.getElem_mem hl)
   ·rw[List.getD_eq_getElem?_getD,List.getElem?_eq_none (by omega)];simp
  refine qaC (decide_eq_true (by omega)) ?_
  generalize hA:qi4 (p,(R:Int),(C:Int),cs,()) v i=A at ih ⊢
  have hAl:A.length=i:=by rw[← hA,qdW]
  refine Ev.start (p:=fun φ n=>Z136.l1 (mkR (run E (φ 0))) (φ 0) (φ 1) n (p,(R:Int),(C:Int),cs,()) v (i:Int) 0 0 A=_) 2 ?_ (fun _ _ _ h=>h)
  refine qan 2 (L:=fun φ n l a=>Z136.l1 (mkR (run E (φ 0))) (φ 0) (φ 1) n (p,(R:Int),(C:Int),cs,()) v (i:Int) a l A) (len:=C) (fun l=>qaB (fun l=>cs.getD (i*C+l) 0) (fun l=>v.getD l 0) l) (fun _ _ _ _ _=>rfl) (fun l q2 hl2 ih2=>?_) ?_
  ·simp only[Z136.l1_succ _ qae]
   have hvl:l<v.length:=by omega
   have hcl:i*C+l<cs.length:=by omega
   have b1:=qhH (f:=fun l=>cs.getD (i*C+l) 0) (g:=fun l=>v.getD l 0) (n:=l) fun l _=>⟨el.get hp _,gv l⟩
   have b2:=qfb (el.get hp (i*C+l)) (gv l)
   have e1:w64 (w64 ((i:Int)*(C:Int))+(l:Int))=((i*C+l:Nat):Int):=by
    rw[qa0,qaf (n:=((i*C:Nat):Int)) (by omega) (by omega),qaf (by omega) (by omega)];omega
   simp only[qaB] at ih2
   rw[qag hcl,qag hvl] at ih2 b2
   simp only[e1]
   refine qaC (decide_eq_true (by omega)) (qac (qak hcl) (qac (qak hvl) ?_))
   rw[qaf (n:=cs[i*C+l]*v[l]) (by omega) (by omega),qaf (by omega) (by omega),qad (by omega)]
   exact ih2
  ·simp only[Z136.l1_succ _ qae]
   have b1:=qhH (f:=fun l=>cs.getD (i*C+l) 0) (g:=fun l=>v.getD l 0) (n:=C) fun l _=>⟨el.get hp _,gv l⟩
   refine qaI (decide_eq_false (by omega)) (qao (by simp;omega) ?_)
   rw[Int.tmod_eq_emod_of_nonneg (by omega),qad (by omega)]
   exact qao (by simp[hAl];omega) ih
 ·simp only[Z136.l0_succ _ qae]
  exact qaI (decide_eq_false (by omega)) qal
def Zs(v:Sim):Prop:=∀ x∈v,x=0
theorem qln(x:Int):Ret E n_Z64 [dI x] ⟨o_Z64,(!pb (x=0),())⟩:=by
 refine qaj ?_
 simp only[run_Z64,Z64.ev]
 refine qah ?_
 have:(x != 0)=!pb (x=0):=by
  by_cases h:x=0
  ·rw[qaP h];simp[h]
  ·rw[qat h];simp[h]
 rw[this]
theorem qjh(v:Sim)(hv:v.length≤1048576):Ret E n_Z63 [dL v] ⟨o_Z63,(pb (Zs v),())⟩:=by
 refine qaj ?_
 simp only[run_Z63,Z63.ev]
 refine qaa (qby v _ hv fun x _=>qln x) (qah ?_)
 simp only[qjP];rfl
end VeT
open Go Go.Proofs Ve
namespace VeT
theorem qfH{p x x' y y':Int}(h1:x%p=x'%p)(h2:y%p=y'%p):x*y%p=x'*y'%p:=by
 rw[Int.mul_emod x,h1,h2,← Int.mul_emod]
theorem qh6{p x x':Int}(h:x%p=x'%p):∀ n:Nat,x ^ n%p=x' ^ n%p
 | 0=>by rw[Int.pow_zero,Int.pow_zero]
 | n+1=>by rw[Int.pow_succ,Int.pow_succ];exact qfH (qh6 h n) h
def qgT(a p:Int):Int:=a ^ (p-2).toNat%p
theorem qpn{a p:Int}(hp:2≤p):0≤qgT a p∧qgT a p≤p-1:=by
 have h0:=Int.emod_nonneg (a ^ (p-2).toNat) (show p≠0 by omega)
 have h1:=Int.emod_lt_of_pos (a ^ (p-2).toNat) (show 0<p by omega)
 unfold qgT;omega
abbrev Ent:=Nat→Nat→Int
def qcA(top q:Nat)(A:Ent):Ent:=fun i=>if i=top then A q else if i=q then A top else A i
def elN(p:Int)(c top:Nat)(B:Ent):Nat→Int:=fun j=>B top j*qgT (B top c) p%p
def elM(p:Int)(c top:Nat)(B:Ent):Ent:=fun i j=>if i=top then elN p c top B j else B i j
def elF(p:Int)(c top:Nat)(B:Ent):Ent:=fun i j=>if i=top then elN p c top B j else if B i c≠0 then(B i j+(p-B i c)*elN p c top B j)%p else B i j
noncomputable def elP(p:Int)(R c:Nat)(S:Ent×List Nat):Ent×List Nat :=
 match qa2 (fun i=>S.1 i c≠0) S.2.length (R-S.2.length) with
 | none=>S
 | some q=>(elF p c S.2.length (qcA S.2.length q S.1),S.2++[c])
noncomputable def elS(p:Int)(R:Nat)(A:Ent):Nat→Ent×List Nat
 | 0=>(A,[])
 | c+1=>elP p R c (elS p R A c)
def EIn(p:Int)(R W:Nat)(A:Ent):Prop:=∀ i j,i<R→j<W→0≤A i j∧A i j≤p-1
theorem EIn.sw{p:Int}{R W top q:Nat}{A:Ent}(h:EIn p R W A)(ht:top<R)(hq:q<R):EIn p R W (qcA top q A):=fun i j hi hj=>by
 unfold qcA;split
 ·exact h q j hq hj
 ·split
  ·exact h top j ht hj
  ·exact h i j hi hj
theorem qbQ{p x:Int}(hp:2≤p):0≤x%p∧x%p≤p-1:=by
 have h0:=Int.emod_nonneg x (show p≠0 by omega)
 have h1:=Int.emod_lt_of_pos x (show 0<p by omega)
 omega
theorem EIn.f{p:Int}{R W c top:Nat}{B:Ent}(h:EIn p R W B)(hp:2≤p):EIn p R W (elF p c top B):=fun i j hi hj=>by
 unfold elF;split
 ·exact qbQ hp
 ·split
  ·exact qbQ hp
  ·exact h i j hi hj
theorem qew{p:Int}{R W:Nat}{A:Ent}(hp:2≤p)(h:EIn p R W A):∀ c,EIn p R W (elS p R A c).1∧(elS p R A c).2.length≤R∧(elS p R A c).2.length≤c∧∀ x∈(elS p R A c).2,x<c
 | 0=>⟨h,Nat.zero_le _,Nat.zero_le _,fun x hx=>by simp[elS] at hx⟩
 | c+1=>by
  obtain⟨h1,h2,h3,h4⟩:=qew hp h c
  rw[elS,elP]
  cases hf:qa2 (fun i=>(elS p R A c).1 i c≠0) (elS p R A c).2.length (R-(elS p R A c).2.length) with
  | none=>exact⟨h1,h2,by show(elS p R A c).2.length≤c+1;omega,fun x hx=>by have:=h4 x hx;omega⟩
  | some q =>
   have hq:=qaM hf
   refine⟨(h1.sw (by omega) (by omega)).f hp,?_,?_,fun x hx=>?_⟩
   ·simp only[List.length_append,List.length_singleton];omega
   ·simp only[List.length_append,List.length_singleton];omega
   ·rcases List.mem_append.1 hx with hx | hx
    ·have:=h4 x hx;omega
    ·rw[List.mem_singleton] at hx;omega
def qaz(A:Ent)(R W:Nat):List Sim:=(List.range R).map fun i=>(List.range W).map (A i)
theorem qaA{A:Ent}{R W:Nat}:(qaz A R W).length=R:=by simp[qaz]
theorem qbd{A:Ent}{R W i:Nat}(hi:i<R):(qaz A R W)[i]? = some ((List.range W).map (A i)):=by
 unfold qaz;rw[List.getElem?_map,List.getElem?_range hi];rfl
theorem qbO{A B:Ent}{R W:Nat}(h:∀ i j,i<R→j<W→A i j=B i j):qaz A R W=qaz B R W :=
 List.map_congr_left fun i hi=>List.map_congr_left fun j hj=>h i j (List.mem_range.1 hi) (List.mem_range.1 hj)
theorem qfI{A:Ent}{R W i:Nat}{f:Nat→Int}:(qaz A R W).set i ((List.range W).map f)=qaz (fun k j=>if k=i then f j else A k j) R W:=by
 apply List.ext_getElem?
 intro k
 by_cases hk:k<R
 ·rw[qbd hk]
  by_cases hik:k=i
  ·subst hik
   rw[List.getElem?_set_self (by rw[qaA];exact hk)]
   simp
  ·rw[List.getElem?_set_ne (Ne.symm hik),qbd hk]
   simp[hik]
 ·rw[List.getElem?_eq_none (by rw[List.length_set,qaA];omega),List.getElem?_eq_none (by rw[qaA];omega)]
theorem qfu{f:Nat→Int}{W j:Nat}(hj:j<W):((List.range W).map f)[j]? = some (f j):=by
 rw[List.getElem?_map,List.getElem?_range hj];rfl
theorem qdf{A:Ent}{R W i j:Nat}{v:Int}(hi:i<R)(hj:j<W):(qar A W R).set (i*W+j) v=qar (fun k l=>if k=i∧l=j then v else A k l) W R:=by
 apply List.ext_getElem?
 intro n
 by_cases hn:n<R*W
 ·have hW:0<W:=by omega
  have e:n=n / W*W+n%W:=by have:=Nat.div_add_mod n W;rw[Nat.mul_comm] at this;omega
  have h1:n / W<R:=Nat.div_lt_of_lt_mul (by rw[Nat.mul_comm];exact hn)
  have h2:n%W<W:=Nat.mod_lt _ hW
  generalize n / W=a at e h1
  generalize n%W=b at e h2
  subst e
  rw[qce h1 h2]
  by_cases hab:a=i∧b=j
  ·obtain⟨rfl,rfl⟩:=hab
   rw[List.getElem?_set_self (by rw[qaq];exact hn)]
   simp
  ·rw[List.getElem?_set_ne,qce h1 h2,if_neg hab]
   intro e
   have hbW:b<W:=h2
   have:a=i∧b=j:=by
    have h3:(i*W+j) / W=i:=by rw[Nat.mul_comm,Nat.mul_add_div (by omega),Nat.div_eq_of_lt hj,Nat.add_zero]
    have h4:(a*W+b) / W=a:=by rw[Nat.mul_comm,Nat.mul_add_div (by omega),Nat.div_eq_of_lt hbW,Nat.add_zero]
    have:a=i:=by rw[← h3,← h4,e]
    subst this
    exact⟨rfl,by omega⟩
   exact hab this
 ·rw[List.getElem?_eq_none (by rw[List.length_set,qaq];omega),List.getElem?_eq_none (by rw[qaq];omega)]
theorem qci{A:Ent}{W:Nat}:∀ {R:Nat},(qaz A R W).flatten=qar A W R
 | 0=>by simp[qaz,qar]
 | R+1=>by
  have:=qci (A:=A) (W:=W) (R:=R)
  unfold qaz at this ⊢
  rw[List.range_succ,List.map_append,List.flatten_append,this,qar]
  simp
def qbJ(cells:Sim)(W:Nat):Ent:=fun i j=>cells.getD (i*W+j) 0
theorem qfV{cells:Sim}{R W:Nat}(h:cells.length=R*W):qar (qbJ cells W) W R=cells:=by
 refine List.ext_getElem (by rw[qaq,h]) fun n h1 h2=>?_
 rw[qaq] at h1
 have hW:0<W:=by
  cases W with
  | zero=>simp at h1
  | succ W=>omega
 have e:n=n / W*W+n%W:=by have:=Nat.div_add_mod n W;rw[Nat.mul_comm] at this;omega
 have h3:n / W<R:=Nat.div_lt_of_lt_mul (by rw[Nat.mul_comm];exact h1)
 have h4:n%W<W:=Nat.mod_lt _ hW
 have hg:=qce (f:=qbJ cells W) h3 h4
 rw[← e,List.getElem?_eq_getElem (by rw[qaq];exact h1)] at hg
 rw[Option.some.inj hg]
 unfold qbJ
 rw[← e,qag h2]
theorem qcu{p:Int}{cells:Sim}{R W:Nat}(h:qax cells p)(hl:cells.length=R*W):EIn p R W (qbJ cells W):=fun i j hi hj=>by
 unfold qbJ
 have:=qe4 hi hj
 rw[qag (by omega)]
 exact h _ (List.getElem_mem _)
end VeT
open Go Go.Proofs Ve
namespace VeT
def qqG:Bool:=(List.range 252).all fun p=>!(decide (2≤p)&&(List.range 16).all fun k=>!(decide (2≤k)&&decide (k*k≤p)&&decide (p%k=0))) || (List.range p).all fun a=>a==0 || (a*(a ^ (p-2)%p)%p==1)
theorem qoi:qqG=true:=by kernel_rfl
theorem qma{p a:Int}(hp:Pr p)(h1:1≤a)(h2:a≤p-1):a*qgT a p%p=1:=by
  obtain⟨hp2,hp251,hpk⟩:=hp
  obtain⟨P,rfl⟩:=Int.eq_ofNat_of_zero_le (show 0≤p by omega)
  obtain⟨N,rfl⟩:=Int.eq_ofNat_of_zero_le (show 0≤a by omega)
  have h:=qoi
  unfold qqG at h
  rw[List.all_eq_true] at h
  have hP:=h P (List.mem_range.2 (by omega))
  rw[Bool.or_eq_true] at hP
  rcases hP with hP | hP
  · exfalso
    rw[Bool.not_eq_true',Bool.and_eq_false_iff] at hP
    rcases hP with hP | hP
    · have:=of_decide_eq_false hP;omega
    · rw[← Bool.not_eq_true,List.all_eq_true] at hP
      refine hP fun k hk=>?_
      have hk16:=List.mem_range.1 hk
      rw[Bool.not_eq_true',Bool.and_eq_false_iff,Bool.and_eq_false_iff]
      by_cases hk2:2≤k
      · by_cases hkk:k*k≤P
        · right
          refine decide_eq_false fun e=>?_
          have := hpk k hk2 (by have : ((k * k : Nat) : Int) ≤ (P : Int) := by omega
                                rwa [Int.natCast_mul] at this)
          exact this (by omega)
        · exact .inl (.inr (decide_eq_false hkk))
      · exact .inl (.inl (decide_eq_false hk2))
  · rw[List.all_eq_true] at hP
    have hN:=hP N (List.mem_range.2 (by omega))
    rw[Bool.or_eq_true] at hN
    rcases hN with hN | hN
    · have:N=0:=by simpa using hN
      omega
    · have hN:N*(N ^ (P-2)%P)%P=1:=by simpa using hN
      unfold qgT
      have e:((P:Int)-2).toNat=P-2:=by omega
      rw[e]
      have:((N*(N ^ (P-2)%P)%P:Nat):Int)=1:=by rw[hN];rfl
      rwa [Int.natCast_emod,Int.natCast_mul,Int.natCast_emod,Int.natCast_pow] at this
theorem qhc{c d g:Nat→Int}:∀ {n:Nat},qaB (fun i=>c i+d i) g n=qaB c g n+qaB d g n
 | 0=>rfl
 | n+1=>by simp only[qaB];rw[qhc,Int.add_mul];omega
theorem qeN{k:Int}{c g:Nat→Int}:∀ {n:Nat},qaB (fun i=>k*c i) g n=k*qaB c g n
 | 0=>by simp[qaB]
 | n+1=>by simp only[qaB];rw[qeN,Int.mul_add,Int.mul_assoc]
theorem qkP{k:Nat}{g:Nat→Int}:∀ {n:Nat},n≤k→qaB (fun i=>if i=k then 1 else 0) g n=0
 | 0,_=>rfl
 | n+1,h=>by simp only[qaB];rw[qkP (by omega),if_neg (by omega),Int.zero_mul];rfl
theorem qcQ{k:Nat}{g:Nat→Int}:∀ {n:Nat},k<n→qaB (fun i=>if i=k then 1 else 0) g n=g k
 | n+1,h=>by
  simp only[qaB]
  by_cases hk:k=n
  ·subst hk;rw[qkP (Nat.le_refl _),if_pos rfl,Int.one_mul,Int.zero_add]
  ·rw[qcQ (by omega),if_neg (by omega),Int.zero_mul,Int.add_zero]
def Spn(p:Int)(R W:Nat)(A:Ent)(x:Nat→Int):Prop:=∃ c:Nat→Int,∀ j,j<W→qaB c (fun i=>A i j) R%p=x j%p
theorem Spn.row{p:Int}{R W:Nat}{A:Ent}{i:Nat}(hi:i<R):Spn p R W A (A i):=⟨fun k=>if k=i then 1 else 0,fun j _=>by rw[qcQ hi]⟩
theorem Spn.congr{p:Int}{R W:Nat}{A:Ent}{x y:Nat→Int}(h:∀ j,j<W→x j%p=y j%p):Spn p R W A x→Spn p R W A y:=fun⟨c,hc⟩=>⟨c,fun j hj=>(hc j hj).trans (h j hj)⟩
theorem Spn.add{p:Int}{R W:Nat}{A:Ent}{x y:Nat→Int}(hx:Spn p R W A x)(hy:Spn p R W A y):Spn p R W A (fun j=>x j+y j):=by
 obtain⟨c,hc⟩:=hx
 obtain⟨d,hd⟩:=hy
 exact⟨fun i=>c i+d i,fun j hj=>by rw[qhc,Int.add_emod,hc j hj,hd j hj,← Int.add_emod]⟩
theorem Spn.smul{p:Int}{R W:Nat}{A:Ent}{x:Nat→Int}(k:Int)(hx:Spn p R W A x):Spn p R W A (fun j=>k*x j):=by
 obtain⟨c,hc⟩:=hx
 exact⟨fun i=>k*c i,fun j hj=>by rw[qeN,Int.mul_emod,hc j hj,← Int.mul_emod]⟩
theorem Spn.zero{p:Int}{R W:Nat}{A:Ent}:Spn p R W A (fun _=>0):=⟨fun _=>0,fun j _=>by
 have:∀ n,qaB (fun _=>0) (fun i=>A i j) n=0:=fun n=>by
  induction n with
  | zero=>rfl
  | succ n ih=>simp only[qaB,ih,Int.zero_mul];rfl
 rw[this]⟩
theorem Spn.sum{p:Int}{R W:Nat}{A B:Ent}{c:Nat→Int}:∀ {n:Nat},(∀ i,i<n→Spn p R W A (B i))→Spn p R W A (fun j=>qaB c (fun i=>B i j) n)
 | 0,_=>Spn.zero
 | n+1,h=>(Spn.sum (n:=n) fun i hi=>h i (by omega)).add ((h n (Nat.lt_succ_self n)).smul (c n))
theorem Spn.trans{p:Int}{R R' W:Nat}{A B:Ent}{x:Nat→Int}(h:∀ i,i<R'→Spn p R W A (B i))(hx:Spn p R' W B x):Spn p R W A x:=by
 obtain⟨c,hc⟩:=hx
 exact(Spn.sum h).congr hc
def Eqv(p:Int)(R W:Nat)(A B:Ent):Prop:=(∀ i,i<R→Spn p R W A (B i))∧(∀ i,i<R→Spn p R W B (A i))
theorem Eqv.refl{p:Int}{R W:Nat}{A:Ent}:Eqv p R W A A:=⟨fun _ h=>Spn.row h,fun _ h=>Spn.row h⟩
theorem Eqv.trans{p:Int}{R W:Nat}{A B C:Ent}(h:Eqv p R W A B)(k:Eqv p R W B C):Eqv p R W A C:=⟨fun i hi=>Spn.trans h.1 (k.1 i hi),fun i hi=>Spn.trans k.2 (h.2 i hi)⟩
theorem Eqv.sw{p:Int}{R W top q:Nat}{A:Ent}(ht:top<R)(hq:q<R):Eqv p R W A (qcA top q A):=by
 refine⟨fun i hi=>?_,fun i hi=>?_⟩
 ·unfold qcA
  split
  ·exact Spn.row hq
  ·split
   ·exact Spn.row ht
   ·exact Spn.row hi
 ·have key:∀ k,k<R→(qcA top q A) k=A i→Spn p R W (qcA top q A) (A i):=fun k hk e=>by rw[← e];exact Spn.row hk
  by_cases h1:i=top
  ·subst h1
   by_cases h2:q=i
   ·subst h2;exact key q hq (by simp[qcA])
   ·exact key q hq (by simp[qcA,h2])
  ·by_cases h2:i=q
   ·subst h2;exact key top ht (by simp[qcA])
   ·exact key i hi (by simp[qcA,h1,h2])
theorem Eqv.f{p:Int}{R W c top:Nat}{B:Ent}(hp:Pr p)(ht:top<R)(hl:1≤B top c∧B top c≤p-1):Eqv p R W B (elF p c top B):=by
 have hinv:=qma hp hl.1 hl.2
 have hN:Spn p R W B (elN p c top B):=((Spn.row ht).smul (qgT (B top c) p)).congr fun j _=>by
  show qgT (B top c) p*B top j%p=(B top j*qgT (B top c) p%p)%p
  rw[Int.emod_emod_of_dvd _ (Int.dvd_refl p),Int.mul_comm]
 have eTop:elF p c top B top=elN p c top B:=by funext j;simp[elF]
 have hN2:Spn p R W (elF p c top B) (elN p c top B):=by rw[← eTop];exact Spn.row ht
 refine⟨fun i hi=>?_,fun i hi=>?_⟩
 ·by_cases h1:i=top
  ·subst h1;rw[eTop];exact hN
  ·by_cases h2:B i c=0
   ·have e:elF p c top B i=B i:=by funext j;simp[elF,h1,h2]
    rw[e];exact Spn.row hi
   ·refine((Spn.row hi).add (hN.smul (p-B i c))).congr fun j _=>?_
    have e:elF p c top B i j=(B i j+(p-B i c)*elN p c top B j)%p:=by simp[elF,h1,h2]
    rw[e,Int.emod_emod_of_dvd _ (Int.dvd_refl p)]
 ·by_cases h1:i=top
  ·subst h1
   refine(hN2.smul (B i c)).congr fun j _=>?_
   show B i c*(B i j*qgT (B i c) p%p)%p=B i j%p
   rw[Int.mul_emod,Int.emod_emod_of_dvd _ (Int.dvd_refl p),← Int.mul_emod,show B i c*(B i j*qgT (B i c) p)=B i j*(B i c*qgT (B i c) p) by rw[← Int.mul_assoc,Int.mul_comm (B i c),Int.mul_assoc],Int.mul_emod,hinv,Int.mul_one,Int.emod_emod_of_dvd _ (Int.dvd_refl p)]
  ·by_cases h2:B i c=0
   ·have e:elF p c top B i=B i:=by funext j;simp[elF,h1,h2]
    rw[← e];exact Spn.row hi
   ·refine((Spn.row hi).add (hN2.smul (B i c))).congr fun j _=>?_
    have e:elF p c top B i j=(B i j+(p-B i c)*elN p c top B j)%p:=by simp[elF,h1,h2]
    rw[e,Int.add_emod,Int.emod_emod_of_dvd _ (Int.dvd_refl p),← Int.add_emod,show B i j+(p-B i c)*elN p c top B j+B i c*elN p c top B j=B i j+p*elN p c top B j by rw[Int.sub_mul];omega,Int.add_mul_emod_self_left]
structure Rf (R c:Nat) (B:Ent) (pv:List Nat):Prop where
 len:pv.length≤R
 lt:∀ i,i<pv.length→pv.getD i 0<c
 mono:∀ i j,i<j→j<pv.length→pv.getD i 0<pv.getD j 0
 one:∀ i j,i<R→j<pv.length→B i (pv.getD j 0)=if i=j then 1 else 0
 low:∀ i j,i<pv.length→j<pv.getD i 0→B i j=0
 bot:∀ i j,pv.length≤i→i<R→j<c→B i j=0
end VeT
open Go Go.Proofs Ve
namespace VeT
theorem qcw{l:List Nat}{c i:Nat}(h:i<l.length):(l++[c]).getD i 0=l.getD i 0:=by
 rw[List.getD_eq_getElem?_getD,List.getD_eq_getElem?_getD,List.getElem?_append_left h]
theorem qd3{l:List Nat}{c:Nat}:(l++[c]).getD l.length 0=c:=by
 rw[List.getD_eq_getElem?_getD,List.getElem?_append_right (Nat.le_refl _)];simp
theorem Rf.next{p:Int}{R W c:Nat}{B:Ent}{pv:List Nat}(hp:Pr p)(hB:EIn p R W B)(hc:c<W)(h:Rf R c B pv){q:Nat}(hq:pv.length≤q∧q<R)(hne:B q c≠0) :
  Rf R (c+1) (elF p c pv.length (qcA pv.length q B)) (pv++[c]):=by
 obtain⟨hlen,hlt,hmono,hone,hlow,hbot⟩:=h
 generalize ht:pv.length=top at *
 have hB':EIn p R W (qcA top q B):=hB.sw (by omega) hq.2
 have rowLt:∀ i,i<top→qcA top q B i=B i:=fun i hi=>by
  unfold qcA;rw[if_neg (by omega),if_neg (by omega)]
 have rowGe:∀ i,top≤i→i<R→∀ j,j<c→qcA top q B i j=0:=fun i h1 h2 j hj=>by
  unfold qcA
  split
  ·exact hbot q j hq.1 hq.2 hj
  ·split
   ·exact hbot top j (Nat.le_refl _) (by omega) hj
   ·exact hbot i j h1 h2 hj
 have eLead:qcA top q B top c=B q c:=by simp[qcA]
 have hlead:1≤qcA top q B top c∧qcA top q B top c≤p-1:=by
  have:=hB q c hq.2 hc
  rw[eLead];omega
 generalize qcA top q B=B' at hB' rowLt rowGe eLead hlead
 have hinv:=qma hp hlead.1 hlead.2
 have nLt:∀ j,j<c→elN p c top B' j=0:=fun j hj=>by
  unfold elN;rw[rowGe top (Nat.le_refl _) (by omega) j hj,Int.zero_mul];exact Int.zero_emod p
 have nC:elN p c top B' c=1:=hinv
 have fLt:∀ i j,i<R→j<c→elF p c top B' i j=B' i j:=fun i j hi hj=>by
  unfold elF
  split
  ·rename_i e;subst e;rw[nLt j hj,rowGe i (Nat.le_refl _) hi j hj]
  ·split
   ·rw[nLt j hj,Int.mul_zero,Int.add_zero]
    have:=hB' i j hi (by omega)
    exact Int.emod_eq_of_lt this.1 (by omega)
   ·rfl
 have fC:∀ i,i<R→elF p c top B' i c=if i=top then 1 else 0:=fun i hi=>by
  unfold elF
  split
  ·exact nC
  ·split
   ·rw[nC,Int.mul_one,show B' i c+(p-B' i c)=p by omega,Int.emod_self]
   ·rename_i _ h2;exact Classical.byContradiction fun e=>h2 e
 refine⟨?_,?_,?_,?_,?_,?_⟩
 ·rw[List.length_append,List.length_singleton,ht];omega
 ·intro i hi
  rw[List.length_append,List.length_singleton,ht] at hi
  by_cases hi2:i<top
  ·rw[qcw (by omega)];have:=hlt i hi2;omega
  ·obtain rfl:i=top:=by omega
   subst ht
   rw[qd3];omega
 ·intro i j hij hj
  rw[List.length_append,List.length_singleton,ht] at hj
  by_cases hj2:j<top
  ·rw[qcw (by omega),qcw (by omega)];exact hmono i j hij hj2
  ·obtain rfl:j=top:=by omega
   have:=hlt i hij
   subst ht
   rw[qcw hij,qd3];exact this
 ·intro i j hi hj
  rw[List.length_append,List.length_singleton,ht] at hj
  by_cases hj2:j<top
  ·have hpj:=hlt j hj2
   rw[qcw (by omega),fLt i _ hi hpj]
   by_cases hi2:i<top
   ·rw[rowLt i hi2];exact hone i j hi hj2
   ·rw[rowGe i (by omega) hi _ hpj,if_neg (by omega)]
  ·obtain rfl:j=top:=by omega
   have hfc:=fC i hi
   subst ht
   rw[qd3];exact hfc
 ·intro i j hi hj
  rw[List.length_append,List.length_singleton,ht] at hi
  by_cases hi2:i<top
  ·rw[qcw (by omega)] at hj
   have:=hlt i hi2
   rw[fLt i j (by omega) (by omega),rowLt i hi2];exact hlow i j hi2 hj
  ·obtain rfl:i=top:=by omega
   have hfl:j<c→elF p c i B' i j=0:=fun h=>by rw[fLt i j (by omega) h];exact rowGe i (Nat.le_refl _) (by omega) j h
   have e:(pv++[c]).getD i 0=c:=by rw[← ht];exact qd3
   rw[e] at hj
   exact hfl hj
 ·intro i j hi hiR hj
  rw[List.length_append,List.length_singleton,ht] at hi
  by_cases hjc:j<c
  ·rw[fLt i j hiR hjc];exact rowGe i (by omega) hiR j hjc
  ·obtain rfl:j=c:=by omega
   rw[fC i hiR,if_neg (by omega)]
theorem qgN{p:Int}{R W:Nat}{A:Ent}(hp:Pr p)(hA:EIn p R W A):∀ c,c≤W→Rf R c (elS p R A c).1 (elS p R A c).2∧Eqv p R W A (elS p R A c).1
 | 0,_=>⟨⟨Nat.zero_le _,fun i h=>by simp[elS] at h,fun i j _ h=>by simp[elS] at h,fun i j _ h=>by simp[elS] at h,fun i j h=>by simp[elS] at h,fun i j _ _ h=>by omega⟩,Eqv.refl⟩
 | c+1,hc=>by
  obtain⟨h1,h2⟩:=qgN hp hA c (by omega)
  have hB:=(qew hp.1 hA c).1
  rw[elS,elP]
  generalize elS p R A c=S at h1 h2 hB
  obtain⟨B,pv⟩:=S
  simp only at h1 h2 hB ⊢
  cases hf:qa2 (fun i=>B i c≠0) pv.length (R-pv.length) with
  | none =>
   have hn:=qc9 hf
   show Rf R (c+1) B pv∧Eqv p R W A B
   refine⟨⟨h1.len,fun i hi=>by have:=h1.lt i hi;omega,h1.mono,h1.one,h1.low,fun i j h3 h4 h5=>?_⟩,h2⟩
   by_cases hj:j<c
   ·exact h1.bot i j h3 h4 hj
   ·obtain rfl:j=c:=by omega
    exact Classical.byContradiction fun e=>hn i h3 (by omega) e
  | some q =>
   have hq:=qaM hf
   have hq2:pv.length≤q∧q<R:=by omega
   have hlead:1≤qcA pv.length q B pv.length c∧qcA pv.length q B pv.length c≤p-1:=by
    have e:qcA pv.length q B pv.length c=B q c:=by simp[qcA]
    have:=hB q c hq2.2 (by omega)
    have:=hq.2.2
    rw[e];omega
   exact⟨h1.next hp hB (by omega) hq2 hq.2.2,(h2.trans (Eqv.sw (by omega) hq2.2)).trans (Eqv.f hp (by omega) hlead)⟩
end VeT
open Go Go.Proofs Ve
namespace VeT
end VeT
open Go Go.Proofs Ve
namespace VeT
end VeT
open Go Go.Proofs Ve
namespace VeT
def qbK(i j:Nat):Int:=if i=j then 1 else 0
def qb3(p:Int)(n:Nat):Mat:=(p,(n:Int),(n:Int),qar qbK n n,())
theorem qfh(p:Int)(n:Nat)(hn:n≤32):Ret E n_Z147 [dI p,dI (n:Int)] ⟨o_Z147,qb3 p n⟩:=by
 have h:=qcN hn hn
 refine qaj ?_
 simp only[run_Z147,Z147.ev]
 refine qaa (qb9 p n n hn hn) ?_
 refine Ev.start (p:=fun φ m=>Z147.l0 (mkR (run E (φ 0))) (φ 0) m (n:Int) 0 0 0 0 p (n:Int) (n:Int) (List.replicate (n*n) 0)=_) 1 ?_ (fun _ _ _ h=>h)
 have:=qan 1 (L:=fun φ m i o=>Z147.l0 (mkR (run E (φ 0))) (φ 0) m (n:Int) i 0 0 0 p (n:Int) (n:Int) o) (len:=n) (fun i=>qar qbK n i++List.replicate ((n-i)*n) 0) (r:=some ⟨o_Z147,qb3 p n⟩) (fun _ _ _ _ _=>rfl) (fun i r hi ih=>?_) ?_
 ·simpa [qar] using this
 ·simp only[Z147.l0_succ _ qae]
  have hii:=qe4 hi hi
  have hle:(i+1)*n≤n*n:=Nat.mul_le_mul_right _ hi
  rw[Nat.add_mul] at hle
  have hRi:(n-i)*n=n+(n-(i+1))*n:=by
   rw[show n-i=(n-(i+1))+1 by omega,Nat.add_mul];omega
  have hol:(qar qbK n i++List.replicate ((n-i)*n) (0:Int)).length=i*n+(n-i)*n:=by simp[qaq]
  have e1:w64 (w64 ((i:Int)*(n:Int))+(i:Int))=((i*n+i:Nat):Int):=by
   rw[qa0,qaf (n:=((i*n:Nat):Int)) (by omega) (by omega),qaf (by omega) (by omega)];omega
  simp only[e1,Int.toNat_natCast]
  refine qaC (decide_eq_true (by omega)) (qao (by simp only[Bool.and_eq_true,decide_eq_true_eq,hol];omega) ?_)
  rw[qad (by omega)]
  have e2:(qar qbK n i++List.replicate ((n-i)*n) (0:Int)).set (i*n+i) 1=qar qbK n (i+1)++List.replicate ((n-(i+1))*n) 0:=by
   rw[List.set_append_right _ _ (by rw[qaq];omega),qaq,Nat.add_sub_cancel_left,qar,List.append_assoc]
   congr 1
   apply List.ext_getElem?
   intro j
   rw[List.getElem?_set,List.length_replicate]
   by_cases hj:j<n
   ·rw[List.getElem?_append_left (by simpa using hj)]
    by_cases hij:i=j
    ·subst hij
     rw[if_pos rfl,if_pos (by omega)]
     simp[hj,qbK]
    ·rw[if_neg hij,List.getElem?_replicate,if_pos (by omega)]
     simp[hj,qbK,hij]
   ·rw[if_neg (by omega),List.getElem?_append_right (by simpa using hj)]
    simp only[List.length_map,List.length_range,List.getElem?_replicate]
    by_cases h2:j<(n-i)*n
    ·rw[if_pos h2,if_pos (by omega)]
    ·rw[if_neg h2,if_neg (by omega)]
  rw[e2]
  exact ih
 ·simp only[Z147.l0_succ _ qae]
  refine qaI (decide_eq_false (by omega)) (qah ?_)
  simp[qb3]
end VeT
open Go Go.Proofs Ve
namespace VeT
open Classical in
noncomputable def GC(x:Shf)(k:Int):Int:=if ISh x then(if 0≤k∧k≤3 then 0 else 2) else 1
theorem qhq{x:Shf}{k:Int}:GC x k=0↔ISh x∧0≤k∧k≤3:=by
 unfold GC;split
 ·rename_i h
  split
  ·rename_i h2;exact⟨fun _=>⟨h,h2⟩,fun _=>rfl⟩
  ·rename_i h2;exact⟨fun e=>by omega,fun e=>absurd e.2 h2⟩
 ·rename_i h;exact⟨fun e=>by omega,fun e=>absurd e.1 h⟩
theorem qjq(x:Shf)(k:Int)(hx:Sm (.st cS) x):Ret E n_Z51 [dLL x.1,dI x.2.1,dL x.2.2.1,dMs x.2.2.2.1,dI k] ⟨o_Z51,(GC x k,())⟩:=by
 refine qaj ?_
 simp only[run_Z51,Z51.ev]
 refine qaa (qh7 x hx) (qbL (fun h=>qah ?_) fun h=>qaa (qh5 k) (qbL (fun h2=>qah ?_) fun h2=>qah ?_))
 ·have h:=qaY.1 (show pb (ISh x)=false by simpa using h)
  rw[GC,if_neg h]
 ·have h:=qaG.1 (show pb (ISh x)=true by simpa using h)
  have h2:=qaY.1 (show pb (0≤k∧k≤3)=false by simpa using h2)
  rw[GC,if_pos h,if_neg h2]
 ·have h:=qaG.1 (show pb (ISh x)=true by simpa using h)
  have h2:=qaG.1 (show pb (0≤k∧k≤3)=true by simpa using h2)
  rw[GC,if_pos h,if_pos h2]
theorem qnH(x:Shf)(k:Int)(hx:Sm (.st cS) x):Ret E n_Z178 [dS x,dI k] ⟨o_Z178,(GC x k,())⟩:=by
 refine qaj ?_
 simp only[run_Z178,Z178.ev]
 refine qaa (qo1 x hx) (qbL (fun h=>qah ?_) fun h=>qaa (qeg k) (qbL (fun h2=>qah ?_) fun h2=>qah ?_))
 ·have h:=qaY.1 (show pb (ISh x)=false by simpa using h)
  rw[GC,if_neg h]
 ·have h:=qaG.1 (show pb (ISh x)=true by simpa using h)
  have h2:=qaY.1 (show pb (0≤k∧k≤3)=false by simpa using h2)
  rw[GC,if_pos h,if_neg h2]
 ·have h:=qaG.1 (show pb (ISh x)=true by simpa using h)
  have h2:=qaG.1 (show pb (0≤k∧k≤3)=true by simpa using h2)
  rw[GC,if_pos h,if_pos h2]
theorem qkE(v:Sim)(n p:Int)(hv:v.length≤1048576)(hp:0≤p∧p≤1048576):Ret E n_Z61 [dL v,dI n,dI p] ⟨o_Z61,(pb (qax v p∧(v.length:Int)=n),())⟩:=by
 refine qaj ?_
 simp only[run_Z61,Z61.ev]
 refine qaa (qen v) (qbL (fun h=>qaa (qel v p hv hp) (qah ?_)) fun h=>qah ?_)
 ·have h:(v.length:Int)=n:=by simpa using h
  exact congrArg (fun b:Bool=>some (⟨o_Z61,(b,())⟩:Dv)) (qaN ⟨fun e=>⟨e,h⟩,fun e=>e.1⟩)
 ·have h:¬ (v.length:Int)=n:=by simpa using h
  rw[qat fun e=>h e.2]
def qfo(x:Shf)(k:Int)(v:Sim):Prop:=qax v x.2.1∧(v.length:Int)=SD x.1 x.2.2.1 k
open Classical in
noncomputable def CC(x:Shf)(k:Int)(v:Sim):Int:=if GC x k=0 then(if qfo x k v then 0 else 7) else GC x k
theorem qcO{x:Shf}{k:Int}{v:Sim}:CC x k v=0↔(ISh x∧0≤k∧k≤3)∧qfo x k v:=by
 rw[← qhq]
 unfold CC;split
 ·rename_i h
  split
  ·rename_i h2;exact⟨fun _=>⟨h,h2⟩,fun _=>rfl⟩
  ·rename_i h2;exact⟨fun e=>by omega,fun e=>absurd e.2 h2⟩
 ·rename_i h;exact⟨fun e=>absurd e h,fun e=>absurd e.1 h⟩
theorem qbN(x:Shf)(k:Int)(v:Sim)(hx:Sm (.st cS) x)(hv:Sm (.sl (.int .i64)) v):Ret E n_Z83 [dLL x.1,dI x.2.1,dL x.2.2.1,dMs x.2.2.2.1,dI k,dL v] ⟨o_Z83,(CC x k v,())⟩:=by
 refine qaj ?_
 simp only[run_Z83,Z83.ev]
 refine qaa (qjq x k hx) (qbL (fun h=>qah ?_) fun h=>?_)
 ·have h:¬ GC x k=0:=by simpa using h
  rw[CC,if_neg h]
 ·have h:GC x k=0:=by simpa using h
  obtain⟨hs,hk⟩:=qhq.1 h
  have hp:=hs.1.2.1
  refine qaa (qcM _ _ _ _ _ hx.1 hs.1.2.2.1.1 hs.1.2.2.1.2.1 (by omega)) (qaa (qkE v (SD x.1 x.2.2.1 k) x.2.1 hv.1 ⟨by have:=hp.1;omega,by have:=hp.2.1;omega⟩) (qbL (fun h2=>qah ?_) fun h2=>qah ?_))
  ·rw[CC,if_pos h,if_neg (qaY.1 (show pb (qfo x k v)=false by simpa [qfo] using h2))]
  ·rw[CC,if_pos h,if_pos (qaG.1 (show pb (qfo x k v)=true by simpa [qfo] using h2))]
theorem qiH(x:Shf)(k:Int)(v:Sim)(hx:Sm (.st cS) x)(hv:Sm (.sl (.int .i64)) v):Ret E n_Z180 [dS x,dI k,dL v] ⟨o_Z180,(CC x k v,())⟩:=by
 refine qaj ?_
 simp only[run_Z180,Z180.ev]
 refine qaa (qnH x k hx) (qbL (fun h=>qah ?_) fun h=>?_)
 ·have h:¬ GC x k=0:=by simpa using h
  rw[CC,if_neg h]
 ·have h:GC x k=0:=by simpa using h
  obtain⟨hs,hk⟩:=qhq.1 h
  have hp:=hs.1.2.1
  refine qaa (qcX _ _ _ hx.1 hs.1.2.2.1.1 hs.1.2.2.1.2.1 (by omega)) (qaa (qdV v (SD x.1 x.2.2.1 k) x.2.1 hv.1 ⟨by have:=hp.1;omega,by have:=hp.2.1;omega⟩) (qbL (fun h2=>qah ?_) fun h2=>qah ?_))
  ·rw[CC,if_pos h,if_neg (qaY.1 (show pb (qfo x k v)=false by simpa [qfo] using h2))]
  ·rw[CC,if_pos h,if_pos (qaG.1 (show pb (qfo x k v)=true by simpa [qfo] using h2))]
noncomputable def qcg(x:Shf)(k:Int):Mat:=qqn x.1 x.2.1 x.2.2.1 x.2.2.2.1 k
theorem VM.len{m:Mat}(h:VM m):m.2.2.2.1.length≤1024:=by
 obtain⟨R,C,_,hR,hC,hl⟩:=h.nat
 have:=qcN hR hC
 omega
noncomputable def qc2(x:Shf)(k:Int)(v:Sim):Sim:=qi4 (qcg x k) v (SD x.1 x.2.2.1 (k+1)).toNat
theorem qlB{x:Shf}{k:Int}{v:Sim}(h:(ISh x∧0≤k∧k≤3)∧qfo x k v) :
  Ret E n_Z24 [dI (qcg x k).1,dI (qcg x k).2.1,dI (qcg x k).2.2.1,dL (qcg x k).2.2.2.1,dL v] ⟨o_Z24,(qc2 x k v,())⟩:=by
 have hp:=h.1.1.1.2.1
 exact qo4 (qcg x k) v (qpd h.1.1.1 k) (by show SD x.1 x.2.2.1 k≤_;have:=h.2.2;omega) (h.2.1.mem ⟨hp.1,hp.2.1⟩)
theorem qll{x:Shf}{k:Int}{v:Sim}(h:(ISh x∧0≤k∧k≤3)∧qfo x k v) :
  Ret E n_Z136 [dM (qcg x k),dL v] ⟨o_Z136,(qc2 x k v,())⟩:=by
 have hp:=h.1.1.1.2.1
 exact qlG (qcg x k) v (qpd h.1.1.1 k) (by show SD x.1 x.2.2.1 k≤_;have:=h.2.2;omega) (h.2.1.mem ⟨hp.1,hp.2.1⟩)
theorem qmy{x:Shf}{k:Int}{v:Sim}(h:ISh x):(qc2 x k v).length≤32:=by
 obtain⟨n,e,hn,ht⟩:=qcb h.1 (k+1)
 unfold qc2;rw[qdW];omega
open Classical in
noncomputable def qaZ(x:Shf)(k:Int)(v:Sim):Sim×Int×Unit:=if CC x k v=0 then(qc2 x k v,0,()) else([],CC x k v,())
theorem qe3(x:Shf)(k:Int)(v:Sim)(hx:Sm (.st cS) x)(hv:Sm (.sl (.int .i64)) v):Ret E n_Z5 [dLL x.1,dI x.2.1,dL x.2.2.1,dMs x.2.2.2.1,dI k,dL v] ⟨o_Z5,qaZ x k v⟩:=by
 refine qaj ?_
 simp only[run_Z5,Z5.ev]
 refine qaa (qbN x k v hx hv) (qbL (fun h=>qah ?_) fun h=>?_)
 ·have h:¬ CC x k v=0:=by simpa using h
  rw[qaZ,if_neg h]
 ·have h:CC x k v=0:=by simpa using h
  have hh:=qcO.1 h
  rw[qaZ,if_pos h]
  exact qaa (qaV x.1 x.2.1 x.2.2.1 x.2.2.2.1 k (by omega) hx.1 hh.1.1.1) (qaa (qlB hh) qal)
theorem qe1(x:Shf)(k:Int)(v:Sim)(hx:Sm (.st cS) x)(hv:Sm (.sl (.int .i64)) v):Ret E n_Z119 [dLL x.1,dI x.2.1,dL x.2.2.1,dMs x.2.2.2.1,dI k,dL v] ⟨o_Z119,qaZ x k v⟩:=by
 refine qaj ?_
 simp only[run_Z119,Z119.ev]
 refine qaa (qiH x k v hx hv) (qbL (fun h=>qah ?_) fun h=>?_)
 ·have h:¬ CC x k v=0:=by simpa using h
  rw[qaZ,if_neg h]
 ·have h:CC x k v=0:=by simpa using h
  have hh:=qcO.1 h
  rw[qaZ,if_pos h]
  exact qaa (qkm x k (by omega) hx.1 hh.1.1.1) (qaa (qll hh) qal)
theorem qdR(x:Shf)(k:Int)(v:Sim)(hx:Sm (.st cS) x)(hh:(ISh x∧0≤k∧k≤3)∧qfo x k v):Ret E n_Z56 [dLL x.1,dI x.2.1,dL x.2.2.1,dMs x.2.2.2.1,dI k,dL v] ⟨o_Z56,(pb (Zs (qc2 x k v)),())⟩:=by
 refine qaj ?_
 simp only[run_Z56,Z56.ev]
 have:=qmy (k:=k) (v:=v) hh.1.1
 exact qaa (qaV x.1 x.2.1 x.2.2.1 x.2.2.2.1 k (by omega) hx.1 hh.1.1.1) (qaa (qlB hh) (qaa (qjh (qc2 x k v) (by omega)) qal))
end VeT
open Go Go.Proofs Ve
namespace VeT
theorem qiI.lt{s:Sim}(h:qiI s):∀ {i j:Nat} (hj:j<s.length) (hij:i<j),s[i]<s[j]:=by
 intro i j
 induction j with
 | zero=>intro _ h;omega
 | succ j ih =>
  intro hj hij
  have:=h (j+1) (by omega) hj
  rw[Nat.add_sub_cancel,qag (by omega),qag hj] at this
  by_cases e:i=j
  ·subst e;exact this
  ·exact Int.lt_trans (ih (by omega) (by omega)) this
theorem qiI.pairwise{s:Sim}(h:qiI s):s.Pairwise (·<·):=by
 rw[List.pairwise_iff_getElem]
 intro i j hi hj hij
 exact h.lt hj hij
end VeT
open Go Go.Proofs Ve
namespace VeT
theorem qqM{W a b a' b':Nat}(hb:b<W)(hb':b'<W)(e:a*W+b=a'*W+b'):a=a'∧b=b':=by
 have h1:(a*W+b) / W=a:=by rw[Nat.mul_comm,Nat.mul_add_div (by omega),Nat.div_eq_of_lt hb,Nat.add_zero]
 have h2:(a'*W+b') / W=a':=by rw[Nat.mul_comm,Nat.mul_add_div (by omega),Nat.div_eq_of_lt hb',Nat.add_zero]
 have:a=a':=by rw[← h1,← h2,e]
 subst this
 exact⟨rfl,by omega⟩
theorem qrP{c:List Sim}{st:Sim}(hst:∀ x∈st,0≤x∧x≤3){s s':Nat}(hl:(c.getD s []).length=(c.getD s' []).length)(h:s<s'):FC c st s+st.getD s 0≤FC c st s':=by
 unfold FC
 rw[← hl]
 exact qoh hst h (by omega)
theorem qix{c:List Sim}{st:Sim}(hst:∀ x∈st,0≤x∧x≤3){s s' i i':Nat}(hl:(c.getD s []).length=(c.getD s' []).length)(hi:i<(st.getD s 0).toNat)(hi':i'<(st.getD s' 0).toNat)
  (e:(FC c st s).toNat+i=(FC c st s').toNat+i'):s=s'∧i=i':=by
 have n1:0≤FC c st s:=(qiV hst).1
 have n2:0≤FC c st s':=(qiV hst).1
 rcases Nat.lt_trichotomy s s' with h | h | h
 ·have:=qrP hst hl h;omega
 ·subst h;exact⟨rfl,by omega⟩
 ·have:=qrP hst hl.symm h;omega
theorem qoj{s:Sim}(hs:qiI s){a b:Nat}(ha:a<s.length)(hb:b<s.length)(e:s.eraseIdx a=s.eraseIdx b):a=b:=by
 have key:∀ {a b:Nat},a<b→b<s.length→s.eraseIdx a=s.eraseIdx b→False:=fun {a b} hab hb e=>by
  have h:=congrArg (·[a]?) e
  simp only[List.getElem?_eraseIdx] at h
  rw[if_neg (by omega),if_pos hab,List.getElem?_eq_getElem (by omega),List.getElem?_eq_getElem (by omega)] at h
  have h:=Option.some.inj h
  have:=hs.lt (i:=a) (j:=a+1) (by omega) (by omega)
  omega
 rcases Nat.lt_trichotomy a b with h | h | h
 ·exact absurd e fun e=>key h hb e
 ·exact h
 ·exact absurd e.symm fun e=>key h ha e
theorem qpl{c:List Sim}(hv:VC c){s a b:Nat}(hs:s<c.length)(ha:a<(qaH c s).length)(hb:b<(qaH c s).length)(e:fc c s a=fc c s b):a=b:=by
 obtain⟨_,_,ea⟩:=qbk hv hs ha
 obtain⟨_,_,eb⟩:=qbk hv hs hb
 have hl:=qaF (c:=c) (k:=s)
 rw[e,eb] at ea
 split at hl
 ·exact(qoj (hv.2.1 s hs).2.2.1 (by omega) (by omega) ea).symm
 ·omega
theorem qpf{c:List Sim}{p:Int}{st:Sim}{ms:List Mat}(h:VS c p st ms){k:Int}(hk:0≤k){s a i j:Nat}(hs:s<c.length)(hd:((c.getD s []).length:Int)=k+2)(ha:a<(qaH c s).length)
  (hi:i<(st.getD s 0).toNat) (hj:j<(st.getD (fc c s a) 0).toNat) :
  (qek c p st ms k).getD (((FC c st s).toNat+i)*(SD c st k).toNat+((FC c st (fc c s a)).toNat+j)) 0=(mp c ms s a).2.2.2.1.getD (i*(mp c ms s a).2.2.1.toNat+j) 0*sgn p a%p:=by
 have hst:=h.2.2.1.2.1
 obtain⟨g1,g2,g3,g4,g5,g6,g7⟩:=qc7 h hs hd ha
 have hW:(FC c st (fc c s a)).toNat+j<(SD c st k).toNat:=by omega
 have hH:(FC c st s).toNat+i<(SD c st (k+1)).toNat:=by omega
 unfold qek
 rw[if_neg (by omega)]
 refine qpP (by rw[List.length_replicate];exact qe4 hH hW) (fun x hx e=>?_) ⟨_,(qj1 (Nat.le_refl _)).2 ⟨s,hs,hd,qkc.2 ⟨a,i,j,ha,by omega,by omega,rfl⟩⟩,by simp only;omega⟩
 obtain⟨s',hs',hd',hx⟩:=(qj1 (Nat.le_refl _)).1 hx
 obtain⟨a',i',j',ha',hi',hj',rfl⟩:=qkc.1 hx
 obtain⟨q1,q2,q3,q4,q5,q6,q7⟩:=qc7 h hs' hd' ha'
 simp only at e ⊢
 have hW':(FC c st (fc c s' a')).toNat+j'<(SD c st k).toNat:=by omega
 have e0:((FC c st s').toNat+i')*(SD c st k).toNat+((FC c st (fc c s' a')).toNat+j')=((FC c st s).toNat+i)*(SD c st k).toNat+((FC c st (fc c s a)).toNat+j):=by omega
 obtain⟨e1,e2⟩:=qqM hW' hW e0
 obtain⟨rfl,rfl⟩:=qix hst (by omega) (by omega) (by omega) e1
 obtain⟨e3,rfl⟩:=qix hst (by omega) (by omega) (by omega) e2
 obtain rfl:=qpl h.1 hs ha' ha e3
 rfl
theorem qmZ{c:List Sim}{p:Int}{st:Sim}{ms:List Mat}(h:VS c p st ms){k:Int}{s i g:Nat}(hs:s<c.length)(hd:((c.getD s []).length:Int)=k+2)
  (hi:i<(st.getD s 0).toNat) (hg:g<(SD c st k).toNat) (hno:∀ a,a<(qaH c s).length→¬ ((FC c st (fc c s a)).toNat≤g∧g<(FC c st (fc c s a)).toNat+(st.getD (fc c s a) 0).toNat)) :
  (qek c p st ms k).getD (((FC c st s).toNat+i)*(SD c st k).toNat+g) 0=0:=by
 have hst:=h.2.2.1.2.1
 have hrep:∀ n q,(List.replicate n (0:Int)).getD q 0=0:=fun n q=>by
  rw[List.getD_eq_getElem?_getD,List.getElem?_replicate];split<;>rfl
 unfold qek
 split
 ·exact hrep _ _
 rw[qlM fun x hx e=>?_]
 ·exact hrep _ _
 obtain⟨s',hs',hd',hx⟩:=(qj1 (Nat.le_refl _)).1 hx
 obtain⟨a',i',j',ha',hi',hj',rfl⟩:=qkc.1 hx
 obtain⟨q1,q2,q3,q4,q5,q6,q7⟩:=qc7 h hs' hd' ha'
 simp only at e
 have hW':(FC c st (fc c s' a')).toNat+j'<(SD c st k).toNat:=by omega
 have e0:((FC c st s').toNat+i')*(SD c st k).toNat+((FC c st (fc c s' a')).toNat+j')=((FC c st s).toNat+i)*(SD c st k).toNat+g:=by omega
 obtain⟨e1,e2⟩:=qqM hW' hg e0
 obtain⟨rfl,rfl⟩:=qix hst (by omega) (by omega) (by omega) e1
 exact hno a' ha' ⟨by omega,by omega⟩
end VeT
open Go Go.Proofs Ve
namespace VeT
theorem qj4{p:Int}{n:Nat}(hp:Pr p)(hn:n≤32):VM (qb3 p n):=by
 refine⟨hp,⟨by show(0:Int)≤n;omega,by show(n:Int)≤32;omega⟩,⟨by show(0:Int)≤n;omega,by show(n:Int)≤32;omega⟩,?_,?_⟩
 ·show((qar qbK n n).length:Int)=(n:Int)*(n:Int)
  rw[qaq,qa0]
 ·intro x hx
  have hx:x∈qar qbK n n:=hx
  have:∀ m,x∈qar qbK n m→0≤x∧x≤1:=by
   intro m
   induction m with
   | zero=>intro h;simp[qar] at h
   | succ m ih =>
    intro h
    rw[qar,List.mem_append] at h
    rcases h with h | h
    ·exact ih h
    ·rw[List.mem_map] at h
     obtain⟨j,_,rfl⟩:=h
     unfold qbK;split<;>omega
  have:=this n hx
  have:=hp.1
  show 0≤x∧x≤p-1
  omega
theorem qep{a b:Mat}(ha:VM a)(hb:VM b):VM (qfE a b):=by
 refine⟨ha.1,ha.2.1,hb.2.2.1,?_,?_⟩
 ·show((qar _ b.2.2.1.toNat a.2.1.toNat).length:Int)=a.2.1*b.2.2.1
  rw[qaq]
  have h1:=ha.2.1
  have h2:=hb.2.2.1
  obtain⟨x,hx⟩:=Int.eq_ofNat_of_zero_le h1.1
  obtain⟨y,hy⟩:=Int.eq_ofNat_of_zero_le h2.1
  rw[hx,hy,qa0];rfl
 ·intro x hx
  have hx:x∈qar (qig a.1 a.2.2.2.1 b.2.2.2.1 a.2.2.1.toNat b.2.2.1.toNat) b.2.2.1.toNat a.2.1.toNat:=hx
  have hp:=ha.1.1
  have:∀ m,x∈qar (qig a.1 a.2.2.2.1 b.2.2.2.1 a.2.2.1.toNat b.2.2.1.toNat) b.2.2.1.toNat m→0≤x∧x≤a.1-1:=by
   intro m
   induction m with
   | zero=>intro h;simp[qar] at h
   | succ m ih =>
    intro h
    rw[qar,List.mem_append] at h
    rcases h with h | h
    ·exact ih h
    ·rw[List.mem_map] at h
     obtain⟨j,_,rfl⟩:=h
     have h1:=Int.emod_nonneg (qaB (fun l=>a.2.2.2.1.getD (m*a.2.2.1.toNat+l) 0) (fun l=>b.2.2.2.1.getD (l*b.2.2.1.toNat+j) 0) a.2.2.1.toNat) (show a.1≠0 by omega)
     have h2:=Int.emod_lt_of_pos (qaB (fun l=>a.2.2.2.1.getD (m*a.2.2.1.toNat+l) 0) (fun l=>b.2.2.2.1.getD (l*b.2.2.1.toNat+j) 0) a.2.2.1.toNat) (show 0<a.1 by omega)
     unfold qig;omega
  exact this _ hx
end VeT
open Go Go.Proofs Ve
namespace VeT
end VeT
open Go Go.Proofs Ve
namespace VeT
def qnx(a b:Sim)(c p:Int):Sim:=(List.range a.length).map fun i=>(a.getD i 0+c*b.getD i 0)%p
theorem qmh{a b:Sim}{c p:Int}:(qnx a b c p).length=a.length:=by simp[qnx]
theorem qpH{a b:Sim}{c p:Int}{i:Nat}(h:i<a.length):(qnx a b c p).getD i 0=(a.getD i 0+c*b.getD i 0)%p:=by
 simp[qnx,List.getD_eq_getElem?_getD,h]
end VeT
open Go Go.Proofs Ve
namespace VeT
theorem qfF{a b:Sim}(hl:a.length=b.length)(h:∀ i,i<a.length→a.getD i 0=b.getD i 0):a=b:=by
 refine List.ext_getElem hl fun i h1 h2=>?_
 have:=h i h1
 rwa [qag h1,qag h2] at this
end VeT
open Go Go.Proofs Ve
namespace VeT
end VeT
open Go Go.Proofs Ve
namespace VeT
def qsj(c:List Sim)(w:Sim):Prop:=qiI w∧∀ y∈w,0≤y∧y≤(c.length:Int)-1
theorem qsj.get{c:List Sim}{w:Sim}(h:qsj c w){i:Nat}(hi:i<w.length):∃ n:Nat,w[i]=(n:Int)∧n<c.length:=by
 have:=h.2 _ (List.getElem_mem hi)
 exact⟨(w[i]).toNat,by omega,by omega⟩
end VeT
open Go Go.Proofs Ve
namespace VeT
theorem qeX{P:Nat→Prop}:∀ {d a k:Nat},qa2 P a d=some k→∀ i,a≤i→i<k→¬ P i
 | 0,a,k,h=>by simp[qa2] at h
 | d+1,a,k,h=>fun i h1 h2=>by
  rw[qa2] at h
  split at h
  ·obtain rfl:=Option.some.inj h;omega
  ·rename_i hp
   by_cases e:i=a
   ·subst e;exact hp
   ·exact qeX h i (by omega) h2
theorem qhe{s:Sim}(h:s.Pairwise (·<·)):qiI s:=fun j h1 h2=>by
 rw[qag (show j-1<s.length by omega),qag h2]
 exact List.pairwise_iff_getElem.1 h (j-1) j (by omega) h2 (by omega)
end VeT
open Go Go.Proofs Ve
namespace VeT
def qrt(a p:Int):Int:=Int.tmod (w64 (Int.tmod a p+p)) p
theorem qoT{a p:Int}(hp:2≤p∧p≤251)(ha:-1048576≤a∧a≤1048576):qrt a p=a%p:=by
 have h1:-p<Int.tmod a p∧Int.tmod a p<p:=by
  constructor
  ·by_cases h:a<0
   ·have:=Int.tmod_lt_of_pos (-a) (show 0<p by omega)
    rw[Int.neg_tmod] at this;omega
   ·have:=Int.tmod_nonneg p (show 0≤a by omega);omega
  ·exact Int.tmod_lt_of_pos a (by omega)
 have h2:Int.tmod a p%p=a%p:=by
  have:=Int.tmod_add_mul_tdiv a p
  have e:a=Int.tmod a p+p*Int.tdiv a p:=this.symm
  conv=>rhs;rw[e]
  rw[Int.add_mul_emod_self_left]
 unfold qrt
 rw[qaf (by omega) (by omega),Int.tmod_eq_emod_of_nonneg (by omega),Int.add_emod_right,h2]
theorem qi7(a p:Int)(hp:2≤p):Ret E n_Z73 [dI a,dI p] ⟨o_Z73,(qrt a p,())⟩:=by
 refine qaj ?_
 simp only[run_Z73,Z73.ev]
 exact qao (by simp;omega) (qao (by simp;omega) qal)
theorem qnV(a p:Int)(hp:2≤p):Ret E n_Z141 [dI a,dI p] ⟨o_Z141,(qrt a p,())⟩:=by
 refine qaj ?_
 simp only[run_Z141,Z141.ev]
 exact qao (by simp;omega) (qao (by simp;omega) qal)
theorem qdw(a b:Sim)(c p:Int)(hp:2≤p∧p≤251)(hc:0≤c∧c≤250)(hl:a.length≤b.length)(ha1:a.length≤1048576)(ea:∀ x∈a,0≤x∧x≤250)(eb:∀ x∈b,0≤x∧x≤250) :
  Ret E n_Z22 [dL a,dL b,dI c,dI p] ⟨o_Z22,(qnx a b c p,())⟩:=by
 refine qaj ?_
 simp only[run_Z22,Z22.ev]
 refine Ev.start (p:=fun φ n=>Z22.l0 (mkR (run E (φ 0))) (φ 0) n a b c p (a.length:Int) 0 []=_) 1 ?_ (fun _ _ _ h=>h)
 refine qan 1 (L:=fun φ n k o=>Z22.l0 (mkR (run E (φ 0))) (φ 0) n a b c p (a.length:Int) k o) (len:=a.length) (fun k=>(List.range k).map fun i=>(a.getD i 0+c*b.getD i 0)%p) (fun _ _ _ _ _=>rfl) (fun k r hk ih=>?_) ?_
 ·simp only[Z22.l0_succ _ qae]
  have hkb:k<b.length:=by omega
  have h1:=ea _ (List.getElem_mem hk)
  have h2:=qfb hc (eb _ (List.getElem_mem hkb))
  rw[List.range_succ,List.map_append,List.map_singleton,qag hk,qag hkb] at ih
  refine qaC (decide_eq_true (by omega)) (qac (qak hk) (qac (qak hkb) (qao (by simp;omega) ?_)))
  rw[qaf (n:=c*b[k]) (by omega) (by omega),qaf (by omega) (by omega),Int.tmod_eq_emod_of_nonneg (by omega),qad (by omega)]
  exact qao (by simp;omega) ih
 ·simp only[Z22.l0_succ _ qae]
  exact qaI (decide_eq_false (by omega)) qal
theorem qo9{a:Int}:∀ k:Nat,(a*a) ^ k=a ^ (k+k)
 | 0=>by rw[Int.pow_zero,Nat.add_zero,Int.pow_zero]
 | k+1=>by rw[Int.pow_succ,qo9 k,show k+1+(k+1)=k+k+1+1 by omega,Int.pow_succ,Int.pow_succ,Int.mul_assoc]
theorem ql9(a:Int)(n:Nat)(p:Int)(hp:2≤p∧p≤251)(ha:0≤a∧a≤p-1)(hn:n≤1048576):Ret E n_Z69 [dI a,dI (n:Int),dI p] ⟨o_Z69,(a ^ n%p,())⟩:=by
  refine qaj ?_
  simp only[run_Z69,Z69.ev]
  refine Ev.start (p:=fun φ m=>Z69.l0 (mkR (run E (φ 0))) (φ 0) m a (n:Int) p 1=_) 1 ?_ (fun _ _ _ h=>h)
  refine qe2 1 (σ:=Int×Nat×Int) (L:=fun φ m s=>Z69.l0 (mkR (run E (φ 0))) (φ 0) m s.1 (s.2.1:Int) p s.2.2) (fun _ _ _ _=>rfl) (fun s=>(0≤s.1∧s.1≤p-1)∧s.2.1≤1048576∧(0≤s.2.2∧s.2.2≤p-1)∧s.2.2*s.1 ^ s.2.1%p=a ^ n%p) (fun _=>_) (fun s=>s.2.1) (fun s hi ih=>?_) (a,n,1) ⟨ha,hn,by show 0≤(1:Int)∧(1:Int)≤p-1;omega,by show 1*a ^ n%p=_;rw[Int.one_mul]⟩
  obtain⟨b,m,q⟩:=s
  obtain⟨h1,h2,h3,h4⟩:=hi
  simp only at h1 h2 h3 h4 ih
  simp only[Z69.l0_succ _ qae]
  have hbb:=qfb (x:=b) (y:=b) (by omega) (by omega)
  have hqb:=qfb (x:=q) (y:=b) (by omega) (by omega)
  have e1:w64 (b*b)=b*b:=qaf (by omega) (by omega)
  have e2:w64 (q*b)=q*b:=qaf (by omega) (by omega)
  have e3:Int.tdiv (m:Int) 2=((m / 2:Nat):Int):=rfl
  have e4:w64 ((m / 2:Nat):Int)=((m / 2:Nat):Int):=qaf (by omega) (by omega)
  have e5:Int.tmod (m:Int) 2=((m%2:Nat):Int):=rfl
  refine qee (fun hm=>?_) fun hm=>qah ?_
  · rw[e5,e1,e2,e3,e4,Int.tmod_eq_emod_of_nonneg (by omega),Int.tmod_eq_emod_of_nonneg (by omega)]
    have hd:m / 2<m:=by omega
    refine qbL (fun ho=>qao (by simp;omega) (qao (by simp;omega) ?_)) fun he=>qao (by simp;omega) ?_
    · have ho : m % 2 = 1 := by have : ((m % 2 : Nat) : Int) = 1 := by simpa using ho
                                omega
      refine ih (b*b%p,m / 2,q*b%p) ⟨qbQ (by omega),by show m / 2≤_;omega,qbQ (by omega),?_⟩ hd
      rw[← h4]
      show q*b%p*(b*b%p) ^ (m / 2)%p=_
      have hx:(q*b%p)%p=(q*b)%p:=Int.emod_emod_of_dvd _ (Int.dvd_refl p)
      have hy:(b*b%p) ^ (m / 2)%p=(b*b) ^ (m / 2)%p:=qh6 (Int.emod_emod_of_dvd _ (Int.dvd_refl p)) _
      rw[qfH hx hy,qo9]
      have hm2:m=m / 2+m / 2+1:=by omega
      conv=>rhs;rw[hm2,Int.pow_succ]
      rw[Int.mul_assoc,Int.mul_comm b]
    · have he:m%2=0:=by
        have:¬ ((m%2:Nat):Int)=1:=by simpa using he
        omega
      refine ih (b*b%p,m / 2,q) ⟨qbQ (by omega),by show m / 2≤_;omega,h3,?_⟩ hd
      rw[← h4]
      show q*(b*b%p) ^ (m / 2)%p=_
      have hy:(b*b%p) ^ (m / 2)%p=(b*b) ^ (m / 2)%p:=qh6 (Int.emod_emod_of_dvd _ (Int.dvd_refl p)) _
      rw[qfH rfl hy,qo9]
      have hm2:m=m / 2+m / 2:=by omega
      conv=>rhs;rw[hm2]
  · have hm:m=0:=by omega
    subst hm
    have:q=a ^ n%p:=by rw[← h4,Int.pow_zero,Int.mul_one,Int.emod_eq_of_lt (by omega) (by omega)]
    rw[this]
theorem qka(a p:Int)(hp:2≤p∧p≤251)(ha:0≤a∧a≤p-1):Ret E n_Z54 [dI a,dI p] ⟨o_Z54,(qgT a p,())⟩:=by
 have e:w64 (p-2)=(((p-2).toNat:Nat):Int):=by rw[qaf (by omega) (by omega)];omega
 refine qaj ?_
 simp only[run_Z54,Z54.ev,e]
 exact qaa (ql9 a (p-2).toNat p hp ha (by omega)) qal
theorem qiL(a p:Int)(hp:2≤p∧p≤251)(ha:0≤a∧a≤p-1):Ret E n_Z139 [dI a,dI p] ⟨o_Z139,(qgT a p,())⟩:=by
 have e:w64 (p-2)=(((p-2).toNat:Nat):Int):=by rw[qaf (by omega) (by omega)];omega
 refine qaj ?_
 simp only[run_Z139,Z139.ev,e]
 refine Ev.start (p:=fun φ m=>Z139.l0 (mkR (run E (φ 0))) (φ 0) m a p 1 (((p-2).toNat:Nat):Int)=_) 1 ?_ (fun _ _ _ h=>h)
 refine qe2 1 (σ:=Nat×Int) (L:=fun φ m s=>Z139.l0 (mkR (run E (φ 0))) (φ 0) m a p s.2 (s.1:Int)) (fun _ _ _ _=>rfl) (fun s=>s.1≤1048576∧(0≤s.2∧s.2≤p-1)∧s.2*a ^ s.1%p=a ^ (p-2).toNat%p) (fun _=>_) (fun s=>s.1) (fun s hi ih=>?_) ((p-2).toNat,1) ⟨by show(p-2).toNat≤_;omega,by show 0≤(1:Int)∧(1:Int)≤p-1;omega,by show 1*_%p=_;rw[Int.one_mul]⟩
 obtain⟨m,q⟩:=s
 obtain⟨h2,h3,h4⟩:=hi
 simp only at h2 h3 h4 ih
 simp only[Z139.l0_succ _ qae]
 have hqa:=qfb (x:=q) (y:=a) (by omega) (by omega)
 refine qee (fun hm=>qao (by simp;omega) ?_) fun hm=>qah ?_
 ·rw[qaf (n:=q*a) (by omega) (by omega),Int.tmod_eq_emod_of_nonneg (by omega),qaf (by omega) (by omega),show(m:Int)-1=((m-1:Nat):Int) by omega]
  refine ih (m-1,q*a%p) ⟨by show m-1≤_;omega,qbQ (by omega),?_⟩ (by show m-1<m;omega)
  rw[← h4]
  show q*a%p*a ^ (m-1)%p=_
  have hx:(q*a%p)%p=(q*a)%p:=Int.emod_emod_of_dvd _ (Int.dvd_refl p)
  rw[qfH hx rfl]
  conv=>rhs;rw[show m=m-1+1 by omega,Int.pow_succ]
  rw[Int.mul_assoc,Int.mul_comm a]
 ·have hm:m=0:=by omega
  subst hm
  have:q=qgT a p:=by unfold qgT;rw[← h4,Int.pow_zero,Int.mul_one,Int.emod_eq_of_lt (by omega) (by omega)]
  rw[this]
theorem qj8{f g:Nat→Int}{W:Nat}{c p:Int}:qnx ((List.range W).map f) ((List.range W).map g) c p=(List.range W).map fun j=>(f j+c*g j)%p:=by
 unfold qnx
 rw[List.length_map,List.length_range]
 refine List.map_congr_left fun j hj=>?_
 have hj:=List.mem_range.1 hj
 simp[List.getD_eq_getElem?_getD,hj]
theorem qle{W:Nat}:List.replicate W (0:Int)=(List.range W).map fun _=>0:=by
 rw[List.map_const',List.length_range]
theorem qkQ{f:Nat→Int}{W:Nat}{p:Int}(hp:p≤251)(h:∀ j,j<W→0≤f j∧f j≤p-1):∀ x∈(List.range W).map f,0≤x∧x≤250:=fun x hx=>by
 obtain⟨j,hj,rfl⟩:=List.mem_map.1 hx
 have:=h j (List.mem_range.1 hj)
 omega
def pvL(l:List Nat):Sim:=l.map fun(n:Nat)=>(n:Int)
theorem qaX{l:List Nat}:(pvL l).length=l.length:=by simp[pvL]
theorem ql8{l:List Nat}{c:Nat}:pvL (l++[c])=pvL l++[(c:Int)]:=by simp[pvL]
theorem qnU{A:Ent}{R W c top:Nat}(hc:c<W)(ht:top≤R):qjH (fun row:Sim=>row.getD c 0 != 0) ((qaz A R W).drop top)=o2i ((qa2 (fun i=>A i c≠0) top (R-top)).map fun q=>q-top):=by
 have hlen:((qaz A R W).drop top).length=R-top:=by rw[List.length_drop,qaA]
 have hget:∀ k (h:k<((qaz A R W).drop top).length),(((qaz A R W).drop top)[k].getD c 0 != 0)=true↔A (top+k) c≠0:=fun k h=>by
  rw[hlen] at h
  have h1:=qbd (A:=A) (W:=W) (show top+k<R by omega)
  have h2:((qaz A R W).drop top)[k]? = some ((List.range W).map (A (top+k))):=by rw[List.getElem?_drop];exact h1
  rw[List.getElem?_eq_getElem (by rw[hlen];exact h)] at h2
  rw[Option.some.inj h2,List.getD_eq_getElem?_getD,qfu hc]
  simp
 symm
 refine qdd (fun k hk=>?_) fun hno j hj ⟨hj',hP⟩=>?_
 ·cases hf:qa2 (fun i=>A i c≠0) top (R-top) with
  | none=>rw[hf] at hk;cases hk
  | some q =>
   rw[hf] at hk
   have hk:q-top=k:=Option.some.inj hk
   have h1:=qaM hf
   have hkl:k<((qaz A R W).drop top).length:=by rw[hlen];omega
   refine⟨hkl,⟨hkl,(hget k hkl).2 (by rw[show top+k=q by omega];exact h1.2.2)⟩,fun j hj ⟨hj',hP⟩=>?_⟩
   exact qeX hf (top+j) (by omega) (by omega) ((hget j hj').1 hP)
 ·cases hf:qa2 (fun i=>A i c≠0) top (R-top) with
  | none=>exact qc9 hf (top+j) (by omega) (by rw[hlen] at hj;omega) ((hget j hj').1 hP)
  | some q=>rw[hf] at hno;cases hno
end VeT
open Go Go.Proofs Ve
namespace VeT
theorem qiy(row:Sim)(c:Nat)(hc:c<row.length):Ret E n_Z42 [dL row,⟨.ptr (.cons (.int .i64) .nil),((c:Int),())⟩] ⟨o_Z42,(row.getD c 0 != 0,())⟩:=by
 rw[qag hc]
 refine qaj ?_
 simp only[run_Z42,Z42.ev]
 exact qac (qak hc) qal
def elK(p:Int)(c top k:Nat)(B:Ent):Ent:=fun i j=>if i<k then elF p c top B i j else elM p c top B i j
theorem qqa{p:Int}{c top:Nat}{B:Ent}{R W:Nat}:qaz (elK p c top 0 B) R W=qaz (elM p c top B) R W:=qbO fun i j _ _=>by simp[elK]
theorem qrj{p:Int}{c top:Nat}{B:Ent}{R W:Nat}:qaz (elK p c top R B) R W=qaz (elF p c top B) R W:=qbO fun i j hi _=>by simp[elK,hi]
theorem qpr{top q R W:Nat}{A:Ent}(ht:top<R)(hq:q<R)(hne:q≠top):((qaz A R W).set top ((List.range W).map (A q))).set q ((List.range W).map (A top))=qaz (qcA top q A) R W:=by
 rw[qfI,qfI]
 refine qbO fun i j _ _=>?_
 unfold qcA
 by_cases h1:i=q
 ·subst h1;simp[hne]
 ·by_cases h2:i=top
  ·subst h2;simp[h1]
  ·simp[h1,h2]
theorem qob{top R W:Nat}{A:Ent}:qaz (qcA top top A) R W=qaz A R W:=qbO fun i j _ _=>by
 unfold qcA
 by_cases h:i=top
 ·subst h;simp
 ·simp[h]
theorem qdZ(A:Ent)(R W:Nat)(p:Int)(hp:2≤p∧p≤251)(hR:R≤1048576)(hW:W≤1048576)(hA:EIn p R W A) :
  ∃ det:Int,Ret E n_Z41 [dLL (qaz A R W),dI (W:Int),dI p] ⟨o_Z41,(pvL (elS p R A W).2,det,qaz (elS p R A W).1 R W,())⟩:=by
 have key:∀ d c det,c+d=W→∃ det':Int,Ev fun φ=>Z41.l0 (mkR (run E (φ 0))) (φ 0) (φ 1) (W:Int) p det (W:Int) (c:Int) (pvL (elS p R A c).2) (qaz (elS p R A c).1 R W)=some ⟨o_Z41,(pvL (elS p R A W).2,det',qaz (elS p R A W).1 R W,())⟩:=by
  intro d
  induction d with
  | zero =>
   intro c det hc
   obtain rfl:c=W:=by omega
   refine⟨det,Ev.round 1 (L:=fun φ n=>Z41.l0 (mkR (run E (φ 0))) (φ 0) n (c:Int) p det (c:Int) (c:Int) (pvL (elS p R A c).2) (qaz (elS p R A c).1 R c)) ?_ (fun _ _ _=>rfl)⟩
   simp only[Z41.l0_succ _ qae]
   exact qaI (decide_eq_false (by omega)) qal
  | succ d ih =>
   intro c det hcd
   have hc:c<W:=by omega
   obtain⟨hB,hpl,hpc,_⟩:=qew hp.1 hA c
   have hstep:elS p R A (c+1)=elP p R c (elS p R A c):=rfl
   generalize hS:elS p R A c=S at hB hpl hpc hstep
   obtain⟨B0,pv⟩:=S
   simp only at hB hpl hpc hstep
   have hlen:(qaz B0 R W).length=R:=qaA
   have hI:=qbq ((qaz B0 R W).drop pv.length) (((c:Int),()),()) (fun row=>row.getD c 0 != 0) (by rw[List.length_drop,hlen];omega) fun row hrow=>qiy row c (by
    have:=List.mem_of_mem_drop hrow
    unfold qaz at this
    obtain⟨i,_,rfl⟩:=List.mem_map.1 this
    simpa using hc)
   rw[qnU hc hpl] at hI
   cases hf:qa2 (fun i=>B0 i c≠0) pv.length (R-pv.length) with
   | none =>
    rw[hf] at hI
    have e:elS p R A (c+1)=(B0,pv):=by rw[hstep,elP];simp only[hf]
    obtain⟨det',h'⟩:=ih (c+1) 0 (by omega)
    rw[e] at h'
    refine⟨det',Ev.round 1 (L:=fun φ n=>Z41.l0 (mkR (run E (φ 0))) (φ 0) n (W:Int) p det (W:Int) (c:Int) (pvL pv) (qaz B0 R W)) ?_ (fun _ _ _=>rfl)⟩
    simp only[Z41.l0_succ _ qae,qaX,hlen,Int.toNat_natCast]
    rw[show List.take R (qaz B0 R W)=qaz B0 R W from List.take_of_length_le (by omega)]
    refine qaC (decide_eq_true (by omega)) (qao (by simp only[Bool.and_eq_true,decide_eq_true_eq];omega) (qaa hI (qaC rfl ?_)))
    rw[qad (by omega)]
    exact h'
   | some q =>
    rw[hf] at hI
    have hq:=qaM hf
    have e:elS p R A (c+1)=(elF p c pv.length (qcA pv.length q B0),pv++[c]):=by rw[hstep,elP];simp only[hf]
    generalize ht:pv.length=top at hI hq e hpl hpc
    have htR:top<R:=by omega
    have hqR:q<R:=by omega
    have hsw:=hB.sw htR hqR
    have hlead:1≤qcA top q B0 top c∧qcA top q B0 top c≤p-1:=by
     have h1:=hsw top c htR hc
     have h2:qcA top q B0 top c=B0 q c:=by simp[qcA]
     have h3:=hq.2.2
     rw[← h2] at h3
     omega
    have hI':Ret E n_Z109 [dLL ((qaz B0 R W).drop top),⟨.fn n_Z42 (.cons (.ptr (.cons (.int .i64) .nil)) .nil),(((c:Int),()),())⟩] ⟨o_Z109,(((q-top:Nat):Int),())⟩:=hI
    -- what lies behind the exchange
    have back:∀ det2,∃ det',Ev fun φ=>Z41.j1 (mkR (run E (φ 0))) (φ 0) (φ 1) (W:Int) p det2 (top:Int) (W:Int) (c:Int) (c:Int) (pvL pv) (qaz (qcA top q B0) R W)=some ⟨o_Z41,(pvL (elS p R A W).2,det',qaz (elS p R A W).1 R W,())⟩:=fun det2=>by
     generalize qcA top q B0=B at hsw hlead e
     obtain⟨det',h'⟩:=ih (c+1) (Int.tmod (w64 (det2*B top c)) p) (by omega)
     rw[e] at h'
     simp only at h'
     rw[ql8,← qrj] at h'
     have hBl:(qaz B R W).length=R:=qaA
     have hNin:∀ j,0≤elN p c top B j∧elN p c top B j≤p-1:=fun j=>qbQ hp.1
     have hinv:=qpn (a:=B top c) (p:=p) hp.1
     have hinvR:=qka (B top c) p hp ⟨by omega,hlead.2⟩
     have hgt:=qbd (A:=B) (W:=W) htR
     have hat:Ret E n_Z22 [dL (List.replicate W 0),dL ((List.range W).map (B top)),dI (qgT (B top c) p),dI p] ⟨o_Z22,((List.range W).map (elN p c top B),())⟩:=by
      have:=qdw (List.replicate W 0) ((List.range W).map (B top)) (qgT (B top c) p) p hp (by omega) (by simp) (by rw[List.length_replicate];exact hW) (fun x hx=>by rw[List.mem_replicate] at hx;omega) (qkQ hp.2 fun j hj=>hsw top j htR hj)
      rw[qle,qj8,← qle] at this
      have e2:((List.range W).map fun j=>(0+qgT (B top c) p*B top j)%p)=(List.range W).map (elN p c top B):=List.map_congr_left fun j _=>by
       rw[Int.zero_add,Int.mul_comm];rfl
      rw[e2] at this
      exact this
     have hset:(qaz B R W).set top ((List.range W).map (elN p c top B))=qaz (elK p c top 0 B) R W:=by
      rw[qfI,qqa];rfl
     refine⟨det',?_⟩
     -- the loop over the rows
     have loop:Ev fun φ=>Z41.j2 (mkR (run E (φ 0))) (φ 0) (φ 1) (W:Int) p (Int.tmod (w64 (det2*B top c)) p) (top:Int) (W:Int) (c:Int) (c:Int) (pvL pv) (qaz (elK p c top 0 B) R W)=some ⟨o_Z41,(pvL (elS p R A W).2,det',qaz (elS p R A W).1 R W,())⟩:=by
      simp only[Z41.j2_eq _ qae,qaA]
      generalize Int.tmod (w64 (det2*B top c)) p=D at h' ⊢
      refine Ev.start (p:=fun φ n=>Z41.l3 (mkR (run E (φ 0))) (φ 0) (φ 1) n (W:Int) p D (top:Int) (W:Int) (c:Int) (R:Int) 0 (c:Int) (pvL pv) (qaz (elK p c top 0 B) R W)=_) 2 ?_ (fun _ _ _ h=>h)
      refine qan 2 (L:=fun φ n i S=>Z41.l3 (mkR (run E (φ 0))) (φ 0) (φ 1) n (W:Int) p D (top:Int) (W:Int) (c:Int) (R:Int) i (c:Int) (pvL pv) S) (len:=R) (fun i=>qaz (elK p c top i B) R W) (fun _ _ _ _ _=>rfl) (fun i r hi ih2=>?_) ?_
      ·simp only[Z41.l3_succ _ qae,qaA,Int.toNat_natCast]
       have hrow:(qaz (elK p c top i B) R W)[i]? = some ((List.range W).map (elM p c top B i)):=by
        rw[qbd hi]
        have:elK p c top i B i=elM p c top B i:=funext fun j=>by simp[elK]
        rw[this]
       have htop:(qaz (elK p c top i B) R W)[top]? = some ((List.range W).map (elN p c top B)):=by
        rw[qbd htR]
        have:elK p c top i B top=elN p c top B:=funext fun j=>by simp[elK,elF,elM]
        rw[this]
       refine qaC (decide_eq_true (by omega)) (qao (by simp only[Bool.and_eq_true,decide_eq_true_eq];omega) (qac hrow ?_))
       by_cases hit:i=top
       ·subst hit
        refine qaI (by simp) ?_
        simp only[Z41.j4_eq _ qae,cond_false]
        have hsame:qaz (elK p c i (i+1) B) R W=qaz (elK p c i i B) R W:=qbO fun k j _ _=>by
         unfold elK
         by_cases h1:k=i
         ·subst h1;simp[elF,elM]
         ·by_cases h2:k<i
          ·rw[if_pos (by omega),if_pos h2]
          ·rw[if_neg (by omega),if_neg h2]
        rw[hsame] at ih2
        rw[qad (by omega)];exact ih2
       ·have hM:elM p c top B i=B i:=funext fun j=>by simp[elM,hit]
        rw[hM]
        have hBi:=hsw i c hi hc
        refine qaC (by simp;omega) (qac (qbh.trans (qfu hc)) ?_)
        by_cases hz:B i c=0
        ·simp only[hz,bne_self_eq_false,Z41.j4_eq _ qae,cond_false]
         have hsame:qaz (elK p c top (i+1) B) R W=qaz (elK p c top i B) R W:=qbO fun k j _ _=>by
          unfold elK
          by_cases h1:k=i
          ·subst h1;simp[elF,elM,hit,hz]
          ·by_cases h2:k<i
           ·rw[if_pos (by omega),if_pos h2]
           ·rw[if_neg (by omega),if_neg h2]
         rw[hsame] at ih2
         rw[qad (by omega)];exact ih2
        ·have hne:(B i c != 0)=true:=by simpa using hz
         have ec:w64 (p-B i c)=p-B i c:=qaf (by omega) (by omega)
         simp only[hne,Z41.j4_eq _ qae,cond_true,qaA,Int.toNat_natCast]
         refine qao (by simp only[Bool.and_eq_true,decide_eq_true_eq];omega) (qac htop (qac (qbh.trans (qfu hc)) ?_))
         simp only[ec]
         have hat2:=qdw ((List.range W).map (B i)) ((List.range W).map (elN p c top B)) (p-B i c) p hp (by omega) (by simp) (by simpa using hW) (qkQ hp.2 fun j hj=>hsw i j hi hj) (qkQ hp.2 fun j _=>hNin j)
         rw[qj8] at hat2
         refine qaa hat2 (qao (by simp only[Bool.and_eq_true,decide_eq_true_eq];omega) ?_)
         have hset2:(qaz (elK p c top i B) R W).set i ((List.range W).map fun j=>(B i j+(p-B i c)*elN p c top B j)%p)=qaz (elK p c top (i+1) B) R W:=by
          rw[qfI]
          refine qbO fun k j _ _=>?_
          unfold elK
          by_cases h1:k=i
          ·subst h1;simp[elF,hit,hz]
          ·by_cases h2:k<i
           ·rw[if_neg h1,if_pos h2,if_pos (by omega)]
           ·rw[if_neg h1,if_neg h2,if_neg (by omega)]
         rw[qad (by omega)]
         rw[← hset2] at ih2
         exact ih2
      ·simp only[Z41.l3_succ _ qae]
       refine qaI (decide_eq_false (by omega)) (qao (by simp only[qaX,List.length_cons,List.length_nil,decide_eq_true_eq];omega) ?_)
       rw[qad (by omega)]
       exact h'
     simp only[Z41.j1_eq _ qae,qaA,Int.toNat_natCast]
     have hck:(decide ((0:Int)≤(top:Int))&&decide ((top:Int)<(R:Int)))=true:=by simp only[Bool.and_eq_true,decide_eq_true_eq];omega
     have hcw:(decide ((0:Int)≤(W:Int))&&decide ((W:Int)*8≤70368744177664))=true:=by simp only[Bool.and_eq_true,decide_eq_true_eq];omega
     have fin:=loop
     rw[← hset] at fin
     exact qao hck (qac hgt (qac (qbh.trans (qfu hc)) (qao (by simp;omega) (qao hck (qac hgt (qbF (qao hcw (qaa hinvR (qaa hat (qao hck fin)))) (qaa hinvR (qao hcw (qaa hat (qao hck fin))))))))))
    by_cases hqt:q=top
    ·subst hqt
     obtain⟨det',h'⟩:=back det
     rw[qob] at h'
     refine⟨det',Ev.round 1 (L:=fun φ n=>Z41.l0 (mkR (run E (φ 0))) (φ 0) n (W:Int) p det (W:Int) (c:Int) (pvL pv) (qaz B0 R W)) ?_ (fun _ _ _=>rfl)⟩
     simp only[Z41.l0_succ _ qae,qaX,hlen,Int.toNat_natCast,ht]
     rw[show List.take R (qaz B0 R W)=qaz B0 R W from List.take_of_length_le (by omega)]
     refine qaC (decide_eq_true (by omega)) (qao (by simp only[Bool.and_eq_true,decide_eq_true_eq];omega) (qaa hI' ?_))
     rw[Nat.sub_self]
     exact qaI rfl (qaI rfl h')
    ·obtain⟨det',h'⟩:=back (qrt (w64 (0-det)) p)
     rw[← qpr htR hqR hqt] at h'
     refine⟨det',Ev.round 1 (L:=fun φ n=>Z41.l0 (mkR (run E (φ 0))) (φ 0) n (W:Int) p det (W:Int) (c:Int) (pvL pv) (qaz B0 R W)) ?_ (fun _ _ _=>rfl)⟩
     simp only[Z41.l0_succ _ qae,qaX,hlen,Int.toNat_natCast,ht]
     rw[show List.take R (qaz B0 R W)=qaz B0 R W from List.take_of_length_le (by omega)]
     have e3:w64 ((top:Int)+((q-top:Nat):Int))=(q:Int):=by rw[qaf (by omega) (by omega)];omega
     refine qaC (decide_eq_true (by omega)) (qao (by simp only[Bool.and_eq_true,decide_eq_true_eq];omega) (qaa hI' (qaI (decide_eq_false (Int.not_lt.2 (Int.natCast_nonneg _))) (qaC (decide_eq_true (by show(0:Int)<((q-top:Nat):Int);omega)) ?_))))
     simp only[e3,Int.toNat_natCast,List.length_set,hlen]
     have hck:(decide ((0:Int)≤(top:Int))&&decide ((top:Int)<(R:Int)))=true:=by simp only[Bool.and_eq_true,decide_eq_true_eq];omega
     have hckq:(decide ((0:Int)≤(q:Int))&&decide ((q:Int)<(R:Int)))=true:=by simp only[Bool.and_eq_true,decide_eq_true_eq];omega
     exact qao hckq (qac (qbd hqR) (qao hck (qac (qbd htR) (qao hck (qao hckq (qaa (qi7 (w64 (0-det)) p hp.1) h'))))))
 obtain⟨det',h⟩:=key W 0 1 (by omega)
 refine⟨det',qaj ?_⟩
 simp only[run_Z41,Z41.ev]
 exact Ev.start (p:=fun φ n=>Z41.l0 (mkR (run E (φ 0))) (φ 0) n (W:Int) p 1 (W:Int) 0 [] (qaz A R W)=_) 1 h (fun _ _ _ h=>h)
end VeT
open Go Go.Proofs Ve
namespace VeT
theorem qgq{i W j:Nat}(h:i*W+j≤4611686018427387904):w64 (w64 ((i:Int)*(W:Int))+(j:Int))=((i*W+j:Nat):Int):=by
 rw[qa0,qaf (n:=((i*W:Nat):Int)) (by omega) (by omega),qaf (by omega) (by omega)];omega
theorem qdx{A:Ent}{R W i j:Nat}(hi:i<R)(hj:j<W)(hRW:R*W≤1048576):(decide ((0:Int)≤((i*W+j:Nat):Int))&&decide (((i*W+j:Nat):Int)<((qar A W R).length:Int)))=true∧(qar A W R)[i*W+j]? = some (A i j):=by
 have:=qe4 hi hj
 refine⟨?_,qce hi hj⟩
 simp only[Bool.and_eq_true,decide_eq_true_eq,qaq];omega
theorem qff(p:Int)(R W:Nat)(cells:Sim)(hp:2≤p∧p≤251)(hR:R≤1048576)(hW:W≤1048576)(hRW:R*W≤1048576)(hl:cells.length=R*W)(he:qax cells p) :
    ∃ det:Int,Ret E n_Z144 [dM (p,(R:Int),(W:Int),cells,())] ⟨o_Z144,(p,(R:Int),(W:Int),qar (elS p R (qbJ cells W) W).1 W R,pvL (elS p R (qbJ cells W) W).2,det,())⟩:=by
  generalize hMt:(p,(R:Int),(W:Int),cells,())=M
  have M1:M.1=p:=by rw[← hMt]
  have M2:M.2.1=(R:Int):=by rw[← hMt]
  have M3:M.2.2.1=(W:Int):=by rw[← hMt]
  have M4:M.2.2.2.1=cells:=by rw[← hMt]
  have hA:=qcu he hl
  have hfl:=qfV hl
  generalize qbJ cells W=A at hA hfl
  let G:Int→Option Dv:=fun det=>some ⟨o_Z144,(p,(R:Int),(W:Int),qar (elS p R A W).1 W R,pvL (elS p R A W).2,det,())⟩
  -- a column where no row is left
  have none_of:∀ c,(elS p R A c).2.length=R→elS p R A (c+1)=elS p R A c:=fun c h=>by
    show elP p R c (elS p R A c)=_
    rw[elP,h,Nat.sub_self];rfl
  have stay:∀ d c,c+d=W→(elS p R A c).2.length=R→elS p R A W=elS p R A c:=by
    intro d
    induction d with
    | zero=>intro c hc _;rw[show c=W by omega]
    | succ d ih =>
      intro c hc h
      have e:=none_of c h
      rw[ih (c+1) (by omega) (by rw[e];exact h),e]
  have key:∀ d c det,c+d=W→∃ det':Int,Ev fun φ=>Z144.l1 (mkR (run E (φ 0))) (φ 0) (φ 1) M p (W:Int) det ((elS p R A c).2.length:Int) (c:Int) 0 0 0 p (R:Int) (W:Int) (pvL (elS p R A c).2) (qar (elS p R A c).1 W R)=G det':=by
    intro d
    induction d with
    | zero =>
      intro c det hc
      obtain rfl:c=W:=by omega
      refine⟨det,Ev.round 1 (L:=fun φ n=>Z144.l1 (mkR (run E (φ 0))) (φ 0) n M p (c:Int) det ((elS p R A c).2.length:Int) (c:Int) 0 0 0 p (R:Int) (c:Int) (pvL (elS p R A c).2) (qar (elS p R A c).1 c R)) ?_ (fun _ _ _=>rfl)⟩
      simp only[Z144.l1_succ _ qae,Z144.j2_eq _ qae,cond_false]
      exact qaI (decide_eq_false (by omega)) qal
    | succ d ih =>
      intro c det hcd
      have hc:c<W:=by omega
      obtain⟨hB,hpl,hpc,_⟩:=qew hp.1 hA c
      have hstep:elS p R A (c+1)=elP p R c (elS p R A c):=rfl
      by_cases hfull:(elS p R A c).2.length=R
      · refine⟨det,Ev.round 1 (L:=fun φ n=>Z144.l1 (mkR (run E (φ 0))) (φ 0) n M p (W:Int) det ((elS p R A c).2.length:Int) (c:Int) 0 0 0 p (R:Int) (W:Int) (pvL (elS p R A c).2) (qar (elS p R A c).1 W R)) ?_ (fun _ _ _=>rfl)⟩
        simp only[Z144.l1_succ _ qae,M2,hfull,show decide ((R:Int)<(R:Int))=false from decide_eq_false (by omega),Z144.j2_eq _ qae,cond_false]
        refine qaC (decide_eq_true (by omega)) (qah ?_)
        show _=some _
        rw[stay (d+1) c hcd hfull]
      · have htR:(elS p R A c).2.length<R:=by omega
        generalize hS:elS p R A c=S at hB hpl hpc hstep hfull htR
        obtain⟨B0,pv⟩:=S
        simp only at hB hpl hpc hstep hfull htR
        generalize ht:pv.length=top at hpl hpc hfull htR
        -- what lies behind the exchange
        have back:∀ q,top≤q→q<R→B0 q c≠0→elS p R A (c+1)=(elF p c top (qcA top q B0),pv++[c])→∀ det2,∃ det',Ev fun φ=>Z144.j6 (mkR (run E (φ 0))) (φ 0) (φ 1) M p (W:Int) det2 (top:Int) (c:Int) 0 0 0 p (R:Int) (W:Int) (pvL pv) (qar (qcA top q B0) W R)=G det':=fun q hq1 hqR hq2 e det2=>by
          have hsw:=hB.sw htR hqR
          have hlead:1≤qcA top q B0 top c∧qcA top q B0 top c≤p-1:=by
            have h1:=hsw top c htR hc
            have h2:qcA top q B0 top c=B0 q c:=by simp[qcA]
            rw[← h2] at hq2
            omega
          generalize qcA top q B0=B at hsw hlead e
          obtain⟨det',h'⟩:=ih (c+1) (Int.tmod (w64 (det2*B top c)) p) (by omega)
          rw[e] at h'
          simp only at h'
          rw[ql8,List.length_append,List.length_singleton,ht] at h'
          have hNin:∀ j,0≤elN p c top B j∧elN p c top B j≤p-1:=fun j=>qbQ hp.1
          have hinv:=qpn (a:=B top c) (p:=p) hp.1
          have hinvR:=qiL (B top c) p hp ⟨by omega,hlead.2⟩
          have hidx:∀ i j,i<R→j<W→i*W+j≤4611686018427387904:=fun i j hi hj=>by have:=qe4 hi hj;omega
          refine⟨det',?_⟩
          simp only[Z144.j6_eq _ qae,qgq (hidx top c htR hc),Int.toNat_natCast]
          obtain⟨k1,k2⟩:=qdx (A:=B) htR hc hRW
          refine qao k1 (qac k2 (qao (by simp;omega) (qaa hinvR ?_)))
          generalize Int.tmod (w64 (det2*B top c)) p=D at h' ⊢
          -- the loop that scales the row
          let N:Nat→Ent:=fun n i j=>if i=top∧j<n then elN p c top B j else B i j
          have hN0:qar (N 0) W R=qar B W R:=qaJ fun i j _ _=>by simp[N]
          have hNW:qar (N W) W R=qar (elM p c top B) W R:=qaJ fun i j _ hj=>by
            simp only[N,elM,hj,and_true]
          rw[← hN0]
          refine Ev.start (p:=fun φ n=>Z144.l7 (mkR (run E (φ 0))) (φ 0) (φ 1) n M p (W:Int) D (top:Int) (c:Int) (qgT (B top c) p) 0 0 0 0 p (R:Int) (W:Int) (pvL pv) (qar (N 0) W R)=_) 2 ?_ (fun _ _ _ h=>h)
          refine qan 2 (L:=fun φ n j o=>Z144.l7 (mkR (run E (φ 0))) (φ 0) (φ 1) n M p (W:Int) D (top:Int) (c:Int) (qgT (B top c) p) j 0 0 0 p (R:Int) (W:Int) (pvL pv) o) (len:=W) (fun j=>qar (N j) W R) (fun _ _ _ _ _=>rfl) (fun j r hj ih2=>?_) ?_
          · simp only[Z144.l7_succ _ qae,qgq (hidx top j htR hj),Int.toNat_natCast]
            obtain⟨k1,k2⟩:=qdx (A:=N j) htR hj hRW
            have hNj:N j top j=B top j:=by simp[N]
            rw[hNj] at k2
            have hb:=hsw top j htR hj
            have ev:=qo5 (x:=B top j) (y:=qgT (B top c) p) (p:=p) (by omega) (by omega) hp
            have hset:(qar (N j) W R).set (top*W+j) (B top j*qgT (B top c) p%p)=qar (N (j+1)) W R:=by
              rw[qdf htR hj]
              refine qaJ fun k l _ _=>?_
              simp only[N]
              by_cases h1:k=top
              · subst h1
                by_cases h2:l=j
                · subst h2;simp[elN]
                · simp only[true_and,h2,if_false,and_false]
                  by_cases h3:l<j
                  · rw[if_pos h3,if_pos (by omega)]
                  · rw[if_neg h3,if_neg (by omega)]
              · simp[h1]
            refine qaC (decide_eq_true (by omega)) (qao k1 (qac k2 (qao (by simp;omega) (qao k1 ?_))))
            simp only[ev]
            rw[qad (by omega),hset];exact ih2
          · simp only[Z144.l7_succ _ qae]
            refine qaI (decide_eq_false (by omega)) ?_
            rw[hNW]
            -- the loop over the rows
            let K:Nat→Ent:=fun n i j=>if i<n then elF p c top B i j else elM p c top B i j
            have hK0:qar (K 0) W R=qar (elM p c top B) W R:=qaJ fun i j _ _=>by simp[K]
            have hKR:qar (K R) W R=qar (elF p c top B) W R:=qaJ fun i j hi _=>by simp[K,hi]
            rw[← hK0]
            refine Ev.start (p:=fun φ n=>Z144.l8 (mkR (run E (φ 0))) (φ 0) (φ 1) n M p (W:Int) D (top:Int) (c:Int) 0 0 0 0 p (R:Int) (W:Int) (pvL pv) (qar (K 0) W R)=_) 3 ?_ (fun _ _ _ h=>h)
            refine qan 3 (L:=fun φ n i o=>Z144.l8 (mkR (run E (φ 0))) (φ 0) (φ 1) n M p (W:Int) D (top:Int) (c:Int) i 0 0 0 p (R:Int) (W:Int) (pvL pv) o) (len:=R) (fun i=>qar (K i) W R) (fun _ _ _ _ _=>rfl) (fun i r hi ih2=>?_) ?_
            · simp only[Z144.l8_succ _ qae,M2,qgq (hidx i c hi hc),Int.toNat_natCast]
              obtain⟨k1,k2⟩:=qdx (A:=K i) hi hc hRW
              refine qaC (decide_eq_true (by omega)) (qao k1 (qac k2 ?_))
              by_cases hit:i=top
              · subst hit
                refine qaC (by simp) ?_
                simp only[Z144.j9_eq _ qae,cond_true]
                have hsame:qar (K (i+1)) W R=qar (K i) W R:=qaJ fun k j _ _=>by
                  simp only[K]
                  by_cases h1:k=i
                  · subst h1;simp[elF,elM]
                  · by_cases h2:k<i
                    · rw[if_pos (by omega),if_pos h2]
                    · rw[if_neg (by omega),if_neg h2]
                rw[hsame] at ih2
                rw[qad (by omega)];exact ih2
              · have hM:∀ j,K i i j=B i j:=fun j=>by simp[K,elM,hit]
                rw[hM]
                have hBi:=hsw i c hi hc
                refine qaI (by simp;omega) ?_
                by_cases hz:B i c=0
                · simp only[hz,beq_self_eq_true,Z144.j9_eq _ qae,cond_true]
                  have hsame:qar (K (i+1)) W R=qar (K i) W R:=qaJ fun k j _ _=>by
                    simp only[K]
                    by_cases h1:k=i
                    · subst h1;simp[elF,elM,hit,hz]
                    · by_cases h2:k<i
                      · rw[if_pos (by omega),if_pos h2]
                      · rw[if_neg (by omega),if_neg h2]
                  rw[hsame] at ih2
                  rw[qad (by omega)];exact ih2
                · have hne:(B i c==0)=false:=by simpa using hz
                  simp only[hne,Z144.j9_eq _ qae,cond_false]
                  let Q:Nat→Ent:=fun n k j=>if k=i∧j<n then elF p c top B i j else K i k j
                  have hQ0:qar (Q 0) W R=qar (K i) W R:=qaJ fun k j _ _=>by simp[Q]
                  have hQW:qar (Q W) W R=qar (K (i+1)) W R:=qaJ fun k j _ hj=>by
                    simp only[Q,K,hj,and_true]
                    by_cases h1:k=i
                    · subst h1;simp
                    · by_cases h2:k<i
                      · rw[if_neg h1,if_pos h2,if_pos (by omega)]
                      · rw[if_neg h1,if_neg h2,if_neg (by omega)]
                  rw[← hQ0]
                  refine Ev.start (p:=fun φ n=>Z144.l10 (mkR (run E (φ 0))) (φ 0) (φ 1) (φ 3) n M p (W:Int) D (top:Int) (c:Int) (i:Int) (B i c) 0 0 0 0 p (R:Int) (W:Int) (pvL pv) (qar (Q 0) W R)=_) 4 ?_ (fun _ _ _ h=>h)
                  refine qan 4 (L:=fun φ n j o=>Z144.l10 (mkR (run E (φ 0))) (φ 0) (φ 1) (φ 3) n M p (W:Int) D (top:Int) (c:Int) (i:Int) (B i c) j 0 0 0 p (R:Int) (W:Int) (pvL pv) o) (len:=W) (fun j=>qar (Q j) W R) (fun _ _ _ _ _=>rfl) (fun j r2 hj ih3=>?_) ?_
                  · simp only[Z144.l10_succ _ qae,qgq (hidx i j hi hj),qgq (hidx top j htR hj),Int.toNat_natCast]
                    obtain⟨k1,k2⟩:=qdx (A:=Q j) hi hj hRW
                    obtain⟨k3,k4⟩:=qdx (A:=Q j) htR hj hRW
                    have q1:Q j i j=B i j:=by simp only[Q,Nat.lt_irrefl,and_false,if_false];exact hM j
                    have q2:Q j top j=elN p c top B j:=by
                      have:¬ top=i:=fun e=>hit e.symm
                      simp[Q,K,this,elF,elM]
                    rw[q1] at k2
                    rw[q2] at k4
                    have hbij:=hsw i j hi hj
                    have hnj:=hNin j
                    have hm:=qfb (x:=B i c) (y:=elN p c top B j) (by omega) (by omega)
                    have e1:w64 (B i c*elN p c top B j)=B i c*elN p c top B j:=qaf (by omega) (by omega)
                    have e2:w64 (B i j-B i c*elN p c top B j)=B i j-B i c*elN p c top B j:=qaf (by omega) (by omega)
                    have e3:qrt (B i j-B i c*elN p c top B j) p=elF p c top B i j:=by
                      rw[qoT hp (by omega)]
                      unfold elF
                      rw[if_neg hit,if_pos hz]
                      have:B i j+(p-B i c)*elN p c top B j=B i j-B i c*elN p c top B j+p*elN p c top B j:=by rw[Int.sub_mul];omega
                      rw[this,Int.add_mul_emod_self_left]
                    have hmod:=qnV (B i j-B i c*elN p c top B j) p hp.1
                    rw[e3] at hmod
                    have hset:(qar (Q j) W R).set (i*W+j) (elF p c top B i j)=qar (Q (j+1)) W R:=by
                      rw[qdf hi hj]
                      refine qaJ fun k l _ _=>?_
                      simp only[Q]
                      by_cases h1:k=i
                      · subst h1
                        by_cases h2:l=j
                        · subst h2;simp
                        · simp only[true_and,h2,if_false,and_false]
                          by_cases h3:l<j
                          · rw[if_pos h3,if_pos (by omega)]
                          · rw[if_neg h3,if_neg (by omega)]
                      · simp[h1]
                    refine qaC (decide_eq_true (by omega)) (qao k1 (qac k2 (qao k3 (qac k4 ?_))))
                    simp only[e1,e2]
                    refine qaa hmod (qao k1 ?_)
                    rw[qad (by omega)]
                    rw[← hset] at ih3
                    exact ih3
                  · simp only[Z144.l10_succ _ qae]
                    refine qaI (decide_eq_false (by omega)) ?_
                    rw[qad (by omega),hQW];exact ih2
            · simp only[Z144.l8_succ _ qae,M2]
              refine qaI (decide_eq_false (by omega)) (qao (by simp only[qaX,List.length_cons,List.length_nil,decide_eq_true_eq];omega) ?_)
              rw[qad (by omega),qad (by omega),hKR]
              exact h'
        have hidx:∀ i j,i<R→j<W→i*W+j≤4611686018427387904:=fun i j hi hj=>by have:=qe4 hi hj;omega
        -- the search for the row
        have search:∀ rs:Nat→Option Dv,∀ rn:Option Dv,(∀ q,top≤q→q<R→B0 q c≠0→(∀ i,top≤i→i<q→¬ B0 i c≠0)→Ev fun φ=>Z144.j4 (mkR (run E (φ 0))) (φ 0) (φ 1) (φ 2) M p (W:Int) det (top:Int) (c:Int) (q:Int) false 0 0 0 p (R:Int) (W:Int) (pvL pv) (qar B0 W R)=rs q) →
            ((∀ i,top≤i→i<R→¬ B0 i c≠0)→Ev fun φ=>Z144.j4 (mkR (run E (φ 0))) (φ 0) (φ 1) (φ 2) M p (W:Int) det (top:Int) (c:Int) (R:Int) false 0 0 0 p (R:Int) (W:Int) (pvL pv) (qar B0 W R)=rn) →
            Ev fun φ=>Z144.l3 (mkR (run E (φ 0))) (φ 0) (φ 1) (φ 0) M p (W:Int) det (top:Int) (c:Int) (top:Int) 0 0 0 p (R:Int) (W:Int) (pvL pv) (qar B0 W R)=orN rs rn (qa2 (fun i=>B0 i c≠0) top (R-top)):=fun rs rn hs hn=>by
          refine Ev.start (p:=fun φ n=>Z144.l3 (mkR (run E (φ 0))) (φ 0) (φ 1) n M p (W:Int) det (top:Int) (c:Int) (top:Int) 0 0 0 p (R:Int) (W:Int) (pvL pv) (qar B0 W R)=_) 2 ?_ (fun _ _ _ h=>h)
          -- the first one is kept in mind by the number of the round
          have go:∀ d a,top≤a→a+d=R→(∀ i,top≤i→i<a→¬ B0 i c≠0)→Ev fun φ=>Z144.l3 (mkR (run E (φ 0))) (φ 0) (φ 1) (φ 2) M p (W:Int) det (top:Int) (c:Int) (a:Int) 0 0 0 p (R:Int) (W:Int) (pvL pv) (qar B0 W R)=orN rs rn (qa2 (fun i=>B0 i c≠0) a d):=by
            intro d
            induction d with
            | zero =>
              intro a ha hk hno
              obtain rfl:a=R:=by omega
              refine Ev.round 2 (L:=fun φ n=>Z144.l3 (mkR (run E (φ 0))) (φ 0) (φ 1) n M p (W:Int) det (top:Int) (c:Int) (a:Int) 0 0 0 p (a:Int) (W:Int) (pvL pv) (qar B0 W a)) ?_ (fun _ _ _=>rfl)
              simp only[Z144.l3_succ _ qae,M2]
              exact qaI (decide_eq_false (by omega)) (hn hno)
            | succ d ih3 =>
              intro a ha hk hno
              have haR:a<R:=by omega
              refine Ev.round 2 (L:=fun φ n=>Z144.l3 (mkR (run E (φ 0))) (φ 0) (φ 1) n M p (W:Int) det (top:Int) (c:Int) (a:Int) 0 0 0 p (R:Int) (W:Int) (pvL pv) (qar B0 W R)) ?_ (fun _ _ _=>rfl)
              simp only[Z144.l3_succ _ qae,M2,qgq (hidx a c haR hc),Int.toNat_natCast]
              obtain⟨k1,k2⟩:=qdx (A:=B0) haR hc hRW
              refine qaC (decide_eq_true (by omega)) (qao k1 (qac k2 ?_))
              rw[qa2]
              by_cases hz:B0 a c=0
              · rw[if_neg (by simpa using hz)]
                simp only[hz,beq_self_eq_true,Z144.j4_eq _ qae,cond_true]
                rw[qad (by omega)]
                refine ih3 (a+1) (by omega) (by omega) fun i h1 h2=>?_
                by_cases e:i=a
                · subst e;simpa using hz
                · exact hno i h1 (by omega)
              · rw[if_pos hz]
                have hne:(B0 a c==0)=false:=by simpa using hz
                simp only[hne]
                exact hs a ha haR hz hno
          exact go (R-top) top (Nat.le_refl _) (by omega) fun i h1 h2=>by omega
        have enter:∀ r,(Ev fun φ=>Z144.l3 (mkR (run E (φ 0))) (φ 0) (φ 1) (φ 0) M p (W:Int) det (top:Int) (c:Int) (top:Int) 0 0 0 p (R:Int) (W:Int) (pvL pv) (qar B0 W R)=r)→Ev fun φ=>Z144.l1 (mkR (run E (φ 0))) (φ 0) (φ 1) M p (W:Int) det (top:Int) (c:Int) 0 0 0 p (R:Int) (W:Int) (pvL pv) (qar B0 W R)=r:=fun r hr=>by
          refine Ev.round 1 (L:=fun φ n=>Z144.l1 (mkR (run E (φ 0))) (φ 0) n M p (W:Int) det (top:Int) (c:Int) 0 0 0 p (R:Int) (W:Int) (pvL pv) (qar B0 W R)) ?_ (fun _ _ _=>rfl)
          simp only[Z144.l1_succ _ qae,M2,show decide ((top:Int)<(R:Int))=true from decide_eq_true (by omega),Z144.j2_eq _ qae,cond_true]
          exact qaC (decide_eq_true (by omega)) hr
        cases hf:qa2 (fun i=>B0 i c≠0) top (R-top) with
        | none =>
          have e:elS p R A (c+1)=(B0,pv):=by rw[hstep,elP];simp only[ht,hf]
          obtain⟨det',h'⟩:=ih (c+1) det (by omega)
          rw[e] at h'
          simp only[ht] at h'
          refine⟨det',enter _ ?_⟩
          have:=search (fun _=>G det') (G det') (fun q h1 h2 h3 _=>absurd h3 (qc9 hf q h1 (by omega))) fun _=>by
            simp only[Z144.j4_eq _ qae,cond_false,M2]
            refine qaC (by simp) ?_
            rw[qad (by omega)];exact h'
          rw[hf] at this
          exact this
        | some q =>
          have hq:=qaM hf
          have hqR:q<R:=by omega
          have e:elS p R A (c+1)=(elF p c top (qcA top q B0),pv++[c]):=by rw[hstep,elP];simp only[ht,hf]
          by_cases hqt:q=top
          · subst hqt
            obtain⟨det',h'⟩:=back q (Nat.le_refl _) hqR hq.2.2 e det
            have hself:qar (qcA q q B0) W R=qar B0 W R:=qaJ fun i j _ _=>by
              unfold qcA
              by_cases h:i=q
              · subst h;simp
              · simp[h]
            rw[hself] at h'
            refine⟨det',enter _ ?_⟩
            have:=search (fun _=>G det') (G det') (fun q' h1 h2 h3 h4=>by
              obtain rfl:q'=q:=Classical.byContradiction fun hne=>h4 q (Nat.le_refl _) (by omega) hq.2.2
              simp only[Z144.j4_eq _ qae,cond_false,M2]
              exact qaI (by simp;omega) (qaI (by simp) h')) fun hno=>absurd hq.2.2 (hno q (Nat.le_refl _) hqR)
            rw[hf] at this
            exact this
          · obtain⟨det',h'⟩:=back q hq.1 hqR hq.2.2 e (w64 (p-det))
            refine⟨det',enter _ ?_⟩
            have:=search (fun _=>G det') (G det') (fun q' h1 h2 h3 h4=>by
              obtain rfl:q'=q:=by
                rcases Nat.lt_trichotomy q' q with h | h | h
                · exact absurd h3 (qeX hf q' h1 h)
                · exact h
                · exact absurd hq.2.2 (h4 q hq.1 h)
              simp only[Z144.j4_eq _ qae,cond_false,M2]
              refine qaI (by simp;omega) (qaC (by simp;omega) ?_)
              -- the loop that exchanges the rows
              let X:Nat→Ent:=fun n i j=>if j<n then qcA top q' B0 i j else B0 i j
              have hX0:qar (X 0) W R=qar B0 W R:=qaJ fun i j _ _=>by simp[X]
              have hXW:qar (X W) W R=qar (qcA top q' B0) W R:=qaJ fun i j _ hj=>by simp[X,hj]
              rw[← hX0]
              refine Ev.start (p:=fun φ n=>Z144.l5 (mkR (run E (φ 0))) (φ 0) (φ 1) n M p (W:Int) (w64 (p-det)) (top:Int) (c:Int) (q':Int) 0 0 0 0 p (R:Int) (W:Int) (pvL pv) (qar (X 0) W R)=_) 3 ?_ (fun _ _ _ h=>h)
              refine qan 3 (L:=fun φ n j o=>Z144.l5 (mkR (run E (φ 0))) (φ 0) (φ 1) n M p (W:Int) (w64 (p-det)) (top:Int) (c:Int) (q':Int) j 0 0 0 p (R:Int) (W:Int) (pvL pv) o) (len:=W) (fun j=>qar (X j) W R) (fun _ _ _ _ _=>rfl) (fun j r hj ih3=>?_) ?_
              · simp only[Z144.l5_succ _ qae,qgq (hidx q' j hqR hj),qgq (hidx top j htR hj),Int.toNat_natCast,List.length_set]
                obtain⟨k1,k2⟩:=qdx (A:=X j) hqR hj hRW
                obtain⟨k3,k4⟩:=qdx (A:=X j) htR hj hRW
                have x1:X j q' j=B0 q' j:=by simp[X]
                have x2:X j top j=B0 top j:=by simp[X]
                rw[x1] at k2
                rw[x2] at k4
                have hset:((qar (X j) W R).set (q'*W+j) (B0 top j)).set (top*W+j) (B0 q' j)=qar (X (j+1)) W R:=by
                  rw[qdf hqR hj,qdf htR hj]
                  refine qaJ fun k l _ _=>?_
                  simp only[X]
                  by_cases hl:l=j
                  · subst hl
                    by_cases hk1:k=top
                    · subst hk1;simp[qcA]
                    · by_cases hk2:k=q'
                      · subst hk2;simp[qcA,hk1]
                      · simp[qcA,hk1,hk2]
                  · simp only[hl,and_false,if_false]
                    by_cases h3:l<j
                    · rw[if_pos h3,if_pos (by omega)]
                    · rw[if_neg h3,if_neg (by omega)]
                refine qaC (decide_eq_true (by omega)) (qao k1 (qac k2 (qao k3 (qac k4 (qao k1 (qao k3 ?_))))))
                rw[qad (by omega),hset];exact ih3
              · simp only[Z144.l5_succ _ qae]
                refine qaI (decide_eq_false (by omega)) ?_
                rw[hXW];exact h') fun hno=>absurd hq.2.2 (hno q hq.1 hqR)
            rw[hf] at this
            exact this
  obtain⟨det',h⟩:=key W 0 1 (by omega)
  refine⟨det',qaj ?_⟩
  have h0:qar (elS p R A 0).1 W R=cells:=hfl
  rw[h0] at h
  simp only[run_Z144,Z144.ev,Z144.j0_eq _ qae,M1,M2,M3,M4]
  have own:=qc1 cells (by omega)
  have st:=Ev.start (p:=fun φ n=>Z144.l1 (mkR (run E (φ 0))) (φ 0) n M p (W:Int) 1 0 0 0 0 0 p (R:Int) (W:Int) [] cells=G det') 1 h (fun _ _ _ h=>h)
  exact qbF (qaa own st) (qaa own st)
end VeT
open Go Go.Proofs Ve
namespace VeT
theorem qlY{cells:Sim}{R C i:Nat}(hl:cells.length=R*C)(hi:i<R):(cells.take ((i+1)*C)).drop (i*C)=(List.range C).map (qbJ cells C i):=by
 have h:=qkT (f:=qbJ cells C) (C:=C) hi
 rw[qfV hl] at h
 exact h
theorem qhC(p:Int)(R C:Nat)(cells:Sim)(hl:cells.length=R*C)(hR:R≤1048576)(hC:C≤1048576)(hRC:R*C≤1048576):Ret E n_Z74 [dI p,dI (R:Int),dI (C:Int),dL cells] ⟨o_Z74,(qaz (qbJ cells C) R C,())⟩:=by
 refine qaj ?_
 simp only[run_Z74,Z74.ev]
 refine Ev.start (p:=fun φ n=>Z74.l0 (mkR (run E (φ 0))) (φ 0) n (R:Int) 0 p (R:Int) (C:Int) cells []=_) 1 ?_ (fun _ _ _ h=>h)
 refine qan 1 (L:=fun φ n k a=>Z74.l0 (mkR (run E (φ 0))) (φ 0) n (R:Int) k p (R:Int) (C:Int) cells a) (len:=R) (fun k=>qaz (qbJ cells C) k C) (fun _ _ _ _ _=>rfl) (fun k r hk ih=>?_) ?_
 ·simp only[Z74.l0_succ _ qae]
  have hle:(k+1)*C≤R*C:=Nat.mul_le_mul_right _ hk
  have e:qaz (qbJ cells C) (k+1) C=qaz (qbJ cells C) k C++[(List.range C).map (qbJ cells C k)]:=by
   unfold qaz;rw[List.range_succ,List.map_append];rfl
  rw[e,← qlY hl hk] at ih
  refine qaC (decide_eq_true (by omega)) (qaa (qdX p _ C cells k (by omega) (by omega) (by omega)) (qaa (qh1 _ (by rw[List.length_drop,List.length_take];omega)) (qao (by simp[qaA];omega) ?_)))
  rw[qad (by omega)];exact ih
 ·simp only[Z74.l0_succ _ qae]
  exact qaI (decide_eq_false (by omega)) qal
theorem qla(p n:Int)(rows:List Sim)(h1:rows.length≤1048576)(h2:rows.flatten.length≤1048576):Ret E n_Z66 [dI p,dI n,dLL rows] ⟨o_Z66,(p,(rows.length:Int),n,rows.flatten,())⟩:=by
 refine qaj ?_
 simp only[run_Z66,Z66.ev]
 exact qaa (qlq rows) (qaa (qjA rows h1 h2) qal)
def qrU(p:Int)(pv:List Nat)(F:Ent)(c n:Nat):St:=(List.range n).map fun i=>(pv.getD i 0,(0-F i c)%p)
def qkO(p:Int)(W:Nat)(pv:List Nat)(F:Ent)(c n:Nat):Sim:=qdz (qrU p pv F c n) ((List.replicate W 0).set c 1)
open Classical in
noncomputable def qlW(p:Int)(W:Nat)(pv:List Nat)(F:Ent):Nat→List Sim
 | 0=>[]
 | c+1=>qlW p W pv F c++if c∈pv then [] else [qkO p W pv F c pv.length]
theorem qeC{p:Int}{W:Nat}{pv:List Nat}{F:Ent}{c n:Nat}:qkO p W pv F c (n+1)=(qkO p W pv F c n).set (pv.getD n 0) ((0-F n c)%p):=by
 unfold qkO qrU
 rw[List.range_succ,List.map_append,qdh];rfl
theorem qcz{p:Int}{W:Nat}{pv:List Nat}{F:Ent}{c n:Nat}:(qkO p W pv F c n).length=W:=by
 unfold qkO;rw[qbi,List.length_set,List.length_replicate]
theorem qfl{p:Int}{W:Nat}{pv:List Nat}{F:Ent}:∀ {n:Nat},(qlW p W pv F n).length≤n
 | 0=>by simp[qlW]
 | n+1=>by
  have:=qfl (p:=p) (W:=W) (pv:=pv) (F:=F) (n:=n)
  rw[qlW,List.length_append];split<;>simp<;>omega
theorem qm3{p:Int}{W:Nat}{pv:List Nat}{F:Ent}(hp:2≤p):∀ {n:Nat} {x:Sim},x∈qlW p W pv F n→x.length=W∧qax x p
 | 0,x,h=>by simp[qlW] at h
 | n+1,x,h=>by
  rw[qlW,List.mem_append] at h
  rcases h with h | h
  ·exact qm3 hp h
  ·split at h
   ·simp at h
   ·rw[List.mem_singleton] at h
    subst h
    refine⟨qcz,qiR (fun y hy=>?_) fun q hq=>?_⟩
    ·rcases List.mem_or_eq_of_mem_set hy with hy | rfl
     ·rw[List.mem_replicate] at hy;omega
     ·omega
    ·obtain⟨i,_,rfl⟩:=List.mem_map.1 hq
     exact qbQ hp
theorem qou{l:List Nat}{c:Nat}:(c:Int)∈pvL l↔c∈l:=by
  unfold pvL
  rw[List.mem_map]
  exact ⟨fun ⟨a, h, e⟩ => by obtain rfl : a = c := by omega
                             exact h,fun h=>⟨c,h,rfl⟩⟩
theorem qmx{l:List Nat}{i:Nat}(hi:i<l.length):(pvL l)[i]? = some ((l.getD i 0:Nat):Int):=by
 unfold pvL
 rw[List.getElem?_map,List.getElem?_eq_getElem hi,qag hi];rfl
theorem qeQ{l:List Nat}{i:Nat}(hi:i<l.length):l.getD i 0∈l:=by
 rw[qag hi];exact List.getElem_mem hi
noncomputable def qrr(p:Int)(R W:Nat)(cells:Sim):List Sim:=qlW p W (elS p R (qbJ cells W) W).2 (elS p R (qbJ cells W) W).1 W
theorem qnR(p:Int)(R W:Nat)(cells:Sim)(hp:2≤p∧p≤251)(hR:R≤1048576)(hW:W≤1048576)(hRW:R*W≤1048576)(hl:cells.length=R*W)(he:qax cells p) :
  Ret E n_Z65 [dI p,dI (R:Int),dI (W:Int),dL cells] ⟨o_Z65,(qrr p R W cells,())⟩:=by
 have hA:=qcu he hl
 obtain⟨det,hel⟩:=qdZ (qbJ cells W) R W p hp hR hW hA
 obtain⟨hF,hpl,hpc,hpv⟩:=qew hp.1 hA W
 refine qaj ?_
 simp only[run_Z65,Z65.ev]
 refine qaa (qhC p R W cells hl hR hW hRW) (qaa hel ?_)
 unfold qrr
 generalize elS p R (qbJ cells W) W=S at hF hpl hpc hpv
 obtain⟨F,pv⟩:=S
 simp only at hF hpl hpc hpv
 refine Ev.start (p:=fun φ n=>Z65.l0 (mkR (run E (φ 0))) (φ 0) n (pvL pv) (W:Int) 0 p (R:Int) (W:Int) cells [] (qaz F R W)=_) 1 ?_ (fun _ _ _ h=>h)
 refine qan 1 (L:=fun φ n c o=>Z65.l0 (mkR (run E (φ 0))) (φ 0) n (pvL pv) (W:Int) c p (R:Int) (W:Int) cells o (qaz F R W)) (len:=W) (fun c=>qlW p W pv F c) (fun _ _ _ _ _=>rfl) (fun c r hc ih=>?_) ?_
 ·simp only[Z65.l0_succ _ qae,Int.toNat_natCast,List.length_replicate]
  rw[qlW] at ih
  refine qaC (decide_eq_true (by omega)) (qaa (qkN (pvL pv) (c:Int) (by rw[qaX];omega)) (qbL (fun h=>?_) fun h=>?_))
  ·rw[if_pos (qou.1 (qaG.1 h)),List.append_nil] at ih
   rw[qad (by omega)];exact ih
  ·rw[if_neg (mt qou.2 (qaY.1 h))] at ih
   refine qao (by simp only[Bool.and_eq_true,decide_eq_true_eq];omega) (qao (by simp only[Bool.and_eq_true,decide_eq_true_eq];omega) ?_)
   have hkl:=qfl (p:=p) (W:=W) (pv:=pv) (F:=F) (n:=c)
   generalize qlW p W pv F c=K at ih hkl ⊢
   refine Ev.start (p:=fun φ n=>Z65.l1 (mkR (run E (φ 0))) (φ 0) (φ 1) n (pvL pv) (c:Int) (W:Int) (c:Int) (pvL pv) ((pvL pv).length:Int) 0 p (R:Int) (W:Int) cells ((List.replicate W 0).set c 1) K (qaz F R W)=_) 2 ?_ (fun _ _ _ h=>h)
   refine qan 2 (L:=fun φ n i x=>Z65.l1 (mkR (run E (φ 0))) (φ 0) (φ 1) n (pvL pv) (c:Int) (W:Int) (c:Int) (pvL pv) ((pvL pv).length:Int) i p (R:Int) (W:Int) cells x K (qaz F R W)) (len:=pv.length) (fun i=>qkO p W pv F c i) (fun _ _ _ _ _=>rfl) (fun i q hi ih2=>?_) ?_
   ·simp only[Z65.l1_succ _ qae,qaX,qaA,Int.toNat_natCast,qcz]
    have hiR:i<R:=by omega
    have hFi:=hF i c hiR hc
    have hpi:=hpv _ (qeQ hi)
    have e0:w64 (0-F i c)=0-F i c:=qaf (by omega) (by omega)
    have hred:=qi7 (0-F i c) p hp.1
    rw[qoT hp (by omega)] at hred
    rw[qeC] at ih2
    simp only[qaX] at ih2
    refine qaC (decide_eq_true (by omega)) (qac (qbh.trans (qmx hi)) (qao (by simp only[Bool.and_eq_true,decide_eq_true_eq];omega) (qac (qbd hiR) (qac (qbh.trans (qfu hc)) ?_))))
    simp only[e0,Int.toNat_natCast]
    refine qaa hred (qao (by simp only[Bool.and_eq_true,decide_eq_true_eq];omega) ?_)
    rw[qad (by omega)];exact ih2
   ·simp only[Z65.l1_succ _ qae,qaX]
    refine qaI (decide_eq_false (by omega)) (qao (by simp only[List.length_cons,List.length_nil,decide_eq_true_eq];omega) ?_)
    rw[qad (by omega)];exact ih
 ·simp only[Z65.l0_succ _ qae]
  exact qaI (decide_eq_false (by omega)) qal
def Rws(p:Int)(W:Nat)(rows:List Sim):Prop:=∀ x∈rows,x.length=W∧qax x p
theorem Rws.flat{p:Int}{W:Nat}{rows:List Sim}(h:Rws p W rows):rows.flatten.length=rows.length*W∧qax rows.flatten p:=by
 induction rows with
 | nil=>exact⟨by simp,fun x hx=>by simp at hx⟩
 | cons r rows ih =>
  obtain⟨h1,h2⟩:=ih fun x hx=>h x (List.mem_cons_of_mem _ hx)
  obtain⟨h3,h4⟩:=h r List.mem_cons_self
  refine⟨by rw[List.flatten_cons,List.length_append,h1,h3,List.length_cons,Nat.add_mul];omega,fun x hx=>?_⟩
  rw[List.flatten_cons,List.mem_append] at hx
  rcases hx with hx | hx
  ·exact h4 x hx
  ·exact h2 x hx
noncomputable def qmr(x:Shf)(k:Int):List Sim:=qrr x.2.1 (SD x.1 x.2.2.1 (k+1)).toNat (SD x.1 x.2.2.1 k).toNat (qcg x k).2.2.2.1
end VeT
open Go Go.Proofs Ve
namespace VeT
def qnP(A:Ent)(b:Sim)(W:Nat):Ent:=fun i j=>if j=W then b.getD i 0 else A i j
theorem qko{p:Int}{R W:Nat}{A:Ent}{b:Sim}(hA:EIn p R W A)(hb:qax b p)(hl:b.length=R):EIn p R (W+1) (qnP A b W):=fun i j hi hj=>by
 unfold qnP
 split
 ·rw[qag (by omega)];exact hb _ (List.getElem_mem _)
 ·exact hA i j hi (by omega)
theorem qp5{A:Ent}{b:Sim}{W i:Nat}:(List.range (W+1)).map (qnP A b W i)=(List.range W).map (A i)++[b.getD i 0]:=by
  rw[List.range_succ,List.map_append]
  congr 1
  · exact List.map_congr_left fun j hj=>by
      have:=List.mem_range.1 hj
      unfold qnP;rw[if_neg (by omega)]
  · simp[qnP]
def qkH(cells b:Sim)(W R:Nat):Sim:=qar (qnP (qbJ cells W) b W) (W+1) R
theorem qaW{f:Ent}{W R i j:Nat}(hi:i<R)(hj:j<W):qbJ (qar f W R) W i j=f i j:=by
 unfold qbJ
 rw[List.getD_eq_getElem?_getD,qce hi hj];rfl
def qmH(A:Ent)(b:Sim)(R W n:Nat):List Sim:=(List.range R).map fun i=>if i<n then(List.range (W+1)).map (qnP A b W i) else(List.range W).map (A i)
theorem qpe{A:Ent}{b:Sim}{R W:Nat}:qmH A b R W 0=qaz A R W:=by simp[qmH,qaz]
theorem qpM{A:Ent}{b:Sim}{R W:Nat}:qmH A b R W R=qaz (qnP A b W) R (W+1) :=
 List.map_congr_left fun i hi=>by rw[if_pos (List.mem_range.1 hi)]
theorem qhX{A:Ent}{b:Sim}{R W n:Nat}:(qmH A b R W n).length=R:=by simp[qmH]
theorem qpI{A:Ent}{b:Sim}{R W n:Nat}(hn:n<R):(qmH A b R W n)[n]? = some ((List.range W).map (A n)):=by
 unfold qmH
 rw[List.getElem?_map,List.getElem?_range hn]
 simp
theorem qqs{A:Ent}{b:Sim}{R W n:Nat}:(qmH A b R W n).set n ((List.range W).map (A n)++[b.getD n 0])=qmH A b R W (n+1):=by
 rw[← qp5]
 apply List.ext_getElem?
 intro k
 rw[List.getElem?_set]
 unfold qmH
 by_cases hk:n=k
 ·subst hk
  by_cases hR:n<R
  ·simp[hR]
  ·simp[hR]
 ·rw[if_neg hk]
  by_cases hR:k<R
  ·simp only[List.getElem?_map,List.getElem?_range hR,Option.map_some]
   by_cases h:k<n
   ·rw[if_pos h,if_pos (by omega)]
   ·rw[if_neg h,if_neg (by omega)]
  ·rw[List.getElem?_eq_none (by simp;omega),List.getElem?_eq_none (by simp;omega)]
def ql6(F:Ent)(W:Nat):List Nat→Nat→Sim→Option Sim
 | [],_,o=>some o
 | q::qs,i,o=>if q=W then none else ql6 F W qs (i+1) (o.set q (F i W))
def qrq:Option Sim→Sim×Bool×Unit
 | some o=>(o,true,())
 | none=>([],false,())
noncomputable def qo6(p:Int)(R W:Nat)(cells b:Sim):Option Sim :=
 ql6 (elS p R (qbJ (qkH cells b W R) (W+1)) (W+1)).1 W (elS p R (qbJ (qkH cells b W R) (W+1)) (W+1)).2 0 (List.replicate W 0)
theorem qho{F:Ent}{W:Nat}:∀ {qs:List Nat} {i:Nat} {o y:Sim},ql6 F W qs i o=some y→y.length=o.length
 | [],i,o,y,h=>by obtain rfl:=Option.some.inj h;rfl
 | q::qs,i,o,y,h=>by
  unfold ql6 at h
  split at h
  ·cases h
  ·rw[qho h,List.length_set]
theorem qkM(p:Int)(R W:Nat)(cells b:Sim)(hp:2≤p∧p≤251)(hR:R≤1048576)(hW:W<1048576)(hRW:R*W≤1048576)(hl:cells.length=R*W)(he:qax cells p)(hbl:b.length=R)(hb:qax b p) :
    Ret E n_Z78 [dI p,dI (R:Int),dI (W:Int),dL cells,dL b] ⟨o_Z78,qrq (qo6 p R W cells b)⟩:=by
  have hA0:=qcu he hl
  have hA1:=qko hA0 hb hbl
  have hrows:qaz (qnP (qbJ cells W) b W) R (W+1)=qaz (qbJ (qkH cells b W R) (W+1)) R (W+1):=qbO fun i j hi hj=>(qaW hi hj).symm
  have hA:EIn p R (W+1) (qbJ (qkH cells b W R) (W+1)):=fun i j hi hj=>by
    unfold qkH;rw[qaW hi hj];exact hA1 i j hi hj
  unfold qo6
  generalize qbJ (qkH cells b W R) (W+1)=A at hA hrows
  obtain⟨det,hel⟩:=qdZ A R (W+1) p hp hR (by omega) hA
  obtain⟨hF,hpl,hpc,hpv⟩:=qew hp.1 hA (W+1)
  refine qaj ?_
  simp only[run_Z78,Z78.ev]
  refine qaa (qhC p R W cells hl hR (by omega) hRW) ?_
  rw[← qpe (b:=b)]
  simp only[qhX]
  refine Ev.start (p:=fun φ n=>Z78.l0 (mkR (run E (φ 0))) (φ 0) n b (R:Int) 0 p (R:Int) (W:Int) cells (qmH (qbJ cells W) b R W 0)=_) 1 ?_ (fun _ _ _ h=>h)
  refine qan 1 (L:=fun φ n i rows=>Z78.l0 (mkR (run E (φ 0))) (φ 0) n b (R:Int) i p (R:Int) (W:Int) cells rows) (len:=R) (fun i=>qmH (qbJ cells W) b R W i) (fun _ _ _ _ _=>rfl) (fun i r hi ih=>?_) ?_
  · simp only[Z78.l0_succ _ qae,qhX,Int.toNat_natCast]
    have hbi:b[i]? = some (b.getD i 0):=by rw[qag (by omega)];exact List.getElem?_eq_getElem _
    have one:Ev fun φ=>(((qmH (qbJ cells W) b R W i)[i]?).bind fun y=>(chk (decide ((y.length+[b.getD i 0].length)*8≤70368744177664))).bind fun _=>(chk (decide (0≤(i:Int))&&decide ((i:Int)<(R:Int)))).bind fun _=>(chk (decide True)).bind fun _ =>
        Z78.l0 (mkR (run E (φ 0))) (φ 0) (φ 1) b (R:Int) (w64 ((i:Int)+1)) p (R:Int) (W:Int) cells ((qmH (qbJ cells W) b R W i).set i (y++[b.getD i 0])))=r:=by
      refine qac (qpI hi) (qao (by simp;omega) (qao (by simp;omega) (qao (decide_eq_true trivial) ?_)))
      rw[qqs,qad (by omega)];exact ih
    exact qaC (decide_eq_true (by omega)) (qao (by simp;omega) (qac (qbh.trans hbi) (qbF one one)))
  · simp only[Z78.l0_succ _ qae]
    rw[qpM,hrows,qad (k:=W) (by omega)]
    refine qaI (decide_eq_false (by omega)) (qaa hel (qao (by simp;omega) ?_))
    generalize elS p R A (W+1)=S at hF hpl hpc hpv
    obtain⟨F,pv⟩:=S
    simp only at hF hpl hpc hpv
    simp only[qaX,Int.toNat_natCast]
    have key:∀ d i o,i+d=pv.length→o.length=W→Ev fun φ=>Z78.l1 (mkR (run E (φ 0))) (φ 0) (φ 2) (pvL pv) (pv.length:Int) (i:Int) p (R:Int) (W:Int) cells o (qaz F R (W+1))=some ⟨o_Z78,qrq (ql6 F W (pv.drop i) i o)⟩:=by
      intro d
      induction d with
      | zero =>
        intro i o hi ho
        refine Ev.round 2 (L:=fun φ n=>Z78.l1 (mkR (run E (φ 0))) (φ 0) n (pvL pv) (pv.length:Int) (i:Int) p (R:Int) (W:Int) cells o (qaz F R (W+1))) ?_ (fun _ _ _=>rfl)
        simp only[Z78.l1_succ _ qae]
        rw[List.drop_of_length_le (by omega)]
        exact qaI (decide_eq_false (by omega)) (qah rfl)
      | succ d ih =>
        intro i o hi ho
        have hil:i<pv.length:=by omega
        refine Ev.round 2 (L:=fun φ n=>Z78.l1 (mkR (run E (φ 0))) (φ 0) n (pvL pv) (pv.length:Int) (i:Int) p (R:Int) (W:Int) cells o (qaz F R (W+1))) ?_ (fun _ _ _=>rfl)
        simp only[Z78.l1_succ _ qae,qaA,Int.toNat_natCast]
        have hq:=hpv _ (qeQ hil)
        have hdrop:pv.drop i=pv.getD i 0::pv.drop (i+1):=by rw[List.drop_eq_getElem_cons hil,qag hil]
        refine qaC (decide_eq_true (by omega)) (qac (qbh.trans (qmx hil)) ?_)
        rw[hdrop,ql6]
        refine qbL (fun h=>qah ?_) fun h=>?_
        · have h : pv.getD i 0 = W := by have : ((pv.getD i 0 : Nat) : Int) = (W : Int) := by simpa using h
                                         omega
          rw[if_pos h];rfl
        · have h:pv.getD i 0≠W:=fun e=>by rw[e] at h;simp at h
          rw[if_neg h]
          refine qao (by simp;omega) (qac (qbd (by omega)) (qac (qbh.trans (qfu (Nat.lt_succ_self W))) (qao (by simp only[Bool.and_eq_true,decide_eq_true_eq];omega) ?_)))
          simp only[Int.toNat_natCast]
          rw[qad (by omega)]
          exact ih (i+1) _ (by omega) (by rw[List.length_set];exact ho)
    refine Ev.start (p:=fun φ n=>Z78.l1 (mkR (run E (φ 0))) (φ 0) n (pvL pv) (pv.length:Int) 0 p (R:Int) (W:Int) cells (List.replicate W 0) (qaz F R (W+1))=_) 2 ?_ (fun _ _ _ h=>h)
    exact key pv.length 0 (List.replicate W 0) (by omega) (by simp)
end VeT
