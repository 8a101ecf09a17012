import Derived.Test.YtjnnliedeobfgaaGreatT5
import Derived.Test.YtjnnliedeobfgaaGreatV2
import Derived.KernelRfl
set_option linter.unusedVariables false
set_option linter.unusedSimpArgs false
open Go Go.Proofs Ve
namespace VeT
def mz:Mat:=(0,0,0,[],())
def QB(p:Int)(st:Sim)(ms:List Mat)(t k:Nat)(f:Int):Prop:=Bt (ms.getD t mz) p (st.getD f.toNat 0) (st.getD k 0)
def VS(c:List Sim)(p:Int)(st:Sim)(ms:List Mat):Prop:=VC c∧Pr p∧SK c st∧plc c c.length=ms.length∧∀ k,k<c.length→∀ i,i<(qaG c k).length→QB p st ms (plc c k+i) k ((qaG c k).getD i 0)
def az:Arw:=(0,0,0,())
def QA(p:Int)(st:Sim)(ms:List Mat)(t:Nat)(a:Arw):Prop:=t<ms.length∧Bt (ms.getD t mz) p (st.getD a.2.2.1.toNat 0) (st.getD a.1.toNat 0)
theorem qpL{c:List Sim}{p:Int}{st:Sim}{ms:List Mat}(hl:plc c c.length=ms.length) :
  (∀ t,0≤t→t<plc c c.length→QA p st ms t ((qbB c c.length).getD t az))↔∀ k,k<c.length→∀ i,i<(qaG c k).length→QB p st ms (plc c k+i) k ((qaG c k).getD i 0):=by
 constructor
 ·intro h k hk i hi
  have hg:=qcr hk hi
  have hlt:=(List.getElem?_eq_some_iff.1 hg).1
  have:=h (plc c k+i) (by omega) hlt
  rw[List.getD_eq_getElem?_getD,hg] at this
  exact this.2
 ·intro h t _ ht
  obtain⟨k,i,hk,hi,rfl⟩:=qiU ht
  have hg:=qcr hk hi
  have:=h k hk i hi
  rw[List.getD_eq_getElem?_getD,hg]
  exact⟨by omega,this⟩
theorem qoS{ms:List Mat}(h:Sm (.sl (.st cM)) ms){t:Nat}(ht:t<ms.length):Sm (.st cM) ms[t]:=h.2 _ (List.getElem_mem ht)
theorem qgg(c:List Sim)(p:Int)(st:Sim)(ms:List Mat)(hc:Sm (.sl (.sl (.int .i64))) c)(hst:st.length≤1048576)(hm:Sm (.sl (.st cM)) ms) :
    Ret E n_Z23 [dLL c,dI p,dL st,dMs ms] ⟨o_Z23,(pb (VS c p st ms),())⟩:=by
  have hm1:ms.length≤1048576:=hm.1
  refine qal ?_
  simp only[run_Z23,Z23.ev]
  have no:¬ VS c p st ms→Ev fun φ=>Z23.j0 (mkR (run E (φ 0))) (φ 0) true c p st ms=some ⟨o_Z23,(pb (VS c p st ms),())⟩:=fun h=>by
    simp only[Z23.j0_eq _ qag,cond_true]
    rw[qaw h];(first | exact qam | exact Ev.of fun _=>trivial)
  refine qaa (qel c hc) (qcj (fun h=>no fun hv=>qbc.1 (show pb (VC c)=false by simpa using h) hv.1) fun h=>?_)
  have hv:VC c:=qaL.1 (by simpa using h)
  refine qaa (qdG p) (qcj (fun h=>no fun hv=>qbc.1 (show pb (Pr p)=false by simpa using h) hv.2.1) fun h=>?_)
  have hp:Pr p:=qaL.1 (by simpa using h)
  refine qaa (qgj c st hc hst) ?_
  by_cases hk:SK c st
  · simp only[qaI hk,Bool.not_true,Z23.j0_eq _ qag,cond_false]
    refine qaa (qjp c hc hv) ?_
    have hpl:=hv.plc (Nat.le_refl _)
    have h48:=hv.1
    refine Ev.start (p:=fun φ n=>Z23.l1 (mkR (run E (φ 0))) (φ 0) n (qbB c c.length) (qbB c c.length) ((qbB c c.length).length:Int) 0 c p st ms=_) 1 ?_ (fun _ _ _ h=>h)
    have get:∀ t (ht:t<plc c c.length),∃ k i,k<c.length∧i<(qaG c k).length∧(qbB c c.length)[t]? = some ((k:Int),(i:Int),(qaG c k).getD i 0,())∧((qaG c k).getD i 0).toNat<st.length∧0≤(qaG c k).getD i 0:=fun t ht=>by
      obtain⟨k,i,hk',hi,rfl⟩:=qiU ht
      have hb:=qkb hv hk' (List.getElem_mem hi)
      exact⟨k,i,hk',hi,qcr hk' hi,by rw[qah hi,hk.1];omega,by rw[qah hi];omega⟩
    refine(qeo 1 (L:=fun φ n t=>Z23.l1 (mkR (run E (φ 0))) (φ 0) n (qbB c c.length) (qbB c c.length) ((qbB c c.length).length:Int) t c p st ms) (len:=plc c c.length) 0 (by omega) (fun t=>QA p st ms t ((qbB c c.length).getD t az)) (fun b=>some ⟨o_Z23,(b&&((plc c c.length:Int)==(ms.length:Int)),())⟩) (fun _ _ _ _=>rfl) (fun t h1 h2 hP _=>?_) (fun t r h1 h2 hP _ ih=>?_) (fun _=>?_)).to ?_
    · simp only[Z23.l1_succ _ qag]
      obtain⟨k,i,hkc,hi,hg,hf,hf0⟩:=get t h2
      have hlt:t<(qbB c c.length).length:=h2
      have hgt:(qbB c c.length)[t]=((k:Int),(i:Int),(qaG c k).getD i 0,()):=by
        rw[List.getElem?_eq_getElem hlt] at hg;exact Option.some.inj hg
      refine qaD (decide_eq_true (by omega)) (qaf (qap hlt) ?_)
      rw[qah hlt] at hP
      rw[hgt] at hP ⊢
      refine qeu (fun hge=>?_) fun hge=>?_
      · simp only[Z23.j2_eq _ qag,cond_true];(first | exact qam | exact Ev.of fun _=>trivial)
      · have htm:t<ms.length:=by omega
        refine qaf (qap htm) ?_
        simp only
        rw[show(qaG c k).getD i 0=((((qaG c k).getD i 0).toNat:Nat):Int) by omega]
        refine qaf (qap hf) (qaf (qap (show k<st.length by rw[hk.1];exact hkc)) (qaa (qf4 _ _ _ _ (qoS hm htm)) ?_))
        have:¬ Bt ms[t] p st[((qaG c k).getD i 0).toNat] (st[k]'(by rw[hk.1];exact hkc)):=fun hb=>hP ⟨htm,by
          simp only[Int.toNat_natCast]
          rw[qah htm,qah hf,qah (s:=st) (k:=k) (by rw[hk.1];exact hkc)];exact hb⟩
        simp only[qaw this,Bool.not_false,Z23.j2_eq _ qag,cond_true];(first | exact qam | exact Ev.of fun _=>trivial)
    · simp only[Z23.l1_succ _ qag]
      obtain⟨k,i,hkc,hi,hg,hf,hf0⟩:=get t h2
      have hlt:t<(qbB c c.length).length:=h2
      have hgt:(qbB c c.length)[t]=((k:Int),(i:Int),(qaG c k).getD i 0,()):=by
        rw[List.getElem?_eq_getElem hlt] at hg;exact Option.some.inj hg
      refine qaD (decide_eq_true (by omega)) (qaf (qap hlt) ?_)
      rw[qah hlt] at hP
      rw[hgt] at hP ⊢
      obtain⟨htm,hb⟩:=hP
      refine qaJ (decide_eq_false (by omega)) (qaf (qap htm) ?_)
      simp only
      rw[show(qaG c k).getD i 0=((((qaG c k).getD i 0).toNat:Nat):Int) by omega]
      refine qaf (qap hf) (qaf (qap (show k<st.length by rw[hk.1];exact hkc)) (qaa (qf4 _ _ _ _ (qoS hm htm)) ?_))
      simp only[Int.toNat_natCast] at hb
      rw[qah htm,qah hf,qah (s:=st) (k:=k) (by rw[hk.1];exact hkc)] at hb
      simp only[qaI hb,Bool.not_true,Z23.j2_eq _ qag,cond_false]
      rw[qae (by omega)];exact ih
    · simp only[Z23.l1_succ _ qag]
      exact qaJ (decide_eq_false (by show ¬ ((plc c c.length:Nat):Int)<((plc c c.length:Nat):Int);omega)) (qai (by rw[Bool.true_and];rfl))
    · have:(pb (∀ t,0≤t→t<plc c c.length→QA p st ms t ((qbB c c.length).getD t az))&&((plc c c.length:Int)==(ms.length:Int)))=pb (VS c p st ms):=qja (by
        rw[Bool.and_eq_true,qaL,beq_iff_eq]
        constructor
        · rintro⟨h1,h2⟩
          have h2:plc c c.length=ms.length:=by omega
          exact⟨hv,hp,hk,h2,(qpL h2).1 h1⟩
        · rintro⟨_,_,_,h2,h1⟩
          exact⟨(qpL h2).2 h1,by omega⟩)
      rw[this]
  · simp only[qaw hk,Bool.not_false]
    exact no fun hv=>hk hv.2.2.1
theorem qok(x:Shf)(k i:Nat)(m:Mat)(hv:VC x.1)(hk:SK x.1 x.2.2.1)(hkc:k<x.1.length)(hi:i<(qaG x.1 k).length)(hc:Sm (.sl (.sl (.int .i64))) x.1)(hm:Sm (.st cM) m) :
  Ret E n_Z179 [dS x,dI (k:Int),dI (i:Int),dM m] ⟨o_Z179,(pb (Bt m x.2.1 (x.2.2.1.getD ((qaG x.1 k).getD i 0).toNat 0) (x.2.2.1.getD k 0)),())⟩:=by
 have hb:=qkb hv hkc (List.getElem_mem hi)
 have hks:k<x.2.2.1.length:=by rw[hk.1];exact hkc
 have hfs:((qaG x.1 k)[i]).toNat<x.2.2.1.length:=by rw[hk.1];omega
 rw[qah hi,qah hks,qah hfs]
 refine qal ?_
 simp only[run_Z179,Z179.ev]
 refine qaa (qdy x.1 k hkc hc) (qaf (qap hi) (qaa (qlr m hm) (qcj (fun h1=>qcj (fun h2=>qaf (qap hks) (qcj (fun h3=>?_) fun h3=>qai ?_)) fun h2=>qai ?_) fun h1=>qai ?_)))
 ·have e:(qaG x.1 k)[i]=((((qaG x.1 k)[i]).toNat:Nat):Int):=by omega
  refine qaf ((congrArg (idx? x.2.2.1) e).trans (qap hfs)) (qai ?_)
  have:(m.2.2.1==x.2.2.1[((qaG x.1 k)[i]).toNat])=pb (Bt m x.2.1 x.2.2.1[((qaG x.1 k)[i]).toNat] x.2.2.1[k]):=qja (by
   rw[beq_iff_eq];exact⟨fun h=>⟨qaL.1 h1,by simpa using h2,by simpa using h3,h⟩,fun h=>h.2.2.2⟩)
  simp only[this]
 ·rw[qaw fun h=>by have:=h.2.2.1;simp[this] at h3]
 ·rw[qaw fun h=>by have:=h.2.1;simp[this] at h2]
 ·rw[qaw fun h=>qbc.1 h1 h.1]
theorem qoQ(x:Shf)(hx:Sm (.st cS) x):Ret E n_Z181 [dS x] ⟨o_Z181,(pb (VS x.1 x.2.1 x.2.2.1 x.2.2.2.1),())⟩:=by
 have hc:Sm (.sl (.sl (.int .i64))) x.1:=hx.1
 have hm:Sm (.sl (.st cM)) x.2.2.2.1:=hx.2.2.2.1
 have hst:x.2.2.1.length≤1048576:=hx.2.2.1.1
 refine qal ?_
 simp only[run_Z181,Z181.ev]
 have no:¬ VS x.1 x.2.1 x.2.2.1 x.2.2.2.1→Ev fun φ=>Z181.j0 (mkR (run E (φ 0))) (φ 0) x true=some ⟨o_Z181,(pb (VS x.1 x.2.1 x.2.2.1 x.2.2.2.1),())⟩:=fun h=>by
  simp only[Z181.j0_eq _ qag,cond_true]
  rw[qaw h];(first | exact qam | exact Ev.of fun _=>trivial)
 refine qaa (qi5 (x.1,()) hc) (qcj (fun h=>no fun hv=>qbc.1 (show pb (VC x.1)=false by simpa using h) hv.1) fun h=>?_)
 have hv:VC x.1:=qaL.1 (show pb (VC x.1)=true by simpa using h)
 refine qaa (qbS _) (qcj (fun h=>no fun hv=>qbc.1 (show pb (Pr x.2.1)=false by simpa using h) hv.2.1) fun h=>?_)
 have hp:Pr x.2.1:=qaL.1 (by simpa using h)
 refine qaa (qkX x.1 x.2.2.1 hc hst) (qcj (fun h=>no fun hv=>qbc.1 (show pb (SK x.1 x.2.2.1)=false by simpa using h) hv.2.2.1) fun h=>?_)
 have hk:SK x.1 x.2.2.1:=qaL.1 (by simpa using h)
 refine qaa (qld x.1 hv) ?_
 by_cases hl:plc x.1 x.1.length=x.2.2.2.1.length
 ·have h48:=hv.1
  simp only[show((x.2.2.2.1.length:Int) != ((plc x.1 x.1.length:Nat):Int))=false by simp[hl],Z181.j0_eq _ qag,cond_false]
  refine Ev.start (p:=fun φ n=>Z181.l1 (mkR (run E (φ 0))) (φ 0) n x 0=_) 1 ?_ (fun _ _ _ h=>h)
  let P:Nat→Prop:=fun k=>∀ i,i<(qaG x.1 k).length→QB x.2.1 x.2.2.1 x.2.2.2.1 (plc x.1 k+i) k ((qaG x.1 k).getD i 0)
  have inner:∀(k:Nat) (h2:k<x.1.length) (r:Option Dv),(P k→Ev fun φ=>Z181.l1 (mkR (run E (φ 0))) (φ 0) (φ 1) x ((k+1:Nat):Int)=r)→(¬ P k→r=some ⟨o_Z181,(false,())⟩)→Ev fun φ=>Z181.l2 (mkR (run E (φ 0))) (φ 0) (φ 1) (φ 0) x (k:Int) 0=r:=fun k h2 r hgo hstop=>by
   have h4:=hv.len4 h2
   have hfl:=qaF (c:=x.1) (k:=k)
   rw[qah h2] at h4 hfl
   refine Ev.start (p:=fun φ n=>Z181.l2 (mkR (run E (φ 0))) (φ 0) (φ 1) n x (k:Int) 0=_) 2 ?_ (fun _ _ _ h=>h)
   by_cases hlen:1<(x.1[k]).length
   ·rw[if_pos hlen] at hfl
    have mapAt:∀ i (hi:i<(qaG x.1 k).length),∃ ht:plc x.1 k+i<x.2.2.2.1.length,∀ R,(Ev fun φ=>(bif (!pb (Bt x.2.2.2.1[plc x.1 k+i] x.2.1 (x.2.2.1.getD ((qaG x.1 k).getD i 0).toNat 0) (x.2.2.1.getD k 0))) then some ⟨o_Z181,(false,())⟩ else Z181.l2 (mkR (run E (φ 0))) (φ 0) (φ 1) (φ 2) x (k:Int) (w64 ((i:Int)+1)))=R)→Ev fun φ=>Z181.j3 (mkR (run E (φ 0))) (φ 0) (φ 1) (φ 2) x (k:Int) (i:Int) true=R:=fun i hi=>by
     have hg:=qcr h2 hi
     have hlt:=(List.getElem?_eq_some_iff.1 hg).1
     have ht:plc x.1 k+i<x.2.2.2.1.length:=by rw[← hl];exact hlt
     refine⟨ht,fun R hR=>?_⟩
     simp only[Z181.j3_eq _ qag,cond_true]
     refine qaa (qeH x.1 k i (by omega) (by omega) hv) (qaf (qap ht) (qaa (qok x k i _ hv hk h2 hi hc (qoS hm ht)) hR))
    obtain⟨t,f⟩:=qks 2 (L:=fun φ n i=>Z181.l2 (mkR (run E (φ 0))) (φ 0) (φ 1) n x (k:Int) i) (len:=(x.1[k]).length) 0 (by omega) (fun i=>QB x.2.1 x.2.2.1 x.2.2.2.1 (plc x.1 k+i) k ((qaG x.1 k).getD i 0)) (rt:=r) (rf:=some ⟨o_Z181,(false,())⟩) (fun _ _ _ _=>rfl) (fun i _ hi hP _=>by
     obtain⟨ht,hm'⟩:=mapAt i (by omega)
     simp only[Z181.l2_succ _ qag]
     refine qaf (qap h2) (qaD (decide_eq_true (by omega)) (qaf (qap h2) ?_))
     simp only[show decide (((x.1[k]).length:Int)>1)=true from decide_eq_true (by omega)]
     refine hm' _ (qaD ?_ qam)
     rw[qaw];· rfl
     intro hb;refine hP ?_
     show Bt _ _ _ _
     rw[qah ht];exact hb) (fun i q _ hi hP _ ih=>by
     obtain⟨ht,hm'⟩:=mapAt i (by omega)
     simp only[Z181.l2_succ _ qag]
     refine qaf (qap h2) (qaD (decide_eq_true (by omega)) (qaf (qap h2) ?_))
     simp only[show decide (((x.1[k]).length:Int)>1)=true from decide_eq_true (by omega)]
     refine hm' _ (qaJ ?_ ?_)
     ·have hP:Bt (x.2.2.2.1.getD (plc x.1 k+i) mz) _ _ _:=hP
      rw[qah ht] at hP
      rw[qaI hP];rfl
     ·rw[qae (by omega)];exact ih) (fun hall=>by
     simp only[Z181.l2_succ _ qag]
     refine qaf (qap h2) (qaJ (decide_eq_false (by omega)) ?_)
     simp only[Z181.j3_eq _ qag,cond_false]
     rw[qae (by omega)]
     exact hgo fun i hi=>hall i (by omega) (by omega))
    by_cases hall:∀ i,0≤i→i<(x.1[k]).length→QB x.2.1 x.2.2.1 x.2.2.2.1 (plc x.1 k+i) k ((qaG x.1 k).getD i 0)
    ·exact t hall
    ·rw[hstop fun hf=>hall fun i _ hi=>hf i (by omega)]
     exact f hall
   ·rw[if_neg hlen] at hfl
    refine Ev.round 2 (L:=fun φ n=>Z181.l2 (mkR (run E (φ 0))) (φ 0) (φ 1) n x (k:Int) 0) ?_ (fun _ _ _=>rfl)
    have hgo:=hgo fun i hi=>by omega
    have hj:Ev fun φ=>Z181.j3 (mkR (run E (φ 0))) (φ 0) (φ 1) (φ 2) x (k:Int) 0 false=r:=by
     simp only[Z181.j3_eq _ qag,cond_false]
     rw[qae (by omega)];exact hgo
    simp only[Z181.l2_succ _ qag]
    refine qaf (qap h2) (qeu (fun _=>qaf (qap h2) ?_) fun _=>hj)
    simp only[show decide (((x.1[k]).length:Int)>1)=false from decide_eq_false (by omega)]
    exact hj
  refine(qeo 1 (L:=fun φ n k=>Z181.l1 (mkR (run E (φ 0))) (φ 0) n x k) (len:=x.1.length) 0 (by omega) P (fun b=>some ⟨o_Z181,(b,())⟩) (fun _ _ _ _=>rfl) (fun k h1 h2 hP hpre=>?_) (fun k r h1 h2 hP hpre ih=>?_) (fun _=>?_)).to ?_
  ·simp only[Z181.l1_succ _ qag]
   exact qaD (decide_eq_true (by omega)) (inner k h2 _ (fun h=>absurd h hP) fun _=>rfl)
  ·simp only[Z181.l1_succ _ qag]
   exact qaD (decide_eq_true (by omega)) (inner k h2 _ (fun _=>ih) fun h=>absurd hP h)
  ·simp only[Z181.l1_succ _ qag]
   exact qaJ (decide_eq_false (by omega)) qam
  ·exact congrArg (fun b:Bool=>some (⟨o_Z181,(b,())⟩:Dv)) (qaS ⟨fun h=>⟨hv,hp,hk,hl,fun k hk'=>h k (by omega) hk'⟩,fun h k _ hk'=>h.2.2.2.2 k hk'⟩)
 ·simp only[show((x.2.2.2.1.length:Int) != ((plc x.1 x.1.length:Nat):Int))=true by simp;omega]
  exact no fun h=>hl h.2.2.2.1
end VeT
open Go Go.Proofs Ve
namespace VeT
theorem qkg(x:Shf)(hx:Sm (.st cS) x):Ret E n_Z23 [dLL x.1,dI x.2.1,dL x.2.2.1,dMs x.2.2.2.1] ⟨o_Z23,(pb (VS x.1 x.2.1 x.2.2.1 x.2.2.2.1),())⟩ :=
 qgg x.1 x.2.1 x.2.2.1 x.2.2.2.1 hx.1 hx.2.2.1.1 hx.2.2.2.1
theorem qiw(n:Int):Ret E n_Z64 [dI n] ⟨o_Z64,(pb (0≤n∧n≤3),())⟩:=by
 refine qal ?_
 simp only[run_Z64,Z64.ev]
 exact qaa (qcH _ _ _) qam
theorem qem(n:Int):Ret E n_Z159 [dI n] ⟨o_Z159,(pb (0≤n∧n≤3),())⟩:=by
 refine qal ?_
 simp only[run_Z159,Z159.ev]
 exact qaa (qck _ _ _) qam
open Classical in
noncomputable def qdK(x:Shf)(k:Int):Int×Int×Unit :=
 if VS x.1 x.2.1 x.2.2.1 x.2.2.2.1 then(if 0≤k∧k≤3 then(SD x.1 x.2.2.1 k,0,()) else(0,2,())) else(0,1,())
theorem qho(x:Shf)(k:Int)(hx:Sm (.st cS) x):Ret E n_Z133 [dLL x.1,dI x.2.1,dL x.2.2.1,dMs x.2.2.2.1,dI k] ⟨o_Z133,qdK x k⟩:=by
 refine qal ?_
 simp only[run_Z133,Z133.ev]
 refine qaa (qoQ x hx) (qcj (fun h=>qai ?_) fun h=>qaa (qem k) (qcj (fun h2=>qai ?_) fun h2=>?_))
 ·have h:=qbc.1 (show pb (VS x.1 x.2.1 x.2.2.1 x.2.2.2.1)=false by simpa using h)
  rw[qdK,if_neg h]
 ·have h:=qaL.1 (show pb (VS x.1 x.2.1 x.2.2.1 x.2.2.2.1)=true by simpa using h)
  have h2:=qbc.1 (show pb (0≤k∧k≤3)=false by simpa using h2)
  rw[qdK,if_pos h,if_neg h2]
 ·have h:=qaL.1 (show pb (VS x.1 x.2.1 x.2.2.1 x.2.2.2.1)=true by simpa using h)
  have h2:=qaL.1 (show pb (0≤k∧k≤3)=true by simpa using h2)
  refine qaa (qgO _ _ _ hx.1 h.2.2.1.1 h.2.2.1.2.1 (by omega)) (qai ?_)
  rw[qdK,if_pos h,if_pos h2];rfl
end VeT
open Go Go.Proofs Ve
namespace VeT
theorem qjA(p r:Int)(C:Nat)(cells:Sim)(i j:Nat)(h:i*C+j<cells.length)(hl:cells.length≤1048576):Ret E n_Z14 [dI p,dI r,dI (C:Int),dL cells,dI (i:Int),dI (j:Int)] ⟨o_Z14,(cells[i*C+j],())⟩:=by
 refine qal ?_
 simp only[run_Z14,Z14.ev]
 rw[qa3,qad (n:=((i*C:Nat):Int)) (by omega) (by omega),qad (by omega) (by omega),show((i*C:Nat):Int)+(j:Int)=((i*C+j:Nat):Int) by omega]
 exact qaf (qap h) qam
theorem qd8(p r:Int)(C:Nat)(cells:Sim)(i:Nat)(h:(i+1)*C≤cells.length)(hi:i≤1048576)(hl:cells.length≤1048576):Ret E n_Z15 [dI p,dI r,dI (C:Int),dL cells,dI (i:Int)] ⟨o_Z15,((cells.take ((i+1)*C)).drop (i*C),())⟩:=by
 refine qal ?_
 simp only[run_Z15,Z15.ev]
 have h1:i*C≤(i+1)*C:=Nat.mul_le_mul_right _ (by omega)
 have e1:w64 ((i:Int)*(C:Int))=((i*C:Nat):Int):=by rw[qa3];exact qad (by omega) (by omega)
 have e2:w64 ((i:Int)+1)=((i+1:Nat):Int):=qae (by omega)
 have e3:w64 (((i+1:Nat):Int)*(C:Int))=(((i+1)*C:Nat):Int):=by rw[qa3];exact qad (by omega) (by omega)
 simp only[e1,e2,e3,Int.toNat_natCast]
 exact qar (by simp only[Bool.and_eq_true,decide_eq_true_eq];omega) qam
theorem qdR(s:Sim)(hs:s.length≤1048576):Ret E n_Z104 [dL s] ⟨o_Z104,(s,())⟩:=by
 refine qal ?_
 simp only[run_Z104,Z104.ev,Z104.j0_eq _ qag,cond_true,cond_false]
 have h:Ev fun φ=>(Option.bind (chk (decide ((List.length ([]:List Int)+List.length s)*8≤70368744177664))) fun _=>some (⟨o_Z104,((([]:List Int)++s),())⟩:Dv))=some ⟨o_Z104,(s,())⟩ :=
  qar (by simp;omega) (qai rfl)
 cases s with
 | nil=>exact qaD rfl (qb6 qam h)
 | cons a s=>exact qaJ rfl h
theorem qiP(m:Mat)(C:Nat)(i j:Nat)(hC:m.2.2.1=(C:Int))(h:j*C+i<m.2.2.2.1.length)(hl:m.2.2.2.1.length≤1048576):Ret E n_Z90 [dI (i:Int),dI (j:Int),dM m] ⟨o_Z90,(m.2.2.2.1.getD (j*C+i) 0,())⟩:=by
 rw[qah h]
 refine qal ?_
 simp only[run_Z90,Z90.ev]
 rw[hC]
 exact qaa (qjA _ _ C _ j i h hl) qam
theorem qpt(a b:Sim)(p:Int)(hp:2≤p∧p≤251)(ha:a.length≤32)(hb:a.length≤b.length)(ea:∀ x∈a,0≤x∧x≤250)(eb:∀ x∈b,0≤x∧x≤250) :
  Ret E n_Z44 [dL a,dL b,dI p] ⟨o_Z44,(qaM (fun l=>a.getD l 0) (fun l=>b.getD l 0) a.length%p,())⟩:=by
 refine qal ?_
 simp only[run_Z44,Z44.ev]
 refine Ev.start (p:=fun φ n=>Z44.l0 (mkR (run E (φ 0))) (φ 0) n a b p 0 (a.length:Int) 0=_) 1 ?_ (fun _ _ _ h=>h)
 have:=qaq 1 (L:=fun φ n k s=>Z44.l0 (mkR (run E (φ 0))) (φ 0) n a b p s (a.length:Int) k) (len:=a.length) (fun k=>qaM (fun l=>a.getD l 0) (fun l=>b.getD l 0) k%p) (r:=some ⟨o_Z44,(qaM (fun l=>a.getD l 0) (fun l=>b.getD l 0) a.length%p,())⟩) (fun _ _ _ _ _=>rfl) (fun k r hk ih=>?_) ?_
 ·simpa [qaM] using this
 ·simp only[Z44.l0_succ _ qag]
  have hkb:k<b.length:=by omega
  have hm:=qfY (ea _ (List.getElem_mem hk)) (eb _ (List.getElem_mem hkb))
  have h0:=Int.emod_nonneg (qaM (fun l=>a.getD l 0) (fun l=>b.getD l 0) k) (show p≠0 by omega)
  have h1:=Int.emod_lt_of_pos (qaM (fun l=>a.getD l 0) (fun l=>b.getD l 0) k) (show 0<p by omega)
  refine qaD (decide_eq_true (by omega)) (qaf (qap hk) (qaf (qap hkb) (qar (by simp;omega) ?_)))
  rw[qad (n:=a[k]*b[k]) (by omega) (by omega),qad (by omega) (by omega),Int.tmod_eq_emod_of_nonneg (by omega),Int.emod_add_emod,qae (by omega)]
  simp only[qaM] at ih
  rw[qah hk,qah hkb] at ih
  exact ih
 ·simp only[Z44.l0_succ _ qag]
  exact qaJ (decide_eq_false (by omega)) qam
theorem qnQ(p:Int)(R C:Nat)(cells:Sim)(hl:cells.length=R*C)(hR:R≤32)(hC:C≤32):Ret E n_Z80 [dI p,dI (R:Int),dI (C:Int),dL cells] ⟨o_Z80,((List.range R).map fun i=>(cells.take ((i+1)*C)).drop (i*C),())⟩:=by
 have h1024:=qcZ hR hC
 refine qal ?_
 simp only[run_Z80,Z80.ev]
 refine Ev.start (p:=fun φ n=>Z80.l0 (mkR (run E (φ 0))) (φ 0) n (R:Int) 0 p (R:Int) (C:Int) cells []=_) 1 ?_ (fun _ _ _ h=>h)
 refine qaq 1 (L:=fun φ n k a=>Z80.l0 (mkR (run E (φ 0))) (φ 0) n (R:Int) k p (R:Int) (C:Int) cells a) (len:=R) (fun k=>(List.range k).map fun i=>(cells.take ((i+1)*C)).drop (i*C)) (fun _ _ _ _ _=>rfl) (fun k r hk ih=>?_) ?_
 ·simp only[Z80.l0_succ _ qag]
  have hle:(k+1)*C≤R*C:=Nat.mul_le_mul_right _ hk
  rw[List.range_succ,List.map_append] at ih
  refine qaD (decide_eq_true (by omega)) (qaa (qd8 p _ C cells k (by omega) (by omega) (by omega)) (qaa (qdR _ (by simp;omega)) (qar (by simp;omega) ?_)))
  rw[qae (by omega)];exact ih
 ·simp only[Z80.l0_succ _ qag]
  exact qaJ (decide_eq_false (by omega)) qam
end VeT
open Go Go.Proofs Ve
namespace VeT
theorem qaE.get{v:Sim}{p:Int}(h:qaE v p)(hp:2≤p∧p≤251)(i:Nat):0≤v.getD i 0∧v.getD i 0≤250:=by
 by_cases hi:i<v.length
 ·rw[qah hi]
  have:=h _ (List.getElem_mem hi)
  omega
 ·rw[List.getD_eq_getElem?_getD,List.getElem?_eq_none (by omega)];simp
theorem qaE.mem{v:Sim}{p:Int}(h:qaE v p)(hp:2≤p∧p≤251):∀ x∈v,0≤x∧x≤250:=fun x hx=>by
 have:=h x hx;omega
def qhP(p:Int)(ca cb:Sim)(K C i j:Nat):Int:=qaM (fun l=>ca.getD (i*K+l) 0) (fun l=>cb.getD (l*C+j) 0) K%p
def qfV(a b:Mat):Mat:=(a.1,a.2.1,b.2.2.1,qav (qhP a.1 a.2.2.2.1 b.2.2.2.1 a.2.2.1.toNat b.2.2.1.toNat) b.2.2.1.toNat a.2.1.toNat,())
def qb7(K C:Nat)(cb:Sim):List Sim:=(List.range C).map fun i=>(List.range K).map fun j=>cb.getD (j*C+i) 0
theorem qkH(q:Int)(K C:Nat)(cb:Sim)(hl:cb.length=K*C)(hK:K≤32)(hC:C≤32):Ret E n_Z89 [dI q,dI (K:Int),dI (C:Int),dL cb] ⟨o_Z89,(q,(C:Int),(K:Int),qav (fun i j=>cb.getD (j*C+i) 0) K C,())⟩:=by
 have h1:=qcZ hK hC
 have h2:=qcZ hC hK
 refine qal ?_
 simp only[run_Z89,Z89.ev]
 refine qaa (qdb q C K ((q,(K:Int),(C:Int),cb,()),()) (fun i j=>cb.getD (j*C+i) 0) (by omega) (by omega) (by omega) fun i j hi hj=>?_) qam
 exact qiP (q,(K:Int),(C:Int),cb,()) C i j rfl (by show _<cb.length;rw[hl];exact qfj hj hi) (by show cb.length≤_;omega)
theorem qfX(q:Int)(K C:Nat)(cb:Sim)(hl:cb.length=K*C)(hK:K≤32)(hC:C≤32):Ret E n_Z37 [dI q,dI (K:Int),dI (C:Int),dL cb] ⟨o_Z37,(qb7 K C cb,())⟩:=by
 refine qal ?_
 simp only[run_Z37,Z37.ev]
 refine qaa (qkH q K C cb hl hK hC) (qaa (qnQ q C K _ qau hC hK) (qai ?_))
 have:((List.range C).map fun i=>((qav (fun i j=>cb.getD (j*C+i) 0) K C).take ((i+1)*K)).drop (i*K))=qb7 K C cb :=
  List.map_congr_left fun i hi=>qlJ (List.mem_range.1 hi)
 rw[this]
theorem qpW{K C:Nat}{cb:Sim}{q:Int}(hb:qaE cb q)(hq:2≤q∧q≤251){j:Nat}(hj:j<(qb7 K C cb).length):∀ x∈(qb7 K C cb)[j],0≤x∧x≤250:=by
 intro x hx
 have hm:=List.getElem_mem hj
 generalize (qb7 K C cb)[j]=y at hm hx
 unfold qb7 at hm
 rw[List.mem_map] at hm
 obtain⟨i,_,rfl⟩:=hm
 rw[List.mem_map] at hx
 obtain⟨l,_,rfl⟩:=hx
 exact hb.get hq _
theorem qkV(p:Int)(R K C:Nat)(ca cb:Sim)(i j:Nat)(hi:i<R)(hj:j<C)(hp:2≤p∧p≤251)(hla:ca.length=R*K)(hR:R≤32)(hK:K≤32)(ea:qaE ca p){q:Int}(hq:2≤q∧q≤251)(eb:qaE cb q) :
  Ret E n_Z78 [dI (i:Int),dI (j:Int),dM (p,(R:Int),(K:Int),ca,()),⟨.ptr (.cons (.sl (.sl (.int .i64))) .nil),(qb7 K C cb,())⟩] ⟨o_Z78,(qhP p ca cb K C i j,())⟩:=by
 have h1:=qcZ hR hK
 have hle:(i+1)*K≤R*K:=Nat.mul_le_mul_right _ hi
 have hjl:j<(qb7 K C cb).length:=by simp[qb7,hj]
 have hcl:((qb7 K C cb)[j]).length=K:=by simp[qb7]
 have hrl:((ca.take ((i+1)*K)).drop (i*K)).length=K:=by
  rw[List.length_drop,List.length_take,Nat.min_eq_left (by omega),Nat.add_mul];omega
 refine qal ?_
 simp only[run_Z78,Z78.ev]
 refine qaf (qap hjl) (qaa (qd8 p _ K ca i (by omega) (by omega) (by omega)) (qaa (qpt ((ca.take ((i+1)*K)).drop (i*K)) ((qb7 K C cb)[j]) p hp (by omega) (by omega) (fun x hx=>ea.mem hp x (List.mem_of_mem_take (List.mem_of_mem_drop hx))) (qpW eb hq hjl)) (qai ?_)))
 rw[hrl]
 have:qaM (fun l=>((ca.take ((i+1)*K)).drop (i*K)).getD l 0) (fun l=>((qb7 K C cb)[j]).getD l 0) K=qaM (fun l=>ca.getD (i*K+l) 0) (fun l=>cb.getD (l*C+j) 0) K:=qaz fun l hl=>⟨by
  rw[List.getD_eq_getElem?_getD,List.getD_eq_getElem?_getD,List.getElem?_drop,List.getElem?_take_of_lt (by rw[Nat.add_mul];omega)],by
  simp[qb7,List.getD_eq_getElem?_getD,hl]⟩
 rw[this];rfl
theorem VM.nat{m:Mat}(h:VM m):∃ R K:Nat,m=(m.1,(R:Int),(K:Int),m.2.2.2.1,())∧R≤32∧K≤32∧m.2.2.2.1.length=R*K:=by
 obtain⟨p,r,k,c,⟨⟩⟩:=m
 obtain⟨_,h2,h3,h4,_⟩:=h
 simp only at h2 h3 h4
 obtain⟨R,rfl⟩:=Int.eq_ofNat_of_zero_le h2.1
 obtain⟨K,rfl⟩:=Int.eq_ofNat_of_zero_le h3.1
 refine⟨R,K,rfl,by omega,by omega,?_⟩
 rw[qa3] at h4;simp only;omega
theorem qmr(a b:Mat)(ha:VM a)(hb:VM b)(hab:a.2.2.1=b.2.1):Ret E n_Z77 [dI a.1,dI a.2.1,dI a.2.2.1,dL a.2.2.2.1,dI b.1,dI b.2.1,dI b.2.2.1,dL b.2.2.2.1] ⟨o_Z77,qfV a b⟩:=by
  obtain⟨R,K,ea,hR,hK,hla⟩:=ha.nat
  obtain⟨K',C,eb,hK',hC,hlb⟩:=hb.nat
  have pa:2≤a.1∧a.1≤251:=⟨ha.1.1,ha.1.2.1⟩
  have pb':2≤b.1∧b.1≤251:=⟨hb.1.1,hb.1.2.1⟩
  have ela:=ha.2.2.2.2
  have elb:=hb.2.2.2.2
  rw[ea,eb] at hab
  obtain rfl : K = K' := by have hab : (K : Int) = (K' : Int) := hab
                            omega
  rw[ea,eb]
  simp only
  refine qal ?_
  simp only[run_Z77,Z77.ev]
  have hRC:=qcZ hR hC
  refine qaa (qfX _ K C _ hlb hK hC) (qaa (qdH a.1 R C ((a.1,(R:Int),(K:Int),a.2.2.2.1,()),(qb7 K C b.2.2.2.1,()),()) (qhP a.1 a.2.2.2.1 b.2.2.2.1 K C) (by omega) (by omega) (by omega) fun i j hi hj=>?_) (qai ?_))
  · exact qkV a.1 R K C _ _ i j hi hj pa hla hR hK ela pb' elb
  · simp only[qfV,Int.toNat_natCast]
theorem qcc(p:Int)(R C:Nat)(hR:R≤32)(hC:C≤32):Ret E n_Z156 [dI p,dI (R:Int),dI (C:Int)] ⟨o_Z156,(p,(R:Int),(C:Int),List.replicate (R*C) 0,())⟩:=by
 have h1:=qcZ hR hC
 have e1:w64 ((R:Int)*(C:Int))=((R*C:Nat):Int):=by rw[qa3];exact qad (by omega) (by omega)
 refine qal ?_
 simp only[run_Z156,Z156.ev,e1,Int.toNat_natCast]
 exact qar (by simp only[Bool.and_eq_true,decide_eq_true_eq];omega) qam
theorem ql5(a b:Mat)(ha:VM a)(hb:VM b)(hab:a.2.2.1=b.2.1):Ret E n_Z154 [dM a,dM b] ⟨o_Z154,qfV a b⟩:=by
  obtain⟨R,K,ea,hR,hK,hla⟩:=ha.nat
  obtain⟨K',C,eb,hK',hC,hlb⟩:=hb.nat
  have pa:2≤a.1∧a.1≤251:=⟨ha.1.1,ha.1.2.1⟩
  have pb':2≤b.1∧b.1≤251:=⟨hb.1.1,hb.1.2.1⟩
  have ela:=ha.2.2.2.2
  have elb:=hb.2.2.2.2
  rw[ea,eb] at hab
  obtain rfl : K = K' := by have hab : (K : Int) = (K' : Int) := hab
                            omega
  obtain⟨p,r,k,ca,⟨⟩⟩:=a
  obtain⟨q,k',c,cb,⟨⟩⟩:=b
  simp only[Prod.mk.injEq,true_and,and_true] at ea eb pa pb' ela elb hla hlb
  obtain⟨rfl,rfl⟩:=ea
  obtain⟨rfl,rfl⟩:=eb
  have hRC:=qcZ hR hC
  have hRK:=qcZ hR hK
  have hKC:=qcZ hK hC
  have hM:qfV (p,(R:Int),(K:Int),ca,()) (q,(K:Int),(C:Int),cb,())=(p,(R:Int),(C:Int),qav (qhP p ca cb K C) C R,()):=by simp[qfV]
  rw[hM]
  refine qal ?_
  simp only[run_Z154,Z154.ev,Z154.j0_eq _ qag]
  suffices h:Ev fun φ=>Z154.l1 (mkR (run E (φ 0))) (φ 0) (φ 0) (p,(R:Int),(K:Int),ca,()) (q,(K:Int),(C:Int),cb,()) 0 0 0 0 p (R:Int) (C:Int) (List.replicate (R*C) 0)=some ⟨o_Z154,(p,(R:Int),(C:Int),qav (qhP p ca cb K C) C R,())⟩ by
    exact qb6 (qaa (qcc p R C hR hC) h) (qaa (qcc p R C hR hC) h)
  refine Ev.start (p:=fun φ n=>Z154.l1 (mkR (run E (φ 0))) (φ 0) n (p,(R:Int),(K:Int),ca,()) (q,(K:Int),(C:Int),cb,()) 0 0 0 0 p (R:Int) (C:Int) (List.replicate (R*C) 0)=_) 1 ?_ (fun _ _ _ h=>h)
  have:=qaq 1 (L:=fun φ n i o=>Z154.l1 (mkR (run E (φ 0))) (φ 0) n (p,(R:Int),(K:Int),ca,()) (q,(K:Int),(C:Int),cb,()) i 0 0 0 p (R:Int) (C:Int) o) (len:=R) (fun i=>qav (qhP p ca cb K C) C i++List.replicate ((R-i)*C) 0) (r:=some ⟨o_Z154,(p,(R:Int),(C:Int),qav (qhP p ca cb K C) C R,())⟩) (fun _ _ _ _ _=>rfl) (fun i r hi ih=>?_) ?_
  · simpa [qav] using this
  · simp only[Z154.l1_succ _ qag]
    refine qaD (decide_eq_true (by omega)) ?_
    refine Ev.start (p:=fun φ n=>Z154.l2 (mkR (run E (φ 0))) (φ 0) (φ 1) n (p,(R:Int),(K:Int),ca,()) (q,(K:Int),(C:Int),cb,()) (i:Int) 0 0 0 0 p (R:Int) (C:Int) (qav (qhP p ca cb K C) C i++List.replicate ((R-i)*C) 0)=_) 2 ?_ (fun _ _ _ h=>h)
    have hRi:(R-i)*C=(R-(i+1))*C+C:=by
      rw[show R-i=(R-(i+1))+1 by omega,Nat.add_mul];omega
    have hiC:(i+1)*C≤R*C:=Nat.mul_le_mul_right _ hi
    have hiK:(i+1)*K≤R*K:=Nat.mul_le_mul_right _ hi
    rw[Nat.add_mul] at hiC hiK
    have:=qaq 2 (L:=fun φ n j o=>Z154.l2 (mkR (run E (φ 0))) (φ 0) (φ 1) n (p,(R:Int),(K:Int),ca,()) (q,(K:Int),(C:Int),cb,()) (i:Int) j 0 0 0 p (R:Int) (C:Int) o) (len:=C) (fun j=>(qav (qhP p ca cb K C) C i++(List.range j).map (qhP p ca cb K C i))++List.replicate ((R-i)*C-j) 0) (r:=r) (fun _ _ _ _ _=>rfl) (fun j r hj ih=>?_) ?_
    · simpa using this
    · simp only[Z154.l2_succ _ qag]
      refine qaD (decide_eq_true (by omega)) ?_
      have hpl:(qav (qhP p ca cb K C) C i++(List.range j).map (qhP p ca cb K C i)).length=i*C+j:=by simp[qau]
      have hsp:(R-i)*C-j=((R-i)*C-(j+1))+1:=by omega
      generalize hO:(qav (qhP p ca cb K C) C i++(List.range j).map (qhP p ca cb K C i))++List.replicate ((R-i)*C-j) 0=O
      have hOl:O.length=R*C:=by
        rw[← hO,List.length_append,hpl,List.length_replicate,hRi]
        have:R*C=(R-(i+1))*C+(i*C+C):=by
          have e:R=(R-(i+1))+(i+1):=by omega
          have:=congrArg (·*C) e
          simp only[Nat.add_mul,Nat.one_mul] at this ⊢;omega
        omega
      refine Ev.start (p:=fun φ n=>Z154.l3 (mkR (run E (φ 0))) (φ 0) (φ 1) (φ 2) n (p,(R:Int),(K:Int),ca,()) (q,(K:Int),(C:Int),cb,()) (i:Int) (j:Int) 0 0 0 0 0 p (R:Int) (C:Int) O=_) 3 ?_ (fun _ _ _ h=>h)
      refine qaq 3 (L:=fun φ n l s=>Z154.l3 (mkR (run E (φ 0))) (φ 0) (φ 1) (φ 2) n (p,(R:Int),(K:Int),ca,()) (q,(K:Int),(C:Int),cb,()) (i:Int) (j:Int) s l 0 0 0 p (R:Int) (C:Int) O) (len:=K) (fun l=>qaM (fun l=>ca.getD (i*K+l) 0) (fun l=>cb.getD (l*C+j) 0) l) (fun _ _ _ _ _=>rfl) (fun l r hl ih=>?_) ?_
      · simp only[Z154.l3_succ _ qag]
        have b1:=qm2 (f:=fun l=>ca.getD (i*K+l) 0) (g:=fun l=>cb.getD (l*C+j) 0) (n:=l) fun l _=>⟨ela.get pa _,elb.get pb' _⟩
        have b2:=qfY (ela.get pa (i*K+l)) (elb.get pb' (l*C+j))
        have hlC:(l+1)*C≤K*C:=Nat.mul_le_mul_right _ hl
        rw[Nat.add_mul] at hlC
        have e1:w64 (w64 ((i:Int)*(K:Int))+(l:Int))=((i*K+l:Nat):Int):=by
          rw[qa3,qad (n:=((i*K:Nat):Int)) (by omega) (by omega),qad (by omega) (by omega)];omega
        have e2:w64 (w64 ((l:Int)*(C:Int))+(j:Int))=((l*C+j:Nat):Int):=by
          rw[qa3,qad (n:=((l*C:Nat):Int)) (by omega) (by omega),qad (by omega) (by omega)];omega
        simp only[e1,e2]
        have i1:i*K+l<ca.length:=by omega
        have i2:l*C+j<cb.length:=by omega
        refine qaD (decide_eq_true (by omega)) (qaf (qap i1) (qaf (qap i2) ?_))
        simp only[qaM] at ih
        rw[qah i1,qah i2] at ih b2
        rw[qad (n:=ca[i*K+l]*cb[l*C+j]) (by omega) (by omega),qad (by omega) (by omega),qae (by omega)]
        exact ih
      · simp only[Z154.l3_succ _ qag]
        have b1:=qm2 (f:=fun l=>ca.getD (i*K+l) 0) (g:=fun l=>cb.getD (l*C+j) 0) (n:=K) fun l _=>⟨ela.get pa _,elb.get pb' _⟩
        have e1:w64 (w64 ((i:Int)*(C:Int))+(j:Int))=((i*C+j:Nat):Int):=by
          rw[qa3,qad (n:=((i*C:Nat):Int)) (by omega) (by omega),qad (by omega) (by omega)];omega
        simp only[e1,Int.toNat_natCast]
        refine qaJ (decide_eq_false (by omega)) (qar (by simp;omega) (qar (by simp only[Bool.and_eq_true,decide_eq_true_eq];omega) ?_))
        rw[Int.tmod_eq_emod_of_nonneg (by omega),qae (by omega),← hO,hsp,← hpl,qrC]
        rw[List.range_succ,List.map_append,← List.append_assoc] at ih
        exact ih
    · simp only[Z154.l2_succ _ qag]
      refine qaJ (decide_eq_false (by omega)) ?_
      rw[qae (by omega),hRi,Nat.add_sub_cancel]
      exact ih
  · simp only[Z154.l1_succ _ qag]
    refine qaJ (decide_eq_false (by omega)) (qai ?_)
    simp
end VeT
open Go Go.Proofs Ve
namespace VeT
theorem qjt(a b:Sim)(ha:a.length≤1048576):Ret E n_Z116 [dL a,dL b] ⟨o_Z116,(pb (a=b),())⟩:=by
 refine qal ?_
 simp only[run_Z116,Z116.ev]
 refine qcj (fun h=>qai ?_) fun h=>?_
 ·have h:(a.length:Int)≠b.length:=by simpa using h
  rw[qaw fun e=>h (by rw[e])]
 ·have h:(a.length:Int)=b.length:=by simpa using h
  refine Ev.start (p:=fun φ n=>Z116.l0 (mkR (run E (φ 0))) (φ 0) n a b (a.length:Int) 0=_) 1 ?_ (fun _ _ _ h=>h)
  refine(qeo 1 (L:=fun φ n k=>Z116.l0 (mkR (run E (φ 0))) (φ 0) n a b (a.length:Int) k) (len:=a.length) 0 (by omega) (fun j=>a.getD j 0=b.getD j 0) (fun b=>some ⟨o_Z116,(b,())⟩) (fun _ _ _ _=>rfl) (fun k h1 h2 hP _=>?_) (fun k r h1 h2 hP _ ih=>?_) (fun _=>?_)).to ?_
  ·simp only[Z116.l0_succ _ qag]
   have hb:k<b.length:=by omega
   rw[qah h2,qah hb] at hP
   exact qaD (decide_eq_true (by omega)) (qaf (qap h2) (qaf (qap hb) (qaD (by simpa using hP) qam)))
  ·simp only[Z116.l0_succ _ qag]
   have hb:k<b.length:=by omega
   rw[qah h2,qah hb] at hP
   refine qaD (decide_eq_true (by omega)) (qaf (qap h2) (qaf (qap hb) (qaJ (by simpa using hP) ?_)))
   rw[qae (by omega)];exact ih
  ·simp only[Z116.l0_succ _ qag]
   exact qaJ (decide_eq_false (by omega)) qam
  ·refine congrArg (fun b:Bool=>some (⟨o_Z116,(b,())⟩:Dv)) (qaS ⟨fun hh=>List.ext_getElem (by omega) fun j h1 h2=>?_,fun hh j _ _=>by rw[hh]⟩)
   have:=hh j (by omega) h1
   rwa [qah h1,qah h2] at this
theorem qiE{a b:Mat}:a=b↔a.1=b.1∧a.2.1=b.2.1∧a.2.2.1=b.2.2.1∧a.2.2.2.1=b.2.2.2.1:=by
 obtain⟨p,r,k,c,⟨⟩⟩:=a
 obtain⟨p',r',k',c',⟨⟩⟩:=b
 simp only[Prod.mk.injEq,and_true]
theorem qiS(a b:Mat)(ha:a.2.2.2.1.length≤1048576):Ret E n_Z17 [dI a.1,dI a.2.1,dI a.2.2.1,dL a.2.2.2.1,dI b.1,dI b.2.1,dI b.2.2.1,dL b.2.2.2.1] ⟨o_Z17,(pb (a=b),())⟩:=by
 refine qal ?_
 simp only[run_Z17,Z17.ev]
 refine qcj (fun h1=>qcj (fun h2=>qcj (fun h3=>qaa (qjt _ _ ha) (qai ?_)) fun h3=>qai ?_) fun h2=>qai ?_) fun h1=>qai ?_
 ·exact congrArg (fun b:Bool=>some (⟨o_Z17,(b,())⟩:Dv)) (qaS ⟨fun h=>qiE.2 ⟨by simpa using h1,by simpa using h2,by simpa using h3,h⟩,fun h=>(qiE.1 h).2.2.2⟩)
 ·rw[qaw fun h=>by have:=(qiE.1 h).2.2.1;simp[this] at h3]
 ·rw[qaw fun h=>by have:=(qiE.1 h).2.1;simp[this] at h2]
 ·rw[qaw fun h=>by have:=(qiE.1 h).1;simp[this] at h1]
noncomputable def mp(c:List Sim)(ms:List Mat)(k i:Nat):Mat:=ms.getD (plc c k+i) mz
noncomputable def fc(c:List Sim)(k i:Nat):Nat:=((qaG c k).getD i 0).toNat
theorem qpO{c:List Sim}{s:Sim}(h:s∈c):c.getD (qdm c s).toNat []=s:=by
 have h0:=qa8.2 h
 unfold qdm qhK at h0 ⊢
 cases hf:c.findIdx? (fun x=>pb (x=s)) with
 | none=>rw[hf] at h0;simp[o2i] at h0
 | some k =>
  rw[List.findIdx?_eq_some_iff_getElem] at hf
  obtain⟨hk,hp,_⟩:=hf
  simp only[o2i,Int.toNat_natCast]
  rw[qah hk];exact qaL.1 hp
theorem qby{c:List Sim}(h:VC c){k i:Nat}(hk:k<c.length)(hi:i<(qaG c k).length):idx? (qaG c k) (i:Int)=some ((fc c k i:Nat):Int)∧fc c k i<c.length∧c.getD (fc c k i) []=(c.getD k []).eraseIdx i:=by
 have hm:=qkb h hk (List.getElem_mem hi)
 have hl:=qaF (c:=c) (k:=k)
 have h1:1<(c.getD k []).length:=Classical.byContradiction fun hn=>by rw[if_neg hn] at hl;omega
 rw[if_pos h1] at hl
 have hfc:(qaG c k)[i]=qdm c ((c.getD k []).eraseIdx i):=by
  have:(qaG c k)[i]? = some (qdm c ((c.getD k []).eraseIdx i)):=by
   unfold qaG qcw
   rw[if_pos h1,List.map_map,List.getElem?_map,List.getElem?_range (by omega)];rfl
  rw[List.getElem?_eq_getElem hi] at this
  exact Option.some.inj this
 have hin:(c.getD k []).eraseIdx i∈c:=h.2.2.2 k hk _ (qdd.2 ⟨h1,i,by omega,rfl⟩)
 unfold fc
 rw[qah hi]
 refine⟨?_,by omega,?_⟩
 ·rw[qap hi];congr 1;omega
 ·rw[hfc];exact qpO hin
theorem VS.map{c:List Sim}{p:Int}{st:Sim}{ms:List Mat}(h:VS c p st ms){k i:Nat}(hk:k<c.length)(hi:i<(qaG c k).length):plc c k+i<ms.length∧Bt (mp c ms k i) p (st.getD (fc c k i) 0) (st.getD k 0):=by
 have hg:=qcr hk hi
 have hlt:=(List.getElem?_eq_some_iff.1 hg).1
 exact⟨by rw[← h.2.2.2.1];exact hlt,h.2.2.2.2 k hk i hi⟩
theorem ql2(c:List Sim)(p:Int)(st:Sim)(ms:List Mat)(k:Nat)(hk:k≤c.length)(hv:VC c):Ret E n_Z56 [dLL c,dI p,dL st,dMs ms,dI (k:Int)] ⟨o_Z56,(((plc c k:Nat):Int),())⟩:=by
 have h48:=hv.1
 have htl:(c.take k).length=k:=by rw[List.length_take];omega
 refine qal ?_
 simp only[run_Z56,Z56.ev,Int.toNat_natCast,htl]
 refine qar (by simp;omega) ?_
 refine Ev.start (p:=fun φ n=>Z56.l0 (mkR (run E (φ 0))) (φ 0) n 0 (c.take k) (k:Int) 0=_) 1 ?_ (fun _ _ _ h=>h)
 have:=qaq 1 (L:=fun φ n j a=>Z56.l0 (mkR (run E (φ 0))) (φ 0) n a (c.take k) (k:Int) j) (len:=k) (fun j=>((plc c j:Nat):Int)) (r:=some ⟨o_Z56,(((plc c k:Nat):Int),())⟩) (fun _ _ _ _ _=>rfl) (fun j r hj ih=>?_) ?_
 ·exact this
 ·simp only[Z56.l0_succ _ qag]
  have hjc:j<c.length:=by omega
  have hpl:=hv.plc (k:=j) (by omega)
  have h4:=hv.len4 hjc
  have e:=qfd (c:=c) (k:=j)
  rw[qaF] at e
  rw[qah hjc] at e h4
  have hjt:j<(c.take k).length:=by omega
  have hgt:(c.take k)[j]=c[j]:=List.getElem_take
  refine qaD (decide_eq_true (by omega)) (qaf (qap hjt) ?_)
  rw[hgt]
  refine qeu (fun hl=>qaa (qex _) ?_) fun hl=>?_
  ·rw[if_pos (by omega)] at e
   rw[qae (by omega),qad (by omega) (by omega)]
   rw[e] at ih
   simpa using ih
  ·rw[if_neg (by omega)] at e
   rw[qae (by omega)]
   rw[e] at ih;exact ih
 ·simp only[Z56.l0_succ _ qag]
  exact qaJ (decide_eq_false (by omega)) qam
theorem qdO(c:List Sim)(p:Int)(st:Sim)(ms:List Mat)(k i:Nat)(hk:k<c.length)(hi:i<(qaG c k).length)(h:VS c p st ms):Ret E n_Z43 [dLL c,dI p,dL st,dMs ms,dI (k:Int),dI (i:Int)] ⟨o_Z43,mp c ms k i⟩:=by
 have h48:=h.1.1
 have hpl:=h.1.plc (k:=k) (by omega)
 have h4:=h.1.fIdx4 hk
 obtain⟨ht,_⟩:=h.map hk hi
 refine qal ?_
 simp only[run_Z43,Z43.ev]
 refine qaa (ql2 c p st ms k (by omega) h.1) ?_
 simp only
 rw[qad (by omega) (by omega),show((plc c k:Nat):Int)+(i:Int)=((plc c k+i:Nat):Int) by omega]
 refine qaf (qap ht) (qai ?_)
 rw[mp,qah ht]
noncomputable def two(c:List Sim)(ms:List Mat)(k i j:Nat):Mat:=qfV (mp c ms k i) (mp c ms (fc c k i) j)
theorem qqn{a b:Mat}(ha:VM a)(hb:VM b):(qfV a b).2.2.2.1.length≤1048576:=by
 show(qav _ _ _).length≤_
 rw[qau]
 have h1:=ha.2.1
 have h2:=hb.2.2.1
 have:=qcZ (R:=a.2.1.toNat) (C:=b.2.2.1.toNat) (by omega) (by omega)
 omega
structure Sq (c:List Sim) (p:Int) (st:Sim) (ms:List Mat) (k i j:Nat):Prop where
 kl:k<c.length
 n3:3≤(c.getD k []).length
 il:i<(c.getD k []).length
 jl:j+1<(c.getD k []).length
 v:VS c p st ms
theorem Sq.hi{c p st ms k i j}(h:Sq c p st ms k i j):i<(qaG c k).length:=by
 have:=h.n3;have:=h.il
 rw[qaF,if_pos (by omega)];exact this
theorem Sq.fk{c p st ms k i j}(h:Sq c p st ms k i j):fc c k i<c.length:=(qby h.v.1 h.kl h.hi).2.1
theorem Sq.hj{c p st ms k i j}(h:Sq c p st ms k i j):j<(qaG c (fc c k i)).length:=by
 have h1:=h.n3;have h2:=h.il;have h3:=h.jl
 have e:=(qby h.v.1 h.kl h.hi).2.2
 rw[qaF,e,List.length_eraseIdx,if_pos h2,if_pos (by omega)];omega
theorem Sq.b1{c p st ms k i j}(h:Sq c p st ms k i j):VM (mp c ms k i):=((h.v.map h.kl h.hi).2).1
theorem Sq.b2{c p st ms k i j}(h:Sq c p st ms k i j):VM (mp c ms (fc c k i) j):=((h.v.map h.fk h.hj).2).1
theorem Sq.sh{c p st ms k i j}(h:Sq c p st ms k i j):(mp c ms k i).2.2.1=(mp c ms (fc c k i) j).2.1:=by
 rw[((h.v.map h.kl h.hi).2).2.2.2,((h.v.map h.fk h.hj).2).2.2.1]
theorem Sq.impl{c p st ms k i j}(h:Sq c p st ms k i j):Ret E n_Z77 [dI (mp c ms k i).1,dI (mp c ms k i).2.1,dI (mp c ms k i).2.2.1,dL (mp c ms k i).2.2.2.1,dI (mp c ms (fc c k i) j).1,dI (mp c ms (fc c k i) j).2.1,dI (mp c ms (fc c k i) j).2.2.1,dL (mp c ms (fc c k i) j).2.2.2.1] ⟨o_Z77,two c ms k i j⟩ :=
 qmr _ _ h.b1 h.b2 h.sh
end VeT
open Go Go.Proofs Ve
namespace VeT
def Bq(c:List Sim)(ms:List Mat)(k i j:Nat):Prop:=two c ms k i (j-1)≠two c ms k j i
def Pi(c:List Sim)(ms:List Mat)(k i:Nat):Prop:=∃ j,i+1≤j∧j<i+1+((c.getD k []).length-(i+1))∧Bq c ms k i j
def Pk(c:List Sim)(ms:List Mat)(k:Nat):Prop:=3≤(c.getD k []).length∧∃ i,0≤i∧i<0+(c.getD k []).length∧Pi c ms k i
noncomputable def rI(c:List Sim)(ms:List Mat)(out:Nat→Nat→Nat→Option Dv)(k i:Nat)(rn:Option Dv):Option Dv:=orN (out k i) rn (qa1 (Bq c ms k i) (i+1) ((c.getD k []).length-(i+1)))
noncomputable def rK(c:List Sim)(ms:List Mat)(out:Nat→Nat→Nat→Option Dv)(k:Nat)(rn:Option Dv):Option Dv:=orN (fun i=>rI c ms out k i none) rn (qa1 (Pi c ms k) 0 (c.getD k []).length)
noncomputable def qlS(c:List Sim)(ms:List Mat)(out:Nat→Nat→Nat→Option Dv)(rn:Option Dv):Option Dv:=orN (fun k=>rK c ms out k none) rn (qa1 (Pk c ms) 0 c.length)
theorem qtj{c ms out k i}{rn rn':Option Dv}(h:Pi c ms k i):rI c ms out k i rn=rI c ms out k i rn':=by
 obtain⟨j,hj⟩:=qcL h
 unfold rI;rw[hj];rfl
theorem qs4{c ms out k i}{rn:Option Dv}(h:¬ Pi c ms k i):rI c ms out k i rn=rn:=by
 unfold rI
 cases hf:qa1 (Bq c ms k i) (i+1) ((c.getD k []).length-(i+1)) with
 | none=>rfl
 | some j=>exact absurd ⟨j,qaP hf⟩ h
theorem qtn{c ms out k}{rn rn':Option Dv}(h:Pk c ms k):rK c ms out k rn=rK c ms out k rn':=by
 obtain⟨j,hj⟩:=qcL h.2
 unfold rK;rw[hj];rfl
theorem qs9{c ms out k}{rn:Option Dv}(h:¬ Pk c ms k)(h3:3≤(c.getD k []).length):rK c ms out k rn=rn:=by
 unfold rK
 cases hf:qa1 (Pi c ms k) 0 (c.getD k []).length with
 | none=>rfl
 | some j=>exact absurd ⟨h3,j,qaP hf⟩ h
noncomputable def qcu(c:List Sim)(ms:List Mat):Option (Nat×Nat×Nat) :=
 (qa1 (Pk c ms) 0 c.length).bind fun k=>(qa1 (Pi c ms k) 0 (c.getD k []).length).bind fun i=>(qa1 (Bq c ms k i) (i+1) ((c.getD k []).length-(i+1))).map fun j=>(k,i,j)
theorem qiX{c ms k i j}(h:qcu c ms=some (k,i,j)):k<c.length∧3≤(c.getD k []).length∧i<j∧j<(c.getD k []).length∧∀ out rn,qlS c ms out rn=out k i j:=by
 unfold qcu at h
 obtain⟨k',hk,h⟩:=Option.bind_eq_some_iff.1 h
 obtain⟨i',hi,h⟩:=Option.bind_eq_some_iff.1 h
 obtain⟨j',hj,h⟩:=Option.map_eq_some_iff.1 h
 simp only[Prod.mk.injEq] at h
 obtain⟨rfl,rfl,rfl⟩:=h
 have a:=qaP hk
 have b:=qaP hi
 have d:=qaP hj
 refine⟨by omega,a.2.2.1,by omega,by omega,fun out rn=>?_⟩
 unfold qlS rK rI
 rw[hk];simp only[orN];rw[hi];simp only[orN];rw[hj]
theorem qix{c ms}(h:qcu c ms=none):∀ out rn,qlS c ms out rn=rn:=by
 intro out rn
 unfold qlS
 cases hk:qa1 (Pk c ms) 0 c.length with
 | none=>rfl
 | some k =>
  have a:=qaP hk
  obtain⟨i,hi⟩:=qcL a.2.2.2
  obtain⟨j,hj⟩:=qcL (qaP hi).2.2
  unfold qcu at h
  rw[hk] at h
  simp only[Option.bind_some] at h
  rw[hi] at h
  simp only[Option.bind_some] at h
  rw[hj] at h
  cases h
theorem qgT(c:List Sim)(k:Nat)(hk:k<c.length)(hc:Sm (.sl (.sl (.int .i64))) c)(hv:VC c):Ret E n_Z48 [dLL c,dI (k:Int)] ⟨o_Z48,(qaG c k,())⟩:=qdh c k hk hc hv.srt
noncomputable def qqY(c:List Sim)(k i j:Nat):Option Dv:=some ⟨o_Z95,((k:Int),(qaG c (fc c k i)).getD (j-1) 0,true,())⟩
theorem qhm(c:List Sim)(p:Int)(st:Sim)(ms:List Mat)(hc:Sm (.sl (.sl (.int .i64))) c)(h:VS c p st ms):Ev fun φ=>run E (φ 0+1) n_Z95 [dLL c,dI p,dL st,dMs ms]=qlS c ms (qqY c) (some ⟨o_Z95,(0,0,false,())⟩):=by
  have hv:=h.1
  have h48:=hv.1
  simp only[run_Z95,Z95.ev]
  refine Ev.start (p:=fun φ n=>Z95.l0 (mkR (run E (φ 0))) (φ 0) n c (c.length:Int) 0 c p st ms=_) 1 ?_ (fun _ _ _ h=>h)
  have inner3:∀ k i (hk:k<c.length) (hn:3≤(c.getD k []).length) (hi:i<(c.getD k []).length) (rn:Option Dv),
      (¬ Pi c ms k i→Ev fun φ=>Z95.l1 (mkR (run E (φ 0))) (φ 0) (φ 1) (φ 2) (c.getD k []) (k:Int) (qaG c k) c (c.length:Int) (k:Int) ((c.getD k []).length:Int) ((i+1:Nat):Int) c p st ms=rn) →
      Ev fun φ=>Z95.l2 (mkR (run E (φ 0))) (φ 0) (φ 1) (φ 2) (φ 0) (c.getD k []) (k:Int) (qaG c k) (i:Int) ((i+1:Nat):Int) c (c.length:Int) (k:Int) ((c.getD k []).length:Int) (i:Int) c p st ms=rI c ms (qqY c) k i rn:=by
    intro k i hk hn hi rn hrn
    have h4:=hv.len4 hk
    refine Ev.start (p:=fun φ n=>Z95.l2 (mkR (run E (φ 0))) (φ 0) (φ 1) (φ 2) n (c.getD k []) (k:Int) (qaG c k) (i:Int) ((i+1:Nat):Int) c (c.length:Int) (k:Int) ((c.getD k []).length:Int) (i:Int) c p st ms=_) 3 ?_ (fun _ _ _ h=>h)
    -- one round
    have round:∀ j (hij:i+1≤j) (hj:j<(c.getD k []).length) (r:Option Dv),
        (Ev fun φ=>(bif (!pb (two c ms k i (j-1)=two c ms k j i)) then qqY c k i j else Z95.l2 (mkR (run E (φ 0))) (φ 0) (φ 1) (φ 2) (φ 3) (c.getD k []) (k:Int) (qaG c k) (i:Int) (w64 ((j:Int)+1)) c (c.length:Int) (k:Int) ((c.getD k []).length:Int) (i:Int) c p st ms)=r) →
        Ev fun φ=>Z95.l2 (mkR (run E (φ 0))) (φ 0) (φ 1) (φ 2) (φ 3+1) (c.getD k []) (k:Int) (qaG c k) (i:Int) (j:Int) c (c.length:Int) (k:Int) ((c.getD k []).length:Int) (i:Int) c p st ms=r:=by
      intro j hij hj r hr
      have s1:Sq c p st ms k i (j-1):=⟨hk,hn,hi,by omega,h⟩
      have s2:Sq c p st ms k j i:=⟨hk,hn,hj,by omega,h⟩
      obtain⟨ix1,F1,_⟩:=qby hv hk s1.hi
      obtain⟨ix2,F2,_⟩:=qby hv hk s2.hi
      have g1:=qdO c p st ms k i hk s1.hi h
      have g2:=qdO c p st ms (fc c k i) (j-1) F1 s1.hj h
      have g3:=qdO c p st ms k j hk s2.hi h
      have g4:=qdO c p st ms (fc c k j) i F2 s2.hj h
      have ej:w64 ((j:Int)-1)=((j-1:Nat):Int):=by rw[qad (by omega) (by omega)];omega
      have j4:Ev fun φ=>Z95.j4 (mkR (run E (φ 0))) (φ 0) (φ 1) (φ 2) (φ 3) (c.getD k []) (k:Int) (qaG c k) (i:Int) (j:Int) c (c.length:Int) (k:Int) ((c.getD k []).length:Int) (i:Int) c p st ms
          (two c ms k i (j-1)).1 (two c ms k i (j-1)).2.1 (two c ms k i (j-1)).2.2.1 (two c ms k i (j-1)).2.2.2.1 (two c ms k j i).1 (two c ms k j i).2.1 (two c ms k j i).2.2.1 (two c ms k j i).2.2.2.1=r:=by
        simp only[Z95.j4_eq _ qag,ej]
        refine qaa (qiS (two c ms k i (j-1)) (two c ms k j i) (qqn s1.b1 s1.b2)) ?_
        by_cases he:two c ms k i (j-1)=two c ms k j i
        · rw[qaI he] at hr ⊢
          exact qaJ rfl (by simpa using hr)
        · rw[qaw he] at hr ⊢
          refine qaD rfl (qaf ix1 (qaa (qgT c (fc c k i) F1 hc hv) (qaf (qap s1.hj) ?_)))
          have:qqY c k i j=r:=by
            obtain⟨n0,hr⟩:=hr
            exact hr (fun _=>n0) (fun _=>Nat.le_refl _)
          rw[← this,qqY,qah s1.hj];exact qam
      have j3:Ev fun φ=>Z95.j3 (mkR (run E (φ 0))) (φ 0) (φ 1) (φ 2) (φ 3) (c.getD k []) (k:Int) (qaG c k) (i:Int) (j:Int) c (c.length:Int) (k:Int) ((c.getD k []).length:Int) (i:Int) c p st ms
          (two c ms k i (j-1)).1 (two c ms k i (j-1)).2.1 (two c ms k i (j-1)).2.2.1 (two c ms k i (j-1)).2.2.2.1=r:=by
        simp only[Z95.j3_eq _ qag]
        refine qaf ix2 (qb6 (qaa g3 (qb6 (qaa g4 (qb6 (qaa s2.impl j4) (qaa s2.impl j4))) (qaa g4 (qaa s2.impl j4)))) (qaa g3 (qaa g4 (qaa s2.impl j4))))
      simp only[Z95.l2_succ _ qag,ej]
      refine qaD (decide_eq_true (by omega)) (qaf ix1 (qb6 (qaa g1 (qb6 (qaa g2 (qb6 (qaa s1.impl j3) (qaa s1.impl j3))) (qaa g2 (qaa s1.impl j3)))) (qaa g1 (qaa g2 (qaa s1.impl j3)))))
    refine qgR 3 (L:=fun φ n j=>Z95.l2 (mkR (run E (φ 0))) (φ 0) (φ 1) (φ 2) n (c.getD k []) (k:Int) (qaG c k) (i:Int) j c (c.length:Int) (k:Int) ((c.getD k []).length:Int) (i:Int) c p st ms) (len:=(c.getD k []).length) (Bq c ms k i) (qqY c k i) rn (fun _ _ _ _=>rfl) (i+1) (fun j h1 h2 hB=>?_) (fun j q h1 h2 hB ih=>?_) (fun hno=>?_) _ (by omega)
    · refine round j h1 h2 _ (qaD ?_ qam)
      rw[qaw hB];rfl
    · refine round j h1 h2 _ (qaJ ?_ ?_)
      · rw[qaI (Classical.not_not.1 hB)];rfl
      · rw[qae (by omega)];exact ih
    · simp only[Z95.l2_succ _ qag]
      refine qaJ (decide_eq_false (by omega)) ?_
      rw[qae (by omega)];exact hrn fun⟨j,h1,h2,h3⟩=>hno j h1 (by omega) h3
  have inner2:∀ k (hk:k<c.length) (hn:3≤(c.getD k []).length) (rn:Option Dv),
      (¬ Pk c ms k→Ev fun φ=>Z95.l0 (mkR (run E (φ 0))) (φ 0) (φ 1) c (c.length:Int) ((k+1:Nat):Int) c p st ms=rn) →
      Ev fun φ=>Z95.l1 (mkR (run E (φ 0))) (φ 0) (φ 1) (φ 0) (c.getD k []) (k:Int) (qaG c k) c (c.length:Int) (k:Int) ((c.getD k []).length:Int) 0 c p st ms=rK c ms (qqY c) k rn:=by
    intro k hk hn rn hrn
    have h4:=hv.len4 hk
    refine Ev.start (p:=fun φ n=>Z95.l1 (mkR (run E (φ 0))) (φ 0) (φ 1) n (c.getD k []) (k:Int) (qaG c k) c (c.length:Int) (k:Int) ((c.getD k []).length:Int) 0 c p st ms=_) 2 ?_ (fun _ _ _ h=>h)
    refine qgR 2 (L:=fun φ n i=>Z95.l1 (mkR (run E (φ 0))) (φ 0) (φ 1) n (c.getD k []) (k:Int) (qaG c k) c (c.length:Int) (k:Int) ((c.getD k []).length:Int) i c p st ms) (len:=(c.getD k []).length) (Pi c ms k) (fun i=>rI c ms (qqY c) k i none) rn (fun _ _ _ _=>rfl) 0 (fun i h1 h2 hP=>?_) (fun i q h1 h2 hP ih=>?_) (fun hno=>?_) _ (by omega)
    · simp only[Z95.l1_succ _ qag]
      refine qaD (decide_eq_true (by omega)) ?_
      rw[qae (by omega)]
      exact inner3 k i hk hn h2 none fun hn=>absurd hP hn
    · simp only[Z95.l1_succ _ qag]
      refine qaD (decide_eq_true (by omega)) ?_
      rw[qae (by omega)]
      exact(inner3 k i hk hn h2 q fun _=>ih).to (qs4 hP)
    · simp only[Z95.l1_succ _ qag]
      refine qaJ (decide_eq_false (by omega)) ?_
      rw[qae (by omega)];exact hrn fun⟨_,i,h1,h2,h3⟩=>hno i h1 (by omega) h3
  refine qgR 1 (L:=fun φ n k=>Z95.l0 (mkR (run E (φ 0))) (φ 0) n c (c.length:Int) k c p st ms) (len:=c.length) (Pk c ms) (fun k=>rK c ms (qqY c) k none) _ (fun _ _ _ _=>rfl) 0 (fun k h1 h2 hP=>?_) (fun k q h1 h2 hP ih=>?_) (fun hno=>?_) _ (by omega)
  · simp only[Z95.l0_succ _ qag]
    refine qaD (decide_eq_true (by omega)) (qaf (qap h2) ?_)
    have hn:=hP.1
    rw[← qah (d:=[]) h2]
    exact qaJ (decide_eq_false (by omega)) (qaa (qgT c k h2 hc hv) (inner2 k h2 hn none fun hn=>absurd hP hn))
  · simp only[Z95.l0_succ _ qag]
    refine qaD (decide_eq_true (by omega)) (qaf (qap h2) ?_)
    rw[← qah (d:=[]) h2]
    refine qeu (fun hlt=>?_) fun hlt=>?_
    · rw[qae (by omega)];exact ih
    · exact qaa (qgT c k h2 hc hv) ((inner2 k h2 (by omega) q fun _=>ih).to (qs9 hP (by omega)))
  · simp only[Z95.l0_succ _ qag]
    exact qaJ (decide_eq_false (by omega)) qam
end VeT
open Go Go.Proofs Ve
namespace VeT
noncomputable def wI(c:List Sim)(ms:List Mat):Int×Int×Bool×Unit:=match qcu c ms with
 | some (k,i,j)=>((k:Int),(qaG c (fc c k i)).getD (j-1) 0,true,())
 | none=>(0,0,false,())
theorem qih(c:List Sim)(p:Int)(st:Sim)(ms:List Mat)(hc:Sm (.sl (.sl (.int .i64))) c)(h:VS c p st ms):Ret E n_Z95 [dLL c,dI p,dL st,dMs ms] ⟨o_Z95,wI c ms⟩:=by
 refine qal ((qhm c p st ms hc h).to ?_)
 cases hw:qcu c ms with
 | none=>rw[qix hw,wI,hw]
 | some t =>
  obtain⟨k,i,j⟩:=t
  rw[(qiX hw).2.2.2.2,wI,hw];rfl
def ISh(x:Shf):Prop:=VS x.1 x.2.1 x.2.2.1 x.2.2.2.1∧qcu x.1 x.2.2.2.1=none
theorem qdi(x:Shf)(hx:Sm (.st cS) x):Ret E n_Z13 [dLL x.1,dI x.2.1,dL x.2.2.1,dMs x.2.2.2.1] ⟨o_Z13,(pb (ISh x),())⟩:=by
 refine qal ?_
 simp only[run_Z13,Z13.ev]
 refine qaa (qkg x hx) (qcj (fun h=>qai ?_) fun h=>?_)
 ·have h:=qbc.1 (show pb (VS x.1 x.2.1 x.2.2.1 x.2.2.2.1)=false by simpa using h)
  rw[qaw fun hi=>h hi.1]
 ·have h:=qaL.1 (show pb (VS x.1 x.2.1 x.2.2.1 x.2.2.2.1)=true by simpa using h)
  refine qaa (qih _ _ _ _ hx.1 h) (qai ?_)
  have:(!(wI x.1 x.2.2.2.1).2.2.1)=pb (ISh x):=qja (by
   unfold ISh wI
   cases hw:qcu x.1 x.2.2.2.1 with
   | none=>simp[h]
   | some t=>simp)
  rw[this]
theorem qfF{s:Sim}{i j:Nat}(h:i<j):(s.eraseIdx j).eraseIdx i=(s.eraseIdx i).eraseIdx (j-1):=by
 apply List.ext_getElem?
 intro n
 rw[List.getElem?_eraseIdx,List.getElem?_eraseIdx,List.getElem?_eraseIdx,List.getElem?_eraseIdx]
 by_cases h1:n<i
 ·rw[if_pos h1,if_pos (by omega),if_pos (by omega),List.getElem?_eraseIdx,if_pos h1]
 ·by_cases h2:n+1<j
  ·rw[if_neg h1,if_pos h2,if_pos (by omega),List.getElem?_eraseIdx,if_neg h1]
  ·rw[if_neg h1,if_neg h2,if_neg (by omega),List.getElem?_eraseIdx,if_neg (by omega)]
def SDn(c:List Sim)(st:Sim)(d:Int)(n:Nat):Int:=((qak c d n).map fun i=>st.getD i.toNat 0).sum
theorem qgr{c:List Sim}{st:Sim}{d:Int}:SD c st d=SDn c st d c.length:=by
 unfold SD qjk SDn
 rw[List.take_of_length_le (Nat.le_refl _)]
theorem qe9{c:List Sim}{st:Sim}{d:Int}{n:Nat}:SDn c st d (n+1)=SDn c st d n+if ((c.getD n []).length:Int)=d+1 then st.getD n 0 else 0:=by
 unfold SDn
 rw[qbN,List.map_append,List.sum_append]
 split<;>simp
def EuN(c:List Sim)(st:Sim)(n:Nat):Int:=SDn c st 0 n-SDn c st 1 n+SDn c st 2 n-SDn c st 3 n
open Classical in
noncomputable def qlm(x:Shf):Int×Int×Unit:=if ISh x then(EuN x.1 x.2.2.1 x.1.length,0,()) else(0,1,())
theorem qgv{c:List Sim}{p:Int}{st:Sim}{ms:List Mat}(h:VS c p st ms)(d:Nat)(hd:d<4):0≤SD c st (d:Int)∧SD c st (d:Int)≤32:=⟨qnU h.2.2.1.2.1 _,h.2.2.1.2.2 d hd⟩
theorem qga(x:Shf)(hx:Sm (.st cS) x):Ret E n_Z18 [dLL x.1,dI x.2.1,dL x.2.2.1,dMs x.2.2.2.1] ⟨o_Z18,qlm x⟩:=by
 refine qal ?_
 simp only[run_Z18,Z18.ev]
 refine qaa (qdi x hx) (qcj (fun h=>qai ?_) fun h=>?_)
 ·have h:=qbc.1 (show pb (ISh x)=false by simpa using h)
  rw[qlm,if_neg h]
 ·have h:=qaL.1 (show pb (ISh x)=true by simpa using h)
  have hs:=h.1
  have b0:=qgv hs 0 (by omega)
  have b1:=qgv hs 1 (by omega)
  have b2:=qgv hs 2 (by omega)
  have b3:=qgv hs 3 (by omega)
  have c0:=qbn x.1 x.2.2.1 0 x.2.1 x.2.2.2.1 hx.1 hs.2.2.1.1 hs.2.2.1.2.1 (by omega)
  have c1:=qbn x.1 x.2.2.1 1 x.2.1 x.2.2.2.1 hx.1 hs.2.2.1.1 hs.2.2.1.2.1 (by omega)
  have c2:=qbn x.1 x.2.2.1 2 x.2.1 x.2.2.2.1 hx.1 hs.2.2.1.1 hs.2.2.1.2.1 (by omega)
  have c3:=qbn x.1 x.2.2.1 3 x.2.1 x.2.2.2.1 hx.1 hs.2.2.1.1 hs.2.2.1.2.1 (by omega)
  refine qaa c0 (qaa c1 (qaa c2 (qaa c3 (qai ?_))))
  rw[qlm,if_pos h]
  have e:w64 (w64 (w64 (SD x.1 x.2.2.1 0-SD x.1 x.2.2.1 1)+SD x.1 x.2.2.1 2)-SD x.1 x.2.2.1 3)=EuN x.1 x.2.2.1 x.1.length:=by
   have d0:((0:Nat):Int)=0:=rfl
   have d1:((1:Nat):Int)=1:=rfl
   have d2:((2:Nat):Int)=2:=rfl
   have d3:((3:Nat):Int)=3:=rfl
   rw[d0] at b0;rw[d1] at b1;rw[d2] at b2;rw[d3] at b3
   rw[qad (n:=SD x.1 x.2.2.1 0-SD x.1 x.2.2.1 1) (by omega) (by omega),qad (n:=SD x.1 x.2.2.1 0-SD x.1 x.2.2.1 1+SD x.1 x.2.2.1 2) (by omega) (by omega),qad (by omega) (by omega),EuN,← qgr,← qgr,← qgr,← qgr]
  exact congrArg (fun v:Int=>some (⟨o_Z18,(v,0,())⟩:Dv)) e
end VeT
open Go Go.Proofs Ve
namespace VeT
theorem qkq{st:Sim}(hst:∀ x∈st,0≤x∧x≤3)(k:Nat):0≤st.getD k 0∧st.getD k 0≤3:=by
 by_cases hl:k<st.length
 ·rw[qah hl];exact hst _ (List.getElem_mem hl)
 ·rw[List.getD_eq_getElem?_getD,List.getElem?_eq_none (by omega)];simp
theorem qlN{c:List Sim}{st:Sim}{d:Int}(hst:∀ x∈st,0≤x∧x≤3):∀ {n:Nat},0≤SDn c st d n∧SDn c st d n≤3*n
 | 0=>by simp[SDn,qak]
 | n+1=>by
  have h1:=qlN (c:=c) (d:=d) hst (n:=n)
  have h2:=qkq hst n
  rw[qe9];split<;>omega
theorem qp8{c:List Sim}{st:Sim}{d:Int}(hst:∀ x∈st,0≤x∧x≤3){n m:Nat}(h:n≤m):SDn c st d n≤SDn c st d m:=by
 induction h with
 | refl=>exact Int.le_refl _
 | @step m h ih=>rw[qe9];have:=qkq hst m;split<;>omega
theorem qoI{c:List Sim}{st:Sim}{d:Int}(hst:∀ x∈st,0≤x∧x≤3){s n:Nat}(hs:s<n)(hd:((c.getD s []).length:Int)=d+1):SDn c st d s+st.getD s 0≤SDn c st d n:=by
 have:=qp8 (c:=c) (d:=d) hst (show s+1≤n from hs)
 rw[qe9,if_pos hd] at this;exact this
theorem qeQ{c:List Sim}{d:Int}{s n:Nat}(hs:s<n)(hd:((c.getD s []).length:Int)=d+1):∃ tl,qak c d n=qak c d s++(s:Int)::tl:=by
 induction n with
 | zero=>omega
 | succ n ih =>
  rw[qbN]
  by_cases h:s=n
  ·subst h;exact⟨[],by rw[if_pos hd]⟩
  ·obtain⟨tl,e⟩:=ih (by omega)
   exact⟨tl++_,by rw[e,List.append_assoc];rfl⟩
theorem qbJ{c:List Sim}{d:Int}{k:Nat}{x:Int}:x∈qak c d k↔∃ i:Nat,x=i∧i<k∧((c.getD i []).length:Int)=d+1:=by
 unfold qak
 rw[List.mem_map]
 constructor
 ·rintro⟨i,hi,rfl⟩
  have:=List.mem_filter.1 hi
  exact⟨i,rfl,by simpa using this.1,by simpa using this.2⟩
 ·rintro⟨i,rfl,h1,h2⟩
  exact⟨i,List.mem_filter.2 ⟨by simpa using h1,by simpa using h2⟩,rfl⟩
def FC(c:List Sim)(st:Sim)(s:Nat):Int:=SDn c st (((c.getD s []).length:Int)-1) s
theorem qnp{c:List Sim}{st:Sim}(hst:∀ x∈st,0≤x∧x≤3){s:Nat}(hs:s<c.length):0≤FC c st s∧FC c st s+st.getD s 0≤SD c st (((c.getD s []).length:Int)-1):=by
 refine⟨(qlN hst).1,?_⟩
 rw[qgr]
 exact qoI hst hs (by omega)
abbrev St:=List (Nat×Int)
def qfb(S:St)(cs:Sim):Sim:=S.foldl (fun cs q=>cs.set q.1 q.2) cs
theorem qda{S T:St}{cs:Sim}:qfb (S++T) cs=qfb T (qfb S cs):=by simp[qfb]
theorem qsW{q:Nat}{v:Int}{cs:Sim}:qfb [(q,v)] cs=cs.set q v:=rfl
theorem qcC{S:St}:∀ {cs:Sim},(qfb S cs).length=cs.length:=by
 induction S with
 | nil=>intro cs;rfl
 | cons q S ih=>intro cs;show(qfb S (cs.set q.1 q.2)).length=_;rw[ih,List.length_set]
theorem qjT{p:Int}{S:St}:∀ {cs:Sim},qaE cs p→(∀ q∈S,0≤q.2∧q.2≤p-1)→qaE (qfb S cs) p:=by
 induction S with
 | nil=>intro cs h _;exact h
 | cons q S ih =>
  intro cs h hS
  refine ih (cs:=cs.set q.1 q.2) (fun x hx=>?_) fun y hy=>hS y (List.mem_cons_of_mem _ hy)
  rcases List.mem_or_eq_of_mem_set hx with hx | rfl
  ·exact h x hx
  ·exact hS q List.mem_cons_self
theorem qly{S:St}{q:Nat}:∀ {cs:Sim},(∀ x∈S,x.1≠q)→(qfb S cs).getD q 0=cs.getD q 0:=by
 induction S with
 | nil=>intro cs _;rfl
 | cons y S ih =>
  intro cs h
  have e:=ih (cs:=cs.set y.1 y.2) fun x hx=>h x (List.mem_cons_of_mem _ hx)
  show(qfb S (cs.set y.1 y.2)).getD q 0=_
  rw[e,List.getD_eq_getElem?_getD,List.getD_eq_getElem?_getD,List.getElem?_set_ne (h y List.mem_cons_self)]
theorem qqO{S:St}{q:Nat}{v:Int}:∀ {cs:Sim},q<cs.length→(∀ x∈S,x.1=q→x.2=v)→(∃ x∈S,x.1=q)→(qfb S cs).getD q 0=v:=by
 induction S with
 | nil=>intro cs _ _ ⟨x,hx,_⟩;simp at hx
 | cons y S ih =>
  intro cs hq hall ⟨x,hx,e⟩
  show(qfb S (cs.set y.1 y.2)).getD q 0=_
  by_cases hS:∃ x∈S,x.1=q
  ·exact ih (by rw[List.length_set];exact hq) (fun x hx=>hall x (List.mem_cons_of_mem _ hx)) hS
  ·rw[qly fun x hx e=>hS ⟨x,hx,e⟩]
   rcases List.mem_cons.1 hx with rfl | hx
   ·subst e
    rw[List.getD_eq_getElem?_getD,List.getElem?_set_self hq]
    exact hall x List.mem_cons_self rfl
   ·exact absurd ⟨x,hx,e⟩ hS
def sgn(p:Int)(a:Nat):Int:=if a%2=0 then 1 else p-1
theorem qro{p:Int}(hp:2≤p∧p≤251)(a:Nat):0≤sgn p a∧sgn p a≤p-1:=by
 unfold sgn;split<;>omega
def stJ(p:Int)(m:Mat)(W top left:Nat)(sg:Int)(i n:Nat):St:=(List.range n).map fun j=>((top+i)*W+left+j,m.2.2.2.1.getD (i*m.2.2.1.toNat+j) 0*sg%p)
def stI(p:Int)(m:Mat)(W top left:Nat)(sg:Int)(n:Nat):St:=(List.range n).flatMap fun i=>stJ p m W top left sg i m.2.2.1.toNat
noncomputable def stF(c:List Sim)(p:Int)(st:Sim)(ms:List Mat)(k:Int)(s n:Nat):St :=
 (List.range n).flatMap fun a=>stI p (mp c ms s a) (SD c st k).toNat (FC c st s).toNat (FC c st (fc c s a)).toNat (sgn p a) (mp c ms s a).2.1.toNat
noncomputable def stS(c:List Sim)(p:Int)(st:Sim)(ms:List Mat)(k:Int)(n:Nat):St :=
 ((qak c (k+1) c.length).take n).flatMap fun s=>stF c p st ms k s.toNat (qaG c s.toNat).length
open Classical in
noncomputable def qet(c:List Sim)(p:Int)(st:Sim)(ms:List Mat)(k:Int):Sim :=
 if k<0 then List.replicate ((SD c st (k+1)).toNat*(SD c st k).toNat) 0 else qfb (stS c p st ms k (qak c (k+1) c.length).length) (List.replicate ((SD c st (k+1)).toNat*(SD c st k).toNat) 0)
noncomputable def qsG(c:List Sim)(p:Int)(st:Sim)(ms:List Mat)(k:Int):Mat:=(p,SD c st (k+1),SD c st k,qet c p st ms k,())
theorem qo0{p:Int}{m:Mat}{W top left:Nat}{sg:Int}{i n:Nat}{q:Nat×Int}:q∈stJ p m W top left sg i n↔∃ j,j<n∧q=((top+i)*W+left+j,m.2.2.2.1.getD (i*m.2.2.1.toNat+j) 0*sg%p):=by
 unfold stJ
 rw[List.mem_map]
 constructor
 ·rintro⟨j,hj,rfl⟩;exact⟨j,List.mem_range.1 hj,rfl⟩
 ·rintro⟨j,hj,rfl⟩;exact⟨j,List.mem_range.2 hj,rfl⟩
theorem qkJ{c:List Sim}{p:Int}{st:Sim}{ms:List Mat}{k:Int}{s n:Nat}{q:Nat×Int}:q∈stF c p st ms k s n↔∃ a i j,a<n∧i<(mp c ms s a).2.1.toNat∧j<(mp c ms s a).2.2.1.toNat ∧
  q=(((FC c st s).toNat+i)*(SD c st k).toNat+(FC c st (fc c s a)).toNat+j,(mp c ms s a).2.2.2.1.getD (i*(mp c ms s a).2.2.1.toNat+j) 0*sgn p a%p):=by
 unfold stF stI
 rw[List.mem_flatMap]
 constructor
 ·rintro⟨a,ha,h⟩
  obtain⟨i,hi,h⟩:=List.mem_flatMap.1 h
  obtain⟨j,hj,e⟩:=qo0.1 h
  exact⟨a,i,j,List.mem_range.1 ha,List.mem_range.1 hi,hj,e⟩
 ·rintro⟨a,i,j,ha,hi,hj,e⟩
  exact⟨a,List.mem_range.2 ha,List.mem_flatMap.2 ⟨i,List.mem_range.2 hi,qo0.2 ⟨j,hj,e⟩⟩⟩
theorem qkC{c:List Sim}{p:Int}{st:Sim}{ms:List Mat}{k:Int}{n:Nat}{q:Nat×Int}(hn:(qak c (k+1) c.length).length≤n):q∈stS c p st ms k n↔∃ s:Nat,s<c.length∧((c.getD s []).length:Int)=k+2∧q∈stF c p st ms k s (qaG c s).length:=by
 unfold stS
 rw[List.take_of_length_le hn,List.mem_flatMap]
 constructor
 ·rintro⟨x,hx,h⟩
  obtain⟨s,rfl,h1,h2⟩:=qbJ.1 hx
  exact⟨s,h1,by omega,h⟩
 ·rintro⟨s,h1,h2,h⟩
  exact⟨(s:Int),qbJ.2 ⟨s,rfl,h1,by omega⟩,h⟩
theorem qdo{c:List Sim}{p:Int}{st:Sim}{ms:List Mat}(h:VS c p st ms){k:Int}{s a:Nat}(hs:s<c.length)(hd:((c.getD s []).length:Int)=k+2)(ha:a<(qaG c s).length) :
  (mp c ms s a).2.1=st.getD s 0∧(mp c ms s a).2.2.1=st.getD (fc c s a) 0∧fc c s a<c.length∧((c.getD (fc c s a) []).length:Int)=k+1 ∧
  (0≤FC c st s∧FC c st s+st.getD s 0≤SD c st (k+1))∧0≤FC c st (fc c s a)∧FC c st (fc c s a)+st.getD (fc c s a) 0≤SD c st k:=by
 obtain⟨_,hb⟩:=h.map hs ha
 obtain⟨_,hf,hg⟩:=qby h.1 hs ha
 have hl:=qaF (c:=c) (k:=s)
 have hfl:((c.getD (fc c s a) []).length:Int)=k+1:=by
  rw[hg,List.length_eraseIdx]
  split at hl
  ·rw[if_pos (by omega)];omega
  ·omega
 have b1:=qnp h.2.2.1.2.1 hs
 have b2:=qnp h.2.2.1.2.1 hf
 rw[show((c.getD s []).length:Int)-1=k+1 by omega] at b1
 rw[show((c.getD (fc c s a) []).length:Int)-1=k by omega] at b2
 exact⟨hb.2.2.1,hb.2.2.2,hf,hfl,b1,b2⟩
theorem qfN{c:List Sim}(hv:VC c)(st:Sim){d:Int}(hd:d<0∨4≤d):SD c st d=0:=by
 have:qak c d c.length=[]:=List.eq_nil_iff_forall_not_mem.2 fun x hx=>by
  obtain⟨i,_,hi,hl⟩:=qbJ.1 hx
  have:=hv.2.1 i hi
  have h1:=this.1
  have h2:=this.2.1
  omega
 rw[qgr,SDn,this];rfl
theorem qc5{c:List Sim}{p:Int}{st:Sim}{ms:List Mat}(h:VS c p st ms)(d:Int):∃ n:Nat,SD c st d=(n:Int)∧n≤32∧(SD c st d).toNat=n:=by
 by_cases hd:d<0∨4≤d
 ·exact⟨0,qfN h.1 st hd,by omega,by rw[qfN h.1 st hd];rfl⟩
 ·have:=qgv h d.toNat (by omega)
  rw[Int.toNat_of_nonneg (by omega)] at this
  exact⟨(SD c st d).toNat,by omega,by omega,rfl⟩
theorem qa4{c:List Sim}{p:Int}{st:Sim}{ms:List Mat}{k:Int}:(qet c p st ms k).length=(SD c st (k+1)).toNat*(SD c st k).toNat:=by
 unfold qet;split
 ·rw[List.length_replicate]
 ·rw[qcC,List.length_replicate]
theorem qi6{n:Nat}{p:Int}(hp:2≤p):qaE (List.replicate n 0) p:=fun x hx=>by
 rw[List.mem_replicate] at hx;omega
theorem qbh{c:List Sim}{p:Int}{st:Sim}{ms:List Mat}(h:VS c p st ms)(k:Int):qaE (qet c p st ms k) p:=by
 have hp:=h.2.1.1
 unfold qet;split
 ·exact qi6 hp
 ·refine qjT (qi6 hp) fun q hq=>?_
  obtain⟨s,_,_,hq⟩:=(qkC (Nat.le_refl _)).1 hq
  obtain⟨a,i,j,_,_,_,rfl⟩:=qkJ.1 hq
  have h0:=Int.emod_nonneg ((mp c ms s a).2.2.2.1.getD (i*(mp c ms s a).2.2.1.toNat+j) 0*sgn p a) (show p≠0 by omega)
  have h1:=Int.emod_lt_of_pos ((mp c ms s a).2.2.2.1.getD (i*(mp c ms s a).2.2.1.toNat+j) 0*sgn p a) (show 0<p by omega)
  exact⟨h0,by simp only;omega⟩
theorem qr2{c:List Sim}{p:Int}{st:Sim}{ms:List Mat}(h:VS c p st ms)(k:Int):VM (qsG c p st ms k):=by
 obtain⟨H,eH,bH,tH⟩:=qc5 h (k+1)
 obtain⟨W,eW,bW,tW⟩:=qc5 h k
 refine⟨h.2.1,by show 0≤SD c st (k+1)∧SD c st (k+1)≤32;omega,by show 0≤SD c st k∧SD c st k≤32;omega,?_,qbh h k⟩
 show((qet c p st ms k).length:Int)=SD c st (k+1)*SD c st k
 rw[qa4,tH,tW,eH,eW,qa3]
def qnR(m:Mat)(v:Sim)(n:Nat):Sim:=(List.range n).map fun i=>qaM (fun l=>m.2.2.2.1.getD (i*m.2.2.1.toNat+l) 0) (fun l=>v.getD l 0) m.2.2.1.toNat%m.1
theorem qfA{m:Mat}{v:Sim}{n:Nat}:(qnR m v n).length=n:=by simp[qnR]
theorem qoe{m:Mat}{v:Sim}{n:Nat}(hp:2≤m.1):qaE (qnR m v n) m.1:=fun x hx=>by
 unfold qnR at hx
 obtain⟨i,_,rfl⟩:=List.mem_map.1 hx
 have h0:=Int.emod_nonneg (qaM (fun l=>m.2.2.2.1.getD (i*m.2.2.1.toNat+l) 0) (fun l=>v.getD l 0) m.2.2.1.toNat) (show m.1≠0 by omega)
 have h1:=Int.emod_lt_of_pos (qaM (fun l=>m.2.2.2.1.getD (i*m.2.2.1.toNat+l) 0) (fun l=>v.getD l 0) m.2.2.1.toNat) (show 0<m.1 by omega)
 omega
end VeT
open Go Go.Proofs Ve
namespace VeT
theorem qpJ(s:Sim)(v:Int)(hs:s.length≤1048576):Ret E n_Z127 [dL s,dI v] ⟨o_Z127,(qhK (fun x=>pb (x=v)) s,())⟩:=by
  obtain⟨o,h1,h2,h3⟩:=qct 1 (L:=fun φ n k=>Z127.l0 (mkR (run E (φ 0))) (φ 0) n s v (s.length:Int) k) (len:=s.length) (fun k=>∃ h:k<s.length,pb (s[k]=v)=true) (fun o=>some ⟨o_Z127,(o2i o,())⟩) (fun _ _ _ _=>rfl) (fun k hk hP=>by
      obtain⟨_,hP⟩:=hP
      have hP:=qaL.1 hP
      simp only[Z127.l0_succ _ qag]
      exact qaD (decide_eq_true (by omega)) (qaf (qap hk) (qaD (by simp[hP]) qam))) (fun k q hk hP ih=>by
      simp only[Z127.l0_succ _ qag]
      refine qaD (decide_eq_true (by omega)) (qaf (qap hk) (qaJ (by simp only[beq_eq_false_iff_ne];exact fun e=>hP ⟨hk,qaI e.symm⟩) ?_))
      rw[qae (by omega)];exact ih) (by
      simp only[Z127.l0_succ _ qag]
      exact qaJ (decide_eq_false (by omega)) qam)
  rw[qdc (p:=fun x=>pb (x=v)) h1 h2] at h3
  refine qal ?_
  simp only[run_Z127,Z127.ev]
  exact Ev.start (p:=fun φ n=>Z127.l0 (mkR (run E (φ 0))) (φ 0) n s v (s.length:Int) 0=_) 1 h3 (fun _ _ _ h=>h)
theorem qlP(s:Sim)(v:Int)(hs:s.length≤1048576):Ret E n_Z115 [dL s,dI v] ⟨o_Z115,(pb (v∈s),())⟩:=by
 refine qal ?_
 simp only[run_Z115,Z115.ev]
 refine qaa (qpJ s v hs) (qai ?_)
 have:decide (qhK (fun x=>pb (x=v)) s≥0)=pb (v∈s):=qja (by
  rw[decide_eq_true_iff,ge_iff_le,qb9]
  exact⟨fun⟨x,h,e⟩=>qaL.1 e ▸ h,fun h=>⟨v,h,qaI rfl⟩⟩)
 simp only[this]
end VeT
open Go Go.Proofs Ve
namespace VeT
theorem qoy(i j:Nat):Ret E n_Z97 [dI (i:Int),dI (j:Int)] ⟨o_Z97,((0:Int),())⟩:=by
 refine qal ?_
 simp only[run_Z97,Z97.ev]
 (first | exact qam | exact Ev.of fun _=>trivial)
theorem qgE{C:Nat}:∀ {n:Nat},qav (fun _ _=>0) C n=List.replicate (n*C) 0
 | 0=>by simp[qav]
 | n+1=>by
  rw[qav,qgE,Nat.add_mul,Nat.one_mul,← List.replicate_append_replicate]
  congr 1
  rw[List.map_const',List.length_range]
theorem qp9(p:Int)(R C:Nat)(hR:R≤32)(hC:C≤32):Ret E n_Z96 [dI p,dI (R:Int),dI (C:Int)] ⟨o_Z96,(p,(R:Int),(C:Int),List.replicate (R*C) 0,())⟩:=by
 have h1:=qcZ hR hC
 refine qal ?_
 simp only[run_Z96,Z96.ev]
 rw[← qgE]
 exact qaa (qer p R C (fun _ _=>0) (by omega) (by omega) (by omega) fun i j _ _=>qoy i j) qam
theorem qeC(c:List Sim)(p:Int)(st:Sim)(ms:List Mat)(s:Nat)(hs:s<c.length)(hc:Sm (.sl (.sl (.int .i64))) c)(hl:st.length=c.length)(hst:∀ x∈st,0≤x∧x≤3) :
  Ret E n_Z55 [dLL c,dI p,dL st,dMs ms,dI (s:Int)] ⟨o_Z55,(FC c st s,())⟩:=by
 have hc1:c.length≤1048576:=hc.1
 have hls:(c[s]).length≤1048576:=(qb0 hc hs).1
 have e:w64 (((c[s]).length:Int)-1)=((c[s]).length:Int)-1:=qad (by omega) (by omega)
 obtain⟨tl,hpre⟩:=qeQ (c:=c) (d:=((c[s]).length:Int)-1) hs (by rw[qah hs];omega)
 have hF:FC c st s=SDn c st (((c[s]).length:Int)-1) s:=by rw[FC,qah hs]
 refine qal ?_
 simp only[run_Z55,Z55.ev]
 refine qaf (qap hs) (qaa (qex _) ?_)
 simp only[e]
 refine qaa (qc6 c (((c[s]).length:Int)-1) hc ⟨by omega,by omega⟩) ?_
 rw[hF]
 generalize ((c[s]).length:Int)-1=d at hpre ⊢
 have hol:=qce c d c.length
 have hlen:(qak c d s).length<(qak c d c.length).length:=by rw[hpre];simp
 refine Ev.start (p:=fun φ n=>Z55.l0 (mkR (run E (φ 0))) (φ 0) n (s:Int) 0 (qak c d c.length) ((qak c d c.length).length:Int) 0 c p st ms=_) 1 ?_ (fun _ _ _ h=>h)
 refine qfn 1 (σ:=Nat) (L:=fun φ n t=>Z55.l0 (mkR (run E (φ 0))) (φ 0) n (s:Int) (qjk c st d t) (qak c d c.length) ((qak c d c.length).length:Int) (t:Int) c p st ms) (fun _ _ _ _=>rfl) (fun t=>t≤(qak c d s).length) (fun _=>_) (fun t=>(qak c d s).length-t) (fun t ht ih=>?_) 0 (Nat.zero_le _)
 have ht:t≤(qak c d s).length:=ht
 have htl:t<(qak c d c.length).length:=by omega
 simp only[Z55.l0_succ _ qag]
 refine qaD (decide_eq_true (by omega)) ?_
 by_cases h:t=(qak c d s).length
 ·have hg:(qak c d c.length)[t]? = some (s:Int):=by rw[hpre,h,List.getElem?_append_right (Nat.le_refl _),Nat.sub_self];rfl
  refine qaf (qbQ.trans hg) (qaD (by simp) (qai ?_))
  have:qjk c st d t=SDn c st d s:=by
   unfold qjk SDn
   rw[hpre,h,List.take_left' rfl]
  rw[this]
 ·have hp:t<(qak c d s).length:=by omega
  obtain⟨i,hi,his⟩:=qdX (List.getElem_mem hp)
  have hg:(qak c d c.length)[t]? = some (i:Int):=by rw[hpre,List.getElem?_append_left hp,List.getElem?_eq_getElem hp,hi]
  have hgi:(qak c d c.length)[t]=(i:Int):=by rw[List.getElem?_eq_getElem htl] at hg;exact Option.some.inj hg
  have hil:i<st.length:=by omega
  have:=ih (t+1) (by show t+1≤_;omega) (by show(qak c d s).length-(t+1)<(qak c d s).length-t;omega)
  rw[qgw _ _ _ _ htl,hgi,Int.toNat_natCast,qah hil] at this
  have hb:=qkY hst d t (c:=c)
  have hb2:=hst _ (List.getElem_mem hil)
  refine qaf (qbQ.trans hg) (qaJ (by simp;omega) (qaf (qap hil) ?_))
  rw[qae (by omega),qad (by omega) (by omega)]
  exact this
theorem qik(p:Int)(i:Nat)(hp:2≤p∧p≤251):Ret E n_Z27 [dI (i:Int),dI p] ⟨o_Z27,(sgn p i,())⟩:=by
 refine qal ?_
 simp only[run_Z27,Z27.ev]
 rw[Int.tmod_eq_emod_of_nonneg (by omega),qad (by omega) (by omega)]
 refine qcj (fun h=>qai ?_) fun h=>qai ?_
 ·have h:(i:Int)%2=0:=by simpa using h
  rw[sgn,if_pos (by omega)]
 ·have h:¬ (i:Int)%2=0:=by simpa using h
  rw[sgn,if_neg (by omega)]
theorem qmY(p:Int)(i:Nat)(hp:2≤p∧p≤251):Ret E n_Z172 [dI (i:Int),dI p] ⟨o_Z172,(sgn p i,())⟩:=by
 refine qal ?_
 simp only[run_Z172,Z172.ev]
 rw[Int.tmod_eq_emod_of_nonneg (by omega),qad (by omega) (by omega)]
 refine qcj (fun h=>qar (by simp;omega) (qai ?_)) fun h=>qai ?_
 ·have h:(i:Int)%2=0:=by simpa using h
  rw[sgn,if_pos (by omega),Int.tmod_eq_emod_of_nonneg (by omega),Int.emod_eq_of_lt (by omega) (by omega)]
 ·have h:¬ (i:Int)%2=0:=by simpa using h
  rw[sgn,if_neg (by omega)]
theorem qqM{p:Int}{m:Mat}{W top left:Nat}{sg:Int}{i n:Nat}{cs:Sim}:qfb (stJ p m W top left sg i (n+1)) cs=(qfb (stJ p m W top left sg i n) cs).set ((top+i)*W+left+n) (m.2.2.2.1.getD (i*m.2.2.1.toNat+n) 0*sg%p):=by
 unfold stJ
 rw[List.range_succ,List.map_append,qda];rfl
theorem qq5{p:Int}{m:Mat}{W top left:Nat}{sg:Int}{n:Nat}{cs:Sim}:qfb (stI p m W top left sg (n+1)) cs=qfb (stJ p m W top left sg n m.2.2.1.toNat) (qfb (stI p m W top left sg n) cs):=by
 unfold stI
 rw[List.range_succ,List.flatMap_append,qda,List.flatMap_singleton]
theorem qqT{c:List Sim}{p:Int}{st:Sim}{ms:List Mat}{k:Int}{s n:Nat}{cs:Sim}:qfb (stF c p st ms k s (n+1)) cs=qfb (stI p (mp c ms s n) (SD c st k).toNat (FC c st s).toNat (FC c st (fc c s n)).toNat (sgn p n) (mp c ms s n).2.1.toNat) (qfb (stF c p st ms k s n) cs):=by
 unfold stF
 rw[List.range_succ,List.flatMap_append,qda,List.flatMap_singleton]
theorem qqq{c:List Sim}{p:Int}{st:Sim}{ms:List Mat}{k:Int}{n:Nat}{cs:Sim}(hn:n<(qak c (k+1) c.length).length){s:Nat}(hs:(qak c (k+1) c.length)[n]=(s:Int)):qfb (stS c p st ms k (n+1)) cs=qfb (stF c p st ms k s (qaG c s).length) (qfb (stS c p st ms k n) cs):=by
 unfold stS
 rw[List.take_succ_eq_append_getElem hn,List.flatMap_append,qda,List.flatMap_singleton,hs,Int.toNat_natCast]
end VeT
open Go Go.Proofs Ve
namespace VeT
structure CobF (c:List Sim) (p:Int) (st:Sim) (ms:List Mat) (k:Int) (s a T L R C H W:Nat):Prop where
 sl:s<c.length
 al:a<(qaG c s).length
 eT:FC c st s=(T:Int)
 eL:FC c st (fc c s a)=(L:Int)
 eR:(mp c ms s a).2.1=(R:Int)
 eC:(mp c ms s a).2.2.1=(C:Int)
 eW:SD c st k=(W:Int)
 hT:T+R≤H
 hL:L+C≤W
 hH:H≤32
 hW:W≤32
 len:(mp c ms s a).2.2.2.1.length=R*C
 el:qaE (mp c ms s a).2.2.2.1 p
 hp:2≤p∧p≤251
 hR:R≤32
 hC:C≤32
 h4:a≤4
theorem qrK{c:List Sim}{p:Int}{st:Sim}{ms:List Mat}(h:VS c p st ms){k:Int}{s a H W:Nat}(hs:s<c.length)(hd:((c.getD s []).length:Int)=k+2)(ha:a<(qaG c s).length)(eH:SD c st (k+1)=(H:Int))(eW:SD c st k=(W:Int))(hH:H≤32)(hW:W≤32) :
  ∃ T L R C:Nat,CobF c p st ms k s a T L R C H W:=by
 obtain⟨g1,g2,g3,g4,g5,g6,g7⟩:=qdo h hs hd ha
 obtain⟨_,hb⟩:=h.map hs ha
 obtain⟨R,C,em,hR,hC,hlen⟩:=hb.1.nat
 have e1:(mp c ms s a).2.1=(R:Int):=congrArg (fun m:Mat=>m.2.1) em
 have e2:(mp c ms s a).2.2.1=(C:Int):=congrArg (fun m:Mat=>m.2.2.1) em
 have hp:2≤p∧p≤251:=⟨h.2.1.1,h.2.1.2.1⟩
 have el:=hb.1.2.2.2.2
 rw[hb.2.1] at el
 have h4:=h.1.fIdx4 hs
 exact⟨(FC c st s).toNat,(FC c st (fc c s a)).toNat,R,C,hs,ha,by omega,by omega,e1,e2,eW,by omega,by omega,hH,hW,hlen,el,hp,hR,hC,by omega⟩
theorem qsP{T L i j W H:Nat}(h1:T+i<H)(h2:L+j<W)(hH:H≤32)(hW:W≤32):w64 (w64 (w64 (w64 ((T:Int)+(i:Int))*(W:Int))+(L:Int))+(j:Int))=(((T+i)*W+L+j:Nat):Int)∧(T+i)*W+L+j<H*W:=by
 have hlt:=qfj h1 h2
 have:=qcZ hH hW
 have e1:w64 ((T:Int)+(i:Int))=((T+i:Nat):Int):=by rw[qad (by omega) (by omega)];omega
 have e2:w64 (((T+i:Nat):Int)*(W:Int))=(((T+i)*W:Nat):Int):=by rw[qa3];exact qad (by omega) (by omega)
 have e3:w64 ((((T+i)*W:Nat):Int)+(L:Int))=(((T+i)*W+L:Nat):Int):=by rw[qad (by omega) (by omega)];omega
 have e4:w64 ((((T+i)*W+L:Nat):Int)+(j:Int))=(((T+i)*W+L+j:Nat):Int):=by rw[qad (by omega) (by omega)];omega
 rw[e1,e2,e3,e4]
 exact⟨rfl,by omega⟩
theorem qrd{x y p:Int}(hx:0≤x∧x≤250)(hy:0≤y∧y≤250)(hp:2≤p∧p≤251):Int.tmod (w64 (x*y)) p=x*y%p:=by
 have:=qfY hx hy
 rw[qad (by omega) (by omega),Int.tmod_eq_emod_of_nonneg (by omega)]
theorem qaY(c:List Sim)(p:Int)(st:Sim)(ms:List Mat)(k:Int)(hk:-1≤k∧k≤3)(hc:Sm (.sl (.sl (.int .i64))) c)(h:VS c p st ms) :
    Ret E n_Z35 [dLL c,dI p,dL st,dMs ms,dI k] ⟨o_Z35,qsG c p st ms k⟩:=by
  obtain⟨H,eH,bH,tH⟩:=qc5 h (k+1)
  obtain⟨W,eW,bW,tW⟩:=qc5 h k
  have hst:=h.2.2.1.2.1
  have hl:=h.2.2.1.1
  have h48:=h.1.1
  have ek:w64 (k+1)=k+1:=qad (by omega) (by omega)
  have hHW:=qcZ bH bW
  have s1:=qbn c st (k+1) p ms hc hl hst (by omega)
  have s2:=qbn c st k p ms hc hl hst (by omega)
  rw[show qjk c st (k+1) (qak c (k+1) c.length).length=(H:Int) from eH] at s1
  rw[show qjk c st k (qak c k c.length).length=(W:Int) from eW] at s2
  have z:=qp9 p H W bH bW
  have hM:qsG c p st ms k=(p,(H:Int),(W:Int),qet c p st ms k,()):=by rw[qsG,eH,eW]
  rw[hM]
  refine qal ?_
  simp only[run_Z35,Z35.ev,ek]
  suffices hmain:Ev fun φ=>Z35.j0 (mkR (run E (φ 0))) (φ 0) k c p st ms 0 0 0 p (H:Int) (W:Int) (List.replicate (H*W) 0)=some ⟨o_Z35,(p,(H:Int),(W:Int),qet c p st ms k,())⟩ by
    exact qb6 (qaa s1 (qb6 (qaa s2 (qb6 (qaa z hmain) (qaa z hmain))) (qaa s2 (qaa z hmain)))) (qaa s1 (qaa s2 (qaa z hmain)))
  simp only[Z35.j0_eq _ qag,ek]
  refine qaa (qc6 c (k+1) hc (by omega)) ?_
  have hol:=qce c (k+1) c.length
  by_cases hk0:k<0
  · have e0:qet c p st ms k=List.replicate (H*W) 0:=by rw[qet,if_pos hk0,tH,tW]
    rw[e0]
    refine Ev.start (p:=fun φ n=>Z35.l1 (mkR (run E (φ 0))) (φ 0) n k (qak c (k+1) c.length) ((qak c (k+1) c.length).length:Int) 0 c p st ms 0 0 0 p (H:Int) (W:Int) (List.replicate (H*W) 0)=_) 1 ?_ (fun _ _ _ h=>h)
    refine Ev.round 1 (L:=fun φ n=>Z35.l1 (mkR (run E (φ 0))) (φ 0) n k (qak c (k+1) c.length) ((qak c (k+1) c.length).length:Int) 0 c p st ms 0 0 0 p (H:Int) (W:Int) (List.replicate (H*W) 0)) ?_ (fun _ _ _=>rfl)
    simp only[Z35.l1_succ _ qag,Z35.j2_eq _ qag]
    refine qeu (fun hlt=>?_) fun _=>qam
    have hlt:0<(qak c (k+1) c.length).length:=by omega
    exact qaf (qap (k:=0) hlt) (qaD (decide_eq_true hk0) qam)
  have e0:qet c p st ms k=qfb (stS c p st ms k (qak c (k+1) c.length).length) (List.replicate (H*W) 0):=by rw[qet,if_neg hk0,tH,tW]
  rw[e0]
  -- one row of a face' stores
  have r5:∀(s a T L R C i:Nat) (F:CobF c p st ms k s a T L R C H W) (t:Nat) (ls:Sim) (n1:Int) (fs:Sim) (n2:Int) (cs:Sim) (hcs:cs.length=H*W) (hi:i<R) (r:Option Dv),
      (Ev fun φ=>Z35.l4 (mkR (run E (φ 0))) (φ 0) (φ 1) (φ 2) (φ 3) k (s:Int) (a:Int) (T:Int) (L:Int) ls n1 (t:Int) fs n2 (a:Int) (R:Int) ((i+1:Nat):Int) c p st ms 0 0 0 p (H:Int) (W:Int) (mp c ms s a).1 (R:Int) (C:Int) (mp c ms s a).2.2.2.1 (qfb (stJ p (mp c ms s a) W T L (sgn p a) i C) cs)=r) →
      Ev fun φ=>Z35.l5 (mkR (run E (φ 0))) (φ 0) (φ 1) (φ 2) (φ 3) (φ 0) k (s:Int) (a:Int) (T:Int) (L:Int) (i:Int) ls n1 (t:Int) fs n2 (a:Int) (R:Int) (i:Int) (C:Int) 0 c p st ms 0 0 0 p (H:Int) (W:Int) (mp c ms s a).1 (R:Int) (C:Int) (mp c ms s a).2.2.2.1 cs=r:=by
    intro s a T L R C i F t ls n1 fs n2 cs hcs hi r hr
    refine Ev.start (p:=fun φ n=>Z35.l5 (mkR (run E (φ 0))) (φ 0) (φ 1) (φ 2) (φ 3) n k (s:Int) (a:Int) (T:Int) (L:Int) (i:Int) ls n1 (t:Int) fs n2 (a:Int) (R:Int) (i:Int) (C:Int) 0 c p st ms 0 0 0 p (H:Int) (W:Int) (mp c ms s a).1 (R:Int) (C:Int) (mp c ms s a).2.2.2.1 cs=_) 4 ?_ (fun _ _ _ h=>h)
    refine qaq 4 (L:=fun φ n j o=>Z35.l5 (mkR (run E (φ 0))) (φ 0) (φ 1) (φ 2) (φ 3) n k (s:Int) (a:Int) (T:Int) (L:Int) (i:Int) ls n1 (t:Int) fs n2 (a:Int) (R:Int) (i:Int) (C:Int) j c p st ms 0 0 0 p (H:Int) (W:Int) (mp c ms s a).1 (R:Int) (C:Int) (mp c ms s a).2.2.2.1 o) (len:=C) (fun j=>qfb (stJ p (mp c ms s a) W T L (sgn p a) i j) cs) (fun _ _ _ _ _=>rfl) (fun j q hj ih=>?_) ?_
    · simp only[Z35.l5_succ _ qag]
      have hT:=F.hT
      have hL:=F.hL
      have hp:=F.hp
      obtain⟨ep,hpos⟩:=qsP (T:=T) (L:=L) (i:=i) (j:=j) (W:=W) (H:=H) (by omega) (by omega) bH bW
      have hij:i*C+j<(mp c ms s a).2.2.2.1.length:=by rw[F.len];exact qfj hi hj
      have hRC:=qcZ F.hR F.hC
      have hx:=F.el.get hp (i*C+j)
      have hy:=qro hp a
      rw[qqM,F.eC,Int.toNat_natCast,qah hij] at ih
      rw[qah hij] at hx
      have hol':(qfb (stJ p (mp c ms s a) W T L (sgn p a) i j) cs).length=H*W:=by rw[qcC,hcs]
      have ev:=qrd hx (show 0≤sgn p a∧sgn p a≤250 by omega) hp
      refine qaD (decide_eq_true (by omega)) (qaa (qjA _ _ C _ i j hij (by rw[F.len];omega)) (qaa (qik p a hp) (qar (by simp;omega) ?_)))
      simp only[ep,ev,hol',Int.toNat_natCast]
      refine qar (by simp only[Bool.and_eq_true,decide_eq_true_eq];omega) ?_
      rw[qae (by omega)]
      exact ih
    · simp only[Z35.l5_succ _ qag]
      have:=F.hR
      refine qaJ (decide_eq_false (by omega)) ?_
      rw[qae (by omega)]
      exact hr
  -- a face' stores
  have r4:∀(s a T L R C:Nat) (F:CobF c p st ms k s a T L R C H W) (t:Nat) (ls:Sim) (n1:Int) (fs:Sim) (n2:Int) (cs:Sim) (hcs:cs.length=H*W) (r:Option Dv),
      (Ev fun φ=>Z35.l3 (mkR (run E (φ 0))) (φ 0) (φ 1) (φ 2) k (s:Int) ls n1 (t:Int) fs n2 ((a+1:Nat):Int) c p st ms 0 0 0 p (H:Int) (W:Int) (qfb (stI p (mp c ms s a) W T L (sgn p a) R) cs)=r) →
      Ev fun φ=>Z35.l4 (mkR (run E (φ 0))) (φ 0) (φ 1) (φ 2) (φ 0) k (s:Int) (a:Int) (T:Int) (L:Int) ls n1 (t:Int) fs n2 (a:Int) (R:Int) 0 c p st ms 0 0 0 p (H:Int) (W:Int) (mp c ms s a).1 (R:Int) (C:Int) (mp c ms s a).2.2.2.1 cs=r:=by
    intro s a T L R C F t ls n1 fs n2 cs hcs r hr
    refine Ev.start (p:=fun φ n=>Z35.l4 (mkR (run E (φ 0))) (φ 0) (φ 1) (φ 2) n k (s:Int) (a:Int) (T:Int) (L:Int) ls n1 (t:Int) fs n2 (a:Int) (R:Int) 0 c p st ms 0 0 0 p (H:Int) (W:Int) (mp c ms s a).1 (R:Int) (C:Int) (mp c ms s a).2.2.2.1 cs=_) 3 ?_ (fun _ _ _ h=>h)
    refine qaq 3 (L:=fun φ n i o=>Z35.l4 (mkR (run E (φ 0))) (φ 0) (φ 1) (φ 2) n k (s:Int) (a:Int) (T:Int) (L:Int) ls n1 (t:Int) fs n2 (a:Int) (R:Int) i c p st ms 0 0 0 p (H:Int) (W:Int) (mp c ms s a).1 (R:Int) (C:Int) (mp c ms s a).2.2.2.1 o) (len:=R) (fun i=>qfb (stI p (mp c ms s a) W T L (sgn p a) i) cs) (fun _ _ _ _ _=>rfl) (fun i q hi ih=>?_) ?_
    · simp only[Z35.l4_succ _ qag]
      rw[qq5,F.eC,Int.toNat_natCast] at ih
      exact qaD (decide_eq_true (by omega)) (r5 s a T L R C i F t ls n1 fs n2 _ (by rw[qcC,hcs]) hi q ih)
    · simp only[Z35.l4_succ _ qag]
      have:=F.h4
      refine qaJ (decide_eq_false (by omega)) ?_
      rw[qae (by omega)]
      exact hr
  refine Ev.start (p:=fun φ n=>Z35.l1 (mkR (run E (φ 0))) (φ 0) n k (qak c (k+1) c.length) ((qak c (k+1) c.length).length:Int) 0 c p st ms 0 0 0 p (H:Int) (W:Int) (List.replicate (H*W) 0)=_) 1 ?_ (fun _ _ _ h=>h)
  refine qaq 1 (L:=fun φ n t o=>Z35.l1 (mkR (run E (φ 0))) (φ 0) n k (qak c (k+1) c.length) ((qak c (k+1) c.length).length:Int) t c p st ms 0 0 0 p (H:Int) (W:Int) o) (len:=(qak c (k+1) c.length).length) (fun t=>qfb (stS c p st ms k t) (List.replicate (H*W) 0)) (fun _ _ _ _ _=>rfl) (fun t q ht ih=>?_) ?_
  · simp only[Z35.l1_succ _ qag]
    obtain⟨s,hse,hs,hd⟩:=qbJ.1 (List.getElem_mem ht)
    rw[qqq ht hse] at ih
    have hg:(qak c (k+1) c.length)[t]? = some (s:Int):=by rw[List.getElem?_eq_getElem ht,hse]
    have hf4:=h.1.fIdx4 hs
    generalize hO:qfb (stS c p st ms k t) (List.replicate (H*W) 0)=O at ih ⊢
    have hOl:O.length=H*W:=by rw[← hO,qcC,List.length_replicate]
    refine qaD (decide_eq_true (by omega)) (qaf (qbQ.trans hg) (qaJ (decide_eq_false hk0) (qaa (qdh c s hs hc h.1.srt) ?_)))
    refine Ev.start (p:=fun φ n=>Z35.l3 (mkR (run E (φ 0))) (φ 0) (φ 1) n k (s:Int) (qak c (k+1) c.length) ((qak c (k+1) c.length).length:Int) (t:Int) (qaG c s) ((qaG c s).length:Int) 0 c p st ms 0 0 0 p (H:Int) (W:Int) O=_) 2 ?_ (fun _ _ _ h=>h)
    refine qaq 2 (L:=fun φ n a o=>Z35.l3 (mkR (run E (φ 0))) (φ 0) (φ 1) n k (s:Int) (qak c (k+1) c.length) ((qak c (k+1) c.length).length:Int) (t:Int) (qaG c s) ((qaG c s).length:Int) a c p st ms 0 0 0 p (H:Int) (W:Int) o) (len:=(qaG c s).length) (fun a=>qfb (stF c p st ms k s a) O) (fun _ _ _ _ _=>rfl) (fun a q2 ha ih2=>?_) ?_
    · simp only[Z35.l3_succ _ qag]
      obtain⟨T,L,R,C,F⟩:=qrK h hs (by omega) ha eH eW bH bW
      obtain⟨ix,hfc,_⟩:=qby h.1 hs ha
      have f1:=qeC c p st ms s hs hc hl hst
      have f2:=qeC c p st ms (fc c s a) hfc hc hl hst
      rw[F.eT] at f1
      rw[F.eL] at f2
      rw[qqT,tW,F.eT,F.eL,F.eR,Int.toNat_natCast,Int.toNat_natCast,Int.toNat_natCast] at ih2
      refine qaD (decide_eq_true (by omega)) (qaf ix (qaa (qdO c p st ms s a hs ha h) (qaa f1 (qaa f2 ?_))))
      simp only[F.eR,F.eC]
      exact r4 s a T L R C F t _ _ _ _ _ (by rw[qcC,hOl]) q2 ih2
    · simp only[Z35.l3_succ _ qag]
      refine qaJ (decide_eq_false (by omega)) ?_
      rw[qae (by omega)]
      exact ih
  · simp only[Z35.l1_succ _ qag,Z35.j2_eq _ qag]
    exact qaJ (decide_eq_false (by omega)) qam
end VeT
open Go Go.Proofs Ve
namespace VeT
theorem qpQ(m:Mat)(v:Sim)(hm:VM m)(hv:m.2.2.1≤v.length)(ev:∀ x∈v,0≤x∧x≤250):Ret E n_Z28 [dI m.1,dI m.2.1,dI m.2.2.1,dL m.2.2.2.1,dL v] ⟨o_Z28,(qnR m v m.2.1.toNat,())⟩:=by
 obtain⟨R,C,em,hR,hC,hlen⟩:=hm.nat
 have hp:2≤m.1∧m.1≤251:=⟨hm.1.1,hm.1.2.1⟩
 have el:=hm.2.2.2.2
 obtain⟨p,r,k,cs,⟨⟩⟩:=m
 simp only[Prod.mk.injEq,true_and,and_true] at em hlen hv hp el
 obtain⟨rfl,rfl⟩:=em
 have hRC:=qcZ hR hC
 show Ret E n_Z28 [dI p,dI (R:Int),dI (C:Int),dL cs,dL v] ⟨o_Z28,(qnR (p,(R:Int),(C:Int),cs,()) v R,())⟩
 refine qal ?_
 simp only[run_Z28,Z28.ev]
 refine Ev.start (p:=fun φ n=>Z28.l0 (mkR (run E (φ 0))) (φ 0) n v (R:Int) 0 p (R:Int) (C:Int) cs []=_) 1 ?_ (fun _ _ _ h=>h)
 refine qaq 1 (L:=fun φ n i a=>Z28.l0 (mkR (run E (φ 0))) (φ 0) n v (R:Int) i p (R:Int) (C:Int) cs a) (len:=R) (fun i=>qnR (p,(R:Int),(C:Int),cs,()) v i) (fun _ _ _ _ _=>rfl) (fun i q hi ih=>?_) ?_
 ·simp only[Z28.l0_succ _ qag]
  have hle:(i+1)*C≤R*C:=Nat.mul_le_mul_right _ hi
  have hrl:((cs.take ((i+1)*C)).drop (i*C)).length=C:=by
   rw[List.length_drop,List.length_take,Nat.min_eq_left (by omega),Nat.add_mul];omega
  have hd:=qpt ((cs.take ((i+1)*C)).drop (i*C)) v p hp (by omega) (by omega) (fun x hx=>el.mem hp x (List.mem_of_mem_take (List.mem_of_mem_drop hx))) ev
  have e:qaM (fun l=>((cs.take ((i+1)*C)).drop (i*C)).getD l 0) (fun l=>v.getD l 0) ((cs.take ((i+1)*C)).drop (i*C)).length=qaM (fun l=>cs.getD (i*C+l) 0) (fun l=>v.getD l 0) C:=by
   rw[hrl]
   exact qaz fun l hl=>⟨by
    rw[List.getD_eq_getElem?_getD,List.getD_eq_getElem?_getD,List.getElem?_drop,List.getElem?_take_of_lt (by rw[Nat.add_mul];omega)],rfl⟩
  rw[e] at hd
  have ea:qnR (p,(R:Int),(C:Int),cs,()) v (i+1)=qnR (p,(R:Int),(C:Int),cs,()) v i++[qaM (fun l=>cs.getD (i*C+l) 0) (fun l=>v.getD l 0) C%p]:=by
   unfold qnR
   rw[List.range_succ,List.map_append];rfl
  rw[ea] at ih
  refine qaD (decide_eq_true (by omega)) (qaa (qd8 p _ C cs i (by omega) (by omega) (by omega)) (qaa hd (qar (by simp[qfA];omega) ?_)))
  rw[qae (by omega)];exact ih
 ·simp only[Z28.l0_succ _ qag]
  exact qaJ (decide_eq_false (by omega)) qam
def Zs(v:Sim):Prop:=∀ x∈v,x=0
theorem qlD(x:Int):Ret E n_Z71 [dI x] ⟨o_Z71,(!pb (x=0),())⟩:=by
 refine qal ?_
 simp only[run_Z71,Z71.ev]
 refine qai ?_
 have:(x != 0)=!pb (x=0):=by
  by_cases h:x=0
  ·rw[qaI h];simp[h]
  ·rw[qaw h];simp[h]
 rw[this]
theorem qjE(v:Sim)(hv:v.length≤1048576):Ret E n_Z70 [dL v] ⟨o_Z70,(pb (Zs v),())⟩:=by
 refine qal ?_
 simp only[run_Z70,Z70.ev]
 refine qaa (qbG v _ hv fun x _=>qlD x) (qai ?_)
 simp only[qkw];rfl
end VeT
open Go Go.Proofs Ve
namespace VeT
theorem qc8{p x x' y y':Int}(h1:x%p=x'%p)(h2:y%p=y'%p):x*y%p=x'*y'%p:=by
 rw[Int.mul_emod x,h1,h2,← Int.mul_emod]
theorem qhW{p x x':Int}(h:x%p=x'%p):∀ n:Nat,x ^ n%p=x' ^ n%p
 | 0=>by rw[Int.pow_zero,Int.pow_zero]
 | n+1=>by rw[Int.pow_succ,Int.pow_succ];exact qc8 (qhW h n) h
def qhl(a p:Int):Int:=a ^ (p-2).toNat%p
theorem qpq{a p:Int}(hp:2≤p):0≤qhl a p∧qhl a p≤p-1:=by
 have h0:=Int.emod_nonneg (a ^ (p-2).toNat) (show p≠0 by omega)
 have h1:=Int.emod_lt_of_pos (a ^ (p-2).toNat) (show 0<p by omega)
 unfold qhl;omega
abbrev Ent:=Nat→Nat→Int
def qcK(top q:Nat)(A:Ent):Ent:=fun i=>if i=top then A q else if i=q then A top else A i
def elN(p:Int)(c top:Nat)(B:Ent):Nat→Int:=fun j=>B top j*qhl (B top c) p%p
def elM(p:Int)(c top:Nat)(B:Ent):Ent:=fun i j=>if i=top then elN p c top B j else B i j
def elF(p:Int)(c top:Nat)(B:Ent):Ent:=fun i j=>if i=top then elN p c top B j else if B i c≠0 then(B i j+(p-B i c)*elN p c top B j)%p else B i j
noncomputable def elP(p:Int)(R c:Nat)(S:Ent×List Nat):Ent×List Nat :=
 match qa1 (fun i=>S.1 i c≠0) S.2.length (R-S.2.length) with
 | none=>S
 | some q=>(elF p c S.2.length (qcK S.2.length q S.1),S.2++[c])
noncomputable def elS(p:Int)(R:Nat)(A:Ent):Nat→Ent×List Nat
 | 0=>(A,[])
 | c+1=>elP p R c (elS p R A c)
def EIn(p:Int)(R W:Nat)(A:Ent):Prop:=∀ i j,i<R→j<W→0≤A i j∧A i j≤p-1
theorem EIn.sw{p:Int}{R W top q:Nat}{A:Ent}(h:EIn p R W A)(ht:top<R)(hq:q<R):EIn p R W (qcK top q A):=fun i j hi hj=>by
 unfold qcK;split
 ·exact h q j hq hj
 ·split
  ·exact h top j ht hj
  ·exact h i j hi hj
theorem qcF{p x:Int}(hp:2≤p):0≤x%p∧x%p≤p-1:=by
 have h0:=Int.emod_nonneg x (show p≠0 by omega)
 have h1:=Int.emod_lt_of_pos x (show 0<p by omega)
 omega
theorem EIn.f{p:Int}{R W c top:Nat}{B:Ent}(h:EIn p R W B)(hp:2≤p):EIn p R W (elF p c top B):=fun i j hi hj=>by
 unfold elF;split
 ·exact qcF hp
 ·split
  ·exact qcF hp
  ·exact h i j hi hj
theorem qc7{p:Int}{R W:Nat}{A:Ent}(hp:2≤p)(h:EIn p R W A):∀ c,EIn p R W (elS p R A c).1∧(elS p R A c).2.length≤R∧(elS p R A c).2.length≤c∧∀ x∈(elS p R A c).2,x<c
 | 0=>⟨h,Nat.zero_le _,Nat.zero_le _,fun x hx=>by simp[elS] at hx⟩
 | c+1=>by
  obtain⟨h1,h2,h3,h4⟩:=qc7 hp h c
  rw[elS,elP]
  cases hf:qa1 (fun i=>(elS p R A c).1 i c≠0) (elS p R A c).2.length (R-(elS p R A c).2.length) with
  | none=>exact⟨h1,h2,by show(elS p R A c).2.length≤c+1;omega,fun x hx=>by have:=h4 x hx;omega⟩
  | some q =>
   have hq:=qaP hf
   refine⟨(h1.sw (by omega) (by omega)).f hp,?_,?_,fun x hx=>?_⟩
   ·simp only[List.length_append,List.length_singleton];omega
   ·simp only[List.length_append,List.length_singleton];omega
   ·rcases List.mem_append.1 hx with hx | hx
    ·have:=h4 x hx;omega
    ·rw[List.mem_singleton] at hx;omega
def qaB(A:Ent)(R W:Nat):List Sim:=(List.range R).map fun i=>(List.range W).map (A i)
theorem qaA{A:Ent}{R W:Nat}:(qaB A R W).length=R:=by simp[qaB]
theorem qba{A:Ent}{R W i:Nat}(hi:i<R):(qaB A R W)[i]? = some ((List.range W).map (A i)):=by
 unfold qaB;rw[List.getElem?_map,List.getElem?_range hi];rfl
theorem qbU{A B:Ent}{R W:Nat}(h:∀ i j,i<R→j<W→A i j=B i j):qaB A R W=qaB B R W :=
 List.map_congr_left fun i hi=>List.map_congr_left fun j hj=>h i j (List.mem_range.1 hi) (List.mem_range.1 hj)
theorem qgx{A:Ent}{R W i:Nat}{f:Nat→Int}:(qaB A R W).set i ((List.range W).map f)=qaB (fun k j=>if k=i then f j else A k j) R W:=by
 apply List.ext_getElem?
 intro k
 by_cases hk:k<R
 ·rw[qba hk]
  by_cases hik:k=i
  ·subst hik
   rw[List.getElem?_set_self (by rw[qaA];exact hk)]
   simp
  ·rw[List.getElem?_set_ne (Ne.symm hik),qba hk]
   simp[hik]
 ·rw[List.getElem?_eq_none (by rw[List.length_set,qaA];omega),List.getElem?_eq_none (by rw[qaA];omega)]
theorem qeV{f:Nat→Int}{W j:Nat}(hj:j<W):((List.range W).map f)[j]? = some (f j):=by
 rw[List.getElem?_map,List.getElem?_range hj];rfl
theorem qdl{A:Ent}{R W i j:Nat}{v:Int}(hi:i<R)(hj:j<W):(qav A W R).set (i*W+j) v=qav (fun k l=>if k=i∧l=j then v else A k l) W R:=by
 apply List.ext_getElem?
 intro n
 by_cases hn:n<R*W
 ·have hW:0<W:=by omega
  have e:n=n / W*W+n%W:=by have:=Nat.div_add_mod n W;rw[Nat.mul_comm] at this;omega
  have h1:n / W<R:=Nat.div_lt_of_lt_mul (by rw[Nat.mul_comm];exact hn)
  have h2:n%W<W:=Nat.mod_lt _ hW
  generalize n / W=a at e h1
  generalize n%W=b at e h2
  subst e
  rw[qcg h1 h2]
  by_cases hab:a=i∧b=j
  ·obtain⟨rfl,rfl⟩:=hab
   rw[List.getElem?_set_self (by rw[qau];exact hn)]
   simp
  ·rw[List.getElem?_set_ne,qcg h1 h2,if_neg hab]
   intro e
   have hbW:b<W:=h2
   have:a=i∧b=j:=by
    have h3:(i*W+j) / W=i:=by rw[Nat.mul_comm,Nat.mul_add_div (by omega),Nat.div_eq_of_lt hj,Nat.add_zero]
    have h4:(a*W+b) / W=a:=by rw[Nat.mul_comm,Nat.mul_add_div (by omega),Nat.div_eq_of_lt hbW,Nat.add_zero]
    have:a=i:=by rw[← h3,← h4,e]
    subst this
    exact⟨rfl,by omega⟩
   exact hab this
 ·rw[List.getElem?_eq_none (by rw[List.length_set,qau];omega),List.getElem?_eq_none (by rw[qau];omega)]
theorem qcW{A:Ent}{W:Nat}:∀ {R:Nat},(qaB A R W).flatten=qav A W R
 | 0=>by simp[qaB,qav]
 | R+1=>by
  have:=qcW (A:=A) (W:=W) (R:=R)
  unfold qaB at this ⊢
  rw[List.range_succ,List.map_append,List.flatten_append,this,qav]
  simp
def qbp(cells:Sim)(W:Nat):Ent:=fun i j=>cells.getD (i*W+j) 0
theorem qgh{cells:Sim}{R W:Nat}(h:cells.length=R*W):qav (qbp cells W) W R=cells:=by
 refine List.ext_getElem (by rw[qau,h]) fun n h1 h2=>?_
 rw[qau] at h1
 have hW:0<W:=by
  cases W with
  | zero=>simp at h1
  | succ W=>omega
 have e:n=n / W*W+n%W:=by have:=Nat.div_add_mod n W;rw[Nat.mul_comm] at this;omega
 have h3:n / W<R:=Nat.div_lt_of_lt_mul (by rw[Nat.mul_comm];exact h1)
 have h4:n%W<W:=Nat.mod_lt _ hW
 have hg:=qcg (f:=qbp cells W) h3 h4
 rw[← e,List.getElem?_eq_getElem (by rw[qau];exact h1)] at hg
 rw[Option.some.inj hg]
 unfold qbp
 rw[← e,qah h2]
theorem qbo{p:Int}{cells:Sim}{R W:Nat}(h:qaE cells p)(hl:cells.length=R*W):EIn p R W (qbp cells W):=fun i j hi hj=>by
 unfold qbp
 have:=qfj hi hj
 rw[qah (by omega)]
 exact h _ (List.getElem_mem _)
end VeT
open Go Go.Proofs Ve
namespace VeT
def qrc:Bool:=(List.range 252).all fun p=>!(decide (2≤p)&&(List.range 16).all fun k=>!(decide (2≤k)&&decide (k*k≤p)&&decide (p%k=0))) || (List.range p).all fun a=>a==0 || (a*(a ^ (p-2)%p)%p==1)
theorem qpk:qrc=true:=by kernel_rfl
theorem qmU{p a:Int}(hp:Pr p)(h1:1≤a)(h2:a≤p-1):a*qhl a p%p=1:=by
  obtain⟨hp2,hp251,hpk⟩:=hp
  obtain⟨P,rfl⟩:=Int.eq_ofNat_of_zero_le (show 0≤p by omega)
  obtain⟨N,rfl⟩:=Int.eq_ofNat_of_zero_le (show 0≤a by omega)
  have h:=qpk
  unfold qrc at h
  rw[List.all_eq_true] at h
  have hP:=h P (List.mem_range.2 (by omega))
  rw[Bool.or_eq_true] at hP
  rcases hP with hP | hP
  · exfalso
    rw[Bool.not_eq_true',Bool.and_eq_false_iff] at hP
    rcases hP with hP | hP
    · have:=of_decide_eq_false hP;omega
    · rw[← Bool.not_eq_true,List.all_eq_true] at hP
      refine hP fun k hk=>?_
      have hk16:=List.mem_range.1 hk
      rw[Bool.not_eq_true',Bool.and_eq_false_iff,Bool.and_eq_false_iff]
      by_cases hk2:2≤k
      · by_cases hkk:k*k≤P
        · right
          refine decide_eq_false fun e=>?_
          have := hpk k hk2 (by have : ((k * k : Nat) : Int) ≤ (P : Int) := by omega
                                rwa [Int.natCast_mul] at this)
          exact this (by omega)
        · exact .inl (.inr (decide_eq_false hkk))
      · exact .inl (.inl (decide_eq_false hk2))
  · rw[List.all_eq_true] at hP
    have hN:=hP N (List.mem_range.2 (by omega))
    rw[Bool.or_eq_true] at hN
    rcases hN with hN | hN
    · have:N=0:=by simpa using hN
      omega
    · have hN:N*(N ^ (P-2)%P)%P=1:=by simpa using hN
      unfold qhl
      have e:((P:Int)-2).toNat=P-2:=by omega
      rw[e]
      have:((N*(N ^ (P-2)%P)%P:Nat):Int)=1:=by rw[hN];rfl
      rwa [Int.natCast_emod,Int.natCast_mul,Int.natCast_emod,Int.natCast_pow] at this
theorem qkI{c d g:Nat→Int}:∀ {n:Nat},qaM (fun i=>c i+d i) g n=qaM c g n+qaM d g n
 | 0=>rfl
 | n+1=>by simp only[qaM];rw[qkI,Int.add_mul];omega
theorem qgu{k:Int}{c g:Nat→Int}:∀ {n:Nat},qaM (fun i=>k*c i) g n=k*qaM c g n
 | 0=>by simp[qaM]
 | n+1=>by simp only[qaM];rw[qgu,Int.mul_add,Int.mul_assoc]
theorem qlc{k:Nat}{g:Nat→Int}:∀ {n:Nat},n≤k→qaM (fun i=>if i=k then 1 else 0) g n=0
 | 0,_=>rfl
 | n+1,h=>by simp only[qaM];rw[qlc (by omega),if_neg (by omega),Int.zero_mul];rfl
theorem qcJ{k:Nat}{g:Nat→Int}:∀ {n:Nat},k<n→qaM (fun i=>if i=k then 1 else 0) g n=g k
 | n+1,h=>by
  simp only[qaM]
  by_cases hk:k=n
  ·subst hk;rw[qlc (Nat.le_refl _),if_pos rfl,Int.one_mul,Int.zero_add]
  ·rw[qcJ (by omega),if_neg (by omega),Int.zero_mul,Int.add_zero]
def Spn(p:Int)(R W:Nat)(A:Ent)(x:Nat→Int):Prop:=∃ c:Nat→Int,∀ j,j<W→qaM c (fun i=>A i j) R%p=x j%p
theorem Spn.row{p:Int}{R W:Nat}{A:Ent}{i:Nat}(hi:i<R):Spn p R W A (A i):=⟨fun k=>if k=i then 1 else 0,fun j _=>by rw[qcJ hi]⟩
theorem Spn.congr{p:Int}{R W:Nat}{A:Ent}{x y:Nat→Int}(h:∀ j,j<W→x j%p=y j%p):Spn p R W A x→Spn p R W A y:=fun⟨c,hc⟩=>⟨c,fun j hj=>(hc j hj).trans (h j hj)⟩
theorem Spn.add{p:Int}{R W:Nat}{A:Ent}{x y:Nat→Int}(hx:Spn p R W A x)(hy:Spn p R W A y):Spn p R W A (fun j=>x j+y j):=by
 obtain⟨c,hc⟩:=hx
 obtain⟨d,hd⟩:=hy
 exact⟨fun i=>c i+d i,fun j hj=>by rw[qkI,Int.add_emod,hc j hj,hd j hj,← Int.add_emod]⟩
theorem Spn.smul{p:Int}{R W:Nat}{A:Ent}{x:Nat→Int}(k:Int)(hx:Spn p R W A x):Spn p R W A (fun j=>k*x j):=by
 obtain⟨c,hc⟩:=hx
 exact⟨fun i=>k*c i,fun j hj=>by rw[qgu,Int.mul_emod,hc j hj,← Int.mul_emod]⟩
theorem Spn.zero{p:Int}{R W:Nat}{A:Ent}:Spn p R W A (fun _=>0):=⟨fun _=>0,fun j _=>by
 have:∀ n,qaM (fun _=>0) (fun i=>A i j) n=0:=fun n=>by
  induction n with
  | zero=>rfl
  | succ n ih=>simp only[qaM,ih,Int.zero_mul];rfl
 rw[this]⟩
theorem Spn.sum{p:Int}{R W:Nat}{A B:Ent}{c:Nat→Int}:∀ {n:Nat},(∀ i,i<n→Spn p R W A (B i))→Spn p R W A (fun j=>qaM c (fun i=>B i j) n)
 | 0,_=>Spn.zero
 | n+1,h=>(Spn.sum (n:=n) fun i hi=>h i (by omega)).add ((h n (Nat.lt_succ_self n)).smul (c n))
theorem Spn.trans{p:Int}{R R' W:Nat}{A B:Ent}{x:Nat→Int}(h:∀ i,i<R'→Spn p R W A (B i))(hx:Spn p R' W B x):Spn p R W A x:=by
 obtain⟨c,hc⟩:=hx
 exact(Spn.sum h).congr hc
def Eqv(p:Int)(R W:Nat)(A B:Ent):Prop:=(∀ i,i<R→Spn p R W A (B i))∧(∀ i,i<R→Spn p R W B (A i))
theorem Eqv.refl{p:Int}{R W:Nat}{A:Ent}:Eqv p R W A A:=⟨fun _ h=>Spn.row h,fun _ h=>Spn.row h⟩
theorem Eqv.trans{p:Int}{R W:Nat}{A B C:Ent}(h:Eqv p R W A B)(k:Eqv p R W B C):Eqv p R W A C:=⟨fun i hi=>Spn.trans h.1 (k.1 i hi),fun i hi=>Spn.trans k.2 (h.2 i hi)⟩
theorem Eqv.sw{p:Int}{R W top q:Nat}{A:Ent}(ht:top<R)(hq:q<R):Eqv p R W A (qcK top q A):=by
 refine⟨fun i hi=>?_,fun i hi=>?_⟩
 ·unfold qcK
  split
  ·exact Spn.row hq
  ·split
   ·exact Spn.row ht
   ·exact Spn.row hi
 ·have key:∀ k,k<R→(qcK top q A) k=A i→Spn p R W (qcK top q A) (A i):=fun k hk e=>by rw[← e];exact Spn.row hk
  by_cases h1:i=top
  ·subst h1
   by_cases h2:q=i
   ·subst h2;exact key q hq (by simp[qcK])
   ·exact key q hq (by simp[qcK,h2])
  ·by_cases h2:i=q
   ·subst h2;exact key top ht (by simp[qcK])
   ·exact key i hi (by simp[qcK,h1,h2])
theorem Eqv.f{p:Int}{R W c top:Nat}{B:Ent}(hp:Pr p)(ht:top<R)(hl:1≤B top c∧B top c≤p-1):Eqv p R W B (elF p c top B):=by
 have hinv:=qmU hp hl.1 hl.2
 have hN:Spn p R W B (elN p c top B):=((Spn.row ht).smul (qhl (B top c) p)).congr fun j _=>by
  show qhl (B top c) p*B top j%p=(B top j*qhl (B top c) p%p)%p
  rw[Int.emod_emod_of_dvd _ (Int.dvd_refl p),Int.mul_comm]
 have eTop:elF p c top B top=elN p c top B:=by funext j;simp[elF]
 have hN2:Spn p R W (elF p c top B) (elN p c top B):=by rw[← eTop];exact Spn.row ht
 refine⟨fun i hi=>?_,fun i hi=>?_⟩
 ·by_cases h1:i=top
  ·subst h1;rw[eTop];exact hN
  ·by_cases h2:B i c=0
   ·have e:elF p c top B i=B i:=by funext j;simp[elF,h1,h2]
    rw[e];exact Spn.row hi
   ·refine((Spn.row hi).add (hN.smul (p-B i c))).congr fun j _=>?_
    have e:elF p c top B i j=(B i j+(p-B i c)*elN p c top B j)%p:=by simp[elF,h1,h2]
    rw[e,Int.emod_emod_of_dvd _ (Int.dvd_refl p)]
 ·by_cases h1:i=top
  ·subst h1
   refine(hN2.smul (B i c)).congr fun j _=>?_
   show B i c*(B i j*qhl (B i c) p%p)%p=B i j%p
   rw[Int.mul_emod,Int.emod_emod_of_dvd _ (Int.dvd_refl p),← Int.mul_emod,show B i c*(B i j*qhl (B i c) p)=B i j*(B i c*qhl (B i c) p) by rw[← Int.mul_assoc,Int.mul_comm (B i c),Int.mul_assoc],Int.mul_emod,hinv,Int.mul_one,Int.emod_emod_of_dvd _ (Int.dvd_refl p)]
  ·by_cases h2:B i c=0
   ·have e:elF p c top B i=B i:=by funext j;simp[elF,h1,h2]
    rw[← e];exact Spn.row hi
   ·refine((Spn.row hi).add (hN2.smul (B i c))).congr fun j _=>?_
    have e:elF p c top B i j=(B i j+(p-B i c)*elN p c top B j)%p:=by simp[elF,h1,h2]
    rw[e,Int.add_emod,Int.emod_emod_of_dvd _ (Int.dvd_refl p),← Int.add_emod,show B i j+(p-B i c)*elN p c top B j+B i c*elN p c top B j=B i j+p*elN p c top B j by rw[Int.sub_mul];omega,Int.add_mul_emod_self_left]
structure Rf (R c:Nat) (B:Ent) (pv:List Nat):Prop where
 len:pv.length≤R
 lt:∀ i,i<pv.length→pv.getD i 0<c
 mono:∀ i j,i<j→j<pv.length→pv.getD i 0<pv.getD j 0
 one:∀ i j,i<R→j<pv.length→B i (pv.getD j 0)=if i=j then 1 else 0
 low:∀ i j,i<pv.length→j<pv.getD i 0→B i j=0
 bot:∀ i j,pv.length≤i→i<R→j<c→B i j=0
end VeT
open Go Go.Proofs Ve
namespace VeT
theorem qcE{l:List Nat}{c i:Nat}(h:i<l.length):(l++[c]).getD i 0=l.getD i 0:=by
 rw[List.getD_eq_getElem?_getD,List.getD_eq_getElem?_getD,List.getElem?_append_left h]
theorem qd4{l:List Nat}{c:Nat}:(l++[c]).getD l.length 0=c:=by
 rw[List.getD_eq_getElem?_getD,List.getElem?_append_right (Nat.le_refl _)];simp
theorem Rf.next{p:Int}{R W c:Nat}{B:Ent}{pv:List Nat}(hp:Pr p)(hB:EIn p R W B)(hc:c<W)(h:Rf R c B pv){q:Nat}(hq:pv.length≤q∧q<R)(hne:B q c≠0) :
  Rf R (c+1) (elF p c pv.length (qcK pv.length q B)) (pv++[c]):=by
 obtain⟨hlen,hlt,hmono,hone,hlow,hbot⟩:=h
 generalize ht:pv.length=top at *
 have hB':EIn p R W (qcK top q B):=hB.sw (by omega) hq.2
 have rowLt:∀ i,i<top→qcK top q B i=B i:=fun i hi=>by
  unfold qcK;rw[if_neg (by omega),if_neg (by omega)]
 have rowGe:∀ i,top≤i→i<R→∀ j,j<c→qcK top q B i j=0:=fun i h1 h2 j hj=>by
  unfold qcK
  split
  ·exact hbot q j hq.1 hq.2 hj
  ·split
   ·exact hbot top j (Nat.le_refl _) (by omega) hj
   ·exact hbot i j h1 h2 hj
 have eLead:qcK top q B top c=B q c:=by simp[qcK]
 have hlead:1≤qcK top q B top c∧qcK top q B top c≤p-1:=by
  have:=hB q c hq.2 hc
  rw[eLead];omega
 generalize qcK top q B=B' at hB' rowLt rowGe eLead hlead
 have hinv:=qmU hp hlead.1 hlead.2
 have nLt:∀ j,j<c→elN p c top B' j=0:=fun j hj=>by
  unfold elN;rw[rowGe top (Nat.le_refl _) (by omega) j hj,Int.zero_mul];exact Int.zero_emod p
 have nC:elN p c top B' c=1:=hinv
 have fLt:∀ i j,i<R→j<c→elF p c top B' i j=B' i j:=fun i j hi hj=>by
  unfold elF
  split
  ·rename_i e;subst e;rw[nLt j hj,rowGe i (Nat.le_refl _) hi j hj]
  ·split
   ·rw[nLt j hj,Int.mul_zero,Int.add_zero]
    have:=hB' i j hi (by omega)
    exact Int.emod_eq_of_lt this.1 (by omega)
   ·rfl
 have fC:∀ i,i<R→elF p c top B' i c=if i=top then 1 else 0:=fun i hi=>by
  unfold elF
  split
  ·exact nC
  ·split
   ·rw[nC,Int.mul_one,show B' i c+(p-B' i c)=p by omega,Int.emod_self]
   ·rename_i _ h2;exact Classical.byContradiction fun e=>h2 e
 refine⟨?_,?_,?_,?_,?_,?_⟩
 ·rw[List.length_append,List.length_singleton,ht];omega
 ·intro i hi
  rw[List.length_append,List.length_singleton,ht] at hi
  by_cases hi2:i<top
  ·rw[qcE (by omega)];have:=hlt i hi2;omega
  ·obtain rfl:i=top:=by omega
   subst ht
   rw[qd4];omega
 ·intro i j hij hj
  rw[List.length_append,List.length_singleton,ht] at hj
  by_cases hj2:j<top
  ·rw[qcE (by omega),qcE (by omega)];exact hmono i j hij hj2
  ·obtain rfl:j=top:=by omega
   have:=hlt i hij
   subst ht
   rw[qcE hij,qd4];exact this
 ·intro i j hi hj
  rw[List.length_append,List.length_singleton,ht] at hj
  by_cases hj2:j<top
  ·have hpj:=hlt j hj2
   rw[qcE (by omega),fLt i _ hi hpj]
   by_cases hi2:i<top
   ·rw[rowLt i hi2];exact hone i j hi hj2
   ·rw[rowGe i (by omega) hi _ hpj,if_neg (by omega)]
  ·obtain rfl:j=top:=by omega
   have hfc:=fC i hi
   subst ht
   rw[qd4];exact hfc
 ·intro i j hi hj
  rw[List.length_append,List.length_singleton,ht] at hi
  by_cases hi2:i<top
  ·rw[qcE (by omega)] at hj
   have:=hlt i hi2
   rw[fLt i j (by omega) (by omega),rowLt i hi2];exact hlow i j hi2 hj
  ·obtain rfl:i=top:=by omega
   have hfl:j<c→elF p c i B' i j=0:=fun h=>by rw[fLt i j (by omega) h];exact rowGe i (Nat.le_refl _) (by omega) j h
   have e:(pv++[c]).getD i 0=c:=by rw[← ht];exact qd4
   rw[e] at hj
   exact hfl hj
 ·intro i j hi hiR hj
  rw[List.length_append,List.length_singleton,ht] at hi
  by_cases hjc:j<c
  ·rw[fLt i j hiR hjc];exact rowGe i (by omega) hiR j hjc
  ·obtain rfl:j=c:=by omega
   rw[fC i hiR,if_neg (by omega)]
theorem qen{p:Int}{R W:Nat}{A:Ent}(hp:Pr p)(hA:EIn p R W A):∀ c,c≤W→Rf R c (elS p R A c).1 (elS p R A c).2∧Eqv p R W A (elS p R A c).1
 | 0,_=>⟨⟨Nat.zero_le _,fun i h=>by simp[elS] at h,fun i j _ h=>by simp[elS] at h,fun i j _ h=>by simp[elS] at h,fun i j h=>by simp[elS] at h,fun i j _ _ h=>by omega⟩,Eqv.refl⟩
 | c+1,hc=>by
  obtain⟨h1,h2⟩:=qen hp hA c (by omega)
  have hB:=(qc7 hp.1 hA c).1
  rw[elS,elP]
  generalize elS p R A c=S at h1 h2 hB
  obtain⟨B,pv⟩:=S
  simp only at h1 h2 hB ⊢
  cases hf:qa1 (fun i=>B i c≠0) pv.length (R-pv.length) with
  | none =>
   have hn:=qc9 hf
   show Rf R (c+1) B pv∧Eqv p R W A B
   refine⟨⟨h1.len,fun i hi=>by have:=h1.lt i hi;omega,h1.mono,h1.one,h1.low,fun i j h3 h4 h5=>?_⟩,h2⟩
   by_cases hj:j<c
   ·exact h1.bot i j h3 h4 hj
   ·obtain rfl:j=c:=by omega
    exact Classical.byContradiction fun e=>hn i h3 (by omega) e
  | some q =>
   have hq:=qaP hf
   have hq2:pv.length≤q∧q<R:=by omega
   have hlead:1≤qcK pv.length q B pv.length c∧qcK pv.length q B pv.length c≤p-1:=by
    have e:qcK pv.length q B pv.length c=B q c:=by simp[qcK]
    have:=hB q c hq2.2 (by omega)
    have:=hq.2.2
    rw[e];omega
   exact⟨h1.next hp hB (by omega) hq2 hq.2.2,(h2.trans (Eqv.sw (by omega) hq2.2)).trans (Eqv.f hp (by omega) hlead)⟩
end VeT
open Go Go.Proofs Ve
namespace VeT
end VeT
open Go Go.Proofs Ve
namespace VeT
end VeT
open Go Go.Proofs Ve
namespace VeT
def qbt(i j:Nat):Int:=if i=j then 1 else 0
def qbe(p:Int)(n:Nat):Mat:=(p,(n:Int),(n:Int),qav qbt n n,())
theorem qn4(i j:Nat):Ret E n_Z92 [dI (i:Int),dI (j:Int)] ⟨o_Z92,(qbt i j,())⟩:=by
 refine qal ?_
 simp only[run_Z92,Z92.ev]
 refine qcj (fun h=>qai ?_) fun h=>qai ?_
 ·have h:(i:Int)=j:=by simpa using h
  rw[qbt,if_pos (by omega)]
 ·have h:¬ (i:Int)=j:=by simpa using h
  rw[qbt,if_neg (by omega)]
theorem qqK(p:Int)(n:Nat)(hn:n≤32):Ret E n_Z91 [dI p,dI (n:Int)] ⟨o_Z91,qbe p n⟩:=by
 have h:=qcZ hn hn
 refine qal ?_
 simp only[run_Z91,Z91.ev]
 exact qaa (qeq p n n qbt (by omega) (by omega) (by omega) fun i j _ _=>qn4 i j) qam
theorem qfD(p:Int)(n:Nat)(hn:n≤32):Ret E n_Z155 [dI p,dI (n:Int)] ⟨o_Z155,qbe p n⟩:=by
 have h:=qcZ hn hn
 refine qal ?_
 simp only[run_Z155,Z155.ev]
 refine qaa (qcc p n n hn hn) ?_
 refine Ev.start (p:=fun φ m=>Z155.l0 (mkR (run E (φ 0))) (φ 0) m (n:Int) 0 0 0 0 p (n:Int) (n:Int) (List.replicate (n*n) 0)=_) 1 ?_ (fun _ _ _ h=>h)
 have:=qaq 1 (L:=fun φ m i o=>Z155.l0 (mkR (run E (φ 0))) (φ 0) m (n:Int) i 0 0 0 p (n:Int) (n:Int) o) (len:=n) (fun i=>qav qbt n i++List.replicate ((n-i)*n) 0) (r:=some ⟨o_Z155,qbe p n⟩) (fun _ _ _ _ _=>rfl) (fun i r hi ih=>?_) ?_
 ·simpa [qav] using this
 ·simp only[Z155.l0_succ _ qag]
  have hii:=qfj hi hi
  have hle:(i+1)*n≤n*n:=Nat.mul_le_mul_right _ hi
  rw[Nat.add_mul] at hle
  have hRi:(n-i)*n=n+(n-(i+1))*n:=by
   rw[show n-i=(n-(i+1))+1 by omega,Nat.add_mul];omega
  have hol:(qav qbt n i++List.replicate ((n-i)*n) (0:Int)).length=i*n+(n-i)*n:=by simp[qau]
  have e1:w64 (w64 ((i:Int)*(n:Int))+(i:Int))=((i*n+i:Nat):Int):=by
   rw[qa3,qad (n:=((i*n:Nat):Int)) (by omega) (by omega),qad (by omega) (by omega)];omega
  simp only[e1,Int.toNat_natCast]
  refine qaD (decide_eq_true (by omega)) (qar (by simp only[Bool.and_eq_true,decide_eq_true_eq,hol];omega) ?_)
  rw[qae (by omega)]
  have e2:(qav qbt n i++List.replicate ((n-i)*n) (0:Int)).set (i*n+i) 1=qav qbt n (i+1)++List.replicate ((n-(i+1))*n) 0:=by
   rw[List.set_append_right _ _ (by rw[qau];omega),qau,Nat.add_sub_cancel_left,qav,List.append_assoc]
   congr 1
   apply List.ext_getElem?
   intro j
   rw[List.getElem?_set,List.length_replicate]
   by_cases hj:j<n
   ·rw[List.getElem?_append_left (by simpa using hj)]
    by_cases hij:i=j
    ·subst hij
     rw[if_pos rfl,if_pos (by omega)]
     simp[hj,qbt]
    ·rw[if_neg hij,List.getElem?_replicate,if_pos (by omega)]
     simp[hj,qbt,hij]
   ·rw[if_neg (by omega),List.getElem?_append_right (by simpa using hj)]
    simp only[List.length_map,List.length_range,List.getElem?_replicate]
    by_cases h2:j<(n-i)*n
    ·rw[if_pos h2,if_pos (by omega)]
    ·rw[if_neg h2,if_neg (by omega)]
  rw[e2]
  exact ih
 ·simp only[Z155.l0_succ _ qag]
  refine qaJ (decide_eq_false (by omega)) (qai ?_)
  simp[qbe]
end VeT
open Go Go.Proofs Ve
namespace VeT
open Classical in
noncomputable def GC(x:Shf)(k:Int):Int:=if ISh x then(if 0≤k∧k≤3 then 0 else 2) else 1
theorem qgK{x:Shf}{k:Int}:GC x k=0↔ISh x∧0≤k∧k≤3:=by
 unfold GC;split
 ·rename_i h
  split
  ·rename_i h2;exact⟨fun _=>⟨h,h2⟩,fun _=>rfl⟩
  ·rename_i h2;exact⟨fun e=>by omega,fun e=>absurd e.2 h2⟩
 ·rename_i h;exact⟨fun e=>by omega,fun e=>absurd e.1 h⟩
theorem qgF(x:Shf)(k:Int)(hx:Sm (.st cS) x):Ret E n_Z57 [dLL x.1,dI x.2.1,dL x.2.2.1,dMs x.2.2.2.1,dI k] ⟨o_Z57,(GC x k,())⟩:=by
 refine qal ?_
 simp only[run_Z57,Z57.ev]
 refine qaa (qdi x hx) (qcj (fun h=>qai ?_) fun h=>qaa (qiw k) (qcj (fun h2=>qai ?_) fun h2=>qai ?_))
 ·have h:=qbc.1 (show pb (ISh x)=false by simpa using h)
  rw[GC,if_neg h]
 ·have h:=qaL.1 (show pb (ISh x)=true by simpa using h)
  have h2:=qbc.1 (show pb (0≤k∧k≤3)=false by simpa using h2)
  rw[GC,if_pos h,if_neg h2]
 ·have h:=qaL.1 (show pb (ISh x)=true by simpa using h)
  have h2:=qaL.1 (show pb (0≤k∧k≤3)=true by simpa using h2)
  rw[GC,if_pos h,if_pos h2]
theorem qk2(v:Sim)(n p:Int)(hv:v.length≤1048576)(hp:0≤p∧p≤1048576):Ret E n_Z68 [dL v,dI n,dI p] ⟨o_Z68,(pb (qaE v p∧(v.length:Int)=n),())⟩:=by
 refine qal ?_
 simp only[run_Z68,Z68.ev]
 refine qaa (qex v) (qcj (fun h=>qaa (qey v p hv hp) (qai ?_)) fun h=>qai ?_)
 ·have h:(v.length:Int)=n:=by simpa using h
  exact congrArg (fun b:Bool=>some (⟨o_Z68,(b,())⟩:Dv)) (qaS ⟨fun e=>⟨e,h⟩,fun e=>e.1⟩)
 ·have h:¬ (v.length:Int)=n:=by simpa using h
  rw[qaw fun e=>h e.2]
def qmm(x:Shf)(k:Int)(v:Sim):Prop:=qaE v x.2.1∧(v.length:Int)=SD x.1 x.2.2.1 k
open Classical in
noncomputable def CC(x:Shf)(k:Int)(v:Sim):Int:=if GC x k=0 then(if qmm x k v then 0 else 7) else GC x k
theorem qeE{x:Shf}{k:Int}{v:Sim}:CC x k v=0↔(ISh x∧0≤k∧k≤3)∧qmm x k v:=by
 rw[← qgK]
 unfold CC;split
 ·rename_i h
  split
  ·rename_i h2;exact⟨fun _=>⟨h,h2⟩,fun _=>rfl⟩
  ·rename_i h2;exact⟨fun e=>by omega,fun e=>absurd e.2 h2⟩
 ·rename_i h;exact⟨fun e=>absurd e h,fun e=>absurd e.1 h⟩
theorem qde(x:Shf)(k:Int)(v:Sim)(hx:Sm (.st cS) x)(hv:Sm (.sl (.int .i64)) v):Ret E n_Z93 [dLL x.1,dI x.2.1,dL x.2.2.1,dMs x.2.2.2.1,dI k,dL v] ⟨o_Z93,(CC x k v,())⟩:=by
 refine qal ?_
 simp only[run_Z93,Z93.ev]
 refine qaa (qgF x k hx) (qcj (fun h=>qai ?_) fun h=>?_)
 ·have h:¬ GC x k=0:=by simpa using h
  rw[CC,if_neg h]
 ·have h:GC x k=0:=by simpa using h
  obtain⟨hs,hk⟩:=qgK.1 h
  have hp:=hs.1.2.1
  refine qaa (qbn _ _ _ _ _ hx.1 hs.1.2.2.1.1 hs.1.2.2.1.2.1 (by omega)) (qaa (qk2 v (SD x.1 x.2.2.1 k) x.2.1 hv.1 ⟨by have:=hp.1;omega,by have:=hp.2.1;omega⟩) (qcj (fun h2=>qai ?_) fun h2=>qai ?_))
  ·rw[CC,if_pos h,if_neg (qbc.1 (show pb (qmm x k v)=false by simpa [qmm] using h2))]
  ·rw[CC,if_pos h,if_pos (qaL.1 (show pb (qmm x k v)=true by simpa [qmm] using h2))]
noncomputable def qcR(x:Shf)(k:Int):Mat:=qsG x.1 x.2.1 x.2.2.1 x.2.2.2.1 k
theorem VM.len{m:Mat}(h:VM m):m.2.2.2.1.length≤1024:=by
 obtain⟨R,C,_,hR,hC,hl⟩:=h.nat
 have:=qcZ hR hC
 omega
noncomputable def qes(x:Shf)(k:Int)(v:Sim):Sim:=qnR (qcR x k) v (SD x.1 x.2.2.1 (k+1)).toNat
theorem qk6{x:Shf}{k:Int}{v:Sim}(h:(ISh x∧0≤k∧k≤3)∧qmm x k v) :
  Ret E n_Z28 [dI (qcR x k).1,dI (qcR x k).2.1,dI (qcR x k).2.2.1,dL (qcR x k).2.2.2.1,dL v] ⟨o_Z28,(qes x k v,())⟩:=by
 have hp:=h.1.1.1.2.1
 exact qpQ (qcR x k) v (qr2 h.1.1.1 k) (by show SD x.1 x.2.2.1 k≤_;have:=h.2.2;omega) (h.2.1.mem ⟨hp.1,hp.2.1⟩)
theorem qil{x:Shf}{k:Int}{v:Sim}(h:ISh x):(qes x k v).length≤32:=by
 obtain⟨n,e,hn,ht⟩:=qc5 h.1 (k+1)
 unfold qes;rw[qfA];omega
open Classical in
noncomputable def qbC(x:Shf)(k:Int)(v:Sim):Sim×Int×Unit:=if CC x k v=0 then(qes x k v,0,()) else([],CC x k v,())
theorem qfk(x:Shf)(k:Int)(v:Sim)(hx:Sm (.st cS) x)(hv:Sm (.sl (.int .i64)) v):Ret E n_Z5 [dLL x.1,dI x.2.1,dL x.2.2.1,dMs x.2.2.2.1,dI k,dL v] ⟨o_Z5,qbC x k v⟩:=by
 refine qal ?_
 simp only[run_Z5,Z5.ev]
 refine qaa (qde x k v hx hv) (qcj (fun h=>qai ?_) fun h=>?_)
 ·have h:¬ CC x k v=0:=by simpa using h
  rw[qbC,if_neg h]
 ·have h:CC x k v=0:=by simpa using h
  have hh:=qeE.1 h
  rw[qbC,if_pos h]
  exact qaa (qaY x.1 x.2.1 x.2.2.1 x.2.2.2.1 k (by omega) hx.1 hh.1.1.1) (qaa (qk6 hh) qam)
noncomputable def qcD(x:Shf)(k:Int)(v:Sim):Bool×Unit:=(pb (CC x k v=0∧Zs (qes x k v)),())
theorem qkh(x:Shf)(k:Int)(v:Sim)(hx:Sm (.st cS) x)(hh:(ISh x∧0≤k∧k≤3)∧qmm x k v):Ret E n_Z63 [dLL x.1,dI x.2.1,dL x.2.2.1,dMs x.2.2.2.1,dI k,dL v] ⟨o_Z63,(pb (Zs (qes x k v)),())⟩:=by
 refine qal ?_
 simp only[run_Z63,Z63.ev]
 have:=qil (k:=k) (v:=v) hh.1.1
 exact qaa (qaY x.1 x.2.1 x.2.2.1 x.2.2.2.1 k (by omega) hx.1 hh.1.1.1) (qaa (qk6 hh) (qaa (qjE (qes x k v) (by omega)) qam))
theorem qdP(x:Shf)(k:Int)(v:Sim)(hx:Sm (.st cS) x)(hv:Sm (.sl (.int .i64)) v):Ret E n_Z12 [dLL x.1,dI x.2.1,dL x.2.2.1,dMs x.2.2.2.1,dI k,dL v] ⟨o_Z12,qcD x k v⟩:=by
 refine qal ?_
 simp only[run_Z12,Z12.ev]
 refine qaa (qde x k v hx hv) (qcj (fun h=>?_) fun h=>qai ?_)
 ·have h:CC x k v=0:=by simpa using h
  refine qaa (qkh x k v hx (qeE.1 h)) (qai ?_)
  rw[qcD,qaS (show CC x k v=0∧Zs (qes x k v)↔Zs (qes x k v) from⟨fun e=>e.2,fun e=>⟨h,e⟩⟩)]
 ·have h:¬ CC x k v=0:=by simpa using h
  rw[qcD,qaw fun e=>h e.1]
end VeT
open Go Go.Proofs Ve
namespace VeT
theorem qjm.lt{s:Sim}(h:qjm s):∀ {i j:Nat} (hj:j<s.length) (hij:i<j),s[i]<s[j]:=by
 intro i j
 induction j with
 | zero=>intro _ h;omega
 | succ j ih =>
  intro hj hij
  have:=h (j+1) (by omega) hj
  rw[Nat.add_sub_cancel,qah (by omega),qah hj] at this
  by_cases e:i=j
  ·subst e;exact this
  ·exact Int.lt_trans (ih (by omega) (by omega)) this
theorem qjm.pairwise{s:Sim}(h:qjm s):s.Pairwise (·<·):=by
 rw[List.pairwise_iff_getElem]
 intro i j hi hj hij
 exact h.lt hj hij
end VeT
open Go Go.Proofs Ve
namespace VeT
theorem qra{W a b a' b':Nat}(hb:b<W)(hb':b'<W)(e:a*W+b=a'*W+b'):a=a'∧b=b':=by
 have h1:(a*W+b) / W=a:=by rw[Nat.mul_comm,Nat.mul_add_div (by omega),Nat.div_eq_of_lt hb,Nat.add_zero]
 have h2:(a'*W+b') / W=a':=by rw[Nat.mul_comm,Nat.mul_add_div (by omega),Nat.div_eq_of_lt hb',Nat.add_zero]
 have:a=a':=by rw[← h1,← h2,e]
 subst this
 exact⟨rfl,by omega⟩
theorem qsA{c:List Sim}{st:Sim}(hst:∀ x∈st,0≤x∧x≤3){s s':Nat}(hl:(c.getD s []).length=(c.getD s' []).length)(h:s<s'):FC c st s+st.getD s 0≤FC c st s':=by
 unfold FC
 rw[← hl]
 exact qoI hst h (by omega)
theorem qgQ{c:List Sim}{st:Sim}(hst:∀ x∈st,0≤x∧x≤3){s s' i i':Nat}(hl:(c.getD s []).length=(c.getD s' []).length)(hi:i<(st.getD s 0).toNat)(hi':i'<(st.getD s' 0).toNat)
  (e:(FC c st s).toNat+i=(FC c st s').toNat+i'):s=s'∧i=i':=by
 have n1:0≤FC c st s:=(qlN hst).1
 have n2:0≤FC c st s':=(qlN hst).1
 rcases Nat.lt_trichotomy s s' with h | h | h
 ·have:=qsA hst hl h;omega
 ·subst h;exact⟨rfl,by omega⟩
 ·have:=qsA hst hl.symm h;omega
theorem qo7{s:Sim}(hs:qjm s){a b:Nat}(ha:a<s.length)(hb:b<s.length)(e:s.eraseIdx a=s.eraseIdx b):a=b:=by
 have key:∀ {a b:Nat},a<b→b<s.length→s.eraseIdx a=s.eraseIdx b→False:=fun {a b} hab hb e=>by
  have h:=congrArg (·[a]?) e
  simp only[List.getElem?_eraseIdx] at h
  rw[if_neg (by omega),if_pos hab,List.getElem?_eq_getElem (by omega),List.getElem?_eq_getElem (by omega)] at h
  have h:=Option.some.inj h
  have:=hs.lt (i:=a) (j:=a+1) (by omega) (by omega)
  omega
 rcases Nat.lt_trichotomy a b with h | h | h
 ·exact absurd e fun e=>key h hb e
 ·exact h
 ·exact absurd e.symm fun e=>key h ha e
theorem qnl{c:List Sim}(hv:VC c){s a b:Nat}(hs:s<c.length)(ha:a<(qaG c s).length)(hb:b<(qaG c s).length)(e:fc c s a=fc c s b):a=b:=by
 obtain⟨_,_,ea⟩:=qby hv hs ha
 obtain⟨_,_,eb⟩:=qby hv hs hb
 have hl:=qaF (c:=c) (k:=s)
 rw[e,eb] at ea
 split at hl
 ·exact(qo7 (hv.2.1 s hs).2.2.1 (by omega) (by omega) ea).symm
 ·omega
theorem qmX{c:List Sim}{p:Int}{st:Sim}{ms:List Mat}(h:VS c p st ms){k:Int}(hk:0≤k){s a i j:Nat}(hs:s<c.length)(hd:((c.getD s []).length:Int)=k+2)(ha:a<(qaG c s).length)
  (hi:i<(st.getD s 0).toNat) (hj:j<(st.getD (fc c s a) 0).toNat) :
  (qet c p st ms k).getD (((FC c st s).toNat+i)*(SD c st k).toNat+((FC c st (fc c s a)).toNat+j)) 0=(mp c ms s a).2.2.2.1.getD (i*(mp c ms s a).2.2.1.toNat+j) 0*sgn p a%p:=by
 have hst:=h.2.2.1.2.1
 obtain⟨g1,g2,g3,g4,g5,g6,g7⟩:=qdo h hs hd ha
 have hW:(FC c st (fc c s a)).toNat+j<(SD c st k).toNat:=by omega
 have hH:(FC c st s).toNat+i<(SD c st (k+1)).toNat:=by omega
 unfold qet
 rw[if_neg (by omega)]
 refine qqO (by rw[List.length_replicate];exact qfj hH hW) (fun x hx e=>?_) ⟨_,(qkC (Nat.le_refl _)).2 ⟨s,hs,hd,qkJ.2 ⟨a,i,j,ha,by omega,by omega,rfl⟩⟩,by simp only;omega⟩
 obtain⟨s',hs',hd',hx⟩:=(qkC (Nat.le_refl _)).1 hx
 obtain⟨a',i',j',ha',hi',hj',rfl⟩:=qkJ.1 hx
 obtain⟨q1,q2,q3,q4,q5,q6,q7⟩:=qdo h hs' hd' ha'
 simp only at e ⊢
 have hW':(FC c st (fc c s' a')).toNat+j'<(SD c st k).toNat:=by omega
 have e0:((FC c st s').toNat+i')*(SD c st k).toNat+((FC c st (fc c s' a')).toNat+j')=((FC c st s).toNat+i)*(SD c st k).toNat+((FC c st (fc c s a)).toNat+j):=by omega
 obtain⟨e1,e2⟩:=qra hW' hW e0
 obtain⟨rfl,rfl⟩:=qgQ hst (by omega) (by omega) (by omega) e1
 obtain⟨e3,rfl⟩:=qgQ hst (by omega) (by omega) (by omega) e2
 obtain rfl:=qnl h.1 hs ha' ha e3
 rfl
theorem qkP{c:List Sim}{p:Int}{st:Sim}{ms:List Mat}(h:VS c p st ms){k:Int}{s i g:Nat}(hs:s<c.length)(hd:((c.getD s []).length:Int)=k+2)
  (hi:i<(st.getD s 0).toNat) (hg:g<(SD c st k).toNat) (hno:∀ a,a<(qaG c s).length→¬ ((FC c st (fc c s a)).toNat≤g∧g<(FC c st (fc c s a)).toNat+(st.getD (fc c s a) 0).toNat)) :
  (qet c p st ms k).getD (((FC c st s).toNat+i)*(SD c st k).toNat+g) 0=0:=by
 have hst:=h.2.2.1.2.1
 have hrep:∀ n q,(List.replicate n (0:Int)).getD q 0=0:=fun n q=>by
  rw[List.getD_eq_getElem?_getD,List.getElem?_replicate];split<;>rfl
 unfold qet
 split
 ·exact hrep _ _
 rw[qly fun x hx e=>?_]
 ·exact hrep _ _
 obtain⟨s',hs',hd',hx⟩:=(qkC (Nat.le_refl _)).1 hx
 obtain⟨a',i',j',ha',hi',hj',rfl⟩:=qkJ.1 hx
 obtain⟨q1,q2,q3,q4,q5,q6,q7⟩:=qdo h hs' hd' ha'
 simp only at e
 have hW':(FC c st (fc c s' a')).toNat+j'<(SD c st k).toNat:=by omega
 have e0:((FC c st s').toNat+i')*(SD c st k).toNat+((FC c st (fc c s' a')).toNat+j')=((FC c st s).toNat+i)*(SD c st k).toNat+g:=by omega
 obtain⟨e1,e2⟩:=qra hW' hg e0
 obtain⟨rfl,rfl⟩:=qgQ hst (by omega) (by omega) (by omega) e1
 exact hno a' ha' ⟨by omega,by omega⟩
end VeT
open Go Go.Proofs Ve
namespace VeT
theorem qj5{p:Int}{n:Nat}(hp:Pr p)(hn:n≤32):VM (qbe p n):=by
 refine⟨hp,⟨by show(0:Int)≤n;omega,by show(n:Int)≤32;omega⟩,⟨by show(0:Int)≤n;omega,by show(n:Int)≤32;omega⟩,?_,?_⟩
 ·show((qav qbt n n).length:Int)=(n:Int)*(n:Int)
  rw[qau,qa3]
 ·intro x hx
  have hx:x∈qav qbt n n:=hx
  have:∀ m,x∈qav qbt n m→0≤x∧x≤1:=by
   intro m
   induction m with
   | zero=>intro h;simp[qav] at h
   | succ m ih =>
    intro h
    rw[qav,List.mem_append] at h
    rcases h with h | h
    ·exact ih h
    ·rw[List.mem_map] at h
     obtain⟨j,_,rfl⟩:=h
     unfold qbt;split<;>omega
  have:=this n hx
  have:=hp.1
  show 0≤x∧x≤p-1
  omega
theorem qew{a b:Mat}(ha:VM a)(hb:VM b):VM (qfV a b):=by
 refine⟨ha.1,ha.2.1,hb.2.2.1,?_,?_⟩
 ·show((qav _ b.2.2.1.toNat a.2.1.toNat).length:Int)=a.2.1*b.2.2.1
  rw[qau]
  have h1:=ha.2.1
  have h2:=hb.2.2.1
  obtain⟨x,hx⟩:=Int.eq_ofNat_of_zero_le h1.1
  obtain⟨y,hy⟩:=Int.eq_ofNat_of_zero_le h2.1
  rw[hx,hy,qa3];rfl
 ·intro x hx
  have hx:x∈qav (qhP a.1 a.2.2.2.1 b.2.2.2.1 a.2.2.1.toNat b.2.2.1.toNat) b.2.2.1.toNat a.2.1.toNat:=hx
  have hp:=ha.1.1
  have:∀ m,x∈qav (qhP a.1 a.2.2.2.1 b.2.2.2.1 a.2.2.1.toNat b.2.2.1.toNat) b.2.2.1.toNat m→0≤x∧x≤a.1-1:=by
   intro m
   induction m with
   | zero=>intro h;simp[qav] at h
   | succ m ih =>
    intro h
    rw[qav,List.mem_append] at h
    rcases h with h | h
    ·exact ih h
    ·rw[List.mem_map] at h
     obtain⟨j,_,rfl⟩:=h
     have h1:=Int.emod_nonneg (qaM (fun l=>a.2.2.2.1.getD (m*a.2.2.1.toNat+l) 0) (fun l=>b.2.2.2.1.getD (l*b.2.2.1.toNat+j) 0) a.2.2.1.toNat) (show a.1≠0 by omega)
     have h2:=Int.emod_lt_of_pos (qaM (fun l=>a.2.2.2.1.getD (m*a.2.2.1.toNat+l) 0) (fun l=>b.2.2.2.1.getD (l*b.2.2.1.toNat+j) 0) a.2.2.1.toNat) (show 0<a.1 by omega)
     unfold qhP;omega
  exact this _ hx
end VeT
open Go Go.Proofs Ve
namespace VeT
end VeT
open Go Go.Proofs Ve
namespace VeT
def qsY(a b:Sim)(c p:Int):Sim:=(List.range a.length).map fun i=>(a.getD i 0+c*b.getD i 0)%p
end VeT
open Go Go.Proofs Ve
namespace VeT
theorem qny{a b:Sim}(hl:a.length=b.length)(h:∀ i,i<a.length→a.getD i 0=b.getD i 0):a=b:=by
 refine List.ext_getElem hl fun i h1 h2=>?_
 have:=h i h1
 rwa [qah h1,qah h2] at this
end VeT
open Go Go.Proofs Ve
namespace VeT
end VeT
open Go Go.Proofs Ve
namespace VeT
def qtl(c:List Sim)(w:Sim):Prop:=qjm w∧∀ y∈w,0≤y∧y≤(c.length:Int)-1
theorem qtl.get{c:List Sim}{w:Sim}(h:qtl c w){i:Nat}(hi:i<w.length):∃ n:Nat,w[i]=(n:Int)∧n<c.length:=by
 have:=h.2 _ (List.getElem_mem hi)
 exact⟨(w[i]).toNat,by omega,by omega⟩
end VeT
open Go Go.Proofs Ve
namespace VeT
theorem qe7{P:Nat→Prop}:∀ {d a k:Nat},qa1 P a d=some k→∀ i,a≤i→i<k→¬ P i
 | 0,a,k,h=>by simp[qa1] at h
 | d+1,a,k,h=>fun i h1 h2=>by
  rw[qa1] at h
  split at h
  ·obtain rfl:=Option.some.inj h;omega
  ·rename_i hp
   by_cases e:i=a
   ·subst e;exact hp
   ·exact qe7 h i (by omega) h2
theorem qhC{s:Sim}(h:s.Pairwise (·<·)):qjm s:=fun j h1 h2=>by
 rw[qah (show j-1<s.length by omega),qah h2]
 exact List.pairwise_iff_getElem.1 h (j-1) j (by omega) h2 (by omega)
end VeT
open Go Go.Proofs Ve
namespace VeT
def qsj(a p:Int):Int:=Int.tmod (w64 (Int.tmod a p+p)) p
theorem qpU{a p:Int}(hp:2≤p∧p≤251)(ha:-1048576≤a∧a≤1048576):qsj a p=a%p:=by
 have h1:-p<Int.tmod a p∧Int.tmod a p<p:=by
  constructor
  ·by_cases h:a<0
   ·have:=Int.tmod_lt_of_pos (-a) (show 0<p by omega)
    rw[Int.neg_tmod] at this;omega
   ·have:=Int.tmod_nonneg p (show 0≤a by omega);omega
  ·exact Int.tmod_lt_of_pos a (by omega)
 have h2:Int.tmod a p%p=a%p:=by
  have:=Int.tmod_add_mul_tdiv a p
  have e:a=Int.tmod a p+p*Int.tdiv a p:=this.symm
  conv=>rhs;rw[e]
  rw[Int.add_mul_emod_self_left]
 unfold qsj
 rw[qad (by omega) (by omega),Int.tmod_eq_emod_of_nonneg (by omega),Int.add_emod_right,h2]
theorem qjx(a p:Int)(hp:2≤p):Ret E n_Z79 [dI a,dI p] ⟨o_Z79,(qsj a p,())⟩:=by
 refine qal ?_
 simp only[run_Z79,Z79.ev]
 exact qar (by simp;omega) (qar (by simp;omega) qam)
theorem qoo(a p:Int)(hp:2≤p):Ret E n_Z150 [dI a,dI p] ⟨o_Z150,(qsj a p,())⟩:=by
 refine qal ?_
 simp only[run_Z150,Z150.ev]
 exact qar (by simp;omega) (qar (by simp;omega) qam)
theorem qeF(a b:Sim)(c p:Int)(hp:2≤p∧p≤251)(hc:0≤c∧c≤250)(hl:a.length≤b.length)(ha1:a.length≤1048576)(ea:∀ x∈a,0≤x∧x≤250)(eb:∀ x∈b,0≤x∧x≤250) :
  Ret E n_Z26 [dL a,dL b,dI c,dI p] ⟨o_Z26,(qsY a b c p,())⟩:=by
 refine qal ?_
 simp only[run_Z26,Z26.ev]
 refine Ev.start (p:=fun φ n=>Z26.l0 (mkR (run E (φ 0))) (φ 0) n a b c p (a.length:Int) 0 []=_) 1 ?_ (fun _ _ _ h=>h)
 refine qaq 1 (L:=fun φ n k o=>Z26.l0 (mkR (run E (φ 0))) (φ 0) n a b c p (a.length:Int) k o) (len:=a.length) (fun k=>(List.range k).map fun i=>(a.getD i 0+c*b.getD i 0)%p) (fun _ _ _ _ _=>rfl) (fun k r hk ih=>?_) ?_
 ·simp only[Z26.l0_succ _ qag]
  have hkb:k<b.length:=by omega
  have h1:=ea _ (List.getElem_mem hk)
  have h2:=qfY hc (eb _ (List.getElem_mem hkb))
  rw[List.range_succ,List.map_append,List.map_singleton,qah hk,qah hkb] at ih
  refine qaD (decide_eq_true (by omega)) (qaf (qap hk) (qaf (qap hkb) (qar (by simp;omega) ?_)))
  rw[qad (n:=c*b[k]) (by omega) (by omega),qad (by omega) (by omega),Int.tmod_eq_emod_of_nonneg (by omega),qae (by omega)]
  exact qar (by simp;omega) ih
 ·simp only[Z26.l0_succ _ qag]
  exact qaJ (decide_eq_false (by omega)) qam
theorem qpd{a:Int}:∀ k:Nat,(a*a) ^ k=a ^ (k+k)
 | 0=>by rw[Int.pow_zero,Nat.add_zero,Int.pow_zero]
 | k+1=>by rw[Int.pow_succ,qpd k,show k+1+(k+1)=k+k+1+1 by omega,Int.pow_succ,Int.pow_succ,Int.mul_assoc]
theorem qmv(a:Int)(n:Nat)(p:Int)(hp:2≤p∧p≤251)(ha:0≤a∧a≤p-1)(hn:n≤1048576):Ret E n_Z75 [dI a,dI (n:Int),dI p] ⟨o_Z75,(a ^ n%p,())⟩:=by
  refine qal ?_
  simp only[run_Z75,Z75.ev]
  refine Ev.start (p:=fun φ m=>Z75.l0 (mkR (run E (φ 0))) (φ 0) m a (n:Int) p 1=_) 1 ?_ (fun _ _ _ h=>h)
  refine qfn 1 (σ:=Int×Nat×Int) (L:=fun φ m s=>Z75.l0 (mkR (run E (φ 0))) (φ 0) m s.1 (s.2.1:Int) p s.2.2) (fun _ _ _ _=>rfl) (fun s=>(0≤s.1∧s.1≤p-1)∧s.2.1≤1048576∧(0≤s.2.2∧s.2.2≤p-1)∧s.2.2*s.1 ^ s.2.1%p=a ^ n%p) (fun _=>_) (fun s=>s.2.1) (fun s hi ih=>?_) (a,n,1) ⟨ha,hn,by show 0≤(1:Int)∧(1:Int)≤p-1;omega,by show 1*a ^ n%p=_;rw[Int.one_mul]⟩
  obtain⟨b,m,q⟩:=s
  obtain⟨h1,h2,h3,h4⟩:=hi
  simp only at h1 h2 h3 h4 ih
  simp only[Z75.l0_succ _ qag]
  have hbb:=qfY (x:=b) (y:=b) (by omega) (by omega)
  have hqb:=qfY (x:=q) (y:=b) (by omega) (by omega)
  have e1:w64 (b*b)=b*b:=qad (by omega) (by omega)
  have e2:w64 (q*b)=q*b:=qad (by omega) (by omega)
  have e3:Int.tdiv (m:Int) 2=((m / 2:Nat):Int):=rfl
  have e4:w64 ((m / 2:Nat):Int)=((m / 2:Nat):Int):=qad (by omega) (by omega)
  have e5:Int.tmod (m:Int) 2=((m%2:Nat):Int):=rfl
  refine qeu (fun hm=>?_) fun hm=>qai ?_
  · rw[e5,e1,e2,e3,e4,Int.tmod_eq_emod_of_nonneg (by omega),Int.tmod_eq_emod_of_nonneg (by omega)]
    have hd:m / 2<m:=by omega
    refine qcj (fun ho=>qar (by simp;omega) (qar (by simp;omega) ?_)) fun he=>qar (by simp;omega) ?_
    · have ho : m % 2 = 1 := by have : ((m % 2 : Nat) : Int) = 1 := by simpa using ho
                                omega
      refine ih (b*b%p,m / 2,q*b%p) ⟨qcF (by omega),by show m / 2≤_;omega,qcF (by omega),?_⟩ hd
      rw[← h4]
      show q*b%p*(b*b%p) ^ (m / 2)%p=_
      have hx:(q*b%p)%p=(q*b)%p:=Int.emod_emod_of_dvd _ (Int.dvd_refl p)
      have hy:(b*b%p) ^ (m / 2)%p=(b*b) ^ (m / 2)%p:=qhW (Int.emod_emod_of_dvd _ (Int.dvd_refl p)) _
      rw[qc8 hx hy,qpd]
      have hm2:m=m / 2+m / 2+1:=by omega
      conv=>rhs;rw[hm2,Int.pow_succ]
      rw[Int.mul_assoc,Int.mul_comm b]
    · have he:m%2=0:=by
        have:¬ ((m%2:Nat):Int)=1:=by simpa using he
        omega
      refine ih (b*b%p,m / 2,q) ⟨qcF (by omega),by show m / 2≤_;omega,h3,?_⟩ hd
      rw[← h4]
      show q*(b*b%p) ^ (m / 2)%p=_
      have hy:(b*b%p) ^ (m / 2)%p=(b*b) ^ (m / 2)%p:=qhW (Int.emod_emod_of_dvd _ (Int.dvd_refl p)) _
      rw[qc8 rfl hy,qpd]
      have hm2:m=m / 2+m / 2:=by omega
      conv=>rhs;rw[hm2]
  · have hm:m=0:=by omega
    subst hm
    have:q=a ^ n%p:=by rw[← h4,Int.pow_zero,Int.mul_one,Int.emod_eq_of_lt (by omega) (by omega)]
    rw[this]
theorem qj8(a p:Int)(hp:2≤p∧p≤251)(ha:0≤a∧a≤p-1):Ret E n_Z61 [dI a,dI p] ⟨o_Z61,(qhl a p,())⟩:=by
 have e:w64 (p-2)=(((p-2).toNat:Nat):Int):=by rw[qad (by omega) (by omega)];omega
 refine qal ?_
 simp only[run_Z61,Z61.ev,e]
 exact qaa (qmv a (p-2).toNat p hp ha (by omega)) qam
theorem qjf(a p:Int)(hp:2≤p∧p≤251)(ha:0≤a∧a≤p-1):Ret E n_Z148 [dI a,dI p] ⟨o_Z148,(qhl a p,())⟩:=by
 have e:w64 (p-2)=(((p-2).toNat:Nat):Int):=by rw[qad (by omega) (by omega)];omega
 refine qal ?_
 simp only[run_Z148,Z148.ev,e]
 refine Ev.start (p:=fun φ m=>Z148.l0 (mkR (run E (φ 0))) (φ 0) m a p 1 (((p-2).toNat:Nat):Int)=_) 1 ?_ (fun _ _ _ h=>h)
 refine qfn 1 (σ:=Nat×Int) (L:=fun φ m s=>Z148.l0 (mkR (run E (φ 0))) (φ 0) m a p s.2 (s.1:Int)) (fun _ _ _ _=>rfl) (fun s=>s.1≤1048576∧(0≤s.2∧s.2≤p-1)∧s.2*a ^ s.1%p=a ^ (p-2).toNat%p) (fun _=>_) (fun s=>s.1) (fun s hi ih=>?_) ((p-2).toNat,1) ⟨by show(p-2).toNat≤_;omega,by show 0≤(1:Int)∧(1:Int)≤p-1;omega,by show 1*_%p=_;rw[Int.one_mul]⟩
 obtain⟨m,q⟩:=s
 obtain⟨h2,h3,h4⟩:=hi
 simp only at h2 h3 h4 ih
 simp only[Z148.l0_succ _ qag]
 have hqa:=qfY (x:=q) (y:=a) (by omega) (by omega)
 refine qeu (fun hm=>qar (by simp;omega) ?_) fun hm=>qai ?_
 ·rw[qad (n:=q*a) (by omega) (by omega),Int.tmod_eq_emod_of_nonneg (by omega),qad (by omega) (by omega),show(m:Int)-1=((m-1:Nat):Int) by omega]
  refine ih (m-1,q*a%p) ⟨by show m-1≤_;omega,qcF (by omega),?_⟩ (by show m-1<m;omega)
  rw[← h4]
  show q*a%p*a ^ (m-1)%p=_
  have hx:(q*a%p)%p=(q*a)%p:=Int.emod_emod_of_dvd _ (Int.dvd_refl p)
  rw[qc8 hx rfl]
  conv=>rhs;rw[show m=m-1+1 by omega,Int.pow_succ]
  rw[Int.mul_assoc,Int.mul_comm a]
 ·have hm:m=0:=by omega
  subst hm
  have:q=qhl a p:=by unfold qhl;rw[← h4,Int.pow_zero,Int.mul_one,Int.emod_eq_of_lt (by omega) (by omega)]
  rw[this]
theorem qkM{f g:Nat→Int}{W:Nat}{c p:Int}:qsY ((List.range W).map f) ((List.range W).map g) c p=(List.range W).map fun j=>(f j+c*g j)%p:=by
 unfold qsY
 rw[List.length_map,List.length_range]
 refine List.map_congr_left fun j hj=>?_
 have hj:=List.mem_range.1 hj
 simp[List.getD_eq_getElem?_getD,hj]
theorem qlI{W:Nat}:List.replicate W (0:Int)=(List.range W).map fun _=>0:=by
 rw[List.map_const',List.length_range]
theorem qln{f:Nat→Int}{W:Nat}{p:Int}(hp:p≤251)(h:∀ j,j<W→0≤f j∧f j≤p-1):∀ x∈(List.range W).map f,0≤x∧x≤250:=fun x hx=>by
 obtain⟨j,hj,rfl⟩:=List.mem_map.1 hx
 have:=h j (List.mem_range.1 hj)
 omega
def pvL(l:List Nat):Sim:=l.map fun(n:Nat)=>(n:Int)
theorem qaZ{l:List Nat}:(pvL l).length=l.length:=by simp[pvL]
theorem qmG{l:List Nat}{c:Nat}:pvL (l++[c])=pvL l++[(c:Int)]:=by simp[pvL]
theorem qop{A:Ent}{R W c top:Nat}(hc:c<W)(ht:top≤R):qhK (fun row:Sim=>row.getD c 0 != 0) ((qaB A R W).drop top)=o2i ((qa1 (fun i=>A i c≠0) top (R-top)).map fun q=>q-top):=by
 have hlen:((qaB A R W).drop top).length=R-top:=by rw[List.length_drop,qaA]
 have hget:∀ k (h:k<((qaB A R W).drop top).length),(((qaB A R W).drop top)[k].getD c 0 != 0)=true↔A (top+k) c≠0:=fun k h=>by
  rw[hlen] at h
  have h1:=qba (A:=A) (W:=W) (show top+k<R by omega)
  have h2:((qaB A R W).drop top)[k]? = some ((List.range W).map (A (top+k))):=by rw[List.getElem?_drop];exact h1
  rw[List.getElem?_eq_getElem (by rw[hlen];exact h)] at h2
  rw[Option.some.inj h2,List.getD_eq_getElem?_getD,qeV hc]
  simp
 symm
 refine qdc (fun k hk=>?_) fun hno j hj ⟨hj',hP⟩=>?_
 ·cases hf:qa1 (fun i=>A i c≠0) top (R-top) with
  | none=>rw[hf] at hk;cases hk
  | some q =>
   rw[hf] at hk
   have hk:q-top=k:=Option.some.inj hk
   have h1:=qaP hf
   have hkl:k<((qaB A R W).drop top).length:=by rw[hlen];omega
   refine⟨hkl,⟨hkl,(hget k hkl).2 (by rw[show top+k=q by omega];exact h1.2.2)⟩,fun j hj ⟨hj',hP⟩=>?_⟩
   exact qe7 hf (top+j) (by omega) (by omega) ((hget j hj').1 hP)
 ·cases hf:qa1 (fun i=>A i c≠0) top (R-top) with
  | none=>exact qc9 hf (top+j) (by omega) (by rw[hlen] at hj;omega) ((hget j hj').1 hP)
  | some q=>rw[hf] at hno;cases hno
end VeT
open Go Go.Proofs Ve
namespace VeT
theorem qiM(row:Sim)(c:Nat)(hc:c<row.length):Ret E n_Z46 [dL row,⟨.ptr (.cons (.int .i64) .nil),((c:Int),())⟩] ⟨o_Z46,(row.getD c 0 != 0,())⟩:=by
 rw[qah hc]
 refine qal ?_
 simp only[run_Z46,Z46.ev]
 exact qaf (qap hc) qam
def elK(p:Int)(c top k:Nat)(B:Ent):Ent:=fun i j=>if i<k then elF p c top B i j else elM p c top B i j
theorem qqR{p:Int}{c top:Nat}{B:Ent}{R W:Nat}:qaB (elK p c top 0 B) R W=qaB (elM p c top B) R W:=qbU fun i j _ _=>by simp[elK]
theorem qrU{p:Int}{c top:Nat}{B:Ent}{R W:Nat}:qaB (elK p c top R B) R W=qaB (elF p c top B) R W:=qbU fun i j hi _=>by simp[elK,hi]
theorem qpA{top q R W:Nat}{A:Ent}(ht:top<R)(hq:q<R)(hne:q≠top):((qaB A R W).set top ((List.range W).map (A q))).set q ((List.range W).map (A top))=qaB (qcK top q A) R W:=by
 rw[qgx,qgx]
 refine qbU fun i j _ _=>?_
 unfold qcK
 by_cases h1:i=q
 ·subst h1;simp[hne]
 ·by_cases h2:i=top
  ·subst h2;simp[h1]
  ·simp[h1,h2]
theorem qpx{top R W:Nat}{A:Ent}:qaB (qcK top top A) R W=qaB A R W:=qbU fun i j _ _=>by
 unfold qcK
 by_cases h:i=top
 ·subst h;simp
 ·simp[h]
theorem qd9(A:Ent)(R W:Nat)(p:Int)(hp:2≤p∧p≤251)(hR:R≤1048576)(hW:W≤1048576)(hA:EIn p R W A) :
  ∃ det:Int,Ret E n_Z45 [dLL (qaB A R W),dI (W:Int),dI p] ⟨o_Z45,(pvL (elS p R A W).2,det,qaB (elS p R A W).1 R W,())⟩:=by
 have key:∀ d c det,c+d=W→∃ det':Int,Ev fun φ=>Z45.l0 (mkR (run E (φ 0))) (φ 0) (φ 1) (W:Int) p det (W:Int) (c:Int) (pvL (elS p R A c).2) (qaB (elS p R A c).1 R W)=some ⟨o_Z45,(pvL (elS p R A W).2,det',qaB (elS p R A W).1 R W,())⟩:=by
  intro d
  induction d with
  | zero =>
   intro c det hc
   obtain rfl:c=W:=by omega
   refine⟨det,Ev.round 1 (L:=fun φ n=>Z45.l0 (mkR (run E (φ 0))) (φ 0) n (c:Int) p det (c:Int) (c:Int) (pvL (elS p R A c).2) (qaB (elS p R A c).1 R c)) ?_ (fun _ _ _=>rfl)⟩
   simp only[Z45.l0_succ _ qag]
   exact qaJ (decide_eq_false (by omega)) qam
  | succ d ih =>
   intro c det hcd
   have hc:c<W:=by omega
   obtain⟨hB,hpl,hpc,_⟩:=qc7 hp.1 hA c
   have hstep:elS p R A (c+1)=elP p R c (elS p R A c):=rfl
   generalize hS:elS p R A c=S at hB hpl hpc hstep
   obtain⟨B0,pv⟩:=S
   simp only at hB hpl hpc hstep
   have hlen:(qaB B0 R W).length=R:=qaA
   have hI:=qbz ((qaB B0 R W).drop pv.length) (((c:Int),()),()) (fun row=>row.getD c 0 != 0) (by rw[List.length_drop,hlen];omega) fun row hrow=>qiM row c (by
    have:=List.mem_of_mem_drop hrow
    unfold qaB at this
    obtain⟨i,_,rfl⟩:=List.mem_map.1 this
    simpa using hc)
   rw[qop hc hpl] at hI
   cases hf:qa1 (fun i=>B0 i c≠0) pv.length (R-pv.length) with
   | none =>
    rw[hf] at hI
    have e:elS p R A (c+1)=(B0,pv):=by rw[hstep,elP];simp only[hf]
    obtain⟨det',h'⟩:=ih (c+1) 0 (by omega)
    rw[e] at h'
    refine⟨det',Ev.round 1 (L:=fun φ n=>Z45.l0 (mkR (run E (φ 0))) (φ 0) n (W:Int) p det (W:Int) (c:Int) (pvL pv) (qaB B0 R W)) ?_ (fun _ _ _=>rfl)⟩
    simp only[Z45.l0_succ _ qag,qaZ,hlen,Int.toNat_natCast]
    rw[show List.take R (qaB B0 R W)=qaB B0 R W from List.take_of_length_le (by omega)]
    refine qaD (decide_eq_true (by omega)) (qar (by simp only[Bool.and_eq_true,decide_eq_true_eq];omega) (qaa hI (qaD rfl ?_)))
    rw[qae (by omega)]
    exact h'
   | some q =>
    rw[hf] at hI
    have hq:=qaP hf
    have e:elS p R A (c+1)=(elF p c pv.length (qcK pv.length q B0),pv++[c]):=by rw[hstep,elP];simp only[hf]
    generalize ht:pv.length=top at hI hq e hpl hpc
    have htR:top<R:=by omega
    have hqR:q<R:=by omega
    have hsw:=hB.sw htR hqR
    have hlead:1≤qcK top q B0 top c∧qcK top q B0 top c≤p-1:=by
     have h1:=hsw top c htR hc
     have h2:qcK top q B0 top c=B0 q c:=by simp[qcK]
     have h3:=hq.2.2
     rw[← h2] at h3
     omega
    have hI':Ret E n_Z118 [dLL ((qaB B0 R W).drop top),⟨.fn n_Z46 (.cons (.ptr (.cons (.int .i64) .nil)) .nil),(((c:Int),()),())⟩] ⟨o_Z118,(((q-top:Nat):Int),())⟩:=hI
    -- what lies behind the exchange
    have back:∀ det2,∃ det',Ev fun φ=>Z45.j1 (mkR (run E (φ 0))) (φ 0) (φ 1) (W:Int) p det2 (top:Int) (W:Int) (c:Int) (c:Int) (pvL pv) (qaB (qcK top q B0) R W)=some ⟨o_Z45,(pvL (elS p R A W).2,det',qaB (elS p R A W).1 R W,())⟩:=fun det2=>by
     generalize qcK top q B0=B at hsw hlead e
     obtain⟨det',h'⟩:=ih (c+1) (Int.tmod (w64 (det2*B top c)) p) (by omega)
     rw[e] at h'
     simp only at h'
     rw[qmG,← qrU] at h'
     have hBl:(qaB B R W).length=R:=qaA
     have hNin:∀ j,0≤elN p c top B j∧elN p c top B j≤p-1:=fun j=>qcF hp.1
     have hinv:=qpq (a:=B top c) (p:=p) hp.1
     have hinvR:=qj8 (B top c) p hp ⟨by omega,hlead.2⟩
     have hgt:=qba (A:=B) (W:=W) htR
     have hat:Ret E n_Z26 [dL (List.replicate W 0),dL ((List.range W).map (B top)),dI (qhl (B top c) p),dI p] ⟨o_Z26,((List.range W).map (elN p c top B),())⟩:=by
      have:=qeF (List.replicate W 0) ((List.range W).map (B top)) (qhl (B top c) p) p hp (by omega) (by simp) (by rw[List.length_replicate];exact hW) (fun x hx=>by rw[List.mem_replicate] at hx;omega) (qln hp.2 fun j hj=>hsw top j htR hj)
      rw[qlI,qkM,← qlI] at this
      have e2:((List.range W).map fun j=>(0+qhl (B top c) p*B top j)%p)=(List.range W).map (elN p c top B):=List.map_congr_left fun j _=>by
       rw[Int.zero_add,Int.mul_comm];rfl
      rw[e2] at this
      exact this
     have hset:(qaB B R W).set top ((List.range W).map (elN p c top B))=qaB (elK p c top 0 B) R W:=by
      rw[qgx,qqR];rfl
     refine⟨det',?_⟩
     -- the loop over the rows
     have loop:Ev fun φ=>Z45.j2 (mkR (run E (φ 0))) (φ 0) (φ 1) (W:Int) p (Int.tmod (w64 (det2*B top c)) p) (top:Int) (W:Int) (c:Int) (c:Int) (pvL pv) (qaB (elK p c top 0 B) R W)=some ⟨o_Z45,(pvL (elS p R A W).2,det',qaB (elS p R A W).1 R W,())⟩:=by
      simp only[Z45.j2_eq _ qag,qaA]
      generalize Int.tmod (w64 (det2*B top c)) p=D at h' ⊢
      refine Ev.start (p:=fun φ n=>Z45.l3 (mkR (run E (φ 0))) (φ 0) (φ 1) n (W:Int) p D (top:Int) (W:Int) (c:Int) (R:Int) 0 (c:Int) (pvL pv) (qaB (elK p c top 0 B) R W)=_) 2 ?_ (fun _ _ _ h=>h)
      refine qaq 2 (L:=fun φ n i S=>Z45.l3 (mkR (run E (φ 0))) (φ 0) (φ 1) n (W:Int) p D (top:Int) (W:Int) (c:Int) (R:Int) i (c:Int) (pvL pv) S) (len:=R) (fun i=>qaB (elK p c top i B) R W) (fun _ _ _ _ _=>rfl) (fun i r hi ih2=>?_) ?_
      ·simp only[Z45.l3_succ _ qag,qaA,Int.toNat_natCast]
       have hrow:(qaB (elK p c top i B) R W)[i]? = some ((List.range W).map (elM p c top B i)):=by
        rw[qba hi]
        have:elK p c top i B i=elM p c top B i:=funext fun j=>by simp[elK]
        rw[this]
       have htop:(qaB (elK p c top i B) R W)[top]? = some ((List.range W).map (elN p c top B)):=by
        rw[qba htR]
        have:elK p c top i B top=elN p c top B:=funext fun j=>by simp[elK,elF,elM]
        rw[this]
       refine qaD (decide_eq_true (by omega)) (qar (by simp only[Bool.and_eq_true,decide_eq_true_eq];omega) (qaf hrow ?_))
       by_cases hit:i=top
       ·subst hit
        refine qaJ (by simp) ?_
        simp only[Z45.j4_eq _ qag,cond_false]
        have hsame:qaB (elK p c i (i+1) B) R W=qaB (elK p c i i B) R W:=qbU fun k j _ _=>by
         unfold elK
         by_cases h1:k=i
         ·subst h1;simp[elF,elM]
         ·by_cases h2:k<i
          ·rw[if_pos (by omega),if_pos h2]
          ·rw[if_neg (by omega),if_neg h2]
        rw[hsame] at ih2
        rw[qae (by omega)];exact ih2
       ·have hM:elM p c top B i=B i:=funext fun j=>by simp[elM,hit]
        rw[hM]
        have hBi:=hsw i c hi hc
        refine qaD (by simp;omega) (qaf (qbQ.trans (qeV hc)) ?_)
        by_cases hz:B i c=0
        ·simp only[hz,bne_self_eq_false,Z45.j4_eq _ qag,cond_false]
         have hsame:qaB (elK p c top (i+1) B) R W=qaB (elK p c top i B) R W:=qbU fun k j _ _=>by
          unfold elK
          by_cases h1:k=i
          ·subst h1;simp[elF,elM,hit,hz]
          ·by_cases h2:k<i
           ·rw[if_pos (by omega),if_pos h2]
           ·rw[if_neg (by omega),if_neg h2]
         rw[hsame] at ih2
         rw[qae (by omega)];exact ih2
        ·have hne:(B i c != 0)=true:=by simpa using hz
         have ec:w64 (p-B i c)=p-B i c:=qad (by omega) (by omega)
         simp only[hne,Z45.j4_eq _ qag,cond_true,qaA,Int.toNat_natCast]
         refine qar (by simp only[Bool.and_eq_true,decide_eq_true_eq];omega) (qaf htop (qaf (qbQ.trans (qeV hc)) ?_))
         simp only[ec]
         have hat2:=qeF ((List.range W).map (B i)) ((List.range W).map (elN p c top B)) (p-B i c) p hp (by omega) (by simp) (by simpa using hW) (qln hp.2 fun j hj=>hsw i j hi hj) (qln hp.2 fun j _=>hNin j)
         rw[qkM] at hat2
         refine qaa hat2 (qar (by simp only[Bool.and_eq_true,decide_eq_true_eq];omega) ?_)
         have hset2:(qaB (elK p c top i B) R W).set i ((List.range W).map fun j=>(B i j+(p-B i c)*elN p c top B j)%p)=qaB (elK p c top (i+1) B) R W:=by
          rw[qgx]
          refine qbU fun k j _ _=>?_
          unfold elK
          by_cases h1:k=i
          ·subst h1;simp[elF,hit,hz]
          ·by_cases h2:k<i
           ·rw[if_neg h1,if_pos h2,if_pos (by omega)]
           ·rw[if_neg h1,if_neg h2,if_neg (by omega)]
         rw[qae (by omega)]
         rw[← hset2] at ih2
         exact ih2
      ·simp only[Z45.l3_succ _ qag]
       refine qaJ (decide_eq_false (by omega)) (qar (by simp only[qaZ,List.length_cons,List.length_nil,decide_eq_true_eq];omega) ?_)
       rw[qae (by omega)]
       exact h'
     simp only[Z45.j1_eq _ qag,qaA,Int.toNat_natCast]
     have hck:(decide ((0:Int)≤(top:Int))&&decide ((top:Int)<(R:Int)))=true:=by simp only[Bool.and_eq_true,decide_eq_true_eq];omega
     have hcw:(decide ((0:Int)≤(W:Int))&&decide ((W:Int)*8≤70368744177664))=true:=by simp only[Bool.and_eq_true,decide_eq_true_eq];omega
     have fin:=loop
     rw[← hset] at fin
     exact qar hck (qaf hgt (qaf (qbQ.trans (qeV hc)) (qar (by simp;omega) (qar hck (qaf hgt (qb6 (qar hcw (qaa hinvR (qaa hat (qar hck fin)))) (qaa hinvR (qar hcw (qaa hat (qar hck fin))))))))))
    by_cases hqt:q=top
    ·subst hqt
     obtain⟨det',h'⟩:=back det
     rw[qpx] at h'
     refine⟨det',Ev.round 1 (L:=fun φ n=>Z45.l0 (mkR (run E (φ 0))) (φ 0) n (W:Int) p det (W:Int) (c:Int) (pvL pv) (qaB B0 R W)) ?_ (fun _ _ _=>rfl)⟩
     simp only[Z45.l0_succ _ qag,qaZ,hlen,Int.toNat_natCast,ht]
     rw[show List.take R (qaB B0 R W)=qaB B0 R W from List.take_of_length_le (by omega)]
     refine qaD (decide_eq_true (by omega)) (qar (by simp only[Bool.and_eq_true,decide_eq_true_eq];omega) (qaa hI' ?_))
     rw[Nat.sub_self]
     exact qaJ rfl (qaJ rfl h')
    ·obtain⟨det',h'⟩:=back (qsj (w64 (0-det)) p)
     rw[← qpA htR hqR hqt] at h'
     refine⟨det',Ev.round 1 (L:=fun φ n=>Z45.l0 (mkR (run E (φ 0))) (φ 0) n (W:Int) p det (W:Int) (c:Int) (pvL pv) (qaB B0 R W)) ?_ (fun _ _ _=>rfl)⟩
     simp only[Z45.l0_succ _ qag,qaZ,hlen,Int.toNat_natCast,ht]
     rw[show List.take R (qaB B0 R W)=qaB B0 R W from List.take_of_length_le (by omega)]
     have e3:w64 ((top:Int)+((q-top:Nat):Int))=(q:Int):=by rw[qad (by omega) (by omega)];omega
     refine qaD (decide_eq_true (by omega)) (qar (by simp only[Bool.and_eq_true,decide_eq_true_eq];omega) (qaa hI' (qaJ (decide_eq_false (Int.not_lt.2 (Int.natCast_nonneg _))) (qaD (decide_eq_true (by show(0:Int)<((q-top:Nat):Int);omega)) ?_))))
     simp only[e3,Int.toNat_natCast,List.length_set,hlen]
     have hck:(decide ((0:Int)≤(top:Int))&&decide ((top:Int)<(R:Int)))=true:=by simp only[Bool.and_eq_true,decide_eq_true_eq];omega
     have hckq:(decide ((0:Int)≤(q:Int))&&decide ((q:Int)<(R:Int)))=true:=by simp only[Bool.and_eq_true,decide_eq_true_eq];omega
     exact qar hckq (qaf (qba hqR) (qar hck (qaf (qba htR) (qar hck (qar hckq (qaa (qjx (w64 (0-det)) p hp.1) h'))))))
 obtain⟨det',h⟩:=key W 0 1 (by omega)
 refine⟨det',qal ?_⟩
 simp only[run_Z45,Z45.ev]
 exact Ev.start (p:=fun φ n=>Z45.l0 (mkR (run E (φ 0))) (φ 0) n (W:Int) p 1 (W:Int) 0 [] (qaB A R W)=_) 1 h (fun _ _ _ h=>h)
end VeT
open Go Go.Proofs Ve
namespace VeT
theorem qg1{i W j:Nat}(h:i*W+j≤4611686018427387904):w64 (w64 ((i:Int)*(W:Int))+(j:Int))=((i*W+j:Nat):Int):=by
 rw[qa3,qad (n:=((i*W:Nat):Int)) (by omega) (by omega),qad (by omega) (by omega)];omega
theorem qdI{A:Ent}{R W i j:Nat}(hi:i<R)(hj:j<W)(hRW:R*W≤1048576):(decide ((0:Int)≤((i*W+j:Nat):Int))&&decide (((i*W+j:Nat):Int)<((qav A W R).length:Int)))=true∧(qav A W R)[i*W+j]? = some (A i j):=by
 have:=qfj hi hj
 refine⟨?_,qcg hi hj⟩
 simp only[Bool.and_eq_true,decide_eq_true_eq,qau];omega
theorem qfp(p:Int)(R W:Nat)(cells:Sim)(hp:2≤p∧p≤251)(hR:R≤1048576)(hW:W≤1048576)(hRW:R*W≤1048576)(hl:cells.length=R*W)(he:qaE cells p) :
    ∃ det:Int,Ret E n_Z153 [dM (p,(R:Int),(W:Int),cells,())] ⟨o_Z153,(p,(R:Int),(W:Int),qav (elS p R (qbp cells W) W).1 W R,pvL (elS p R (qbp cells W) W).2,det,())⟩:=by
  generalize hMt:(p,(R:Int),(W:Int),cells,())=M
  have M1:M.1=p:=by rw[← hMt]
  have M2:M.2.1=(R:Int):=by rw[← hMt]
  have M3:M.2.2.1=(W:Int):=by rw[← hMt]
  have M4:M.2.2.2.1=cells:=by rw[← hMt]
  have hA:=qbo he hl
  have hfl:=qgh hl
  generalize qbp cells W=A at hA hfl
  let G:Int→Option Dv:=fun det=>some ⟨o_Z153,(p,(R:Int),(W:Int),qav (elS p R A W).1 W R,pvL (elS p R A W).2,det,())⟩
  -- a column where no row is left
  have none_of:∀ c,(elS p R A c).2.length=R→elS p R A (c+1)=elS p R A c:=fun c h=>by
    show elP p R c (elS p R A c)=_
    rw[elP,h,Nat.sub_self];rfl
  have stay:∀ d c,c+d=W→(elS p R A c).2.length=R→elS p R A W=elS p R A c:=by
    intro d
    induction d with
    | zero=>intro c hc _;rw[show c=W by omega]
    | succ d ih =>
      intro c hc h
      have e:=none_of c h
      rw[ih (c+1) (by omega) (by rw[e];exact h),e]
  have key:∀ d c det,c+d=W→∃ det':Int,Ev fun φ=>Z153.l1 (mkR (run E (φ 0))) (φ 0) (φ 1) M p (W:Int) det ((elS p R A c).2.length:Int) (c:Int) 0 0 0 p (R:Int) (W:Int) (pvL (elS p R A c).2) (qav (elS p R A c).1 W R)=G det':=by
    intro d
    induction d with
    | zero =>
      intro c det hc
      obtain rfl:c=W:=by omega
      refine⟨det,Ev.round 1 (L:=fun φ n=>Z153.l1 (mkR (run E (φ 0))) (φ 0) n M p (c:Int) det ((elS p R A c).2.length:Int) (c:Int) 0 0 0 p (R:Int) (c:Int) (pvL (elS p R A c).2) (qav (elS p R A c).1 c R)) ?_ (fun _ _ _=>rfl)⟩
      simp only[Z153.l1_succ _ qag,Z153.j2_eq _ qag,cond_false]
      exact qaJ (decide_eq_false (by omega)) qam
    | succ d ih =>
      intro c det hcd
      have hc:c<W:=by omega
      obtain⟨hB,hpl,hpc,_⟩:=qc7 hp.1 hA c
      have hstep:elS p R A (c+1)=elP p R c (elS p R A c):=rfl
      by_cases hfull:(elS p R A c).2.length=R
      · refine⟨det,Ev.round 1 (L:=fun φ n=>Z153.l1 (mkR (run E (φ 0))) (φ 0) n M p (W:Int) det ((elS p R A c).2.length:Int) (c:Int) 0 0 0 p (R:Int) (W:Int) (pvL (elS p R A c).2) (qav (elS p R A c).1 W R)) ?_ (fun _ _ _=>rfl)⟩
        simp only[Z153.l1_succ _ qag,M2,hfull,show decide ((R:Int)<(R:Int))=false from decide_eq_false (by omega),Z153.j2_eq _ qag,cond_false]
        refine qaD (decide_eq_true (by omega)) (qai ?_)
        show _=some _
        rw[stay (d+1) c hcd hfull]
      · have htR:(elS p R A c).2.length<R:=by omega
        generalize hS:elS p R A c=S at hB hpl hpc hstep hfull htR
        obtain⟨B0,pv⟩:=S
        simp only at hB hpl hpc hstep hfull htR
        generalize ht:pv.length=top at hpl hpc hfull htR
        -- what lies behind the exchange
        have back:∀ q,top≤q→q<R→B0 q c≠0→elS p R A (c+1)=(elF p c top (qcK top q B0),pv++[c])→∀ det2,∃ det',Ev fun φ=>Z153.j6 (mkR (run E (φ 0))) (φ 0) (φ 1) M p (W:Int) det2 (top:Int) (c:Int) 0 0 0 p (R:Int) (W:Int) (pvL pv) (qav (qcK top q B0) W R)=G det':=fun q hq1 hqR hq2 e det2=>by
          have hsw:=hB.sw htR hqR
          have hlead:1≤qcK top q B0 top c∧qcK top q B0 top c≤p-1:=by
            have h1:=hsw top c htR hc
            have h2:qcK top q B0 top c=B0 q c:=by simp[qcK]
            rw[← h2] at hq2
            omega
          generalize qcK top q B0=B at hsw hlead e
          obtain⟨det',h'⟩:=ih (c+1) (Int.tmod (w64 (det2*B top c)) p) (by omega)
          rw[e] at h'
          simp only at h'
          rw[qmG,List.length_append,List.length_singleton,ht] at h'
          have hNin:∀ j,0≤elN p c top B j∧elN p c top B j≤p-1:=fun j=>qcF hp.1
          have hinv:=qpq (a:=B top c) (p:=p) hp.1
          have hinvR:=qjf (B top c) p hp ⟨by omega,hlead.2⟩
          have hidx:∀ i j,i<R→j<W→i*W+j≤4611686018427387904:=fun i j hi hj=>by have:=qfj hi hj;omega
          refine⟨det',?_⟩
          simp only[Z153.j6_eq _ qag,qg1 (hidx top c htR hc),Int.toNat_natCast]
          obtain⟨k1,k2⟩:=qdI (A:=B) htR hc hRW
          refine qar k1 (qaf k2 (qar (by simp;omega) (qaa hinvR ?_)))
          generalize Int.tmod (w64 (det2*B top c)) p=D at h' ⊢
          -- the loop that scales the row
          let N:Nat→Ent:=fun n i j=>if i=top∧j<n then elN p c top B j else B i j
          have hN0:qav (N 0) W R=qav B W R:=qaN fun i j _ _=>by simp[N]
          have hNW:qav (N W) W R=qav (elM p c top B) W R:=qaN fun i j _ hj=>by
            simp only[N,elM,hj,and_true]
          rw[← hN0]
          refine Ev.start (p:=fun φ n=>Z153.l7 (mkR (run E (φ 0))) (φ 0) (φ 1) n M p (W:Int) D (top:Int) (c:Int) (qhl (B top c) p) 0 0 0 0 p (R:Int) (W:Int) (pvL pv) (qav (N 0) W R)=_) 2 ?_ (fun _ _ _ h=>h)
          refine qaq 2 (L:=fun φ n j o=>Z153.l7 (mkR (run E (φ 0))) (φ 0) (φ 1) n M p (W:Int) D (top:Int) (c:Int) (qhl (B top c) p) j 0 0 0 p (R:Int) (W:Int) (pvL pv) o) (len:=W) (fun j=>qav (N j) W R) (fun _ _ _ _ _=>rfl) (fun j r hj ih2=>?_) ?_
          · simp only[Z153.l7_succ _ qag,qg1 (hidx top j htR hj),Int.toNat_natCast]
            obtain⟨k1,k2⟩:=qdI (A:=N j) htR hj hRW
            have hNj:N j top j=B top j:=by simp[N]
            rw[hNj] at k2
            have hb:=hsw top j htR hj
            have ev:=qrd (x:=B top j) (y:=qhl (B top c) p) (p:=p) (by omega) (by omega) hp
            have hset:(qav (N j) W R).set (top*W+j) (B top j*qhl (B top c) p%p)=qav (N (j+1)) W R:=by
              rw[qdl htR hj]
              refine qaN fun k l _ _=>?_
              simp only[N]
              by_cases h1:k=top
              · subst h1
                by_cases h2:l=j
                · subst h2;simp[elN]
                · simp only[true_and,h2,if_false,and_false]
                  by_cases h3:l<j
                  · rw[if_pos h3,if_pos (by omega)]
                  · rw[if_neg h3,if_neg (by omega)]
              · simp[h1]
            refine qaD (decide_eq_true (by omega)) (qar k1 (qaf k2 (qar (by simp;omega) (qar k1 ?_))))
            simp only[ev]
            rw[qae (by omega),hset];exact ih2
          · simp only[Z153.l7_succ _ qag]
            refine qaJ (decide_eq_false (by omega)) ?_
            rw[hNW]
            -- the loop over the rows
            let K:Nat→Ent:=fun n i j=>if i<n then elF p c top B i j else elM p c top B i j
            have hK0:qav (K 0) W R=qav (elM p c top B) W R:=qaN fun i j _ _=>by simp[K]
            have hKR:qav (K R) W R=qav (elF p c top B) W R:=qaN fun i j hi _=>by simp[K,hi]
            rw[← hK0]
            refine Ev.start (p:=fun φ n=>Z153.l8 (mkR (run E (φ 0))) (φ 0) (φ 1) n M p (W:Int) D (top:Int) (c:Int) 0 0 0 0 p (R:Int) (W:Int) (pvL pv) (qav (K 0) W R)=_) 3 ?_ (fun _ _ _ h=>h)
            refine qaq 3 (L:=fun φ n i o=>Z153.l8 (mkR (run E (φ 0))) (φ 0) (φ 1) n M p (W:Int) D (top:Int) (c:Int) i 0 0 0 p (R:Int) (W:Int) (pvL pv) o) (len:=R) (fun i=>qav (K i) W R) (fun _ _ _ _ _=>rfl) (fun i r hi ih2=>?_) ?_
            · simp only[Z153.l8_succ _ qag,M2,qg1 (hidx i c hi hc),Int.toNat_natCast]
              obtain⟨k1,k2⟩:=qdI (A:=K i) hi hc hRW
              refine qaD (decide_eq_true (by omega)) (qar k1 (qaf k2 ?_))
              by_cases hit:i=top
              · subst hit
                refine qaD (by simp) ?_
                simp only[Z153.j9_eq _ qag,cond_true]
                have hsame:qav (K (i+1)) W R=qav (K i) W R:=qaN fun k j _ _=>by
                  simp only[K]
                  by_cases h1:k=i
                  · subst h1;simp[elF,elM]
                  · by_cases h2:k<i
                    · rw[if_pos (by omega),if_pos h2]
                    · rw[if_neg (by omega),if_neg h2]
                rw[hsame] at ih2
                rw[qae (by omega)];exact ih2
              · have hM:∀ j,K i i j=B i j:=fun j=>by simp[K,elM,hit]
                rw[hM]
                have hBi:=hsw i c hi hc
                refine qaJ (by simp;omega) ?_
                by_cases hz:B i c=0
                · simp only[hz,beq_self_eq_true,Z153.j9_eq _ qag,cond_true]
                  have hsame:qav (K (i+1)) W R=qav (K i) W R:=qaN fun k j _ _=>by
                    simp only[K]
                    by_cases h1:k=i
                    · subst h1;simp[elF,elM,hit,hz]
                    · by_cases h2:k<i
                      · rw[if_pos (by omega),if_pos h2]
                      · rw[if_neg (by omega),if_neg h2]
                  rw[hsame] at ih2
                  rw[qae (by omega)];exact ih2
                · have hne:(B i c==0)=false:=by simpa using hz
                  simp only[hne,Z153.j9_eq _ qag,cond_false]
                  let Q:Nat→Ent:=fun n k j=>if k=i∧j<n then elF p c top B i j else K i k j
                  have hQ0:qav (Q 0) W R=qav (K i) W R:=qaN fun k j _ _=>by simp[Q]
                  have hQW:qav (Q W) W R=qav (K (i+1)) W R:=qaN fun k j _ hj=>by
                    simp only[Q,K,hj,and_true]
                    by_cases h1:k=i
                    · subst h1;simp
                    · by_cases h2:k<i
                      · rw[if_neg h1,if_pos h2,if_pos (by omega)]
                      · rw[if_neg h1,if_neg h2,if_neg (by omega)]
                  rw[← hQ0]
                  refine Ev.start (p:=fun φ n=>Z153.l10 (mkR (run E (φ 0))) (φ 0) (φ 1) (φ 3) n M p (W:Int) D (top:Int) (c:Int) (i:Int) (B i c) 0 0 0 0 p (R:Int) (W:Int) (pvL pv) (qav (Q 0) W R)=_) 4 ?_ (fun _ _ _ h=>h)
                  refine qaq 4 (L:=fun φ n j o=>Z153.l10 (mkR (run E (φ 0))) (φ 0) (φ 1) (φ 3) n M p (W:Int) D (top:Int) (c:Int) (i:Int) (B i c) j 0 0 0 p (R:Int) (W:Int) (pvL pv) o) (len:=W) (fun j=>qav (Q j) W R) (fun _ _ _ _ _=>rfl) (fun j r2 hj ih3=>?_) ?_
                  · simp only[Z153.l10_succ _ qag,qg1 (hidx i j hi hj),qg1 (hidx top j htR hj),Int.toNat_natCast]
                    obtain⟨k1,k2⟩:=qdI (A:=Q j) hi hj hRW
                    obtain⟨k3,k4⟩:=qdI (A:=Q j) htR hj hRW
                    have q1:Q j i j=B i j:=by simp only[Q,Nat.lt_irrefl,and_false,if_false];exact hM j
                    have q2:Q j top j=elN p c top B j:=by
                      have:¬ top=i:=fun e=>hit e.symm
                      simp[Q,K,this,elF,elM]
                    rw[q1] at k2
                    rw[q2] at k4
                    have hbij:=hsw i j hi hj
                    have hnj:=hNin j
                    have hm:=qfY (x:=B i c) (y:=elN p c top B j) (by omega) (by omega)
                    have e1:w64 (B i c*elN p c top B j)=B i c*elN p c top B j:=qad (by omega) (by omega)
                    have e2:w64 (B i j-B i c*elN p c top B j)=B i j-B i c*elN p c top B j:=qad (by omega) (by omega)
                    have e3:qsj (B i j-B i c*elN p c top B j) p=elF p c top B i j:=by
                      rw[qpU hp (by omega)]
                      unfold elF
                      rw[if_neg hit,if_pos hz]
                      have:B i j+(p-B i c)*elN p c top B j=B i j-B i c*elN p c top B j+p*elN p c top B j:=by rw[Int.sub_mul];omega
                      rw[this,Int.add_mul_emod_self_left]
                    have hmod:=qoo (B i j-B i c*elN p c top B j) p hp.1
                    rw[e3] at hmod
                    have hset:(qav (Q j) W R).set (i*W+j) (elF p c top B i j)=qav (Q (j+1)) W R:=by
                      rw[qdl hi hj]
                      refine qaN fun k l _ _=>?_
                      simp only[Q]
                      by_cases h1:k=i
                      · subst h1
                        by_cases h2:l=j
                        · subst h2;simp
                        · simp only[true_and,h2,if_false,and_false]
                          by_cases h3:l<j
                          · rw[if_pos h3,if_pos (by omega)]
                          · rw[if_neg h3,if_neg (by omega)]
                      · simp[h1]
                    refine qaD (decide_eq_true (by omega)) (qar k1 (qaf k2 (qar k3 (qaf k4 ?_))))
                    simp only[e1,e2]
                    refine qaa hmod (qar k1 ?_)
                    rw[qae (by omega)]
                    rw[← hset] at ih3
                    exact ih3
                  · simp only[Z153.l10_succ _ qag]
                    refine qaJ (decide_eq_false (by omega)) ?_
                    rw[qae (by omega),hQW];exact ih2
            · simp only[Z153.l8_succ _ qag,M2]
              refine qaJ (decide_eq_false (by omega)) (qar (by simp only[qaZ,List.length_cons,List.length_nil,decide_eq_true_eq];omega) ?_)
              rw[qae (by omega),qae (by omega),hKR]
              exact h'
        have hidx:∀ i j,i<R→j<W→i*W+j≤4611686018427387904:=fun i j hi hj=>by have:=qfj hi hj;omega
        -- the search for the row
        have search:∀ rs:Nat→Option Dv,∀ rn:Option Dv,(∀ q,top≤q→q<R→B0 q c≠0→(∀ i,top≤i→i<q→¬ B0 i c≠0)→Ev fun φ=>Z153.j4 (mkR (run E (φ 0))) (φ 0) (φ 1) (φ 2) M p (W:Int) det (top:Int) (c:Int) (q:Int) false 0 0 0 p (R:Int) (W:Int) (pvL pv) (qav B0 W R)=rs q) →
            ((∀ i,top≤i→i<R→¬ B0 i c≠0)→Ev fun φ=>Z153.j4 (mkR (run E (φ 0))) (φ 0) (φ 1) (φ 2) M p (W:Int) det (top:Int) (c:Int) (R:Int) false 0 0 0 p (R:Int) (W:Int) (pvL pv) (qav B0 W R)=rn) →
            Ev fun φ=>Z153.l3 (mkR (run E (φ 0))) (φ 0) (φ 1) (φ 0) M p (W:Int) det (top:Int) (c:Int) (top:Int) 0 0 0 p (R:Int) (W:Int) (pvL pv) (qav B0 W R)=orN rs rn (qa1 (fun i=>B0 i c≠0) top (R-top)):=fun rs rn hs hn=>by
          refine Ev.start (p:=fun φ n=>Z153.l3 (mkR (run E (φ 0))) (φ 0) (φ 1) n M p (W:Int) det (top:Int) (c:Int) (top:Int) 0 0 0 p (R:Int) (W:Int) (pvL pv) (qav B0 W R)=_) 2 ?_ (fun _ _ _ h=>h)
          -- the first one is kept in mind by the number of the round
          have go:∀ d a,top≤a→a+d=R→(∀ i,top≤i→i<a→¬ B0 i c≠0)→Ev fun φ=>Z153.l3 (mkR (run E (φ 0))) (φ 0) (φ 1) (φ 2) M p (W:Int) det (top:Int) (c:Int) (a:Int) 0 0 0 p (R:Int) (W:Int) (pvL pv) (qav B0 W R)=orN rs rn (qa1 (fun i=>B0 i c≠0) a d):=by
            intro d
            induction d with
            | zero =>
              intro a ha hk hno
              obtain rfl:a=R:=by omega
              refine Ev.round 2 (L:=fun φ n=>Z153.l3 (mkR (run E (φ 0))) (φ 0) (φ 1) n M p (W:Int) det (top:Int) (c:Int) (a:Int) 0 0 0 p (a:Int) (W:Int) (pvL pv) (qav B0 W a)) ?_ (fun _ _ _=>rfl)
              simp only[Z153.l3_succ _ qag,M2]
              exact qaJ (decide_eq_false (by omega)) (hn hno)
            | succ d ih3 =>
              intro a ha hk hno
              have haR:a<R:=by omega
              refine Ev.round 2 (L:=fun φ n=>Z153.l3 (mkR (run E (φ 0))) (φ 0) (φ 1) n M p (W:Int) det (top:Int) (c:Int) (a:Int) 0 0 0 p (R:Int) (W:Int) (pvL pv) (qav B0 W R)) ?_ (fun _ _ _=>rfl)
              simp only[Z153.l3_succ _ qag,M2,qg1 (hidx a c haR hc),Int.toNat_natCast]
              obtain⟨k1,k2⟩:=qdI (A:=B0) haR hc hRW
              refine qaD (decide_eq_true (by omega)) (qar k1 (qaf k2 ?_))
              rw[qa1]
              by_cases hz:B0 a c=0
              · rw[if_neg (by simpa using hz)]
                simp only[hz,beq_self_eq_true,Z153.j4_eq _ qag,cond_true]
                rw[qae (by omega)]
                refine ih3 (a+1) (by omega) (by omega) fun i h1 h2=>?_
                by_cases e:i=a
                · subst e;simpa using hz
                · exact hno i h1 (by omega)
              · rw[if_pos hz]
                have hne:(B0 a c==0)=false:=by simpa using hz
                simp only[hne]
                exact hs a ha haR hz hno
          exact go (R-top) top (Nat.le_refl _) (by omega) fun i h1 h2=>by omega
        have enter:∀ r,(Ev fun φ=>Z153.l3 (mkR (run E (φ 0))) (φ 0) (φ 1) (φ 0) M p (W:Int) det (top:Int) (c:Int) (top:Int) 0 0 0 p (R:Int) (W:Int) (pvL pv) (qav B0 W R)=r)→Ev fun φ=>Z153.l1 (mkR (run E (φ 0))) (φ 0) (φ 1) M p (W:Int) det (top:Int) (c:Int) 0 0 0 p (R:Int) (W:Int) (pvL pv) (qav B0 W R)=r:=fun r hr=>by
          refine Ev.round 1 (L:=fun φ n=>Z153.l1 (mkR (run E (φ 0))) (φ 0) n M p (W:Int) det (top:Int) (c:Int) 0 0 0 p (R:Int) (W:Int) (pvL pv) (qav B0 W R)) ?_ (fun _ _ _=>rfl)
          simp only[Z153.l1_succ _ qag,M2,show decide ((top:Int)<(R:Int))=true from decide_eq_true (by omega),Z153.j2_eq _ qag,cond_true]
          exact qaD (decide_eq_true (by omega)) hr
        cases hf:qa1 (fun i=>B0 i c≠0) top (R-top) with
        | none =>
          have e:elS p R A (c+1)=(B0,pv):=by rw[hstep,elP];simp only[ht,hf]
          obtain⟨det',h'⟩:=ih (c+1) det (by omega)
          rw[e] at h'
          simp only[ht] at h'
          refine⟨det',enter _ ?_⟩
          have:=search (fun _=>G det') (G det') (fun q h1 h2 h3 _=>absurd h3 (qc9 hf q h1 (by omega))) fun _=>by
            simp only[Z153.j4_eq _ qag,cond_false,M2]
            refine qaD (by simp) ?_
            rw[qae (by omega)];exact h'
          rw[hf] at this
          exact this
        | some q =>
          have hq:=qaP hf
          have hqR:q<R:=by omega
          have e:elS p R A (c+1)=(elF p c top (qcK top q B0),pv++[c]):=by rw[hstep,elP];simp only[ht,hf]
          by_cases hqt:q=top
          · subst hqt
            obtain⟨det',h'⟩:=back q (Nat.le_refl _) hqR hq.2.2 e det
            have hself:qav (qcK q q B0) W R=qav B0 W R:=qaN fun i j _ _=>by
              unfold qcK
              by_cases h:i=q
              · subst h;simp
              · simp[h]
            rw[hself] at h'
            refine⟨det',enter _ ?_⟩
            have:=search (fun _=>G det') (G det') (fun q' h1 h2 h3 h4=>by
              obtain rfl:q'=q:=Classical.byContradiction fun hne=>h4 q (Nat.le_refl _) (by omega) hq.2.2
              simp only[Z153.j4_eq _ qag,cond_false,M2]
              exact qaJ (by simp;omega) (qaJ (by simp) h')) fun hno=>absurd hq.2.2 (hno q (Nat.le_refl _) hqR)
            rw[hf] at this
            exact this
          · obtain⟨det',h'⟩:=back q hq.1 hqR hq.2.2 e (w64 (p-det))
            refine⟨det',enter _ ?_⟩
            have:=search (fun _=>G det') (G det') (fun q' h1 h2 h3 h4=>by
              obtain rfl:q'=q:=by
                rcases Nat.lt_trichotomy q' q with h | h | h
                · exact absurd h3 (qe7 hf q' h1 h)
                · exact h
                · exact absurd hq.2.2 (h4 q hq.1 h)
              simp only[Z153.j4_eq _ qag,cond_false,M2]
              refine qaJ (by simp;omega) (qaD (by simp;omega) ?_)
              -- the loop that exchanges the rows
              let X:Nat→Ent:=fun n i j=>if j<n then qcK top q' B0 i j else B0 i j
              have hX0:qav (X 0) W R=qav B0 W R:=qaN fun i j _ _=>by simp[X]
              have hXW:qav (X W) W R=qav (qcK top q' B0) W R:=qaN fun i j _ hj=>by simp[X,hj]
              rw[← hX0]
              refine Ev.start (p:=fun φ n=>Z153.l5 (mkR (run E (φ 0))) (φ 0) (φ 1) n M p (W:Int) (w64 (p-det)) (top:Int) (c:Int) (q':Int) 0 0 0 0 p (R:Int) (W:Int) (pvL pv) (qav (X 0) W R)=_) 3 ?_ (fun _ _ _ h=>h)
              refine qaq 3 (L:=fun φ n j o=>Z153.l5 (mkR (run E (φ 0))) (φ 0) (φ 1) n M p (W:Int) (w64 (p-det)) (top:Int) (c:Int) (q':Int) j 0 0 0 p (R:Int) (W:Int) (pvL pv) o) (len:=W) (fun j=>qav (X j) W R) (fun _ _ _ _ _=>rfl) (fun j r hj ih3=>?_) ?_
              · simp only[Z153.l5_succ _ qag,qg1 (hidx q' j hqR hj),qg1 (hidx top j htR hj),Int.toNat_natCast,List.length_set]
                obtain⟨k1,k2⟩:=qdI (A:=X j) hqR hj hRW
                obtain⟨k3,k4⟩:=qdI (A:=X j) htR hj hRW
                have x1:X j q' j=B0 q' j:=by simp[X]
                have x2:X j top j=B0 top j:=by simp[X]
                rw[x1] at k2
                rw[x2] at k4
                have hset:((qav (X j) W R).set (q'*W+j) (B0 top j)).set (top*W+j) (B0 q' j)=qav (X (j+1)) W R:=by
                  rw[qdl hqR hj,qdl htR hj]
                  refine qaN fun k l _ _=>?_
                  simp only[X]
                  by_cases hl:l=j
                  · subst hl
                    by_cases hk1:k=top
                    · subst hk1;simp[qcK]
                    · by_cases hk2:k=q'
                      · subst hk2;simp[qcK,hk1]
                      · simp[qcK,hk1,hk2]
                  · simp only[hl,and_false,if_false]
                    by_cases h3:l<j
                    · rw[if_pos h3,if_pos (by omega)]
                    · rw[if_neg h3,if_neg (by omega)]
                refine qaD (decide_eq_true (by omega)) (qar k1 (qaf k2 (qar k3 (qaf k4 (qar k1 (qar k3 ?_))))))
                rw[qae (by omega),hset];exact ih3
              · simp only[Z153.l5_succ _ qag]
                refine qaJ (decide_eq_false (by omega)) ?_
                rw[hXW];exact h') fun hno=>absurd hq.2.2 (hno q hq.1 hqR)
            rw[hf] at this
            exact this
  obtain⟨det',h⟩:=key W 0 1 (by omega)
  refine⟨det',qal ?_⟩
  have h0:qav (elS p R A 0).1 W R=cells:=hfl
  rw[h0] at h
  simp only[run_Z153,Z153.ev,Z153.j0_eq _ qag,M1,M2,M3,M4]
  have own:=qc0 cells (by omega)
  have st:=Ev.start (p:=fun φ n=>Z153.l1 (mkR (run E (φ 0))) (φ 0) n M p (W:Int) 1 0 0 0 0 0 p (R:Int) (W:Int) [] cells=G det') 1 h (fun _ _ _ h=>h)
  exact qb6 (qaa own st) (qaa own st)
end VeT
open Go Go.Proofs Ve
namespace VeT
theorem qmV{cells:Sim}{R C i:Nat}(hl:cells.length=R*C)(hi:i<R):(cells.take ((i+1)*C)).drop (i*C)=(List.range C).map (qbp cells C i):=by
 have h:=qlJ (f:=qbp cells C) (C:=C) hi
 rw[qgh hl] at h
 exact h
theorem qh4(p:Int)(R C:Nat)(cells:Sim)(hl:cells.length=R*C)(hR:R≤1048576)(hC:C≤1048576)(hRC:R*C≤1048576):Ret E n_Z80 [dI p,dI (R:Int),dI (C:Int),dL cells] ⟨o_Z80,(qaB (qbp cells C) R C,())⟩:=by
 refine qal ?_
 simp only[run_Z80,Z80.ev]
 refine Ev.start (p:=fun φ n=>Z80.l0 (mkR (run E (φ 0))) (φ 0) n (R:Int) 0 p (R:Int) (C:Int) cells []=_) 1 ?_ (fun _ _ _ h=>h)
 refine qaq 1 (L:=fun φ n k a=>Z80.l0 (mkR (run E (φ 0))) (φ 0) n (R:Int) k p (R:Int) (C:Int) cells a) (len:=R) (fun k=>qaB (qbp cells C) k C) (fun _ _ _ _ _=>rfl) (fun k r hk ih=>?_) ?_
 ·simp only[Z80.l0_succ _ qag]
  have hle:(k+1)*C≤R*C:=Nat.mul_le_mul_right _ hk
  have e:qaB (qbp cells C) (k+1) C=qaB (qbp cells C) k C++[(List.range C).map (qbp cells C k)]:=by
   unfold qaB;rw[List.range_succ,List.map_append];rfl
  rw[e,← qmV hl hk] at ih
  refine qaD (decide_eq_true (by omega)) (qaa (qd8 p _ C cells k (by omega) (by omega) (by omega)) (qaa (qdR _ (by rw[List.length_drop,List.length_take];omega)) (qar (by simp[qaA];omega) ?_)))
  rw[qae (by omega)];exact ih
 ·simp only[Z80.l0_succ _ qag]
  exact qaJ (decide_eq_false (by omega)) qam
def qsK(p:Int)(pv:List Nat)(F:Ent)(c n:Nat):St:=(List.range n).map fun i=>(pv.getD i 0,(0-F i c)%p)
def qk1(p:Int)(W:Nat)(pv:List Nat)(F:Ent)(c n:Nat):Sim:=qfb (qsK p pv F c n) ((List.replicate W 0).set c 1)
open Classical in
noncomputable def qht(p:Int)(W:Nat)(pv:List Nat)(F:Ent):Nat→List Sim
 | 0=>[]
 | c+1=>qht p W pv F c++if c∈pv then [] else [qk1 p W pv F c pv.length]
theorem qeW{p:Int}{W:Nat}{pv:List Nat}{F:Ent}{c n:Nat}:qk1 p W pv F c (n+1)=(qk1 p W pv F c n).set (pv.getD n 0) ((0-F n c)%p):=by
 unfold qk1 qsK
 rw[List.range_succ,List.map_append,qda];rfl
theorem qca{p:Int}{W:Nat}{pv:List Nat}{F:Ent}{c n:Nat}:(qk1 p W pv F c n).length=W:=by
 unfold qk1;rw[qcC,List.length_set,List.length_replicate]
theorem qfP{p:Int}{W:Nat}{pv:List Nat}{F:Ent}:∀ {n:Nat},(qht p W pv F n).length≤n
 | 0=>by simp[qht]
 | n+1=>by
  have:=qfP (p:=p) (W:=W) (pv:=pv) (F:=F) (n:=n)
  rw[qht,List.length_append];split<;>simp<;>omega
theorem qhL{p:Int}{W:Nat}{pv:List Nat}{F:Ent}(hp:2≤p):∀ {n:Nat} {x:Sim},x∈qht p W pv F n→x.length=W∧qaE x p
 | 0,x,h=>by simp[qht] at h
 | n+1,x,h=>by
  rw[qht,List.mem_append] at h
  rcases h with h | h
  ·exact qhL hp h
  ·split at h
   ·simp at h
   ·rw[List.mem_singleton] at h
    subst h
    refine⟨qca,qjT (fun y hy=>?_) fun q hq=>?_⟩
    ·rcases List.mem_or_eq_of_mem_set hy with hy | rfl
     ·rw[List.mem_replicate] at hy;omega
     ·omega
    ·obtain⟨i,_,rfl⟩:=List.mem_map.1 hq
     exact qcF hp
theorem qph{l:List Nat}{c:Nat}:(c:Int)∈pvL l↔c∈l:=by
  unfold pvL
  rw[List.mem_map]
  exact ⟨fun ⟨a, h, e⟩ => by obtain rfl : a = c := by omega
                             exact h,fun h=>⟨c,h,rfl⟩⟩
theorem qmK{l:List Nat}{i:Nat}(hi:i<l.length):(pvL l)[i]? = some ((l.getD i 0:Nat):Int):=by
 unfold pvL
 rw[List.getElem?_map,List.getElem?_eq_getElem hi,qah hi];rfl
theorem qe8{l:List Nat}{i:Nat}(hi:i<l.length):l.getD i 0∈l:=by
 rw[qah hi];exact List.getElem_mem hi
noncomputable def qlZ(p:Int)(R W:Nat)(cells:Sim):List Sim:=qht p W (elS p R (qbp cells W) W).2 (elS p R (qbp cells W) W).1 W
theorem qnT(p:Int)(R W:Nat)(cells:Sim)(hp:2≤p∧p≤251)(hR:R≤1048576)(hW:W≤1048576)(hRW:R*W≤1048576)(hl:cells.length=R*W)(he:qaE cells p) :
  Ret E n_Z72 [dI p,dI (R:Int),dI (W:Int),dL cells] ⟨o_Z72,(qlZ p R W cells,())⟩:=by
 have hA:=qbo he hl
 obtain⟨det,hel⟩:=qd9 (qbp cells W) R W p hp hR hW hA
 obtain⟨hF,hpl,hpc,hpv⟩:=qc7 hp.1 hA W
 refine qal ?_
 simp only[run_Z72,Z72.ev]
 refine qaa (qh4 p R W cells hl hR hW hRW) (qaa hel ?_)
 unfold qlZ
 generalize elS p R (qbp cells W) W=S at hF hpl hpc hpv
 obtain⟨F,pv⟩:=S
 simp only at hF hpl hpc hpv
 refine Ev.start (p:=fun φ n=>Z72.l0 (mkR (run E (φ 0))) (φ 0) n (pvL pv) (W:Int) 0 p (R:Int) (W:Int) cells [] (qaB F R W)=_) 1 ?_ (fun _ _ _ h=>h)
 refine qaq 1 (L:=fun φ n c o=>Z72.l0 (mkR (run E (φ 0))) (φ 0) n (pvL pv) (W:Int) c p (R:Int) (W:Int) cells o (qaB F R W)) (len:=W) (fun c=>qht p W pv F c) (fun _ _ _ _ _=>rfl) (fun c r hc ih=>?_) ?_
 ·simp only[Z72.l0_succ _ qag,Int.toNat_natCast,List.length_replicate]
  rw[qht] at ih
  refine qaD (decide_eq_true (by omega)) (qaa (qlP (pvL pv) (c:Int) (by rw[qaZ];omega)) (qcj (fun h=>?_) fun h=>?_))
  ·rw[if_pos (qph.1 (qaL.1 h)),List.append_nil] at ih
   rw[qae (by omega)];exact ih
  ·rw[if_neg (mt qph.2 (qbc.1 h))] at ih
   refine qar (by simp only[Bool.and_eq_true,decide_eq_true_eq];omega) (qar (by simp only[Bool.and_eq_true,decide_eq_true_eq];omega) ?_)
   have hkl:=qfP (p:=p) (W:=W) (pv:=pv) (F:=F) (n:=c)
   generalize qht p W pv F c=K at ih hkl ⊢
   refine Ev.start (p:=fun φ n=>Z72.l1 (mkR (run E (φ 0))) (φ 0) (φ 1) n (pvL pv) (c:Int) (W:Int) (c:Int) (pvL pv) ((pvL pv).length:Int) 0 p (R:Int) (W:Int) cells ((List.replicate W 0).set c 1) K (qaB F R W)=_) 2 ?_ (fun _ _ _ h=>h)
   refine qaq 2 (L:=fun φ n i x=>Z72.l1 (mkR (run E (φ 0))) (φ 0) (φ 1) n (pvL pv) (c:Int) (W:Int) (c:Int) (pvL pv) ((pvL pv).length:Int) i p (R:Int) (W:Int) cells x K (qaB F R W)) (len:=pv.length) (fun i=>qk1 p W pv F c i) (fun _ _ _ _ _=>rfl) (fun i q hi ih2=>?_) ?_
   ·simp only[Z72.l1_succ _ qag,qaZ,qaA,Int.toNat_natCast,qca]
    have hiR:i<R:=by omega
    have hFi:=hF i c hiR hc
    have hpi:=hpv _ (qe8 hi)
    have e0:w64 (0-F i c)=0-F i c:=qad (by omega) (by omega)
    have hred:=qjx (0-F i c) p hp.1
    rw[qpU hp (by omega)] at hred
    rw[qeW] at ih2
    simp only[qaZ] at ih2
    refine qaD (decide_eq_true (by omega)) (qaf (qbQ.trans (qmK hi)) (qar (by simp only[Bool.and_eq_true,decide_eq_true_eq];omega) (qaf (qba hiR) (qaf (qbQ.trans (qeV hc)) ?_))))
    simp only[e0,Int.toNat_natCast]
    refine qaa hred (qar (by simp only[Bool.and_eq_true,decide_eq_true_eq];omega) ?_)
    rw[qae (by omega)];exact ih2
   ·simp only[Z72.l1_succ _ qag,qaZ]
    refine qaJ (decide_eq_false (by omega)) (qar (by simp only[List.length_cons,List.length_nil,decide_eq_true_eq];omega) ?_)
    rw[qae (by omega)];exact ih
 ·simp only[Z72.l0_succ _ qag]
  exact qaJ (decide_eq_false (by omega)) qam
def Rws(p:Int)(W:Nat)(rows:List Sim):Prop:=∀ x∈rows,x.length=W∧qaE x p
theorem Rws.flat{p:Int}{W:Nat}{rows:List Sim}(h:Rws p W rows):rows.flatten.length=rows.length*W∧qaE rows.flatten p:=by
 induction rows with
 | nil=>exact⟨by simp,fun x hx=>by simp at hx⟩
 | cons r rows ih =>
  obtain⟨h1,h2⟩:=ih fun x hx=>h x (List.mem_cons_of_mem _ hx)
  obtain⟨h3,h4⟩:=h r List.mem_cons_self
  refine⟨by rw[List.flatten_cons,List.length_append,h1,h3,List.length_cons,Nat.add_mul];omega,fun x hx=>?_⟩
  rw[List.flatten_cons,List.mem_append] at hx
  rcases hx with hx | hx
  ·exact h4 x hx
  ·exact h2 x hx
noncomputable def qml(x:Shf)(k:Int):List Sim:=qlZ x.2.1 (SD x.1 x.2.2.1 (k+1)).toNat (SD x.1 x.2.2.1 k).toNat (qcR x k).2.2.2.1
theorem qlv{x:Shf}(k:Int)(hs:VS x.1 x.2.1 x.2.2.1 x.2.2.2.1):Ret E n_Z72 [dI (qcR x k).1,dI (qcR x k).2.1,dI (qcR x k).2.2.1,dL (qcR x k).2.2.2.1] ⟨o_Z72,(qml x k,())⟩:=by
 obtain⟨H,eH,bH,tH⟩:=qc5 hs (k+1)
 obtain⟨W,eW,bW,tW⟩:=qc5 hs k
 have hp:2≤x.2.1∧x.2.1≤251:=⟨hs.2.1.1,hs.2.1.2.1⟩
 have hRC:=qcZ bH bW
 have hl:(qcR x k).2.2.2.1.length=H*W:=by show(qet _ _ _ _ k).length=_;rw[qa4,tH,tW]
 have he:qaE (qcR x k).2.2.2.1 x.2.1:=qbh hs k
 have k1:=qnT x.2.1 H W (qcR x k).2.2.2.1 hp (by omega) (by omega) (by omega) hl he
 have eK:qml x k=qlZ x.2.1 H W (qcR x k).2.2.2.1:=by unfold qml;rw[tH,tW]
 have e1:(qcR x k).2.1=(H:Int):=eH
 have e2:(qcR x k).2.2.1=(W:Int):=eW
 rw[eK,e1,e2]
 exact k1
open Classical in
noncomputable def qcl(x:Shf)(k:Int):List Sim×Int×Unit:=if GC x k=0 then(qml x k,0,()) else([],GC x k,())
theorem qfh(x:Shf)(k:Int)(hx:Sm (.st cS) x):Ret E n_Z6 [dLL x.1,dI x.2.1,dL x.2.2.1,dMs x.2.2.2.1,dI k] ⟨o_Z6,qcl x k⟩:=by
 refine qal ?_
 simp only[run_Z6,Z6.ev]
 refine qaa (qgF x k hx) (qcj (fun h=>qai ?_) fun h=>?_)
 ·have h:¬ GC x k=0:=by simpa using h
  rw[qcl,if_neg h]
 ·have h:GC x k=0:=by simpa using h
  obtain⟨hs,hk⟩:=qgK.1 h
  rw[qcl,if_pos h]
  exact qaa (qaY x.1 x.2.1 x.2.2.1 x.2.2.2.1 k (by omega) hx.1 hs.1) (qaa (qlv k hs.1) qam)
end VeT
open Go Go.Proofs Ve
namespace VeT
def qn1(A:Ent)(b:Sim)(W:Nat):Ent:=fun i j=>if j=W then b.getD i 0 else A i j
theorem qkD{p:Int}{R W:Nat}{A:Ent}{b:Sim}(hA:EIn p R W A)(hb:qaE b p)(hl:b.length=R):EIn p R (W+1) (qn1 A b W):=fun i j hi hj=>by
 unfold qn1
 split
 ·rw[qah (by omega)];exact hb _ (List.getElem_mem _)
 ·exact hA i j hi (by omega)
theorem qp7{A:Ent}{b:Sim}{W i:Nat}:(List.range (W+1)).map (qn1 A b W i)=(List.range W).map (A i)++[b.getD i 0]:=by
  rw[List.range_succ,List.map_append]
  congr 1
  · exact List.map_congr_left fun j hj=>by
      have:=List.mem_range.1 hj
      unfold qn1;rw[if_neg (by omega)]
  · simp[qn1]
def qlE(cells b:Sim)(W R:Nat):Sim:=qav (qn1 (qbp cells W) b W) (W+1) R
theorem qa0{f:Ent}{W R i j:Nat}(hi:i<R)(hj:j<W):qbp (qav f W R) W i j=f i j:=by
 unfold qbp
 rw[List.getD_eq_getElem?_getD,qcg hi hj];rfl
def qnF(A:Ent)(b:Sim)(R W n:Nat):List Sim:=(List.range R).map fun i=>if i<n then(List.range (W+1)).map (qn1 A b W i) else(List.range W).map (A i)
theorem qo5{A:Ent}{b:Sim}{R W:Nat}:qnF A b R W 0=qaB A R W:=by simp[qnF,qaB]
theorem qp6{A:Ent}{b:Sim}{R W:Nat}:qnF A b R W R=qaB (qn1 A b W) R (W+1) :=
 List.map_congr_left fun i hi=>by rw[if_pos (List.mem_range.1 hi)]
theorem qip{A:Ent}{b:Sim}{R W n:Nat}:(qnF A b R W n).length=R:=by simp[qnF]
theorem qqB{A:Ent}{b:Sim}{R W n:Nat}(hn:n<R):(qnF A b R W n)[n]? = some ((List.range W).map (A n)):=by
 unfold qnF
 rw[List.getElem?_map,List.getElem?_range hn]
 simp
theorem qqc{A:Ent}{b:Sim}{R W n:Nat}:(qnF A b R W n).set n ((List.range W).map (A n)++[b.getD n 0])=qnF A b R W (n+1):=by
 rw[← qp7]
 apply List.ext_getElem?
 intro k
 rw[List.getElem?_set]
 unfold qnF
 by_cases hk:n=k
 ·subst hk
  by_cases hR:n<R
  ·simp[hR]
  ·simp[hR]
 ·rw[if_neg hk]
  by_cases hR:k<R
  ·simp only[List.getElem?_map,List.getElem?_range hR,Option.map_some]
   by_cases h:k<n
   ·rw[if_pos h,if_pos (by omega)]
   ·rw[if_neg h,if_neg (by omega)]
  ·rw[List.getElem?_eq_none (by simp;omega),List.getElem?_eq_none (by simp;omega)]
def qmI(F:Ent)(W:Nat):List Nat→Nat→Sim→Option Sim
 | [],_,o=>some o
 | q::qs,i,o=>if q=W then none else qmI F W qs (i+1) (o.set q (F i W))
def qsS:Option Sim→Sim×Bool×Unit
 | some o=>(o,true,())
 | none=>([],false,())
noncomputable def qqs(p:Int)(R W:Nat)(cells b:Sim):Option Sim :=
 qmI (elS p R (qbp (qlE cells b W R) (W+1)) (W+1)).1 W (elS p R (qbp (qlE cells b W R) (W+1)) (W+1)).2 0 (List.replicate W 0)
theorem qh6{F:Ent}{W:Nat}:∀ {qs:List Nat} {i:Nat} {o y:Sim},qmI F W qs i o=some y→y.length=o.length
 | [],i,o,y,h=>by obtain rfl:=Option.some.inj h;rfl
 | q::qs,i,o,y,h=>by
  unfold qmI at h
  split at h
  ·cases h
  ·rw[qh6 h,List.length_set]
theorem qoK(p:Int)(R W:Nat)(cells b:Sim)(hp:2≤p∧p≤251)(hR:R≤1048576)(hW:W<1048576)(hRW:R*W≤1048576)(hl:cells.length=R*W)(he:qaE cells p)(hbl:b.length=R)(hb:qaE b p) :
    Ret E n_Z86 [dI p,dI (R:Int),dI (W:Int),dL cells,dL b] ⟨o_Z86,qsS (qqs p R W cells b)⟩:=by
  have hA0:=qbo he hl
  have hA1:=qkD hA0 hb hbl
  have hrows:qaB (qn1 (qbp cells W) b W) R (W+1)=qaB (qbp (qlE cells b W R) (W+1)) R (W+1):=qbU fun i j hi hj=>(qa0 hi hj).symm
  have hA:EIn p R (W+1) (qbp (qlE cells b W R) (W+1)):=fun i j hi hj=>by
    unfold qlE;rw[qa0 hi hj];exact hA1 i j hi hj
  unfold qqs
  generalize qbp (qlE cells b W R) (W+1)=A at hA hrows
  obtain⟨det,hel⟩:=qd9 A R (W+1) p hp hR (by omega) hA
  obtain⟨hF,hpl,hpc,hpv⟩:=qc7 hp.1 hA (W+1)
  refine qal ?_
  simp only[run_Z86,Z86.ev]
  refine qaa (qh4 p R W cells hl hR (by omega) hRW) ?_
  rw[← qo5 (b:=b)]
  simp only[qip]
  refine Ev.start (p:=fun φ n=>Z86.l0 (mkR (run E (φ 0))) (φ 0) n b (R:Int) 0 p (R:Int) (W:Int) cells (qnF (qbp cells W) b R W 0)=_) 1 ?_ (fun _ _ _ h=>h)
  refine qaq 1 (L:=fun φ n i rows=>Z86.l0 (mkR (run E (φ 0))) (φ 0) n b (R:Int) i p (R:Int) (W:Int) cells rows) (len:=R) (fun i=>qnF (qbp cells W) b R W i) (fun _ _ _ _ _=>rfl) (fun i r hi ih=>?_) ?_
  · simp only[Z86.l0_succ _ qag,qip,Int.toNat_natCast]
    have hbi:b[i]? = some (b.getD i 0):=by rw[qah (by omega)];exact List.getElem?_eq_getElem _
    have one:Ev fun φ=>(((qnF (qbp cells W) b R W i)[i]?).bind fun y=>(chk (decide ((y.length+[b.getD i 0].length)*8≤70368744177664))).bind fun _=>(chk (decide (0≤(i:Int))&&decide ((i:Int)<(R:Int)))).bind fun _=>(chk (decide True)).bind fun _ =>
        Z86.l0 (mkR (run E (φ 0))) (φ 0) (φ 1) b (R:Int) (w64 ((i:Int)+1)) p (R:Int) (W:Int) cells ((qnF (qbp cells W) b R W i).set i (y++[b.getD i 0])))=r:=by
      refine qaf (qqB hi) (qar (by simp;omega) (qar (by simp;omega) (qar (decide_eq_true trivial) ?_)))
      rw[qqc,qae (by omega)];exact ih
    exact qaD (decide_eq_true (by omega)) (qar (by simp;omega) (qaf (qbQ.trans hbi) (qb6 one one)))
  · simp only[Z86.l0_succ _ qag]
    rw[qp6,hrows,qae (k:=W) (by omega)]
    refine qaJ (decide_eq_false (by omega)) (qaa hel (qar (by simp;omega) ?_))
    generalize elS p R A (W+1)=S at hF hpl hpc hpv
    obtain⟨F,pv⟩:=S
    simp only at hF hpl hpc hpv
    simp only[qaZ,Int.toNat_natCast]
    have key:∀ d i o,i+d=pv.length→o.length=W→Ev fun φ=>Z86.l1 (mkR (run E (φ 0))) (φ 0) (φ 2) (pvL pv) (pv.length:Int) (i:Int) p (R:Int) (W:Int) cells o (qaB F R (W+1))=some ⟨o_Z86,qsS (qmI F W (pv.drop i) i o)⟩:=by
      intro d
      induction d with
      | zero =>
        intro i o hi ho
        refine Ev.round 2 (L:=fun φ n=>Z86.l1 (mkR (run E (φ 0))) (φ 0) n (pvL pv) (pv.length:Int) (i:Int) p (R:Int) (W:Int) cells o (qaB F R (W+1))) ?_ (fun _ _ _=>rfl)
        simp only[Z86.l1_succ _ qag]
        rw[List.drop_of_length_le (by omega)]
        exact qaJ (decide_eq_false (by omega)) (qai rfl)
      | succ d ih =>
        intro i o hi ho
        have hil:i<pv.length:=by omega
        refine Ev.round 2 (L:=fun φ n=>Z86.l1 (mkR (run E (φ 0))) (φ 0) n (pvL pv) (pv.length:Int) (i:Int) p (R:Int) (W:Int) cells o (qaB F R (W+1))) ?_ (fun _ _ _=>rfl)
        simp only[Z86.l1_succ _ qag,qaA,Int.toNat_natCast]
        have hq:=hpv _ (qe8 hil)
        have hdrop:pv.drop i=pv.getD i 0::pv.drop (i+1):=by rw[List.drop_eq_getElem_cons hil,qah hil]
        refine qaD (decide_eq_true (by omega)) (qaf (qbQ.trans (qmK hil)) ?_)
        rw[hdrop,qmI]
        refine qcj (fun h=>qai ?_) fun h=>?_
        · have h : pv.getD i 0 = W := by have : ((pv.getD i 0 : Nat) : Int) = (W : Int) := by simpa using h
                                         omega
          rw[if_pos h];rfl
        · have h:pv.getD i 0≠W:=fun e=>by rw[e] at h;simp at h
          rw[if_neg h]
          refine qar (by simp;omega) (qaf (qba (by omega)) (qaf (qbQ.trans (qeV (Nat.lt_succ_self W))) (qar (by simp only[Bool.and_eq_true,decide_eq_true_eq];omega) ?_)))
          simp only[Int.toNat_natCast]
          rw[qae (by omega)]
          exact ih (i+1) _ (by omega) (by rw[List.length_set];exact ho)
    refine Ev.start (p:=fun φ n=>Z86.l1 (mkR (run E (φ 0))) (φ 0) n (pvL pv) (pv.length:Int) 0 p (R:Int) (W:Int) cells (List.replicate W 0) (qaB F R (W+1))=_) 2 ?_ (fun _ _ _ h=>h)
    exact key pv.length 0 (List.replicate W 0) (by omega) (by simp)
end VeT
open Go Go.Proofs Ve
namespace VeT
theorem qiR{c g h:Nat→Int}:∀ {n:Nat},qaM c (fun i=>g i+h i) n=qaM c g n+qaM c h n
 | 0=>rfl
 | n+1=>by simp only[qaM];rw[qiR,Int.mul_add];omega
theorem qjn{k:Int}{c g:Nat→Int}:∀ {n:Nat},qaM c (fun i=>k*g i) n=k*qaM c g n
 | 0=>by simp[qaM]
 | n+1=>by simp only[qaM];rw[qjn,Int.mul_add,← Int.mul_assoc,Int.mul_comm (c n) k,Int.mul_assoc]
theorem qc1{c:Nat→Int}:∀ {n:Nat},qaM c (fun _=>0) n=0
 | 0=>rfl
 | n+1=>by simp only[qaM];rw[qc1,Int.mul_zero];rfl
theorem qaK{c g:Nat→Int}:∀ {n:Nat},qaM c g n=qaM g c n
 | 0=>rfl
 | n+1=>by simp only[qaM];rw[qaK,Int.mul_comm]
theorem qf9{y c:Nat→Int}{A:Ent}{W:Nat}:∀ {R:Nat},qaM y (fun j=>qaM c (fun i=>A i j) R) W=qaM c (fun i=>qaM y (A i) W) R
 | 0=>qc1
 | R+1=>by
  simp only[qaM]
  rw[qiR,qf9,qjn]
theorem qco{p:Int}{c g h:Nat→Int}:∀ {n:Nat},(∀ i,i<n→g i%p=h i%p)→qaM c g n%p=qaM c h n%p
 | 0,_=>rfl
 | n+1,hgh=>by
  simp only[qaM]
  rw[Int.add_emod,qco (n:=n) fun i hi=>hgh i (by omega),Int.mul_emod,hgh n (Nat.lt_succ_self n),← Int.mul_emod,← Int.add_emod]
theorem qaz{c d g h:Nat→Int}:∀ {n:Nat},(∀ i,i<n→c i=d i∧g i=h i)→qaM c g n=qaM d h n
 | 0,_=>rfl
 | n+1,e=>by simp only[qaM];rw[qaz (n:=n) fun i hi=>e i (by omega),(e n (Nat.lt_succ_self n)).1,(e n (Nat.lt_succ_self n)).2]
theorem Spn.orth{p:Int}{R W:Nat}{A:Ent}{x y:Nat→Int}(hy:∀ i,i<R→qaM y (A i) W%p=0)(hx:Spn p R W A x):qaM y x W%p=0:=by
 obtain⟨c,hc⟩:=hx
 rw[← qco (p:=p) (c:=y) (g:=fun j=>qaM c (fun i=>A i j) R) (h:=x) hc,qf9,qco (p:=p) (h:=fun _=>0) fun i hi=>by rw[hy i hi,Int.zero_emod],qc1,Int.zero_emod]
theorem qkA{y g:Nat→Int}{q:Nat}{v:Int}:∀ {n:Nat},q<n→qaM (fun j=>if j=q then v else y j) g n=qaM y g n+(v-y q)*g q
 | n+1,h=>by
  simp only[qaM]
  by_cases hq:q=n
  ·subst hq
   rw[if_pos rfl,qaz (d:=y) (h:=g) fun i hi=>⟨if_neg (by omega),rfl⟩,Int.sub_mul];omega
  ·rw[qkA (by omega),if_neg (by omega)];omega
def Slv(p:Int)(R W:Nat)(A:Ent)(b:Nat→Int):Prop:=∃ y:Nat→Int,∀ i,i<R→qaM y (A i) W%p=b i%p
theorem qiT{F:Ent}{W:Nat}:∀ {qs:List Nat} {i:Nat} {o:Sim},qmI F W qs i o=none↔W∈qs
 | [],i,o=>by simp[qmI]
 | q::qs,i,o=>by
  unfold qmI
  split
  ·rename_i h;simp[h]
  ·rename_i h
   rw[qiT,List.mem_cons]
   exact⟨.inr,fun h'=>h'.resolve_left (fun e=>h e.symm)⟩
theorem qcP{o:Sim}{q j:Nat}{v:Int}(hq:q<o.length):(o.set q v).getD j 0=if j=q then v else o.getD j 0:=by
 by_cases e:q=j
 ·subst e
  rw[if_pos rfl,qah (by rw[List.length_set];exact hq),List.getElem_set_self]
 ·rw[if_neg fun e2=>e e2.symm,List.getD_eq_getElem?_getD,List.getElem?_set_ne e,List.getD_eq_getElem?_getD]
theorem qqf{F:Ent}{W R:Nat}{pv:List Nat}(h1:∀ j,j<pv.length→pv.getD j 0<W)(hm:∀ i j,i<j→j<pv.length→pv.getD i 0<pv.getD j 0)(ho:∀ i j,i<R→j<pv.length→F i (pv.getD j 0)=if i=j then 1 else 0) :
  ∀ d n o y,n+d=pv.length→o.length=W→(∀ k,n≤k→k<pv.length→o.getD (pv.getD k 0) 0=0)→(∀ i,i<R→qaM (fun j=>o.getD j 0) (F i) W=if i<n then F i W else 0) →
   qmI F W (pv.drop n) n o=some y→∀ i,i<R→qaM (fun j=>y.getD j 0) (F i) W=if i<pv.length then F i W else 0:=by
 intro d
 induction d with
 | zero =>
  intro n o y hn ho2 _ hd h i hi
  rw[List.drop_of_length_le (by omega)] at h
  obtain rfl:=Option.some.inj h
  rw[show pv.length=n by omega];exact hd i hi
 | succ d ih =>
  intro n o y hn ho2 hz hd h i hi
  have hnl:n<pv.length:=by omega
  have hdrop:pv.drop n=pv.getD n 0::pv.drop (n+1):=by rw[List.drop_eq_getElem_cons hnl,qah hnl]
  have hq:=h1 n hnl
  have hget:∀(v:Int) (j:Nat),(o.set (pv.getD n 0) v).getD j 0=if j=pv.getD n 0 then v else o.getD j 0:=fun v j=>qcP (by omega)
  rw[hdrop,qmI,if_neg (by omega)] at h
  refine ih (n+1) _ y (by omega) (by rw[List.length_set];exact ho2) (fun k hk hkl=>?_) (fun i hi=>?_) h i hi
  ·have:=hm n k (by omega) hkl
   rw[hget,if_neg (by omega)];exact hz k (by omega) hkl
  ·rw[qaz (d:=fun j=>if j=pv.getD n 0 then F n W else o.getD j 0) (h:=F i) fun j _=>⟨hget _ j,rfl⟩,qkA hq,hd i hi,hz n (Nat.le_refl _) hnl,ho i n hi hnl]
   by_cases e:i=n
   ·subst e;simp
   ·rw[if_neg e,Int.mul_zero,Int.add_zero]
    by_cases e2:i<n
    ·rw[if_pos e2,if_pos (by omega)]
    ·rw[if_neg e2,if_neg (by omega)]
theorem qqm{p:Int}{R W:Nat}{cells b:Sim}(hp:Pr p)(hl:cells.length=R*W)(he:qaE cells p)(hbl:b.length=R)(hb:qaE b p) :
    (qqs p R W cells b≠none↔Slv p R W (qbp cells W) (fun i=>b.getD i 0))∧∀ y,qqs p R W cells b=some y→∀ i,i<R→qaM (fun j=>y.getD j 0) (qbp cells W i) W%p=b.getD i 0%p:=by
  have hA0:=qbo he hl
  have hA1:=qkD hA0 hb hbl
  have hA:EIn p R (W+1) (qbp (qlE cells b W R) (W+1)):=fun i j hi hj=>by
    unfold qlE;rw[qa0 hi hj];exact hA1 i j hi hj
  have hent:∀ i j,i<R→j<W+1→qbp (qlE cells b W R) (W+1) i j=qn1 (qbp cells W) b W i j:=fun i j hi hj=>by unfold qlE;exact qa0 hi hj
  obtain⟨hrf,heq⟩:=qen hp hA (W+1) (Nat.le_refl _)
  unfold qqs
  generalize elS p R (qbp (qlE cells b W R) (W+1)) (W+1)=S at hrf heq
  obtain⟨F,pv⟩:=S
  simp only at hrf heq ⊢
  -- a solution beside -1 is what is orthogonal to the rows
  have aug:∀(y:Nat→Int) (G:Ent),∀ i,qaM (fun j=>if j=W then -1 else y j) (G i) (W+1)=qaM y (G i) W-G i W:=fun y G i=>by
    simp only[qaM]
    rw[if_pos trivial,qaz (d:=y) (h:=G i) fun j hj=>⟨if_neg (by omega),rfl⟩];omega
  have key:∀ y:Nat→Int,(∀ i,i<R→qaM y (qbp cells W i) W%p=b.getD i 0%p)↔∀ i,i<R→(qaM y (F i) W-F i W)%p=0:=by
    intro y
    have e1:∀ i,i<R→(qaM (fun j=>if j=W then -1 else y j) (qbp (qlE cells b W R) (W+1) i) (W+1)=qaM y (qbp cells W i) W-b.getD i 0):=fun i hi=>by
      rw[aug,qaz (d:=y) (h:=qbp cells W i) fun j hj=>⟨rfl,by rw[hent i j hi (by omega)];unfold qn1;rw[if_neg (by omega)]⟩,hent i W hi (by omega)]
      unfold qn1;rw[if_pos rfl]
    constructor
    · intro h i hi
      rw[← aug]
      exact Spn.orth (fun k hk=>by rw[e1 k hk];exact Int.emod_eq_emod_iff_emod_sub_eq_zero.1 (h k hk)) (heq.1 i hi)
    · intro h i hi
      refine Int.emod_eq_emod_iff_emod_sub_eq_zero.2 ?_
      rw[← e1 i hi]
      exact Spn.orth (fun k hk=>by rw[aug];exact h k hk) (heq.2 i hi)
  have good:∀ y,qmI F W pv 0 (List.replicate W 0)=some y→∀ i,i<R→qaM (fun j=>y.getD j 0) (qbp cells W i) W%p=b.getD i 0%p:=by
    intro y hy
    have hW:W∉pv:=fun h=>by rw[qiT.2 h] at hy;cases hy
    refine(key _).2 fun i hi=>?_
    have hz0:∀ j,(List.replicate W (0:Int)).getD j 0=0:=fun j=>by
      rw[List.getD_eq_getElem?_getD,List.getElem?_replicate];split<;>rfl
    have hd:=qqf (F:=F) (W:=W) (R:=R) (pv:=pv) (fun j hj=>by
        have h1:=hrf.lt j hj
        have h2:pv.getD j 0≠W:=fun e=>hW (by rw[← e];exact qe8 hj)
        omega) hrf.mono hrf.one pv.length 0 (List.replicate W 0) y (by omega) (by simp) (fun k _ _=>hz0 _) (fun i _=>by
        rw[qaz (d:=fun _=>0) (h:=F i) fun j _=>⟨hz0 j,rfl⟩,qaK,qc1,if_neg (by omega)]) (by rw[List.drop_zero];exact hy) i hi
    rw[hd]
    split
    · rw[Int.sub_self,Int.zero_emod]
    · rename_i h;rw[hrf.bot i W (by omega) hi (by omega)];rfl
  refine⟨⟨fun h=>?_,fun⟨y,hy⟩ h=>?_⟩,good⟩
  · cases hs:qmI F W pv 0 (List.replicate W 0) with
    | none=>exact absurd hs h
    | some y=>exact⟨fun j=>y.getD j 0,good y hs⟩
  · obtain⟨k,hk,hkW⟩:=List.mem_iff_getElem.1 (qiT.1 h)
    have hkd:pv.getD k 0=W:=by rw[qah hk];exact hkW
    have hkR:k<R:=Nat.lt_of_lt_of_le hk hrf.len
    have h1:=(key y).1 hy k hkR
    have h2:=hrf.one k k hkR hk
    rw[hkd,if_pos rfl] at h2
    rw[qaz (d:=y) (h:=fun _=>0) fun j hj=>⟨rfl,hrf.low k j hk (by omega)⟩,qc1,h2] at h1
    have hp2:=hp.1
    have:(0-1:Int)%p=p-1:=by
      rw[show(0-1:Int)=(p-1)+p*(-1) by omega,Int.add_mul_emod_self_left]
      exact Int.emod_eq_of_lt (by omega) (by omega)
    omega
end VeT
open Go Go.Proofs Ve
namespace VeT
def cX(p:Int)(x:Nat→Int)(pv:List Nat)(k:Nat):Int:=(p-x (pv.getD k 0))%p
def qhp(p:Int)(F:Ent)(pv:List Nat)(x:Nat→Int):Nat→Nat→Int
 | 0=>x
 | k+1=>fun j=>(qhp p F pv x k j+cX p x pv k*F k j)%p
theorem qke{p:Int}{F:Ent}{pv:List Nat}{x:Nat→Int}{j:Nat}:∀ k,qhp p F pv x k j%p=(x j+qaM (cX p x pv) (fun i=>F i j) k)%p
 | 0=>by simp[qhp,qaM]
 | k+1=>by
  simp only[qhp,qaM]
  rw[Int.emod_emod_of_dvd _ (Int.dvd_refl p),Int.add_emod,qke k,← Int.add_emod,Int.add_assoc]
theorem qgo{c g:Nat→Int}{t:Nat}:∀ {n:Nat},t≤n→(∀ i,t≤i→i<n→g i=0)→qaM c g n=qaM c g t
 | 0,h,_=>by rw[show t=0 by omega]
 | n+1,h,hz=>by
  by_cases ht:t=n+1
  ·rw[ht]
  ·simp only[qaM]
   rw[qgo (n:=n) (by omega) fun i h1 h2=>hz i h1 (by omega),hz n (by omega) (Nat.lt_succ_self n),Int.mul_zero,Int.add_zero]
theorem qq3{p:Int}{R W:Nat}{F:Ent}{pv:List Nat}{x:Nat→Int}(hp:2≤p)(hrf:Rf R W F pv)(hx:∀ j,j<W→0≤x j∧x j≤p-1) :
  (∀ j,j<W→qhp p F pv x pv.length j=0)↔Spn p R W F x:=by
 constructor
 ·intro h
  refine(Spn.sum (c:=fun i=>(-1)*cX p x pv i) (B:=F) (n:=pv.length) fun i hi=>Spn.row (Nat.lt_of_lt_of_le hi hrf.len)).congr fun j hj=>?_
  rw[qgu]
  have e:=qke (p:=p) (F:=F) (pv:=pv) (x:=x) (j:=j) pv.length
  rw[h j hj,Int.zero_emod] at e
  refine(Int.emod_eq_emod_iff_emod_sub_eq_zero.2 ?_).symm
  rw[show x j - -1*qaM (cX p x pv) (fun i=>F i j) pv.length=x j+qaM (cX p x pv) (fun i=>F i j) pv.length by omega]
  exact e.symm
 ·rintro⟨c,hc⟩ j hj
  have hck:∀ k,k<pv.length→x (pv.getD k 0)%p=c k%p:=fun k hk=>by
   rw[← hc _ (hrf.lt k hk),qaz (d:=c) (h:=fun i=>if i=k then 1 else 0) fun i hi=>⟨rfl,hrf.one i k hi hk⟩,qaK,qcJ (Nat.lt_of_lt_of_le hk hrf.len)]
  have e0:qaM c (fun i=>F i j) R=qaM c (fun i=>F i j) pv.length:=qgo hrf.len fun i h1 h2=>hrf.bot i j h1 h2 hj
  have e1:qaM (cX p x pv) (fun i=>F i j) pv.length%p=qaM (fun i=>(-1)*c i) (fun i=>F i j) pv.length%p:=by
   rw[qaK,qaK (c:=fun i=>(-1)*c i)]
   refine qco fun i hi=>?_
   unfold cX
   rw[Int.emod_emod_of_dvd _ (Int.dvd_refl p)]
   refine Int.emod_eq_emod_iff_emod_sub_eq_zero.2 ?_
   have:=Int.emod_eq_emod_iff_emod_sub_eq_zero.1 (hck i hi).symm
   rw[show p-x (pv.getD i 0) - -1*c i=(c i-x (pv.getD i 0))+p*1 by omega,Int.add_mul_emod_self_left]
   exact this
  have e2:qhp p F pv x pv.length j%p=0:=by
   rw[qke,Int.add_emod,e1,← Int.add_emod,qgu,← e0,Int.add_emod,← hc j hj,← Int.add_emod,show qaM c (fun i=>F i j) R+-1*qaM c (fun i=>F i j) R=0 by omega,Int.zero_emod]
  have hin:0≤qhp p F pv x pv.length j∧qhp p F pv x pv.length j≤p-1:=by
   cases hn:pv.length with
   | zero=>exact hx j hj
   | succ n=>exact qcF hp
  rw[Int.emod_eq_of_lt hin.1 (by omega)] at e2
  exact e2
def qdp(rows:List Sim):Ent:=fun i j=>(rows.getD i []).getD j 0
theorem qoq{rows:List Sim}{W:Nat}(h:∀ x∈rows,x.length=W):qaB (qdp rows) rows.length W=rows:=by
 apply List.ext_getElem
 ·rw[qaA]
 ·intro i h1 h2
  have e:=qba (A:=qdp rows) (W:=W) h2
  rw[List.getElem?_eq_getElem h1] at e
  rw[Option.some.inj e]
  apply List.ext_getElem
  ·rw[List.length_map,List.length_range];exact(h _ (List.getElem_mem h2)).symm
  ·intro j h3 h4
   rw[List.getElem_map,List.getElem_range]
   unfold qdp
   rw[qah h2,qah h4]
theorem qe3{p:Int}{rows:List Sim}{W:Nat}(h:Rws p W rows):EIn p rows.length W (qdp rows):=fun i j hi hj=>by
 obtain⟨h1,h2⟩:=h _ (List.getElem_mem hi)
 unfold qdp
 rw[qah hi,qah (by omega)]
 exact h2 _ (List.getElem_mem _)
noncomputable def qsm(p:Int)(W:Nat)(rows:List Sim):Ent×List Nat:=elS p rows.length (qdp rows) W
noncomputable def bas(p:Int)(W:Nat)(rows:List Sim):List Sim:=qaB (qsm p W rows).1 (qsm p W rows).2.length W
theorem qox{A:Ent}{R W t:Nat}(h:t≤R):(qaB A R W).take t=qaB A t W:=by
 unfold qaB
 rw[← List.map_take,List.take_range,Nat.min_eq_left h]
end VeT
open Go Go.Proofs Ve
namespace VeT
theorem qeh(rows:List Sim)(hl:rows.length≤1048576)(hs:∀ x∈rows,x.length≤1048576):Ret E n_Z41 [dLL rows] ⟨o_Z41,(rows,())⟩:=by
 refine qal ?_
 simp only[run_Z41,Z41.ev]
 refine Ev.start (p:=fun φ n=>Z41.l0 (mkR (run E (φ 0))) (φ 0) n rows (rows.length:Int) 0 []=_) 1 ?_ (fun _ _ _ h=>h)
 refine qaq 1 (L:=fun φ n k o=>Z41.l0 (mkR (run E (φ 0))) (φ 0) n rows (rows.length:Int) k o) (len:=rows.length) (fun k=>rows.take k) (fun _ _ _ _ _=>rfl) (fun k r hk ih=>?_) ?_
 ·simp only[Z41.l0_succ _ qag]
  rw[List.take_succ_eq_append_getElem hk] at ih
  refine qaD (decide_eq_true (by omega)) (qaf (qap hk) (qaa (qdR _ (hs _ (List.getElem_mem hk))) (qar (by simp only[List.length_take,List.length_singleton,decide_eq_true_eq];omega) ?_)))
  rw[qae (by omega)];exact ih
 ·simp only[Z41.l0_succ _ qag]
  refine qaJ (decide_eq_false (by omega)) (qai ?_)
  rw[List.take_of_length_le (Nat.le_refl _)]
theorem qiu(p:Int)(W:Nat)(rows:List Sim)(hp:2≤p∧p≤251)(hR:rows.length≤1048576)(hW:W≤1048576)(hr:Rws p W rows) :
  Ret E n_Z87 [dI p,dI (W:Int),dLL rows] ⟨o_Z87,(p,(W:Int),bas p W rows,())⟩:=by
 have hA:=qe3 hr
 obtain⟨det,hel⟩:=qd9 (qdp rows) rows.length W p hp hR hW hA
 rw[qoq fun x hx=>(hr x hx).1] at hel
 have hlen:=(qc7 hp.1 hA W).2.1
 refine qal ?_
 simp only[run_Z87,Z87.ev]
 unfold bas qsm
 generalize elS p rows.length (qdp rows) W=S at hel hlen
 obtain⟨F,pv⟩:=S
 simp only at hel hlen ⊢
 refine qaa (qeh rows hR fun x hx=>by rw[(hr x hx).1];exact hW) (qaa hel (qar (by simp only[qaZ,qaA,Bool.and_eq_true,decide_eq_true_eq];omega) ?_))
 simp only[qaZ,Int.toNat_natCast,List.drop_zero]
 rw[qox hlen]
 exact qaa (qeh (qaB F pv.length W) (by rw[qaA];omega) fun x hx=>by
  obtain⟨i,_,rfl⟩:=List.mem_map.1 hx
  rw[List.length_map,List.length_range];exact hW) qam
theorem qje(x:Int):Ret E n_Z74 [dI x] ⟨o_Z74,(x != 0,())⟩:=by
 refine qal ?_
 simp only[run_Z74,Z74.ev]
 exact Ev.of fun _=>trivial
theorem qsg{f:Nat→Int}{W q:Nat}(hq:q<W)(h1:f q≠0)(h0:∀ j,j<q→f j=0):qhK (fun x:Int=>x != 0) ((List.range W).map f)=(q:Int):=by
 have:=qdc (p:=fun x:Int=>x != 0) (s:=(List.range W).map f) (o:=some q) (fun k hk=>by
  obtain rfl:=Option.some.inj hk
  refine⟨by simpa using hq,⟨by simpa using hq,by simpa using h1⟩,fun j hj=>?_⟩
  rintro⟨hjl,hne⟩
  simp[h0 j hj] at hne) (fun h=>by cases h)
 exact this.symm
theorem qlM{R W:Nat}{F:Ent}{pv:List Nat}(p:Int)(hW:W≤1048576)(hR:R≤1048576)(hrf:Rf R W F pv) :
  Ret E n_Z73 [dI p,dI (W:Int),dLL (qaB F pv.length W)] ⟨o_Z73,(pvL pv,())⟩:=by
 have hlen:=hrf.len
 refine qal ?_
 simp only[run_Z73,Z73.ev,qaA]
 refine Ev.start (p:=fun φ n=>Z73.l0 (mkR (run E (φ 0))) (φ 0) n (qaB F pv.length W) (pv.length:Int) 0 []=_) 1 ?_ (fun _ _ _ h=>h)
 refine qaq 1 (L:=fun φ n k o=>Z73.l0 (mkR (run E (φ 0))) (φ 0) n (qaB F pv.length W) (pv.length:Int) k o) (len:=pv.length) (fun k=>pvL (pv.take k)) (fun _ _ _ _ _=>rfl) (fun k r hk ih=>?_) ?_
 ·simp only[Z73.l0_succ _ qag]
  have hone:=hrf.one k k (by omega) hk
  rw[if_pos rfl] at hone
  have hix:=qsg (f:=F k) (hrf.lt k hk) (by rw[hone];exact Int.one_ne_zero) fun j hj=>hrf.low k j hk hj
  have hcall:=qbM ((List.range W).map (F k)) (fun x=>x != 0) (by rw[List.length_map,List.length_range];exact hW) fun x _=>qje x
  rw[hix] at hcall
  rw[List.take_succ_eq_append_getElem hk,qmG,← qah (d:=0) hk] at ih
  refine qaD (decide_eq_true (by omega)) (qaf (qbQ.trans (qba hk)) (qaa hcall (qar (by simp only[qaZ,List.length_take,List.length_singleton,decide_eq_true_eq];omega) ?_)))
  rw[qae (by omega)];exact ih
 ·simp only[Z73.l0_succ _ qag]
  refine qaJ (decide_eq_false (by omega)) (qai ?_)
  rw[List.take_of_length_le (Nat.le_refl _)]
def qfi(p:Int)(F:Ent)(pv:List Nat)(x:Nat→Int)(W k:Nat):Sim:=(List.range W).map (qhp p F pv x k)
theorem qiC{R W:Nat}{F:Ent}{pv:List Nat}(p:Int)(x:Sim)(hp:2≤p∧p≤251)(hW:W≤1048576)(hR:R≤1048576)(hF:EIn p R W F)(hrf:Rf R W F pv)(hx:qaE x p)(hxl:x.length=W) :
  ∃ l:Sim,Ret E n_Z40 [dI p,dI (W:Int),dLL (qaB F pv.length W),dL x] ⟨o_Z40,(l,pb (Zs (qfi p F pv (fun j=>x.getD j 0) W pv.length)),())⟩:=by
 have hlen:=hrf.len
 have hx0:x=qfi p F pv (fun j=>x.getD j 0) W 0:=by
  show x=(List.range W).map fun j=>x.getD j 0
  apply List.ext_getElem
  ·rw[List.length_map,List.length_range,hxl]
  ·intro j h1 h2
   rw[List.getElem_map,List.getElem_range,qah h1]
 refine⟨(pv.map fun q=>x.getD q 0),qal ?_⟩
 simp only[run_Z40,Z40.ev]
 refine qaa (qlM p hW hR hrf) ?_
 simp only[qaZ]
 have hin:∀ j,j<W→0≤x.getD j 0∧x.getD j 0≤p-1:=fun j hj=>by rw[qah (by omega)];exact hx _ (List.getElem_mem _)
 have hrin:∀ k j,j<W→0≤qhp p F pv (fun j=>x.getD j 0) k j∧qhp p F pv (fun j=>x.getD j 0) k j≤p-1:=fun k j hj=>by
  cases k with
  | zero=>exact hin j hj
  | succ k=>exact qcF hp.1
 suffices h:Ev fun φ=>Z40.l0 (mkR (run E (φ 0))) (φ 0) (φ 0) x (qfi p F pv (fun j=>x.getD j 0) W 0) (pvL pv) (pv.length:Int) 0 p (W:Int) (qaB F pv.length W) []=some ⟨o_Z40,(pv.map fun q=>x.getD q 0,pb (Zs (qfi p F pv (fun j=>x.getD j 0) W pv.length)),())⟩ by
  rw[← hx0] at h;exact h
 refine Ev.start (p:=fun φ n=>Z40.l0 (mkR (run E (φ 0))) (φ 0) n x (qfi p F pv (fun j=>x.getD j 0) W 0) (pvL pv) (pv.length:Int) 0 p (W:Int) (qaB F pv.length W) []=_) 1 ?_ (fun _ _ _ h=>h)
 refine qaq 1 (L:=fun φ n k (o:Sim×Sim)=>Z40.l0 (mkR (run E (φ 0))) (φ 0) n x o.1 (pvL pv) (pv.length:Int) k p (W:Int) (qaB F pv.length W) o.2) (len:=pv.length) (fun k=>(qfi p F pv (fun j=>x.getD j 0) W k,(pv.take k).map fun q=>x.getD q 0)) (fun _ _ _ _ _=>rfl) (fun k r hk ih=>?_) ?_
 ·simp only[Z40.l0_succ _ qag] at ih ⊢
  have hq:=hrf.lt k hk
  have hxq:x[pv.getD k 0]? = some (x.getD (pv.getD k 0) 0):=by rw[qah (show pv.getD k 0<x.length by omega)];exact List.getElem?_eq_getElem _
  have hv:=hin _ hq
  have hc:Int.tmod (w64 (p-x.getD (pv.getD k 0) 0)) p=cX p (fun j=>x.getD j 0) pv k:=by
   rw[qad (by omega) (by omega),Int.tmod_eq_emod_of_nonneg (by omega)];rfl
  have hcin:0≤cX p (fun j=>x.getD j 0) pv k∧cX p (fun j=>x.getD j 0) pv k≤p-1:=qcF hp.1
  have hadd:=qeF (qfi p F pv (fun j=>x.getD j 0) W k) ((List.range W).map (F k)) (cX p (fun j=>x.getD j 0) pv k) p hp (by omega) (by simp[qfi]) (by simp[qfi];omega) (qln hp.2 (hrin k)) (qln hp.2 fun j hj=>hF k j (by omega) hj)
  rw[show qsY (qfi p F pv (fun j=>x.getD j 0) W k) ((List.range W).map (F k)) (cX p (fun j=>x.getD j 0) pv k) p=qfi p F pv (fun j=>x.getD j 0) W (k+1) from qkM] at hadd
  have hp0:(p != 0)=true:=by simp;omega
  rw[List.take_succ_eq_append_getElem hk,List.map_append,List.map_singleton,← qah (d:=0) hk] at ih
  refine qaD (decide_eq_true (by omega)) (qaf (qbQ.trans (qmK hk)) (qaf (qbQ.trans hxq) (qar (by simp only[List.length_map,List.length_take,List.length_singleton,decide_eq_true_eq];omega) (qaf (qbQ.trans (qba hk)) (qaf (qbQ.trans hxq) (qar hp0 ?_))))))
  simp only[hc]
  refine qaa hadd ?_
  rw[qae (by omega)];exact ih
 ·simp only[Z40.l0_succ _ qag]
  refine qaJ (decide_eq_false (by omega)) (qaa (qjE _ (by simp[qfi];omega)) (qai ?_))
  rw[List.take_of_length_le (Nat.le_refl _)]
theorem qqX{p:Int}{F:Ent}{pv:List Nat}{x:Nat→Int}{W k:Nat}:Zs (qfi p F pv x W k)↔∀ j,j<W→qhp p F pv x k j=0:=by
 unfold Zs qfi
 constructor
 ·intro h j hj;exact h _ (List.mem_map.2 ⟨j,List.mem_range.2 hj,rfl⟩)
 ·intro h y hy
  obtain⟨j,hj,rfl⟩:=List.mem_map.1 hy
  exact h j (List.mem_range.1 hj)
def InR(p:Int)(W:Nat)(rows:List Sim)(x:Sim):Prop:=Spn p rows.length W (qdp rows) (fun j=>x.getD j 0)
theorem qlY(p:Int)(W:Nat)(rows:List Sim)(x:Sim)(hp:Pr p)(hW:W≤1048576)(hR:rows.length≤1048576)(hr:Rws p W rows)(hx:qaE x p)(hxl:x.length=W) :
  Ret E n_Z39 [dI p,dI (W:Int),dLL (bas p W rows),dL x] ⟨o_Z39,(pb (InR p W rows x),())⟩:=by
 have hA:=qe3 hr
 obtain⟨hrf,heq⟩:=qen hp hA W (Nat.le_refl _)
 have hF:=(qc7 hp.1 hA W).1
 have hin:∀ j,j<W→0≤x.getD j 0∧x.getD j 0≤p-1:=fun j hj=>by rw[qah (by omega)];exact hx _ (List.getElem_mem _)
 unfold bas qsm
 have e:∀ F pv,Rf rows.length W F pv→Eqv p rows.length W (qdp rows) F→(Zs (qfi p F pv (fun j=>x.getD j 0) W pv.length)↔InR p W rows x):=fun F pv h1 h2=>by
  rw[qqX,qq3 hp.1 h1 hin]
  exact⟨fun h=>Spn.trans h2.1 h,fun h=>Spn.trans h2.2 h⟩
 have e:=e _ _ hrf heq
 generalize elS p rows.length (qdp rows) W=S at hrf heq hF e
 obtain⟨F,pv⟩:=S
 simp only at hrf heq hF e ⊢
 obtain⟨l,hl⟩:=qiC p x ⟨hp.1,hp.2.1⟩ hW hR hF hrf hx hxl
 rw[show pb (Zs (qfi p F pv (fun j=>x.getD j 0) W pv.length))=pb (InR p W rows x) from qaS e] at hl
 refine qal ?_
 simp only[run_Z39,Z39.ev]
 exact qaa hl qam
end VeT
open Go Go.Proofs Ve
namespace VeT
theorem InR.mem{p:Int}{W:Nat}{rows:List Sim}{r:Sim}(h:r∈rows):InR p W rows r:=by
 obtain⟨i,hi,e⟩:=List.mem_iff_getElem.1 h
 have:qdp rows i=fun j=>r.getD j 0:=by funext j;unfold qdp;rw[qah hi,e]
 unfold InR
 rw[← this]
 exact Spn.row hi
theorem InR.trans{p:Int}{W:Nat}{A B:List Sim}{y:Sim}(h:∀ r∈A,InR p W B r)(hy:InR p W A y):InR p W B y :=
 Spn.trans (fun i hi=>by
  have e:qdp A i=fun j=>(A[i]).getD j 0:=by funext j;unfold qdp;rw[qah hi]
  rw[e]
  exact h _ (List.getElem_mem hi)) hy
def qh1(p:Int)(W:Nat)(A B:List Sim):Prop:=∀ y,InR p W A y↔InR p W B y
theorem qh1.refl{p:Int}{W:Nat}{A:List Sim}:qh1 p W A A:=fun _=>Iff.rfl
theorem qh1.append{p:Int}{W:Nat}{A B:List Sim}{x:Sim}(h:qh1 p W A B):qh1 p W (A++[x]) (B++[x]):=by
 have key:∀ A B:List Sim,qh1 p W A B→∀ y,InR p W (A++[x]) y→InR p W (B++[x]) y:=fun A B h y hy=>InR.trans (fun r hr=>by
  rcases List.mem_append.1 hr with hr | hr
  ·exact InR.trans (fun r hr=>InR.mem (List.mem_append.2 (.inl hr))) ((h r).1 (InR.mem hr))
  ·exact InR.mem (List.mem_append.2 (.inr hr))) hy
 exact fun y=>⟨key A B h y,key B A (fun y=>(h y).symm) y⟩
theorem qrI{p:Int}{W:Nat}{rows:List Sim}(hp:2≤p)(hr:Rws p W rows):Rws p W (bas p W rows)∧(bas p W rows).length≤W:=by
 have hA:=qe3 hr
 obtain⟨hF,h1,h2,h3⟩:=qc7 hp hA W
 unfold bas qsm
 refine⟨fun x hx=>?_,by rw[qaA];exact h2⟩
 obtain⟨i,hi,rfl⟩:=List.mem_map.1 hx
 have hi:=List.mem_range.1 hi
 refine⟨by simp,fun y hy=>?_⟩
 obtain⟨j,hj,rfl⟩:=List.mem_map.1 hy
 exact hF i j (by omega) (List.mem_range.1 hj)
theorem qqr{p:Int}{W:Nat}{rows:List Sim}(hp:Pr p)(hr:Rws p W rows):qh1 p W (bas p W rows) rows:=by
 have hA:=qe3 hr
 obtain⟨hrf,heq⟩:=qen hp hA W (Nat.le_refl _)
 unfold bas qsm
 generalize elS p rows.length (qdp rows) W=S at hrf heq
 obtain⟨F,pv⟩:=S
 simp only at hrf heq ⊢
 have hent:∀ i j,i<pv.length→j<W→qdp (qaB F pv.length W) i j=F i j:=fun i j hi hj=>by
  unfold qdp
  have e1:(qaB F pv.length W).getD i []=(List.range W).map (F i):=by rw[List.getD_eq_getElem?_getD,qba hi];rfl
  rw[e1,List.getD_eq_getElem?_getD,qeV hj];rfl
 refine fun y=>⟨fun h=>?_,fun h=>?_⟩
 ·refine Spn.trans (fun i hi=>?_) h
  rw[qaA] at hi
  exact(heq.1 i (Nat.lt_of_lt_of_le hi hrf.len)).congr fun j hj=>by rw[hent i j hi hj]
 ·obtain⟨c,hc⟩:=Spn.trans heq.2 h
  refine⟨c,fun j hj=>?_⟩
  rw[qaA,← hc j hj,qgo hrf.len fun i h1 h2=>hrf.bot i j h1 h2 hj,qaz (d:=c) (h:=fun i=>F i j) fun i hi=>⟨rfl,hent i j hi hj⟩]
open Classical in
noncomputable def qnq(p:Int)(W:Nat):List Sim→List Sim→List Sim
 | _,[]=>[]
 | h,x::xs=>if InR p W h x then qnq p W h xs else x::qnq p W (h++[x]) xs
theorem qd5{p:Int}{W:Nat}:∀ {l h:List Sim},(qnq p W h l).length≤l.length
 | [],h=>by simp[qnq]
 | y::l,h=>by
  unfold qnq
  split
  ·have:=qd5 (p:=p) (W:=W) (l:=l) (h:=h);simp;omega
  ·have:=qd5 (p:=p) (W:=W) (l:=l) (h:=h++[y]);simp;omega
open Classical in
noncomputable def msk(p:Int)(W:Nat):List Sim→List Sim→List Bool
 | _,[]=>[]
 | h,x::xs=>if InR p W h x then false::msk p W h xs else true::msk p W (h++[x]) xs
theorem qn3(n:Nat)(args:List Dv):run E (n+1) n_Z59 args=qg6 n_Z39 n_Z41 n_Z87 (mkR (run E n)) args:=rfl
theorem qmx{p:Int}{W:Nat}(qg6:Unit):∀ {l h:List Sim},sel (msk p W h l) l=qnq p W h l
 | [],h=>rfl
 | x::xs,h=>by
  unfold msk qnq
  split
  ·exact qmx ()
  ·simp only[sel];rw[qmx ()]
theorem qkn{f:Nat}{out:Ty}{args:List Dv}{x:out.T}(h:Ret E f args ⟨out,x⟩):Ev fun φ=>qcx (mkR (run E (φ 0))) f out args=some x:=by
 have h1:=qaa (E:=E) (K:=fun _ y=>some (⟨out,y⟩:Dv)) (r:=some ⟨out,x⟩) h qam
 refine h1.mono fun φ h2=>?_
 cases e:qcx (mkR (run E (φ 0))) f out args with
 | none=>rw[e] at h2;cases h2
 | some y =>
  rw[e] at h2
  have h3:=Option.some.inj h2
  exact congrArg some (eq_of_heq (Dv.mk.inj h3).2)
-- qg6
theorem qrS(p:Int)(W:Nat)(hp:Pr p)(hW:W≤1048575):∀(l g h:List Sim),Rws p W l→Rws p W g→g.length≤1048576→qh1 p W g h →
  Ev fun φ=>qp1 n_Z39 n_Z41 n_Z87 (mkR (run E (φ 0))) p (W:Int) (bas p W g) l=some (msk p W h l):=by
 have hp2:2≤p∧p≤251:=⟨hp.1,hp.2.1⟩
 intro l
 induction l with
 | nil=>exact fun g h _ _ _ _=>Ev.of fun _=>rfl
 | cons x l ih =>
  intro g h hl hg hgl hs
  obtain⟨hx1,hx2⟩:=hl x List.mem_cons_self
  have hl':Rws p W l:=fun r hr=>hl r (List.mem_cons_of_mem _ hr)
  have hc:=qkn (qlY p W g x hp (by omega) hgl hg hx2 hx1)
  by_cases hin:InR p W g x
  ·rw[qaI hin] at hc
   refine(hc.and (ih g h hl' hg hgl hs)).mono fun φ ⟨h1,h2⟩=>?_
   unfold qp1 msk
   rw[if_pos ((hs x).1 hin)]
   refine(congrArg (Option.bind · _) h1).trans ?_
   simp only[Option.bind_some,cond_true]
   rw[h2];rfl
  ·rw[qaw hin] at hc
   obtain⟨b1,b2⟩:=qrI hp.1 hg
   have hg2:Rws p W (bas p W g++[x]):=fun r hr=>by
    rcases List.mem_append.1 hr with hr | hr
    ·exact b1 r hr
    ·rw[List.mem_singleton] at hr;subst hr;exact⟨hx1,hx2⟩
   have hs2:qh1 p W (bas p W g++[x]) (h++[x]):=qh1.append fun y=>(qqr hp hg y).trans (hs y)
   have hsp:=qkn (qiu p W (bas p W g++[x]) hp2 (by rw[List.length_append,List.length_singleton];omega) (by omega) hg2)
   have hcl:=qkn (qeh (bas p W g) (by omega) fun x hx=>by rw[(b1 x hx).1];omega)
   have hih:=ih (bas p W g++[x]) (h++[x]) hl' hg2 (by rw[List.length_append,List.length_singleton];omega) hs2
   refine((hc.and hcl).and (hsp.and hih)).mono fun φ ⟨⟨h1,h2⟩,h3,h4⟩=>?_
   unfold qp1 msk
   rw[if_neg fun e=>hin ((hs x).2 e)]
   refine(congrArg (Option.bind · _) h1).trans ?_
   simp only[Option.bind_some,cond_false]
   refine(congrArg (Option.bind · _) h2).trans ?_
   simp only[Option.bind_some]
   have hk:chk (decide (((bas p W g).length+1)*24≤70368744177664))=some ():=by unfold chk;rw[decide_eq_true (by omega)];rfl
   rw[hk,Option.bind_some]
   refine(congrArg (Option.bind · _) h3).trans ?_
   simp only[Option.bind_some]
   rw[h4];rfl
-- qg6
theorem qhR(p:Int)(W:Nat)(rows list:List Sim)(hp:Pr p)(hW:W≤1048575)(hR:rows.length≤1048576)(hr:Rws p W rows)(hl:list.length≤1048576)(hls:Rws p W list) :
    Ret E n_Z59 [dI p,dI (W:Int),dLL (bas p W rows),dLL list] ⟨o_Z59,(qnq p W rows list,())⟩:=by
  refine qal ?_
  refine(qrS p W hp hW list rows rows hls hr hR qh1.refl).mono fun φ h=>?_
  rw[qn3]
  show((some p).bind fun p=>(some (W:Int)).bind fun W=>(some (bas p W.toNat rows)).bind fun B=>(some list).bind fun xs =>
      if xs.length≤1048576 then(qp1 n_Z39 n_Z41 n_Z87 (mkR (run E (φ 0))) p W B xs).map fun ms=>(⟨.cons tLL .nil,(sel ms xs,())⟩:Dv) else none)=_
  simp only[Option.bind_some,Int.toNat_natCast,if_pos hl]
  rw[h,Option.map_some,qmx ()]
end VeT
open Go Go.Proofs Ve
namespace VeT
def qsi(p:Int)(W:Nat)(cells:Sim)(h:List Sim):Prop:=(cells.length=W*h.length∧qaE cells p)∧∀ i j,i<W→j<h.length→qbp cells h.length i j=qdp h j i
theorem qsi.slv{p:Int}{W:Nat}{cells:Sim}{h:List Sim}{v:Sim}(hc:qsi p W cells h):Slv p W h.length (qbp cells h.length) (fun i=>v.getD i 0)↔InR p W h v:=by
 have e:∀(y:Nat→Int) i,i<W→qaM y (qbp cells h.length i) h.length=qaM y (fun j=>qdp h j i) h.length:=fun y i hi=>qaz fun j hj=>⟨rfl,hc.2 i j hi hj⟩
 exact⟨fun⟨y,hy⟩=>⟨y,fun i hi=>by rw[← e y i hi];exact hy i hi⟩,fun⟨y,hy⟩=>⟨y,fun i hi=>by rw[e y i hi];exact hy i hi⟩⟩
theorem qsi.next{p:Int}{W:Nat}{cells:Sim}{h:List Sim}{v:Sim}(hc:qsi p W cells h)(hv:qaE v p)(hl:v.length=W):qsi p W (qlE cells v h.length W) (h++[v]):=by
 have hlen:(h++[v]).length=h.length+1:=by simp
 have hA0:=qbo hc.1.2 hc.1.1
 have hA1:=qkD hA0 hv hl
 refine⟨⟨by rw[hlen];exact qau,fun x hx=>?_⟩,fun i j hi hj=>?_⟩
 ·unfold qlE at hx
  rw[← qcW] at hx
  obtain⟨row,hrow,hx⟩:=List.mem_flatten.1 hx
  obtain⟨i,hi,rfl⟩:=List.mem_map.1 hrow
  obtain⟨j,hj,rfl⟩:=List.mem_map.1 hx
  exact hA1 i j (List.mem_range.1 hi) (List.mem_range.1 hj)
 ·rw[hlen] at hj ⊢
  unfold qlE
  rw[qa0 hi hj]
  unfold qn1 qdp
  by_cases hjh:j<h.length
  ·rw[if_neg (by omega),hc.2 i j hi hjh,List.getD_eq_getElem?_getD (l:=h++[v]),List.getElem?_append_left hjh,← List.getD_eq_getElem?_getD];rfl
  ·obtain rfl:j=h.length:=by omega
   rw[if_pos rfl,List.getD_eq_getElem?_getD (l:=h++[v]),List.getElem?_append_right (Nat.le_refl _)];simp
theorem qff{p:Int}{W C:Nat}{cells:Sim}(hl:cells.length=W*C)(he:qaE cells p):qsi p W cells (qb7 W C cells)∧(qb7 W C cells).length=C∧Rws p W (qb7 W C cells):=by
 have hlen:(qb7 W C cells).length=C:=by simp[qb7]
 have hA:=qbo he hl
 refine⟨⟨⟨by rw[hlen];exact hl,he⟩,fun i j hi hj=>?_⟩,hlen,fun x hx=>?_⟩
 ·rw[hlen] at hj ⊢
  have e:(qb7 W C cells).getD j []=(List.range W).map fun i=>cells.getD (i*C+j) 0:=by
   unfold qb7
   rw[List.getD_eq_getElem?_getD,List.getElem?_map,List.getElem?_range hj];rfl
  unfold qdp
  rw[e,List.getD_eq_getElem?_getD,List.getElem?_map,List.getElem?_range hi];rfl
 ·obtain⟨i,hi,rfl⟩:=List.mem_map.1 hx
  refine⟨by simp,fun y hy=>?_⟩
  obtain⟨j,hj,rfl⟩:=List.mem_map.1 hy
  exact hA j i (List.mem_range.1 hj) (List.mem_range.1 hi)
noncomputable def qe2(x:Shf)(k:Int):List Sim:=qnq x.2.1 (SD x.1 x.2.2.1 k).toNat (qb7 (SD x.1 x.2.2.1 k).toNat (SD x.1 x.2.2.1 (k-1)).toNat (qcR x (k-1)).2.2.2.1) (qml x k)
theorem qhN{x:Shf}{k:Int}(hs:VS x.1 x.2.1 x.2.2.1 x.2.2.2.1):Rws x.2.1 (SD x.1 x.2.2.1 k).toNat (qml x k)∧(qml x k).length≤(SD x.1 x.2.2.1 k).toNat :=
 ⟨fun r hr=>qhL hs.2.1.1 hr,qfP⟩
end VeT
open Go Go.Proofs Ve
namespace VeT
theorem InR.left{p:Int}{W:Nat}{A B:List Sim}{x:Sim}(h:InR p W A x):InR p W (A++B) x:=InR.trans (fun r hr=>InR.mem (List.mem_append.2 (.inl hr))) h
end VeT
open Go Go.Proofs Ve
namespace VeT
theorem qoV{p:Int}{W:Nat}{pv:List Nat}{F:Ent}:∀ {n c:Nat},c<n→c∉pv→qk1 p W pv F c pv.length∈qht p W pv F n
 | n+1,c,h,hc=>by
  rw[qht,List.mem_append]
  by_cases e:c=n
  ·subst e
   right;rw[if_neg hc];exact List.mem_singleton.2 rfl
  ·exact .inl (qoV (by omega) hc)
theorem qpr{p:Int}{R W c:Nat}{pv:List Nat}{F:Ent}(hrf:Rf R W F pv):∀ n,n≤pv.length→∀ i,i<n→(qk1 p W pv F c n).getD (pv.getD i 0) 0=(0-F i c)%p
 | 0,_,i,hi=>by omega
 | n+1,hn,i,hi=>by
  have hq:=hrf.lt n (by omega)
  rw[qeW,qcP (by rw[qca];exact hq)]
  by_cases e:i=n
  ·subst e;rw[if_pos rfl]
  ·have:=hrf.mono i n (by omega) (by omega)
   rw[if_neg (by omega)];exact qpr hrf n (by omega) i (by omega)
theorem qe1{p:Int}{R W c j:Nat}{pv:List Nat}{F:Ent}(hrf:Rf R W F pv)(hj:j<W)(hjp:j∉pv)(hc:c<W):∀ n,n≤pv.length→(qk1 p W pv F c n).getD j 0=if j=c then 1 else 0
 | 0,_=>by
  show((List.replicate W (0:Int)).set c 1).getD j 0=_
  rw[qcP (by simpa using hc)]
  split
  ·rfl
  ·rw[List.getD_eq_getElem?_getD,List.getElem?_replicate,if_pos hj];rfl
 | n+1,hn=>by
  have hq:=hrf.lt n (by omega)
  rw[qeW,qcP (by rw[qca];exact hq),if_neg fun e=>hjp (by rw[e];exact qe8 (by omega))]
  exact qe1 hrf hj hjp hc n (by omega)
theorem qsu{pv:List Nat}{j:Nat}(h:j∈pv):∃ i,i<pv.length∧pv.getD i 0=j:=by
 obtain⟨i,hi,e⟩:=List.mem_iff_getElem.1 h
 exact⟨i,hi,by rw[qah hi];exact e⟩
open Classical in
theorem qpf{p:Int}{R W:Nat}{cells x:Sim}(hp:Pr p)(hl:cells.length=R*W)(he:qaE cells p)(h0:∀ i,i<R→qaM (fun j=>x.getD j 0) (qbp cells W i) W%p=0):InR p W (qlZ p R W cells) x:=by
  have hA:=qbo he hl
  obtain⟨hrf,heq⟩:=qen hp hA W (Nat.le_refl _)
  have hF0:∀ i,i<R→qaM (fun j=>x.getD j 0) ((elS p R (qbp cells W) W).1 i) W%p=0:=fun i hi=>Spn.orth h0 (heq.1 i hi)
  unfold qlZ
  generalize elS p R (qbp cells W) W=S at hrf hF0
  obtain⟨F,pv⟩:=S
  simp only at hrf hF0 ⊢
  let K:Ent:=fun c j=>if c∈pv then 0 else(qk1 p W pv F c pv.length).getD j 0
  refine(Spn.sum (c:=fun j=>x.getD j 0) (B:=K) (n:=W) fun c hc=>?_).congr fun j hj=>?_
  · by_cases h:c∈pv
    · rw[show K c=fun _=>0 by funext j;simp[K,h]];exact Spn.zero
    · rw[show K c=fun j=>(qk1 p W pv F c pv.length).getD j 0 by funext j;simp[K,h]]
      exact InR.mem (qoV hc h)
  · show qaM (fun j=>x.getD j 0) (fun c=>K c j) W%p=x.getD j 0%p
    by_cases hjp:j∈pv
    · obtain⟨i,hi,rfl⟩:=qsu hjp
      have hiR:i<R:=Nat.lt_of_lt_of_le hi hrf.len
      have e:qaM (fun j=>x.getD j 0) (fun c=>F i c+K c (pv.getD i 0)) W%p=qaM (fun j=>x.getD j 0) (fun c=>if c=pv.getD i 0 then 1 else 0) W%p:=qco fun c hc=>by
        by_cases hcp:c∈pv
        · obtain⟨k,hk,rfl⟩:=qsu hcp
          have h1:=hrf.one i k hiR hk
          rw[show K (pv.getD k 0) (pv.getD i 0)=0 from if_pos hcp,Int.add_zero,h1]
          by_cases hik:i=k
          · subst hik;simp
          · rw[if_neg hik,if_neg]
            intro e
            rcases Nat.lt_or_gt_of_ne hik with h | h
            · have:=hrf.mono i k h hk;omega
            · have:=hrf.mono k i h hi;omega
        · rw[show K c (pv.getD i 0)=(0-F i c)%p from(if_neg hcp).trans (qpr hrf pv.length (Nat.le_refl _) i hi),if_neg fun e=>hcp (by rw[e];exact qe8 hi),Int.add_emod,Int.emod_emod_of_dvd _ (Int.dvd_refl p),← Int.add_emod,show F i c+(0-F i c)=0 by omega]
      rw[qiR,Int.add_emod,hF0 i hiR,Int.zero_add,Int.emod_emod_of_dvd _ (Int.dvd_refl p),qaK (g:=fun c=>if c=pv.getD i 0 then 1 else 0),qcJ (hrf.lt i hi)] at e
      exact e
    · rw[qaz (d:=fun j=>x.getD j 0) (h:=fun c=>if c=j then 1 else 0) fun c hc=>⟨rfl,by
        by_cases hcp:c∈pv
        · rw[show K c j=0 from if_pos hcp,if_neg fun(e:c=j)=>hjp (by rw[← e];exact hcp)]
        · rw[show K c j=if j=c then 1 else 0 from(if_neg hcp).trans (qe1 hrf hj hjp hc pv.length (Nat.le_refl _))]
          by_cases e:j=c
          · rw[if_pos e,if_pos e.symm]
          · rw[if_neg e,if_neg fun e2=>e e2.symm]⟩,qaK,qcJ hj]
end VeT
open Go Go.Proofs Ve
namespace VeT
theorem qjo{p:Int}{F:Ent}{W:Nat}:∀ {qs:List Nat} {i:Nat} {o y:Sim},(∀ k,i≤k→k<i+qs.length→0≤F k W∧F k W≤p-1)→qaE o p→qmI F W qs i o=some y→qaE y p
 | [],i,o,y,_,ho,h=>by obtain rfl:=Option.some.inj h;exact ho
 | q::qs,i,o,y,hF,ho,h=>by
  unfold qmI at h
  split at h
  ·cases h
  ·refine qjo (fun k h1 h2=>hF k (by omega) (by simp;omega)) (fun z hz=>?_) h
   rcases List.mem_or_eq_of_mem_set hz with hz | rfl
   ·exact ho z hz
   ·exact hF i (Nat.le_refl _) (by simp)
theorem qon{p:Int}{R W:Nat}{cells b y:Sim}(hp:Pr p)(hl:cells.length=R*W)(he:qaE cells p)(hbl:b.length=R)(hb:qaE b p)(h:qqs p R W cells b=some y):y.length=W∧qaE y p:=by
 have hA0:=qbo he hl
 have hA1:=qkD hA0 hb hbl
 have hA:EIn p R (W+1) (qbp (qlE cells b W R) (W+1)):=fun i j hi hj=>by
  unfold qlE;rw[qa0 hi hj];exact hA1 i j hi hj
 obtain⟨hF,h1,h2,h3⟩:=qc7 hp.1 hA (W+1)
 have hpp:=hp.1
 unfold qqs at h
 refine⟨by rw[qh6 h,List.length_replicate],qjo (fun k _ hk=>hF k W (by omega) (by omega)) (fun z hz=>?_) h⟩
 have:z=0:=(List.mem_replicate.1 hz).2
 subst this
 omega
end VeT
