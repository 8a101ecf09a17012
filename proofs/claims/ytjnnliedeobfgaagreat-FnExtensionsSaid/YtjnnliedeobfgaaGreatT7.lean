import Derived.Test.YtjnnliedeobfgaaGreatT6
import Derived.KernelRfl
set_option linter.unusedVariables false
set_option linter.unusedSimpArgs false
open Go Go.Proofs Ve
namespace VeT
theorem qaC.get{v:Sim}{p:Int}(h:qaC v p)(hp:2≤p∧p≤251)(i:Nat):0≤v.getD i 0∧v.getD i 0≤250:=by
 by_cases hi:i<v.length
 ·rw[qac hi]
  have:=h _ (zaj hi)
  omega
 ·rw[zaa,zaw (by omega)];simp
theorem qaC.mem{v:Sim}{p:Int}(h:qaC v p)(hp:2≤p∧p≤251):∀ x∈v,0≤x∧x≤250:=fun x hx=>by
 have:=h x hx;omega
def qj2(p:Int)(ca cb:Sim)(K C i j:Nat):Int:=qaG (fun l=>ca.getD (i*K+l) 0) (fun l=>cb.getD (l*C+j) 0) K%p
def qdM(a b:Mat):Mat:=(a.1,a.2.1,b.2.2.1,qar (qj2 a.1 a.2.2.2.1 b.2.2.2.1 a.2.2.1.toNat b.2.2.1.toNat) b.2.2.1.toNat a.2.1.toNat,())
def qfB(K C:Nat)(cb:Sim):List Sim:=(List.range C).map fun i=>(List.range K).map fun j=>cb.getD (j*C+i) 0
theorem qkX(q:Int)(K C:Nat)(cb:Sim)(hl:cb.length=K*C)(hK:K≤32)(hC:C≤32):Ret E n_Z82 [dI q,dI (K:Int),dI (C:Int),dL cb] ⟨o_Z82,(q,(C:Int),(K:Int),qar (fun i j=>cb.getD (j*C+i) 0) K C,())⟩:=by
 have h1:=qcP hK hC
 have h2:=qcP hC hK
 refine qai ?_
 simp only[run_Z82,Z82.ev]
 refine qaa (qdi q C K ((q,(K:Int),(C:Int),cb,()),()) (fun i j=>cb.getD (j*C+i) 0) (by omega) (by omega) (by omega) fun i j hi hj=>?_) qal
 exact qiz (q,(K:Int),(C:Int),cb,()) C i j rfl (by show _<cb.length;rw[hl];exact qeU hj hi) (by show cb.length≤_;omega)
theorem qkm(q:Int)(K C:Nat)(cb:Sim)(hl:cb.length=K*C)(hK:K≤32)(hC:C≤32):Ret E n_Z31 [dI q,dI (K:Int),dI (C:Int),dL cb] ⟨o_Z31,(qfB K C cb,())⟩:=by
 refine qai ?_
 simp only[run_Z31,Z31.ev]
 refine qaa (qkX q K C cb hl hK hC) (qaa (qnO q C K _ qas hC hK) (qah ?_))
 have:((List.range C).map fun i=>((qar (fun i j=>cb.getD (j*C+i) 0) K C).take ((i+1)*K)).drop (i*K))=qfB K C cb :=
  zbu fun i hi=>qlS (zaG.1 hi)
 rw[this]
theorem qoH{K C:Nat}{cb:Sim}{q:Int}(hb:qaC cb q)(hq:2≤q∧q≤251){j:Nat}(hj:j<(qfB K C cb).length):∀ x∈(qfB K C cb)[j],0≤x∧x≤250:=by
 intro x hx
 have hm:=zaj hj
 generalize (qfB K C cb)[j]=y at hm hx
 unfold qfB at hm
 rw[zaO] at hm
 obtain⟨i,_,rfl⟩:=hm
 rw[zaO] at hx
 obtain⟨l,_,rfl⟩:=hx
 exact hb.get hq _
theorem qkR(p:Int)(R K C:Nat)(ca cb:Sim)(i j:Nat)(hi:i<R)(hj:j<C)(hp:2≤p∧p≤251)(hla:ca.length=R*K)(hR:R≤32)(hK:K≤32)(ea:qaC ca p){q:Int}(hq:2≤q∧q≤251)(eb:qaC cb q) :
  Ret E n_Z72 [dI (i:Int),dI (j:Int),dM (p,(R:Int),(K:Int),ca,()),⟨.ptr (.cons (.sl (.sl (.int .i64))) .nil),(qfB K C cb,())⟩] ⟨o_Z72,(qj2 p ca cb K C i j,())⟩:=by
 have h1:=qcP hR hK
 have hle:(i+1)*K≤R*K:=zaq _ hi
 have hjl:j<(qfB K C cb).length:=by simp[qfB,hj]
 have hcl:((qfB K C cb)[j]).length=K:=by simp[qfB]
 have hrl:((ca.take ((i+1)*K)).drop (i*K)).length=K:=by
  rw[zbn,zax,Nat.min_eq_left (by omega),zar];omega
 refine qai ?_
 simp only[run_Z72,Z72.ev]
 refine qab (qak hjl) (qaa (qeg p _ K ca i (by omega) (by omega) (by omega)) (qaa (qpH ((ca.take ((i+1)*K)).drop (i*K)) ((qfB K C cb)[j]) p hp (by omega) (by omega) (fun x hx=>ea.mem hp x (zbx (zbJ hx))) (qoH eb hq hjl)) (qah ?_)))
 rw[hrl]
 have:qaG (fun l=>((ca.take ((i+1)*K)).drop (i*K)).getD l 0) (fun l=>((qfB K C cb)[j]).getD l 0) K=qaG (fun l=>ca.getD (i*K+l) 0) (fun l=>cb.getD (l*C+j) 0) K:=qaw fun l hl=>⟨by
  rw[zaa,zaa,zaY,zaZ (by rw[zar];omega)],by
  simp[qfB,zaa,hl]⟩
 rw[this];rfl
theorem VM.nat{m:Mat}(h:VM m):∃ R K:Nat,m=(m.1,(R:Int),(K:Int),m.2.2.2.1,())∧R≤32∧K≤32∧m.2.2.2.1.length=R*K:=by
 obtain⟨p,r,k,c,⟨⟩⟩:=m
 obtain⟨_,h2,h3,h4,_⟩:=h
 simp only at h2 h3 h4
 obtain⟨R,rfl⟩:=zaL h2.1
 obtain⟨K,rfl⟩:=zaL h3.1
 refine⟨R,K,rfl,by omega,by omega,?_⟩
 rw[qa3] at h4;simp only;omega
theorem qiZ(a b:Mat)(ha:VM a)(hb:VM b)(hab:a.2.2.1=b.2.1):Ret E n_Z71 [dI a.1,dI a.2.1,dI a.2.2.1,dL a.2.2.2.1,dI b.1,dI b.2.1,dI b.2.2.1,dL b.2.2.2.1] ⟨o_Z71,qdM a b⟩:=by
  obtain⟨R,K,ea,hR,hK,hla⟩:=ha.nat
  obtain⟨K',C,eb,hK',hC,hlb⟩:=hb.nat
  have pa:2≤a.1∧a.1≤251:=⟨ha.1.1,ha.1.2.1⟩
  have pb':2≤b.1∧b.1≤251:=⟨hb.1.1,hb.1.2.1⟩
  have ela:=ha.2.2.2.2
  have elb:=hb.2.2.2.2
  rw[ea,eb] at hab
  obtain rfl : K = K' := by have hab : (K : Int) = (K' : Int) := hab
                            omega
  rw[ea,eb]
  simp only
  refine qai ?_
  simp only[run_Z71,Z71.ev]
  have hRC:=qcP hR hC
  refine qaa (qkm _ K C _ hlb hK hC) (qaa (qdJ a.1 R C ((a.1,(R:Int),(K:Int),a.2.2.2.1,()),(qfB K C b.2.2.2.1,()),()) (qj2 a.1 a.2.2.2.1 b.2.2.2.1 K C) (by omega) (by omega) (by omega) fun i j hi hj=>?_) (qah ?_))
  · exact qkR a.1 R K C _ _ i j hi hj pa hla hR hK ela pb' elb
  · simp only[qdM,zai]
theorem qcC(p:Int)(R C:Nat)(hR:R≤32)(hC:C≤32):Ret E n_Z155 [dI p,dI (R:Int),dI (C:Int)] ⟨o_Z155,(p,(R:Int),(C:Int),List.replicate (R*C) 0,())⟩:=by
 have h1:=qcP hR hC
 have e1:w64 ((R:Int)*(C:Int))=((R*C:Nat):Int):=by rw[qa3];exact qag (by omega) (by omega)
 refine qai ?_
 simp only[run_Z155,Z155.ev,e1,zai]
 exact qao (by simp only[zah,decide_eq_true_eq];omega) qal
theorem qeR(a b:Mat)(ha:VM a)(hb:VM b)(hab:a.2.2.1=b.2.1):Ret E n_Z153 [dM a,dM b] ⟨o_Z153,qdM a b⟩:=by
  obtain⟨R,K,ea,hR,hK,hla⟩:=ha.nat
  obtain⟨K',C,eb,hK',hC,hlb⟩:=hb.nat
  have pa:2≤a.1∧a.1≤251:=⟨ha.1.1,ha.1.2.1⟩
  have pb':2≤b.1∧b.1≤251:=⟨hb.1.1,hb.1.2.1⟩
  have ela:=ha.2.2.2.2
  have elb:=hb.2.2.2.2
  rw[ea,eb] at hab
  obtain rfl : K = K' := by have hab : (K : Int) = (K' : Int) := hab
                            omega
  obtain⟨p,r,k,ca,⟨⟩⟩:=a
  obtain⟨q,k',c,cb,⟨⟩⟩:=b
  simp only[Prod.mk.injEq,true_and,and_true] at ea eb pa pb' ela elb hla hlb
  obtain⟨rfl,rfl⟩:=ea
  obtain⟨rfl,rfl⟩:=eb
  have hRC:=qcP hR hC
  have hRK:=qcP hR hK
  have hKC:=qcP hK hC
  have hM:qdM (p,(R:Int),(K:Int),ca,()) (q,(K:Int),(C:Int),cb,())=(p,(R:Int),(C:Int),qar (qj2 p ca cb K C) C R,()):=by simp[qdM]
  rw[hM]
  refine qai ?_
  simp only[run_Z153,Z153.ev,Z153.j0_eq _ qae]
  suffices h:Ev fun φ=>Z153.l1 (mkR (run E (φ 0))) (φ 0) (φ 0) (p,(R:Int),(K:Int),ca,()) (q,(K:Int),(C:Int),cb,()) 0 0 0 0 p (R:Int) (C:Int) (List.replicate (R*C) 0)=some ⟨o_Z153,(p,(R:Int),(C:Int),qar (qj2 p ca cb K C) C R,())⟩ by
    exact qb8 (qaa (qcC p R C hR hC) h) (qaa (qcC p R C hR hC) h)
  refine Ev.start (p:=fun φ n=>Z153.l1 (mkR (run E (φ 0))) (φ 0) n (p,(R:Int),(K:Int),ca,()) (q,(K:Int),(C:Int),cb,()) 0 0 0 0 p (R:Int) (C:Int) (List.replicate (R*C) 0)=_) 1 ?_ (fun _ _ _ h=>h)
  have:=qam 1 (L:=fun φ n i o=>Z153.l1 (mkR (run E (φ 0))) (φ 0) n (p,(R:Int),(K:Int),ca,()) (q,(K:Int),(C:Int),cb,()) i 0 0 0 p (R:Int) (C:Int) o) (len:=R) (fun i=>qar (qj2 p ca cb K C) C i++List.replicate ((R-i)*C) 0) (r:=some ⟨o_Z153,(p,(R:Int),(C:Int),qar (qj2 p ca cb K C) C R,())⟩) (fun _ _ _ _ _=>rfl) (fun i r hi ih=>?_) ?_
  · simpa [qar] using this
  · simp only[Z153.l1_succ _ qae]
    refine qax (zac (by omega)) ?_
    refine Ev.start (p:=fun φ n=>Z153.l2 (mkR (run E (φ 0))) (φ 0) (φ 1) n (p,(R:Int),(K:Int),ca,()) (q,(K:Int),(C:Int),cb,()) (i:Int) 0 0 0 0 p (R:Int) (C:Int) (qar (qj2 p ca cb K C) C i++List.replicate ((R-i)*C) 0)=_) 2 ?_ (fun _ _ _ h=>h)
    have hRi:(R-i)*C=(R-(i+1))*C+C:=by
      rw[show R-i=(R-(i+1))+1 by omega,zar];omega
    have hiC:(i+1)*C≤R*C:=zaq _ hi
    have hiK:(i+1)*K≤R*K:=zaq _ hi
    rw[zar] at hiC hiK
    have:=qam 2 (L:=fun φ n j o=>Z153.l2 (mkR (run E (φ 0))) (φ 0) (φ 1) n (p,(R:Int),(K:Int),ca,()) (q,(K:Int),(C:Int),cb,()) (i:Int) j 0 0 0 p (R:Int) (C:Int) o) (len:=C) (fun j=>(qar (qj2 p ca cb K C) C i++(List.range j).map (qj2 p ca cb K C i))++List.replicate ((R-i)*C-j) 0) (r:=r) (fun _ _ _ _ _=>rfl) (fun j r hj ih=>?_) ?_
    · simpa using this
    · simp only[Z153.l2_succ _ qae]
      refine qax (zac (by omega)) ?_
      have hpl:(qar (qj2 p ca cb K C) C i++(List.range j).map (qj2 p ca cb K C i)).length=i*C+j:=by simp[qas]
      have hsp:(R-i)*C-j=((R-i)*C-(j+1))+1:=by omega
      generalize hO:(qar (qj2 p ca cb K C) C i++(List.range j).map (qj2 p ca cb K C i))++List.replicate ((R-i)*C-j) 0=O
      have hOl:O.length=R*C:=by
        rw[← hO,zal,hpl,zas,hRi]
        have:R*C=(R-(i+1))*C+(i*C+C):=by
          have e:R=(R-(i+1))+(i+1):=by omega
          have:=congrArg (·*C) e
          simp only[zar,Nat.one_mul] at this ⊢;omega
        omega
      refine Ev.start (p:=fun φ n=>Z153.l3 (mkR (run E (φ 0))) (φ 0) (φ 1) (φ 2) n (p,(R:Int),(K:Int),ca,()) (q,(K:Int),(C:Int),cb,()) (i:Int) (j:Int) 0 0 0 0 0 p (R:Int) (C:Int) O=_) 3 ?_ (fun _ _ _ h=>h)
      refine qam 3 (L:=fun φ n l s=>Z153.l3 (mkR (run E (φ 0))) (φ 0) (φ 1) (φ 2) n (p,(R:Int),(K:Int),ca,()) (q,(K:Int),(C:Int),cb,()) (i:Int) (j:Int) s l 0 0 0 p (R:Int) (C:Int) O) (len:=K) (fun l=>qaG (fun l=>ca.getD (i*K+l) 0) (fun l=>cb.getD (l*C+j) 0) l) (fun _ _ _ _ _=>rfl) (fun l r hl ih=>?_) ?_
      · simp only[Z153.l3_succ _ qae]
        have b1:=qio (f:=fun l=>ca.getD (i*K+l) 0) (g:=fun l=>cb.getD (l*C+j) 0) (n:=l) fun l _=>⟨ela.get pa _,elb.get pb' _⟩
        have b2:=qet (ela.get pa (i*K+l)) (elb.get pb' (l*C+j))
        have hlC:(l+1)*C≤K*C:=zaq _ hl
        rw[zar] at hlC
        have e1:w64 (w64 ((i:Int)*(K:Int))+(l:Int))=((i*K+l:Nat):Int):=by
          rw[qa3,qag (n:=((i*K:Nat):Int)) (by omega) (by omega),qag (by omega) (by omega)];omega
        have e2:w64 (w64 ((l:Int)*(C:Int))+(j:Int))=((l*C+j:Nat):Int):=by
          rw[qa3,qag (n:=((l*C:Nat):Int)) (by omega) (by omega),qag (by omega) (by omega)];omega
        simp only[e1,e2]
        have i1:i*K+l<ca.length:=by omega
        have i2:l*C+j<cb.length:=by omega
        refine qax (zac (by omega)) (qab (qak i1) (qab (qak i2) ?_))
        simp only[qaG] at ih
        rw[qac i1,qac i2] at ih b2
        rw[qag (n:=ca[i*K+l]*cb[l*C+j]) (by omega) (by omega),qag (by omega) (by omega),qad (by omega)]
        exact ih
      · simp only[Z153.l3_succ _ qae]
        have b1:=qio (f:=fun l=>ca.getD (i*K+l) 0) (g:=fun l=>cb.getD (l*C+j) 0) (n:=K) fun l _=>⟨ela.get pa _,elb.get pb' _⟩
        have e1:w64 (w64 ((i:Int)*(C:Int))+(j:Int))=((i*C+j:Nat):Int):=by
          rw[qa3,qag (n:=((i*C:Nat):Int)) (by omega) (by omega),qag (by omega) (by omega)];omega
        simp only[e1,zai]
        refine qaB (zae (by omega)) (qao (by simp;omega) (qao (by simp only[zah,decide_eq_true_eq];omega) ?_))
        rw[zaH (by omega),qad (by omega),← hO,hsp,← hpl,qrM]
        rw[zaA,zat,← zaF] at ih
        exact ih
    · simp only[Z153.l2_succ _ qae]
      refine qaB (zae (by omega)) ?_
      rw[qad (by omega),hRi,Nat.add_sub_cancel]
      exact ih
  · simp only[Z153.l1_succ _ qae]
    refine qaB (zae (by omega)) (qah ?_)
    simp
end VeT
open Go Go.Proofs Ve
namespace VeT
theorem qgF(a b:Sim)(ha:a.length≤1048576):Ret E n_Z107 [dL a,dL b] ⟨o_Z107,(pb (a=b),())⟩:=by
 refine qai ?_
 simp only[run_Z107,Z107.ev]
 refine qbS (fun h=>qah ?_) fun h=>?_
 ·have h:(a.length:Int)≠b.length:=by simpa using h
  rw[qaq fun e=>h (by rw[e])]
 ·have h:(a.length:Int)=b.length:=by simpa using h
  refine Ev.start (p:=fun φ n=>Z107.l0 (mkR (run E (φ 0))) (φ 0) n a b (a.length:Int) 0=_) 1 ?_ (fun _ _ _ h=>h)
  refine(qdk 1 (L:=fun φ n k=>Z107.l0 (mkR (run E (φ 0))) (φ 0) n a b (a.length:Int) k) (len:=a.length) 0 (by omega) (fun j=>a.getD j 0=b.getD j 0) (fun b=>some ⟨o_Z107,(b,())⟩) (fun _ _ _ _=>rfl) (fun k h1 h2 hP _=>?_) (fun k r h1 h2 hP _ ih=>?_) (fun _=>?_)).to ?_
  ·simp only[Z107.l0_succ _ qae]
   have hb:k<b.length:=by omega
   rw[qac h2,qac hb] at hP
   exact qax (zac (by omega)) (qab (qak h2) (qab (qak hb) (qax (by simpa using hP) qal)))
  ·simp only[Z107.l0_succ _ qae]
   have hb:k<b.length:=by omega
   rw[qac h2,qac hb] at hP
   refine qax (zac (by omega)) (qab (qak h2) (qab (qak hb) (qaB (by simpa using hP) ?_)))
   rw[qad (by omega)];exact ih
  ·simp only[Z107.l0_succ _ qae]
   exact qaB (zae (by omega)) qal
  ·refine congrArg (fun b:Bool=>some (⟨o_Z107,(b,())⟩:Dv)) (qaN ⟨fun hh=>zbB (by omega) fun j h1 h2=>?_,fun hh j _ _=>by rw[hh]⟩)
   have:=hh j (by omega) h1
   rwa [qac h1,qac h2] at this
theorem qev{a b:Mat}:a=b↔a.1=b.1∧a.2.1=b.2.1∧a.2.2.1=b.2.2.1∧a.2.2.2.1=b.2.2.2.1:=by
 obtain⟨p,r,k,c,⟨⟩⟩:=a
 obtain⟨p',r',k',c',⟨⟩⟩:=b
 simp only[Prod.mk.injEq,and_true]
theorem qh9(a b:Mat)(ha:a.2.2.2.1.length≤1048576):Ret E n_Z13 [dI a.1,dI a.2.1,dI a.2.2.1,dL a.2.2.2.1,dI b.1,dI b.2.1,dI b.2.2.1,dL b.2.2.2.1] ⟨o_Z13,(pb (a=b),())⟩:=by
 refine qai ?_
 simp only[run_Z13,Z13.ev]
 refine qbS (fun h1=>qbS (fun h2=>qbS (fun h3=>qaa (qgF _ _ ha) (qah ?_)) fun h3=>qah ?_) fun h2=>qah ?_) fun h1=>qah ?_
 ·exact congrArg (fun b:Bool=>some (⟨o_Z13,(b,())⟩:Dv)) (qaN ⟨fun h=>qev.2 ⟨by simpa using h1,by simpa using h2,by simpa using h3,h⟩,fun h=>(qev.1 h).2.2.2⟩)
 ·rw[qaq fun h=>by have:=(qev.1 h).2.2.1;simp[this] at h3]
 ·rw[qaq fun h=>by have:=(qev.1 h).2.1;simp[this] at h2]
 ·rw[qaq fun h=>by have:=(qev.1 h).1;simp[this] at h1]
theorem qlO(a b:Mat)(ha:a.2.2.2.1.length≤1048576):Ret E n_Z152 [dM a,dM b] ⟨o_Z152,(pb (a=b),())⟩:=by
 refine qai ?_
 simp only[run_Z152,Z152.ev]
 have no:a≠b→Ev fun φ=>Z152.j0 (mkR (run E (φ 0))) (φ 0) a b true=some ⟨o_Z152,(pb (a=b),())⟩:=fun h=>by
  simp only[Z152.j0_eq _ qae,cond_true]
  rw[qaq h];(first | exact qal | exact Ev.of fun _=>trivial)
 refine qbS (fun h1=>no fun h=>by simp[(qev.1 h).1] at h1) fun h1=>qbS (fun h2=>no fun h=>by simp[(qev.1 h).2.1] at h2) fun h2=>qbS (fun h3=>no fun h=>by simp[(qev.1 h).2.2.1] at h3) fun h3=>?_
 have h1:a.1=b.1:=by simpa using h1
 have h2:a.2.1=b.2.1:=by simpa using h2
 have h3:a.2.2.1=b.2.2.1:=by simpa using h3
 by_cases hl:a.2.2.2.1.length=b.2.2.2.1.length
 ·simp only[show((a.2.2.2.1.length:Int) != (b.2.2.2.1.length:Int))=false by simp[hl],Z152.j0_eq _ qae,cond_false]
  refine Ev.start (p:=fun φ n=>Z152.l1 (mkR (run E (φ 0))) (φ 0) n a b 0=_) 1 ?_ (fun _ _ _ h=>h)
  refine(qdk 1 (L:=fun φ n k=>Z152.l1 (mkR (run E (φ 0))) (φ 0) n a b k) (len:=a.2.2.2.1.length) 0 (by omega) (fun j=>a.2.2.2.1.getD j 0=b.2.2.2.1.getD j 0) (fun b=>some ⟨o_Z152,(b,())⟩) (fun _ _ _ _=>rfl) (fun k k1 k2 hP _=>?_) (fun k r k1 k2 hP _ ih=>?_) (fun _=>?_)).to ?_
  ·simp only[Z152.l1_succ _ qae]
   have hb:k<b.2.2.2.1.length:=by omega
   rw[qac k2,qac hb] at hP
   exact qax (zac (by omega)) (qab (qak k2) (qab (qak hb) (qax (by simpa using hP) qal)))
  ·simp only[Z152.l1_succ _ qae]
   have hb:k<b.2.2.2.1.length:=by omega
   rw[qac k2,qac hb] at hP
   refine qax (zac (by omega)) (qab (qak k2) (qab (qak hb) (qaB (by simpa using hP) ?_)))
   rw[qad (by omega)];exact ih
  ·simp only[Z152.l1_succ _ qae]
   exact qaB (zae (by omega)) qal
  ·refine congrArg (fun b:Bool=>some (⟨o_Z152,(b,())⟩:Dv)) (qaN ⟨fun hh=>qev.2 ⟨h1,h2,h3,zbB hl fun j g1 g2=>?_⟩,fun hh j _ _=>by rw[hh]⟩)
   have:=hh j (by omega) g1
   rwa [qac g1,qac g2] at this
 ·simp only[show((a.2.2.2.1.length:Int) != (b.2.2.2.1.length:Int))=true by simp;omega]
  exact no fun h=>hl (by rw[(qev.1 h).2.2.2])
noncomputable def mp(c:List Sim)(ms:List Mat)(k i:Nat):Mat:=ms.getD (plc c k+i) mz
noncomputable def fc(c:List Sim)(k i:Nat):Nat:=((qaI c k).getD i 0).toNat
theorem qlt{c:List Sim}{s:Sim}(h:s∈c):c.getD (qdL c s).toNat []=s:=by
 have h0:=qbb.2 h
 unfold qdL qjz at h0 ⊢
 cases hf:c.findIdx? (fun x=>pb (x=s)) with
 | none=>rw[hf] at h0;simp[o2i] at h0
 | some k =>
  rw[zbz] at hf
  obtain⟨hk,hp,_⟩:=hf
  simp only[o2i,zai]
  rw[qac hk];exact qaD.1 hp
theorem qa1{c:List Sim}(h:VC c){k i:Nat}(hk:k<c.length)(hi:i<(qaI c k).length):idx? (qaI c k) (i:Int)=some ((fc c k i:Nat):Int)∧fc c k i<c.length∧c.getD (fc c k i) []=(c.getD k []).eraseIdx i:=by
 have hm:=qkK h hk (zaj hi)
 have hl:=qaE (c:=c) (k:=k)
 have h1:1<(c.getD k []).length:=Classical.byContradiction fun hn=>by rw[if_neg hn] at hl;omega
 rw[if_pos h1] at hl
 have hfc:(qaI c k)[i]=qdL c ((c.getD k []).eraseIdx i):=by
  have:(qaI c k)[i]? = some (qdL c ((c.getD k []).eraseIdx i)):=by
   unfold qaI qcv
   rw[if_pos h1,List.map_map,zaD,zbg (by omega)];rfl
  rw[zag hi] at this
  exact zad this
 have hin:(c.getD k []).eraseIdx i∈c:=h.2.2.2 k hk _ (qcN.2 ⟨h1,i,by omega,rfl⟩)
 unfold fc
 rw[qac hi]
 refine⟨?_,by omega,?_⟩
 ·rw[qak hi];congr 1;omega
 ·rw[hfc];exact qlt hin
theorem VS.map{c:List Sim}{p:Int}{st:Sim}{ms:List Mat}(h:VS c p st ms){k i:Nat}(hk:k<c.length)(hi:i<(qaI c k).length):plc c k+i<ms.length∧Bt (mp c ms k i) p (st.getD (fc c k i) 0) (st.getD k 0):=by
 have hg:=qcL hk hi
 have hlt:=(zak.1 hg).1
 exact⟨by rw[← h.2.2.2.1];exact hlt,h.2.2.2.2 k hk i hi⟩
theorem qlq(c:List Sim)(p:Int)(st:Sim)(ms:List Mat)(k:Nat)(hk:k≤c.length)(hv:VC c):Ret E n_Z50 [dLL c,dI p,dL st,dMs ms,dI (k:Int)] ⟨o_Z50,(((plc c k:Nat):Int),())⟩:=by
 have h48:=hv.1
 have htl:(c.take k).length=k:=by rw[zax];omega
 refine qai ?_
 simp only[run_Z50,Z50.ev,zai,htl]
 refine qao (by simp;omega) ?_
 refine Ev.start (p:=fun φ n=>Z50.l0 (mkR (run E (φ 0))) (φ 0) n 0 (c.take k) (k:Int) 0=_) 1 ?_ (fun _ _ _ h=>h)
 have:=qam 1 (L:=fun φ n j a=>Z50.l0 (mkR (run E (φ 0))) (φ 0) n a (c.take k) (k:Int) j) (len:=k) (fun j=>((plc c j:Nat):Int)) (r:=some ⟨o_Z50,(((plc c k:Nat):Int),())⟩) (fun _ _ _ _ _=>rfl) (fun j r hj ih=>?_) ?_
 ·exact this
 ·simp only[Z50.l0_succ _ qae]
  have hjc:j<c.length:=by omega
  have hpl:=hv.plc (k:=j) (by omega)
  have h4:=hv.len4 hjc
  have e:=qfg (c:=c) (k:=j)
  rw[qaE] at e
  rw[qac hjc] at e h4
  have hjt:j<(c.take k).length:=by omega
  have hgt:(c.take k)[j]=c[j]:=zcb
  refine qax (zac (by omega)) (qab (qak hjt) ?_)
  rw[hgt]
  refine qew (fun hl=>qaa (qdm _) ?_) fun hl=>?_
  ·rw[if_pos (by omega)] at e
   rw[qad (by omega),qag (by omega) (by omega)]
   rw[e] at ih
   simpa using ih
  ·rw[if_neg (by omega)] at e
   rw[qad (by omega)]
   rw[e] at ih;exact ih
 ·simp only[Z50.l0_succ _ qae]
  exact qaB (zae (by omega)) qal
theorem qc3(c:List Sim)(p:Int)(st:Sim)(ms:List Mat)(k i:Nat)(hk:k<c.length)(hi:i<(qaI c k).length)(h:VS c p st ms):Ret E n_Z37 [dLL c,dI p,dL st,dMs ms,dI (k:Int),dI (i:Int)] ⟨o_Z37,mp c ms k i⟩:=by
 have h48:=h.1.1
 have hpl:=h.1.plc (k:=k) (by omega)
 have h4:=h.1.fIdx4 hk
 obtain⟨ht,_⟩:=h.map hk hi
 refine qai ?_
 simp only[run_Z37,Z37.ev]
 refine qaa (qlq c p st ms k (by omega) h.1) ?_
 simp only
 rw[qag (by omega) (by omega),show((plc c k:Nat):Int)+(i:Int)=((plc c k+i:Nat):Int) by omega]
 refine qab (qak ht) (qah ?_)
 rw[mp,qac ht]
theorem qdY(x:Shf)(k i:Nat)(hk:k<x.1.length)(hi:i<(qaI x.1 k).length)(h:VS x.1 x.2.1 x.2.2.1 x.2.2.2.1):Ret E n_Z175 [dS x,dI (k:Int),dI (i:Int)] ⟨o_Z175,(mp x.1 x.2.2.2.1 k i,())⟩:=by
 have h4:=h.1.fIdx4 hk
 obtain⟨ht,_⟩:=h.map hk hi
 refine qai ?_
 simp only[run_Z175,Z175.ev]
 refine qaa (qdy x.1 k i (by omega) (by omega) h.1) (qab (qak ht) (qah ?_))
 rw[mp,qac ht]
noncomputable def two(c:List Sim)(ms:List Mat)(k i j:Nat):Mat:=qdM (mp c ms k i) (mp c ms (fc c k i) j)
theorem qnt{a b:Mat}(ha:VM a)(hb:VM b):(qdM a b).2.2.2.1.length≤1048576:=by
 show(qar _ _ _).length≤_
 rw[qas]
 have h1:=ha.2.1
 have h2:=hb.2.2.1
 have:=qcP (R:=a.2.1.toNat) (C:=b.2.2.1.toNat) (by omega) (by omega)
 omega
structure Sq (c:List Sim) (p:Int) (st:Sim) (ms:List Mat) (k i j:Nat):Prop where
 kl:k<c.length
 n3:3≤(c.getD k []).length
 il:i<(c.getD k []).length
 jl:j+1<(c.getD k []).length
 v:VS c p st ms
theorem Sq.hi{c p st ms k i j}(h:Sq c p st ms k i j):i<(qaI c k).length:=by
 have:=h.n3;have:=h.il
 rw[qaE,if_pos (by omega)];exact this
theorem Sq.fk{c p st ms k i j}(h:Sq c p st ms k i j):fc c k i<c.length:=(qa1 h.v.1 h.kl h.hi).2.1
theorem Sq.hj{c p st ms k i j}(h:Sq c p st ms k i j):j<(qaI c (fc c k i)).length:=by
 have h1:=h.n3;have h2:=h.il;have h3:=h.jl
 have e:=(qa1 h.v.1 h.kl h.hi).2.2
 rw[qaE,e,zbs,if_pos h2,if_pos (by omega)];omega
theorem Sq.b1{c p st ms k i j}(h:Sq c p st ms k i j):VM (mp c ms k i):=((h.v.map h.kl h.hi).2).1
theorem Sq.b2{c p st ms k i j}(h:Sq c p st ms k i j):VM (mp c ms (fc c k i) j):=((h.v.map h.fk h.hj).2).1
theorem Sq.sh{c p st ms k i j}(h:Sq c p st ms k i j):(mp c ms k i).2.2.1=(mp c ms (fc c k i) j).2.1:=by
 rw[((h.v.map h.kl h.hi).2).2.2.2,((h.v.map h.fk h.hj).2).2.2.1]
theorem Sq.impl{c p st ms k i j}(h:Sq c p st ms k i j):Ret E n_Z71 [dI (mp c ms k i).1,dI (mp c ms k i).2.1,dI (mp c ms k i).2.2.1,dL (mp c ms k i).2.2.2.1,dI (mp c ms (fc c k i) j).1,dI (mp c ms (fc c k i) j).2.1,dI (mp c ms (fc c k i) j).2.2.1,dL (mp c ms (fc c k i) j).2.2.2.1] ⟨o_Z71,two c ms k i j⟩ :=
 qiZ _ _ h.b1 h.b2 h.sh
theorem qjR(x:Shf)(k i j:Nat)(hij:i≠j)(h:Sq x.1 x.2.1 x.2.2.1 x.2.2.2.1 k i (if i<j then j-1 else j))(hc:Sm (.sl (.sl (.int .i64))) x.1)(hj:j≤1048576):Ret E n_Z185 [dS x,dI (k:Int),dI (i:Int),dI (j:Int)] ⟨o_Z185,two x.1 x.2.2.2.1 k i (if i<j then j-1 else j)⟩:=by
 obtain⟨hidx,hF,_⟩:=qa1 h.v.1 h.kl h.hi
 refine qai ?_
 simp only[run_Z185,Z185.ev]
 refine qaa (qcj x.1 k h.kl hc) (qab hidx ?_)
 have tail:Ev fun φ=>Z185.j0 (mkR (run E (φ 0))) (φ 0) x (k:Int) (i:Int) (((if i<j then j-1 else j:Nat)):Int) ((fc x.1 k i:Nat):Int) 0 0 0=some ⟨o_Z185,two x.1 x.2.2.2.1 k i (if i<j then j-1 else j)⟩:=by
  simp only[Z185.j0_eq _ qae]
  refine qaa (qdY x k i h.kl h.hi h.v) (qaa (qdY x _ _ h.fk h.hj h.v) (qaa (qeR _ _ h.b1 h.b2 h.sh) qal))
 refine qew (fun hgt=>?_) fun hgt=>?_
 ·rw[qag (by omega) (by omega),show(j:Int)-1=((j-1:Nat):Int) by omega]
  rw[if_pos (by omega)] at tail ⊢;exact tail
 ·rw[if_neg (by omega)] at tail ⊢;exact tail
end VeT
open Go Go.Proofs Ve
namespace VeT
def Bq(c:List Sim)(ms:List Mat)(k i j:Nat):Prop:=two c ms k i (j-1)≠two c ms k j i
def Pi(c:List Sim)(ms:List Mat)(k i:Nat):Prop:=∃ j,i+1≤j∧j<i+1+((c.getD k []).length-(i+1))∧Bq c ms k i j
def Pk(c:List Sim)(ms:List Mat)(k:Nat):Prop:=3≤(c.getD k []).length∧∃ i,0≤i∧i<0+(c.getD k []).length∧Pi c ms k i
noncomputable def rI(c:List Sim)(ms:List Mat)(out:Nat→Nat→Nat→Option Dv)(k i:Nat)(rn:Option Dv):Option Dv:=orN (out k i) rn (qaP (Bq c ms k i) (i+1) ((c.getD k []).length-(i+1)))
noncomputable def rK(c:List Sim)(ms:List Mat)(out:Nat→Nat→Nat→Option Dv)(k:Nat)(rn:Option Dv):Option Dv:=orN (fun i=>rI c ms out k i none) rn (qaP (Pi c ms k) 0 (c.getD k []).length)
noncomputable def qj1(c:List Sim)(ms:List Mat)(out:Nat→Nat→Nat→Option Dv)(rn:Option Dv):Option Dv:=orN (fun k=>rK c ms out k none) rn (qaP (Pk c ms) 0 c.length)
theorem qsZ{c ms out k i}{rn rn':Option Dv}(h:Pi c ms k i):rI c ms out k i rn=rI c ms out k i rn':=by
 obtain⟨j,hj⟩:=qb3 h
 unfold rI;rw[hj];rfl
theorem qsh{c ms out k i}{rn:Option Dv}(h:¬ Pi c ms k i):rI c ms out k i rn=rn:=by
 unfold rI
 cases hf:qaP (Bq c ms k i) (i+1) ((c.getD k []).length-(i+1)) with
 | none=>rfl
 | some j=>exact absurd ⟨j,qaz hf⟩ h
theorem qs1{c ms out k}{rn rn':Option Dv}(h:Pk c ms k):rK c ms out k rn=rK c ms out k rn':=by
 obtain⟨j,hj⟩:=qb3 h.2
 unfold rK;rw[hj];rfl
theorem qsw{c ms out k}{rn:Option Dv}(h:¬ Pk c ms k)(h3:3≤(c.getD k []).length):rK c ms out k rn=rn:=by
 unfold rK
 cases hf:qaP (Pi c ms k) 0 (c.getD k []).length with
 | none=>rfl
 | some j=>exact absurd ⟨h3,j,qaz hf⟩ h
noncomputable def qcf(c:List Sim)(ms:List Mat):Option (Nat×Nat×Nat) :=
 (qaP (Pk c ms) 0 c.length).bind fun k=>(qaP (Pi c ms k) 0 (c.getD k []).length).bind fun i=>(qaP (Bq c ms k i) (i+1) ((c.getD k []).length-(i+1))).map fun j=>(k,i,j)
theorem qfG{c ms k i j}(h:qcf c ms=some (k,i,j)):k<c.length∧3≤(c.getD k []).length∧i<j∧j<(c.getD k []).length∧∀ out rn,qj1 c ms out rn=out k i j:=by
 unfold qcf at h
 obtain⟨k',hk,h⟩:=zab.1 h
 obtain⟨i',hi,h⟩:=zab.1 h
 obtain⟨j',hj,h⟩:=zan.1 h
 simp only[Prod.mk.injEq] at h
 obtain⟨rfl,rfl,rfl⟩:=h
 have a:=qaz hk
 have b:=qaz hi
 have d:=qaz hj
 refine⟨by omega,a.2.2.1,by omega,by omega,fun out rn=>?_⟩
 unfold qj1 rK rI
 rw[hk];simp only[orN];rw[hi];simp only[orN];rw[hj]
theorem qfO{c ms}(h:qcf c ms=none):∀ out rn,qj1 c ms out rn=rn:=by
 intro out rn
 unfold qj1
 cases hk:qaP (Pk c ms) 0 c.length with
 | none=>rfl
 | some k =>
  have a:=qaz hk
  obtain⟨i,hi⟩:=qb3 a.2.2.2
  obtain⟨j,hj⟩:=qb3 (qaz hi).2.2
  unfold qcf at h
  rw[hk] at h
  simp only[zbr] at h
  rw[hi] at h
  simp only[zbr] at h
  rw[hj] at h
  cases h
theorem qg0(c:List Sim)(k:Nat)(hk:k<c.length)(hc:Sm (.sl (.sl (.int .i64))) c)(hv:VC c):Ret E n_Z41 [dLL c,dI (k:Int)] ⟨o_Z41,(qaI c k,())⟩:=qcm c k hk hc hv.srt
noncomputable def qqm(c:List Sim)(k i j:Nat):Option Dv:=some ⟨o_Z88,((k:Int),(qaI c (fc c k i)).getD (j-1) 0,true,())⟩
theorem qhG(c:List Sim)(p:Int)(st:Sim)(ms:List Mat)(hc:Sm (.sl (.sl (.int .i64))) c)(h:VS c p st ms):Ev fun φ=>run E (φ 0+1) n_Z88 [dLL c,dI p,dL st,dMs ms]=qj1 c ms (qqm c) (some ⟨o_Z88,(0,0,false,())⟩):=by
  have hv:=h.1
  have h48:=hv.1
  simp only[run_Z88,Z88.ev]
  refine Ev.start (p:=fun φ n=>Z88.l0 (mkR (run E (φ 0))) (φ 0) n c (c.length:Int) 0 c p st ms=_) 1 ?_ (fun _ _ _ h=>h)
  have inner3:∀ k i (hk:k<c.length) (hn:3≤(c.getD k []).length) (hi:i<(c.getD k []).length) (rn:Option Dv),
      (¬ Pi c ms k i→Ev fun φ=>Z88.l1 (mkR (run E (φ 0))) (φ 0) (φ 1) (φ 2) (c.getD k []) (k:Int) (qaI c k) c (c.length:Int) (k:Int) ((c.getD k []).length:Int) ((i+1:Nat):Int) c p st ms=rn) →
      Ev fun φ=>Z88.l2 (mkR (run E (φ 0))) (φ 0) (φ 1) (φ 2) (φ 0) (c.getD k []) (k:Int) (qaI c k) (i:Int) ((i+1:Nat):Int) c (c.length:Int) (k:Int) ((c.getD k []).length:Int) (i:Int) c p st ms=rI c ms (qqm c) k i rn:=by
    intro k i hk hn hi rn hrn
    have h4:=hv.len4 hk
    refine Ev.start (p:=fun φ n=>Z88.l2 (mkR (run E (φ 0))) (φ 0) (φ 1) (φ 2) n (c.getD k []) (k:Int) (qaI c k) (i:Int) ((i+1:Nat):Int) c (c.length:Int) (k:Int) ((c.getD k []).length:Int) (i:Int) c p st ms=_) 3 ?_ (fun _ _ _ h=>h)
    -- one round
    have round:∀ j (hij:i+1≤j) (hj:j<(c.getD k []).length) (r:Option Dv),
        (Ev fun φ=>(bif (!pb (two c ms k i (j-1)=two c ms k j i)) then qqm c k i j else Z88.l2 (mkR (run E (φ 0))) (φ 0) (φ 1) (φ 2) (φ 3) (c.getD k []) (k:Int) (qaI c k) (i:Int) (w64 ((j:Int)+1)) c (c.length:Int) (k:Int) ((c.getD k []).length:Int) (i:Int) c p st ms)=r) →
        Ev fun φ=>Z88.l2 (mkR (run E (φ 0))) (φ 0) (φ 1) (φ 2) (φ 3+1) (c.getD k []) (k:Int) (qaI c k) (i:Int) (j:Int) c (c.length:Int) (k:Int) ((c.getD k []).length:Int) (i:Int) c p st ms=r:=by
      intro j hij hj r hr
      have s1:Sq c p st ms k i (j-1):=⟨hk,hn,hi,by omega,h⟩
      have s2:Sq c p st ms k j i:=⟨hk,hn,hj,by omega,h⟩
      obtain⟨ix1,F1,_⟩:=qa1 hv hk s1.hi
      obtain⟨ix2,F2,_⟩:=qa1 hv hk s2.hi
      have g1:=qc3 c p st ms k i hk s1.hi h
      have g2:=qc3 c p st ms (fc c k i) (j-1) F1 s1.hj h
      have g3:=qc3 c p st ms k j hk s2.hi h
      have g4:=qc3 c p st ms (fc c k j) i F2 s2.hj h
      have ej:w64 ((j:Int)-1)=((j-1:Nat):Int):=by rw[qag (by omega) (by omega)];omega
      have j4:Ev fun φ=>Z88.j4 (mkR (run E (φ 0))) (φ 0) (φ 1) (φ 2) (φ 3) (c.getD k []) (k:Int) (qaI c k) (i:Int) (j:Int) c (c.length:Int) (k:Int) ((c.getD k []).length:Int) (i:Int) c p st ms
          (two c ms k i (j-1)).1 (two c ms k i (j-1)).2.1 (two c ms k i (j-1)).2.2.1 (two c ms k i (j-1)).2.2.2.1 (two c ms k j i).1 (two c ms k j i).2.1 (two c ms k j i).2.2.1 (two c ms k j i).2.2.2.1=r:=by
        simp only[Z88.j4_eq _ qae,ej]
        refine qaa (qh9 (two c ms k i (j-1)) (two c ms k j i) (qnt s1.b1 s1.b2)) ?_
        by_cases he:two c ms k i (j-1)=two c ms k j i
        · rw[qaK he] at hr ⊢
          exact qaB rfl (by simpa using hr)
        · rw[qaq he] at hr ⊢
          refine qax rfl (qab ix1 (qaa (qg0 c (fc c k i) F1 hc hv) (qab (qak s1.hj) ?_)))
          have:qqm c k i j=r:=by
            obtain⟨n0,hr⟩:=hr
            exact hr (fun _=>n0) (fun _=>zaf _)
          rw[← this,qqm,qac s1.hj];exact qal
      have j3:Ev fun φ=>Z88.j3 (mkR (run E (φ 0))) (φ 0) (φ 1) (φ 2) (φ 3) (c.getD k []) (k:Int) (qaI c k) (i:Int) (j:Int) c (c.length:Int) (k:Int) ((c.getD k []).length:Int) (i:Int) c p st ms
          (two c ms k i (j-1)).1 (two c ms k i (j-1)).2.1 (two c ms k i (j-1)).2.2.1 (two c ms k i (j-1)).2.2.2.1=r:=by
        simp only[Z88.j3_eq _ qae]
        refine qab ix2 (qb8 (qaa g3 (qb8 (qaa g4 (qb8 (qaa s2.impl j4) (qaa s2.impl j4))) (qaa g4 (qaa s2.impl j4)))) (qaa g3 (qaa g4 (qaa s2.impl j4))))
      simp only[Z88.l2_succ _ qae,ej]
      refine qax (zac (by omega)) (qab ix1 (qb8 (qaa g1 (qb8 (qaa g2 (qb8 (qaa s1.impl j3) (qaa s1.impl j3))) (qaa g2 (qaa s1.impl j3)))) (qaa g1 (qaa g2 (qaa s1.impl j3)))))
    refine qce 3 (L:=fun φ n j=>Z88.l2 (mkR (run E (φ 0))) (φ 0) (φ 1) (φ 2) n (c.getD k []) (k:Int) (qaI c k) (i:Int) j c (c.length:Int) (k:Int) ((c.getD k []).length:Int) (i:Int) c p st ms) (len:=(c.getD k []).length) (Bq c ms k i) (qqm c k i) rn (fun _ _ _ _=>rfl) (i+1) (fun j h1 h2 hB=>?_) (fun j q h1 h2 hB ih=>?_) (fun hno=>?_) _ (by omega)
    · refine round j h1 h2 _ (qax ?_ qal)
      rw[qaq hB];rfl
    · refine round j h1 h2 _ (qaB ?_ ?_)
      · rw[qaK (zcn.1 hB)];rfl
      · rw[qad (by omega)];exact ih
    · simp only[Z88.l2_succ _ qae]
      refine qaB (zae (by omega)) ?_
      rw[qad (by omega)];exact hrn fun⟨j,h1,h2,h3⟩=>hno j h1 (by omega) h3
  have inner2:∀ k (hk:k<c.length) (hn:3≤(c.getD k []).length) (rn:Option Dv),
      (¬ Pk c ms k→Ev fun φ=>Z88.l0 (mkR (run E (φ 0))) (φ 0) (φ 1) c (c.length:Int) ((k+1:Nat):Int) c p st ms=rn) →
      Ev fun φ=>Z88.l1 (mkR (run E (φ 0))) (φ 0) (φ 1) (φ 0) (c.getD k []) (k:Int) (qaI c k) c (c.length:Int) (k:Int) ((c.getD k []).length:Int) 0 c p st ms=rK c ms (qqm c) k rn:=by
    intro k hk hn rn hrn
    have h4:=hv.len4 hk
    refine Ev.start (p:=fun φ n=>Z88.l1 (mkR (run E (φ 0))) (φ 0) (φ 1) n (c.getD k []) (k:Int) (qaI c k) c (c.length:Int) (k:Int) ((c.getD k []).length:Int) 0 c p st ms=_) 2 ?_ (fun _ _ _ h=>h)
    refine qce 2 (L:=fun φ n i=>Z88.l1 (mkR (run E (φ 0))) (φ 0) (φ 1) n (c.getD k []) (k:Int) (qaI c k) c (c.length:Int) (k:Int) ((c.getD k []).length:Int) i c p st ms) (len:=(c.getD k []).length) (Pi c ms k) (fun i=>rI c ms (qqm c) k i none) rn (fun _ _ _ _=>rfl) 0 (fun i h1 h2 hP=>?_) (fun i q h1 h2 hP ih=>?_) (fun hno=>?_) _ (by omega)
    · simp only[Z88.l1_succ _ qae]
      refine qax (zac (by omega)) ?_
      rw[qad (by omega)]
      exact inner3 k i hk hn h2 none fun hn=>absurd hP hn
    · simp only[Z88.l1_succ _ qae]
      refine qax (zac (by omega)) ?_
      rw[qad (by omega)]
      exact(inner3 k i hk hn h2 q fun _=>ih).to (qsh hP)
    · simp only[Z88.l1_succ _ qae]
      refine qaB (zae (by omega)) ?_
      rw[qad (by omega)];exact hrn fun⟨_,i,h1,h2,h3⟩=>hno i h1 (by omega) h3
  refine qce 1 (L:=fun φ n k=>Z88.l0 (mkR (run E (φ 0))) (φ 0) n c (c.length:Int) k c p st ms) (len:=c.length) (Pk c ms) (fun k=>rK c ms (qqm c) k none) _ (fun _ _ _ _=>rfl) 0 (fun k h1 h2 hP=>?_) (fun k q h1 h2 hP ih=>?_) (fun hno=>?_) _ (by omega)
  · simp only[Z88.l0_succ _ qae]
    refine qax (zac (by omega)) (qab (qak h2) ?_)
    have hn:=hP.1
    rw[← qac (d:=[]) h2]
    exact qaB (zae (by omega)) (qaa (qg0 c k h2 hc hv) (inner2 k h2 hn none fun hn=>absurd hP hn))
  · simp only[Z88.l0_succ _ qae]
    refine qax (zac (by omega)) (qab (qak h2) ?_)
    rw[← qac (d:=[]) h2]
    refine qew (fun hlt=>?_) fun hlt=>?_
    · rw[qad (by omega)];exact ih
    · exact qaa (qg0 c k h2 hc hv) ((inner2 k h2 (by omega) q fun _=>ih).to (qsw hP (by omega)))
  · simp only[Z88.l0_succ _ qae]
    exact qaB (zae (by omega)) qal
noncomputable def qrY(k i j:Nat):Option Dv:=some ⟨o_Z186,((k:Int),(i:Int),(j:Int),())⟩
theorem qke(x:Shf)(hc:Sm (.sl (.sl (.int .i64))) x.1)(h:VS x.1 x.2.1 x.2.2.1 x.2.2.2.1):Ev fun φ=>run E (φ 0+1) n_Z186 [dS x]=qj1 x.1 x.2.2.2.1 qrY (some ⟨o_Z186,(-1,0,0,())⟩):=by
  have hv:=h.1
  have h48:=hv.1
  simp only[run_Z186,Z186.ev]
  refine Ev.start (p:=fun φ n=>Z186.l0 (mkR (run E (φ 0))) (φ 0) n x 0=_) 1 ?_ (fun _ _ _ h=>h)
  have inner3:∀ k i (hk:k<x.1.length) (hn:3≤(x.1.getD k []).length) (hi:i<(x.1.getD k []).length) (rn:Option Dv),
      (¬ Pi x.1 x.2.2.2.1 k i→Ev fun φ=>Z186.l1 (mkR (run E (φ 0))) (φ 0) (φ 1) (φ 2) x (k:Int) ((x.1.getD k []).length:Int) ((i+1:Nat):Int)=rn) →
      Ev fun φ=>Z186.l3 (mkR (run E (φ 0))) (φ 0) (φ 1) (φ 2) (φ 0) x (k:Int) ((x.1.getD k []).length:Int) (i:Int) ((i+1:Nat):Int)=rI x.1 x.2.2.2.1 qrY k i rn:=by
    intro k i hk hn hi rn hrn
    have h4:=hv.len4 hk
    refine Ev.start (p:=fun φ n=>Z186.l3 (mkR (run E (φ 0))) (φ 0) (φ 1) (φ 2) n x (k:Int) ((x.1.getD k []).length:Int) (i:Int) ((i+1:Nat):Int)=_) 3 ?_ (fun _ _ _ h=>h)
    have round:∀ j (hij:i+1≤j) (hj:j<(x.1.getD k []).length) (r:Option Dv),
        (Ev fun φ=>(bif (!pb (two x.1 x.2.2.2.1 k i (j-1)=two x.1 x.2.2.2.1 k j i)) then qrY k i j else Z186.l3 (mkR (run E (φ 0))) (φ 0) (φ 1) (φ 2) (φ 3) x (k:Int) ((x.1.getD k []).length:Int) (i:Int) (w64 ((j:Int)+1)))=r) →
        Ev fun φ=>Z186.l3 (mkR (run E (φ 0))) (φ 0) (φ 1) (φ 2) (φ 3+1) x (k:Int) ((x.1.getD k []).length:Int) (i:Int) (j:Int)=r:=by
      intro j hij hj r hr
      have s1:Sq x.1 x.2.1 x.2.2.1 x.2.2.2.1 k i (j-1):=⟨hk,hn,hi,by omega,h⟩
      have s2:Sq x.1 x.2.1 x.2.2.1 x.2.2.2.1 k j i:=⟨hk,hn,hj,by omega,h⟩
      have t1:=qjR x k i j (by omega) (by rw[if_pos (by omega)];exact s1) hc (by omega)
      have t2:=qjR x k j i (by omega) (by rw[if_neg (by omega)];exact s2) hc (by omega)
      rw[if_pos (by omega)] at t1
      rw[if_neg (by omega)] at t2
      simp only[Z186.l3_succ _ qae]
      exact qax (zac (by omega)) (qaa t1 (qaa t2 (qaa (qlO (two x.1 x.2.2.2.1 k i (j-1)) (two x.1 x.2.2.2.1 k j i) (qnt s1.b1 s1.b2)) hr)))
    refine qce 3 (L:=fun φ n j=>Z186.l3 (mkR (run E (φ 0))) (φ 0) (φ 1) (φ 2) n x (k:Int) ((x.1.getD k []).length:Int) (i:Int) j) (len:=(x.1.getD k []).length) (Bq x.1 x.2.2.2.1 k i) (qrY k i) rn (fun _ _ _ _=>rfl) (i+1) (fun j h1 h2 hB=>?_) (fun j q h1 h2 hB ih=>?_) (fun hno=>?_) _ (by omega)
    · refine round j h1 h2 _ (qax ?_ qal)
      rw[qaq hB];rfl
    · refine round j h1 h2 _ (qaB ?_ ?_)
      · rw[qaK (zcn.1 hB)];rfl
      · rw[qad (by omega)];exact ih
    · simp only[Z186.l3_succ _ qae]
      refine qaB (zae (by omega)) ?_
      rw[qad (by omega)];exact hrn fun⟨j,h1,h2,h3⟩=>hno j h1 (by omega) h3
  have inner2:∀ k (hk:k<x.1.length) (hn:3≤(x.1.getD k []).length) (rn:Option Dv),
      (¬ Pk x.1 x.2.2.2.1 k→Ev fun φ=>Z186.l0 (mkR (run E (φ 0))) (φ 0) (φ 1) x ((k+1:Nat):Int)=rn) →
      Ev fun φ=>Z186.l1 (mkR (run E (φ 0))) (φ 0) (φ 1) (φ 0) x (k:Int) ((x.1.getD k []).length:Int) 0=rK x.1 x.2.2.2.1 qrY k rn:=by
    intro k hk hn rn hrn
    have h4:=hv.len4 hk
    refine Ev.start (p:=fun φ n=>Z186.l1 (mkR (run E (φ 0))) (φ 0) (φ 1) n x (k:Int) ((x.1.getD k []).length:Int) 0=_) 2 ?_ (fun _ _ _ h=>h)
    have h2':decide (((x.1.getD k []).length:Int)>2)=true:=zac (by omega)
    refine qce 2 (L:=fun φ n i=>Z186.l1 (mkR (run E (φ 0))) (φ 0) (φ 1) n x (k:Int) ((x.1.getD k []).length:Int) i) (len:=(x.1.getD k []).length) (Pi x.1 x.2.2.2.1 k) (fun i=>rI x.1 x.2.2.2.1 qrY k i none) rn (fun _ _ _ _=>rfl) 0 (fun i h1 h2 hP=>?_) (fun i q h1 h2 hP ih=>?_) (fun hno=>?_) _ (by omega)
    · simp only[Z186.l1_succ _ qae,h2',Z186.j2_eq _ qae,cond_true]
      refine qax (zac (by omega)) ?_
      rw[qad (by omega)]
      exact inner3 k i hk hn h2 none fun hn=>absurd hP hn
    · simp only[Z186.l1_succ _ qae,h2',Z186.j2_eq _ qae,cond_true]
      refine qax (zac (by omega)) ?_
      rw[qad (by omega)]
      exact(inner3 k i hk hn h2 q fun _=>ih).to (qsh hP)
    · simp only[Z186.l1_succ _ qae,Z186.j2_eq _ qae,cond_false]
      refine qaB (zae (by omega)) ?_
      rw[qad (by omega)];exact hrn fun⟨_,i,h1,h2,h3⟩=>hno i h1 (by omega) h3
  refine qce 1 (L:=fun φ n k=>Z186.l0 (mkR (run E (φ 0))) (φ 0) n x k) (len:=x.1.length) (Pk x.1 x.2.2.2.1) (fun k=>rK x.1 x.2.2.2.1 qrY k none) _ (fun _ _ _ _=>rfl) 0 (fun k h1 h2 hP=>?_) (fun k q h1 h2 hP ih=>?_) (fun hno=>?_) _ (by omega)
  · simp only[Z186.l0_succ _ qae]
    refine qax (zac (by omega)) (qab (qak h2) ?_)
    have hn:=hP.1
    rw[← qac (d:=[]) h2]
    exact inner2 k h2 hn none fun hn=>absurd hP hn
  · simp only[Z186.l0_succ _ qae]
    refine qax (zac (by omega)) (qab (qak h2) ?_)
    rw[← qac (d:=[]) h2]
    by_cases hn:3≤(x.1.getD k []).length
    · exact(inner2 k h2 hn q fun _=>ih).to (qsw hP hn)
    · have h2':decide (((x.1.getD k []).length:Int)>2)=false:=zae (by omega)
      refine Ev.start (p:=fun φ n=>Z186.l1 (mkR (run E (φ 0))) (φ 0) (φ 1) n x (k:Int) ((x.1.getD k []).length:Int) 0=_) 2 ?_ (fun _ _ _ h=>h)
      refine Ev.round 2 (L:=fun φ n=>Z186.l1 (mkR (run E (φ 0))) (φ 0) (φ 1) n x (k:Int) ((x.1.getD k []).length:Int) 0) ?_ (fun _ _ _=>rfl)
      simp only[Z186.l1_succ _ qae,h2',Z186.j2_eq _ qae,cond_false]
      rw[qad (by omega)]
      exact qew (fun _=>ih) fun _=>ih
  · simp only[Z186.l0_succ _ qae]
    exact qaB (zae (by omega)) qal
end VeT
open Go Go.Proofs Ve
namespace VeT
noncomputable def wI(c:List Sim)(ms:List Mat):Int×Int×Bool×Unit:=match qcf c ms with
 | some (k,i,j)=>((k:Int),(qaI c (fc c k i)).getD (j-1) 0,true,())
 | none=>(0,0,false,())
noncomputable def wS(c:List Sim)(ms:List Mat):Int×Int×Int×Unit:=match qcf c ms with
 | some (k,i,j)=>((k:Int),(i:Int),(j:Int),())
 | none=>(-1,0,0,())
theorem qiC(c:List Sim)(p:Int)(st:Sim)(ms:List Mat)(hc:Sm (.sl (.sl (.int .i64))) c)(h:VS c p st ms):Ret E n_Z88 [dLL c,dI p,dL st,dMs ms] ⟨o_Z88,wI c ms⟩:=by
 refine qai ((qhG c p st ms hc h).to ?_)
 cases hw:qcf c ms with
 | none=>rw[qfO hw,wI,hw]
 | some t =>
  obtain⟨k,i,j⟩:=t
  rw[(qfG hw).2.2.2.2,wI,hw];rfl
theorem qlY(x:Shf)(hc:Sm (.sl (.sl (.int .i64))) x.1)(h:VS x.1 x.2.1 x.2.2.1 x.2.2.2.1):Ret E n_Z186 [dS x] ⟨o_Z186,wS x.1 x.2.2.2.1⟩:=by
 refine qai ((qke x hc h).to ?_)
 cases hw:qcf x.1 x.2.2.2.1 with
 | none=>rw[qfO hw,wS,hw]
 | some t =>
  obtain⟨k,i,j⟩:=t
  rw[(qfG hw).2.2.2.2,wS,hw];rfl
def ISh(x:Shf):Prop:=VS x.1 x.2.1 x.2.2.1 x.2.2.2.1∧qcf x.1 x.2.2.2.1=none
theorem qe5(x:Shf)(hx:Sm (.st cS) x):Ret E n_Z10 [dLL x.1,dI x.2.1,dL x.2.2.1,dMs x.2.2.2.1] ⟨o_Z10,(pb (ISh x),())⟩:=by
 refine qai ?_
 simp only[run_Z10,Z10.ev]
 refine qaa (qkD x hx) (qbS (fun h=>qah ?_) fun h=>?_)
 ·have h:=qa0.1 (show pb (VS x.1 x.2.1 x.2.2.1 x.2.2.2.1)=false by simpa using h)
  rw[qaq fun hi=>h hi.1]
 ·have h:=qaD.1 (show pb (VS x.1 x.2.1 x.2.2.1 x.2.2.2.1)=true by simpa using h)
  refine qaa (qiC _ _ _ _ hx.1 h) (qah ?_)
  have:(!(wI x.1 x.2.2.2.1).2.2.1)=pb (ISh x):=qfy (by
   unfold ISh wI
   cases hw:qcf x.1 x.2.2.2.1 with
   | none=>simp[h]
   | some t=>simp)
  rw[this]
theorem qeS(x:Shf)(hx:Sm (.st cS) x):Ret E n_Z177 [dS x] ⟨o_Z177,(pb (ISh x),())⟩:=by
 refine qai ?_
 simp only[run_Z177,Z177.ev]
 refine qaa (qoC x hx) (qbS (fun h=>qah ?_) fun h=>?_)
 ·have h:=qa0.1 (show pb (VS x.1 x.2.1 x.2.2.1 x.2.2.2.1)=false by simpa using h)
  rw[qaq fun hi=>h hi.1]
 ·have h:=qaD.1 (show pb (VS x.1 x.2.1 x.2.2.1 x.2.2.2.1)=true by simpa using h)
  refine qaa (qlY x hx.1 h) (qah ?_)
  have:decide ((wS x.1 x.2.2.2.1).1<0)=pb (ISh x):=qfy (by
   rw[decide_eq_true_iff]
   unfold ISh wS
   cases hw:qcf x.1 x.2.2.2.1 with
   | none=>simp[h]
   | some t=>simp only[reduceCtorEq,and_false,iff_false];omega)
  rw[this]
theorem qfX{s:Sim}{i j:Nat}(h:i<j):(s.eraseIdx j).eraseIdx i=(s.eraseIdx i).eraseIdx (j-1):=by
 apply zbF
 intro n
 rw[zba,zba,zba,zba]
 by_cases h1:n<i
 ·rw[if_pos h1,if_pos (by omega),if_pos (by omega),zba,if_pos h1]
 ·by_cases h2:n+1<j
  ·rw[if_neg h1,if_pos h2,if_pos (by omega),zba,if_neg h1]
  ·rw[if_neg h1,if_neg h2,if_neg (by omega),zba,if_neg (by omega)]
def SDn(c:List Sim)(st:Sim)(d:Int)(n:Nat):Int:=((qay c d n).map fun i=>st.getD i.toNat 0).sum
theorem qoM{c:List Sim}{st:Sim}{d:Int}:SD c st d=SDn c st d c.length:=by
 unfold SD qgx SDn
 rw[zav (zaf _)]
theorem qfc{c:List Sim}{st:Sim}{d:Int}{n:Nat}:SDn c st d (n+1)=SDn c st d n+if ((c.getD n []).length:Int)=d+1 then st.getD n 0 else 0:=by
 unfold SDn
 rw[qcG,zat,List.sum_append]
 split<;>simp
theorem qp2{c:List Sim}{p:Int}{st:Sim}{ms:List Mat}(h:VS c p st ms)(d:Nat)(hd:d<4):0≤SD c st (d:Int)∧SD c st (d:Int)≤32:=⟨qom h.2.2.1.2.1 _,h.2.2.1.2.2 d hd⟩
end VeT
open Go Go.Proofs Ve
namespace VeT
theorem qcl{st:Sim}(hst:∀ x∈st,0≤x∧x≤3)(k:Nat):0≤st.getD k 0∧st.getD k 0≤3:=by
 by_cases hl:k<st.length
 ·rw[qac hl];exact hst _ (zaj hl)
 ·rw[zaa,zaw (by omega)];simp
theorem qhb{c:List Sim}{st:Sim}{d:Int}(hst:∀ x∈st,0≤x∧x≤3):∀ {n:Nat},0≤SDn c st d n∧SDn c st d n≤3*n
 | 0=>by simp[SDn,qay]
 | n+1=>by
  have h1:=qhb (c:=c) (d:=d) hst (n:=n)
  have h2:=qcl hst n
  rw[qfc];split<;>omega
theorem qqP{c:List Sim}{st:Sim}{d:Int}(hst:∀ x∈st,0≤x∧x≤3){n m:Nat}(h:n≤m):SDn c st d n≤SDn c st d m:=by
 induction h with
 | refl=>exact Int.le_refl _
 | @step m h ih=>rw[qfc];have:=qcl hst m;split<;>omega
theorem qpO{c:List Sim}{st:Sim}{d:Int}(hst:∀ x∈st,0≤x∧x≤3){s n:Nat}(hs:s<n)(hd:((c.getD s []).length:Int)=d+1):SDn c st d s+st.getD s 0≤SDn c st d n:=by
 have:=qqP (c:=c) (d:=d) hst (show s+1≤n from hs)
 rw[qfc,if_pos hd] at this;exact this
theorem qlm{c:List Sim}{d:Int}{s n:Nat}(hs:s<n)(hd:((c.getD s []).length:Int)=d+1):∃ tl,qay c d n=qay c d s++(s:Int)::tl:=by
 induction n with
 | zero=>omega
 | succ n ih =>
  rw[qcG]
  by_cases h:s=n
  ·subst h;exact⟨[],by rw[if_pos hd]⟩
  ·obtain⟨tl,e⟩:=ih (by omega)
   exact⟨tl++_,by rw[e,zaF];rfl⟩
theorem qeM{c:List Sim}{d:Int}{k:Nat}{x:Int}:x∈qay c d k↔∃ i:Nat,x=i∧i<k∧((c.getD i []).length:Int)=d+1:=by
 unfold qay
 rw[zaO]
 constructor
 ·rintro⟨i,hi,rfl⟩
  have:=zbQ.1 hi
  exact⟨i,rfl,by simpa using this.1,by simpa using this.2⟩
 ·rintro⟨i,rfl,h1,h2⟩
  exact⟨i,zbQ.2 ⟨by simpa using h1,by simpa using h2⟩,rfl⟩
def FC(c:List Sim)(st:Sim)(s:Nat):Int:=SDn c st (((c.getD s []).length:Int)-1) s
theorem qdr{c:List Sim}{st:Sim}(hst:∀ x∈st,0≤x∧x≤3){s:Nat}(hs:s<c.length):0≤FC c st s∧FC c st s+st.getD s 0≤SD c st (((c.getD s []).length:Int)-1):=by
 refine⟨(qhb hst).1,?_⟩
 rw[qoM]
 exact qpO hst hs (by omega)
abbrev St:=List (Nat×Int)
def qed(S:St)(cs:Sim):Sim:=S.foldl (fun cs q=>cs.set q.1 q.2) cs
theorem qcD{S T:St}{cs:Sim}:qed (S++T) cs=qed T (qed S cs):=by simp[qed]
theorem qsA{q:Nat}{v:Int}{cs:Sim}:qed [(q,v)] cs=cs.set q v:=rfl
theorem qbR{S:St}:∀ {cs:Sim},(qed S cs).length=cs.length:=by
 induction S with
 | nil=>intro cs;rfl
 | cons q S ih=>intro cs;show(qed S (cs.set q.1 q.2)).length=_;rw[ih,zaN]
theorem qgW{p:Int}{S:St}:∀ {cs:Sim},qaC cs p→(∀ q∈S,0≤q.2∧q.2≤p-1)→qaC (qed S cs) p:=by
 induction S with
 | nil=>intro cs h _;exact h
 | cons q S ih =>
  intro cs h hS
  refine ih (cs:=cs.set q.1 q.2) (fun x hx=>?_) fun y hy=>hS y (zbc _ hy)
  rcases zbR hx with hx | rfl
  ·exact h x hx
  ·exact hS q zaS
theorem qiP{S:St}{q:Nat}:∀ {cs:Sim},(∀ x∈S,x.1≠q)→(qed S cs).getD q 0=cs.getD q 0:=by
 induction S with
 | nil=>intro cs _;rfl
 | cons y S ih =>
  intro cs h
  have e:=ih (cs:=cs.set y.1 y.2) fun x hx=>h x (zbc _ hx)
  show(qed S (cs.set y.1 y.2)).getD q 0=_
  rw[e,zaa,zaa,zaV (h y zaS)]
theorem qny{S:St}{q:Nat}{v:Int}:∀ {cs:Sim},q<cs.length→(∀ x∈S,x.1=q→x.2=v)→(∃ x∈S,x.1=q)→(qed S cs).getD q 0=v:=by
 induction S with
 | nil=>intro cs _ _ ⟨x,hx,_⟩;simp at hx
 | cons y S ih =>
  intro cs hq hall ⟨x,hx,e⟩
  show(qed S (cs.set y.1 y.2)).getD q 0=_
  by_cases hS:∃ x∈S,x.1=q
  ·exact ih (by rw[zaN];exact hq) (fun x hx=>hall x (zbc _ hx)) hS
  ·rw[qiP fun x hx e=>hS ⟨x,hx,e⟩]
   rcases zaM.1 hx with rfl | hx
   ·subst e
    rw[zaa,zaJ hq]
    exact hall x zaS rfl
   ·exact absurd ⟨x,hx,e⟩ hS
def sgn(p:Int)(a:Nat):Int:=if a%2=0 then 1 else p-1
theorem qsf{p:Int}(hp:2≤p∧p≤251)(a:Nat):0≤sgn p a∧sgn p a≤p-1:=by
 unfold sgn;split<;>omega
def stJ(p:Int)(m:Mat)(W top left:Nat)(sg:Int)(i n:Nat):St:=(List.range n).map fun j=>((top+i)*W+left+j,m.2.2.2.1.getD (i*m.2.2.1.toNat+j) 0*sg%p)
def stI(p:Int)(m:Mat)(W top left:Nat)(sg:Int)(n:Nat):St:=(List.range n).flatMap fun i=>stJ p m W top left sg i m.2.2.1.toNat
noncomputable def stF(c:List Sim)(p:Int)(st:Sim)(ms:List Mat)(k:Int)(s n:Nat):St :=
 (List.range n).flatMap fun a=>stI p (mp c ms s a) (SD c st k).toNat (FC c st s).toNat (FC c st (fc c s a)).toNat (sgn p a) (mp c ms s a).2.1.toNat
noncomputable def stS(c:List Sim)(p:Int)(st:Sim)(ms:List Mat)(k:Int)(n:Nat):St :=
 ((qay c (k+1) c.length).take n).flatMap fun s=>stF c p st ms k s.toNat (qaI c s.toNat).length
open Classical in
noncomputable def qjq(c:List Sim)(p:Int)(st:Sim)(ms:List Mat)(k:Int):Sim :=
 if k<0 then List.replicate ((SD c st (k+1)).toNat*(SD c st k).toNat) 0 else qed (stS c p st ms k (qay c (k+1) c.length).length) (List.replicate ((SD c st (k+1)).toNat*(SD c st k).toNat) 0)
noncomputable def qqX(c:List Sim)(p:Int)(st:Sim)(ms:List Mat)(k:Int):Mat:=(p,SD c st (k+1),SD c st k,qjq c p st ms k,())
theorem qpM{p:Int}{m:Mat}{W top left:Nat}{sg:Int}{i n:Nat}{q:Nat×Int}:q∈stJ p m W top left sg i n↔∃ j,j<n∧q=((top+i)*W+left+j,m.2.2.2.1.getD (i*m.2.2.1.toNat+j) 0*sg%p):=by
 unfold stJ
 rw[zaO]
 constructor
 ·rintro⟨j,hj,rfl⟩;exact⟨j,zaG.1 hj,rfl⟩
 ·rintro⟨j,hj,rfl⟩;exact⟨j,zaG.2 hj,rfl⟩
theorem qkj{c:List Sim}{p:Int}{st:Sim}{ms:List Mat}{k:Int}{s n:Nat}{q:Nat×Int}:q∈stF c p st ms k s n↔∃ a i j,a<n∧i<(mp c ms s a).2.1.toNat∧j<(mp c ms s a).2.2.1.toNat ∧
  q=(((FC c st s).toNat+i)*(SD c st k).toNat+(FC c st (fc c s a)).toNat+j,(mp c ms s a).2.2.2.1.getD (i*(mp c ms s a).2.2.1.toNat+j) 0*sgn p a%p):=by
 unfold stF stI
 rw[zbq]
 constructor
 ·rintro⟨a,ha,h⟩
  obtain⟨i,hi,h⟩:=zbq.1 h
  obtain⟨j,hj,e⟩:=qpM.1 h
  exact⟨a,i,j,zaG.1 ha,zaG.1 hi,hj,e⟩
 ·rintro⟨a,i,j,ha,hi,hj,e⟩
  exact⟨a,zaG.2 ha,zbq.2 ⟨i,zaG.2 hi,qpM.2 ⟨j,hj,e⟩⟩⟩
theorem qku{c:List Sim}{p:Int}{st:Sim}{ms:List Mat}{k:Int}{n:Nat}{q:Nat×Int}(hn:(qay c (k+1) c.length).length≤n):q∈stS c p st ms k n↔∃ s:Nat,s<c.length∧((c.getD s []).length:Int)=k+2∧q∈stF c p st ms k s (qaI c s).length:=by
 unfold stS
 rw[zav hn,zbq]
 constructor
 ·rintro⟨x,hx,h⟩
  obtain⟨s,rfl,h1,h2⟩:=qeM.1 hx
  exact⟨s,h1,by omega,h⟩
 ·rintro⟨s,h1,h2,h⟩
  exact⟨(s:Int),qeM.2 ⟨s,rfl,h1,by omega⟩,h⟩
theorem qdH{c:List Sim}{p:Int}{st:Sim}{ms:List Mat}(h:VS c p st ms){k:Int}{s a:Nat}(hs:s<c.length)(hd:((c.getD s []).length:Int)=k+2)(ha:a<(qaI c s).length) :
  (mp c ms s a).2.1=st.getD s 0∧(mp c ms s a).2.2.1=st.getD (fc c s a) 0∧fc c s a<c.length∧((c.getD (fc c s a) []).length:Int)=k+1 ∧
  (0≤FC c st s∧FC c st s+st.getD s 0≤SD c st (k+1))∧0≤FC c st (fc c s a)∧FC c st (fc c s a)+st.getD (fc c s a) 0≤SD c st k:=by
 obtain⟨_,hb⟩:=h.map hs ha
 obtain⟨_,hf,hg⟩:=qa1 h.1 hs ha
 have hl:=qaE (c:=c) (k:=s)
 have hfl:((c.getD (fc c s a) []).length:Int)=k+1:=by
  rw[hg,zbs]
  split at hl
  ·rw[if_pos (by omega)];omega
  ·omega
 have b1:=qdr h.2.2.1.2.1 hs
 have b2:=qdr h.2.2.1.2.1 hf
 rw[show((c.getD s []).length:Int)-1=k+1 by omega] at b1
 rw[show((c.getD (fc c s a) []).length:Int)-1=k by omega] at b2
 exact⟨hb.2.2.1,hb.2.2.2,hf,hfl,b1,b2⟩
theorem qo0{c:List Sim}(hv:VC c)(st:Sim){d:Int}(hd:d<0∨4≤d):SD c st d=0:=by
 have:qay c d c.length=[]:=List.eq_nil_iff_forall_not_mem.2 fun x hx=>by
  obtain⟨i,_,hi,hl⟩:=qeM.1 hx
  have:=hv.2.1 i hi
  have h1:=this.1
  have h2:=this.2.1
  omega
 rw[qoM,SDn,this];rfl
theorem qbY{c:List Sim}{p:Int}{st:Sim}{ms:List Mat}(h:VS c p st ms)(d:Int):∃ n:Nat,SD c st d=(n:Int)∧n≤32∧(SD c st d).toNat=n:=by
 by_cases hd:d<0∨4≤d
 ·exact⟨0,qo0 h.1 st hd,by omega,by rw[qo0 h.1 st hd];rfl⟩
 ·have:=qp2 h d.toNat (by omega)
  rw[Int.toNat_of_nonneg (by omega)] at this
  exact⟨(SD c st d).toNat,by omega,by omega,rfl⟩
theorem qfY{c:List Sim}{p:Int}{st:Sim}{ms:List Mat}{k:Int}:(qjq c p st ms k).length=(SD c st (k+1)).toNat*(SD c st k).toNat:=by
 unfold qjq;split
 ·rw[zas]
 ·rw[qbR,zas]
theorem qi8{n:Nat}{p:Int}(hp:2≤p):qaC (List.replicate n 0) p:=fun x hx=>by
 rw[zbe] at hx;omega
theorem qg4{c:List Sim}{p:Int}{st:Sim}{ms:List Mat}(h:VS c p st ms)(k:Int):qaC (qjq c p st ms k) p:=by
 have hp:=h.2.1.1
 unfold qjq;split
 ·exact qi8 hp
 ·refine qgW (qi8 hp) fun q hq=>?_
  obtain⟨s,_,_,hq⟩:=(qku (zaf _)).1 hq
  obtain⟨a,i,j,_,_,_,rfl⟩:=qkj.1 hq
  have h0:=zbI ((mp c ms s a).2.2.2.1.getD (i*(mp c ms s a).2.2.1.toNat+j) 0*sgn p a) (show p≠0 by omega)
  have h1:=zbA ((mp c ms s a).2.2.2.1.getD (i*(mp c ms s a).2.2.1.toNat+j) 0*sgn p a) (show 0<p by omega)
  exact⟨h0,by simp only;omega⟩
def qhN(m:Mat)(v:Sim)(n:Nat):Sim:=(List.range n).map fun i=>qaG (fun l=>m.2.2.2.1.getD (i*m.2.2.1.toNat+l) 0) (fun l=>v.getD l 0) m.2.2.1.toNat%m.1
theorem qbm{m:Mat}{v:Sim}{n:Nat}:(qhN m v n).length=n:=by simp[qhN]
theorem qn2{m:Mat}{v:Sim}{n:Nat}(hp:2≤m.1):qaC (qhN m v n) m.1:=fun x hx=>by
 unfold qhN at hx
 obtain⟨i,_,rfl⟩:=zaO.1 hx
 have h0:=zbI (qaG (fun l=>m.2.2.2.1.getD (i*m.2.2.1.toNat+l) 0) (fun l=>v.getD l 0) m.2.2.1.toNat) (show m.1≠0 by omega)
 have h1:=zbA (qaG (fun l=>m.2.2.2.1.getD (i*m.2.2.1.toNat+l) 0) (fun l=>v.getD l 0) m.2.2.1.toNat) (show 0<m.1 by omega)
 omega
end VeT
open Go Go.Proofs Ve
namespace VeT
theorem qpc(s:Sim)(v:Int)(hs:s.length≤1048576):Ret E n_Z118 [dL s,dI v] ⟨o_Z118,(qjz (fun x=>pb (x=v)) s,())⟩:=by
  obtain⟨o,h1,h2,h3⟩:=qb4 1 (L:=fun φ n k=>Z118.l0 (mkR (run E (φ 0))) (φ 0) n s v (s.length:Int) k) (len:=s.length) (fun k=>∃ h:k<s.length,pb (s[k]=v)=true) (fun o=>some ⟨o_Z118,(o2i o,())⟩) (fun _ _ _ _=>rfl) (fun k hk hP=>by
      obtain⟨_,hP⟩:=hP
      have hP:=qaD.1 hP
      simp only[Z118.l0_succ _ qae]
      exact qax (zac (by omega)) (qab (qak hk) (qax (by simp[hP]) qal))) (fun k q hk hP ih=>by
      simp only[Z118.l0_succ _ qae]
      refine qax (zac (by omega)) (qab (qak hk) (qaB (by simp only[beq_eq_false_iff_ne];exact fun e=>hP ⟨hk,qaK e.symm⟩) ?_))
      rw[qad (by omega)];exact ih) (by
      simp only[Z118.l0_succ _ qae]
      exact qaB (zae (by omega)) qal)
  rw[qdI (p:=fun x=>pb (x=v)) h1 h2] at h3
  refine qai ?_
  simp only[run_Z118,Z118.ev]
  exact Ev.start (p:=fun φ n=>Z118.l0 (mkR (run E (φ 0))) (φ 0) n s v (s.length:Int) 0=_) 1 h3 (fun _ _ _ h=>h)
theorem qeV(s:Sim)(v:Int)(hs:s.length≤1048576):Ret E n_Z106 [dL s,dI v] ⟨o_Z106,(pb (v∈s),())⟩:=by
 refine qai ?_
 simp only[run_Z106,Z106.ev]
 refine qaa (qpc s v hs) (qah ?_)
 have:decide (qjz (fun x=>pb (x=v)) s≥0)=pb (v∈s):=qfy (by
  rw[decide_eq_true_iff,ge_iff_le,qcb]
  exact⟨fun⟨x,h,e⟩=>qaD.1 e ▸ h,fun h=>⟨v,h,qaK rfl⟩⟩)
 simp only[this]
theorem qjQ(s:Sim)(v:Int)(hs:s.length≤1048576):Ret E n_Z126 [dL s,dI v] ⟨o_Z126,(pb (v∈s),())⟩:=by
  obtain⟨o,h1,h2,h3⟩:=qb4 1 (L:=fun φ n k=>Z126.l0 (mkR (run E (φ 0))) (φ 0) n s v k) (len:=s.length) (fun k=>∃ h:k<s.length,s[k]=v) (fun o=>some ⟨o_Z126,(o.isSome,())⟩) (fun _ _ _ _=>rfl) (fun k hk hP=>by
      obtain⟨_,hP⟩:=hP
      simp only[Z126.l0_succ _ qae]
      exact qax (zac (by omega)) (qab (qak hk) (qax (by simp[hP]) qal))) (fun k q hk hP ih=>by
      simp only[Z126.l0_succ _ qae]
      refine qax (zac (by omega)) (qab (qak hk) (qaB (by simp only[beq_eq_false_iff_ne];exact fun e=>hP ⟨hk,e⟩) ?_))
      rw[qad (by omega)];exact ih) (by
      simp only[Z126.l0_succ _ qae]
      exact qaB (zae (by omega)) qal)
  have:o.isSome=pb (v∈s):=qfy (by
    cases o with
    | none =>
      simp only[Option.isSome_none,zci,false_iff]
      intro hm
      obtain⟨j,hj,e⟩:=zaC.1 hm
      exact h2 rfl j hj ⟨hj,e⟩
    | some k =>
      obtain⟨_,⟨hk,e⟩,_⟩:=h1 k rfl
      simp only[Option.isSome_some,true_iff]
      exact e ▸ zaj hk)
  rw[this] at h3
  refine qai ?_
  simp only[run_Z126,Z126.ev]
  exact Ev.start (p:=fun φ n=>Z126.l0 (mkR (run E (φ 0))) (φ 0) n s v 0=_) 1 h3 (fun _ _ _ h=>h)
def qeI(a b:Sim):Prop:=∀ x∈a,x∈b
theorem qlp(x:Int)(b:Sim)(hb:b.length≤1048576):Ret E n_Z59 [dI x,⟨.ptr (.cons (.sl (.int .i64)) .nil),(b,())⟩] ⟨o_Z59,(!pb (x∈b),())⟩:=by
 refine qai ?_
 simp only[run_Z59,Z59.ev]
 exact qaa (qeV b x hb) qal
theorem qjP(a b:Sim)(ha:a.length≤1048576)(hb:b.length≤1048576):Ret E n_Z58 [dL a,dL b] ⟨o_Z58,(pb (qeI a b),())⟩:=by
 refine qai ?_
 simp only[run_Z58,Z58.ev]
 refine qaa (qbE a ((b,()),()) _ ha fun x _=>qlp x b hb) (qah ?_)
 simp only[qkN];rfl
end VeT
open Go Go.Proofs Ve
namespace VeT
theorem qnK(i j:Nat):Ret E n_Z90 [dI (i:Int),dI (j:Int)] ⟨o_Z90,((0:Int),())⟩:=by
 refine qai ?_
 simp only[run_Z90,Z90.ev]
 (first | exact qal | exact Ev.of fun _=>trivial)
theorem qgI{C:Nat}:∀ {n:Nat},qar (fun _ _=>0) C n=List.replicate (n*C) 0
 | 0=>by simp[qar]
 | n+1=>by
  rw[qar,qgI,zar,Nat.one_mul,← List.replicate_append_replicate]
  congr 1
  rw[List.map_const',zaU]
theorem qp5(p:Int)(R C:Nat)(hR:R≤32)(hC:C≤32):Ret E n_Z89 [dI p,dI (R:Int),dI (C:Int)] ⟨o_Z89,(p,(R:Int),(C:Int),List.replicate (R*C) 0,())⟩:=by
 have h1:=qcP hR hC
 refine qai ?_
 simp only[run_Z89,Z89.ev]
 rw[← qgI]
 exact qaa (qeA p R C (fun _ _=>0) (by omega) (by omega) (by omega) fun i j _ _=>qnK i j) qal
theorem qde(c:List Sim)(p:Int)(st:Sim)(ms:List Mat)(s:Nat)(hs:s<c.length)(hc:Sm (.sl (.sl (.int .i64))) c)(hl:st.length=c.length)(hst:∀ x∈st,0≤x∧x≤3) :
  Ret E n_Z49 [dLL c,dI p,dL st,dMs ms,dI (s:Int)] ⟨o_Z49,(FC c st s,())⟩:=by
 have hc1:c.length≤1048576:=hc.1
 have hls:(c[s]).length≤1048576:=(qbk hc hs).1
 have e:w64 (((c[s]).length:Int)-1)=((c[s]).length:Int)-1:=qag (by omega) (by omega)
 obtain⟨tl,hpre⟩:=qlm (c:=c) (d:=((c[s]).length:Int)-1) hs (by rw[qac hs];omega)
 have hF:FC c st s=SDn c st (((c[s]).length:Int)-1) s:=by rw[FC,qac hs]
 refine qai ?_
 simp only[run_Z49,Z49.ev]
 refine qab (qak hs) (qaa (qdm _) ?_)
 simp only[e]
 refine qaa (qdl c (((c[s]).length:Int)-1) hc ⟨by omega,by omega⟩) ?_
 rw[hF]
 generalize ((c[s]).length:Int)-1=d at hpre ⊢
 have hol:=qbQ c d c.length
 have hlen:(qay c d s).length<(qay c d c.length).length:=by rw[hpre];simp
 refine Ev.start (p:=fun φ n=>Z49.l0 (mkR (run E (φ 0))) (φ 0) n (s:Int) 0 (qay c d c.length) ((qay c d c.length).length:Int) 0 c p st ms=_) 1 ?_ (fun _ _ _ h=>h)
 refine qe4 1 (σ:=Nat) (L:=fun φ n t=>Z49.l0 (mkR (run E (φ 0))) (φ 0) n (s:Int) (qgx c st d t) (qay c d c.length) ((qay c d c.length).length:Int) (t:Int) c p st ms) (fun _ _ _ _=>rfl) (fun t=>t≤(qay c d s).length) (fun _=>_) (fun t=>(qay c d s).length-t) (fun t ht ih=>?_) 0 (zaE _)
 have ht:t≤(qay c d s).length:=ht
 have htl:t<(qay c d c.length).length:=by omega
 simp only[Z49.l0_succ _ qae]
 refine qax (zac (by omega)) ?_
 by_cases h:t=(qay c d s).length
 ·have hg:(qay c d c.length)[t]? = some (s:Int):=by rw[hpre,h,zap (zaf _),zbW];rfl
  refine qab (qaT.trans hg) (qax (by simp) (qah ?_))
  have:qgx c st d t=SDn c st d s:=by
   unfold qgx SDn
   rw[hpre,h,List.take_left' rfl]
  rw[this]
 ·have hp:t<(qay c d s).length:=by omega
  obtain⟨i,hi,his⟩:=qeX (zaj hp)
  have hg:(qay c d c.length)[t]? = some (i:Int):=by rw[hpre,zao hp,zag hp,hi]
  have hgi:(qay c d c.length)[t]=(i:Int):=by rw[zag htl] at hg;exact zad hg
  have hil:i<st.length:=by omega
  have:=ih (t+1) (by show t+1≤_;omega) (by show(qay c d s).length-(t+1)<(qay c d s).length-t;omega)
  rw[qeK _ _ _ _ htl,hgi,zai,qac hil] at this
  have hb:=qhS hst d t (c:=c)
  have hb2:=hst _ (zaj hil)
  refine qab (qaT.trans hg) (qaB (by simp;omega) (qab (qak hil) ?_))
  rw[qad (by omega),qag (by omega) (by omega)]
  exact this
def qfJ(c:List Sim)(st:Sim)(v:Sim)(s:Nat):Sim:=(v.take (FC c st s+st.getD s 0).toNat).drop (FC c st s).toNat
theorem qip(p:Int)(i:Nat)(hp:2≤p∧p≤251):Ret E n_Z22 [dI (i:Int),dI p] ⟨o_Z22,(sgn p i,())⟩:=by
 refine qai ?_
 simp only[run_Z22,Z22.ev]
 rw[zaH (by omega),qag (by omega) (by omega)]
 refine qbS (fun h=>qah ?_) fun h=>qah ?_
 ·have h:(i:Int)%2=0:=by simpa using h
  rw[sgn,if_pos (by omega)]
 ·have h:¬ (i:Int)%2=0:=by simpa using h
  rw[sgn,if_neg (by omega)]
theorem qqq{p:Int}{m:Mat}{W top left:Nat}{sg:Int}{i n:Nat}{cs:Sim}:qed (stJ p m W top left sg i (n+1)) cs=(qed (stJ p m W top left sg i n) cs).set ((top+i)*W+left+n) (m.2.2.2.1.getD (i*m.2.2.1.toNat+n) 0*sg%p):=by
 unfold stJ
 rw[zaA,zat,qcD];rfl
theorem qqH{p:Int}{m:Mat}{W top left:Nat}{sg:Int}{n:Nat}{cs:Sim}:qed (stI p m W top left sg (n+1)) cs=qed (stJ p m W top left sg n m.2.2.1.toNat) (qed (stI p m W top left sg n) cs):=by
 unfold stI
 rw[zaA,List.flatMap_append,qcD,List.flatMap_singleton]
theorem qqv{c:List Sim}{p:Int}{st:Sim}{ms:List Mat}{k:Int}{s n:Nat}{cs:Sim}:qed (stF c p st ms k s (n+1)) cs=qed (stI p (mp c ms s n) (SD c st k).toNat (FC c st s).toNat (FC c st (fc c s n)).toNat (sgn p n) (mp c ms s n).2.1.toNat) (qed (stF c p st ms k s n) cs):=by
 unfold stF
 rw[zaA,List.flatMap_append,qcD,List.flatMap_singleton]
theorem qp6{c:List Sim}{p:Int}{st:Sim}{ms:List Mat}{k:Int}{n:Nat}{cs:Sim}(hn:n<(qay c (k+1) c.length).length){s:Nat}(hs:(qay c (k+1) c.length)[n]=(s:Int)):qed (stS c p st ms k (n+1)) cs=qed (stF c p st ms k s (qaI c s).length) (qed (stS c p st ms k n) cs):=by
 unfold stS
 rw[zay hn,List.flatMap_append,qcD,List.flatMap_singleton,hs,zai]
end VeT
open Go Go.Proofs Ve
namespace VeT
structure CobF (c:List Sim) (p:Int) (st:Sim) (ms:List Mat) (k:Int) (s a T L R C H W:Nat):Prop where
 sl:s<c.length
 al:a<(qaI c s).length
 eT:FC c st s=(T:Int)
 eL:FC c st (fc c s a)=(L:Int)
 eR:(mp c ms s a).2.1=(R:Int)
 eC:(mp c ms s a).2.2.1=(C:Int)
 eW:SD c st k=(W:Int)
 hT:T+R≤H
 hL:L+C≤W
 hH:H≤32
 hW:W≤32
 len:(mp c ms s a).2.2.2.1.length=R*C
 el:qaC (mp c ms s a).2.2.2.1 p
 hp:2≤p∧p≤251
 hR:R≤32
 hC:C≤32
 h4:a≤4
theorem qrS{c:List Sim}{p:Int}{st:Sim}{ms:List Mat}(h:VS c p st ms){k:Int}{s a H W:Nat}(hs:s<c.length)(hd:((c.getD s []).length:Int)=k+2)(ha:a<(qaI c s).length)(eH:SD c st (k+1)=(H:Int))(eW:SD c st k=(W:Int))(hH:H≤32)(hW:W≤32) :
  ∃ T L R C:Nat,CobF c p st ms k s a T L R C H W:=by
 obtain⟨g1,g2,g3,g4,g5,g6,g7⟩:=qdH h hs hd ha
 obtain⟨_,hb⟩:=h.map hs ha
 obtain⟨R,C,em,hR,hC,hlen⟩:=hb.1.nat
 have e1:(mp c ms s a).2.1=(R:Int):=congrArg (fun m:Mat=>m.2.1) em
 have e2:(mp c ms s a).2.2.1=(C:Int):=congrArg (fun m:Mat=>m.2.2.1) em
 have hp:2≤p∧p≤251:=⟨h.2.1.1,h.2.1.2.1⟩
 have el:=hb.1.2.2.2.2
 rw[hb.2.1] at el
 have h4:=h.1.fIdx4 hs
 exact⟨(FC c st s).toNat,(FC c st (fc c s a)).toNat,R,C,hs,ha,by omega,by omega,e1,e2,eW,by omega,by omega,hH,hW,hlen,el,hp,hR,hC,by omega⟩
theorem qsx{T L i j W H:Nat}(h1:T+i<H)(h2:L+j<W)(hH:H≤32)(hW:W≤32):w64 (w64 (w64 (w64 ((T:Int)+(i:Int))*(W:Int))+(L:Int))+(j:Int))=(((T+i)*W+L+j:Nat):Int)∧(T+i)*W+L+j<H*W:=by
 have hlt:=qeU h1 h2
 have:=qcP hH hW
 have e1:w64 ((T:Int)+(i:Int))=((T+i:Nat):Int):=by rw[qag (by omega) (by omega)];omega
 have e2:w64 (((T+i:Nat):Int)*(W:Int))=(((T+i)*W:Nat):Int):=by rw[qa3];exact qag (by omega) (by omega)
 have e3:w64 ((((T+i)*W:Nat):Int)+(L:Int))=(((T+i)*W+L:Nat):Int):=by rw[qag (by omega) (by omega)];omega
 have e4:w64 ((((T+i)*W+L:Nat):Int)+(j:Int))=(((T+i)*W+L+j:Nat):Int):=by rw[qag (by omega) (by omega)];omega
 rw[e1,e2,e3,e4]
 exact⟨rfl,by omega⟩
theorem qpy{x y p:Int}(hx:0≤x∧x≤250)(hy:0≤y∧y≤250)(hp:2≤p∧p≤251):Int.tmod (w64 (x*y)) p=x*y%p:=by
 have:=qet hx hy
 rw[qag (by omega) (by omega),zaH (by omega)]
theorem qfk(c:List Sim)(p:Int)(st:Sim)(ms:List Mat)(k:Int)(hk:-1≤k∧k≤3)(hc:Sm (.sl (.sl (.int .i64))) c)(h:VS c p st ms) :
    Ret E n_Z30 [dLL c,dI p,dL st,dMs ms,dI k] ⟨o_Z30,qqX c p st ms k⟩:=by
  obtain⟨H,eH,bH,tH⟩:=qbY h (k+1)
  obtain⟨W,eW,bW,tW⟩:=qbY h k
  have hst:=h.2.2.1.2.1
  have hl:=h.2.2.1.1
  have h48:=h.1.1
  have ek:w64 (k+1)=k+1:=qag (by omega) (by omega)
  have hHW:=qcP bH bW
  have s1:=qcd c st (k+1) p ms hc hl hst (by omega)
  have s2:=qcd c st k p ms hc hl hst (by omega)
  rw[show qgx c st (k+1) (qay c (k+1) c.length).length=(H:Int) from eH] at s1
  rw[show qgx c st k (qay c k c.length).length=(W:Int) from eW] at s2
  have z:=qp5 p H W bH bW
  have hM:qqX c p st ms k=(p,(H:Int),(W:Int),qjq c p st ms k,()):=by rw[qqX,eH,eW]
  rw[hM]
  refine qai ?_
  simp only[run_Z30,Z30.ev,ek]
  suffices hmain:Ev fun φ=>Z30.j0 (mkR (run E (φ 0))) (φ 0) k c p st ms 0 0 0 p (H:Int) (W:Int) (List.replicate (H*W) 0)=some ⟨o_Z30,(p,(H:Int),(W:Int),qjq c p st ms k,())⟩ by
    exact qb8 (qaa s1 (qb8 (qaa s2 (qb8 (qaa z hmain) (qaa z hmain))) (qaa s2 (qaa z hmain)))) (qaa s1 (qaa s2 (qaa z hmain)))
  simp only[Z30.j0_eq _ qae,ek]
  refine qaa (qdl c (k+1) hc (by omega)) ?_
  have hol:=qbQ c (k+1) c.length
  by_cases hk0:k<0
  · have e0:qjq c p st ms k=List.replicate (H*W) 0:=by rw[qjq,if_pos hk0,tH,tW]
    rw[e0]
    refine Ev.start (p:=fun φ n=>Z30.l1 (mkR (run E (φ 0))) (φ 0) n k (qay c (k+1) c.length) ((qay c (k+1) c.length).length:Int) 0 c p st ms 0 0 0 p (H:Int) (W:Int) (List.replicate (H*W) 0)=_) 1 ?_ (fun _ _ _ h=>h)
    refine Ev.round 1 (L:=fun φ n=>Z30.l1 (mkR (run E (φ 0))) (φ 0) n k (qay c (k+1) c.length) ((qay c (k+1) c.length).length:Int) 0 c p st ms 0 0 0 p (H:Int) (W:Int) (List.replicate (H*W) 0)) ?_ (fun _ _ _=>rfl)
    simp only[Z30.l1_succ _ qae,Z30.j2_eq _ qae]
    refine qew (fun hlt=>?_) fun _=>qal
    have hlt:0<(qay c (k+1) c.length).length:=by omega
    exact qab (qak (k:=0) hlt) (qax (zac hk0) qal)
  have e0:qjq c p st ms k=qed (stS c p st ms k (qay c (k+1) c.length).length) (List.replicate (H*W) 0):=by rw[qjq,if_neg hk0,tH,tW]
  rw[e0]
  -- one row of a face' stores
  have r5:∀(s a T L R C i:Nat) (F:CobF c p st ms k s a T L R C H W) (t:Nat) (ls:Sim) (n1:Int) (fs:Sim) (n2:Int) (cs:Sim) (hcs:cs.length=H*W) (hi:i<R) (r:Option Dv),
      (Ev fun φ=>Z30.l4 (mkR (run E (φ 0))) (φ 0) (φ 1) (φ 2) (φ 3) k (s:Int) (a:Int) (T:Int) (L:Int) ls n1 (t:Int) fs n2 (a:Int) (R:Int) ((i+1:Nat):Int) c p st ms 0 0 0 p (H:Int) (W:Int) (mp c ms s a).1 (R:Int) (C:Int) (mp c ms s a).2.2.2.1 (qed (stJ p (mp c ms s a) W T L (sgn p a) i C) cs)=r) →
      Ev fun φ=>Z30.l5 (mkR (run E (φ 0))) (φ 0) (φ 1) (φ 2) (φ 3) (φ 0) k (s:Int) (a:Int) (T:Int) (L:Int) (i:Int) ls n1 (t:Int) fs n2 (a:Int) (R:Int) (i:Int) (C:Int) 0 c p st ms 0 0 0 p (H:Int) (W:Int) (mp c ms s a).1 (R:Int) (C:Int) (mp c ms s a).2.2.2.1 cs=r:=by
    intro s a T L R C i F t ls n1 fs n2 cs hcs hi r hr
    refine Ev.start (p:=fun φ n=>Z30.l5 (mkR (run E (φ 0))) (φ 0) (φ 1) (φ 2) (φ 3) n k (s:Int) (a:Int) (T:Int) (L:Int) (i:Int) ls n1 (t:Int) fs n2 (a:Int) (R:Int) (i:Int) (C:Int) 0 c p st ms 0 0 0 p (H:Int) (W:Int) (mp c ms s a).1 (R:Int) (C:Int) (mp c ms s a).2.2.2.1 cs=_) 4 ?_ (fun _ _ _ h=>h)
    refine qam 4 (L:=fun φ n j o=>Z30.l5 (mkR (run E (φ 0))) (φ 0) (φ 1) (φ 2) (φ 3) n k (s:Int) (a:Int) (T:Int) (L:Int) (i:Int) ls n1 (t:Int) fs n2 (a:Int) (R:Int) (i:Int) (C:Int) j c p st ms 0 0 0 p (H:Int) (W:Int) (mp c ms s a).1 (R:Int) (C:Int) (mp c ms s a).2.2.2.1 o) (len:=C) (fun j=>qed (stJ p (mp c ms s a) W T L (sgn p a) i j) cs) (fun _ _ _ _ _=>rfl) (fun j q hj ih=>?_) ?_
    · simp only[Z30.l5_succ _ qae]
      have hT:=F.hT
      have hL:=F.hL
      have hp:=F.hp
      obtain⟨ep,hpos⟩:=qsx (T:=T) (L:=L) (i:=i) (j:=j) (W:=W) (H:=H) (by omega) (by omega) bH bW
      have hij:i*C+j<(mp c ms s a).2.2.2.1.length:=by rw[F.len];exact qeU hi hj
      have hRC:=qcP F.hR F.hC
      have hx:=F.el.get hp (i*C+j)
      have hy:=qsf hp a
      rw[qqq,F.eC,zai,qac hij] at ih
      rw[qac hij] at hx
      have hol':(qed (stJ p (mp c ms s a) W T L (sgn p a) i j) cs).length=H*W:=by rw[qbR,hcs]
      have ev:=qpy hx (show 0≤sgn p a∧sgn p a≤250 by omega) hp
      refine qax (zac (by omega)) (qaa (qjY _ _ C _ i j hij (by rw[F.len];omega)) (qaa (qip p a hp) (qao (by simp;omega) ?_)))
      simp only[ep,ev,hol',zai]
      refine qao (by simp only[zah,decide_eq_true_eq];omega) ?_
      rw[qad (by omega)]
      exact ih
    · simp only[Z30.l5_succ _ qae]
      have:=F.hR
      refine qaB (zae (by omega)) ?_
      rw[qad (by omega)]
      exact hr
  -- a face' stores
  have r4:∀(s a T L R C:Nat) (F:CobF c p st ms k s a T L R C H W) (t:Nat) (ls:Sim) (n1:Int) (fs:Sim) (n2:Int) (cs:Sim) (hcs:cs.length=H*W) (r:Option Dv),
      (Ev fun φ=>Z30.l3 (mkR (run E (φ 0))) (φ 0) (φ 1) (φ 2) k (s:Int) ls n1 (t:Int) fs n2 ((a+1:Nat):Int) c p st ms 0 0 0 p (H:Int) (W:Int) (qed (stI p (mp c ms s a) W T L (sgn p a) R) cs)=r) →
      Ev fun φ=>Z30.l4 (mkR (run E (φ 0))) (φ 0) (φ 1) (φ 2) (φ 0) k (s:Int) (a:Int) (T:Int) (L:Int) ls n1 (t:Int) fs n2 (a:Int) (R:Int) 0 c p st ms 0 0 0 p (H:Int) (W:Int) (mp c ms s a).1 (R:Int) (C:Int) (mp c ms s a).2.2.2.1 cs=r:=by
    intro s a T L R C F t ls n1 fs n2 cs hcs r hr
    refine Ev.start (p:=fun φ n=>Z30.l4 (mkR (run E (φ 0))) (φ 0) (φ 1) (φ 2) n k (s:Int) (a:Int) (T:Int) (L:Int) ls n1 (t:Int) fs n2 (a:Int) (R:Int) 0 c p st ms 0 0 0 p (H:Int) (W:Int) (mp c ms s a).1 (R:Int) (C:Int) (mp c ms s a).2.2.2.1 cs=_) 3 ?_ (fun _ _ _ h=>h)
    refine qam 3 (L:=fun φ n i o=>Z30.l4 (mkR (run E (φ 0))) (φ 0) (φ 1) (φ 2) n k (s:Int) (a:Int) (T:Int) (L:Int) ls n1 (t:Int) fs n2 (a:Int) (R:Int) i c p st ms 0 0 0 p (H:Int) (W:Int) (mp c ms s a).1 (R:Int) (C:Int) (mp c ms s a).2.2.2.1 o) (len:=R) (fun i=>qed (stI p (mp c ms s a) W T L (sgn p a) i) cs) (fun _ _ _ _ _=>rfl) (fun i q hi ih=>?_) ?_
    · simp only[Z30.l4_succ _ qae]
      rw[qqH,F.eC,zai] at ih
      exact qax (zac (by omega)) (r5 s a T L R C i F t ls n1 fs n2 _ (by rw[qbR,hcs]) hi q ih)
    · simp only[Z30.l4_succ _ qae]
      have:=F.h4
      refine qaB (zae (by omega)) ?_
      rw[qad (by omega)]
      exact hr
  refine Ev.start (p:=fun φ n=>Z30.l1 (mkR (run E (φ 0))) (φ 0) n k (qay c (k+1) c.length) ((qay c (k+1) c.length).length:Int) 0 c p st ms 0 0 0 p (H:Int) (W:Int) (List.replicate (H*W) 0)=_) 1 ?_ (fun _ _ _ h=>h)
  refine qam 1 (L:=fun φ n t o=>Z30.l1 (mkR (run E (φ 0))) (φ 0) n k (qay c (k+1) c.length) ((qay c (k+1) c.length).length:Int) t c p st ms 0 0 0 p (H:Int) (W:Int) o) (len:=(qay c (k+1) c.length).length) (fun t=>qed (stS c p st ms k t) (List.replicate (H*W) 0)) (fun _ _ _ _ _=>rfl) (fun t q ht ih=>?_) ?_
  · simp only[Z30.l1_succ _ qae]
    obtain⟨s,hse,hs,hd⟩:=qeM.1 (zaj ht)
    rw[qp6 ht hse] at ih
    have hg:(qay c (k+1) c.length)[t]? = some (s:Int):=by rw[zag ht,hse]
    have hf4:=h.1.fIdx4 hs
    generalize hO:qed (stS c p st ms k t) (List.replicate (H*W) 0)=O at ih ⊢
    have hOl:O.length=H*W:=by rw[← hO,qbR,zas]
    refine qax (zac (by omega)) (qab (qaT.trans hg) (qaB (zae hk0) (qaa (qcm c s hs hc h.1.srt) ?_)))
    refine Ev.start (p:=fun φ n=>Z30.l3 (mkR (run E (φ 0))) (φ 0) (φ 1) n k (s:Int) (qay c (k+1) c.length) ((qay c (k+1) c.length).length:Int) (t:Int) (qaI c s) ((qaI c s).length:Int) 0 c p st ms 0 0 0 p (H:Int) (W:Int) O=_) 2 ?_ (fun _ _ _ h=>h)
    refine qam 2 (L:=fun φ n a o=>Z30.l3 (mkR (run E (φ 0))) (φ 0) (φ 1) n k (s:Int) (qay c (k+1) c.length) ((qay c (k+1) c.length).length:Int) (t:Int) (qaI c s) ((qaI c s).length:Int) a c p st ms 0 0 0 p (H:Int) (W:Int) o) (len:=(qaI c s).length) (fun a=>qed (stF c p st ms k s a) O) (fun _ _ _ _ _=>rfl) (fun a q2 ha ih2=>?_) ?_
    · simp only[Z30.l3_succ _ qae]
      obtain⟨T,L,R,C,F⟩:=qrS h hs (by omega) ha eH eW bH bW
      obtain⟨ix,hfc,_⟩:=qa1 h.1 hs ha
      have f1:=qde c p st ms s hs hc hl hst
      have f2:=qde c p st ms (fc c s a) hfc hc hl hst
      rw[F.eT] at f1
      rw[F.eL] at f2
      rw[qqv,tW,F.eT,F.eL,F.eR,zai,zai,zai] at ih2
      refine qax (zac (by omega)) (qab ix (qaa (qc3 c p st ms s a hs ha h) (qaa f1 (qaa f2 ?_))))
      simp only[F.eR,F.eC]
      exact r4 s a T L R C F t _ _ _ _ _ (by rw[qbR,hOl]) q2 ih2
    · simp only[Z30.l3_succ _ qae]
      refine qaB (zae (by omega)) ?_
      rw[qad (by omega)]
      exact ih
  · simp only[Z30.l1_succ _ qae,Z30.j2_eq _ qae]
    exact qaB (zae (by omega)) qal
end VeT
open Go Go.Proofs Ve
namespace VeT
theorem qox(m:Mat)(v:Sim)(hm:VM m)(hv:m.2.2.1≤v.length)(ev:∀ x∈v,0≤x∧x≤250):Ret E n_Z23 [dI m.1,dI m.2.1,dI m.2.2.1,dL m.2.2.2.1,dL v] ⟨o_Z23,(qhN m v m.2.1.toNat,())⟩:=by
 obtain⟨R,C,em,hR,hC,hlen⟩:=hm.nat
 have hp:2≤m.1∧m.1≤251:=⟨hm.1.1,hm.1.2.1⟩
 have el:=hm.2.2.2.2
 obtain⟨p,r,k,cs,⟨⟩⟩:=m
 simp only[Prod.mk.injEq,true_and,and_true] at em hlen hv hp el
 obtain⟨rfl,rfl⟩:=em
 have hRC:=qcP hR hC
 show Ret E n_Z23 [dI p,dI (R:Int),dI (C:Int),dL cs,dL v] ⟨o_Z23,(qhN (p,(R:Int),(C:Int),cs,()) v R,())⟩
 refine qai ?_
 simp only[run_Z23,Z23.ev]
 refine Ev.start (p:=fun φ n=>Z23.l0 (mkR (run E (φ 0))) (φ 0) n v (R:Int) 0 p (R:Int) (C:Int) cs []=_) 1 ?_ (fun _ _ _ h=>h)
 refine qam 1 (L:=fun φ n i a=>Z23.l0 (mkR (run E (φ 0))) (φ 0) n v (R:Int) i p (R:Int) (C:Int) cs a) (len:=R) (fun i=>qhN (p,(R:Int),(C:Int),cs,()) v i) (fun _ _ _ _ _=>rfl) (fun i q hi ih=>?_) ?_
 ·simp only[Z23.l0_succ _ qae]
  have hle:(i+1)*C≤R*C:=zaq _ hi
  have hrl:((cs.take ((i+1)*C)).drop (i*C)).length=C:=by
   rw[zbn,zax,Nat.min_eq_left (by omega),zar];omega
  have hd:=qpH ((cs.take ((i+1)*C)).drop (i*C)) v p hp (by omega) (by omega) (fun x hx=>el.mem hp x (zbx (zbJ hx))) ev
  have e:qaG (fun l=>((cs.take ((i+1)*C)).drop (i*C)).getD l 0) (fun l=>v.getD l 0) ((cs.take ((i+1)*C)).drop (i*C)).length=qaG (fun l=>cs.getD (i*C+l) 0) (fun l=>v.getD l 0) C:=by
   rw[hrl]
   exact qaw fun l hl=>⟨by
    rw[zaa,zaa,zaY,zaZ (by rw[zar];omega)],rfl⟩
  rw[e] at hd
  have ea:qhN (p,(R:Int),(C:Int),cs,()) v (i+1)=qhN (p,(R:Int),(C:Int),cs,()) v i++[qaG (fun l=>cs.getD (i*C+l) 0) (fun l=>v.getD l 0) C%p]:=by
   unfold qhN
   rw[zaA,zat];rfl
  rw[ea] at ih
  refine qax (zac (by omega)) (qaa (qeg p _ C cs i (by omega) (by omega) (by omega)) (qaa hd (qao (by simp[qbm];omega) ?_)))
  rw[qad (by omega)];exact ih
 ·simp only[Z23.l0_succ _ qae]
  exact qaB (zae (by omega)) qal
theorem qlh(m:Mat)(v:Sim)(hm:VM m)(hv:m.2.2.1≤v.length)(ev:∀ x∈v,0≤x∧x≤250):Ret E n_Z142 [dM m,dL v] ⟨o_Z142,(qhN m v m.2.1.toNat,())⟩:=by
 obtain⟨R,C,em,hR,hC,hlen⟩:=hm.nat
 have hp:2≤m.1∧m.1≤251:=⟨hm.1.1,hm.1.2.1⟩
 have el:=hm.2.2.2.2
 obtain⟨p,r,k,cs,⟨⟩⟩:=m
 simp only[Prod.mk.injEq,true_and,and_true] at em hlen hv hp el
 obtain⟨rfl,rfl⟩:=em
 have hRC:=qcP hR hC
 show Ret E n_Z142 [dM (p,(R:Int),(C:Int),cs,()),dL v] ⟨o_Z142,(qhN (p,(R:Int),(C:Int),cs,()) v R,())⟩
 refine qai ?_
 simp only[run_Z142,Z142.ev]
 refine Ev.start (p:=fun φ n=>Z142.l0 (mkR (run E (φ 0))) (φ 0) n (p,(R:Int),(C:Int),cs,()) v 0 []=_) 1 ?_ (fun _ _ _ h=>h)
 refine qam 1 (L:=fun φ n i a=>Z142.l0 (mkR (run E (φ 0))) (φ 0) n (p,(R:Int),(C:Int),cs,()) v i a) (len:=R) (fun i=>qhN (p,(R:Int),(C:Int),cs,()) v i) (fun _ _ _ _ _=>rfl) (fun i q hi ih=>?_) ?_
 ·simp only[Z142.l0_succ _ qae]
  have ea:qhN (p,(R:Int),(C:Int),cs,()) v (i+1)=qhN (p,(R:Int),(C:Int),cs,()) v i++[qaG (fun l=>cs.getD (i*C+l) 0) (fun l=>v.getD l 0) C%p]:=by
   unfold qhN
   rw[zaA,zat];rfl
  rw[ea] at ih
  have hle:(i+1)*C≤R*C:=zaq _ hi
  rw[zar] at hle
  have gv:∀ l,0≤v.getD l 0∧v.getD l 0≤250:=fun l=>by
   by_cases hl:l<v.length
   ·rw[qac hl];exact ev _ (zaj hl)
   ·rw[zaa,zaw (by omega)];simp
  refine qax (zac (by omega)) ?_
  generalize hA:qhN (p,(R:Int),(C:Int),cs,()) v i=A at ih ⊢
  have hAl:A.length=i:=by rw[← hA,qbm]
  refine Ev.start (p:=fun φ n=>Z142.l1 (mkR (run E (φ 0))) (φ 0) (φ 1) n (p,(R:Int),(C:Int),cs,()) v (i:Int) 0 0 A=_) 2 ?_ (fun _ _ _ h=>h)
  refine qam 2 (L:=fun φ n l a=>Z142.l1 (mkR (run E (φ 0))) (φ 0) (φ 1) n (p,(R:Int),(C:Int),cs,()) v (i:Int) a l A) (len:=C) (fun l=>qaG (fun l=>cs.getD (i*C+l) 0) (fun l=>v.getD l 0) l) (fun _ _ _ _ _=>rfl) (fun l q2 hl2 ih2=>?_) ?_
  ·simp only[Z142.l1_succ _ qae]
   have hvl:l<v.length:=by omega
   have hcl:i*C+l<cs.length:=by omega
   have b1:=qio (f:=fun l=>cs.getD (i*C+l) 0) (g:=fun l=>v.getD l 0) (n:=l) fun l _=>⟨el.get hp _,gv l⟩
   have b2:=qet (el.get hp (i*C+l)) (gv l)
   have e1:w64 (w64 ((i:Int)*(C:Int))+(l:Int))=((i*C+l:Nat):Int):=by
    rw[qa3,qag (n:=((i*C:Nat):Int)) (by omega) (by omega),qag (by omega) (by omega)];omega
   simp only[qaG] at ih2
   rw[qac hcl,qac hvl] at ih2 b2
   simp only[e1]
   refine qax (zac (by omega)) (qab (qak hcl) (qab (qak hvl) ?_))
   rw[qag (n:=cs[i*C+l]*v[l]) (by omega) (by omega),qag (by omega) (by omega),qad (by omega)]
   exact ih2
  ·simp only[Z142.l1_succ _ qae]
   have b1:=qio (f:=fun l=>cs.getD (i*C+l) 0) (g:=fun l=>v.getD l 0) (n:=C) fun l _=>⟨el.get hp _,gv l⟩
   refine qaB (zae (by omega)) (qao (by simp;omega) ?_)
   rw[zaH (by omega),qad (by omega)]
   exact qao (by simp[hAl];omega) ih
 ·simp only[Z142.l0_succ _ qae]
  exact qaB (zae (by omega)) qal
def Zs(v:Sim):Prop:=∀ x∈v,x=0
theorem qsJ{v:Sim}:pb (∀ j,0≤j→j<v.length→v.getD j 0=0)=pb (Zs v):=qaN ⟨fun h x hx=>by
 obtain⟨j,hj,rfl⟩:=zaC.1 hx
 have:=h j (by omega) hj
 rwa [qac hj] at this,fun h j _ hj=>by rw[qac hj];exact h _ (zaj hj)⟩
end VeT
open Go Go.Proofs Ve
namespace VeT
theorem qdg{p x x' y y':Int}(h1:x%p=x'%p)(h2:y%p=y'%p):x*y%p=x'*y'%p:=by
 rw[zbH x,h1,h2,← zbH]
theorem qh1{p x x':Int}(h:x%p=x'%p):∀ n:Nat,x ^ n%p=x' ^ n%p
 | 0=>by rw[Int.pow_zero,Int.pow_zero]
 | n+1=>by rw[Int.pow_succ,Int.pow_succ];exact qdg (qh1 h n) h
def qhy(a p:Int):Int:=a ^ (p-2).toNat%p
theorem qpb{a p:Int}(hp:2≤p):0≤qhy a p∧qhy a p≤p-1:=by
 have h0:=zbI (a ^ (p-2).toNat) (show p≠0 by omega)
 have h1:=zbA (a ^ (p-2).toNat) (show 0<p by omega)
 unfold qhy;omega
abbrev Ent:=Nat→Nat→Int
def qcJ(top q:Nat)(A:Ent):Ent:=fun i=>if i=top then A q else if i=q then A top else A i
def elN(p:Int)(c top:Nat)(B:Ent):Nat→Int:=fun j=>B top j*qhy (B top c) p%p
def elM(p:Int)(c top:Nat)(B:Ent):Ent:=fun i j=>if i=top then elN p c top B j else B i j
def elF(p:Int)(c top:Nat)(B:Ent):Ent:=fun i j=>if i=top then elN p c top B j else if B i c≠0 then(B i j+(p-B i c)*elN p c top B j)%p else B i j
noncomputable def elP(p:Int)(R c:Nat)(S:Ent×List Nat):Ent×List Nat :=
 match qaP (fun i=>S.1 i c≠0) S.2.length (R-S.2.length) with
 | none=>S
 | some q=>(elF p c S.2.length (qcJ S.2.length q S.1),S.2++[c])
noncomputable def elS(p:Int)(R:Nat)(A:Ent):Nat→Ent×List Nat
 | 0=>(A,[])
 | c+1=>elP p R c (elS p R A c)
def EIn(p:Int)(R W:Nat)(A:Ent):Prop:=∀ i j,i<R→j<W→0≤A i j∧A i j≤p-1
theorem EIn.sw{p:Int}{R W top q:Nat}{A:Ent}(h:EIn p R W A)(ht:top<R)(hq:q<R):EIn p R W (qcJ top q A):=fun i j hi hj=>by
 unfold qcJ;split
 ·exact h q j hq hj
 ·split
  ·exact h top j ht hj
  ·exact h i j hi hj
theorem qdK{p x:Int}(hp:2≤p):0≤x%p∧x%p≤p-1:=by
 have h0:=zbI x (show p≠0 by omega)
 have h1:=zbA x (show 0<p by omega)
 omega
theorem EIn.f{p:Int}{R W c top:Nat}{B:Ent}(h:EIn p R W B)(hp:2≤p):EIn p R W (elF p c top B):=fun i j hi hj=>by
 unfold elF;split
 ·exact qdK hp
 ·split
  ·exact qdK hp
  ·exact h i j hi hj
theorem qfl{p:Int}{R W:Nat}{A:Ent}(hp:2≤p)(h:EIn p R W A):∀ c,EIn p R W (elS p R A c).1∧(elS p R A c).2.length≤R∧(elS p R A c).2.length≤c∧∀ x∈(elS p R A c).2,x<c
 | 0=>⟨h,zaE _,zaE _,fun x hx=>by simp[elS] at hx⟩
 | c+1=>by
  obtain⟨h1,h2,h3,h4⟩:=qfl hp h c
  rw[elS,elP]
  cases hf:qaP (fun i=>(elS p R A c).1 i c≠0) (elS p R A c).2.length (R-(elS p R A c).2.length) with
  | none=>exact⟨h1,h2,by show(elS p R A c).2.length≤c+1;omega,fun x hx=>by have:=h4 x hx;omega⟩
  | some q =>
   have hq:=qaz hf
   refine⟨(h1.sw (by omega) (by omega)).f hp,?_,?_,fun x hx=>?_⟩
   ·simp only[zal,zaz];omega
   ·simp only[zal,zaz];omega
   ·rcases zam.1 hx with hx | hx
    ·have:=h4 x hx;omega
    ·rw[zaI] at hx;omega
def qaF(A:Ent)(R W:Nat):List Sim:=(List.range R).map fun i=>(List.range W).map (A i)
theorem qaO{A:Ent}{R W:Nat}:(qaF A R W).length=R:=by simp[qaF]
theorem qbH{A:Ent}{R W i:Nat}(hi:i<R):(qaF A R W)[i]? = some ((List.range W).map (A i)):=by
 unfold qaF;rw[zaD,zbg hi];rfl
theorem qbN{A B:Ent}{R W:Nat}(h:∀ i j,i<R→j<W→A i j=B i j):qaF A R W=qaF B R W :=
 zbu fun i hi=>zbu fun j hj=>h i j (zaG.1 hi) (zaG.1 hj)
theorem qgb{A:Ent}{R W i:Nat}{f:Nat→Int}:(qaF A R W).set i ((List.range W).map f)=qaF (fun k j=>if k=i then f j else A k j) R W:=by
 apply zbF
 intro k
 by_cases hk:k<R
 ·rw[qbH hk]
  by_cases hik:k=i
  ·subst hik
   rw[zaJ (by rw[qaO];exact hk)]
   simp
  ·rw[zaV (Ne.symm hik),qbH hk]
   simp[hik]
 ·rw[zaw (by rw[zaN,qaO];omega),zaw (by rw[qaO];omega)]
theorem qfT{f:Nat→Int}{W j:Nat}(hj:j<W):((List.range W).map f)[j]? = some (f j):=by
 rw[zaD,zbg hj];rfl
theorem qdc{A:Ent}{R W i j:Nat}{v:Int}(hi:i<R)(hj:j<W):(qar A W R).set (i*W+j) v=qar (fun k l=>if k=i∧l=j then v else A k l) W R:=by
 apply zbF
 intro n
 by_cases hn:n<R*W
 ·have hW:0<W:=by omega
  have e:n=n / W*W+n%W:=by have:=Nat.div_add_mod n W;rw[Nat.mul_comm] at this;omega
  have h1:n / W<R:=Nat.div_lt_of_lt_mul (by rw[Nat.mul_comm];exact hn)
  have h2:n%W<W:=Nat.mod_lt _ hW
  generalize n / W=a at e h1
  generalize n%W=b at e h2
  subst e
  rw[qbX h1 h2]
  by_cases hab:a=i∧b=j
  ·obtain⟨rfl,rfl⟩:=hab
   rw[zaJ (by rw[qas];exact hn)]
   simp
  ·rw[zaV,qbX h1 h2,if_neg hab]
   intro e
   have hbW:b<W:=h2
   have:a=i∧b=j:=by
    have h3:(i*W+j) / W=i:=by rw[Nat.mul_comm,Nat.mul_add_div (by omega),Nat.div_eq_of_lt hj,zbv]
    have h4:(a*W+b) / W=a:=by rw[Nat.mul_comm,Nat.mul_add_div (by omega),Nat.div_eq_of_lt hbW,zbv]
    have:a=i:=by rw[← h3,← h4,e]
    subst this
    exact⟨rfl,by omega⟩
   exact hab this
 ·rw[zaw (by rw[zaN,qas];omega),zaw (by rw[qas];omega)]
theorem qbF{A:Ent}{W:Nat}:∀ {R:Nat},(qaF A R W).flatten=qar A W R
 | 0=>by simp[qaF,qar]
 | R+1=>by
  have:=qbF (A:=A) (W:=W) (R:=R)
  unfold qaF at this ⊢
  rw[zaA,zat,zbN,this,qar]
  simp
def qbe(cells:Sim)(W:Nat):Ent:=fun i j=>cells.getD (i*W+j) 0
theorem qeN{cells:Sim}{R W:Nat}(h:cells.length=R*W):qar (qbe cells W) W R=cells:=by
 refine zbB (by rw[qas,h]) fun n h1 h2=>?_
 rw[qas] at h1
 have hW:0<W:=by
  cases W with
  | zero=>simp at h1
  | succ W=>omega
 have e:n=n / W*W+n%W:=by have:=Nat.div_add_mod n W;rw[Nat.mul_comm] at this;omega
 have h3:n / W<R:=Nat.div_lt_of_lt_mul (by rw[Nat.mul_comm];exact h1)
 have h4:n%W<W:=Nat.mod_lt _ hW
 have hg:=qbX (f:=qbe cells W) h3 h4
 rw[← e,zag (by rw[qas];exact h1)] at hg
 rw[zad hg]
 unfold qbe
 rw[← e,qac h2]
theorem qcn{p:Int}{cells:Sim}{R W:Nat}(h:qaC cells p)(hl:cells.length=R*W):EIn p R W (qbe cells W):=fun i j hi hj=>by
 unfold qbe
 have:=qeU hi hj
 rw[qac (by omega)]
 exact h _ (zaj _)
end VeT
open Go Go.Proofs Ve
namespace VeT
def qrd:Bool:=(List.range 252).all fun p=>!(decide (2≤p)&&(List.range 16).all fun k=>!(decide (2≤k)&&decide (k*k≤p)&&decide (p%k=0))) || (List.range p).all fun a=>a==0 || (a*(a ^ (p-2)%p)%p==1)
theorem qo7:qrd=true:=by kernel_rfl
theorem qmw{p a:Int}(hp:Pr p)(h1:1≤a)(h2:a≤p-1):a*qhy a p%p=1:=by
  obtain⟨hp2,hp251,hpk⟩:=hp
  obtain⟨P,rfl⟩:=zaL (show 0≤p by omega)
  obtain⟨N,rfl⟩:=zaL (show 0≤a by omega)
  have h:=qo7
  unfold qrd at h
  rw[zbl] at h
  have hP:=h P (zaG.2 (by omega))
  rw[Bool.or_eq_true] at hP
  rcases hP with hP | hP
  · exfalso
    rw[zbU,Bool.and_eq_false_iff] at hP
    rcases hP with hP | hP
    · have:=of_decide_eq_false hP;omega
    · rw[← Bool.not_eq_true,zbl] at hP
      refine hP fun k hk=>?_
      have hk16:=zaG.1 hk
      rw[zbU,Bool.and_eq_false_iff,Bool.and_eq_false_iff]
      by_cases hk2:2≤k
      · by_cases hkk:k*k≤P
        · right
          refine zae fun e=>?_
          have := hpk k hk2 (by have : ((k * k : Nat) : Int) ≤ (P : Int) := by omega
                                rwa [Int.natCast_mul] at this)
          exact this (by omega)
        · exact .inl (.inr (zae hkk))
      · exact .inl (.inl (zae hk2))
  · rw[zbl] at hP
    have hN:=hP N (zaG.2 (by omega))
    rw[Bool.or_eq_true] at hN
    rcases hN with hN | hN
    · have:N=0:=by simpa using hN
      omega
    · have hN:N*(N ^ (P-2)%P)%P=1:=by simpa using hN
      unfold qhy
      have e:((P:Int)-2).toNat=P-2:=by omega
      rw[e]
      have:((N*(N ^ (P-2)%P)%P:Nat):Int)=1:=by rw[hN];rfl
      rwa [Int.natCast_emod,Int.natCast_mul,Int.natCast_emod,Int.natCast_pow] at this
theorem qkE{c d g:Nat→Int}:∀ {n:Nat},qaG (fun i=>c i+d i) g n=qaG c g n+qaG d g n
 | 0=>rfl
 | n+1=>by simp only[qaG];rw[qkE,Int.add_mul];omega
theorem qlb{k:Int}{c g:Nat→Int}:∀ {n:Nat},qaG (fun i=>k*c i) g n=k*qaG c g n
 | 0=>by simp[qaG]
 | n+1=>by simp only[qaG];rw[qlb,Int.mul_add,zcc]
theorem qlT{k:Nat}{g:Nat→Int}:∀ {n:Nat},n≤k→qaG (fun i=>if i=k then 1 else 0) g n=0
 | 0,_=>rfl
 | n+1,h=>by simp only[qaG];rw[qlT (by omega),if_neg (by omega),Int.zero_mul];rfl
theorem qcI{k:Nat}{g:Nat→Int}:∀ {n:Nat},k<n→qaG (fun i=>if i=k then 1 else 0) g n=g k
 | n+1,h=>by
  simp only[qaG]
  by_cases hk:k=n
  ·subst hk;rw[qlT (zaf _),if_pos rfl,zco,Int.zero_add]
  ·rw[qcI (by omega),if_neg (by omega),Int.zero_mul,zbL]
def Spn(p:Int)(R W:Nat)(A:Ent)(x:Nat→Int):Prop:=∃ c:Nat→Int,∀ j,j<W→qaG c (fun i=>A i j) R%p=x j%p
theorem Spn.row{p:Int}{R W:Nat}{A:Ent}{i:Nat}(hi:i<R):Spn p R W A (A i):=⟨fun k=>if k=i then 1 else 0,fun j _=>by rw[qcI hi]⟩
theorem Spn.congr{p:Int}{R W:Nat}{A:Ent}{x y:Nat→Int}(h:∀ j,j<W→x j%p=y j%p):Spn p R W A x→Spn p R W A y:=fun⟨c,hc⟩=>⟨c,fun j hj=>(hc j hj).trans (h j hj)⟩
theorem Spn.add{p:Int}{R W:Nat}{A:Ent}{x y:Nat→Int}(hx:Spn p R W A x)(hy:Spn p R W A y):Spn p R W A (fun j=>x j+y j):=by
 obtain⟨c,hc⟩:=hx
 obtain⟨d,hd⟩:=hy
 exact⟨fun i=>c i+d i,fun j hj=>by rw[qkE,zbo,hc j hj,hd j hj,← zbo]⟩
theorem Spn.smul{p:Int}{R W:Nat}{A:Ent}{x:Nat→Int}(k:Int)(hx:Spn p R W A x):Spn p R W A (fun j=>k*x j):=by
 obtain⟨c,hc⟩:=hx
 exact⟨fun i=>k*c i,fun j hj=>by rw[qlb,zbH,hc j hj,← zbH]⟩
theorem Spn.zero{p:Int}{R W:Nat}{A:Ent}:Spn p R W A (fun _=>0):=⟨fun _=>0,fun j _=>by
 have:∀ n,qaG (fun _=>0) (fun i=>A i j) n=0:=fun n=>by
  induction n with
  | zero=>rfl
  | succ n ih=>simp only[qaG,ih,Int.zero_mul];rfl
 rw[this]⟩
theorem Spn.sum{p:Int}{R W:Nat}{A B:Ent}{c:Nat→Int}:∀ {n:Nat},(∀ i,i<n→Spn p R W A (B i))→Spn p R W A (fun j=>qaG c (fun i=>B i j) n)
 | 0,_=>Spn.zero
 | n+1,h=>(Spn.sum (n:=n) fun i hi=>h i (by omega)).add ((h n (zbK n)).smul (c n))
theorem Spn.trans{p:Int}{R R' W:Nat}{A B:Ent}{x:Nat→Int}(h:∀ i,i<R'→Spn p R W A (B i))(hx:Spn p R' W B x):Spn p R W A x:=by
 obtain⟨c,hc⟩:=hx
 exact(Spn.sum h).congr hc
def Eqv(p:Int)(R W:Nat)(A B:Ent):Prop:=(∀ i,i<R→Spn p R W A (B i))∧(∀ i,i<R→Spn p R W B (A i))
theorem Eqv.refl{p:Int}{R W:Nat}{A:Ent}:Eqv p R W A A:=⟨fun _ h=>Spn.row h,fun _ h=>Spn.row h⟩
theorem Eqv.trans{p:Int}{R W:Nat}{A B C:Ent}(h:Eqv p R W A B)(k:Eqv p R W B C):Eqv p R W A C:=⟨fun i hi=>Spn.trans h.1 (k.1 i hi),fun i hi=>Spn.trans k.2 (h.2 i hi)⟩
theorem Eqv.sw{p:Int}{R W top q:Nat}{A:Ent}(ht:top<R)(hq:q<R):Eqv p R W A (qcJ top q A):=by
 refine⟨fun i hi=>?_,fun i hi=>?_⟩
 ·unfold qcJ
  split
  ·exact Spn.row hq
  ·split
   ·exact Spn.row ht
   ·exact Spn.row hi
 ·have key:∀ k,k<R→(qcJ top q A) k=A i→Spn p R W (qcJ top q A) (A i):=fun k hk e=>by rw[← e];exact Spn.row hk
  by_cases h1:i=top
  ·subst h1
   by_cases h2:q=i
   ·subst h2;exact key q hq (by simp[qcJ])
   ·exact key q hq (by simp[qcJ,h2])
  ·by_cases h2:i=q
   ·subst h2;exact key top ht (by simp[qcJ])
   ·exact key i hi (by simp[qcJ,h1,h2])
theorem Eqv.f{p:Int}{R W c top:Nat}{B:Ent}(hp:Pr p)(ht:top<R)(hl:1≤B top c∧B top c≤p-1):Eqv p R W B (elF p c top B):=by
 have hinv:=qmw hp hl.1 hl.2
 have hN:Spn p R W B (elN p c top B):=((Spn.row ht).smul (qhy (B top c) p)).congr fun j _=>by
  show qhy (B top c) p*B top j%p=(B top j*qhy (B top c) p%p)%p
  rw[zau _ (zaT p),zbV]
 have eTop:elF p c top B top=elN p c top B:=by funext j;simp[elF]
 have hN2:Spn p R W (elF p c top B) (elN p c top B):=by rw[← eTop];exact Spn.row ht
 refine⟨fun i hi=>?_,fun i hi=>?_⟩
 ·by_cases h1:i=top
  ·subst h1;rw[eTop];exact hN
  ·by_cases h2:B i c=0
   ·have e:elF p c top B i=B i:=by funext j;simp[elF,h1,h2]
    rw[e];exact Spn.row hi
   ·refine((Spn.row hi).add (hN.smul (p-B i c))).congr fun j _=>?_
    have e:elF p c top B i j=(B i j+(p-B i c)*elN p c top B j)%p:=by simp[elF,h1,h2]
    rw[e,zau _ (zaT p)]
 ·by_cases h1:i=top
  ·subst h1
   refine(hN2.smul (B i c)).congr fun j _=>?_
   show B i c*(B i j*qhy (B i c) p%p)%p=B i j%p
   rw[zbH,zau _ (zaT p),← zbH,show B i c*(B i j*qhy (B i c) p)=B i j*(B i c*qhy (B i c) p) by rw[← zcc,zbV (B i c),zcc],zbH,hinv,Int.mul_one,zau _ (zaT p)]
  ·by_cases h2:B i c=0
   ·have e:elF p c top B i=B i:=by funext j;simp[elF,h1,h2]
    rw[← e];exact Spn.row hi
   ·refine((Spn.row hi).add (hN2.smul (B i c))).congr fun j _=>?_
    have e:elF p c top B i j=(B i j+(p-B i c)*elN p c top B j)%p:=by simp[elF,h1,h2]
    rw[e,zbo,zau _ (zaT p),← zbo,show B i j+(p-B i c)*elN p c top B j+B i c*elN p c top B j=B i j+p*elN p c top B j by rw[Int.sub_mul];omega,zbZ]
structure Rf (R c:Nat) (B:Ent) (pv:List Nat):Prop where
 len:pv.length≤R
 lt:∀ i,i<pv.length→pv.getD i 0<c
 mono:∀ i j,i<j→j<pv.length→pv.getD i 0<pv.getD j 0
 one:∀ i j,i<R→j<pv.length→B i (pv.getD j 0)=if i=j then 1 else 0
 low:∀ i j,i<pv.length→j<pv.getD i 0→B i j=0
 bot:∀ i j,pv.length≤i→i<R→j<c→B i j=0
end VeT
open Go Go.Proofs Ve
namespace VeT
theorem qcE{l:List Nat}{c i:Nat}(h:i<l.length):(l++[c]).getD i 0=l.getD i 0:=by
 rw[zaa,zaa,zao h]
theorem qel{l:List Nat}{c:Nat}:(l++[c]).getD l.length 0=c:=by
 rw[zaa,zap (zaf _)];simp
theorem Rf.next{p:Int}{R W c:Nat}{B:Ent}{pv:List Nat}(hp:Pr p)(hB:EIn p R W B)(hc:c<W)(h:Rf R c B pv){q:Nat}(hq:pv.length≤q∧q<R)(hne:B q c≠0) :
  Rf R (c+1) (elF p c pv.length (qcJ pv.length q B)) (pv++[c]):=by
 obtain⟨hlen,hlt,hmono,hone,hlow,hbot⟩:=h
 generalize ht:pv.length=top at *
 have hB':EIn p R W (qcJ top q B):=hB.sw (by omega) hq.2
 have rowLt:∀ i,i<top→qcJ top q B i=B i:=fun i hi=>by
  unfold qcJ;rw[if_neg (by omega),if_neg (by omega)]
 have rowGe:∀ i,top≤i→i<R→∀ j,j<c→qcJ top q B i j=0:=fun i h1 h2 j hj=>by
  unfold qcJ
  split
  ·exact hbot q j hq.1 hq.2 hj
  ·split
   ·exact hbot top j (zaf _) (by omega) hj
   ·exact hbot i j h1 h2 hj
 have eLead:qcJ top q B top c=B q c:=by simp[qcJ]
 have hlead:1≤qcJ top q B top c∧qcJ top q B top c≤p-1:=by
  have:=hB q c hq.2 hc
  rw[eLead];omega
 generalize qcJ top q B=B' at hB' rowLt rowGe eLead hlead
 have hinv:=qmw hp hlead.1 hlead.2
 have nLt:∀ j,j<c→elN p c top B' j=0:=fun j hj=>by
  unfold elN;rw[rowGe top (zaf _) (by omega) j hj,Int.zero_mul];exact zcd p
 have nC:elN p c top B' c=1:=hinv
 have fLt:∀ i j,i<R→j<c→elF p c top B' i j=B' i j:=fun i j hi hj=>by
  unfold elF
  split
  ·rename_i e;subst e;rw[nLt j hj,rowGe i (zaf _) hi j hj]
  ·split
   ·rw[nLt j hj,zcj,zbL]
    have:=hB' i j hi (by omega)
    exact zbD this.1 (by omega)
   ·rfl
 have fC:∀ i,i<R→elF p c top B' i c=if i=top then 1 else 0:=fun i hi=>by
  unfold elF
  split
  ·exact nC
  ·split
   ·rw[nC,Int.mul_one,show B' i c+(p-B' i c)=p by omega,Int.emod_self]
   ·rename_i _ h2;exact Classical.byContradiction fun e=>h2 e
 refine⟨?_,?_,?_,?_,?_,?_⟩
 ·rw[zal,zaz,ht];omega
 ·intro i hi
  rw[zal,zaz,ht] at hi
  by_cases hi2:i<top
  ·rw[qcE (by omega)];have:=hlt i hi2;omega
  ·obtain rfl:i=top:=by omega
   subst ht
   rw[qel];omega
 ·intro i j hij hj
  rw[zal,zaz,ht] at hj
  by_cases hj2:j<top
  ·rw[qcE (by omega),qcE (by omega)];exact hmono i j hij hj2
  ·obtain rfl:j=top:=by omega
   have:=hlt i hij
   subst ht
   rw[qcE hij,qel];exact this
 ·intro i j hi hj
  rw[zal,zaz,ht] at hj
  by_cases hj2:j<top
  ·have hpj:=hlt j hj2
   rw[qcE (by omega),fLt i _ hi hpj]
   by_cases hi2:i<top
   ·rw[rowLt i hi2];exact hone i j hi hj2
   ·rw[rowGe i (by omega) hi _ hpj,if_neg (by omega)]
  ·obtain rfl:j=top:=by omega
   have hfc:=fC i hi
   subst ht
   rw[qel];exact hfc
 ·intro i j hi hj
  rw[zal,zaz,ht] at hi
  by_cases hi2:i<top
  ·rw[qcE (by omega)] at hj
   have:=hlt i hi2
   rw[fLt i j (by omega) (by omega),rowLt i hi2];exact hlow i j hi2 hj
  ·obtain rfl:i=top:=by omega
   have hfl:j<c→elF p c i B' i j=0:=fun h=>by rw[fLt i j (by omega) h];exact rowGe i (zaf _) (by omega) j h
   have e:(pv++[c]).getD i 0=c:=by rw[← ht];exact qel
   rw[e] at hj
   exact hfl hj
 ·intro i j hi hiR hj
  rw[zal,zaz,ht] at hi
  by_cases hjc:j<c
  ·rw[fLt i j hiR hjc];exact rowGe i (by omega) hiR j hjc
  ·obtain rfl:j=c:=by omega
   rw[fC i hiR,if_neg (by omega)]
theorem qhs{p:Int}{R W:Nat}{A:Ent}(hp:Pr p)(hA:EIn p R W A):∀ c,c≤W→Rf R c (elS p R A c).1 (elS p R A c).2∧Eqv p R W A (elS p R A c).1
 | 0,_=>⟨⟨zaE _,fun i h=>by simp[elS] at h,fun i j _ h=>by simp[elS] at h,fun i j _ h=>by simp[elS] at h,fun i j h=>by simp[elS] at h,fun i j _ _ h=>by omega⟩,Eqv.refl⟩
 | c+1,hc=>by
  obtain⟨h1,h2⟩:=qhs hp hA c (by omega)
  have hB:=(qfl hp.1 hA c).1
  rw[elS,elP]
  generalize elS p R A c=S at h1 h2 hB
  obtain⟨B,pv⟩:=S
  simp only at h1 h2 hB ⊢
  cases hf:qaP (fun i=>B i c≠0) pv.length (R-pv.length) with
  | none =>
   have hn:=qcA hf
   show Rf R (c+1) B pv∧Eqv p R W A B
   refine⟨⟨h1.len,fun i hi=>by have:=h1.lt i hi;omega,h1.mono,h1.one,h1.low,fun i j h3 h4 h5=>?_⟩,h2⟩
   by_cases hj:j<c
   ·exact h1.bot i j h3 h4 hj
   ·obtain rfl:j=c:=by omega
    exact Classical.byContradiction fun e=>hn i h3 (by omega) e
  | some q =>
   have hq:=qaz hf
   have hq2:pv.length≤q∧q<R:=by omega
   have hlead:1≤qcJ pv.length q B pv.length c∧qcJ pv.length q B pv.length c≤p-1:=by
    have e:qcJ pv.length q B pv.length c=B q c:=by simp[qcJ]
    have:=hB q c hq2.2 (by omega)
    have:=hq.2.2
    rw[e];omega
   exact⟨h1.next hp hB (by omega) hq2 hq.2.2,(h2.trans (Eqv.sw (by omega) hq2.2)).trans (Eqv.f hp (by omega) hlead)⟩
end VeT
open Go Go.Proofs Ve
namespace VeT
end VeT
open Go Go.Proofs Ve
namespace VeT
end VeT
open Go Go.Proofs Ve
namespace VeT
def qbu(i j:Nat):Int:=if i=j then 1 else 0
def qbl(p:Int)(n:Nat):Mat:=(p,(n:Int),(n:Int),qar qbu n n,())
theorem qnQ(i j:Nat):Ret E n_Z85 [dI (i:Int),dI (j:Int)] ⟨o_Z85,(qbu i j,())⟩:=by
 refine qai ?_
 simp only[run_Z85,Z85.ev]
 refine qbS (fun h=>qah ?_) fun h=>qah ?_
 ·have h:(i:Int)=j:=by simpa using h
  rw[qbu,if_pos (by omega)]
 ·have h:¬ (i:Int)=j:=by simpa using h
  rw[qbu,if_neg (by omega)]
theorem qqJ(p:Int)(n:Nat)(hn:n≤32):Ret E n_Z84 [dI p,dI (n:Int)] ⟨o_Z84,qbl p n⟩:=by
 have h:=qcP hn hn
 refine qai ?_
 simp only[run_Z84,Z84.ev]
 exact qaa (qeB p n n qbu (by omega) (by omega) (by omega) fun i j _ _=>qnQ i j) qal
theorem qea(p:Int)(n:Nat)(hn:n≤32):Ret E n_Z154 [dI p,dI (n:Int)] ⟨o_Z154,qbl p n⟩:=by
 have h:=qcP hn hn
 refine qai ?_
 simp only[run_Z154,Z154.ev]
 refine qaa (qcC p n n hn hn) ?_
 refine Ev.start (p:=fun φ m=>Z154.l0 (mkR (run E (φ 0))) (φ 0) m (n:Int) 0 0 0 0 p (n:Int) (n:Int) (List.replicate (n*n) 0)=_) 1 ?_ (fun _ _ _ h=>h)
 have:=qam 1 (L:=fun φ m i o=>Z154.l0 (mkR (run E (φ 0))) (φ 0) m (n:Int) i 0 0 0 p (n:Int) (n:Int) o) (len:=n) (fun i=>qar qbu n i++List.replicate ((n-i)*n) 0) (r:=some ⟨o_Z154,qbl p n⟩) (fun _ _ _ _ _=>rfl) (fun i r hi ih=>?_) ?_
 ·simpa [qar] using this
 ·simp only[Z154.l0_succ _ qae]
  have hii:=qeU hi hi
  have hle:(i+1)*n≤n*n:=zaq _ hi
  rw[zar] at hle
  have hRi:(n-i)*n=n+(n-(i+1))*n:=by
   rw[show n-i=(n-(i+1))+1 by omega,zar];omega
  have hol:(qar qbu n i++List.replicate ((n-i)*n) (0:Int)).length=i*n+(n-i)*n:=by simp[qas]
  have e1:w64 (w64 ((i:Int)*(n:Int))+(i:Int))=((i*n+i:Nat):Int):=by
   rw[qa3,qag (n:=((i*n:Nat):Int)) (by omega) (by omega),qag (by omega) (by omega)];omega
  simp only[e1,zai]
  refine qax (zac (by omega)) (qao (by simp only[zah,decide_eq_true_eq,hol];omega) ?_)
  rw[qad (by omega)]
  have e2:(qar qbu n i++List.replicate ((n-i)*n) (0:Int)).set (i*n+i) 1=qar qbu n (i+1)++List.replicate ((n-(i+1))*n) 0:=by
   rw[List.set_append_right _ _ (by rw[qas];omega),qas,zaQ,qar,zaF]
   congr 1
   apply zbF
   intro j
   rw[List.getElem?_set,zas]
   by_cases hj:j<n
   ·rw[zao (by simpa using hj)]
    by_cases hij:i=j
    ·subst hij
     rw[if_pos rfl,if_pos (by omega)]
     simp[hj,qbu]
    ·rw[if_neg hij,zaB,if_pos (by omega)]
     simp[hj,qbu,hij]
   ·rw[if_neg (by omega),zap (by simpa using hj)]
    simp only[zaR,zaU,zaB]
    by_cases h2:j<(n-i)*n
    ·rw[if_pos h2,if_pos (by omega)]
    ·rw[if_neg h2,if_neg (by omega)]
  rw[e2]
  exact ih
 ·simp only[Z154.l0_succ _ qae]
  refine qaB (zae (by omega)) (qah ?_)
  simp[qbl]
end VeT
open Go Go.Proofs Ve
namespace VeT
theorem qlF(v:Sim)(n p:Int)(hv:v.length≤1048576)(hp:0≤p∧p≤1048576):Ret E n_Z62 [dL v,dI n,dI p] ⟨o_Z62,(pb (qaC v p∧(v.length:Int)=n),())⟩:=by
 refine qai ?_
 simp only[run_Z62,Z62.ev]
 refine qaa (qdm v) (qbS (fun h=>qaa (qdd v p hv hp) (qah ?_)) fun h=>qah ?_)
 ·have h:(v.length:Int)=n:=by simpa using h
  exact congrArg (fun b:Bool=>some (⟨o_Z62,(b,())⟩:Dv)) (qaN ⟨fun e=>⟨e,h⟩,fun e=>e.1⟩)
 ·have h:¬ (v.length:Int)=n:=by simpa using h
  rw[qaq fun e=>h e.2]
def qoE(x:Shf)(k:Int)(v:Sim):Prop:=qaC v x.2.1∧(v.length:Int)=SD x.1 x.2.2.1 k
noncomputable def qnC(x:Shf)(k:Int):Mat:=qqX x.1 x.2.1 x.2.2.1 x.2.2.2.1 k
theorem VM.len{m:Mat}(h:VM m):m.2.2.2.1.length≤1024:=by
 obtain⟨R,C,_,hR,hC,hl⟩:=h.nat
 have:=qcP hR hC
 omega
noncomputable def qnj(x:Shf)(k:Int)(v:Sim):Sim:=qhN (qnC x k) v (SD x.1 x.2.2.1 (k+1)).toNat
end VeT
open Go Go.Proofs Ve
namespace VeT
theorem qeL.lt{s:Sim}(h:qeL s):∀ {i j:Nat} (hj:j<s.length) (hij:i<j),s[i]<s[j]:=by
 intro i j
 induction j with
 | zero=>intro _ h;omega
 | succ j ih =>
  intro hj hij
  have:=h (j+1) (by omega) hj
  rw[Nat.add_sub_cancel,qac (by omega),qac hj] at this
  by_cases e:i=j
  ·subst e;exact this
  ·exact Int.lt_trans (ih (by omega) (by omega)) this
theorem qeL.pairwise{s:Sim}(h:qeL s):s.Pairwise (·<·):=by
 rw[zbp]
 intro i j hi hj hij
 exact h.lt hj hij
theorem qlV:∀ {a b:Sim},a.Pairwise (·<·)→b.Pairwise (·<·)→(∀ x,x∈a↔x∈b)→a=b
 | [],[],_,_,_=>rfl
 | [],y::ys,_,_,h=>absurd ((h y).2 zaS) (by simp)
 | x::xs,[],_,_,h=>absurd ((h x).1 zaS) (by simp)
 | x::xs,y::ys,ha,hb,h=>by
  rw[zbS] at ha hb
  have exy:x=y:=by
   have h1:=(h x).1 zaS
   have h2:=(h y).2 zaS
   rw[zaM] at h1 h2
   rcases h1 with h1 | h1
   ·exact h1
   ·rcases h2 with h2 | h2
    ·exact h2.symm
    ·have:=hb.1 x h1
     have:=ha.1 y h2
     omega
  subst exy
  congr 1
  refine qlV ha.2 hb.2 fun z=>⟨fun hz=>?_,fun hz=>?_⟩
  ·have:=(h z).1 (zbc _ hz)
   rw[zaM] at this
   rcases this with e | e
   ·have:=ha.1 z hz;omega
   ·exact e
  ·have:=(h z).2 (zbc _ hz)
   rw[zaM] at this
   rcases this with e | e
   ·have:=hb.1 z hz;omega
   ·exact e
theorem qln{a b:Sim}(ha:qeL a)(hb:qeL b)(h:qeI a b)(hne:a≠b):∃ i,∃ hi:i<b.length,¬ b[i]∈a∧∀ j (hj:j<i),b[j]∈a:=by
 have hex:∃ x∈b,¬ x∈a:=Classical.byContradiction fun hn=>hne (qlV ha.pairwise hb.pairwise fun x=>⟨h x,fun hx=>Classical.byContradiction fun hxa=>hn ⟨x,hx,hxa⟩⟩)
 obtain⟨x,hx,hxa⟩:=hex
 obtain⟨j,hj,rfl⟩:=zaC.1 hx
 have hf:b.findIdx (fun v=>!pb (v∈a))<b.length:=List.findIdx_lt_length_of_exists ⟨b[j],hx,by rw[qaq hxa];rfl⟩
 refine⟨b.findIdx (fun v=>!pb (v∈a)),hf,?_,fun q hq=>?_⟩
 ·have:=List.findIdx_getElem (w:=hf)
  exact qa0.1 (by simpa using this)
 ·have:=List.not_of_lt_findIdx hq
  exact qaD.1 (by simpa using this)
theorem qc4{a b:Sim}(h:qeI a b){i:Nat}(hi:i<b.length)(hn:¬ b[i]∈a):qeI a (b.eraseIdx i):=by
 intro x hx
 obtain⟨j,hj,rfl⟩:=zaC.1 (h x hx)
 have hji:j≠i:=fun e=>hn (by subst e;exact hx)
 rw[zcl]
 by_cases hlt:j<i
 ·exact⟨j,by rw[zba,if_pos hlt,zag hj]⟩
 ·exact⟨j-1,by rw[zba,if_neg (by omega),show j-1+1=j by omega,zag hj]⟩
end VeT
open Go Go.Proofs Ve
namespace VeT
theorem qq0{W a b a' b':Nat}(hb:b<W)(hb':b'<W)(e:a*W+b=a'*W+b'):a=a'∧b=b':=by
 have h1:(a*W+b) / W=a:=by rw[Nat.mul_comm,Nat.mul_add_div (by omega),Nat.div_eq_of_lt hb,zbv]
 have h2:(a'*W+b') / W=a':=by rw[Nat.mul_comm,Nat.mul_add_div (by omega),Nat.div_eq_of_lt hb',zbv]
 have:a=a':=by rw[← h1,← h2,e]
 subst this
 exact⟨rfl,by omega⟩
theorem qsg{c:List Sim}{st:Sim}(hst:∀ x∈st,0≤x∧x≤3){s s':Nat}(hl:(c.getD s []).length=(c.getD s' []).length)(h:s<s'):FC c st s+st.getD s 0≤FC c st s':=by
 unfold FC
 rw[← hl]
 exact qpO hst h (by omega)
theorem qkf{c:List Sim}{st:Sim}(hst:∀ x∈st,0≤x∧x≤3){s s' i i':Nat}(hl:(c.getD s []).length=(c.getD s' []).length)(hi:i<(st.getD s 0).toNat)(hi':i'<(st.getD s' 0).toNat)
  (e:(FC c st s).toNat+i=(FC c st s').toNat+i'):s=s'∧i=i':=by
 have n1:0≤FC c st s:=(qhb hst).1
 have n2:0≤FC c st s':=(qhb hst).1
 rcases zbw s s' with h | h | h
 ·have:=qsg hst hl h;omega
 ·subst h;exact⟨rfl,by omega⟩
 ·have:=qsg hst hl.symm h;omega
theorem qpk{s:Sim}(hs:qeL s){a b:Nat}(ha:a<s.length)(hb:b<s.length)(e:s.eraseIdx a=s.eraseIdx b):a=b:=by
 have key:∀ {a b:Nat},a<b→b<s.length→s.eraseIdx a=s.eraseIdx b→False:=fun {a b} hab hb e=>by
  have h:=congrArg (·[a]?) e
  simp only[zba] at h
  rw[if_neg (by omega),if_pos hab,zag (by omega),zag (by omega)] at h
  have h:=zad h
  have:=hs.lt (i:=a) (j:=a+1) (by omega) (by omega)
  omega
 rcases zbw a b with h | h | h
 ·exact absurd e fun e=>key h hb e
 ·exact h
 ·exact absurd e.symm fun e=>key h ha e
theorem qrb{c:List Sim}(hv:VC c){s a b:Nat}(hs:s<c.length)(ha:a<(qaI c s).length)(hb:b<(qaI c s).length)(e:fc c s a=fc c s b):a=b:=by
 obtain⟨_,_,ea⟩:=qa1 hv hs ha
 obtain⟨_,_,eb⟩:=qa1 hv hs hb
 have hl:=qaE (c:=c) (k:=s)
 rw[e,eb] at ea
 split at hl
 ·exact(qpk (hv.2.1 s hs).2.2.1 (by omega) (by omega) ea).symm
 ·omega
theorem qo6{c:List Sim}{p:Int}{st:Sim}{ms:List Mat}(h:VS c p st ms){k:Int}(hk:0≤k){s a i j:Nat}(hs:s<c.length)(hd:((c.getD s []).length:Int)=k+2)(ha:a<(qaI c s).length)
  (hi:i<(st.getD s 0).toNat) (hj:j<(st.getD (fc c s a) 0).toNat) :
  (qjq c p st ms k).getD (((FC c st s).toNat+i)*(SD c st k).toNat+((FC c st (fc c s a)).toNat+j)) 0=(mp c ms s a).2.2.2.1.getD (i*(mp c ms s a).2.2.1.toNat+j) 0*sgn p a%p:=by
 have hst:=h.2.2.1.2.1
 obtain⟨g1,g2,g3,g4,g5,g6,g7⟩:=qdH h hs hd ha
 have hW:(FC c st (fc c s a)).toNat+j<(SD c st k).toNat:=by omega
 have hH:(FC c st s).toNat+i<(SD c st (k+1)).toNat:=by omega
 unfold qjq
 rw[if_neg (by omega)]
 refine qny (by rw[zas];exact qeU hH hW) (fun x hx e=>?_) ⟨_,(qku (zaf _)).2 ⟨s,hs,hd,qkj.2 ⟨a,i,j,ha,by omega,by omega,rfl⟩⟩,by simp only;omega⟩
 obtain⟨s',hs',hd',hx⟩:=(qku (zaf _)).1 hx
 obtain⟨a',i',j',ha',hi',hj',rfl⟩:=qkj.1 hx
 obtain⟨q1,q2,q3,q4,q5,q6,q7⟩:=qdH h hs' hd' ha'
 simp only at e ⊢
 have hW':(FC c st (fc c s' a')).toNat+j'<(SD c st k).toNat:=by omega
 have e0:((FC c st s').toNat+i')*(SD c st k).toNat+((FC c st (fc c s' a')).toNat+j')=((FC c st s).toNat+i)*(SD c st k).toNat+((FC c st (fc c s a)).toNat+j):=by omega
 obtain⟨e1,e2⟩:=qq0 hW' hW e0
 obtain⟨rfl,rfl⟩:=qkf hst (by omega) (by omega) (by omega) e1
 obtain⟨e3,rfl⟩:=qkf hst (by omega) (by omega) (by omega) e2
 obtain rfl:=qrb h.1 hs ha' ha e3
 rfl
theorem qqt{c:List Sim}{p:Int}{st:Sim}{ms:List Mat}(h:VS c p st ms){k:Int}{s i g:Nat}(hs:s<c.length)(hd:((c.getD s []).length:Int)=k+2)
  (hi:i<(st.getD s 0).toNat) (hg:g<(SD c st k).toNat) (hno:∀ a,a<(qaI c s).length→¬ ((FC c st (fc c s a)).toNat≤g∧g<(FC c st (fc c s a)).toNat+(st.getD (fc c s a) 0).toNat)) :
  (qjq c p st ms k).getD (((FC c st s).toNat+i)*(SD c st k).toNat+g) 0=0:=by
 have hst:=h.2.2.1.2.1
 have hrep:∀ n q,(List.replicate n (0:Int)).getD q 0=0:=fun n q=>by
  rw[zaa,zaB];split<;>rfl
 unfold qjq
 split
 ·exact hrep _ _
 rw[qiP fun x hx e=>?_]
 ·exact hrep _ _
 obtain⟨s',hs',hd',hx⟩:=(qku (zaf _)).1 hx
 obtain⟨a',i',j',ha',hi',hj',rfl⟩:=qkj.1 hx
 obtain⟨q1,q2,q3,q4,q5,q6,q7⟩:=qdH h hs' hd' ha'
 simp only at e
 have hW':(FC c st (fc c s' a')).toNat+j'<(SD c st k).toNat:=by omega
 have e0:((FC c st s').toNat+i')*(SD c st k).toNat+((FC c st (fc c s' a')).toNat+j')=((FC c st s).toNat+i)*(SD c st k).toNat+g:=by omega
 obtain⟨e1,e2⟩:=qq0 hW' hg e0
 obtain⟨rfl,rfl⟩:=qkf hst (by omega) (by omega) (by omega) e1
 exact hno a' ha' ⟨by omega,by omega⟩
end VeT
open Go Go.Proofs Ve
namespace VeT
noncomputable def fv(c:List Sim)(f k:Nat):Nat:=(c.getD k []).findIdx (fun v=>!pb (v∈c.getD f []))
noncomputable def qcM(c:List Sim)(p:Int)(st:Sim)(ms:List Mat)(f:Nat):Nat→Nat→Mat
 | 0,k=>qbl p (st.getD f 0).toNat
 | d+1,k=>if f=k then qbl p (st.getD f 0).toNat else qdM (mp c ms k (fv c f k)) (qcM c p st ms f d (fc c k (fv c f k)))
theorem qdC{p:Int}{n:Nat}(hp:Pr p)(hn:n≤32):VM (qbl p n):=by
 refine⟨hp,⟨by show(0:Int)≤n;omega,by show(n:Int)≤32;omega⟩,⟨by show(0:Int)≤n;omega,by show(n:Int)≤32;omega⟩,?_,?_⟩
 ·show((qar qbu n n).length:Int)=(n:Int)*(n:Int)
  rw[qas,qa3]
 ·intro x hx
  have hx:x∈qar qbu n n:=hx
  have:∀ m,x∈qar qbu n m→0≤x∧x≤1:=by
   intro m
   induction m with
   | zero=>intro h;simp[qar] at h
   | succ m ih =>
    intro h
    rw[qar,zam] at h
    rcases h with h | h
    ·exact ih h
    ·rw[zaO] at h
     obtain⟨j,_,rfl⟩:=h
     unfold qbu;split<;>omega
  have:=this n hx
  have:=hp.1
  show 0≤x∧x≤p-1
  omega
theorem qcz{a b:Mat}(ha:VM a)(hb:VM b):VM (qdM a b):=by
 refine⟨ha.1,ha.2.1,hb.2.2.1,?_,?_⟩
 ·show((qar _ b.2.2.1.toNat a.2.1.toNat).length:Int)=a.2.1*b.2.2.1
  rw[qas]
  have h1:=ha.2.1
  have h2:=hb.2.2.1
  obtain⟨x,hx⟩:=zaL h1.1
  obtain⟨y,hy⟩:=zaL h2.1
  rw[hx,hy,qa3];rfl
 ·intro x hx
  have hx:x∈qar (qj2 a.1 a.2.2.2.1 b.2.2.2.1 a.2.2.1.toNat b.2.2.1.toNat) b.2.2.1.toNat a.2.1.toNat:=hx
  have hp:=ha.1.1
  have:∀ m,x∈qar (qj2 a.1 a.2.2.2.1 b.2.2.2.1 a.2.2.1.toNat b.2.2.1.toNat) b.2.2.1.toNat m→0≤x∧x≤a.1-1:=by
   intro m
   induction m with
   | zero=>intro h;simp[qar] at h
   | succ m ih =>
    intro h
    rw[qar,zam] at h
    rcases h with h | h
    ·exact ih h
    ·rw[zaO] at h
     obtain⟨j,_,rfl⟩:=h
     have h1:=zbI (qaG (fun l=>a.2.2.2.1.getD (m*a.2.2.1.toNat+l) 0) (fun l=>b.2.2.2.1.getD (l*b.2.2.1.toNat+j) 0) a.2.2.1.toNat) (show a.1≠0 by omega)
     have h2:=zbA (qaG (fun l=>a.2.2.2.1.getD (m*a.2.2.1.toNat+l) 0) (fun l=>b.2.2.2.1.getD (l*b.2.2.1.toNat+j) 0) a.2.2.1.toNat) (show 0<a.1 by omega)
     unfold qj2;omega
  exact this _ hx
theorem qgH(v:Int)(a:Sim)(ha:a.length≤1048576):Ret E n_Z75 [dI v,⟨.ptr (.cons (.sl (.int .i64)) .nil),(a,())⟩] ⟨o_Z75,(!pb (v∈a),())⟩:=by
 refine qai ?_
 simp only[run_Z75,Z75.ev]
 exact qaa (qeV a v ha) qal
structure Down (c:List Sim) (p:Int) (st:Sim) (ms:List Mat) (f k:Nat):Prop where
 v:VS c p st ms
 fl:f<c.length
 kl:k<c.length
 ne:f≠k
 pt:qeI (c.getD f []) (c.getD k [])
theorem Down.facts{c p st ms f k}(h:Down c p st ms f k):fv c f k<(c.getD k []).length∧fv c f k<(qaI c k).length∧(∀ j (hj:j<fv c f k) (hl:j<(c.getD k []).length),(c.getD k [])[j]∈c.getD f [])∧(∀ hl:fv c f k<(c.getD k []).length,¬ (c.getD k [])[fv c f k]∈c.getD f [])∧qeI (c.getD f []) (c.getD (fc c k (fv c f k)) [])∧(c.getD (fc c k (fv c f k)) []).length<(c.getD k []).length∧fc c k (fv c f k)<c.length:=by
 have hx:=h.v.1.2.1 f h.fl
 have hy:=h.v.1.2.1 k h.kl
 have hne:c.getD f []≠c.getD k []:=fun e=>by
  have hs:=h.v.1.srt
  rw[qac h.fl,qac h.kl] at e
  rcases Nat.lt_or_gt_of_ne h.ne with hlt | hlt
  ·have:=hs f k h.kl hlt;rw[e,qcr.2 rfl] at this;omega
  ·have:=hs k f h.fl hlt;rw[e,qcr.2 rfl] at this;omega
 obtain⟨i,hi,hin,hbef⟩:=qln hx.2.2.1 hy.2.2.1 h.pt hne
 have hfv:fv c f k<(c.getD k []).length:=List.findIdx_lt_length_of_exists ⟨_,zaj hi,by rw[qaq hin];rfl⟩
 have hno:∀ hl:fv c f k<(c.getD k []).length,¬ (c.getD k [])[fv c f k]∈c.getD f []:=fun hl=>by
  have t:(!pb ((c.getD k [])[fv c f k]∈c.getD f []))=true:=List.findIdx_getElem (w:=hl) (p:=fun v=>!pb (v∈c.getD f []))
  exact qa0.1 (by simpa only[zbU] using t)
 have hbf:∀ j (hj:j<fv c f k) (hl:j<(c.getD k []).length),(c.getD k [])[j]∈c.getD f []:=fun j hj hl=>by
  have:=List.not_of_lt_findIdx hj
  exact qaD.1 (by simpa using this)
 have h2:1<(c.getD k []).length:=by
  refine Classical.byContradiction fun hn=>?_
  have h1:(c.getD k []).length=1:=by omega
  have hf0:0<(c.getD f []).length:=hx.1
  have hm:=h.pt _ (zaj hf0)
  obtain⟨q,hq,e⟩:=zaC.1 hm
  have hq0:q=fv c f k:=by omega
  subst hq0
  exact hno hfv (e ▸ zaj hf0)
 have hil:fv c f k<(qaI c k).length:=by rw[qaE,if_pos h2];exact hfv
 obtain⟨_,hF,hFg⟩:=qa1 h.v.1 h.kl hil
 refine⟨hfv,hil,hbf,hno,?_,?_,hF⟩
 ·rw[hFg];exact qc4 h.pt hfv (hno hfv)
 ·rw[hFg,zbs,if_pos hfv];omega
end VeT
open Go Go.Proofs Ve
namespace VeT
theorem Down.idx{c p st ms f k}(h:Down c p st ms f k):qjz (fun v=>!pb (v∈c.getD f [])) (c.getD k [])=(fv c f k:Nat):=by
 obtain⟨h1,_,h3,h4,_⟩:=h.facts
 have:(c.getD k []).findIdx? (fun v=>!pb (v∈c.getD f []))=some (fv c f k):=by
  rw[zbz]
  exact⟨h1,by rw[qaq (h4 h1)];rfl,fun j hj=>by rw[qaK (h3 j hj (by omega))];simp⟩
 unfold qjz
 rw[this];rfl
theorem qnN{c p st ms}(h:VS c p st ms)(f:Nat)(hf:f<c.length):∃ hl:f<st.length,∃ n:Nat,st[f]=(n:Int)∧n≤3∧(st.getD f 0).toNat=n∧st.getD f 0=(n:Int):=by
 have hl:f<st.length:=by rw[h.2.2.1.1];exact hf
 have hb:=h.2.2.1.2.1 _ (zaj hl)
 obtain⟨n,hn⟩:=zaL hb.1
 exact⟨hl,n,hn,by omega,by rw[qac hl];omega,by rw[qac hl,hn]⟩
theorem qoJ{c:List Sim}{p:Int}{st:Sim}{ms:List Mat}(h:VS c p st ms){f:Nat}(hf:f<c.length):∀(d k:Nat),k<c.length→(c.getD k []).length≤d→qeI (c.getD f []) (c.getD k []) →
  VM (qcM c p st ms f d k)∧(qcM c p st ms f d k).2.1=st.getD k 0
 | 0,k,hk,hd,hp=>by have:=(h.1.2.1 k hk).1;omega
 | d+1,k,hk,hd,hp=>by
  obtain⟨_,n,_,hn,en,en2⟩:=qnN h f hf
  rw[qcM]
  by_cases e:f=k
  ·subst e
   rw[if_pos rfl,en,en2]
   exact⟨qdC h.2.1 (by omega),rfl⟩
  ·rw[if_neg e]
   have D:Down c p st ms f k:=⟨h,hf,hk,e,hp⟩
   obtain⟨_,f2,_,_,f5,f6,f7⟩:=D.facts
   obtain⟨r1,r2⟩:=qoJ h hf d (fc c k (fv c f k)) f7 (by omega) f5
   obtain⟨m1,m2,m3,m4⟩:=(h.map hk f2).2
   exact⟨qcz m1 r1,m3⟩
theorem ql4(c:List Sim)(p:Int)(st:Sim)(ms:List Mat)(hc:Sm (.sl (.sl (.int .i64))) c)(h:VS c p st ms)(f:Nat)(hf:f<c.length):∀(d k:Nat),k<c.length→(c.getD k []).length≤d→qeI (c.getD f []) (c.getD k []) →
  (VM (qcM c p st ms f d k)∧(qcM c p st ms f d k).2.1=st.getD k 0) ∧
  Ret E n_Z74 [dLL c,dI p,dL st,dMs ms,dI (f:Int),dI (k:Int)] ⟨o_Z74,qcM c p st ms f d k⟩:=by
 intro d
 obtain⟨hfl,n,hn,hn3,hnt,hng⟩:=qnN h f hf
 induction d with
 | zero =>
  intro k hk hd
  have:=(h.1.2.1 k hk).1
  omega
 | succ d ih =>
  intro k hk hd hpt
  have h4f:=h.1.len4 hf
  rw[qcM]
  by_cases hfk:f=k
  ·subst hfk
   rw[if_pos rfl,hnt]
   refine⟨⟨qdC h.2.1 (by omega),by rw[hng];rfl⟩,qai ?_⟩
   ·simp only[run_Z74,Z74.ev]
    refine qax (by simp) (qab (qak hfl) ?_)
    rw[hn]
    exact qaa (qqJ p n (by omega)) qal
  ·rw[if_neg hfk]
   have D:Down c p st ms f k:=⟨h,hf,hk,hfk,hpt⟩
   obtain⟨f1,f2,f3,f4,f5,f6,f7⟩:=D.facts
   obtain⟨⟨v1,v2⟩,r1⟩:=ih (fc c k (fv c f k)) f7 (by omega) f5
   obtain⟨ix,_,hFg⟩:=qa1 h.1 hk f2
   obtain⟨_,hB⟩:=h.map hk f2
   have hsh:(mp c ms k (fv c f k)).2.2.1=(qcM c p st ms f d (fc c k (fv c f k))).2.1:=by rw[hB.2.2.2,v2]
   have gf:c.getD f []=c[f]:=qac hf
   have gk:c.getD k []=c[k]:=qac hk
   have hlf:(c[f]).length≤1048576:=(qbk (t:=.sl (.int .i64)) (s:=c) hc hf).1
   have hlk:(c[k]).length≤1048576:=(qbk (t:=.sl (.int .i64)) (s:=c) hc hk).1
   refine⟨⟨qcz hB.1 v1,hB.2.2.1⟩,qai ?_⟩
   ·simp only[run_Z74,Z74.ev]
    refine qaB (by simp;omega) (qab (qak hf) (qab (qak hk) ?_))
    have hI:=qbz c[k] ((c[f],()),()) (fun v=>!pb (v∈c[f])) hlk fun v _=>qgH v c[f] hlf
    have hD:=D.idx
    rw[gf,gk] at hD
    rw[hD] at hI
    exact qaa hI (qaa (qcm c k hk hc h.1.srt) (qab ix (qaa (qc3 c p st ms k (fv c f k) hk f2 h) (qaa r1 (qaa (qiZ _ _ hB.1 v1 hsh) qal)))))
theorem qoF(c:List Sim)(p:Int)(st:Sim)(ms:List Mat)(hc:Sm (.sl (.sl (.int .i64))) c)(h:VS c p st ms)(f:Nat)(hf:f<c.length):∀(d k:Nat),k<c.length→(c.getD k []).length≤d→qeI (c.getD f []) (c.getD k []) →
    (VM (qcM c p st ms f d k)∧(qcM c p st ms f d k).2.1=st.getD k 0) ∧
    Ret E n_Z182 [dS (c,p,st,ms,()),dI (f:Int),dI (k:Int)] ⟨o_Z182,qcM c p st ms f d k⟩:=by
  intro d
  obtain⟨hfl,n,hn,hn3,hnt,hng⟩:=qnN h f hf
  induction d with
  | zero =>
    intro k hk hd
    have:=(h.1.2.1 k hk).1
    omega
  | succ d ih =>
    intro k hk hd hpt
    have h4f:=h.1.len4 hf
    rw[qcM]
    by_cases hfk:f=k
    · subst hfk
      rw[if_pos rfl,hnt]
      refine⟨⟨qdC h.2.1 (by omega),by rw[hng];rfl⟩,qai ?_⟩
      · simp only[run_Z182,Z182.ev]
        refine qax (by simp) (qab (qak (xs:=st) hfl) ?_)
        rw[hn]
        exact qaa (qea p n (by omega)) qal
    · rw[if_neg hfk]
      have D:Down c p st ms f k:=⟨h,hf,hk,hfk,hpt⟩
      obtain⟨f1,f2,f3,f4,f5,f6,f7⟩:=D.facts
      obtain⟨⟨v1,v2⟩,r2⟩:=ih (fc c k (fv c f k)) f7 (by omega) f5
      obtain⟨ix,_,hFg⟩:=qa1 h.1 hk f2
      obtain⟨_,hB⟩:=h.map hk f2
      have hsh:(mp c ms k (fv c f k)).2.2.1=(qcM c p st ms f d (fc c k (fv c f k))).2.1:=by rw[hB.2.2.2,v2]
      have gf:c.getD f []=c[f]:=qac hf
      have gk:c.getD k []=c[k]:=qac hk
      have hlf:(c[f]).length≤1048576:=(qbk (t:=.sl (.int .i64)) (s:=c) hc hf).1
      have hlk:(c[k]).length≤1048576:=(qbk (t:=.sl (.int .i64)) (s:=c) hc hk).1
      refine⟨⟨qcz hB.1 v1,hB.2.2.1⟩,qai ?_⟩
      · simp only[run_Z182,Z182.ev]
        refine qaB (by simp;omega) (qab (qak (xs:=c) hk) ?_)
        refine Ev.start (p:=fun φ m=>Z182.l0 (mkR (run E (φ 0))) (φ 0) m (c,p,st,ms,()) (f:Int) (k:Int) c[k] 0 0 0 0=_) 1 ?_ (fun _ _ _ h=>h)
        rw[gk] at f1
        refine qe4 1 (σ:=Nat) (L:=fun φ m i=>Z182.l0 (mkR (run E (φ 0))) (φ 0) m (c,p,st,ms,()) (f:Int) (k:Int) c[k] (i:Int) 0 0 0) (fun _ _ _ _=>rfl) (fun i=>i≤fv c f k) (fun _=>_) (fun i=>fv c f k-i) (fun i hi ihi=>?_) 0 (zaE _)
        have hi:i≤fv c f k:=hi
        have hil:i<(c[k]).length:=by omega
        simp only[Z182.l0_succ _ qae]
        refine qab (qak (xs:=c) hf) (qab (qak hil) (qaa (qjQ c[f] c[k][i] hlf) ?_))
        by_cases he:i=fv c f k
        · subst he
          have hno:¬ c[k][fv c f k]∈c[f]:=by
            have:=f4 (by rw[gk];exact f1)
            simpa only[gk,gf] using this
          exact qaB (qaq hno) (qaa (qcj c k hk hc) (qab ix (qaa r2 (qaa (qdY (c,p,st,ms,()) k (fv c f k) hk f2 h) (qaa (qeR _ _ hB.1 v1 hsh) qal)))))
        · have hin:c[k][i]∈c[f]:=by
            have:=f3 i (by omega) (by rw[gk];exact hil)
            simpa only[gk,gf] using this
          refine qax (qaK hin) ?_
          have h4k:=h.1.len4 hk
          rw[gk] at h4k
          rw[qad (by omega)]
          exact ihi (i+1) (by show i+1≤_;omega) (by show fv c f k-(i+1)<fv c f k-i;omega)
end VeT
open Go Go.Proofs Ve
namespace VeT
theorem VC.len1{c:List Sim}(h:VC c){k:Nat}(hk:k<c.length):1≤(c.getD k []).length:=(h.2.1 k hk).1
theorem qqz{c:List Sim}(h:VC c){v k:Nat}(hv:v<c.length)(h1:(c.getD v []).length=1)(hk:k<v):(c.getD k []).length=1:=by
 have hkc:k<c.length:=by omega
 have:=h.srt k v hv hk
 rw[qgO] at this
 have h2:=h.len1 hkc
 rw[qac hv] at h1
 rw[qac hkc] at h2 ⊢
 omega
theorem qru{c:List Sim}{st:Sim}{v:Nat}(h1:(c.getD v []).length=1):FC c st v=SDn c st 0 v:=by
 unfold FC;rw[h1];rfl
theorem qeZ(x:Shf)(v:Nat)(hv:v<x.1.length)(h1:(x.1.getD v []).length=1)(h:VS x.1 x.2.1 x.2.2.1 x.2.2.2.1):Ret E n_Z199 [dS x,dI (v:Int)] ⟨o_Z199,(FC x.1 x.2.2.1 v,())⟩:=by
 have h48:=h.1.1
 have hst:=h.2.2.1.2.1
 have hl:=h.2.2.1.1
 rw[qru h1]
 refine qai ?_
 simp only[run_Z199,Z199.ev]
 refine Ev.start (p:=fun φ n=>Z199.l0 (mkR (run E (φ 0))) (φ 0) n x (v:Int) 0 0=_) 1 ?_ (fun _ _ _ h=>h)
 refine qam 1 (L:=fun φ n k a=>Z199.l0 (mkR (run E (φ 0))) (φ 0) n x (v:Int) a k) (len:=v) (fun k=>SDn x.1 x.2.2.1 0 k) (fun _ _ _ _ _=>rfl) (fun k r hk ih=>?_) ?_
 ·have hks:k<x.2.2.1.length:=by omega
  simp only[Z199.l0_succ _ qae]
  have hb:=qhb (c:=x.1) (d:=0) hst (n:=k)
  have hb2:=hst _ (zaj hks)
  have hl1:=qqz h.1 hv h1 hk
  rw[qfc,if_pos (by omega),qac hks] at ih
  refine qax (zac (by omega)) (qab (qak hks) ?_)
  rw[qad (by omega),qag (by omega) (by omega)];exact ih
 ·simp only[Z199.l0_succ _ qae]
  exact qaB (zae (by omega)) qal
theorem qfb(x:Shf)(hc:Sm (.sl (.sl (.int .i64))) x.1)(h:VS x.1 x.2.1 x.2.2.1 x.2.2.2.1):Ret E n_Z187 [dS x] ⟨o_Z187,(SD x.1 x.2.2.1 0,())⟩:=by
 refine qai ?_
 simp only[run_Z187,Z187.ev]
 exact qaa (qgL x.1 x.2.2.1 0 hc h.2.2.1.1 h.2.2.1.2.1 (by omega)) qal
def qmj(a b:Sim)(c p:Int):Sim:=(List.range a.length).map fun i=>(a.getD i 0+c*b.getD i 0)%p
theorem qfK{a b:Sim}{c p:Int}:(qmj a b c p).length=a.length:=by simp[qmj]
theorem qnw{a b:Sim}{c p:Int}{i:Nat}(h:i<a.length):(qmj a b c p).getD i 0=(a.getD i 0+c*b.getD i 0)%p:=by
 simp[qmj,zaa,h]
theorem qn7{a b:Sim}{c p:Int}(hp:2≤p):qaC (qmj a b c p) p:=fun x hx=>by
 unfold qmj at hx
 obtain⟨i,_,rfl⟩:=zaO.1 hx
 have h0:=zbI (a.getD i 0+c*b.getD i 0) (show p≠0 by omega)
 have h1:=zbA (a.getD i 0+c*b.getD i 0) (show 0<p by omega)
 omega
theorem qj6(a b:Sim)(c p:Int)(hp:2≤p∧p≤251)(hc:0≤c∧c≤250)(hl:a.length≤b.length)(ha1:a.length≤1048576)(ea:∀ x∈a,0≤x∧x≤250)(eb:∀ x∈b,0≤x∧x≤250) :
  Ret E n_Z137 [dL a,dL b,dI c,dI p] ⟨o_Z137,(qmj a b c p,())⟩:=by
 refine qai ?_
 simp only[run_Z137,Z137.ev]
 refine Ev.start (p:=fun φ n=>Z137.l0 (mkR (run E (φ 0))) (φ 0) n a b c p 0 []=_) 1 ?_ (fun _ _ _ h=>h)
 refine qam 1 (L:=fun φ n k o=>Z137.l0 (mkR (run E (φ 0))) (φ 0) n a b c p k o) (len:=a.length) (fun k=>(List.range k).map fun i=>(a.getD i 0+c*b.getD i 0)%p) (fun _ _ _ _ _=>rfl) (fun k r hk ih=>?_) ?_
 ·simp only[Z137.l0_succ _ qae]
  have hkb:k<b.length:=by omega
  have h1:=ea _ (zaj hk)
  have h2:=qet hc (eb _ (zaj hkb))
  rw[zaA,zat,zca,qac hk,qac hkb] at ih
  refine qax (zac (by omega)) (qab (qak hk) (qab (qak hkb) (qao (by simp;omega) ?_)))
  rw[qag (n:=c*b[k]) (by omega) (by omega),qag (by omega) (by omega),zaH (by omega),qad (by omega)]
  exact qao (by simp;omega) ih
 ·simp only[Z137.l0_succ _ qae]
  exact qaB (zae (by omega)) qal
theorem qnE(a b:Sim)(p:Int)(hp:2≤p∧p≤251)(ha:a.length≤32)(hb:a.length≤b.length)(ea:∀ x∈a,0≤x∧x≤250)(eb:∀ x∈b,0≤x∧x≤250) :
  Ret E n_Z138 [dL a,dL b,dI p] ⟨o_Z138,(qaG (fun l=>a.getD l 0) (fun l=>b.getD l 0) a.length%p,())⟩:=by
 refine qai ?_
 simp only[run_Z138,Z138.ev]
 refine Ev.start (p:=fun φ n=>Z138.l0 (mkR (run E (φ 0))) (φ 0) n a b p 0 0=_) 1 ?_ (fun _ _ _ h=>h)
 have:=qam 1 (L:=fun φ n k s=>Z138.l0 (mkR (run E (φ 0))) (φ 0) n a b p s k) (len:=a.length) (fun k=>qaG (fun l=>a.getD l 0) (fun l=>b.getD l 0) k%p) (r:=some ⟨o_Z138,(qaG (fun l=>a.getD l 0) (fun l=>b.getD l 0) a.length%p,())⟩) (fun _ _ _ _ _=>rfl) (fun k r hk ih=>?_) ?_
 ·simpa [qaG] using this
 ·simp only[Z138.l0_succ _ qae]
  have hkb:k<b.length:=by omega
  have hm:=qet (ea _ (zaj hk)) (eb _ (zaj hkb))
  have h0:=zbI (qaG (fun l=>a.getD l 0) (fun l=>b.getD l 0) k) (show p≠0 by omega)
  have h1:=zbA (qaG (fun l=>a.getD l 0) (fun l=>b.getD l 0) k) (show 0<p by omega)
  refine qax (zac (by omega)) (qab (qak hk) (qab (qak hkb) (qao (by simp;omega) ?_)))
  rw[qag (n:=a[k]*b[k]) (by omega) (by omega),qag (by omega) (by omega),zaH (by omega),Int.emod_add_emod,qad (by omega)]
  simp only[qaG] at ih
  rw[qac hk,qac hkb] at ih
  exact ih
 ·simp only[Z138.l0_succ _ qae]
  exact qaB (zae (by omega)) qal
def qoe(m:Mat)(a:Nat)(t:Int)(i n:Nat):St:=(List.range n).map fun j=>(a+j,m.2.2.2.1.getD (i*m.2.2.1.toNat+j) 0*t%m.1)
def qhA(m:Mat)(a n:Nat)(t:Int)(i:Nat):Sim:=qed (qoe m a t i m.2.2.1.toNat) (List.replicate n 0)
theorem qnJ{m:Mat}{a:Nat}{t:Int}{i n:Nat}{cs:Sim}:qed (qoe m a t i (n+1)) cs=(qed (qoe m a t i n) cs).set (a+n) (m.2.2.2.1.getD (i*m.2.2.1.toNat+n) 0*t%m.1):=by
 unfold qoe
 rw[zaA,zat,qcD];rfl
theorem qb9{m:Mat}{a n:Nat}{t:Int}{i:Nat}:(qhA m a n t i).length=n:=by rw[qhA,qbR,zas]
theorem qhH{m:Mat}{a n:Nat}{t:Int}{i j:Nat}(hj:j<m.2.2.1.toNat)(hn:a+j<n):(qhA m a n t i).getD (a+j) 0=m.2.2.2.1.getD (i*m.2.2.1.toNat+j) 0*t%m.1:=by
 unfold qhA
 refine qny (by rw[zas];exact hn) (fun x hx e=>?_) ⟨_,zaO.2 ⟨j,zaG.2 hj,rfl⟩,rfl⟩
 obtain⟨j',_,rfl⟩:=zaO.1 hx
 simp only at e ⊢
 obtain rfl:j'=j:=by omega
 rfl
theorem qda{m:Mat}{a n:Nat}{t:Int}{i g:Nat}(h:¬ (a≤g∧g<a+m.2.2.1.toNat)):(qhA m a n t i).getD g 0=0:=by
 unfold qhA
 rw[qiP fun x hx e=>?_]
 ·rw[zaa,zaB];split<;>rfl
 ·obtain⟨j',hj',rfl⟩:=zaO.1 hx
  have:=zaG.1 hj'
  simp only at e
  omega
theorem qjM{m:Mat}{a n:Nat}{t:Int}{i:Nat}(hp:2≤m.1):qaC (qhA m a n t i) m.1:=by
 refine qgW (qi8 hp) fun q hq=>?_
 obtain⟨j,_,rfl⟩:=zaO.1 hq
 have h0:=zbI (m.2.2.2.1.getD (i*m.2.2.1.toNat+j) 0*t) (show m.1≠0 by omega)
 have h1:=zbA (m.2.2.2.1.getD (i*m.2.2.1.toNat+j) 0*t) (show 0<m.1 by omega)
 simp only;omega
theorem qiH(m:Mat)(a n:Nat)(t:Int)(hm:VM m)(ha:(a:Int)+m.2.2.1≤n)(hn:n≤1048576)(ht:0≤t∧t≤250):Ret E n_Z198 [dM m,dI (a:Int),dI (n:Int),dI t] ⟨o_Z198,((List.range m.2.1.toNat).map (qhA m a n t),())⟩:=by
 obtain⟨R,C,em,hR,hC,hlen⟩:=hm.nat
 have hp:2≤m.1∧m.1≤251:=⟨hm.1.1,hm.1.2.1⟩
 have el:=hm.2.2.2.2
 have eR:m.2.1=(R:Int):=congrArg (fun m:Mat=>m.2.1) em
 have eC:m.2.2.1=(C:Int):=congrArg (fun m:Mat=>m.2.2.1) em
 have hRC:=qcP hR hC
 rw[eC] at ha
 rw[eR,zai]
 refine qai ?_
 simp only[run_Z198,Z198.ev]
 refine Ev.start (p:=fun φ q=>Z198.l0 (mkR (run E (φ 0))) (φ 0) q m (a:Int) (n:Int) t 0 []=_) 1 ?_ (fun _ _ _ h=>h)
 refine qam 1 (L:=fun φ q i o=>Z198.l0 (mkR (run E (φ 0))) (φ 0) q m (a:Int) (n:Int) t i o) (len:=R) (fun i=>(List.range i).map (qhA m a n t)) (fun _ _ _ _ _=>rfl) (fun i r hi ih=>?_) ?_
 ·simp only[Z198.l0_succ _ qae,eR,zai]
  rw[zaA,zat,zca] at ih
  refine qax (zac (by omega)) (qao (by simp only[zah,decide_eq_true_eq];omega) ?_)
  refine Ev.start (p:=fun φ q=>Z198.l1 (mkR (run E (φ 0))) (φ 0) (φ 1) q m (a:Int) (n:Int) t (i:Int) 0 ((List.range i).map (qhA m a n t)) (List.replicate n 0)=_) 2 ?_ (fun _ _ _ h=>h)
  refine qam 2 (L:=fun φ q j o=>Z198.l1 (mkR (run E (φ 0))) (φ 0) (φ 1) q m (a:Int) (n:Int) t (i:Int) j ((List.range i).map (qhA m a n t)) o) (len:=C) (fun j=>qed (qoe m a t i j) (List.replicate n 0)) (fun _ _ _ _ _=>rfl) (fun j q hj ih2=>?_) ?_
  ·simp only[Z198.l1_succ _ qae]
   have hij:i*C+j<m.2.2.2.1.length:=by rw[hlen];exact qeU hi hj
   have hx:=el.get hp (i*C+j)
   rw[qnJ,eC,zai,qac hij] at ih2
   rw[qac hij] at hx
   have hol':(qed (qoe m a t i j) (List.replicate n 0)).length=n:=by rw[qbR,zas]
   have ev:=qpy hx ht hp
   have e1:w64 (w64 ((i:Int)*(C:Int))+(j:Int))=((i*C+j:Nat):Int):=by
    rw[qa3,qag (n:=((i*C:Nat):Int)) (by omega) (by omega),qag (by omega) (by omega)];omega
   have e2:w64 ((a:Int)+(j:Int))=((a+j:Nat):Int):=by rw[qag (by omega) (by omega)];omega
   simp only[eC,e1,e2,hol',zai]
   refine qax (zac (by omega)) (qab (qak hij) (qao (by simp;omega) ?_))
   simp only[ev]
   refine qao (by simp only[zah,decide_eq_true_eq];omega) ?_
   rw[qad (by omega)]
   exact ih2
  ·simp only[Z198.l1_succ _ qae,eC]
   refine qaB (zae (by omega)) (qao (by simp;omega) ?_)
   rw[qad (by omega)]
   rw[qhA,eC,zai] at ih
   exact ih
 ·simp only[Z198.l0_succ _ qae,eR]
  exact qaB (zae (by omega)) qal
theorem qog(a b:List Sim)(p:Int)(hp:2≤p∧p≤251)(hl:b.length=a.length)(ha:a.length≤1048576)(hr:∀ i (h:i<a.length) (h':i<b.length),a[i].length≤b[i].length∧a[i].length≤1048576∧(∀ x∈a[i],0≤x∧x≤250)∧∀ x∈b[i],0≤x∧x≤250) :
  Ret E n_Z200 [dLL a,dLL b,dI p] ⟨o_Z200,((List.range a.length).map fun i=>qmj (a.getD i []) (b.getD i []) 1 p,())⟩:=by
 refine qai ?_
 simp only[run_Z200,Z200.ev]
 refine Ev.start (p:=fun φ n=>Z200.l0 (mkR (run E (φ 0))) (φ 0) n a b p 0 []=_) 1 ?_ (fun _ _ _ h=>h)
 refine qam 1 (L:=fun φ n k o=>Z200.l0 (mkR (run E (φ 0))) (φ 0) n a b p k o) (len:=a.length) (fun k=>(List.range k).map fun i=>qmj (a.getD i []) (b.getD i []) 1 p) (fun _ _ _ _ _=>rfl) (fun k r hk ih=>?_) ?_
 ·simp only[Z200.l0_succ _ qae]
  have hkb:k<b.length:=by omega
  obtain⟨h1,h2,h3,h4⟩:=hr k hk hkb
  rw[zaA,zat,zca,qac hk,qac hkb] at ih
  refine qax (zac (by omega)) (qab (qak hk) (qab (qak hkb) (qaa (qj6 a[k] b[k] 1 p hp (by omega) h1 h2 h3 h4) (qao (by simp;omega) ?_))))
  rw[qad (by omega)];exact ih
 ·simp only[Z200.l0_succ _ qae]
  exact qaB (zae (by omega)) qal
end VeT
open Go Go.Proofs Ve
namespace VeT
noncomputable def qkJ(c:List Sim)(p:Int)(st:Sim)(ms:List Mat)(k:Int)(r:Nat):Sim:=(List.range (SD c st k).toNat).map fun g=>(qjq c p st ms k).getD (r*(SD c st k).toNat+g) 0
theorem qdh{c:List Sim}{p:Int}{st:Sim}{ms:List Mat}{k:Int}{r:Nat}:(qkJ c p st ms k r).length=(SD c st k).toNat:=by simp[qkJ]
theorem qge{c:List Sim}{p:Int}{st:Sim}{ms:List Mat}{k:Int}{r g:Nat}(h:g<(SD c st k).toNat):(qkJ c p st ms k r).getD g 0=(qjq c p st ms k).getD (r*(SD c st k).toNat+g) 0:=by
 simp[qkJ,zaa,h]
theorem qrB{c:List Sim}{p:Int}{st:Sim}{ms:List Mat}(h:VS c p st ms){k:Int}{r:Nat}:∀ x∈qkJ c p st ms k r,0≤x∧x≤250:=fun x hx=>by
 unfold qkJ at hx
 obtain⟨g,_,rfl⟩:=zaO.1 hx
 exact(qg4 h k).get ⟨h.2.1.1,h.2.1.2.1⟩ _
theorem qgj{a b:Sim}(hl:a.length=b.length)(h:∀ i,i<a.length→a.getD i 0=b.getD i 0):a=b:=by
 refine zbB hl fun i h1 h2=>?_
 have:=h i h1
 rwa [qac h1,qac h2] at this
theorem qga{c:List Sim}{s:Nat}(h2:(c.getD s []).length=2):(qaI c s).length=2:=by
 rw[qaE,if_pos (by omega)];exact h2
theorem qno{c:List Sim}{p:Int}{st:Sim}{ms:List Mat}(h:VS c p st ms){s i:Nat}(hs:s<c.length)(h2:(c.getD s []).length=2)(hi:i<(st.getD s 0).toNat) :
  qmj (qhA (mp c ms s 0) (FC c st (fc c s 0)).toNat (SD c st 0).toNat 1 i) (qhA (mp c ms s 1) (FC c st (fc c s 1)).toNat (SD c st 0).toNat (p-1) i) 1 p=qkJ c p st ms 0 ((FC c st s).toNat+i):=by
 have hst:=h.2.2.1.2.1
 have hp:2≤p∧p≤251:=⟨h.2.1.1,h.2.1.2.1⟩
 have hfl:=qga h2
 have hd:((c.getD s []).length:Int)=0+2:=by omega
 obtain⟨a1,a2,a3,a4,a5,a6,a7⟩:=qdH h hs hd (a:=0) (by omega)
 obtain⟨b1,b2,b3,b4,b5,b6,b7⟩:=qdH h hs hd (a:=1) (by omega)
 obtain⟨_,A⟩:=h.map hs (i:=0) (by omega)
 obtain⟨_,B⟩:=h.map hs (i:=1) (by omega)
 have hne:fc c s 0≠fc c s 1:=fun e=>by have:=qrb h.1 hs (a:=0) (b:=1) (by omega) (by omega) e;omega
 have na:=qcl hst (fc c s 0)
 have nb:=qcl hst (fc c s 1)
 refine qgj (by rw[qfK,qb9,qdh]) fun g hg=>?_
 rw[qfK,qb9] at hg
 rw[qnw (by rw[qb9];exact hg),qge hg]
 have one:∀ x:Int,(x%p+1*0)%p=x%p:=fun x=>by rw[zcj,zbL,zau _ (zaT p)]
 have two:∀ x:Int,(0+1*(x%p))%p=x%p:=fun x=>by rw[zco,Int.zero_add,zau _ (zaT p)]
 have A1:(mp c ms s 0).1=p:=A.2.1
 have B1:(mp c ms s 1).1=p:=B.2.1
 by_cases hA:(FC c st (fc c s 0)).toNat≤g∧g<(FC c st (fc c s 0)).toNat+(st.getD (fc c s 0) 0).toNat
 ·obtain⟨j,rfl⟩:∃ j,g=(FC c st (fc c s 0)).toNat+j:=⟨g-(FC c st (fc c s 0)).toNat,by omega⟩
  have hj:j<(st.getD (fc c s 0) 0).toNat:=by omega
  rw[qhH (by rw[a2];exact hj) hg,qda (m:=mp c ms s 1),A1,one]
  ·rw[qo6 h (by omega) hs hd (a:=0) (by omega) hi hj];rfl
  ·rw[b2]
   intro hh
   obtain⟨q,hq⟩:∃ q,(FC c st (fc c s 0)).toNat+j=(FC c st (fc c s 1)).toNat+q:=⟨(FC c st (fc c s 0)).toNat+j-(FC c st (fc c s 1)).toNat,by omega⟩
   exact hne (qkf hst (by omega) hj (i':=q) (by omega) hq).1
 ·by_cases hB:(FC c st (fc c s 1)).toNat≤g∧g<(FC c st (fc c s 1)).toNat+(st.getD (fc c s 1) 0).toNat
  ·obtain⟨j,rfl⟩:∃ j,g=(FC c st (fc c s 1)).toNat+j:=⟨g-(FC c st (fc c s 1)).toNat,by omega⟩
   have hj:j<(st.getD (fc c s 1) 0).toNat:=by omega
   rw[qda (m:=mp c ms s 0) (by rw[a2];exact hA),qhH (by rw[b2];exact hj) hg,B1,two]
   rw[qo6 h (by omega) hs hd (a:=1) (by omega) hi hj];rfl
  ·rw[qda (m:=mp c ms s 0) (by rw[a2];exact hA),qda (m:=mp c ms s 1) (by rw[b2];exact hB)]
   rw[qqt h hs hd hi hg fun a ha=>?_]
   ·simp
   ·have:a=0∨a=1:=by omega
    rcases this with rfl | rfl
    ·exact hA
    ·exact hB
noncomputable def qcs(c:List Sim)(p:Int)(st:Sim)(ms:List Mat)(n:Nat):List Sim:=(List.range n).map (qkJ c p st ms 0)
theorem qpx{c:List Sim}{p:Int}{st:Sim}{ms:List Mat}{a b:Nat}:qcs c p st ms (a+b)=qcs c p st ms a++(List.range b).map fun i=>qkJ c p st ms 0 (a+i):=by
 induction b with
 | zero=>simp
 | succ b ih =>
  unfold qcs at ih ⊢
  rw[← zbG,zaA,zat,ih,zaA,zat,zaF];rfl
theorem qbA{c:List Sim}{p:Int}{st:Sim}{ms:List Mat}{n:Nat}:(qcs c p st ms n).length=n:=by simp[qcs]
theorem qrH{c:List Sim}{st:Sim}{d:Int}{t s:Nat}(ht:t<(qay c d c.length).length)(hs:(qay c d c.length)[t]=(s:Int))(hd:((c.getD s []).length:Int)=d+1)(hsl:s<c.length):qgx c st d t=FC c st s:=by
 obtain⟨tl,e⟩:=qlm (c:=c) (d:=d) hsl hd
 have hu:t=(qay c d s).length:=by
  rcases zbw t (qay c d s).length with h | h | h
  ·have h1:(qay c d c.length)[t]? = (qay c d s)[t]?:=by rw[e,zao h]
   rw[zag ht,zag h,hs] at h1
   obtain⟨i,hi,his⟩:=qeX (zaj h)
   have:=zad h1
   omega
  ·exact h
  ·-- behind s only greater ones
   exfalso
   have hmono:∀ n m i j,i<(qay c d n).length→j<(qay c d n).length→i<j→m=n→(qay c d n).getD i 0<(qay c d n).getD j 0:=by
    intro n
    induction n with
    | zero=>intro m i j hi;simp[qay] at hi
    | succ n ih =>
     intro m i j hi hj hij hm
     rw[qcG] at hi hj ⊢
     by_cases hl:((c.getD n []).length:Int)=d+1
     ·rw[if_pos hl] at hi hj ⊢
      rw[zal,zaz] at hi hj
      by_cases hjn:j<(qay c d n).length
      ·have:=ih n i j (by omega) hjn hij rfl
       rw[zaa,zaa,zao (by omega),zao hjn]
       rw[zaa,zaa] at this
       exact this
      ·have hin:i<(qay c d n).length:=by omega
       obtain⟨q,hq,hqn⟩:=qeX (zaj hin)
       rw[zaa,zaa,zao hin,zap (by omega),zag hin,hq,show j-(qay c d n).length=0 by omega]
       simp;omega
     ·rw[if_neg hl,zbm] at hi hj ⊢
      exact ih n i j hi hj hij rfl
   have hlt:(qay c d s).length<(qay c d c.length).length:=by rw[e];simp
   have:=hmono c.length c.length _ t hlt ht h rfl
   rw[qac ht,hs,zaa,e,zap (zaf _),zbW] at this
   simp at this
 have hdd:((c.getD s []).length:Int)-1=d:=by omega
 unfold FC
 rw[hdd]
 unfold qgx SDn
 rw[hu,e,List.take_left' rfl]
theorem qcF(x:Shf)(hc:Sm (.sl (.sl (.int .i64))) x.1)(h:VS x.1 x.2.1 x.2.2.1 x.2.2.2.1):Ret E n_Z189 [dS x] ⟨o_Z189,(qcs x.1 x.2.1 x.2.2.1 x.2.2.2.1 (SD x.1 x.2.2.1 1).toNat,())⟩:=by
 obtain⟨c,p,st,ms,⟨⟩⟩:=x
 have hc:Sm (.sl (.sl (.int .i64))) c:=hc
 have h:VS c p st ms:=h
 show Ret E n_Z189 [dS (c,p,st,ms,())] ⟨o_Z189,(qcs c p st ms (SD c st 1).toNat,())⟩
 obtain⟨W,eW,bW,tW⟩:=qbY h 0
 obtain⟨H,eH,bH,tH⟩:=qbY h 1
 have hst:=h.2.2.1.2.1
 have h48:=h.1.1
 have hp:2≤p∧p≤251:=⟨h.2.1.1,h.2.1.2.1⟩
 have hol:=qbQ c 1 c.length
 have ep:w64 (p-1)=p-1:=qag (by omega) (by omega)
 have all:=qfb (c,p,st,ms,()) hc h
 rw[show SD (c,p,st,ms,()).1 (c,p,st,ms,()).2.2.1 0=(W:Int) from eW] at all
 refine qai ?_
 simp only[run_Z189,Z189.ev]
 refine qaa all (qaa (qlX c 1 hc (by omega)) ?_)
 refine Ev.start (p:=fun φ n=>Z189.l0 (mkR (run E (φ 0))) (φ 0) n (c,p,st,ms,()) (W:Int) (qay c 1 c.length) 0 []=_) 1 ?_ (fun _ _ _ h=>h)
 have:=qam 1 (L:=fun φ n t o=>Z189.l0 (mkR (run E (φ 0))) (φ 0) n (c,p,st,ms,()) (W:Int) (qay c 1 c.length) t o) (len:=(qay c 1 c.length).length) (fun t=>qcs c p st ms (qgx c st 1 t).toNat) (r:=some ⟨o_Z189,(qcs c p st ms (SD c st 1).toNat,())⟩) (fun _ _ _ _ _=>rfl) (fun t q ht ih=>?_) ?_
 ·exact this
 ·simp only[Z189.l0_succ _ qae]
  obtain⟨s,hse,hs,hd⟩:=qeM.1 (zaj ht)
  have hg:(qay c 1 c.length)[t]? = some (s:Int):=by rw[zag ht,hse]
  have h2:(c.getD s []).length=2:=by omega
  have hfl:=qga h2
  have hd0:((c.getD s []).length:Int)=0+2:=by omega
  obtain⟨a1,a2,a3,a4,a5,a6,a7⟩:=qdH h hs hd0 (a:=0) (by omega)
  obtain⟨b1,b2,b3,b4,b5,b6,b7⟩:=qdH h hs hd0 (a:=1) (by omega)
  obtain⟨_,A⟩:=h.map hs (i:=0) (by omega)
  obtain⟨_,B⟩:=h.map hs (i:=1) (by omega)
  obtain⟨ix0,_,_⟩:=qa1 h.1 hs (i:=0) (by omega)
  obtain⟨ix1,_,_⟩:=qa1 h.1 hs (i:=1) (by omega)
  have na:=qcl hst (fc c s 0)
  have nb:=qcl hst (fc c s 1)
  have ns:=qcl hst s
  have f0:=qeZ (c,p,st,ms,()) (fc c s 0) a3 (by show(c.getD (fc c s 0) []).length=1;omega) h
  have f1:=qeZ (c,p,st,ms,()) (fc c s 1) b3 (by show(c.getD (fc c s 1) []).length=1;omega) h
  obtain⟨T0,e0⟩:=zaL a6
  obtain⟨T1,e1⟩:=zaL b6
  rw[show FC (c,p,st,ms,()).1 (c,p,st,ms,()).2.2.1 (fc c s 0)=(T0:Int) from e0] at f0
  rw[show FC (c,p,st,ms,()).1 (c,p,st,ms,()).2.2.1 (fc c s 1)=(T1:Int) from e1] at f1
  have r0:=qiH (mp c ms s 0) T0 W 1 A.1 (by omega) (by omega) (by omega)
  have r1:=qiH (mp c ms s 1) T1 W (p-1) B.1 (by omega) (by omega) (by omega)
  have A1:(mp c ms s 0).1=p:=A.2.1
  have B1:(mp c ms s 1).1=p:=B.2.1
  have hR0:(mp c ms s 0).2.1.toNat=(st.getD s 0).toNat:=by rw[a1]
  have hR1:(mp c ms s 1).2.1.toNat=(st.getD s 0).toNat:=by rw[b1]
  rw[hR0] at r0
  rw[hR1] at r1
  have hin:∀ m:Mat,m.1=p→∀ a t i,∀ x∈qhA m a W t i,0≤x∧x≤250:=fun m hm a t i x hx=>by
   have:=qjM (m:=m) (a:=a) (n:=W) (t:=t) (i:=i) (by omega)
   rw[hm] at this
   exact this.mem hp x hx
  have sm:=qog ((List.range (st.getD s 0).toNat).map (qhA (mp c ms s 0) T0 W 1)) ((List.range (st.getD s 0).toNat).map (qhA (mp c ms s 1) T1 W (p-1))) p hp (by simp) (by rw[zaR,zaU];omega) (fun i hi hi'=>by
   simp only[List.getElem_map,List.getElem_range,qb9]
   exact⟨zaf _,by omega,hin _ A1 _ _ _,hin _ B1 _ _ _⟩)
  rw[zaR,zaU] at sm
  have hbk:=qhS hst 1 t (c:=c)
  have hFC:=qrH ht hse hd hs (st:=st)
  have hrow:((List.range (st.getD s 0).toNat).map fun i=>qmj (((List.range (st.getD s 0).toNat).map (qhA (mp c ms s 0) T0 W 1)).getD i []) (((List.range (st.getD s 0).toNat).map (qhA (mp c ms s 1) T1 W (p-1))).getD i []) 1 p)=(List.range (st.getD s 0).toNat).map fun i=>qkJ c p st ms 0 ((qgx c st 1 t).toNat+i):=zbu fun i hi=>by
   have hi:=zaG.1 hi
   have hE:=qno h hs h2 hi
   rw[e0,e1,zai,zai,tW] at hE
   rw[hFC,← hE]
   generalize (st.getD s 0).toNat=n at hi ⊢
   simp[zaa,hi]
  rw[hrow] at sm
  rw[qeK _ _ _ _ ht,hse,zai,show(qgx c st 1 t+st.getD s 0).toNat=(qgx c st 1 t).toNat+(st.getD s 0).toNat by omega,qpx] at ih
  refine qax (zac (by omega)) (qab (qaT.trans hg) (qaa (qcj c s hs hc) (qab (qaT.trans hg) (qab ix0 (qaa (qdY (c,p,st,ms,()) s 0 hs (by show 0<(qaI c s).length;omega) h) (qaa f0 (qaa r0 (qab (qaT.trans hg) (qab ix1 (qaa (qdY (c,p,st,ms,()) s 1 hs (by show 1<(qaI c s).length;omega) h) (qaa f1 ?_)))))))))))
  simp only[ep]
  refine qaa r1 (qaa sm (qao (by simp only[qbA,zaR,zaU,decide_eq_true_eq];omega) ?_))
  rw[qad (by omega)]
  exact ih
 ·simp only[Z189.l0_succ _ qae]
  exact qaB (zae (by omega)) qal
end VeT
open Go Go.Proofs Ve
namespace VeT
def Sec(x:Shf)(v:Sim):Prop:=qoE x 0 v∧Zs (qnj x 0 v)
theorem qjf(v:Sim)(p:Int)(hv:v.length≤1048576)(hp:0≤p∧p≤1048576):Ret E n_Z140 [dL v,dI p] ⟨o_Z140,(pb (qaC v p∧v.length≤64),())⟩:=by
  have e:w64 (p-1)=p-1:=qag (by omega) (by omega)
  refine qai ?_
  simp only[run_Z140,Z140.ev]
  refine Ev.start (p:=fun φ n'=>Z140.l0 (mkR (run E (φ 0))) (φ 0) n' v p 0=_) 1 ?_ (fun _ _ _ h=>h)
  refine(qdk 1 (L:=fun φ n' k=>Z140.l0 (mkR (run E (φ 0))) (φ 0) n' v p k) (len:=v.length) 0 (by omega) (fun j=>0≤v.getD j 0∧v.getD j 0≤p-1) (fun b=>some ⟨o_Z140,(b&&decide ((v.length:Int)≤64),())⟩) (fun _ _ _ _=>rfl) (fun k h1 h2 hP _=>?_) (fun k r h1 h2 hP _ ih=>?_) (fun _=>?_)).to ?_
  · simp only[Z140.l0_succ _ qae,e]
    rw[qac h2] at hP
    exact qax (zac (by omega)) (qab (qak h2) (qaa (qb5 _ _ _) (qax (by rw[qaq hP];rfl) qal)))
  · simp only[Z140.l0_succ _ qae,e]
    rw[qac h2] at hP
    refine qax (zac (by omega)) (qab (qak h2) (qaa (qb5 _ _ _) (qaB (by rw[qaK hP];rfl) ?_)))
    rw[qad (by omega)];exact ih
  · simp only[Z140.l0_succ _ qae]
    exact qaB (zae (by omega)) (qah (by rw[Bool.true_and]))
  · have:(pb (∀ j,0≤j→j<v.length→0≤v.getD j 0∧v.getD j 0≤p-1)&&decide ((v.length:Int)≤64))=pb (qaC v p∧v.length≤64):=qfy (by
      rw[zah,qaD,decide_eq_true_iff]
      refine⟨fun⟨h,h2⟩=>⟨fun x hx=>?_,by omega⟩,fun⟨h,h2⟩=>⟨fun j _ hj=>?_,by omega⟩⟩
      · obtain⟨j,hj,rfl⟩:=zaC.1 hx
        have:=h j (by omega) hj
        rwa [qac hj] at this
      · rw[qac hj];exact h _ (zaj hj))
    rw[this]
theorem qka(p n:Int)(v:Sim)(hv:v.length≤1048576)(hp:0≤p∧p≤1048576)(hn:n≤64):Ret E n_Z157 [dI p,dI n,dL v] ⟨o_Z157,(pb (qaC v p∧(v.length:Int)=n),())⟩:=by
 refine qai ?_
 simp only[run_Z157,Z157.ev]
 refine qaa (qjf v p hv hp) (qbS (fun h=>qah ?_) fun h=>qah ?_)
 ·have h:=qaD.1 (show pb (qaC v p∧v.length≤64)=true by simpa using h)
  have:((v.length:Int)==n)=pb (qaC v p∧(v.length:Int)=n):=qfy (by
   rw[beq_iff_eq];exact⟨fun e=>⟨h.1,e⟩,fun e=>e.2⟩)
  rw[this]
 ·have h:=qa0.1 (show pb (qaC v p∧v.length≤64)=false by simpa using h)
  rw[qaq fun e=>h ⟨e.1,by omega⟩]
theorem qou(x:Shf)(v:Sim)(hx:Sm (.st cS) x)(hv:Sm (.sl (.int .i64)) v)(hs:ISh x):Ret E n_Z194 [dS x,dL v] ⟨o_Z194,(pb (Sec x v),())⟩:=by
 have hp:=hs.1.2.1
 have hp2:2≤x.2.1∧x.2.1≤251:=⟨hp.1,hp.2.1⟩
 obtain⟨W,eW,bW,tW⟩:=qbY hs.1 0
 obtain⟨H,eH,bH,tH⟩:=qbY hs.1 1
 refine qai ?_
 simp only[run_Z194,Z194.ev]
 refine qaa (qfb x hx.1 hs.1) (qaa (qka x.2.1 (SD x.1 x.2.2.1 0) v hv.1 (by omega) (by omega)) (qbS (fun h=>qah ?_) fun h=>?_))
 ·have h:¬ qoE x 0 v:=qa0.1 (show pb (qoE x 0 v)=false by simpa [qoE] using h)
  rw[qaq fun e=>h e.1]
 have h:qoE x 0 v:=qaD.1 (show pb (qoE x 0 v)=true by simpa [qoE] using h)
 have hvl:v.length=W:=by have:=h.2;omega
 have hin:=h.1.mem hp2
 refine qaa (qcF x hx.1 hs.1) ?_
 rw[tH]
 refine Ev.start (p:=fun φ n'=>Z194.l0 (mkR (run E (φ 0))) (φ 0) n' x v (qcs x.1 x.2.1 x.2.2.1 x.2.2.2.1 H) 0=_) 1 ?_ (fun _ _ _ h=>h)
 have hval:∀ k,k<H→(qaG (fun l=>(qkJ x.1 x.2.1 x.2.2.1 x.2.2.2.1 0 k).getD l 0) (fun l=>v.getD l 0) (qkJ x.1 x.2.1 x.2.2.1 x.2.2.2.1 0 k).length%x.2.1)=(qnj x 0 v).getD k 0:=fun k hk=>by
  have e:(qnj x 0 v).getD k 0=qaG (fun l=>(qnC x 0).2.2.2.1.getD (k*W+l) 0) (fun l=>v.getD l 0) W%x.2.1:=by
   have e1:(qnC x 0).2.2.1.toNat=W:=tW
   have e2:(SD x.1 x.2.2.1 (0+1)).toNat=H:=tH
   unfold qnj qhN
   rw[e2,zaa,zaD,zbg hk,e1]
   rfl
  rw[e,qdh,tW,qaw fun l hl=>⟨(qge (by rw[tW];exact hl)),rfl⟩,tW]
  rfl
 have hdot:∀ k (hk:k<H),Ret E n_Z138 [dL (qkJ x.1 x.2.1 x.2.2.1 x.2.2.2.1 0 k),dL v,dI x.2.1] ⟨o_Z138,((qnj x 0 v).getD k 0,())⟩:=fun k hk=>by
  rw[← hval k hk]
  exact qnE _ v x.2.1 hp2 (by rw[qdh];omega) (by rw[qdh];omega) (qrB hs.1) hin
 have hg:∀ k,k<H→(qcs x.1 x.2.1 x.2.2.1 x.2.2.2.1 H)[k]? = some (qkJ x.1 x.2.1 x.2.2.1 x.2.2.2.1 0 k):=fun k hk=>by
  unfold qcs
  rw[zaD,zbg hk];rfl
 have hcl:(qnj x 0 v).length=H:=by unfold qnj;rw[qbm];exact tH
 refine(qdk 1 (L:=fun φ n' k=>Z194.l0 (mkR (run E (φ 0))) (φ 0) n' x v (qcs x.1 x.2.1 x.2.2.1 x.2.2.2.1 H) k) (len:=H) 0 (by omega) (fun j=>(qnj x 0 v).getD j 0=0) (fun b=>some ⟨o_Z194,(b,())⟩) (fun _ _ _ _=>rfl) (fun k h1 h2 hP _=>?_) (fun k r h1 h2 hP _ ih=>?_) (fun _=>?_)).to ?_
 ·simp only[Z194.l0_succ _ qae,qbA]
  exact qax (zac (by omega)) (qab (qaT.trans (hg k h2)) (qaa (hdot k h2) (qax (by simpa using hP) qal)))
 ·simp only[Z194.l0_succ _ qae,qbA]
  refine qax (zac (by omega)) (qab (qaT.trans (hg k h2)) (qaa (hdot k h2) (qaB (by simpa using hP) ?_)))
  rw[qad (by omega)];exact ih
 ·simp only[Z194.l0_succ _ qae,qbA]
  exact qaB (zae (by omega)) qal
 ·rw[← hcl,qsJ]
  exact congrArg (fun b:Bool=>some (⟨o_Z194,(b,())⟩:Dv)) (qaN ⟨fun e=>⟨h,e⟩,fun e=>e.2⟩)
noncomputable def fvx(c:List Sim)(s:Nat):Nat:=(qdL c ((c.getD s []).take 1)).toNat
theorem qnh{c:List Sim}(h:VC c){s:Nat}(hs:s<c.length):∀ d n,n+d=(c.getD s []).length→1≤n→(c.getD s []).take n∈c
 | 0,n,e,_=>by
  rw[zav (by omega),qac hs];exact zaj hs
 | d+1,n,e,h1=>by
  have hm:=qnh h hs d (n+1) (by omega) (by omega)
  obtain⟨k,hk,ek⟩:=zaC.1 hm
  have hf:=h.2.2.2 k hk ((c.getD s []).take n) (qcN.2 ⟨?_,n,?_,?_⟩)
  ·exact hf
  ·rw[qac hk,ek,zax];omega
  ·rw[qac hk,ek,zax];omega
  ·rw[qac hk,ek]
   apply zbF
   intro j
   rw[zba,zbf,zbf,zbf]
   by_cases hj:j<n
   ·rw[if_pos hj,if_pos hj,if_pos (by omega)]
   ·rw[if_neg hj,if_neg hj,if_neg (by omega)]
theorem qej{c:List Sim}(h:VC c){s:Nat}(hs:s<c.length):qdL c ((c.getD s []).take 1)=((fvx c s:Nat):Int)∧fvx c s<c.length∧c.getD (fvx c s) []=(c.getD s []).take 1∧(c.getD (fvx c s) []).length=1∧qeI (c.getD (fvx c s) []) (c.getD s []):=by
 have h1:=h.len1 hs
 have hm:=qnh h hs ((c.getD s []).length-1) 1 (by omega) (by omega)
 have h0:=qbb.2 hm
 have hlt:=qnl (c:=c) (s:=(c.getD s []).take 1)
 have hg:=qlt hm
 refine⟨by unfold fvx;omega,by unfold fvx;omega,hg,?_,fun y hy=>?_⟩
 ·show(c.getD (qdL c ((c.getD s []).take 1)).toNat []).length=1
  rw[hg,zax];omega
 ·have hy:y∈c.getD (qdL c ((c.getD s []).take 1)).toNat []:=hy
  rw[hg] at hy
  exact zbx hy
theorem qi4(x:Shf)(s:Nat)(hs:s<x.1.length)(hc:Sm (.sl (.sl (.int .i64))) x.1)(h:VC x.1):Ret E n_Z51 [dLL x.1,dI x.2.1,dL x.2.2.1,dMs x.2.2.2.1,dI (s:Int)] ⟨o_Z51,((fvx x.1 s:Nat),())⟩:=by
 have h1:=h.len1 hs
 have hg:=(qej h hs).1
 rw[qac hs] at h1 hg
 refine qai ?_
 simp only[run_Z51,Z51.ev]
 refine qab (qak hs) (qao (by simp only[zah,decide_eq_true_eq];omega) (qaa (qfP x.1 _ hc h.srt) (qah ?_)))
 rw[← hg];rfl
theorem qlW(x:Shf)(s:Nat)(hs:s<x.1.length)(hc:Sm (.sl (.sl (.int .i64))) x.1)(h:VC x.1):Ret E n_Z193 [dS x,dI (s:Int)] ⟨o_Z193,((fvx x.1 s:Nat),())⟩:=by
 have h1:=h.len1 hs
 have hg:=(qej h hs).1
 rw[qac hs] at h1 hg
 refine qai ?_
 simp only[run_Z193,Z193.ev]
 refine qab (qak hs) (qao (by simp only[zah,decide_eq_true_eq];omega) (qaa (qbP (x.1,()) _ hc) (qah ?_)))
 rw[← hg];rfl
theorem qfh{c:List Sim}{p:Int}{st:Sim}{ms:List Mat}{f:Nat}(hst:∀ x∈st,0≤x∧x≤3):∀ {d k:Nat},(qcM c p st ms f d k).2.2.1=st.getD f 0
 | 0,k=>by
  have:=qcl hst f
  show(((st.getD f 0).toNat:Nat):Int)=_;omega
 | d+1,k=>by
  have:=qcl hst f
  rw[qcM];split
  ·show(((st.getD f 0).toNat:Nat):Int)=_;omega
  ·exact qfh hst (d:=d)
noncomputable def qa2(x:Shf)(f k:Nat):Mat:=qcM x.1 x.2.1 x.2.2.1 x.2.2.2.1 f (x.1.getD k []).length k
theorem qlB{c:List Sim}{st v:Sim}{s:Nat}(hst:∀ x∈st,0≤x∧x≤3)(h:FC c st s+st.getD s 0≤v.length):((qfJ c st v s).length:Int)=st.getD s 0:=by
 have h0:0≤FC c st s:=(qhb hst).1
 have h1:=qcl hst s
 unfold qfJ
 rw[zbn,zax];omega
noncomputable def atV(x:Shf)(v:Sim)(s:Nat):Sim:=qhN (qa2 x (fvx x.1 s) s) (qfJ x.1 x.2.2.1 v (fvx x.1 s)) (x.2.2.1.getD s 0).toNat
theorem qjC{x:Shf}{v:Sim}{s:Nat}(h:VS x.1 x.2.1 x.2.2.1 x.2.2.2.1):(atV x v s).length≤3:=by
 have:=qcl h.2.2.1.2.1 s
 unfold atV;rw[qbm];omega
theorem qo9{x:Shf}{v:Sim}(h:VS x.1 x.2.1 x.2.2.1 x.2.2.2.1)(hv:qoE x 0 v){f:Nat}(hf:f<x.1.length)(h1:(x.1.getD f []).length=1):FC x.1 x.2.2.1 f+x.2.2.1.getD f 0≤v.length:=by
 have hb:=(qdr h.2.2.1.2.1 hf).2
 rw[show((x.1.getD f []).length:Int)-1=0 by omega,← hv.2] at hb
 exact hb
theorem qoK(x:Shf)(v:Sim)(s:Nat)(hs:s<x.1.length)(hx:Sm (.st cS) x)(hv1:Sm (.sl (.int .i64)) v)(h:VS x.1 x.2.1 x.2.2.1 x.2.2.2.1)(hv:qoE x 0 v) :
  Ret E n_Z188 [dS x,dL v,dI (s:Int)] ⟨o_Z188,(atV x v s,())⟩:=by
 obtain⟨_,hf,_,hf1,hpt⟩:=qej h.1 hs
 have hst:=h.2.2.1.2.1
 have hp2:2≤x.2.1∧x.2.1≤251:=⟨h.2.1.1,h.2.1.2.1⟩
 have hpl:=qo9 h hv hf hf1
 have hv2:v.length≤1048576:=hv1.1
 obtain⟨⟨hVM,hR⟩,r2⟩:=qoF x.1 x.2.1 x.2.2.1 x.2.2.2.1 hx.1 h (fvx x.1 s) hf _ s hs (zaf _) hpt
 have hlen:=qlB hst hpl
 have hsl:fvx x.1 s<x.2.2.1.length:=by rw[h.2.2.1.1];exact hf
 have hb1:0≤FC x.1 x.2.2.1 (fvx x.1 s):=(qhb hst).1
 have hb2:=qcl hst (fvx x.1 s)
 have e1:w64 (FC x.1 x.2.2.1 (fvx x.1 s)+x.2.2.1.getD (fvx x.1 s) 0)=FC x.1 x.2.2.1 (fvx x.1 s)+x.2.2.1.getD (fvx x.1 s) 0:=qag (by omega) (by omega)
 have ap:=qlh (qa2 x (fvx x.1 s) s) (qfJ x.1 x.2.2.1 v (fvx x.1 s)) hVM (by unfold qa2;rw[qfh hst,hlen];exact Int.le_refl _) fun y hy=>hv.1.mem hp2 y (zbx (zbJ hy))
 rw[show(qa2 x (fvx x.1 s) s).2.1=x.2.2.1.getD s 0 from hR] at ap
 unfold qfJ at ap
 rw[qac hsl] at e1 hpl hb2 ap
 have hq:FC x.1 x.2.2.1 (fvx x.1 s)≤FC x.1 x.2.2.1 (fvx x.1 s)+x.2.2.1[fvx x.1 s]:=by omega
 refine qai ?_
 simp only[run_Z188,Z188.ev]
 refine qaa (qlW x s hs hx.1 h.1) (qaa r2 (qaa (qeZ x (fvx x.1 s) hf hf1 h) (qab (qak hsl) ?_)))
 simp only[e1]
 refine qao (by simp only[zah,decide_eq_true_eq];exact⟨⟨hb1,hq⟩,hpl⟩) (qaa ap (qah ?_))
 rw[atV,qfJ,qac hsl]
end VeT
open Go Go.Proofs Ve
namespace VeT
def qdo(c:List Sim)(w:Sim):Prop:=qeL w∧∀ y∈w,0≤y∧y≤(c.length:Int)-1
theorem qkq(x:Shf)(w:Sim)(hc:x.1.length≤1048576)(hw:Sm (.sl (.int .i64)) w):Ret E n_Z26 [dLL x.1,dI x.2.1,dL x.2.2.1,dMs x.2.2.2.1,dL w] ⟨o_Z26,(pb (qdo x.1 w),())⟩:=by
 refine qai ?_
 simp only[run_Z26,Z26.ev]
 refine qaa (qhn w hw) (qbS (fun h=>qaa (qgi x.1) (qaa (qdd w (x.1.length:Int) hw.1 ⟨by omega,by omega⟩) (qah ?_))) fun h=>qah ?_)
 ·have h:=qaD.1 (show pb (qeL w)=true by simpa using h)
  exact congrArg (fun b:Bool=>some (⟨o_Z26,(b,())⟩:Dv)) (qaN ⟨fun e=>⟨h,e⟩,fun e=>e.2⟩)
 ·have h:=qa0.1 (show pb (qeL w)=false by simpa using h)
  rw[qaq fun e=>h e.1]
theorem qd5(x:Shf)(w:Sim)(hc:x.1.length≤1048576)(hw:Sm (.sl (.int .i64)) w):Ret E n_Z197 [dS x,dL w] ⟨o_Z197,(pb (qdo x.1 w),())⟩:=by
 have e:w64 ((x.1.length:Int)-1)=(x.1.length:Int)-1:=qag (by omega) (by omega)
 refine qai ?_
 simp only[run_Z197,Z197.ev,e]
 exact qaa (qhr w 0 ((x.1.length:Int)-1) hw) qal
theorem qdo.get{c:List Sim}{w:Sim}(h:qdo c w){i:Nat}(hi:i<w.length):∃ n:Nat,w[i]=(n:Int)∧n<c.length:=by
 have:=h.2 _ (zaj hi)
 exact⟨(w[i]).toNat,by omega,by omega⟩
open Classical in
noncomputable def PC(x:Shf)(w:Sim):Int:=if ISh x then(if qdo x.1 w then 0 else 2) else 1
theorem qd2{x:Shf}{w:Sim}:PC x w=0↔ISh x∧qdo x.1 w:=by
 unfold PC;split
 ·rename_i h
  split
  ·rename_i h2;exact⟨fun _=>⟨h,h2⟩,fun _=>rfl⟩
  ·rename_i h2;exact⟨fun e=>by omega,fun e=>absurd e.2 h2⟩
 ·rename_i h;exact⟨fun e=>by omega,fun e=>absurd e.1 h⟩
theorem qjX(x:Shf)(w:Sim)(hx:Sm (.st cS) x)(hw:Sm (.sl (.int .i64)) w):Ret E n_Z69 [dLL x.1,dI x.2.1,dL x.2.2.1,dMs x.2.2.2.1,dL w] ⟨o_Z69,(PC x w,())⟩:=by
 refine qai ?_
 simp only[run_Z69,Z69.ev]
 refine qaa (qe5 x hx) (qbS (fun h=>qah ?_) fun h=>qaa (qkq x w hx.1.1 hw) (qbS (fun h2=>qah ?_) fun h2=>qah ?_))
 ·rw[PC,if_neg (qa0.1 (show pb (ISh x)=false by simpa using h))]
 ·rw[PC,if_pos (qaD.1 (show pb (ISh x)=true by simpa using h)),if_neg (qa0.1 (show pb (qdo x.1 w)=false by simpa using h2))]
 ·rw[PC,if_pos (qaD.1 (show pb (ISh x)=true by simpa using h)),if_pos (qaD.1 (show pb (qdo x.1 w)=true by simpa using h2))]
noncomputable def qcY(x:Shf)(v w:Sim)(n:Nat):Sim:=((w.take n).map fun k=>atV x v k.toNat).flatten
theorem qdO{x:Shf}{v w:Sim}{n:Nat}(hn:n<w.length){s:Nat}(hs:w[n]=(s:Int)):qcY x v w (n+1)=qcY x v w n++atV x v s:=by
 unfold qcY
 rw[zay hn,zat,zbN,hs]
 simp
theorem qhd{x:Shf}{v w:Sim}(h:VS x.1 x.2.1 x.2.2.1 x.2.2.2.1){n:Nat}:(qcY x v w n).length≤3*n:=by
 induction n with
 | zero=>simp[qcY]
 | succ n ih =>
  by_cases hn:n<w.length
  ·have h3:=qjC (s:=(w[n]).toNat) (v:=v) h
   unfold qcY at ih ⊢
   rw[zay hn,zat,zbN,zal]
   simp only[zbi,List.map_nil,List.flatten_cons,List.flatten_nil,zbm]
   omega
  ·unfold qcY at ih ⊢
   rw[zav (by omega)] at ih ⊢
   omega
open Classical in
noncomputable def qdf(x:Shf)(v w:Sim):Sim×Int×Unit:=if PC x w=0 then(if Sec x v then(qcY x v w w.length,0,()) else([],6,())) else([],PC x w,())
theorem qez(x:Shf)(v w:Sim)(hx:Sm (.st cS) x)(hv1:Sm (.sl (.int .i64)) v)(hw:Sm (.sl (.int .i64)) w):Ret E n_Z124 [dLL x.1,dI x.2.1,dL x.2.2.1,dMs x.2.2.2.1,dL v,dL w] ⟨o_Z124,qdf x v w⟩:=by
 have hw1:w.length≤1048576:=hw.1
 refine qai ?_
 simp only[run_Z124,Z124.ev]
 refine qaa (qeS x hx) (qbS (fun h=>qah ?_) fun h=>?_)
 ·have h:=qa0.1 (show pb (ISh x)=false by simpa using h)
  have e:PC x w=1:=by rw[PC,if_neg h]
  rw[qdf,e,if_neg (by omega)]
 ·have h:=qaD.1 (show pb (ISh x)=true by simpa using h)
  refine qaa (qd5 x w hx.1.1 hw) (qbS (fun h2=>qah ?_) fun h2=>?_)
  ·have h2:=qa0.1 (show pb (qdo x.1 w)=false by simpa using h2)
   have e:PC x w=2:=by rw[PC,if_pos h,if_neg h2]
   rw[qdf,e,if_neg (by omega)]
  ·have h2:=qaD.1 (show pb (qdo x.1 w)=true by simpa using h2)
   rw[qdf,if_pos (qd2.2 ⟨h,h2⟩)]
   refine qaa (qou x v hx hv1 h) (qbS (fun h3=>qah ?_) fun h3=>?_)
   ·rw[if_neg (qa0.1 (show pb (Sec x v)=false by simpa using h3))]
   ·have h3:=qaD.1 (show pb (Sec x v)=true by simpa using h3)
    rw[if_pos h3]
    refine Ev.start (p:=fun φ n=>Z124.l0 (mkR (run E (φ 0))) (φ 0) n v w 0 x.1 x.2.1 x.2.2.1 x.2.2.2.1 []=_) 1 ?_ (fun _ _ _ h=>h)
    refine qam 1 (L:=fun φ n k o=>Z124.l0 (mkR (run E (φ 0))) (φ 0) n v w k x.1 x.2.1 x.2.2.1 x.2.2.2.1 o) (len:=w.length) (fun k=>qcY x v w k) (fun _ _ _ _ _=>rfl) (fun k r hk ih=>?_) ?_
    ·simp only[Z124.l0_succ _ qae]
     obtain⟨s,hs,hsl⟩:=h2.get hk
     have hg:w[k]? = some (s:Int):=by rw[zag hk,hs]
     rw[qdO hk hs] at ih
     have hl:=qhd (v:=v) (w:=w) (n:=k) h.1
     have h3':=qjC (s:=s) (v:=v) h.1
     refine qax (zac (by omega)) (qab (qaT.trans hg) (qaa (qoK x v s hsl hx hv1 h.1 h3.1) (qao (zac (by show(_+(atV x v s).length)*8≤_;omega)) ?_)))
     rw[qad (by omega)];exact ih
    ·simp only[Z124.l0_succ _ qae]
     exact qaB (zae (by omega)) qal
end VeT
open Go Go.Proofs Ve
namespace VeT
theorem qc7{P:Nat→Prop}:∀ {d a k:Nat},qaP P a d=some k→∀ i,a≤i→i<k→¬ P i
 | 0,a,k,h=>by simp[qaP] at h
 | d+1,a,k,h=>fun i h1 h2=>by
  rw[qaP] at h
  split at h
  ·obtain rfl:=zad h;omega
  ·rename_i hp
   by_cases e:i=a
   ·subst e;exact hp
   ·exact qc7 h i (by omega) h2
theorem qnS{P:Nat→Prop}{j n:Nat}(hj:j≤n):qaP (fun i=>i<j∧P i) 0 n=qaP P 0 j:=by
 cases h1:qaP (fun i=>i<j∧P i) 0 n with
 | none =>
  cases h2:qaP P 0 j with
  | none=>rfl
  | some k =>
   have:=qaz h2
   exact absurd ⟨by omega,this.2.2⟩ (qcA h1 k (by omega) (by omega))
 | some k =>
  have a:=qaz h1
  have b:=qc7 h1
  obtain⟨k2,h2⟩:=qb3 (P:=P) (a:=0) (d:=j) ⟨k,by omega,by omega,a.2.2.2⟩
  have c:=qaz h2
  have d:=qc7 h2
  rw[h2]
  rcases zbw k k2 with h | h | h
  ·exact absurd a.2.2.2 (d k (by omega) h)
  ·rw[h]
  ·exact absurd ⟨by omega,c.2.2⟩ (b k2 (by omega) h)
theorem qcZ{s:Sim}(h:s.Pairwise (·<·)):qeL s:=fun j h1 h2=>by
 rw[qac (show j-1<s.length by omega),qac h2]
 exact zbp.1 h (j-1) j (by omega) h2 (by omega)
theorem qoP:∀(n:Nat) {a b:Sim},b.length=n→qeL a→qeL b→qeI a b→a≠b→a.length<b.length
 | n,a,b,hn,ha,hb,hp,hne=>by
  obtain⟨i,hi,hni,_⟩:=qln ha hb hp hne
  have hp':=qc4 hp hi hni
  have hl:(b.eraseIdx i).length=b.length-1:=by rw[zbs,if_pos hi]
  have hb':qeL (b.eraseIdx i):=qcZ (hb.pairwise.sublist (List.eraseIdx_sublist _ _))
  by_cases e:a=b.eraseIdx i
  ·rw[e];omega
  ·cases n with
   | zero=>omega
   | succ n =>
    have:=qoP n (by omega) ha hb' hp' e
    omega
theorem qn6{c:List Sim}(h:VC c){f k:Nat}(hf:f<c.length)(hk:k<c.length)(hp:qeI (c.getD f []) (c.getD k []))(hne:f≠k):f<k:=by
 rcases zbw f k with h1 | h1 | h1
 ·exact h1
 ·exact absurd h1 hne
 ·exfalso
  have hs:=h.srt k f hf h1
  rw[qac hf,qac hk] at hp
  have hvf:=h.2.1 f hf
  have hvk:=h.2.1 k hk
  rw[qac hf] at hvf
  rw[qac hk] at hvk
  have he:c[f]≠c[k]:=fun e=>by rw[e,qcr.2 rfl] at hs;omega
  have:=qoP _ rfl hvf.2.2.1 hvk.2.2.1 hp he
  rw[qgO] at hs
  omega
def off(st w:Sim)(n:Nat):Int:=((w.take n).map fun k=>st.getD k.toNat 0).sum
theorem qen{st w:Sim}{n:Nat}(hn:n<w.length){s:Nat}(hs:w[n]=(s:Int)):off st w (n+1)=off st w n+st.getD s 0:=by
 unfold off
 rw[zay hn,zat,List.sum_append,hs]
 simp
theorem qgh{st w:Sim}(hst:∀ x∈st,0≤x∧x≤3):∀ {n:Nat},0≤off st w n∧off st w n≤3*n
 | 0=>by simp[off]
 | n+1=>by
  have ih:=qgh (w:=w) hst (n:=n)
  by_cases hn:n<w.length
  ·have hb:=qcl hst (w[n]).toNat
   unfold off at ih ⊢
   rw[zay hn,zat,List.sum_append]
   simp only[zbi,List.map_nil,List.sum_cons,List.sum_nil,zbL]
   omega
  ·unfold off at ih ⊢
   rw[zav (by omega)] at ih ⊢
   omega
theorem qhK{st w:Sim}(hst:∀ x∈st,0≤x∧x≤3){n m:Nat}(h:n≤m):off st w n≤off st w m:=by
 induction h with
 | refl=>exact Int.le_refl _
 | @step m h ih =>
  by_cases hn:m<w.length
  ·have hb:=qcl hst (w[m]).toNat
   unfold off at ih ⊢
   rw[zay hn,zat,List.sum_append]
   simp only[zbi,List.map_nil,List.sum_cons,List.sum_nil,zbL]
   omega
  ·unfold off at ih ⊢
   rw[zav (show w.length≤m+1 by omega)]
   rwa [zav (show w.length≤m by omega)] at ih
theorem qdo.le48{c:List Sim}{w:Sim}(h:qdo c w):w.length≤c.length:=by
  by_cases h0:w.length=0
  · omega
  · have hge:∀ j,∀ hj:j<w.length,(j:Int)≤w[j]:=by
      intro j
      induction j with
      | zero=>intro hj;exact(h.2 _ (zaj hj)).1
      | succ j ih =>
        intro hj
        have h1:=ih (by omega)
        have h2:=h.1.lt hj (zbK j)
        omega
    have h1:=hge (w.length-1) (by omega)
    have h2:=(h.2 _ (zaj (show w.length-1<w.length by omega))).2
    omega
theorem qmY(x:Shf)(w:Sim)(hl:x.2.2.1.length=x.1.length)(hst:∀ y∈x.2.2.1,0≤y∧y≤3)(hw:w.length≤1048576)(hpl:∀ i (h:i<w.length),∃ n:Nat,w[i]=(n:Int)∧n<x.1.length) :
  Ret E n_Z196 [dS x,dL w] ⟨o_Z196,(off x.2.2.1 w w.length,())⟩:=by
 refine qai ?_
 simp only[run_Z196,Z196.ev]
 refine Ev.start (p:=fun φ n=>Z196.l0 (mkR (run E (φ 0))) (φ 0) n x w 0 0=_) 1 ?_ (fun _ _ _ h=>h)
 refine qam 1 (L:=fun φ n k a=>Z196.l0 (mkR (run E (φ 0))) (φ 0) n x w a k) (len:=w.length) (fun k=>off x.2.2.1 w k) (fun _ _ _ _ _=>rfl) (fun k r hk ih=>?_) ?_
 ·simp only[Z196.l0_succ _ qae]
  obtain⟨s,hs,hsl⟩:=hpl k hk
  have hg:w[k]? = some (s:Int):=by rw[zag hk,hs]
  have hss:s<x.2.2.1.length:=by omega
  have hb:=qgh (w:=w) hst (n:=k)
  have hb2:=hst _ (zaj hss)
  rw[qen hk hs,qac hss] at ih
  refine qax (zac (by omega)) (qab (qaT.trans hg) (qab (qak hss) ?_))
  rw[qad (by omega),qag (by omega) (by omega)];exact ih
 ·simp only[Z196.l0_succ _ qae]
  exact qaB (zae (by omega)) qal
def qey(st w:Sim)(n:Nat):Sim:=(List.range n).map (off st w)
theorem qig(x:Shf)(w:Sim)(hl:x.2.2.1.length=x.1.length)(hst:∀ y∈x.2.2.1,0≤y∧y≤3)(hw:w.length≤1048576)(hpl:∀ i (h:i<w.length),∃ n:Nat,w[i]=(n:Int)∧n<x.1.length) :
  Ret E n_Z68 [dLL x.1,dI x.2.1,dL x.2.2.1,dMs x.2.2.2.1,dL w] ⟨o_Z68,(qey x.2.2.1 w w.length,off x.2.2.1 w w.length,())⟩:=by
 refine qai ?_
 simp only[run_Z68,Z68.ev]
 refine Ev.start (p:=fun φ n=>Z68.l0 (mkR (run E (φ 0))) (φ 0) n 0 w (w.length:Int) 0 x.1 x.2.1 x.2.2.1 x.2.2.2.1 []=_) 1 ?_ (fun _ _ _ h=>h)
 have:=qam 1 (L:=fun φ n k (a:Int×Sim)=>Z68.l0 (mkR (run E (φ 0))) (φ 0) n a.1 w (w.length:Int) k x.1 x.2.1 x.2.2.1 x.2.2.2.1 a.2) (len:=w.length) (fun k=>(off x.2.2.1 w k,qey x.2.2.1 w k)) (r:=some ⟨o_Z68,(qey x.2.2.1 w w.length,off x.2.2.1 w w.length,())⟩) (fun _ _ _ _ _=>rfl) (fun k r hk ih=>?_) ?_
 ·exact this
 ·simp only[Z68.l0_succ _ qae]
  obtain⟨s,hs,hsl⟩:=hpl k hk
  have hg:w[k]? = some (s:Int):=by rw[zag hk,hs]
  have hss:s<x.2.2.1.length:=by omega
  have hb:=qgh (w:=w) hst (n:=k)
  have hb2:=hst _ (zaj hss)
  have hle:(qey x.2.2.1 w k).length=k:=by simp[qey]
  have es:qey x.2.2.1 w (k+1)=qey x.2.2.1 w k++[off x.2.2.1 w k]:=by
   unfold qey;rw[zaA,zat];rfl
  rw[es] at ih
  simp only at ih
  rw[qen hk hs,qac hss] at ih
  refine qax (zac (by omega)) (qab (qaT.trans hg) (qao (zac (by simp only[zbh,zbE,hle];omega)) (qab (qak hss) ?_)))
  rw[qad (by omega),qag (by omega) (by omega)];exact ih
 ·simp only[Z68.l0_succ _ qae]
  exact qaB (zae (by omega)) qal
def Dat(x:Shf)(w v:Sim):Prop:=qaC v x.2.1∧(v.length:Int)=off x.2.2.1 w w.length
open Classical in
noncomputable def LC(x:Shf)(w v:Sim):Int:=if PC x w=0 then(if Dat x w v then 0 else 7) else PC x w
theorem qgM{x:Shf}{w v:Sim}:LC x w v=0↔(ISh x∧qdo x.1 w)∧Dat x w v:=by
 rw[← qd2]
 unfold LC;split
 ·rename_i h
  split
  ·rename_i h2;exact⟨fun _=>⟨h,h2⟩,fun _=>rfl⟩
  ·rename_i h2;exact⟨fun e=>by omega,fun e=>absurd e.2 h2⟩
 ·rename_i h;exact⟨fun e=>absurd e h,fun e=>absurd e.1 h⟩
theorem qer(x:Shf)(w v:Sim)(hx:Sm (.st cS) x)(hw:Sm (.sl (.int .i64)) w)(hv:Sm (.sl (.int .i64)) v):Ret E n_Z65 [dLL x.1,dI x.2.1,dL x.2.2.1,dMs x.2.2.2.1,dL w,dL v] ⟨o_Z65,(LC x w v,())⟩:=by
 refine qai ?_
 simp only[run_Z65,Z65.ev]
 refine qaa (qjX x w hx hw) (qbS (fun h=>qah ?_) fun h=>?_)
 ·have h:¬ PC x w=0:=by simpa using h
  rw[LC,if_neg h]
 ·have h:PC x w=0:=by simpa using h
  obtain⟨hs,hpl⟩:=qd2.1 h
  have hp:=hs.1.2.1
  refine qaa (qig x w hs.1.2.2.1.1 hs.1.2.2.1.2.1 hw.1 fun i hi=>hpl.get hi) (qaa (qlF v (off x.2.2.1 w w.length) x.2.1 hv.1 ⟨by have:=hp.1;omega,by have:=hp.2.1;omega⟩) (qbS (fun h2=>qah ?_) fun h2=>qah ?_))
  ·rw[LC,if_pos h,if_neg (qa0.1 (show pb (Dat x w v)=false by simpa [Dat] using h2))]
  ·rw[LC,if_pos h,if_pos (qaD.1 (show pb (Dat x w v)=true by simpa [Dat] using h2))]
end VeT
open Go Go.Proofs Ve
namespace VeT
def qr3(a p:Int):Int:=Int.tmod (w64 (Int.tmod a p+p)) p
theorem qmH{a p:Int}(hp:2≤p∧p≤251)(ha:-1048576≤a∧a≤1048576):qr3 a p=a%p:=by
 have h1:-p<Int.tmod a p∧Int.tmod a p<p:=by
  constructor
  ·by_cases h:a<0
   ·have:=Int.tmod_lt_of_pos (-a) (show 0<p by omega)
    rw[Int.neg_tmod] at this;omega
   ·have:=Int.tmod_nonneg p (show 0≤a by omega);omega
  ·exact Int.tmod_lt_of_pos a (by omega)
 have h2:Int.tmod a p%p=a%p:=by
  have:=Int.tmod_add_mul_tdiv a p
  have e:a=Int.tmod a p+p*Int.tdiv a p:=this.symm
  conv=>rhs;rw[e]
  rw[zbZ]
 unfold qr3
 rw[qag (by omega) (by omega),zaH (by omega),Int.add_emod_right,h2]
theorem qjV(a p:Int)(hp:2≤p):Ret E n_Z73 [dI a,dI p] ⟨o_Z73,(qr3 a p,())⟩:=by
 refine qai ?_
 simp only[run_Z73,Z73.ev]
 exact qao (by simp;omega) (qao (by simp;omega) qal)
theorem qjG(a p:Int)(hp:2≤p):Ret E n_Z148 [dI a,dI p] ⟨o_Z148,(qr3 a p,())⟩:=by
 refine qai ?_
 simp only[run_Z148,Z148.ev]
 exact qao (by simp;omega) (qao (by simp;omega) qal)
theorem qhp(a b:Sim)(c p:Int)(hp:2≤p∧p≤251)(hc:0≤c∧c≤250)(hl:a.length≤b.length)(ha1:a.length≤1048576)(ea:∀ x∈a,0≤x∧x≤250)(eb:∀ x∈b,0≤x∧x≤250) :
  Ret E n_Z21 [dL a,dL b,dI c,dI p] ⟨o_Z21,(qmj a b c p,())⟩:=by
 refine qai ?_
 simp only[run_Z21,Z21.ev]
 refine Ev.start (p:=fun φ n=>Z21.l0 (mkR (run E (φ 0))) (φ 0) n a b c p (a.length:Int) 0 []=_) 1 ?_ (fun _ _ _ h=>h)
 refine qam 1 (L:=fun φ n k o=>Z21.l0 (mkR (run E (φ 0))) (φ 0) n a b c p (a.length:Int) k o) (len:=a.length) (fun k=>(List.range k).map fun i=>(a.getD i 0+c*b.getD i 0)%p) (fun _ _ _ _ _=>rfl) (fun k r hk ih=>?_) ?_
 ·simp only[Z21.l0_succ _ qae]
  have hkb:k<b.length:=by omega
  have h1:=ea _ (zaj hk)
  have h2:=qet hc (eb _ (zaj hkb))
  rw[zaA,zat,zca,qac hk,qac hkb] at ih
  refine qax (zac (by omega)) (qab (qak hk) (qab (qak hkb) (qao (by simp;omega) ?_)))
  rw[qag (n:=c*b[k]) (by omega) (by omega),qag (by omega) (by omega),zaH (by omega),qad (by omega)]
  exact qao (by simp;omega) ih
 ·simp only[Z21.l0_succ _ qae]
  exact qaB (zae (by omega)) qal
theorem qoz{a:Int}:∀ k:Nat,(a*a) ^ k=a ^ (k+k)
 | 0=>by rw[Int.pow_zero,zbv,Int.pow_zero]
 | k+1=>by rw[Int.pow_succ,qoz k,show k+1+(k+1)=k+k+1+1 by omega,Int.pow_succ,Int.pow_succ,zcc]
theorem qmG(a:Int)(n:Nat)(p:Int)(hp:2≤p∧p≤251)(ha:0≤a∧a≤p-1)(hn:n≤1048576):Ret E n_Z70 [dI a,dI (n:Int),dI p] ⟨o_Z70,(a ^ n%p,())⟩:=by
  refine qai ?_
  simp only[run_Z70,Z70.ev]
  refine Ev.start (p:=fun φ m=>Z70.l0 (mkR (run E (φ 0))) (φ 0) m a (n:Int) p 1=_) 1 ?_ (fun _ _ _ h=>h)
  refine qe4 1 (σ:=Int×Nat×Int) (L:=fun φ m s=>Z70.l0 (mkR (run E (φ 0))) (φ 0) m s.1 (s.2.1:Int) p s.2.2) (fun _ _ _ _=>rfl) (fun s=>(0≤s.1∧s.1≤p-1)∧s.2.1≤1048576∧(0≤s.2.2∧s.2.2≤p-1)∧s.2.2*s.1 ^ s.2.1%p=a ^ n%p) (fun _=>_) (fun s=>s.2.1) (fun s hi ih=>?_) (a,n,1) ⟨ha,hn,by show 0≤(1:Int)∧(1:Int)≤p-1;omega,by show 1*a ^ n%p=_;rw[zco]⟩
  obtain⟨b,m,q⟩:=s
  obtain⟨h1,h2,h3,h4⟩:=hi
  simp only at h1 h2 h3 h4 ih
  simp only[Z70.l0_succ _ qae]
  have hbb:=qet (x:=b) (y:=b) (by omega) (by omega)
  have hqb:=qet (x:=q) (y:=b) (by omega) (by omega)
  have e1:w64 (b*b)=b*b:=qag (by omega) (by omega)
  have e2:w64 (q*b)=q*b:=qag (by omega) (by omega)
  have e3:Int.tdiv (m:Int) 2=((m / 2:Nat):Int):=rfl
  have e4:w64 ((m / 2:Nat):Int)=((m / 2:Nat):Int):=qag (by omega) (by omega)
  have e5:Int.tmod (m:Int) 2=((m%2:Nat):Int):=rfl
  refine qew (fun hm=>?_) fun hm=>qah ?_
  · rw[e5,e1,e2,e3,e4,zaH (by omega),zaH (by omega)]
    have hd:m / 2<m:=by omega
    refine qbS (fun ho=>qao (by simp;omega) (qao (by simp;omega) ?_)) fun he=>qao (by simp;omega) ?_
    · have ho : m % 2 = 1 := by have : ((m % 2 : Nat) : Int) = 1 := by simpa using ho
                                omega
      refine ih (b*b%p,m / 2,q*b%p) ⟨qdK (by omega),by show m / 2≤_;omega,qdK (by omega),?_⟩ hd
      rw[← h4]
      show q*b%p*(b*b%p) ^ (m / 2)%p=_
      have hx:(q*b%p)%p=(q*b)%p:=zau _ (zaT p)
      have hy:(b*b%p) ^ (m / 2)%p=(b*b) ^ (m / 2)%p:=qh1 (zau _ (zaT p)) _
      rw[qdg hx hy,qoz]
      have hm2:m=m / 2+m / 2+1:=by omega
      conv=>rhs;rw[hm2,Int.pow_succ]
      rw[zcc,zbV b]
    · have he:m%2=0:=by
        have:¬ ((m%2:Nat):Int)=1:=by simpa using he
        omega
      refine ih (b*b%p,m / 2,q) ⟨qdK (by omega),by show m / 2≤_;omega,h3,?_⟩ hd
      rw[← h4]
      show q*(b*b%p) ^ (m / 2)%p=_
      have hy:(b*b%p) ^ (m / 2)%p=(b*b) ^ (m / 2)%p:=qh1 (zau _ (zaT p)) _
      rw[qdg rfl hy,qoz]
      have hm2:m=m / 2+m / 2:=by omega
      conv=>rhs;rw[hm2]
  · have hm:m=0:=by omega
    subst hm
    have:q=a ^ n%p:=by rw[← h4,Int.pow_zero,Int.mul_one,zbD (by omega) (by omega)]
    rw[this]
theorem qk4(a p:Int)(hp:2≤p∧p≤251)(ha:0≤a∧a≤p-1):Ret E n_Z54 [dI a,dI p] ⟨o_Z54,(qhy a p,())⟩:=by
 have e:w64 (p-2)=(((p-2).toNat:Nat):Int):=by rw[qag (by omega) (by omega)];omega
 refine qai ?_
 simp only[run_Z54,Z54.ev,e]
 exact qaa (qmG a (p-2).toNat p hp ha (by omega)) qal
theorem qji(a p:Int)(hp:2≤p∧p≤251)(ha:0≤a∧a≤p-1):Ret E n_Z145 [dI a,dI p] ⟨o_Z145,(qhy a p,())⟩:=by
 have e:w64 (p-2)=(((p-2).toNat:Nat):Int):=by rw[qag (by omega) (by omega)];omega
 refine qai ?_
 simp only[run_Z145,Z145.ev,e]
 refine Ev.start (p:=fun φ m=>Z145.l0 (mkR (run E (φ 0))) (φ 0) m a p 1 (((p-2).toNat:Nat):Int)=_) 1 ?_ (fun _ _ _ h=>h)
 refine qe4 1 (σ:=Nat×Int) (L:=fun φ m s=>Z145.l0 (mkR (run E (φ 0))) (φ 0) m a p s.2 (s.1:Int)) (fun _ _ _ _=>rfl) (fun s=>s.1≤1048576∧(0≤s.2∧s.2≤p-1)∧s.2*a ^ s.1%p=a ^ (p-2).toNat%p) (fun _=>_) (fun s=>s.1) (fun s hi ih=>?_) ((p-2).toNat,1) ⟨by show(p-2).toNat≤_;omega,by show 0≤(1:Int)∧(1:Int)≤p-1;omega,by show 1*_%p=_;rw[zco]⟩
 obtain⟨m,q⟩:=s
 obtain⟨h2,h3,h4⟩:=hi
 simp only at h2 h3 h4 ih
 simp only[Z145.l0_succ _ qae]
 have hqa:=qet (x:=q) (y:=a) (by omega) (by omega)
 refine qew (fun hm=>qao (by simp;omega) ?_) fun hm=>qah ?_
 ·rw[qag (n:=q*a) (by omega) (by omega),zaH (by omega),qag (by omega) (by omega),show(m:Int)-1=((m-1:Nat):Int) by omega]
  refine ih (m-1,q*a%p) ⟨by show m-1≤_;omega,qdK (by omega),?_⟩ (by show m-1<m;omega)
  rw[← h4]
  show q*a%p*a ^ (m-1)%p=_
  have hx:(q*a%p)%p=(q*a)%p:=zau _ (zaT p)
  rw[qdg hx rfl]
  conv=>rhs;rw[show m=m-1+1 by omega,Int.pow_succ]
  rw[zcc,zbV a]
 ·have hm:m=0:=by omega
  subst hm
  have:q=qhy a p:=by unfold qhy;rw[← h4,Int.pow_zero,Int.mul_one,zbD (by omega) (by omega)]
  rw[this]
theorem qm3{f g:Nat→Int}{W:Nat}{c p:Int}:qmj ((List.range W).map f) ((List.range W).map g) c p=(List.range W).map fun j=>(f j+c*g j)%p:=by
 unfold qmj
 rw[zaR,zaU]
 refine zbu fun j hj=>?_
 have hj:=zaG.1 hj
 simp[zaa,hj]
theorem qlR{W:Nat}:List.replicate W (0:Int)=(List.range W).map fun _=>0:=by
 rw[List.map_const',zaU]
theorem qpr{f:Nat→Int}{W:Nat}{p:Int}(hp:p≤251)(h:∀ j,j<W→0≤f j∧f j≤p-1):∀ x∈(List.range W).map f,0≤x∧x≤250:=fun x hx=>by
 obtain⟨j,hj,rfl⟩:=zaO.1 hx
 have:=h j (zaG.1 hj)
 omega
def pvL(l:List Nat):Sim:=l.map fun(n:Nat)=>(n:Int)
theorem qa8{l:List Nat}:(pvL l).length=l.length:=by simp[pvL]
theorem qpU{l:List Nat}{c:Nat}:pvL (l++[c])=pvL l++[(c:Int)]:=by simp[pvL]
theorem qob{A:Ent}{R W c top:Nat}(hc:c<W)(ht:top≤R):qjz (fun row:Sim=>row.getD c 0 != 0) ((qaF A R W).drop top)=o2i ((qaP (fun i=>A i c≠0) top (R-top)).map fun q=>q-top):=by
 have hlen:((qaF A R W).drop top).length=R-top:=by rw[zbn,qaO]
 have hget:∀ k (h:k<((qaF A R W).drop top).length),(((qaF A R W).drop top)[k].getD c 0 != 0)=true↔A (top+k) c≠0:=fun k h=>by
  rw[hlen] at h
  have h1:=qbH (A:=A) (W:=W) (show top+k<R by omega)
  have h2:((qaF A R W).drop top)[k]? = some ((List.range W).map (A (top+k))):=by rw[zaY];exact h1
  rw[zag (by rw[hlen];exact h)] at h2
  rw[zad h2,zaa,qfT hc]
  simp
 symm
 refine qdI (fun k hk=>?_) fun hno j hj ⟨hj',hP⟩=>?_
 ·cases hf:qaP (fun i=>A i c≠0) top (R-top) with
  | none=>rw[hf] at hk;cases hk
  | some q =>
   rw[hf] at hk
   have hk:q-top=k:=zad hk
   have h1:=qaz hf
   have hkl:k<((qaF A R W).drop top).length:=by rw[hlen];omega
   refine⟨hkl,⟨hkl,(hget k hkl).2 (by rw[show top+k=q by omega];exact h1.2.2)⟩,fun j hj ⟨hj',hP⟩=>?_⟩
   exact qc7 hf (top+j) (by omega) (by omega) ((hget j hj').1 hP)
 ·cases hf:qaP (fun i=>A i c≠0) top (R-top) with
  | none=>exact qcA hf (top+j) (by omega) (by rw[hlen] at hj;omega) ((hget j hj').1 hP)
  | some q=>rw[hf] at hno;cases hno
end VeT
open Go Go.Proofs Ve
namespace VeT
theorem qiN(row:Sim)(c:Nat)(hc:c<row.length):Ret E n_Z40 [dL row,⟨.ptr (.cons (.int .i64) .nil),((c:Int),())⟩] ⟨o_Z40,(row.getD c 0 != 0,())⟩:=by
 rw[qac hc]
 refine qai ?_
 simp only[run_Z40,Z40.ev]
 exact qab (qak hc) qal
def elK(p:Int)(c top k:Nat)(B:Ent):Ent:=fun i j=>if i<k then elF p c top B i j else elM p c top B i j
theorem qqG{p:Int}{c top:Nat}{B:Ent}{R W:Nat}:qaF (elK p c top 0 B) R W=qaF (elM p c top B) R W:=qbN fun i j _ _=>by simp[elK]
theorem qrO{p:Int}{c top:Nat}{B:Ent}{R W:Nat}:qaF (elK p c top R B) R W=qaF (elF p c top B) R W:=qbN fun i j hi _=>by simp[elK,hi]
theorem qo4{top q R W:Nat}{A:Ent}(ht:top<R)(hq:q<R)(hne:q≠top):((qaF A R W).set top ((List.range W).map (A q))).set q ((List.range W).map (A top))=qaF (qcJ top q A) R W:=by
 rw[qgb,qgb]
 refine qbN fun i j _ _=>?_
 unfold qcJ
 by_cases h1:i=q
 ·subst h1;simp[hne]
 ·by_cases h2:i=top
  ·subst h2;simp[h1]
  ·simp[h1,h2]
theorem qpg{top R W:Nat}{A:Ent}:qaF (qcJ top top A) R W=qaF A R W:=qbN fun i j _ _=>by
 unfold qcJ
 by_cases h:i=top
 ·subst h;simp
 ·simp[h]
theorem qgs(A:Ent)(R W:Nat)(p:Int)(hp:2≤p∧p≤251)(hR:R≤1048576)(hW:W≤1048576)(hA:EIn p R W A) :
  ∃ det:Int,Ret E n_Z39 [dLL (qaF A R W),dI (W:Int),dI p] ⟨o_Z39,(pvL (elS p R A W).2,det,qaF (elS p R A W).1 R W,())⟩:=by
 have key:∀ d c det,c+d=W→∃ det':Int,Ev fun φ=>Z39.l0 (mkR (run E (φ 0))) (φ 0) (φ 1) (W:Int) p det (W:Int) (c:Int) (pvL (elS p R A c).2) (qaF (elS p R A c).1 R W)=some ⟨o_Z39,(pvL (elS p R A W).2,det',qaF (elS p R A W).1 R W,())⟩:=by
  intro d
  induction d with
  | zero =>
   intro c det hc
   obtain rfl:c=W:=by omega
   refine⟨det,Ev.round 1 (L:=fun φ n=>Z39.l0 (mkR (run E (φ 0))) (φ 0) n (c:Int) p det (c:Int) (c:Int) (pvL (elS p R A c).2) (qaF (elS p R A c).1 R c)) ?_ (fun _ _ _=>rfl)⟩
   simp only[Z39.l0_succ _ qae]
   exact qaB (zae (by omega)) qal
  | succ d ih =>
   intro c det hcd
   have hc:c<W:=by omega
   obtain⟨hB,hpl,hpc,_⟩:=qfl hp.1 hA c
   have hstep:elS p R A (c+1)=elP p R c (elS p R A c):=rfl
   generalize hS:elS p R A c=S at hB hpl hpc hstep
   obtain⟨B0,pv⟩:=S
   simp only at hB hpl hpc hstep
   have hlen:(qaF B0 R W).length=R:=qaO
   have hI:=qbv ((qaF B0 R W).drop pv.length) (((c:Int),()),()) (fun row=>row.getD c 0 != 0) (by rw[zbn,hlen];omega) fun row hrow=>qiN row c (by
    have:=zbJ hrow
    unfold qaF at this
    obtain⟨i,_,rfl⟩:=zaO.1 this
    simpa using hc)
   rw[qob hc hpl] at hI
   cases hf:qaP (fun i=>B0 i c≠0) pv.length (R-pv.length) with
   | none =>
    rw[hf] at hI
    have e:elS p R A (c+1)=(B0,pv):=by rw[hstep,elP];simp only[hf]
    obtain⟨det',h'⟩:=ih (c+1) 0 (by omega)
    rw[e] at h'
    refine⟨det',Ev.round 1 (L:=fun φ n=>Z39.l0 (mkR (run E (φ 0))) (φ 0) n (W:Int) p det (W:Int) (c:Int) (pvL pv) (qaF B0 R W)) ?_ (fun _ _ _=>rfl)⟩
    simp only[Z39.l0_succ _ qae,qa8,hlen,zai]
    rw[show List.take R (qaF B0 R W)=qaF B0 R W from zav (by omega)]
    refine qax (zac (by omega)) (qao (by simp only[zah,decide_eq_true_eq];omega) (qaa hI (qax rfl ?_)))
    rw[qad (by omega)]
    exact h'
   | some q =>
    rw[hf] at hI
    have hq:=qaz hf
    have e:elS p R A (c+1)=(elF p c pv.length (qcJ pv.length q B0),pv++[c]):=by rw[hstep,elP];simp only[hf]
    generalize ht:pv.length=top at hI hq e hpl hpc
    have htR:top<R:=by omega
    have hqR:q<R:=by omega
    have hsw:=hB.sw htR hqR
    have hlead:1≤qcJ top q B0 top c∧qcJ top q B0 top c≤p-1:=by
     have h1:=hsw top c htR hc
     have h2:qcJ top q B0 top c=B0 q c:=by simp[qcJ]
     have h3:=hq.2.2
     rw[← h2] at h3
     omega
    have hI':Ret E n_Z109 [dLL ((qaF B0 R W).drop top),⟨.fn n_Z40 (.cons (.ptr (.cons (.int .i64) .nil)) .nil),(((c:Int),()),())⟩] ⟨o_Z109,(((q-top:Nat):Int),())⟩:=hI
    -- what lies behind the exchange
    have back:∀ det2,∃ det',Ev fun φ=>Z39.j1 (mkR (run E (φ 0))) (φ 0) (φ 1) (W:Int) p det2 (top:Int) (W:Int) (c:Int) (c:Int) (pvL pv) (qaF (qcJ top q B0) R W)=some ⟨o_Z39,(pvL (elS p R A W).2,det',qaF (elS p R A W).1 R W,())⟩:=fun det2=>by
     generalize qcJ top q B0=B at hsw hlead e
     obtain⟨det',h'⟩:=ih (c+1) (Int.tmod (w64 (det2*B top c)) p) (by omega)
     rw[e] at h'
     simp only at h'
     rw[qpU,← qrO] at h'
     have hBl:(qaF B R W).length=R:=qaO
     have hNin:∀ j,0≤elN p c top B j∧elN p c top B j≤p-1:=fun j=>qdK hp.1
     have hinv:=qpb (a:=B top c) (p:=p) hp.1
     have hinvR:=qk4 (B top c) p hp ⟨by omega,hlead.2⟩
     have hgt:=qbH (A:=B) (W:=W) htR
     have hat:Ret E n_Z21 [dL (List.replicate W 0),dL ((List.range W).map (B top)),dI (qhy (B top c) p),dI p] ⟨o_Z21,((List.range W).map (elN p c top B),())⟩:=by
      have:=qhp (List.replicate W 0) ((List.range W).map (B top)) (qhy (B top c) p) p hp (by omega) (by simp) (by rw[zas];exact hW) (fun x hx=>by rw[zbe] at hx;omega) (qpr hp.2 fun j hj=>hsw top j htR hj)
      rw[qlR,qm3,← qlR] at this
      have e2:((List.range W).map fun j=>(0+qhy (B top c) p*B top j)%p)=(List.range W).map (elN p c top B):=zbu fun j _=>by
       rw[Int.zero_add,zbV];rfl
      rw[e2] at this
      exact this
     have hset:(qaF B R W).set top ((List.range W).map (elN p c top B))=qaF (elK p c top 0 B) R W:=by
      rw[qgb,qqG];rfl
     refine⟨det',?_⟩
     -- the loop over the rows
     have loop:Ev fun φ=>Z39.j2 (mkR (run E (φ 0))) (φ 0) (φ 1) (W:Int) p (Int.tmod (w64 (det2*B top c)) p) (top:Int) (W:Int) (c:Int) (c:Int) (pvL pv) (qaF (elK p c top 0 B) R W)=some ⟨o_Z39,(pvL (elS p R A W).2,det',qaF (elS p R A W).1 R W,())⟩:=by
      simp only[Z39.j2_eq _ qae,qaO]
      generalize Int.tmod (w64 (det2*B top c)) p=D at h' ⊢
      refine Ev.start (p:=fun φ n=>Z39.l3 (mkR (run E (φ 0))) (φ 0) (φ 1) n (W:Int) p D (top:Int) (W:Int) (c:Int) (R:Int) 0 (c:Int) (pvL pv) (qaF (elK p c top 0 B) R W)=_) 2 ?_ (fun _ _ _ h=>h)
      refine qam 2 (L:=fun φ n i S=>Z39.l3 (mkR (run E (φ 0))) (φ 0) (φ 1) n (W:Int) p D (top:Int) (W:Int) (c:Int) (R:Int) i (c:Int) (pvL pv) S) (len:=R) (fun i=>qaF (elK p c top i B) R W) (fun _ _ _ _ _=>rfl) (fun i r hi ih2=>?_) ?_
      ·simp only[Z39.l3_succ _ qae,qaO,zai]
       have hrow:(qaF (elK p c top i B) R W)[i]? = some ((List.range W).map (elM p c top B i)):=by
        rw[qbH hi]
        have:elK p c top i B i=elM p c top B i:=funext fun j=>by simp[elK]
        rw[this]
       have htop:(qaF (elK p c top i B) R W)[top]? = some ((List.range W).map (elN p c top B)):=by
        rw[qbH htR]
        have:elK p c top i B top=elN p c top B:=funext fun j=>by simp[elK,elF,elM]
        rw[this]
       refine qax (zac (by omega)) (qao (by simp only[zah,decide_eq_true_eq];omega) (qab hrow ?_))
       by_cases hit:i=top
       ·subst hit
        refine qaB (by simp) ?_
        simp only[Z39.j4_eq _ qae,cond_false]
        have hsame:qaF (elK p c i (i+1) B) R W=qaF (elK p c i i B) R W:=qbN fun k j _ _=>by
         unfold elK
         by_cases h1:k=i
         ·subst h1;simp[elF,elM]
         ·by_cases h2:k<i
          ·rw[if_pos (by omega),if_pos h2]
          ·rw[if_neg (by omega),if_neg h2]
        rw[hsame] at ih2
        rw[qad (by omega)];exact ih2
       ·have hM:elM p c top B i=B i:=funext fun j=>by simp[elM,hit]
        rw[hM]
        have hBi:=hsw i c hi hc
        refine qax (by simp;omega) (qab (qaT.trans (qfT hc)) ?_)
        by_cases hz:B i c=0
        ·simp only[hz,bne_self_eq_false,Z39.j4_eq _ qae,cond_false]
         have hsame:qaF (elK p c top (i+1) B) R W=qaF (elK p c top i B) R W:=qbN fun k j _ _=>by
          unfold elK
          by_cases h1:k=i
          ·subst h1;simp[elF,elM,hit,hz]
          ·by_cases h2:k<i
           ·rw[if_pos (by omega),if_pos h2]
           ·rw[if_neg (by omega),if_neg h2]
         rw[hsame] at ih2
         rw[qad (by omega)];exact ih2
        ·have hne:(B i c != 0)=true:=by simpa using hz
         have ec:w64 (p-B i c)=p-B i c:=qag (by omega) (by omega)
         simp only[hne,Z39.j4_eq _ qae,cond_true,qaO,zai]
         refine qao (by simp only[zah,decide_eq_true_eq];omega) (qab htop (qab (qaT.trans (qfT hc)) ?_))
         simp only[ec]
         have hat2:=qhp ((List.range W).map (B i)) ((List.range W).map (elN p c top B)) (p-B i c) p hp (by omega) (by simp) (by simpa using hW) (qpr hp.2 fun j hj=>hsw i j hi hj) (qpr hp.2 fun j _=>hNin j)
         rw[qm3] at hat2
         refine qaa hat2 (qao (by simp only[zah,decide_eq_true_eq];omega) ?_)
         have hset2:(qaF (elK p c top i B) R W).set i ((List.range W).map fun j=>(B i j+(p-B i c)*elN p c top B j)%p)=qaF (elK p c top (i+1) B) R W:=by
          rw[qgb]
          refine qbN fun k j _ _=>?_
          unfold elK
          by_cases h1:k=i
          ·subst h1;simp[elF,hit,hz]
          ·by_cases h2:k<i
           ·rw[if_neg h1,if_pos h2,if_pos (by omega)]
           ·rw[if_neg h1,if_neg h2,if_neg (by omega)]
         rw[qad (by omega)]
         rw[← hset2] at ih2
         exact ih2
      ·simp only[Z39.l3_succ _ qae]
       refine qaB (zae (by omega)) (qao (by simp only[qa8,zbh,zbE,decide_eq_true_eq];omega) ?_)
       rw[qad (by omega)]
       exact h'
     simp only[Z39.j1_eq _ qae,qaO,zai]
     have hck:(decide ((0:Int)≤(top:Int))&&decide ((top:Int)<(R:Int)))=true:=by simp only[zah,decide_eq_true_eq];omega
     have hcw:(decide ((0:Int)≤(W:Int))&&decide ((W:Int)*8≤70368744177664))=true:=by simp only[zah,decide_eq_true_eq];omega
     have fin:=loop
     rw[← hset] at fin
     exact qao hck (qab hgt (qab (qaT.trans (qfT hc)) (qao (by simp;omega) (qao hck (qab hgt (qb8 (qao hcw (qaa hinvR (qaa hat (qao hck fin)))) (qaa hinvR (qao hcw (qaa hat (qao hck fin))))))))))
    by_cases hqt:q=top
    ·subst hqt
     obtain⟨det',h'⟩:=back det
     rw[qpg] at h'
     refine⟨det',Ev.round 1 (L:=fun φ n=>Z39.l0 (mkR (run E (φ 0))) (φ 0) n (W:Int) p det (W:Int) (c:Int) (pvL pv) (qaF B0 R W)) ?_ (fun _ _ _=>rfl)⟩
     simp only[Z39.l0_succ _ qae,qa8,hlen,zai,ht]
     rw[show List.take R (qaF B0 R W)=qaF B0 R W from zav (by omega)]
     refine qax (zac (by omega)) (qao (by simp only[zah,decide_eq_true_eq];omega) (qaa hI' ?_))
     rw[zbW]
     exact qaB rfl (qaB rfl h')
    ·obtain⟨det',h'⟩:=back (qr3 (w64 (0-det)) p)
     rw[← qo4 htR hqR hqt] at h'
     refine⟨det',Ev.round 1 (L:=fun φ n=>Z39.l0 (mkR (run E (φ 0))) (φ 0) n (W:Int) p det (W:Int) (c:Int) (pvL pv) (qaF B0 R W)) ?_ (fun _ _ _=>rfl)⟩
     simp only[Z39.l0_succ _ qae,qa8,hlen,zai,ht]
     rw[show List.take R (qaF B0 R W)=qaF B0 R W from zav (by omega)]
     have e3:w64 ((top:Int)+((q-top:Nat):Int))=(q:Int):=by rw[qag (by omega) (by omega)];omega
     refine qax (zac (by omega)) (qao (by simp only[zah,decide_eq_true_eq];omega) (qaa hI' (qaB (zae (Int.not_lt.2 (Int.natCast_nonneg _))) (qax (zac (by show(0:Int)<((q-top:Nat):Int);omega)) ?_))))
     simp only[e3,zai,zaN,hlen]
     have hck:(decide ((0:Int)≤(top:Int))&&decide ((top:Int)<(R:Int)))=true:=by simp only[zah,decide_eq_true_eq];omega
     have hckq:(decide ((0:Int)≤(q:Int))&&decide ((q:Int)<(R:Int)))=true:=by simp only[zah,decide_eq_true_eq];omega
     exact qao hckq (qab (qbH hqR) (qao hck (qab (qbH htR) (qao hck (qao hckq (qaa (qjV (w64 (0-det)) p hp.1) h'))))))
 obtain⟨det',h⟩:=key W 0 1 (by omega)
 refine⟨det',qai ?_⟩
 simp only[run_Z39,Z39.ev]
 exact Ev.start (p:=fun φ n=>Z39.l0 (mkR (run E (φ 0))) (φ 0) n (W:Int) p 1 (W:Int) 0 [] (qaF A R W)=_) 1 h (fun _ _ _ h=>h)
end VeT
open Go Go.Proofs Ve
namespace VeT
theorem qgm{i W j:Nat}(h:i*W+j≤4611686018427387904):w64 (w64 ((i:Int)*(W:Int))+(j:Int))=((i*W+j:Nat):Int):=by
 rw[qa3,qag (n:=((i*W:Nat):Int)) (by omega) (by omega),qag (by omega) (by omega)];omega
theorem qeJ{A:Ent}{R W i j:Nat}(hi:i<R)(hj:j<W)(hRW:R*W≤1048576):(decide ((0:Int)≤((i*W+j:Nat):Int))&&decide (((i*W+j:Nat):Int)<((qar A W R).length:Int)))=true∧(qar A W R)[i*W+j]? = some (A i j):=by
 have:=qeU hi hj
 refine⟨?_,qbX hi hj⟩
 simp only[zah,decide_eq_true_eq,qas];omega
theorem qdG(p:Int)(R W:Nat)(cells:Sim)(hp:2≤p∧p≤251)(hR:R≤1048576)(hW:W≤1048576)(hRW:R*W≤1048576)(hl:cells.length=R*W)(he:qaC cells p) :
    ∃ det:Int,Ret E n_Z151 [dM (p,(R:Int),(W:Int),cells,())] ⟨o_Z151,(p,(R:Int),(W:Int),qar (elS p R (qbe cells W) W).1 W R,pvL (elS p R (qbe cells W) W).2,det,())⟩:=by
  generalize hMt:(p,(R:Int),(W:Int),cells,())=M
  have M1:M.1=p:=by rw[← hMt]
  have M2:M.2.1=(R:Int):=by rw[← hMt]
  have M3:M.2.2.1=(W:Int):=by rw[← hMt]
  have M4:M.2.2.2.1=cells:=by rw[← hMt]
  have hA:=qcn he hl
  have hfl:=qeN hl
  generalize qbe cells W=A at hA hfl
  let G:Int→Option Dv:=fun det=>some ⟨o_Z151,(p,(R:Int),(W:Int),qar (elS p R A W).1 W R,pvL (elS p R A W).2,det,())⟩
  -- a column where no row is left
  have none_of:∀ c,(elS p R A c).2.length=R→elS p R A (c+1)=elS p R A c:=fun c h=>by
    show elP p R c (elS p R A c)=_
    rw[elP,h,zbW];rfl
  have stay:∀ d c,c+d=W→(elS p R A c).2.length=R→elS p R A W=elS p R A c:=by
    intro d
    induction d with
    | zero=>intro c hc _;rw[show c=W by omega]
    | succ d ih =>
      intro c hc h
      have e:=none_of c h
      rw[ih (c+1) (by omega) (by rw[e];exact h),e]
  have key:∀ d c det,c+d=W→∃ det':Int,Ev fun φ=>Z151.l1 (mkR (run E (φ 0))) (φ 0) (φ 1) M p (W:Int) det ((elS p R A c).2.length:Int) (c:Int) 0 0 0 p (R:Int) (W:Int) (pvL (elS p R A c).2) (qar (elS p R A c).1 W R)=G det':=by
    intro d
    induction d with
    | zero =>
      intro c det hc
      obtain rfl:c=W:=by omega
      refine⟨det,Ev.round 1 (L:=fun φ n=>Z151.l1 (mkR (run E (φ 0))) (φ 0) n M p (c:Int) det ((elS p R A c).2.length:Int) (c:Int) 0 0 0 p (R:Int) (c:Int) (pvL (elS p R A c).2) (qar (elS p R A c).1 c R)) ?_ (fun _ _ _=>rfl)⟩
      simp only[Z151.l1_succ _ qae,Z151.j2_eq _ qae,cond_false]
      exact qaB (zae (by omega)) qal
    | succ d ih =>
      intro c det hcd
      have hc:c<W:=by omega
      obtain⟨hB,hpl,hpc,_⟩:=qfl hp.1 hA c
      have hstep:elS p R A (c+1)=elP p R c (elS p R A c):=rfl
      by_cases hfull:(elS p R A c).2.length=R
      · refine⟨det,Ev.round 1 (L:=fun φ n=>Z151.l1 (mkR (run E (φ 0))) (φ 0) n M p (W:Int) det ((elS p R A c).2.length:Int) (c:Int) 0 0 0 p (R:Int) (W:Int) (pvL (elS p R A c).2) (qar (elS p R A c).1 W R)) ?_ (fun _ _ _=>rfl)⟩
        simp only[Z151.l1_succ _ qae,M2,hfull,show decide ((R:Int)<(R:Int))=false from zae (by omega),Z151.j2_eq _ qae,cond_false]
        refine qax (zac (by omega)) (qah ?_)
        show _=some _
        rw[stay (d+1) c hcd hfull]
      · have htR:(elS p R A c).2.length<R:=by omega
        generalize hS:elS p R A c=S at hB hpl hpc hstep hfull htR
        obtain⟨B0,pv⟩:=S
        simp only at hB hpl hpc hstep hfull htR
        generalize ht:pv.length=top at hpl hpc hfull htR
        -- what lies behind the exchange
        have back:∀ q,top≤q→q<R→B0 q c≠0→elS p R A (c+1)=(elF p c top (qcJ top q B0),pv++[c])→∀ det2,∃ det',Ev fun φ=>Z151.j6 (mkR (run E (φ 0))) (φ 0) (φ 1) M p (W:Int) det2 (top:Int) (c:Int) 0 0 0 p (R:Int) (W:Int) (pvL pv) (qar (qcJ top q B0) W R)=G det':=fun q hq1 hqR hq2 e det2=>by
          have hsw:=hB.sw htR hqR
          have hlead:1≤qcJ top q B0 top c∧qcJ top q B0 top c≤p-1:=by
            have h1:=hsw top c htR hc
            have h2:qcJ top q B0 top c=B0 q c:=by simp[qcJ]
            rw[← h2] at hq2
            omega
          generalize qcJ top q B0=B at hsw hlead e
          obtain⟨det',h'⟩:=ih (c+1) (Int.tmod (w64 (det2*B top c)) p) (by omega)
          rw[e] at h'
          simp only at h'
          rw[qpU,zal,zaz,ht] at h'
          have hNin:∀ j,0≤elN p c top B j∧elN p c top B j≤p-1:=fun j=>qdK hp.1
          have hinv:=qpb (a:=B top c) (p:=p) hp.1
          have hinvR:=qji (B top c) p hp ⟨by omega,hlead.2⟩
          have hidx:∀ i j,i<R→j<W→i*W+j≤4611686018427387904:=fun i j hi hj=>by have:=qeU hi hj;omega
          refine⟨det',?_⟩
          simp only[Z151.j6_eq _ qae,qgm (hidx top c htR hc),zai]
          obtain⟨k1,k2⟩:=qeJ (A:=B) htR hc hRW
          refine qao k1 (qab k2 (qao (by simp;omega) (qaa hinvR ?_)))
          generalize Int.tmod (w64 (det2*B top c)) p=D at h' ⊢
          -- the loop that scales the row
          let N:Nat→Ent:=fun n i j=>if i=top∧j<n then elN p c top B j else B i j
          have hN0:qar (N 0) W R=qar B W R:=qaL fun i j _ _=>by simp[N]
          have hNW:qar (N W) W R=qar (elM p c top B) W R:=qaL fun i j _ hj=>by
            simp only[N,elM,hj,and_true]
          rw[← hN0]
          refine Ev.start (p:=fun φ n=>Z151.l7 (mkR (run E (φ 0))) (φ 0) (φ 1) n M p (W:Int) D (top:Int) (c:Int) (qhy (B top c) p) 0 0 0 0 p (R:Int) (W:Int) (pvL pv) (qar (N 0) W R)=_) 2 ?_ (fun _ _ _ h=>h)
          refine qam 2 (L:=fun φ n j o=>Z151.l7 (mkR (run E (φ 0))) (φ 0) (φ 1) n M p (W:Int) D (top:Int) (c:Int) (qhy (B top c) p) j 0 0 0 p (R:Int) (W:Int) (pvL pv) o) (len:=W) (fun j=>qar (N j) W R) (fun _ _ _ _ _=>rfl) (fun j r hj ih2=>?_) ?_
          · simp only[Z151.l7_succ _ qae,qgm (hidx top j htR hj),zai]
            obtain⟨k1,k2⟩:=qeJ (A:=N j) htR hj hRW
            have hNj:N j top j=B top j:=by simp[N]
            rw[hNj] at k2
            have hb:=hsw top j htR hj
            have ev:=qpy (x:=B top j) (y:=qhy (B top c) p) (p:=p) (by omega) (by omega) hp
            have hset:(qar (N j) W R).set (top*W+j) (B top j*qhy (B top c) p%p)=qar (N (j+1)) W R:=by
              rw[qdc htR hj]
              refine qaL fun k l _ _=>?_
              simp only[N]
              by_cases h1:k=top
              · subst h1
                by_cases h2:l=j
                · subst h2;simp[elN]
                · simp only[true_and,h2,if_false,and_false]
                  by_cases h3:l<j
                  · rw[if_pos h3,if_pos (by omega)]
                  · rw[if_neg h3,if_neg (by omega)]
              · simp[h1]
            refine qax (zac (by omega)) (qao k1 (qab k2 (qao (by simp;omega) (qao k1 ?_))))
            simp only[ev]
            rw[qad (by omega),hset];exact ih2
          · simp only[Z151.l7_succ _ qae]
            refine qaB (zae (by omega)) ?_
            rw[hNW]
            -- the loop over the rows
            let K:Nat→Ent:=fun n i j=>if i<n then elF p c top B i j else elM p c top B i j
            have hK0:qar (K 0) W R=qar (elM p c top B) W R:=qaL fun i j _ _=>by simp[K]
            have hKR:qar (K R) W R=qar (elF p c top B) W R:=qaL fun i j hi _=>by simp[K,hi]
            rw[← hK0]
            refine Ev.start (p:=fun φ n=>Z151.l8 (mkR (run E (φ 0))) (φ 0) (φ 1) n M p (W:Int) D (top:Int) (c:Int) 0 0 0 0 p (R:Int) (W:Int) (pvL pv) (qar (K 0) W R)=_) 3 ?_ (fun _ _ _ h=>h)
            refine qam 3 (L:=fun φ n i o=>Z151.l8 (mkR (run E (φ 0))) (φ 0) (φ 1) n M p (W:Int) D (top:Int) (c:Int) i 0 0 0 p (R:Int) (W:Int) (pvL pv) o) (len:=R) (fun i=>qar (K i) W R) (fun _ _ _ _ _=>rfl) (fun i r hi ih2=>?_) ?_
            · simp only[Z151.l8_succ _ qae,M2,qgm (hidx i c hi hc),zai]
              obtain⟨k1,k2⟩:=qeJ (A:=K i) hi hc hRW
              refine qax (zac (by omega)) (qao k1 (qab k2 ?_))
              by_cases hit:i=top
              · subst hit
                refine qax (by simp) ?_
                simp only[Z151.j9_eq _ qae,cond_true]
                have hsame:qar (K (i+1)) W R=qar (K i) W R:=qaL fun k j _ _=>by
                  simp only[K]
                  by_cases h1:k=i
                  · subst h1;simp[elF,elM]
                  · by_cases h2:k<i
                    · rw[if_pos (by omega),if_pos h2]
                    · rw[if_neg (by omega),if_neg h2]
                rw[hsame] at ih2
                rw[qad (by omega)];exact ih2
              · have hM:∀ j,K i i j=B i j:=fun j=>by simp[K,elM,hit]
                rw[hM]
                have hBi:=hsw i c hi hc
                refine qaB (by simp;omega) ?_
                by_cases hz:B i c=0
                · simp only[hz,beq_self_eq_true,Z151.j9_eq _ qae,cond_true]
                  have hsame:qar (K (i+1)) W R=qar (K i) W R:=qaL fun k j _ _=>by
                    simp only[K]
                    by_cases h1:k=i
                    · subst h1;simp[elF,elM,hit,hz]
                    · by_cases h2:k<i
                      · rw[if_pos (by omega),if_pos h2]
                      · rw[if_neg (by omega),if_neg h2]
                  rw[hsame] at ih2
                  rw[qad (by omega)];exact ih2
                · have hne:(B i c==0)=false:=by simpa using hz
                  simp only[hne,Z151.j9_eq _ qae,cond_false]
                  let Q:Nat→Ent:=fun n k j=>if k=i∧j<n then elF p c top B i j else K i k j
                  have hQ0:qar (Q 0) W R=qar (K i) W R:=qaL fun k j _ _=>by simp[Q]
                  have hQW:qar (Q W) W R=qar (K (i+1)) W R:=qaL fun k j _ hj=>by
                    simp only[Q,K,hj,and_true]
                    by_cases h1:k=i
                    · subst h1;simp
                    · by_cases h2:k<i
                      · rw[if_neg h1,if_pos h2,if_pos (by omega)]
                      · rw[if_neg h1,if_neg h2,if_neg (by omega)]
                  rw[← hQ0]
                  refine Ev.start (p:=fun φ n=>Z151.l10 (mkR (run E (φ 0))) (φ 0) (φ 1) (φ 3) n M p (W:Int) D (top:Int) (c:Int) (i:Int) (B i c) 0 0 0 0 p (R:Int) (W:Int) (pvL pv) (qar (Q 0) W R)=_) 4 ?_ (fun _ _ _ h=>h)
                  refine qam 4 (L:=fun φ n j o=>Z151.l10 (mkR (run E (φ 0))) (φ 0) (φ 1) (φ 3) n M p (W:Int) D (top:Int) (c:Int) (i:Int) (B i c) j 0 0 0 p (R:Int) (W:Int) (pvL pv) o) (len:=W) (fun j=>qar (Q j) W R) (fun _ _ _ _ _=>rfl) (fun j r2 hj ih3=>?_) ?_
                  · simp only[Z151.l10_succ _ qae,qgm (hidx i j hi hj),qgm (hidx top j htR hj),zai]
                    obtain⟨k1,k2⟩:=qeJ (A:=Q j) hi hj hRW
                    obtain⟨k3,k4⟩:=qeJ (A:=Q j) htR hj hRW
                    have q1:Q j i j=B i j:=by simp only[Q,Nat.lt_irrefl,and_false,if_false];exact hM j
                    have q2:Q j top j=elN p c top B j:=by
                      have:¬ top=i:=fun e=>hit e.symm
                      simp[Q,K,this,elF,elM]
                    rw[q1] at k2
                    rw[q2] at k4
                    have hbij:=hsw i j hi hj
                    have hnj:=hNin j
                    have hm:=qet (x:=B i c) (y:=elN p c top B j) (by omega) (by omega)
                    have e1:w64 (B i c*elN p c top B j)=B i c*elN p c top B j:=qag (by omega) (by omega)
                    have e2:w64 (B i j-B i c*elN p c top B j)=B i j-B i c*elN p c top B j:=qag (by omega) (by omega)
                    have e3:qr3 (B i j-B i c*elN p c top B j) p=elF p c top B i j:=by
                      rw[qmH hp (by omega)]
                      unfold elF
                      rw[if_neg hit,if_pos hz]
                      have:B i j+(p-B i c)*elN p c top B j=B i j-B i c*elN p c top B j+p*elN p c top B j:=by rw[Int.sub_mul];omega
                      rw[this,zbZ]
                    have hmod:=qjG (B i j-B i c*elN p c top B j) p hp.1
                    rw[e3] at hmod
                    have hset:(qar (Q j) W R).set (i*W+j) (elF p c top B i j)=qar (Q (j+1)) W R:=by
                      rw[qdc hi hj]
                      refine qaL fun k l _ _=>?_
                      simp only[Q]
                      by_cases h1:k=i
                      · subst h1
                        by_cases h2:l=j
                        · subst h2;simp
                        · simp only[true_and,h2,if_false,and_false]
                          by_cases h3:l<j
                          · rw[if_pos h3,if_pos (by omega)]
                          · rw[if_neg h3,if_neg (by omega)]
                      · simp[h1]
                    refine qax (zac (by omega)) (qao k1 (qab k2 (qao k3 (qab k4 ?_))))
                    simp only[e1,e2]
                    refine qaa hmod (qao k1 ?_)
                    rw[qad (by omega)]
                    rw[← hset] at ih3
                    exact ih3
                  · simp only[Z151.l10_succ _ qae]
                    refine qaB (zae (by omega)) ?_
                    rw[qad (by omega),hQW];exact ih2
            · simp only[Z151.l8_succ _ qae,M2]
              refine qaB (zae (by omega)) (qao (by simp only[qa8,zbh,zbE,decide_eq_true_eq];omega) ?_)
              rw[qad (by omega),qad (by omega),hKR]
              exact h'
        have hidx:∀ i j,i<R→j<W→i*W+j≤4611686018427387904:=fun i j hi hj=>by have:=qeU hi hj;omega
        -- the search for the row
        have search:∀ rs:Nat→Option Dv,∀ rn:Option Dv,(∀ q,top≤q→q<R→B0 q c≠0→(∀ i,top≤i→i<q→¬ B0 i c≠0)→Ev fun φ=>Z151.j4 (mkR (run E (φ 0))) (φ 0) (φ 1) (φ 2) M p (W:Int) det (top:Int) (c:Int) (q:Int) false 0 0 0 p (R:Int) (W:Int) (pvL pv) (qar B0 W R)=rs q) →
            ((∀ i,top≤i→i<R→¬ B0 i c≠0)→Ev fun φ=>Z151.j4 (mkR (run E (φ 0))) (φ 0) (φ 1) (φ 2) M p (W:Int) det (top:Int) (c:Int) (R:Int) false 0 0 0 p (R:Int) (W:Int) (pvL pv) (qar B0 W R)=rn) →
            Ev fun φ=>Z151.l3 (mkR (run E (φ 0))) (φ 0) (φ 1) (φ 0) M p (W:Int) det (top:Int) (c:Int) (top:Int) 0 0 0 p (R:Int) (W:Int) (pvL pv) (qar B0 W R)=orN rs rn (qaP (fun i=>B0 i c≠0) top (R-top)):=fun rs rn hs hn=>by
          refine Ev.start (p:=fun φ n=>Z151.l3 (mkR (run E (φ 0))) (φ 0) (φ 1) n M p (W:Int) det (top:Int) (c:Int) (top:Int) 0 0 0 p (R:Int) (W:Int) (pvL pv) (qar B0 W R)=_) 2 ?_ (fun _ _ _ h=>h)
          -- the first one is kept in mind by the number of the round
          have go:∀ d a,top≤a→a+d=R→(∀ i,top≤i→i<a→¬ B0 i c≠0)→Ev fun φ=>Z151.l3 (mkR (run E (φ 0))) (φ 0) (φ 1) (φ 2) M p (W:Int) det (top:Int) (c:Int) (a:Int) 0 0 0 p (R:Int) (W:Int) (pvL pv) (qar B0 W R)=orN rs rn (qaP (fun i=>B0 i c≠0) a d):=by
            intro d
            induction d with
            | zero =>
              intro a ha hk hno
              obtain rfl:a=R:=by omega
              refine Ev.round 2 (L:=fun φ n=>Z151.l3 (mkR (run E (φ 0))) (φ 0) (φ 1) n M p (W:Int) det (top:Int) (c:Int) (a:Int) 0 0 0 p (a:Int) (W:Int) (pvL pv) (qar B0 W a)) ?_ (fun _ _ _=>rfl)
              simp only[Z151.l3_succ _ qae,M2]
              exact qaB (zae (by omega)) (hn hno)
            | succ d ih3 =>
              intro a ha hk hno
              have haR:a<R:=by omega
              refine Ev.round 2 (L:=fun φ n=>Z151.l3 (mkR (run E (φ 0))) (φ 0) (φ 1) n M p (W:Int) det (top:Int) (c:Int) (a:Int) 0 0 0 p (R:Int) (W:Int) (pvL pv) (qar B0 W R)) ?_ (fun _ _ _=>rfl)
              simp only[Z151.l3_succ _ qae,M2,qgm (hidx a c haR hc),zai]
              obtain⟨k1,k2⟩:=qeJ (A:=B0) haR hc hRW
              refine qax (zac (by omega)) (qao k1 (qab k2 ?_))
              rw[qaP]
              by_cases hz:B0 a c=0
              · rw[if_neg (by simpa using hz)]
                simp only[hz,beq_self_eq_true,Z151.j4_eq _ qae,cond_true]
                rw[qad (by omega)]
                refine ih3 (a+1) (by omega) (by omega) fun i h1 h2=>?_
                by_cases e:i=a
                · subst e;simpa using hz
                · exact hno i h1 (by omega)
              · rw[if_pos hz]
                have hne:(B0 a c==0)=false:=by simpa using hz
                simp only[hne]
                exact hs a ha haR hz hno
          exact go (R-top) top (zaf _) (by omega) fun i h1 h2=>by omega
        have enter:∀ r,(Ev fun φ=>Z151.l3 (mkR (run E (φ 0))) (φ 0) (φ 1) (φ 0) M p (W:Int) det (top:Int) (c:Int) (top:Int) 0 0 0 p (R:Int) (W:Int) (pvL pv) (qar B0 W R)=r)→Ev fun φ=>Z151.l1 (mkR (run E (φ 0))) (φ 0) (φ 1) M p (W:Int) det (top:Int) (c:Int) 0 0 0 p (R:Int) (W:Int) (pvL pv) (qar B0 W R)=r:=fun r hr=>by
          refine Ev.round 1 (L:=fun φ n=>Z151.l1 (mkR (run E (φ 0))) (φ 0) n M p (W:Int) det (top:Int) (c:Int) 0 0 0 p (R:Int) (W:Int) (pvL pv) (qar B0 W R)) ?_ (fun _ _ _=>rfl)
          simp only[Z151.l1_succ _ qae,M2,show decide ((top:Int)<(R:Int))=true from zac (by omega),Z151.j2_eq _ qae,cond_true]
          exact qax (zac (by omega)) hr
        cases hf:qaP (fun i=>B0 i c≠0) top (R-top) with
        | none =>
          have e:elS p R A (c+1)=(B0,pv):=by rw[hstep,elP];simp only[ht,hf]
          obtain⟨det',h'⟩:=ih (c+1) det (by omega)
          rw[e] at h'
          simp only[ht] at h'
          refine⟨det',enter _ ?_⟩
          have:=search (fun _=>G det') (G det') (fun q h1 h2 h3 _=>absurd h3 (qcA hf q h1 (by omega))) fun _=>by
            simp only[Z151.j4_eq _ qae,cond_false,M2]
            refine qax (by simp) ?_
            rw[qad (by omega)];exact h'
          rw[hf] at this
          exact this
        | some q =>
          have hq:=qaz hf
          have hqR:q<R:=by omega
          have e:elS p R A (c+1)=(elF p c top (qcJ top q B0),pv++[c]):=by rw[hstep,elP];simp only[ht,hf]
          by_cases hqt:q=top
          · subst hqt
            obtain⟨det',h'⟩:=back q (zaf _) hqR hq.2.2 e det
            have hself:qar (qcJ q q B0) W R=qar B0 W R:=qaL fun i j _ _=>by
              unfold qcJ
              by_cases h:i=q
              · subst h;simp
              · simp[h]
            rw[hself] at h'
            refine⟨det',enter _ ?_⟩
            have:=search (fun _=>G det') (G det') (fun q' h1 h2 h3 h4=>by
              obtain rfl:q'=q:=Classical.byContradiction fun hne=>h4 q (zaf _) (by omega) hq.2.2
              simp only[Z151.j4_eq _ qae,cond_false,M2]
              exact qaB (by simp;omega) (qaB (by simp) h')) fun hno=>absurd hq.2.2 (hno q (zaf _) hqR)
            rw[hf] at this
            exact this
          · obtain⟨det',h'⟩:=back q hq.1 hqR hq.2.2 e (w64 (p-det))
            refine⟨det',enter _ ?_⟩
            have:=search (fun _=>G det') (G det') (fun q' h1 h2 h3 h4=>by
              obtain rfl:q'=q:=by
                rcases zbw q' q with h | h | h
                · exact absurd h3 (qc7 hf q' h1 h)
                · exact h
                · exact absurd hq.2.2 (h4 q hq.1 h)
              simp only[Z151.j4_eq _ qae,cond_false,M2]
              refine qaB (by simp;omega) (qax (by simp;omega) ?_)
              -- the loop that exchanges the rows
              let X:Nat→Ent:=fun n i j=>if j<n then qcJ top q' B0 i j else B0 i j
              have hX0:qar (X 0) W R=qar B0 W R:=qaL fun i j _ _=>by simp[X]
              have hXW:qar (X W) W R=qar (qcJ top q' B0) W R:=qaL fun i j _ hj=>by simp[X,hj]
              rw[← hX0]
              refine Ev.start (p:=fun φ n=>Z151.l5 (mkR (run E (φ 0))) (φ 0) (φ 1) n M p (W:Int) (w64 (p-det)) (top:Int) (c:Int) (q':Int) 0 0 0 0 p (R:Int) (W:Int) (pvL pv) (qar (X 0) W R)=_) 3 ?_ (fun _ _ _ h=>h)
              refine qam 3 (L:=fun φ n j o=>Z151.l5 (mkR (run E (φ 0))) (φ 0) (φ 1) n M p (W:Int) (w64 (p-det)) (top:Int) (c:Int) (q':Int) j 0 0 0 p (R:Int) (W:Int) (pvL pv) o) (len:=W) (fun j=>qar (X j) W R) (fun _ _ _ _ _=>rfl) (fun j r hj ih3=>?_) ?_
              · simp only[Z151.l5_succ _ qae,qgm (hidx q' j hqR hj),qgm (hidx top j htR hj),zai,zaN]
                obtain⟨k1,k2⟩:=qeJ (A:=X j) hqR hj hRW
                obtain⟨k3,k4⟩:=qeJ (A:=X j) htR hj hRW
                have x1:X j q' j=B0 q' j:=by simp[X]
                have x2:X j top j=B0 top j:=by simp[X]
                rw[x1] at k2
                rw[x2] at k4
                have hset:((qar (X j) W R).set (q'*W+j) (B0 top j)).set (top*W+j) (B0 q' j)=qar (X (j+1)) W R:=by
                  rw[qdc hqR hj,qdc htR hj]
                  refine qaL fun k l _ _=>?_
                  simp only[X]
                  by_cases hl:l=j
                  · subst hl
                    by_cases hk1:k=top
                    · subst hk1;simp[qcJ]
                    · by_cases hk2:k=q'
                      · subst hk2;simp[qcJ,hk1]
                      · simp[qcJ,hk1,hk2]
                  · simp only[hl,and_false,if_false]
                    by_cases h3:l<j
                    · rw[if_pos h3,if_pos (by omega)]
                    · rw[if_neg h3,if_neg (by omega)]
                refine qax (zac (by omega)) (qao k1 (qab k2 (qao k3 (qab k4 (qao k1 (qao k3 ?_))))))
                rw[qad (by omega),hset];exact ih3
              · simp only[Z151.l5_succ _ qae]
                refine qaB (zae (by omega)) ?_
                rw[hXW];exact h') fun hno=>absurd hq.2.2 (hno q hq.1 hqR)
            rw[hf] at this
            exact this
  obtain⟨det',h⟩:=key W 0 1 (by omega)
  refine⟨det',qai ?_⟩
  have h0:qar (elS p R A 0).1 W R=cells:=hfl
  rw[h0] at h
  simp only[run_Z151,Z151.ev,Z151.j0_eq _ qae,M1,M2,M3,M4]
  have own:=qc1 cells (by omega)
  have st:=Ev.start (p:=fun φ n=>Z151.l1 (mkR (run E (φ 0))) (φ 0) n M p (W:Int) 1 0 0 0 0 0 p (R:Int) (W:Int) [] cells=G det') 1 h (fun _ _ _ h=>h)
  exact qb8 (qaa own st) (qaa own st)
end VeT
