import Derived.Test.YtagdejckmpipbaaGreatDoorT5
import Derived.Test.YtagdejckmpipbaaGreatDoorV2
import Derived.Lib.SplitLaws
import Derived.Lib.ParseIntBTie
import Derived.KernelRfl
set_option linter.unusedVariables false
set_option linter.unusedSimpArgs false
open Go Go.Proofs Ve
namespace VeT
theorem qaT.get{v:Sim}{p:Int}(h:qaT v p)(hp:2≤p∧p≤251)(i:Nat):0≤v.getD i 0∧v.getD i 0≤250:=by
 by_cases hi:i<v.length
 ·rw[qaf hi]
  have:=h _ (List.getElem_mem hi)
  omega
 ·rw[List.getD_eq_getElem?_getD,List.getElem?_eq_none (by omega)];simp
theorem qaT.mem{v:Sim}{p:Int}(h:qaT v p)(hp:2≤p∧p≤251):∀ x∈v,0≤x∧x≤250:=fun x hx=>by
 have:=h x hx;omega
def qi1(p:Int)(ca cb:Sim)(K C i j:Nat):Int:=qa5 (fun l=>ca.getD (i*K+l) 0) (fun l=>cb.getD (l*C+j) 0) K%p
def qcY(a b:Mat):Mat:=(a.1,a.2.1,b.2.2.1,qat (qi1 a.1 a.2.2.2.1 b.2.2.2.1 a.2.2.1.toNat b.2.2.1.toNat) b.2.2.1.toNat a.2.1.toNat,())
def qe5(K C:Nat)(cb:Sim):List Sim:=(List.range C).map fun i=>(List.range K).map fun j=>cb.getD (j*C+i) 0
theorem qkC(q:Int)(K C:Nat)(cb:Sim)(hl:cb.length=K*C)(hK:K≤32)(hC:C≤32):Ret E n_Z77 [dI q,dI (K:Int),dI (C:Int),dL cb] ⟨o_Z77,(q,(C:Int),(K:Int),qat (fun i j=>cb.getD (j*C+i) 0) K C,())⟩:=by
 have h1:=qeB hK hC
 have h2:=qeB hC hK
 refine qak ?_
 simp only[run_Z77,Z77.ev]
 refine qaa (qcP q C K ((q,(K:Int),(C:Int),cb,()),()) (fun i j=>cb.getD (j*C+i) 0) (by omega) (by omega) (by omega) fun i j hi hj=>?_) qan
 exact qiA (q,(K:Int),(C:Int),cb,()) C i j rfl (by show _<cb.length;rw[hl];exact qhP hj hi) (by show cb.length≤_;omega)
theorem qkD(q:Int)(K C:Nat)(cb:Sim)(hl:cb.length=K*C)(hK:K≤32)(hC:C≤32):Ret E n_Z38 [dI q,dI (K:Int),dI (C:Int),dL cb] ⟨o_Z38,(qe5 K C cb,())⟩:=by
 refine qak ?_
 simp only[run_Z38,Z38.ev]
 refine qaa (qkC q K C cb hl hK hC) (qaa (qnL q C K _ qas hC hK) (qal ?_))
 have:((List.range C).map fun i=>((qat (fun i j=>cb.getD (j*C+i) 0) K C).take ((i+1)*K)).drop (i*K))=qe5 K C cb :=
  List.map_congr_left fun i hi=>qlH (List.mem_range.1 hi)
 rw[this]
theorem qpF{K C:Nat}{cb:Sim}{q:Int}(hb:qaT cb q)(hq:2≤q∧q≤251){j:Nat}(hj:j<(qe5 K C cb).length):∀ x∈(qe5 K C cb)[j],0≤x∧x≤250:=by
 intro x hx
 have hm:=List.getElem_mem hj
 generalize (qe5 K C cb)[j]=y at hm hx
 unfold qe5 at hm
 rw[List.mem_map] at hm
 obtain⟨i,_,rfl⟩:=hm
 rw[List.mem_map] at hx
 obtain⟨l,_,rfl⟩:=hx
 exact hb.get hq _
theorem qkr(p:Int)(R K C:Nat)(ca cb:Sim)(i j:Nat)(hi:i<R)(hj:j<C)(hp:2≤p∧p≤251)(hla:ca.length=R*K)(hR:R≤32)(hK:K≤32)(ea:qaT ca p){q:Int}(hq:2≤q∧q≤251)(eb:qaT cb q) :
  Ret E n_Z65 [dI (i:Int),dI (j:Int),dM (p,(R:Int),(K:Int),ca,()),⟨.ptr (.cons (.sl (.sl (.int .i64))) .nil),(qe5 K C cb,())⟩] ⟨o_Z65,(qi1 p ca cb K C i j,())⟩:=by
 have h1:=qeB hR hK
 have hle:(i+1)*K≤R*K:=Nat.mul_le_mul_right _ hi
 have hjl:j<(qe5 K C cb).length:=by simp[qe5,hj]
 have hcl:((qe5 K C cb)[j]).length=K:=by simp[qe5]
 have hrl:((ca.take ((i+1)*K)).drop (i*K)).length=K:=by
  rw[List.length_drop,List.length_take,Nat.min_eq_left (by omega),Nat.add_mul];omega
 refine qak ?_
 simp only[run_Z65,Z65.ev]
 refine qae (qao hjl) (qaa (qhI p _ K ca i (by omega) (by omega) (by omega)) (qaa (qrB ((ca.take ((i+1)*K)).drop (i*K)) ((qe5 K C cb)[j]) p hp (by omega) (by omega) (fun x hx=>ea.mem hp x (List.mem_of_mem_take (List.mem_of_mem_drop hx))) (qpF eb hq hjl)) (qal ?_)))
 rw[hrl]
 have:qa5 (fun l=>((ca.take ((i+1)*K)).drop (i*K)).getD l 0) (fun l=>((qe5 K C cb)[j]).getD l 0) K=qa5 (fun l=>ca.getD (i*K+l) 0) (fun l=>cb.getD (l*C+j) 0) K:=qba fun l hl=>⟨by
  rw[List.getD_eq_getElem?_getD,List.getD_eq_getElem?_getD,List.getElem?_drop,List.getElem?_take_of_lt (by rw[Nat.add_mul];omega)],by
  simp[qe5,List.getD_eq_getElem?_getD,hl]⟩
 rw[this];rfl
theorem VM.nat{m:Mat}(h:VM m):∃ R K:Nat,m=(m.1,(R:Int),(K:Int),m.2.2.2.1,())∧R≤32∧K≤32∧m.2.2.2.1.length=R*K:=by
 obtain⟨p,r,k,c,⟨⟩⟩:=m
 obtain⟨_,h2,h3,h4,_⟩:=h
 simp only at h2 h3 h4
 obtain⟨R,rfl⟩:=Int.eq_ofNat_of_zero_le h2.1
 obtain⟨K,rfl⟩:=Int.eq_ofNat_of_zero_le h3.1
 refine⟨R,K,rfl,by omega,by omega,?_⟩
 rw[qa3] at h4;simp only;omega
theorem qil(a b:Mat)(ha:VM a)(hb:VM b)(hab:a.2.2.1=b.2.1):Ret E n_Z64 [dI a.1,dI a.2.1,dI a.2.2.1,dL a.2.2.2.1,dI b.1,dI b.2.1,dI b.2.2.1,dL b.2.2.2.1] ⟨o_Z64,qcY a b⟩:=by
  obtain⟨R,K,ea,hR,hK,hla⟩:=ha.nat
  obtain⟨K',C,eb,hK',hC,hlb⟩:=hb.nat
  have pa:2≤a.1∧a.1≤251:=⟨ha.1.1,ha.1.2.1⟩
  have pb':2≤b.1∧b.1≤251:=⟨hb.1.1,hb.1.2.1⟩
  have ela:=ha.2.2.2.2
  have elb:=hb.2.2.2.2
  rw[ea,eb] at hab
  obtain rfl : K = K' := by have hab : (K : Int) = (K' : Int) := hab
                            omega
  rw[ea,eb]
  simp only
  refine qak ?_
  simp only[run_Z64,Z64.ev]
  have hRC:=qeB hR hC
  refine qaa (qkD _ K C _ hlb hK hC) (qaa (qde a.1 R C ((a.1,(R:Int),(K:Int),a.2.2.2.1,()),(qe5 K C b.2.2.2.1,()),()) (qi1 a.1 a.2.2.2.1 b.2.2.2.1 K C) (by omega) (by omega) (by omega) fun i j hi hj=>?_) (qal ?_))
  · exact qkr a.1 R K C _ _ i j hi hj pa hla hR hK ela pb' elb
  · simp only[qcY,Int.toNat_natCast]
theorem qch(p:Int)(R C:Nat)(hR:R≤32)(hC:C≤32):Ret E n_Z148 [dI p,dI (R:Int),dI (C:Int)] ⟨o_Z148,(p,(R:Int),(C:Int),List.replicate (R*C) 0,())⟩:=by
 have h1:=qeB hR hC
 have e1:w64 ((R:Int)*(C:Int))=((R*C:Nat):Int):=by rw[qa3];exact qai (by omega) (by omega)
 refine qak ?_
 simp only[run_Z148,Z148.ev,e1,Int.toNat_natCast]
 exact qax (by simp only[Bool.and_eq_true,decide_eq_true_eq];omega) qan
theorem qgG(a b:Mat)(ha:VM a)(hb:VM b)(hab:a.2.2.1=b.2.1):Ret E n_Z146 [dM a,dM b] ⟨o_Z146,qcY a b⟩:=by
  obtain⟨R,K,ea,hR,hK,hla⟩:=ha.nat
  obtain⟨K',C,eb,hK',hC,hlb⟩:=hb.nat
  have pa:2≤a.1∧a.1≤251:=⟨ha.1.1,ha.1.2.1⟩
  have pb':2≤b.1∧b.1≤251:=⟨hb.1.1,hb.1.2.1⟩
  have ela:=ha.2.2.2.2
  have elb:=hb.2.2.2.2
  rw[ea,eb] at hab
  obtain rfl : K = K' := by have hab : (K : Int) = (K' : Int) := hab
                            omega
  obtain⟨p,r,k,ca,⟨⟩⟩:=a
  obtain⟨q,k',c,cb,⟨⟩⟩:=b
  simp only[Prod.mk.injEq,true_and,and_true] at ea eb pa pb' ela elb hla hlb
  obtain⟨rfl,rfl⟩:=ea
  obtain⟨rfl,rfl⟩:=eb
  have hRC:=qeB hR hC
  have hRK:=qeB hR hK
  have hKC:=qeB hK hC
  have hM:qcY (p,(R:Int),(K:Int),ca,()) (q,(K:Int),(C:Int),cb,())=(p,(R:Int),(C:Int),qat (qi1 p ca cb K C) C R,()):=by simp[qcY]
  rw[hM]
  refine qak ?_
  simp only[run_Z146,Z146.ev,Z146.j0_eq _ qag]
  suffices h:Ev fun φ=>Z146.l1 (mkR (run E (φ 0))) (φ 0) (φ 0) (p,(R:Int),(K:Int),ca,()) (q,(K:Int),(C:Int),cb,()) 0 0 0 0 p (R:Int) (C:Int) (List.replicate (R*C) 0)=some ⟨o_Z146,(p,(R:Int),(C:Int),qat (qi1 p ca cb K C) C R,())⟩ by
    exact qdc (qaa (qch p R C hR hC) h) (qaa (qch p R C hR hC) h)
  refine Ev.start (p:=fun φ n=>Z146.l1 (mkR (run E (φ 0))) (φ 0) n (p,(R:Int),(K:Int),ca,()) (q,(K:Int),(C:Int),cb,()) 0 0 0 0 p (R:Int) (C:Int) (List.replicate (R*C) 0)=_) 1 ?_ (fun _ _ _ h=>h)
  have:=qaw 1 (L:=fun φ n i o=>Z146.l1 (mkR (run E (φ 0))) (φ 0) n (p,(R:Int),(K:Int),ca,()) (q,(K:Int),(C:Int),cb,()) i 0 0 0 p (R:Int) (C:Int) o) (len:=R) (fun i=>qat (qi1 p ca cb K C) C i++List.replicate ((R-i)*C) 0) (r:=some ⟨o_Z146,(p,(R:Int),(C:Int),qat (qi1 p ca cb K C) C R,())⟩) (fun _ _ _ _ _=>rfl) (fun i r hi ih=>?_) ?_
  · simpa [qat] using this
  · simp only[Z146.l1_succ _ qag]
    refine qaB (decide_eq_true (by omega)) ?_
    refine Ev.start (p:=fun φ n=>Z146.l2 (mkR (run E (φ 0))) (φ 0) (φ 1) n (p,(R:Int),(K:Int),ca,()) (q,(K:Int),(C:Int),cb,()) (i:Int) 0 0 0 0 p (R:Int) (C:Int) (qat (qi1 p ca cb K C) C i++List.replicate ((R-i)*C) 0)=_) 2 ?_ (fun _ _ _ h=>h)
    have hRi:(R-i)*C=(R-(i+1))*C+C:=by
      rw[show R-i=(R-(i+1))+1 by omega,Nat.add_mul];omega
    have hiC:(i+1)*C≤R*C:=Nat.mul_le_mul_right _ hi
    have hiK:(i+1)*K≤R*K:=Nat.mul_le_mul_right _ hi
    rw[Nat.add_mul] at hiC hiK
    have:=qaw 2 (L:=fun φ n j o=>Z146.l2 (mkR (run E (φ 0))) (φ 0) (φ 1) n (p,(R:Int),(K:Int),ca,()) (q,(K:Int),(C:Int),cb,()) (i:Int) j 0 0 0 p (R:Int) (C:Int) o) (len:=C) (fun j=>(qat (qi1 p ca cb K C) C i++(List.range j).map (qi1 p ca cb K C i))++List.replicate ((R-i)*C-j) 0) (r:=r) (fun _ _ _ _ _=>rfl) (fun j r hj ih=>?_) ?_
    · simpa using this
    · simp only[Z146.l2_succ _ qag]
      refine qaB (decide_eq_true (by omega)) ?_
      have hpl:(qat (qi1 p ca cb K C) C i++(List.range j).map (qi1 p ca cb K C i)).length=i*C+j:=by simp[qas]
      have hsp:(R-i)*C-j=((R-i)*C-(j+1))+1:=by omega
      generalize hO:(qat (qi1 p ca cb K C) C i++(List.range j).map (qi1 p ca cb K C i))++List.replicate ((R-i)*C-j) 0=O
      have hOl:O.length=R*C:=by
        rw[← hO,List.length_append,hpl,List.length_replicate,hRi]
        have:R*C=(R-(i+1))*C+(i*C+C):=by
          have e:R=(R-(i+1))+(i+1):=by omega
          have:=congrArg (·*C) e
          simp only[Nat.add_mul,Nat.one_mul] at this ⊢;omega
        omega
      refine Ev.start (p:=fun φ n=>Z146.l3 (mkR (run E (φ 0))) (φ 0) (φ 1) (φ 2) n (p,(R:Int),(K:Int),ca,()) (q,(K:Int),(C:Int),cb,()) (i:Int) (j:Int) 0 0 0 0 0 p (R:Int) (C:Int) O=_) 3 ?_ (fun _ _ _ h=>h)
      refine qaw 3 (L:=fun φ n l s=>Z146.l3 (mkR (run E (φ 0))) (φ 0) (φ 1) (φ 2) n (p,(R:Int),(K:Int),ca,()) (q,(K:Int),(C:Int),cb,()) (i:Int) (j:Int) s l 0 0 0 p (R:Int) (C:Int) O) (len:=K) (fun l=>qa5 (fun l=>ca.getD (i*K+l) 0) (fun l=>cb.getD (l*C+j) 0) l) (fun _ _ _ _ _=>rfl) (fun l r hl ih=>?_) ?_
      · simp only[Z146.l3_succ _ qag]
        have b1:=qmx (f:=fun l=>ca.getD (i*K+l) 0) (g:=fun l=>cb.getD (l*C+j) 0) (n:=l) fun l _=>⟨ela.get pa _,elb.get pb' _⟩
        have b2:=qjl (ela.get pa (i*K+l)) (elb.get pb' (l*C+j))
        have hlC:(l+1)*C≤K*C:=Nat.mul_le_mul_right _ hl
        rw[Nat.add_mul] at hlC
        have e1:w64 (w64 ((i:Int)*(K:Int))+(l:Int))=((i*K+l:Nat):Int):=by
          rw[qa3,qai (n:=((i*K:Nat):Int)) (by omega) (by omega),qai (by omega) (by omega)];omega
        have e2:w64 (w64 ((l:Int)*(C:Int))+(j:Int))=((l*C+j:Nat):Int):=by
          rw[qa3,qai (n:=((l*C:Nat):Int)) (by omega) (by omega),qai (by omega) (by omega)];omega
        simp only[e1,e2]
        have i1:i*K+l<ca.length:=by omega
        have i2:l*C+j<cb.length:=by omega
        refine qaB (decide_eq_true (by omega)) (qae (qao i1) (qae (qao i2) ?_))
        simp only[qa5] at ih
        rw[qaf i1,qaf i2] at ih b2
        rw[qai (n:=ca[i*K+l]*cb[l*C+j]) (by omega) (by omega),qai (by omega) (by omega),qah (by omega)]
        exact ih
      · simp only[Z146.l3_succ _ qag]
        have b1:=qmx (f:=fun l=>ca.getD (i*K+l) 0) (g:=fun l=>cb.getD (l*C+j) 0) (n:=K) fun l _=>⟨ela.get pa _,elb.get pb' _⟩
        have e1:w64 (w64 ((i:Int)*(C:Int))+(j:Int))=((i*C+j:Nat):Int):=by
          rw[qa3,qai (n:=((i*C:Nat):Int)) (by omega) (by omega),qai (by omega) (by omega)];omega
        simp only[e1,Int.toNat_natCast]
        refine qaD (decide_eq_false (by omega)) (qax (by simp;omega) (qax (by simp only[Bool.and_eq_true,decide_eq_true_eq];omega) ?_))
        rw[Int.tmod_eq_emod_of_nonneg (by omega),qah (by omega),← hO,hsp,← hpl,qrY]
        rw[List.range_succ,List.map_append,← List.append_assoc] at ih
        exact ih
    · simp only[Z146.l2_succ _ qag]
      refine qaD (decide_eq_false (by omega)) ?_
      rw[qah (by omega),hRi,Nat.add_sub_cancel]
      exact ih
  · simp only[Z146.l1_succ _ qag]
    refine qaD (decide_eq_false (by omega)) (qal ?_)
    simp
end VeT
open Go Go.Proofs Ve
namespace VeT
theorem qiY(a b:Sim)(ha:a.length≤1048576):Ret E n_Z102 [dL a,dL b] ⟨o_Z102,(pb (a=b),())⟩:=by
 refine qak ?_
 simp only[run_Z102,Z102.ev]
 refine qcs (fun h=>qal ?_) fun h=>?_
 ·have h:(a.length:Int)≠b.length:=by simpa using h
  rw[qaq fun e=>h (by rw[e])]
 ·have h:(a.length:Int)=b.length:=by simpa using h
  refine Ev.start (p:=fun φ n=>Z102.l0 (mkR (run E (φ 0))) (φ 0) n a b (a.length:Int) 0=_) 1 ?_ (fun _ _ _ h=>h)
  refine(qdY 1 (L:=fun φ n k=>Z102.l0 (mkR (run E (φ 0))) (φ 0) n a b (a.length:Int) k) (len:=a.length) 0 (by omega) (fun j=>a.getD j 0=b.getD j 0) (fun b=>some ⟨o_Z102,(b,())⟩) (fun _ _ _ _=>rfl) (fun k h1 h2 hP _=>?_) (fun k r h1 h2 hP _ ih=>?_) (fun _=>?_)).to ?_
  ·simp only[Z102.l0_succ _ qag]
   have hb:k<b.length:=by omega
   rw[qaf h2,qaf hb] at hP
   exact qaB (decide_eq_true (by omega)) (qae (qao h2) (qae (qao hb) (qaB (by simpa using hP) qan)))
  ·simp only[Z102.l0_succ _ qag]
   have hb:k<b.length:=by omega
   rw[qaf h2,qaf hb] at hP
   refine qaB (decide_eq_true (by omega)) (qae (qao h2) (qae (qao hb) (qaD (by simpa using hP) ?_)))
   rw[qah (by omega)];exact ih
  ·simp only[Z102.l0_succ _ qag]
   exact qaD (decide_eq_false (by omega)) qan
  ·refine congrArg (fun b:Bool=>some (⟨o_Z102,(b,())⟩:Dv)) (qaM ⟨fun hh=>List.ext_getElem (by omega) fun j h1 h2=>?_,fun hh j _ _=>by rw[hh]⟩)
   have:=hh j (by omega) h1
   rwa [qaf h1,qaf h2] at this
theorem qdN{a b:Mat}:a=b↔a.1=b.1∧a.2.1=b.2.1∧a.2.2.1=b.2.2.1∧a.2.2.2.1=b.2.2.2.1:=by
 obtain⟨p,r,k,c,⟨⟩⟩:=a
 obtain⟨p',r',k',c',⟨⟩⟩:=b
 simp only[Prod.mk.injEq,and_true]
theorem qhg(a b:Mat)(ha:a.2.2.2.1.length≤1048576):Ret E n_Z19 [dI a.1,dI a.2.1,dI a.2.2.1,dL a.2.2.2.1,dI b.1,dI b.2.1,dI b.2.2.1,dL b.2.2.2.1] ⟨o_Z19,(pb (a=b),())⟩:=by
 refine qak ?_
 simp only[run_Z19,Z19.ev]
 refine qcs (fun h1=>qcs (fun h2=>qcs (fun h3=>qaa (qiY _ _ ha) (qal ?_)) fun h3=>qal ?_) fun h2=>qal ?_) fun h1=>qal ?_
 ·exact congrArg (fun b:Bool=>some (⟨o_Z19,(b,())⟩:Dv)) (qaM ⟨fun h=>qdN.2 ⟨by simpa using h1,by simpa using h2,by simpa using h3,h⟩,fun h=>(qdN.1 h).2.2.2⟩)
 ·rw[qaq fun h=>by have:=(qdN.1 h).2.2.1;simp[this] at h3]
 ·rw[qaq fun h=>by have:=(qdN.1 h).2.1;simp[this] at h2]
 ·rw[qaq fun h=>by have:=(qdN.1 h).1;simp[this] at h1]
theorem qgD(a b:Mat)(ha:a.2.2.2.1.length≤1048576):Ret E n_Z145 [dM a,dM b] ⟨o_Z145,(pb (a=b),())⟩:=by
 refine qak ?_
 simp only[run_Z145,Z145.ev]
 have no:a≠b→Ev fun φ=>Z145.j0 (mkR (run E (φ 0))) (φ 0) a b true=some ⟨o_Z145,(pb (a=b),())⟩:=fun h=>by
  simp only[Z145.j0_eq _ qag,cond_true]
  rw[qaq h];(first | exact qan | exact Ev.of fun _=>trivial)
 refine qcs (fun h1=>no fun h=>by simp[(qdN.1 h).1] at h1) fun h1=>qcs (fun h2=>no fun h=>by simp[(qdN.1 h).2.1] at h2) fun h2=>qcs (fun h3=>no fun h=>by simp[(qdN.1 h).2.2.1] at h3) fun h3=>?_
 have h1:a.1=b.1:=by simpa using h1
 have h2:a.2.1=b.2.1:=by simpa using h2
 have h3:a.2.2.1=b.2.2.1:=by simpa using h3
 by_cases hl:a.2.2.2.1.length=b.2.2.2.1.length
 ·simp only[show((a.2.2.2.1.length:Int) != (b.2.2.2.1.length:Int))=false by simp[hl],Z145.j0_eq _ qag,cond_false]
  refine Ev.start (p:=fun φ n=>Z145.l1 (mkR (run E (φ 0))) (φ 0) n a b 0=_) 1 ?_ (fun _ _ _ h=>h)
  refine(qdY 1 (L:=fun φ n k=>Z145.l1 (mkR (run E (φ 0))) (φ 0) n a b k) (len:=a.2.2.2.1.length) 0 (by omega) (fun j=>a.2.2.2.1.getD j 0=b.2.2.2.1.getD j 0) (fun b=>some ⟨o_Z145,(b,())⟩) (fun _ _ _ _=>rfl) (fun k k1 k2 hP _=>?_) (fun k r k1 k2 hP _ ih=>?_) (fun _=>?_)).to ?_
  ·simp only[Z145.l1_succ _ qag]
   have hb:k<b.2.2.2.1.length:=by omega
   rw[qaf k2,qaf hb] at hP
   exact qaB (decide_eq_true (by omega)) (qae (qao k2) (qae (qao hb) (qaB (by simpa using hP) qan)))
  ·simp only[Z145.l1_succ _ qag]
   have hb:k<b.2.2.2.1.length:=by omega
   rw[qaf k2,qaf hb] at hP
   refine qaB (decide_eq_true (by omega)) (qae (qao k2) (qae (qao hb) (qaD (by simpa using hP) ?_)))
   rw[qah (by omega)];exact ih
  ·simp only[Z145.l1_succ _ qag]
   exact qaD (decide_eq_false (by omega)) qan
  ·refine congrArg (fun b:Bool=>some (⟨o_Z145,(b,())⟩:Dv)) (qaM ⟨fun hh=>qdN.2 ⟨h1,h2,h3,List.ext_getElem hl fun j g1 g2=>?_⟩,fun hh j _ _=>by rw[hh]⟩)
   have:=hh j (by omega) g1
   rwa [qaf g1,qaf g2] at this
 ·simp only[show((a.2.2.2.1.length:Int) != (b.2.2.2.1.length:Int))=true by simp;omega]
  exact no fun h=>hl (by rw[(qdN.1 h).2.2.2])
noncomputable def mp(c:List Sim)(ms:List Mat)(k i:Nat):Mat:=ms.getD (plc c k+i) mz
noncomputable def fc(c:List Sim)(k i:Nat):Nat:=((qaI c k).getD i 0).toNat
theorem qo3{c:List Sim}{s:Sim}(h:s∈c):c.getD (qdP c s).toNat []=s:=by
 have h0:=qbb.2 h
 unfold qdP qiF at h0 ⊢
 cases hf:c.findIdx? (fun x=>pb (x=s)) with
 | none=>rw[hf] at h0;simp[o2i] at h0
 | some k =>
  rw[List.findIdx?_eq_some_iff_getElem] at hf
  obtain⟨hk,hp,_⟩:=hf
  simp only[o2i,Int.toNat_natCast]
  rw[qaf hk];exact qaH.1 hp
theorem qa4{c:List Sim}(h:VC c){k i:Nat}(hk:k<c.length)(hi:i<(qaI c k).length):idx? (qaI c k) (i:Int)=some ((fc c k i:Nat):Int)∧fc c k i<c.length∧c.getD (fc c k i) []=(c.getD k []).eraseIdx i:=by
 have hm:=qng h hk (List.getElem_mem hi)
 have hl:=qaF (c:=c) (k:=k)
 have h1:1<(c.getD k []).length:=Classical.byContradiction fun hn=>by rw[if_neg hn] at hl;omega
 rw[if_pos h1] at hl
 have hfc:(qaI c k)[i]=qdP c ((c.getD k []).eraseIdx i):=by
  have:(qaI c k)[i]? = some (qdP c ((c.getD k []).eraseIdx i)):=by
   unfold qaI qbi
   rw[if_pos h1,List.map_map,List.getElem?_map,List.getElem?_range (by omega)];rfl
  rw[List.getElem?_eq_getElem hi] at this
  exact Option.some.inj this
 have hin:(c.getD k []).eraseIdx i∈c:=h.2.2.2 k hk _ (qbL.2 ⟨h1,i,by omega,rfl⟩)
 unfold fc
 rw[qaf hi]
 refine⟨?_,by omega,?_⟩
 ·rw[qao hi];congr 1;omega
 ·rw[hfc];exact qo3 hin
theorem VS.map{c:List Sim}{p:Int}{st:Sim}{ms:List Mat}(h:VS c p st ms){k i:Nat}(hk:k<c.length)(hi:i<(qaI c k).length):plc c k+i<ms.length∧Bt (mp c ms k i) p (st.getD (fc c k i) 0) (st.getD k 0):=by
 have hg:=qbD hk hi
 have hlt:=(List.getElem?_eq_some_iff.1 hg).1
 exact⟨by rw[← h.2.2.2.1];exact hlt,h.2.2.2.2 k hk i hi⟩
theorem qkU(c:List Sim)(p:Int)(st:Sim)(ms:List Mat)(k:Nat)(hk:k≤c.length)(hv:VC c):Ret E n_Z51 [dLL c,dI p,dL st,dMs ms,dI (k:Int)] ⟨o_Z51,(((plc c k:Nat):Int),())⟩:=by
 have h48:=hv.1
 have htl:(c.take k).length=k:=by rw[List.length_take];omega
 refine qak ?_
 simp only[run_Z51,Z51.ev,Int.toNat_natCast,htl]
 refine qax (by simp;omega) ?_
 refine Ev.start (p:=fun φ n=>Z51.l0 (mkR (run E (φ 0))) (φ 0) n 0 (c.take k) (k:Int) 0=_) 1 ?_ (fun _ _ _ h=>h)
 have:=qaw 1 (L:=fun φ n j a=>Z51.l0 (mkR (run E (φ 0))) (φ 0) n a (c.take k) (k:Int) j) (len:=k) (fun j=>((plc c j:Nat):Int)) (r:=some ⟨o_Z51,(((plc c k:Nat):Int),())⟩) (fun _ _ _ _ _=>rfl) (fun j r hj ih=>?_) ?_
 ·exact this
 ·simp only[Z51.l0_succ _ qag]
  have hjc:j<c.length:=by omega
  have hpl:=hv.plc (k:=j) (by omega)
  have h4:=hv.len4 hjc
  have e:=qey (c:=c) (k:=j)
  rw[qaF] at e
  rw[qaf hjc] at e h4
  have hjt:j<(c.take k).length:=by omega
  have hgt:(c.take k)[j]=c[j]:=List.getElem_take
  refine qaB (decide_eq_true (by omega)) (qae (qao hjt) ?_)
  rw[hgt]
  refine qeE (fun hl=>qaa (qfB _) ?_) fun hl=>?_
  ·rw[if_pos (by omega)] at e
   rw[qah (by omega),qai (by omega) (by omega)]
   rw[e] at ih
   simpa using ih
  ·rw[if_neg (by omega)] at e
   rw[qah (by omega)]
   rw[e] at ih;exact ih
 ·simp only[Z51.l0_succ _ qag]
  exact qaD (decide_eq_false (by omega)) qan
theorem qci(c:List Sim)(p:Int)(st:Sim)(ms:List Mat)(k i:Nat)(hk:k<c.length)(hi:i<(qaI c k).length)(h:VS c p st ms):Ret E n_Z42 [dLL c,dI p,dL st,dMs ms,dI (k:Int),dI (i:Int)] ⟨o_Z42,mp c ms k i⟩:=by
 have h48:=h.1.1
 have hpl:=h.1.plc (k:=k) (by omega)
 have h4:=h.1.fIdx4 hk
 obtain⟨ht,_⟩:=h.map hk hi
 refine qak ?_
 simp only[run_Z42,Z42.ev]
 refine qaa (qkU c p st ms k (by omega) h.1) ?_
 simp only
 rw[qai (by omega) (by omega),show((plc c k:Nat):Int)+(i:Int)=((plc c k+i:Nat):Int) by omega]
 refine qae (qao ht) (qal ?_)
 rw[mp,qaf ht]
noncomputable def two(c:List Sim)(ms:List Mat)(k i j:Nat):Mat:=qcY (mp c ms k i) (mp c ms (fc c k i) j)
theorem qm5{a b:Mat}(ha:VM a)(hb:VM b):(qcY a b).2.2.2.1.length≤1048576:=by
 show(qat _ _ _).length≤_
 rw[qas]
 have h1:=ha.2.1
 have h2:=hb.2.2.1
 have:=qeB (R:=a.2.1.toNat) (C:=b.2.2.1.toNat) (by omega) (by omega)
 omega
structure Sq (c:List Sim) (p:Int) (st:Sim) (ms:List Mat) (k i j:Nat):Prop where
 kl:k<c.length
 n3:3≤(c.getD k []).length
 il:i<(c.getD k []).length
 jl:j+1<(c.getD k []).length
 v:VS c p st ms
theorem Sq.hi{c p st ms k i j}(h:Sq c p st ms k i j):i<(qaI c k).length:=by
 have:=h.n3;have:=h.il
 rw[qaF,if_pos (by omega)];exact this
theorem Sq.fk{c p st ms k i j}(h:Sq c p st ms k i j):fc c k i<c.length:=(qa4 h.v.1 h.kl h.hi).2.1
theorem Sq.hj{c p st ms k i j}(h:Sq c p st ms k i j):j<(qaI c (fc c k i)).length:=by
 have h1:=h.n3;have h2:=h.il;have h3:=h.jl
 have e:=(qa4 h.v.1 h.kl h.hi).2.2
 rw[qaF,e,List.length_eraseIdx,if_pos h2,if_pos (by omega)];omega
theorem Sq.b1{c p st ms k i j}(h:Sq c p st ms k i j):VM (mp c ms k i):=((h.v.map h.kl h.hi).2).1
theorem Sq.b2{c p st ms k i j}(h:Sq c p st ms k i j):VM (mp c ms (fc c k i) j):=((h.v.map h.fk h.hj).2).1
theorem Sq.sh{c p st ms k i j}(h:Sq c p st ms k i j):(mp c ms k i).2.2.1=(mp c ms (fc c k i) j).2.1:=by
 rw[((h.v.map h.kl h.hi).2).2.2.2,((h.v.map h.fk h.hj).2).2.2.1]
theorem Sq.impl{c p st ms k i j}(h:Sq c p st ms k i j):Ret E n_Z64 [dI (mp c ms k i).1,dI (mp c ms k i).2.1,dI (mp c ms k i).2.2.1,dL (mp c ms k i).2.2.2.1,dI (mp c ms (fc c k i) j).1,dI (mp c ms (fc c k i) j).2.1,dI (mp c ms (fc c k i) j).2.2.1,dL (mp c ms (fc c k i) j).2.2.2.1] ⟨o_Z64,two c ms k i j⟩ :=
 qil _ _ h.b1 h.b2 h.sh
end VeT
open Go Go.Proofs Ve
namespace VeT
def qaX(l:Sim):Tx:=if l=[] then [45] else Go.Lib.join (l.map Go.Lib.itoa) [44]
def qg5(l:Sim):Prop:=l.length≤64∧∀ x∈l,-1000000000000≤x∧x≤1000000000000
open Classical in
noncomputable def qeD(l:Sim):Tx:=if qg5 l then qaX l else []
theorem qex{ls:List Tx}{s:Tx}{b:Nat}(h:∀ x∈ls,x.length≤b):(Go.Lib.join ls s).length≤ls.length*(s.length+b):=by
 have key:∀ r:List Tx,(∀ x∈r,x.length≤b)→(Go.Lib.joinTail s r).length≤r.length*(s.length+b):=by
  intro r
  induction r with
  | nil=>intro _;simp[Go.Lib.joinTail]
  | cons y r ih =>
   intro hr
   have h1:=ih fun x hx=>hr x (List.mem_cons_of_mem _ hx)
   have h2:=hr y List.mem_cons_self
   have e:Go.Lib.joinTail s (y::r)=s++y++Go.Lib.joinTail s r:=by simp[Go.Lib.joinTail]
   rw[e,List.length_append,List.length_append,List.length_cons,Nat.succ_mul]
   omega
 cases ls with
 | nil=>rw[Go.Lib.join_nil];simp
 | cons x r =>
  rw[Go.Lib.join_cons,List.length_append,List.length_cons,Nat.succ_mul]
  have h1:=key r fun y hy=>h y (List.mem_cons_of_mem _ hy)
  have h2:=h x List.mem_cons_self
  omega
theorem qhU{l:Sim}(h:∀ x∈l,-1000000000000≤x∧x≤1000000000000):(qaX l).length≤1+l.length*22:=by
  unfold qaX
  split
  · simp
  · have:=qex (ls:=l.map Go.Lib.itoa) (s:=[44]) (b:=21) fun x hx=>by
      obtain⟨n,hn,rfl⟩:=List.mem_map.1 hx
      have:=h n hn
      exact Go.Lib.itoa_length_le n (by omega) (by omega)
    rw[List.length_map,List.length_singleton] at this
    omega
theorem qmB(n:Int):Ret E n_Z62 [dI n] ⟨o_Z62,(pb (-1000000000000≤n∧n≤1000000000000),())⟩:=by
 refine qak ?_
 simp only[run_Z62,Z62.ev]
 exact qaa (qbQ n (-1000000000000) 1000000000000) qan
theorem qiR(n:Int):Ret E n_Z11 [dI n] ⟨o_Z11,(!pb (-1000000000000≤n∧n≤1000000000000),())⟩:=by
 refine qak ?_
 simp only[run_Z11,Z11.ev]
 exact qaa (qmB n) qan
theorem qc5(l:Sim)(hl:l.length≤1048576):Ret E n_Z10 [dL l] ⟨o_Z10,(tx (qeD l),())⟩:=by
 refine qak ?_
 simp only[run_Z10,Z10.ev]
 have bad:¬ qg5 l→Ev fun φ=>Z10.j0 (mkR (run E (φ 0))) (φ 0) l true=some ⟨o_Z10,(tx (qeD l),())⟩:=fun h=>by
  simp only[Z10.j0_eq _ qag]
  rw[qeD,if_neg h]
  exact qaB rfl qan
 refine qeE (fun h=>bad fun hf=>?_) fun h=>?_
 ·have:=hf.1;omega
 ·refine qaa (qbp l _ hl fun x _=>qiR x) ?_
  by_cases hx:∃ x∈l,(!pb (-1000000000000≤x∧x≤1000000000000))=true
  ·rw[qay hx]
   refine bad fun hf=>?_
   obtain⟨x,h1,h2⟩:=hx
   rw[qay (hf.2 x h1)] at h2;cases h2
  ·rw[qaq hx]
   have hf:qg5 l:=⟨by omega,fun x hx2=>Classical.byContradiction fun hn=>hx ⟨x,hx2,by rw[qaq hn];rfl⟩⟩
   simp only[Z10.j0_eq _ qag]
   rw[qeD,if_pos hf]
   refine qaD rfl ?_
   by_cases h0:l=[]
   ·subst h0
    exact qaB rfl qan
   ·have hl0:0<l.length:=List.length_pos_iff.2 h0
    refine qaD (by rw[beq_eq_false_iff_ne];omega) ?_
    rw[qaX,if_neg h0]
    refine Ev.start (p:=fun φ n=>Z10.l1 (mkR (run E (φ 0))) (φ 0) n l (l.length:Int) 0 []=_) 1 ?_ (fun _ _ _ h=>h)
    refine qaw 1 (L:=fun φ n k o=>Z10.l1 (mkR (run E (φ 0))) (φ 0) n l (l.length:Int) k o) (len:=l.length) (fun k=>((l.map Go.Lib.itoa).take k).map tx) (fun _ _ _ _ _=>rfl) (fun k r hk ih=>?_) ?_
    ·simp only[Z10.l1_succ _ qag]
     have hb:=hf.2 l[k] (List.getElem_mem hk)
     have hlk:(((l.map Go.Lib.itoa).take k).map tx).length=k:=by simp;omega
     refine qaB (decide_eq_true (by omega)) (qae (qao hk) (qaa (qiD l[k] (by omega) (by omega)) (qax (decide_eq_true (by simp only[hlk,List.length_singleton];have:=hf.1;omega)) ?_)))
     rw[qah (by omega)]
     have e:((l.map Go.Lib.itoa).take (k+1)).map tx=((l.map Go.Lib.itoa).take k).map tx++[tx (Go.Lib.itoa l[k])]:=by
      rw[List.take_succ_eq_append_getElem (by simpa using hk),List.map_append,List.getElem_map];rfl
     rw[e] at ih
     exact ih
    ·simp only[Z10.l1_succ _ qag]
     refine qaD (decide_eq_false (by omega)) ?_
     have e:(l.map Go.Lib.itoa).take l.length=l.map Go.Lib.itoa:=List.take_of_length_le (by simp)
     rw[e]
     have hj:=qex (ls:=l.map Go.Lib.itoa) (s:=[44]) (b:=21) fun x hx=>by
      obtain⟨n,hn,rfl⟩:=List.mem_map.1 hx
      have:=hf.2 n hn
      exact Go.Lib.itoa_length_le n (by omega) (by omega)
     rw[List.length_map,List.length_singleton] at hj
     have:=hf.1
     exact qaa (qkk (l.map Go.Lib.itoa) [44] (by omega) (by simp;omega)) qan
noncomputable def qfZ(c:List Sim):Nat→Sim
 | 0=>[]
 | k+1=>if (qdX c (c.getD k []) c.length).length=1 then qfZ c k++[(k:Int)] else qfZ c k
theorem qgY{c:List Sim}:∀ {n:Nat} {x:Int},x∈qfZ c n→0≤x∧x<(n:Int)
 | 0,x,h=>by cases h
 | n+1,x,h=>by
  unfold qfZ at h
  split at h
  ·rcases List.mem_append.1 h with h | h
   ·have:=qgY h;omega
   ·rw[List.mem_singleton] at h;omega
  ·have:=qgY h;omega
theorem qfz{c:List Sim}:∀ {n:Nat},(qfZ c n).length≤n
 | 0=>Nat.le_refl _
 | n+1=>by
  have:=qfz (c:=c) (n:=n)
  unfold qfZ
  split
  ·rw[List.length_append,List.length_singleton];omega
  ·omega
theorem qnQ(c:List Sim)(hc:Sm (.sl (.sl (.int .i64))) c):Ret E n_Z46 [dLL c] ⟨o_Z46,(qfZ c c.length,())⟩:=by
 have hc1:c.length≤1048576:=hc.1
 refine qak ?_
 simp only[run_Z46,Z46.ev]
 refine qaa (qhM c) ?_
 refine Ev.start (p:=fun φ n=>Z46.l0 (mkR (run E (φ 0))) (φ 0) n (c.length:Int) 0 c []=_) 1 ?_ (fun _ _ _ h=>h)
 refine qaw 1 (L:=fun φ n k o=>Z46.l0 (mkR (run E (φ 0))) (φ 0) n (c.length:Int) k c o) (len:=c.length) (fun k=>qfZ c k) (fun _ _ _ _ _=>rfl) (fun k r hk ih=>?_) ?_
 ·simp only[Z46.l0_succ _ qag]
  have hfl:=qfz (c:=c) (n:=k)
  refine qaB (decide_eq_true (by omega)) (qaa (qnP c k hk hc) ?_)
  rw[qfZ,qaf hk] at ih
  by_cases h:(qdX c c[k] c.length).length=1
  ·rw[if_pos h] at ih
   refine qaB (by show((((qdX c c[k] c.length).length:Nat):Int)==1)=true;rw[h];rfl) (qax (decide_eq_true (by simp only[List.length_singleton];omega)) ?_)
   rw[qah (by omega)];exact ih
  ·rw[if_neg h] at ih
   refine qaD (by show((((qdX c c[k] c.length).length:Nat):Int)==1)=false;rw[beq_eq_false_iff_ne];omega) ?_
   rw[qah (by omega)];exact ih
 ·simp only[Z46.l0_succ _ qag]
  exact qaD (decide_eq_false (by omega)) qan
noncomputable def qgn(c:List Sim):List Tx:=(qfZ c c.length).map fun k=>qaX (c.getD k.toNat [])
noncomputable def qc1(c:List Sim):Tx:=if qfZ c c.length=[] then [45] else Go.Lib.join (qgn c) [47]
open Classical in
noncomputable def qqG(c:List Sim):Tx:=if VC c then qc1 c else []
theorem qky{s:Sim}(h:Vx s):qg5 s∧s.length≤4:=⟨⟨by have:=h.2.1;omega,fun x hx=>by have:=h.2.2.2 x hx;omega⟩,h.2.1⟩
theorem qnq{c:List Sim}(h:VC c):∀ x∈qgn c,x.length≤89:=fun x hx=>by
 obtain⟨k,hk,rfl⟩:=List.mem_map.1 hx
 have hm:=qgY hk
 obtain⟨h1,h2⟩:=qky (h.2.1 k.toNat (by omega))
 have:=qhU h1.2
 omega
theorem qsC{c:List Sim}(hv:VC c){k:Nat}(hk:k<(qfZ c c.length).length):∃ j:Nat,(qfZ c c.length)[k]=(j:Int)∧∃ hj:j<c.length,qg5 c[j]∧c[j].length≤4∧(qgn c)[k]? = some (qaX c[j]):=by
 have hm:=qgY (List.getElem_mem hk)
 obtain⟨j,hj⟩:=Int.eq_ofNat_of_zero_le hm.1
 have hjl:j<c.length:=by omega
 obtain⟨h1,h2⟩:=qky (hv.2.1 j hjl)
 rw[qaf hjl] at h1 h2
 refine⟨j,hj,hjl,h1,h2,?_⟩
 unfold qgn
 rw[List.getElem?_map,List.getElem?_eq_getElem hk,Option.map_some,hj,Int.toNat_natCast,qaf hjl]
theorem qd2(c:List Sim)(hc:Sm (.sl (.sl (.int .i64))) c):Ret E n_Z7 [dLL c] ⟨o_Z7,(tx (qqG c),())⟩:=by
 refine qak ?_
 simp only[run_Z7,Z7.ev]
 refine qaa (qdL c hc) ?_
 by_cases hv:¬ VC c
 ·rw[qqG,if_neg hv]
  exact qaB (by rw[qaq hv];rfl) qan
 replace hv:=Classical.not_not.1 hv
 rw[qqG,if_pos hv]
 refine qaD (by rw[qay hv];rfl) (qaa (qnQ c hc) ?_)
 have h48:=hv.1
 have hfl:=qfz (c:=c) (n:=c.length)
 have hftl:(qgn c).length=(qfZ c c.length).length:=List.length_map _
 refine Ev.start (p:=fun φ n=>Z7.l0 (mkR (run E (φ 0))) (φ 0) n (qfZ c c.length) ((qfZ c c.length).length:Int) 0 c []=_) 1 ?_ (fun _ _ _ h=>h)
 refine qaw 1 (L:=fun φ n k o=>Z7.l0 (mkR (run E (φ 0))) (φ 0) n (qfZ c c.length) ((qfZ c c.length).length:Int) k c o) (len:=(qfZ c c.length).length) (fun k=>((qgn c).take k).map tx) (fun _ _ _ _ _=>rfl) (fun k r hk ih=>?_) ?_
 ·simp only[Z7.l0_succ _ qag]
  obtain⟨j,e1,hj,hf,h4,e2⟩:=qsC hv hk
  have hlk:(((qgn c).take k).map tx).length=k:=by simp;omega
  refine qaB (decide_eq_true (by omega)) (qae (qao hk) ?_)
  rw[e1]
  refine qae (qao hj) (qaa (qc5 c[j] (by omega)) (qax (decide_eq_true (by simp only[hlk,List.length_singleton];omega)) ?_))
  rw[qah (by omega)]
  have e:((qgn c).take (k+1)).map tx=((qgn c).take k).map tx++[tx (qeD c[j])]:=by
   have hk2:k<(qgn c).length:=by omega
   rw[List.take_succ_eq_append_getElem hk2,List.map_append]
   rw[List.getElem?_eq_getElem hk2] at e2
   rw[Option.some.inj e2,qeD,if_pos hf];rfl
  rw[e] at ih
  exact ih
 ·simp only[Z7.l0_succ _ qag]
  refine qaD (decide_eq_false (by omega)) ?_
  have e:(qgn c).take (qfZ c c.length).length=qgn c:=List.take_of_length_le (by omega)
  rw[e]
  by_cases h0:qfZ c c.length=[]
  ·rw[qc1,if_pos h0]
   have:qgn c=[]:=by unfold qgn;rw[h0];rfl
   rw[this]
   exact qaB rfl qan
  ·rw[qc1,if_neg h0]
   have hl0:0<(qfZ c c.length).length:=List.length_pos_iff.2 h0
   refine qaD (by rw[beq_eq_false_iff_ne,List.length_map];omega) ?_
   have hj:=qex (ls:=qgn c) (s:=[47]) (b:=89) (qnq hv)
   rw[hftl,List.length_singleton] at hj
   exact qaa (qkk (qgn c) [47] (by omega) (by omega)) qan
end VeT
open Go Go.Proofs Ve
namespace VeT
def spl(b:UInt8):Tx→List Tx
 | []=>[[]]
 | c::r=>if c=b then []::spl b r else(c::(spl b r).headD [])::(spl b r).tail
theorem qnr(b:UInt8)(l:Tx):∃ x t,spl b l=x::t:=by
 cases l with
 | nil=>exact⟨_,_,rfl⟩
 | cons c r=>unfold spl;split<;>exact⟨_,_,rfl⟩
theorem qkF{b:UInt8}{r:Tx}:spl b (b::r)=[]::spl b r:=by rw[spl,if_pos rfl]
theorem qez{b c:UInt8}{r x:Tx}{t:List Tx}(h:c≠b)(e:spl b r=x::t):spl b (c::r)=(c::x)::t:=by rw[spl,if_neg h,e];rfl
theorem qfK(x s:Tx)(r:List Tx):Go.Lib.joinTail s (x::r)=s++x++Go.Lib.joinTail s r:=by simp[Go.Lib.joinTail]
theorem qjX{b:UInt8}:∀ {x:Tx},b∉x→spl b x=[x]
 | [],_=>rfl
 | c::x,h=>qez (fun e=>h (e ▸ List.mem_cons_self)) (qjX fun hm=>h (List.mem_cons_of_mem _ hm))
theorem qpG{b:UInt8}:∀ {x r:Tx},b∉x→spl b (x++b::r)=x::spl b r
 | [],r,_=>qkF
 | c::x,r,h=>qez (fun e=>h (e ▸ List.mem_cons_self)) (qpG fun hm=>h (List.mem_cons_of_mem _ hm))
theorem qdv{b:UInt8}:∀ {ls:List Tx},ls≠[]→(∀ x∈ls,b∉x)→spl b (Go.Lib.join ls [b])=ls
 | [],h,_=>absurd rfl h
 | [x],_,h=>by rw[Go.Lib.join_one];exact qjX (h x List.mem_cons_self)
 | x::y::r,_,h=>by
  have ih:=qdv (b:=b) (ls:=y::r) (List.cons_ne_nil _ _) fun z hz=>h z (List.mem_cons_of_mem _ hz)
  have e:Go.Lib.join (x::y::r) [b]=x++b::Go.Lib.join (y::r) [b]:=by
   rw[Go.Lib.join_cons,qfK,Go.Lib.join_cons,List.append_assoc];rfl
  rw[e,qpG (h x List.mem_cons_self),ih]
theorem qf3{b:UInt8}:∀ {l:Tx},(spl b l).length≤l.length+1
 | []=>Nat.le_refl _
 | c::r=>by
  have ih:=qf3 (b:=b) (l:=r)
  by_cases hc:c=b
  ·subst hc;rw[qkF,List.length_cons,List.length_cons];omega
  ·obtain⟨x,t,e⟩:=qnr b r
   rw[e] at ih
   rw[qez hc e,List.length_cons,List.length_cons]
   rw[List.length_cons] at ih
   omega
theorem qjE(b:UInt8):∀ l:Tx,Go.Lib.splitK [b] 0 (Go.Lib.count l [b]) l=spl b l
 | []=>by
  rw[Go.Lib.count_miss (by simp[Go.Lib.index])];rfl
 | c::r=>by
  have ih:=qjE b r
  by_cases hc:c=b
  ·subst hc
   have hix:Go.Lib.index (c::r) [c]=((0:Nat):Int):=by rw[Go.Lib.index];simp[List.isPrefixOf]
   rw[Go.Lib.count_cons_eq,qkF,← ih,Nat.add_comm,Go.Lib.splitK,hix]
   rfl
  ·have hp:([b]:Tx).isPrefixOf (c::r)=false:=by simp[List.isPrefixOf,Ne.symm hc]
   have hix:Go.Lib.index (c::r) [b]=if Go.Lib.index r [b]==-1 then -1 else Go.Lib.index r [b]+1:=by rw[Go.Lib.index,hp];simp
   rw[Go.Lib.count_cons_ne c b r hc]
   generalize hk:Go.Lib.count r [b]=k at ih ⊢
   cases k with
   | zero=>exact(qez hc ih.symm).symm
   | succ k =>
    have hm:¬ Go.Lib.index r [b]=-1:=fun hm=>by rw[Go.Lib.count_miss hm] at hk;omega
    have hge:=Go.Lib.index_ge r [b]
    obtain⟨j,hj⟩:∃ j:Nat,Go.Lib.index r [b]=j:=⟨(Go.Lib.index r [b]).toNat,by omega⟩
    have hix':Go.Lib.index (c::r) [b]=((j+1:Nat):Int):=by rw[hix,if_neg (fun e=>hm (beq_iff_eq.1 e)),hj];omega
    rw[Go.Lib.splitK,hj,if_neg (by rw[beq_iff_eq];omega)] at ih
    rw[Go.Lib.splitK,hix',if_neg (by rw[beq_iff_eq];omega)]
    rw[qez hc ih.symm]
    simp only[Int.toNat_natCast,Nat.add_zero,List.take_succ_cons,List.length_singleton,List.drop_succ_cons]
theorem qsf{xs:List ByteArray}{ls:List Tx}(h:xs.map (·.data.toList)=ls):xs=ls.map tx:=by
 subst h
 rw[List.map_map]
 exact((List.map_congr_left fun x _=>qrx x).trans (List.map_id' xs)).symm
theorem qoi(l:Tx)(b:UInt8):qeS (tx l) (tx [b])=(spl b l).map tx:=by
 refine qsf ?_
 unfold qeS
 rw[Go.Lib.splitB_data,qeb,qeb]
 have e:Go.Lib.countB (tx l) (tx [b])=Go.Lib.count l [b]:=by
  unfold Go.Lib.countB
  rw[qeb,qeb]
 rw[e]
 exact qjE b l
theorem qor(n:Nat)(args:List Dv):run E (n+1) n_Z173 args=qjq (mkR (run E n)) args:=rfl
theorem qhf(l:Tx)(b:UInt8)(hl:l.length<4294967281):Ret E n_Z173 [dT (tx l),dT (tx [b])] ⟨o_Z173,((spl b l).map tx,())⟩:=by
 refine qak ?_
 simp only[qor]
 refine qal ?_
 have hc:chk (decide ((tx l).size<4294967281)&&decide (1≤(tx [b]).size))=some ():=by
  rw[qj5,qj5,decide_eq_true hl];rfl
 show((some (tx l)).bind fun s=>(some (tx [b])).bind fun sep=>(chk (decide (s.size<4294967281)&&decide (1≤sep.size))).map fun _=>(⟨.cons (.sl .str) .nil,(qeS s sep,())⟩:Dv))=_
 simp only[Option.bind_some,hc]
 rw[Option.map_some,qoi]
theorem qlh(l:Tx):ByteArray.toList (tx l)=l:=by rw[ByteArray.toList_eq,qeb]
end VeT
open Go Go.Proofs Ve
namespace VeT
def Num(l:Tx)(n:Int):Prop:=Go.Lib.itoa n=l∧n.natAbs<10 ^ 18
def dgv(a:Nat):Tx→Option Nat
 | []=>some a
 | c::r=>if 48≤c.toNat∧c.toNat≤57 then dgv (a*10+(c.toNat-48)) r else none
theorem qoZ:∀(xs ys:Tx) (a:Nat),dgv a (xs++ys)=(dgv a xs).bind fun b=>dgv b ys
 | [],ys,a=>rfl
 | c::xs,ys,a=>by
  rw[List.cons_append,dgv,dgv]
  split
  ·exact qoZ xs ys _
  ·rfl
theorem qmk{d:Nat}(h:d<10):(UInt8.ofNat (48+d)).toNat=48+d:=by
 rw[UInt8.toNat_ofNat'];omega
theorem qmw{a d:Nat}(h:d<10):dgv a [UInt8.ofNat (48+d)]=some (a*10+d):=by
 rw[dgv,qmk h,if_pos (by omega),dgv]
 congr 1;omega
theorem qkJ{u:Nat}(h:¬ u<10):Go.Lib.decDigits u=Go.Lib.decDigits (u / 10)++[UInt8.ofNat (48+u%10)]:=by
 conv=>lhs;rw[Go.Lib.decDigits,dif_neg h]
theorem qoU:∀(b u:Nat),u≤b→dgv 0 (Go.Lib.decDigits u)=some u
 | 0,u,h=>by
  obtain rfl:u=0:=by omega
  rw[Go.Lib.decDigits_one (by omega)]
  exact qmw (by omega)
 | b+1,u,h=>by
  by_cases h1:u<10
  ·rw[Go.Lib.decDigits_one h1,qmw h1];congr 1;omega
  ·rw[qkJ h1,qoZ,qoU b (u / 10) (by omega),Option.bind_some,qmw (Nat.mod_lt _ (by omega))]
   congr 1;omega
theorem qqH:∀ {xs:Tx} {a u:Nat},dgv a xs=some u→a≤u∧u<(a+1)*10 ^ xs.length
 | [],a,u,h=>by
  obtain rfl:a=u:=Option.some.inj h
  simp
 | c::r,a,u,h=>by
  rw[dgv] at h
  split at h
  ·have h2:=qqH h
   refine⟨by omega,Nat.lt_of_lt_of_le h2.2 ?_⟩
   rw[List.length_cons,Nat.pow_succ',← Nat.mul_assoc]
   exact Nat.mul_le_mul (by omega) (Nat.le_refl _)
  ·cases h
theorem qpM(u:Nat):Go.Lib.decDigits u≠[]:=by
 by_cases h1:u<10
 ·rw[Go.Lib.decDigits_one h1];simp
 ·rw[qkJ h1];simp
theorem qif:∀(b u:Nat),u≤b→∀ c∈Go.Lib.decDigits u,48≤c.toNat∧c.toNat≤57
 | 0,u,h,c,hc=>by
  obtain rfl:u=0:=by omega
  rw[Go.Lib.decDigits_one (by omega),List.mem_singleton] at hc
  subst hc;decide
 | b+1,u,h,c,hc=>by
  by_cases h1:u<10
  ·rw[Go.Lib.decDigits_one h1,List.mem_singleton] at hc
   subst hc
   rw[qmk h1];omega
  ·rw[qkJ h1] at hc
   rcases List.mem_append.1 hc with hc | hc
   ·exact qif b (u / 10) (by omega) c hc
   ·rw[List.mem_singleton] at hc
    subst hc
    have:=Nat.mod_lt u (show 10>0 by omega)
    rw[qmk this];omega
theorem qrU{u:Nat}:(Go.Lib.decDigits u).length≤18↔u<10 ^ 18:=by
 rw[Go.Lib.decDigits_length]
 constructor
 ·intro h
  exact Nat.lt_of_lt_of_le (Go.Lib.lt_pow_nDigits u) (Nat.pow_le_pow_right (by omega) h)
 ·intro h
  have hl:=qm0 18 u h
  by_cases h0:u=0
  ·subst h0;rw[Go.Lib.nDigits_small (by omega)];omega
  ·have e:=congrArg List.length (qnC u u (Nat.le_refl _) h0)
   rw[List.length_reverse,List.length_map,Go.Lib.decDigits_length] at e
   omega
theorem qmd{n:Int}(h:0≤n):Go.Lib.itoa n=Go.Lib.decDigits n.natAbs:=by
 unfold Go.Lib.itoa
 rw[if_neg (by omega),show n.toNat=n.natAbs by omega]
theorem qmo{n:Int}(h:n<0):Go.Lib.itoa n=45::Go.Lib.decDigits n.natAbs:=by
 unfold Go.Lib.itoa
 rw[if_pos h]
theorem qpZ(r:Tx):Go.Lib.trimPrefix (45::r) [45]=r:=by
 have e:Go.Lib.hasPrefix (45::r) [45]=true:=by simp[Go.Lib.hasPrefix,List.isPrefixOf]
 unfold Go.Lib.trimPrefix
 rw[if_pos e];rfl
theorem qoT{l:Tx}(h:l.head?≠some 45):Go.Lib.trimPrefix l [45]=l:=by
 have e:¬ Go.Lib.hasPrefix l [45]=true:=by
  cases l with
  | nil=>simp[Go.Lib.hasPrefix,List.isPrefixOf]
  | cons c r =>
   have:c≠45:=fun e=>h (by rw[e];rfl)
   simp[Go.Lib.hasPrefix,List.isPrefixOf]
   exact fun e=>this e.symm
 unfold Go.Lib.trimPrefix
 rw[if_neg e]
theorem qn3(u:Nat):(Go.Lib.decDigits u).head?≠some 45:=by
 cases h:Go.Lib.decDigits u with
 | nil=>simp
 | cons c r =>
  have:=qif u u (Nat.le_refl _) c (by rw[h];exact List.mem_cons_self)
  intro e
  obtain rfl:c=45:=Option.some.inj e
  revert this;decide
theorem qo7(n:Int):Go.Lib.trimPrefix (Go.Lib.itoa n) [45]=Go.Lib.decDigits n.natAbs:=by
 by_cases h:n<0
 ·rw[qmo h,qpZ]
 ·rw[qmd (by omega),qoT (qn3 _)]
theorem qi7:∀(xs:Tx) (a u:Nat),dgv a xs=some u→u<10 ^ 18→Go.Lib.parseUintM (2 ^ 64-1) a xs=.ok u
 | [],a,u,h,_=>by
  obtain rfl:a=u:=Option.some.inj h
  rfl
 | c::r,a,u,h,hu=>by
  rw[dgv] at h
  split at h
  ·rename_i hc
   have h2:=(qqH h).1
   rw[Go.Lib.parseUintM,if_pos hc,if_neg (by omega),if_neg (by omega)]
   exact qi7 r _ u h hu
  ·cases h
theorem qjd{u:Nat}(h:u<10 ^ 18):Go.Lib.parseUintB 64 (Go.Lib.decDigits u)=.ok u:=by
 unfold Go.Lib.parseUintB
 rw[if_neg (qpM u)]
 exact qi7 _ 0 u (qoU u u (Nat.le_refl _)) h
theorem qmF{n:Int}(h:n.natAbs<10 ^ 18):Go.Lib.parseIntB 64 (Go.Lib.itoa n)=.ok n:=by
 by_cases hn:n<0
 ·rw[qmo hn,Go.Lib.parseIntB_minus,qjd h]
  show(if 2 ^ (64-1)<n.natAbs then _ else _)=_
  rw[if_neg (by omega)]
  congr 1;omega
 ·rw[qmd (by omega)]
  have hm:=qif n.natAbs n.natAbs (Nat.le_refl _)
  have hp:=qjd h
  cases hd:Go.Lib.decDigits n.natAbs with
  | nil=>exact absurd hd (qpM _)
  | cons c r =>
   rw[hd] at hm hp
   have:=hm c List.mem_cons_self
   rw[Go.Lib.parseIntB_plain 64 c r (by omega) (by omega),hp]
   show(if 2 ^ (64-1)≤n.natAbs then _ else _)=_
   rw[if_neg (by omega)]
   congr 1;omega
theorem qqJ{l:Tx}{n:Int}(h:Num l n):rdT l=(n,true):=by
 obtain⟨rfl,h⟩:=h
 have hl:=qrU.2 h
 have hne:=List.length_pos_iff.2 (qpM n.natAbs)
 unfold rdT
 rw[qo7,if_neg (by omega),qmF h]
 show(if Go.Lib.itoa n=Go.Lib.itoa n then _ else _)=_
 rw[if_pos rfl]
theorem qh1(n:Nat)(args:List Dv):run E (n+1) n_Z15 args=qeq (mkR (run E n)) args:=rfl
theorem qee(l:Tx)(hl:l.length≤281474976710656):Ret E n_Z15 [dT (tx l)] ⟨o_Z15,((rdT l).1,(rdT l).2,())⟩:=by
 refine qak ?_
 simp only[qh1]
 refine qal ?_
 have hc:chk (decide ((tx l).size≤281474976710656))=some ():=by rw[qj5,decide_eq_true hl];rfl
 show((some (tx l)).bind fun s=>(chk (decide (s.size≤281474976710656))).map fun _=>(⟨.cons tI (.cons .bool .nil),((rdT s.data.toList).1,(rdT s.data.toList).2,())⟩:Dv))=_
 rw[Option.bind_some,hc,Option.map_some,qeb]
end VeT
open Go Go.Proofs Ve
namespace VeT
theorem qnD{n:Int}{c:UInt8}(h:c∈Go.Lib.itoa n):c=45∨(48≤c.toNat∧c.toNat≤57):=by
 by_cases hn:n<0
 ·rw[qmo hn] at h
  rcases List.mem_cons.1 h with h | h
  ·exact .inl h
  ·exact .inr (qif _ _ (Nat.le_refl _) c h)
 ·rw[qmd (by omega)] at h
  exact .inr (qif _ _ (Nat.le_refl _) c h)
theorem qna{ls:List Tx}{s:Tx}{c:UInt8}(h:c∈Go.Lib.join ls s):c∈s∨∃ x∈ls,c∈x:=by
 have tail:∀ r:List Tx,c∈Go.Lib.joinTail s r→c∈s∨∃ x∈r,c∈x:=by
  intro r
  induction r with
  | nil=>intro h;simp[Go.Lib.joinTail] at h
  | cons x r ih =>
   intro h
   rw[qfK] at h
   rcases List.mem_append.1 h with h | h
   ·rcases List.mem_append.1 h with h | h
    ·exact .inl h
    ·exact .inr ⟨x,List.mem_cons_self,h⟩
   ·exact(ih h).imp id fun⟨y,hy,h⟩=>⟨y,List.mem_cons_of_mem _ hy,h⟩
 cases ls with
 | nil=>rw[Go.Lib.join_nil] at h;cases h
 | cons x r =>
  rw[Go.Lib.join_cons] at h
  rcases List.mem_append.1 h with h | h
  ·exact .inr ⟨x,List.mem_cons_self,h⟩
  ·exact(tail r h).imp id fun⟨y,hy,h⟩=>⟨y,List.mem_cons_of_mem _ hy,h⟩
theorem qpl{s:Sim}{c:UInt8}(h:c∈qaX s):c=44∨c=45∨(48≤c.toNat∧c.toNat≤57):=by
 unfold qaX at h
 split at h
 ·exact .inr (.inl (List.mem_singleton.1 h))
 ·rcases qna h with h | ⟨x,hx,h⟩
  ·exact .inl (List.mem_singleton.1 h)
  ·obtain⟨n,_,rfl⟩:=List.mem_map.1 hx
   exact .inr (qnD h)
theorem qgZ{s:Sim}{c:UInt8}(h:c=47∨c=59):c∉qaX s:=fun hm=>by
 rcases qpl hm with rfl | rfl | hm
 ·revert h;decide
 ·revert h;decide
 ·rcases h with rfl | rfl
  ·revert hm;decide
  ·revert hm;decide
theorem qoE{n:Int}{c:UInt8}(h:c=44∨c=47∨c=59):c∉Go.Lib.itoa n:=fun hm=>by
 rcases qnD hm with rfl | hm
 ·revert h;decide
 ·rcases h with rfl | rfl | rfl
  ·revert hm;decide
  ·revert hm;decide
  ·revert hm;decide
theorem qjL{s:Sim}(h:s≠[]):spl 44 (qaX s)=s.map Go.Lib.itoa:=by
 rw[qaX,if_neg h]
 refine qdv (by simpa using h) fun x hx=>?_
 obtain⟨n,_,rfl⟩:=List.mem_map.1 hx
 exact qoE (.inl rfl)
def qnZ(l:Tx):Sim:=(spl 44 l).map fun w=>(rdT w).1
theorem qnc{s:Sim}(h:qg5 s){x:Int}(hx:x∈s):rdT (Go.Lib.itoa x)=(x,true):=qqJ ⟨rfl,by
 have:=h.2 x hx;omega⟩
theorem qiE{s:Sim}(h:qg5 s)(h0:s≠[]):qnZ (qaX s)=s:=by
 unfold qnZ
 rw[qjL h0,List.map_map]
 exact(List.map_congr_left fun x hx=>by show(rdT (Go.Lib.itoa x)).1=x;rw[qnc h hx]).trans (List.map_id' s)
theorem qh6{s:Sim}(h:qg5 s)(e:qaX s=[45]):s=[]:=Classical.byContradiction fun h0=>by
 have h1:=qjL h0
 rw[e,qjX (by decide)] at h1
 cases s with
 | nil=>exact h0 rfl
 | cons x r =>
  rw[List.map_cons] at h1
  have h2:=qnc h (x:=x) List.mem_cons_self
  rw[← (List.cons.inj h1).1] at h2
  rw[show rdT [45]=(0,false) from rfl] at h2
  cases h2
open Classical in
noncomputable def rdL(l:Tx):Sim×Bool:=if h:∃ s,qg5 s∧qaX s=l then(h.choose,true) else([],false)
theorem qpX{s t:Sim}(hs:qg5 s)(ht:qg5 t)(e:qaX s=qaX t):s=t:=by
 by_cases h0:s=[]
 ·subst h0
  exact(qh6 ht e.symm).symm
 by_cases h1:t=[]
 ·subst h1
  exact qh6 hs e
 rw[← qiE hs h0,e,qiE ht h1]
theorem qhq{l:Tx}{s:Sim}(h:qg5 s)(e:qaX s=l):rdL l=(s,true):=by
 have hx:∃ s,qg5 s∧qaX s=l:=⟨s,h,e⟩
 unfold rdL
 rw[dif_pos hx,qpX hx.choose_spec.1 h (hx.choose_spec.2.trans e.symm)]
theorem qoI{l:Tx}(h:∀ s,qg5 s→qaX s≠l):rdL l=([],false):=by
 unfold rdL
 rw[dif_neg fun⟨s,h1,h2⟩=>h s h1 h2]
theorem qp4{l:Tx}(h:(rdL l).2=true):qg5 (rdL l).1∧qaX (rdL l).1=l:=by
 by_cases hx:∃ s,qg5 s∧qaX s=l
 ·obtain⟨s,h1,h2⟩:=hx
  rw[qhq h1 h2]
  exact⟨h1,h2⟩
 ·rw[qoI fun s h1 h2=>hx ⟨s,h1,h2⟩] at h
  cases h
theorem qmT:qg5 []:=⟨Nat.zero_le _,fun x hx=>by cases hx⟩
theorem qjO(l:Tx):qg5 (rdL l).1:=by
 cases h:(rdL l).2 with
 | true=>exact(qp4 h).1
 | false =>
  by_cases hx:∃ s,qg5 s∧qaX s=l
  ·obtain⟨s,h1,h2⟩:=hx
   rw[qhq h1 h2] at h
   cases h
  ·rw[qoI fun s h1 h2=>hx ⟨s,h1,h2⟩]
   exact qmT
theorem qp5:rdL [45]=([],true):=qhq qmT rfl
theorem qrc{l:Tx}{s:Sim}(hl:l≠[45])(h:qg5 s)(e:qaX s=l):s≠[]∧qnZ l=s∧spl 44 l=s.map Go.Lib.itoa:=by
 have h0:s≠[]:=fun h0=>hl (by rw[← e,h0];rfl)
 refine⟨h0,by rw[← e];exact qiE h h0,by rw[← e];exact qjL h0⟩
theorem qjY{l:Tx}:(qnZ l).length=(spl 44 l).length:=List.length_map _
theorem qfm{b:UInt8}:∀ {l w:Tx},w∈spl b l→w.length+(spl b l).length≤l.length+1
 | [],w,h=>by
  obtain rfl:w=[]:=List.mem_singleton.1 h
  exact Nat.le_refl _
 | c::r,w,h=>by
  by_cases hc:c=b
  ·subst hc
   rw[qkF] at h ⊢
   rcases List.mem_cons.1 h with rfl | h
   ·have:=qf3 (b:=c) (l:=r)
    simp;omega
   ·have:=qfm h
    simp;omega
  ·obtain⟨x,t,e⟩:=qnr b r
   have ih:=fun w=>qfm (b:=b) (l:=r) (w:=w)
   rw[qez hc e] at h ⊢
   rw[e] at ih
   rcases List.mem_cons.1 h with rfl | h
   ·have:=ih x List.mem_cons_self
    simp at this ⊢;omega
   ·have:=ih w (List.mem_cons_of_mem _ h)
    simp at this ⊢;omega
theorem qkX(a b:Tx):(ByteArray.toList (tx a)==ByteArray.toList (tx b))=pb (a=b):=by
 rw[qlh,qlh,Bool.eq_iff_iff,qaH,beq_iff_eq]
theorem qcr(l:Tx)(hl:l.length<1048576):Ret E n_Z16 [dT (tx l)] ⟨o_Z16,((rdL l).1,(rdL l).2,())⟩:=by
 refine qak ?_
 simp only[run_Z16,Z16.ev]
 have ed:ByteArray.mk #[45]=tx [45]:=rfl
 rw[ed,qkX]
 by_cases h0:l=[45]
 ·rw[h0,qp5]
  exact qaB (qay rfl) qan
 refine qaD (qaq h0) (qaa (qhf l 44 (by omega)) ?_)
 have hsl:=qf3 (b:=44) (l:=l)
 refine Ev.start (p:=fun φ n=>Z16.l0 (mkR (run E (φ 0))) (φ 0) n (tx l) ((spl 44 l).map tx) (((spl 44 l).map tx).length:Int) 0 []=_) 1 ?_ (fun _ _ _ h=>h)
 rw[List.length_map]
 refine qaw 1 (L:=fun φ n k o=>Z16.l0 (mkR (run E (φ 0))) (φ 0) n (tx l) ((spl 44 l).map tx) ((spl 44 l).length:Int) k o) (len:=(spl 44 l).length) (fun k=>(qnZ l).take k) (fun _ _ _ _ _=>rfl) (fun k r hk ih=>?_) ?_
 ·simp only[Z16.l0_succ _ qag]
  have hkm:k<((spl 44 l).map tx).length:=by rw[List.length_map];exact hk
  have hw:=qfm (List.getElem_mem hk)
  have hkn:k<(qnZ l).length:=by rw[qjY];exact hk
  rw[List.take_succ_eq_append_getElem hkn] at ih
  refine qaB (decide_eq_true (by omega)) (qae (qao hkm) ?_)
  rw[List.getElem_map]
  refine qaa (qee (spl 44 l)[k] (by omega)) (qax (decide_eq_true (by rw[List.length_take];simp only[List.length_singleton];omega)) ?_)
  rw[qah (by omega)]
  have e:(qnZ l)[k]=(rdT (spl 44 l)[k]).1:=List.getElem_map (fun w=>(rdT w).1)
  rw[e] at ih
  exact ih
 ·simp only[Z16.l0_succ _ qag]
  refine qaD (decide_eq_false (by omega)) ?_
  have e:(qnZ l).take (spl 44 l).length=qnZ l:=List.take_of_length_le (by rw[qjY];exact Nat.le_refl _)
  rw[e]
  refine qaa (qc5 (qnZ l) (by rw[qjY];omega)) ?_
  show Ev fun φ=>(bif (!(ByteArray.toList (tx (qeD (qnZ l)))==ByteArray.toList (tx l))) then _ else _)=_
  rw[qkX]
  by_cases hv:qeD (qnZ l)=l
  ·refine qaD (by rw[qay hv];rfl) ?_
   have hf:qg5 (qnZ l):=Classical.byContradiction fun hf=>by
    rw[qeD,if_neg hf] at hv
    rw[← hv] at hf
    exact hf ⟨by decide,by decide⟩
   rw[qeD,if_pos hf] at hv
   rw[qhq hf hv]
   exact qan
  ·refine qaB (by rw[qaq hv];rfl) ?_
   rw[qoI fun s h1 h2=>?_]
   ·exact qan
   ·obtain⟨_,h3,_⟩:=qrc h0 h1 h2
    rw[h3,qeD,if_pos h1] at hv
    exact hv h2
end VeT
open Go Go.Proofs Ve
namespace VeT
theorem qeV(c:List Sim)(p:Int)(st:Sim)(ms:List Mat)(k:Int)(hc:c.length≤1048576):Ret E n_Z59 [dLL c,dI p,dL st,dMs ms,dI k] ⟨o_Z59,(pb (0≤k∧k≤(c.length:Int)-1),())⟩:=by
 refine qak ?_
 simp only[run_Z59,Z59.ev]
 refine qaa (qhM c) ?_
 simp only
 rw[qai (by omega) (by omega)]
 exact qaa (qbQ _ _ _) qan
def qbw(i j:Nat):Int:=if i=j then 1 else 0
def qbj(p:Int)(n:Nat):Mat:=(p,(n:Int),(n:Int),qat qbw n n,())
theorem qod(i j:Nat):Ret E n_Z80 [dI (i:Int),dI (j:Int)] ⟨o_Z80,(qbw i j,())⟩:=by
 refine qak ?_
 simp only[run_Z80,Z80.ev]
 refine qcs (fun h=>qal ?_) fun h=>qal ?_
 ·have h:(i:Int)=j:=by simpa using h
  rw[qbw,if_pos (by omega)]
 ·have h:¬ (i:Int)=j:=by simpa using h
  rw[qbw,if_neg (by omega)]
theorem qqA(p:Int)(n:Nat)(hn:n≤32):Ret E n_Z79 [dI p,dI (n:Int)] ⟨o_Z79,qbj p n⟩:=by
 have h:=qeB hn hn
 refine qak ?_
 simp only[run_Z79,Z79.ev]
 exact qaa (qdO p n n qbw (by omega) (by omega) (by omega) fun i j _ _=>qod i j) qan
theorem qeY(p:Int)(n:Nat)(hn:n≤32):Ret E n_Z147 [dI p,dI (n:Int)] ⟨o_Z147,qbj p n⟩:=by
 have h:=qeB hn hn
 refine qak ?_
 simp only[run_Z147,Z147.ev]
 refine qaa (qch p n n hn hn) ?_
 refine Ev.start (p:=fun φ m=>Z147.l0 (mkR (run E (φ 0))) (φ 0) m (n:Int) 0 0 0 0 p (n:Int) (n:Int) (List.replicate (n*n) 0)=_) 1 ?_ (fun _ _ _ h=>h)
 have:=qaw 1 (L:=fun φ m i o=>Z147.l0 (mkR (run E (φ 0))) (φ 0) m (n:Int) i 0 0 0 p (n:Int) (n:Int) o) (len:=n) (fun i=>qat qbw n i++List.replicate ((n-i)*n) 0) (r:=some ⟨o_Z147,qbj p n⟩) (fun _ _ _ _ _=>rfl) (fun i r hi ih=>?_) ?_
 ·simpa [qat] using this
 ·simp only[Z147.l0_succ _ qag]
  have hii:=qhP hi hi
  have hle:(i+1)*n≤n*n:=Nat.mul_le_mul_right _ hi
  rw[Nat.add_mul] at hle
  have hRi:(n-i)*n=n+(n-(i+1))*n:=by
   rw[show n-i=(n-(i+1))+1 by omega,Nat.add_mul];omega
  have hol:(qat qbw n i++List.replicate ((n-i)*n) (0:Int)).length=i*n+(n-i)*n:=by simp[qas]
  have e1:w64 (w64 ((i:Int)*(n:Int))+(i:Int))=((i*n+i:Nat):Int):=by
   rw[qa3,qai (n:=((i*n:Nat):Int)) (by omega) (by omega),qai (by omega) (by omega)];omega
  simp only[e1,Int.toNat_natCast]
  refine qaB (decide_eq_true (by omega)) (qax (by simp only[Bool.and_eq_true,decide_eq_true_eq,hol];omega) ?_)
  rw[qah (by omega)]
  have e2:(qat qbw n i++List.replicate ((n-i)*n) (0:Int)).set (i*n+i) 1=qat qbw n (i+1)++List.replicate ((n-(i+1))*n) 0:=by
   rw[List.set_append_right _ _ (by rw[qas];omega),qas,Nat.add_sub_cancel_left,qat,List.append_assoc]
   congr 1
   apply List.ext_getElem?
   intro j
   rw[List.getElem?_set,List.length_replicate]
   by_cases hj:j<n
   ·rw[List.getElem?_append_left (by simpa using hj)]
    by_cases hij:i=j
    ·subst hij
     rw[if_pos rfl,if_pos (by omega)]
     simp[hj,qbw]
    ·rw[if_neg hij,List.getElem?_replicate,if_pos (by omega)]
     simp[hj,qbw,hij]
   ·rw[if_neg (by omega),List.getElem?_append_right (by simpa using hj)]
    simp only[List.length_map,List.length_range,List.getElem?_replicate]
    by_cases h2:j<(n-i)*n
    ·rw[if_pos h2,if_pos (by omega)]
    ·rw[if_neg h2,if_neg (by omega)]
  rw[e2]
  exact ih
 ·simp only[Z147.l0_succ _ qag]
  refine qaD (decide_eq_false (by omega)) (qal ?_)
  simp[qbj]
end VeT
open Go Go.Proofs Ve
namespace VeT
def Bq(c:List Sim)(ms:List Mat)(k i j:Nat):Prop:=two c ms k i (j-1)≠two c ms k j i
def Pi(c:List Sim)(ms:List Mat)(k i:Nat):Prop:=∃ j,i+1≤j∧j<i+1+((c.getD k []).length-(i+1))∧Bq c ms k i j
def Pk(c:List Sim)(ms:List Mat)(k:Nat):Prop:=3≤(c.getD k []).length∧∃ i,0≤i∧i<0+(c.getD k []).length∧Pi c ms k i
noncomputable def rI(c:List Sim)(ms:List Mat)(out:Nat→Nat→Nat→Option Dv)(k i:Nat)(rn:Option Dv):Option Dv:=orN (out k i) rn (qa2 (Bq c ms k i) (i+1) ((c.getD k []).length-(i+1)))
noncomputable def rK(c:List Sim)(ms:List Mat)(out:Nat→Nat→Nat→Option Dv)(k:Nat)(rn:Option Dv):Option Dv:=orN (fun i=>rI c ms out k i none) rn (qa2 (Pi c ms k) 0 (c.getD k []).length)
noncomputable def qlf(c:List Sim)(ms:List Mat)(out:Nat→Nat→Nat→Option Dv)(rn:Option Dv):Option Dv:=orN (fun k=>rK c ms out k none) rn (qa2 (Pk c ms) 0 c.length)
theorem qta{c ms out k i}{rn rn':Option Dv}(h:Pi c ms k i):rI c ms out k i rn=rI c ms out k i rn':=by
 obtain⟨j,hj⟩:=qcp h
 unfold rI;rw[hj];rfl
theorem qs3{c ms out k i}{rn:Option Dv}(h:¬ Pi c ms k i):rI c ms out k i rn=rn:=by
 unfold rI
 cases hf:qa2 (Bq c ms k i) (i+1) ((c.getD k []).length-(i+1)) with
 | none=>rfl
 | some j=>exact absurd ⟨j,qaN hf⟩ h
theorem qtb{c ms out k}{rn rn':Option Dv}(h:Pk c ms k):rK c ms out k rn=rK c ms out k rn':=by
 obtain⟨j,hj⟩:=qcp h.2
 unfold rK;rw[hj];rfl
theorem qsK{c ms out k}{rn:Option Dv}(h:¬ Pk c ms k)(h3:3≤(c.getD k []).length):rK c ms out k rn=rn:=by
 unfold rK
 cases hf:qa2 (Pi c ms k) 0 (c.getD k []).length with
 | none=>rfl
 | some j=>exact absurd ⟨h3,j,qaN hf⟩ h
noncomputable def qbV(c:List Sim)(ms:List Mat):Option (Nat×Nat×Nat) :=
 (qa2 (Pk c ms) 0 c.length).bind fun k=>(qa2 (Pi c ms k) 0 (c.getD k []).length).bind fun i=>(qa2 (Bq c ms k i) (i+1) ((c.getD k []).length-(i+1))).map fun j=>(k,i,j)
theorem qhv{c ms k i j}(h:qbV c ms=some (k,i,j)):k<c.length∧3≤(c.getD k []).length∧i<j∧j<(c.getD k []).length∧∀ out rn,qlf c ms out rn=out k i j:=by
 unfold qbV at h
 obtain⟨k',hk,h⟩:=Option.bind_eq_some_iff.1 h
 obtain⟨i',hi,h⟩:=Option.bind_eq_some_iff.1 h
 obtain⟨j',hj,h⟩:=Option.map_eq_some_iff.1 h
 simp only[Prod.mk.injEq] at h
 obtain⟨rfl,rfl,rfl⟩:=h
 have a:=qaN hk
 have b:=qaN hi
 have d:=qaN hj
 refine⟨by omega,a.2.2.1,by omega,by omega,fun out rn=>?_⟩
 unfold qlf rK rI
 rw[hk];simp only[orN];rw[hi];simp only[orN];rw[hj]
theorem qik{c ms}(h:qbV c ms=none):∀ out rn,qlf c ms out rn=rn:=by
 intro out rn
 unfold qlf
 cases hk:qa2 (Pk c ms) 0 c.length with
 | none=>rfl
 | some k =>
  have a:=qaN hk
  obtain⟨i,hi⟩:=qcp a.2.2.2
  obtain⟨j,hj⟩:=qcp (qaN hi).2.2
  unfold qbV at h
  rw[hk] at h
  simp only[Option.bind_some] at h
  rw[hi] at h
  simp only[Option.bind_some] at h
  rw[hj] at h
  cases h
theorem qgl(c:List Sim)(k:Nat)(hk:k<c.length)(hc:Sm (.sl (.sl (.int .i64))) c)(hv:VC c):Ret E n_Z44 [dLL c,dI (k:Int)] ⟨o_Z44,(qaI c k,())⟩:=qb7 c k hk hc hv.srt
noncomputable def qqE(c:List Sim)(k i j:Nat):Option Dv:=some ⟨o_Z82,((k:Int),(qaI c (fc c k i)).getD (j-1) 0,true,())⟩
theorem qgP(c:List Sim)(p:Int)(st:Sim)(ms:List Mat)(hc:Sm (.sl (.sl (.int .i64))) c)(h:VS c p st ms):Ev fun φ=>run E (φ 0+1) n_Z82 [dLL c,dI p,dL st,dMs ms]=qlf c ms (qqE c) (some ⟨o_Z82,(0,0,false,())⟩):=by
  have hv:=h.1
  have h48:=hv.1
  simp only[run_Z82,Z82.ev]
  refine Ev.start (p:=fun φ n=>Z82.l0 (mkR (run E (φ 0))) (φ 0) n c (c.length:Int) 0 c p st ms=_) 1 ?_ (fun _ _ _ h=>h)
  have inner3:∀ k i (hk:k<c.length) (hn:3≤(c.getD k []).length) (hi:i<(c.getD k []).length) (rn:Option Dv),
      (¬ Pi c ms k i→Ev fun φ=>Z82.l1 (mkR (run E (φ 0))) (φ 0) (φ 1) (φ 2) (c.getD k []) (k:Int) (qaI c k) c (c.length:Int) (k:Int) ((c.getD k []).length:Int) ((i+1:Nat):Int) c p st ms=rn) →
      Ev fun φ=>Z82.l2 (mkR (run E (φ 0))) (φ 0) (φ 1) (φ 2) (φ 0) (c.getD k []) (k:Int) (qaI c k) (i:Int) ((i+1:Nat):Int) c (c.length:Int) (k:Int) ((c.getD k []).length:Int) (i:Int) c p st ms=rI c ms (qqE c) k i rn:=by
    intro k i hk hn hi rn hrn
    have h4:=hv.len4 hk
    refine Ev.start (p:=fun φ n=>Z82.l2 (mkR (run E (φ 0))) (φ 0) (φ 1) (φ 2) n (c.getD k []) (k:Int) (qaI c k) (i:Int) ((i+1:Nat):Int) c (c.length:Int) (k:Int) ((c.getD k []).length:Int) (i:Int) c p st ms=_) 3 ?_ (fun _ _ _ h=>h)
    -- one round
    have round:∀ j (hij:i+1≤j) (hj:j<(c.getD k []).length) (r:Option Dv),
        (Ev fun φ=>(bif (!pb (two c ms k i (j-1)=two c ms k j i)) then qqE c k i j else Z82.l2 (mkR (run E (φ 0))) (φ 0) (φ 1) (φ 2) (φ 3) (c.getD k []) (k:Int) (qaI c k) (i:Int) (w64 ((j:Int)+1)) c (c.length:Int) (k:Int) ((c.getD k []).length:Int) (i:Int) c p st ms)=r) →
        Ev fun φ=>Z82.l2 (mkR (run E (φ 0))) (φ 0) (φ 1) (φ 2) (φ 3+1) (c.getD k []) (k:Int) (qaI c k) (i:Int) (j:Int) c (c.length:Int) (k:Int) ((c.getD k []).length:Int) (i:Int) c p st ms=r:=by
      intro j hij hj r hr
      have s1:Sq c p st ms k i (j-1):=⟨hk,hn,hi,by omega,h⟩
      have s2:Sq c p st ms k j i:=⟨hk,hn,hj,by omega,h⟩
      obtain⟨ix1,F1,_⟩:=qa4 hv hk s1.hi
      obtain⟨ix2,F2,_⟩:=qa4 hv hk s2.hi
      have g1:=qci c p st ms k i hk s1.hi h
      have g2:=qci c p st ms (fc c k i) (j-1) F1 s1.hj h
      have g3:=qci c p st ms k j hk s2.hi h
      have g4:=qci c p st ms (fc c k j) i F2 s2.hj h
      have ej:w64 ((j:Int)-1)=((j-1:Nat):Int):=by rw[qai (by omega) (by omega)];omega
      have j4:Ev fun φ=>Z82.j4 (mkR (run E (φ 0))) (φ 0) (φ 1) (φ 2) (φ 3) (c.getD k []) (k:Int) (qaI c k) (i:Int) (j:Int) c (c.length:Int) (k:Int) ((c.getD k []).length:Int) (i:Int) c p st ms
          (two c ms k i (j-1)).1 (two c ms k i (j-1)).2.1 (two c ms k i (j-1)).2.2.1 (two c ms k i (j-1)).2.2.2.1 (two c ms k j i).1 (two c ms k j i).2.1 (two c ms k j i).2.2.1 (two c ms k j i).2.2.2.1=r:=by
        simp only[Z82.j4_eq _ qag,ej]
        refine qaa (qhg (two c ms k i (j-1)) (two c ms k j i) (qm5 s1.b1 s1.b2)) ?_
        by_cases he:two c ms k i (j-1)=two c ms k j i
        · rw[qay he] at hr ⊢
          exact qaD rfl (by simpa using hr)
        · rw[qaq he] at hr ⊢
          refine qaB rfl (qae ix1 (qaa (qgl c (fc c k i) F1 hc hv) (qae (qao s1.hj) ?_)))
          have:qqE c k i j=r:=by
            obtain⟨n0,hr⟩:=hr
            exact hr (fun _=>n0) (fun _=>Nat.le_refl _)
          rw[← this,qqE,qaf s1.hj];exact qan
      have j3:Ev fun φ=>Z82.j3 (mkR (run E (φ 0))) (φ 0) (φ 1) (φ 2) (φ 3) (c.getD k []) (k:Int) (qaI c k) (i:Int) (j:Int) c (c.length:Int) (k:Int) ((c.getD k []).length:Int) (i:Int) c p st ms
          (two c ms k i (j-1)).1 (two c ms k i (j-1)).2.1 (two c ms k i (j-1)).2.2.1 (two c ms k i (j-1)).2.2.2.1=r:=by
        simp only[Z82.j3_eq _ qag]
        refine qae ix2 (qdc (qaa g3 (qdc (qaa g4 (qdc (qaa s2.impl j4) (qaa s2.impl j4))) (qaa g4 (qaa s2.impl j4)))) (qaa g3 (qaa g4 (qaa s2.impl j4))))
      simp only[Z82.l2_succ _ qag,ej]
      refine qaB (decide_eq_true (by omega)) (qae ix1 (qdc (qaa g1 (qdc (qaa g2 (qdc (qaa s1.impl j3) (qaa s1.impl j3))) (qaa g2 (qaa s1.impl j3)))) (qaa g1 (qaa g2 (qaa s1.impl j3)))))
    refine qgi 3 (L:=fun φ n j=>Z82.l2 (mkR (run E (φ 0))) (φ 0) (φ 1) (φ 2) n (c.getD k []) (k:Int) (qaI c k) (i:Int) j c (c.length:Int) (k:Int) ((c.getD k []).length:Int) (i:Int) c p st ms) (len:=(c.getD k []).length) (Bq c ms k i) (qqE c k i) rn (fun _ _ _ _=>rfl) (i+1) (fun j h1 h2 hB=>?_) (fun j q h1 h2 hB ih=>?_) (fun hno=>?_) _ (by omega)
    · refine round j h1 h2 _ (qaB ?_ qan)
      rw[qaq hB];rfl
    · refine round j h1 h2 _ (qaD ?_ ?_)
      · rw[qay (Classical.not_not.1 hB)];rfl
      · rw[qah (by omega)];exact ih
    · simp only[Z82.l2_succ _ qag]
      refine qaD (decide_eq_false (by omega)) ?_
      rw[qah (by omega)];exact hrn fun⟨j,h1,h2,h3⟩=>hno j h1 (by omega) h3
  have inner2:∀ k (hk:k<c.length) (hn:3≤(c.getD k []).length) (rn:Option Dv),
      (¬ Pk c ms k→Ev fun φ=>Z82.l0 (mkR (run E (φ 0))) (φ 0) (φ 1) c (c.length:Int) ((k+1:Nat):Int) c p st ms=rn) →
      Ev fun φ=>Z82.l1 (mkR (run E (φ 0))) (φ 0) (φ 1) (φ 0) (c.getD k []) (k:Int) (qaI c k) c (c.length:Int) (k:Int) ((c.getD k []).length:Int) 0 c p st ms=rK c ms (qqE c) k rn:=by
    intro k hk hn rn hrn
    have h4:=hv.len4 hk
    refine Ev.start (p:=fun φ n=>Z82.l1 (mkR (run E (φ 0))) (φ 0) (φ 1) n (c.getD k []) (k:Int) (qaI c k) c (c.length:Int) (k:Int) ((c.getD k []).length:Int) 0 c p st ms=_) 2 ?_ (fun _ _ _ h=>h)
    refine qgi 2 (L:=fun φ n i=>Z82.l1 (mkR (run E (φ 0))) (φ 0) (φ 1) n (c.getD k []) (k:Int) (qaI c k) c (c.length:Int) (k:Int) ((c.getD k []).length:Int) i c p st ms) (len:=(c.getD k []).length) (Pi c ms k) (fun i=>rI c ms (qqE c) k i none) rn (fun _ _ _ _=>rfl) 0 (fun i h1 h2 hP=>?_) (fun i q h1 h2 hP ih=>?_) (fun hno=>?_) _ (by omega)
    · simp only[Z82.l1_succ _ qag]
      refine qaB (decide_eq_true (by omega)) ?_
      rw[qah (by omega)]
      exact inner3 k i hk hn h2 none fun hn=>absurd hP hn
    · simp only[Z82.l1_succ _ qag]
      refine qaB (decide_eq_true (by omega)) ?_
      rw[qah (by omega)]
      exact(inner3 k i hk hn h2 q fun _=>ih).to (qs3 hP)
    · simp only[Z82.l1_succ _ qag]
      refine qaD (decide_eq_false (by omega)) ?_
      rw[qah (by omega)];exact hrn fun⟨_,i,h1,h2,h3⟩=>hno i h1 (by omega) h3
  refine qgi 1 (L:=fun φ n k=>Z82.l0 (mkR (run E (φ 0))) (φ 0) n c (c.length:Int) k c p st ms) (len:=c.length) (Pk c ms) (fun k=>rK c ms (qqE c) k none) _ (fun _ _ _ _=>rfl) 0 (fun k h1 h2 hP=>?_) (fun k q h1 h2 hP ih=>?_) (fun hno=>?_) _ (by omega)
  · simp only[Z82.l0_succ _ qag]
    refine qaB (decide_eq_true (by omega)) (qae (qao h2) ?_)
    have hn:=hP.1
    rw[← qaf (d:=[]) h2]
    exact qaD (decide_eq_false (by omega)) (qaa (qgl c k h2 hc hv) (inner2 k h2 hn none fun hn=>absurd hP hn))
  · simp only[Z82.l0_succ _ qag]
    refine qaB (decide_eq_true (by omega)) (qae (qao h2) ?_)
    rw[← qaf (d:=[]) h2]
    refine qeE (fun hlt=>?_) fun hlt=>?_
    · rw[qah (by omega)];exact ih
    · exact qaa (qgl c k h2 hc hv) ((inner2 k h2 (by omega) q fun _=>ih).to (qsK hP (by omega)))
  · simp only[Z82.l0_succ _ qag]
    exact qaD (decide_eq_false (by omega)) qan
end VeT
open Go Go.Proofs Ve
namespace VeT
noncomputable def wI(c:List Sim)(ms:List Mat):Int×Int×Bool×Unit:=match qbV c ms with
 | some (k,i,j)=>((k:Int),(qaI c (fc c k i)).getD (j-1) 0,true,())
 | none=>(0,0,false,())
theorem qei(c:List Sim)(p:Int)(st:Sim)(ms:List Mat)(hc:Sm (.sl (.sl (.int .i64))) c)(h:VS c p st ms):Ret E n_Z82 [dLL c,dI p,dL st,dMs ms] ⟨o_Z82,wI c ms⟩:=by
 refine qak ((qgP c p st ms hc h).to ?_)
 cases hw:qbV c ms with
 | none=>rw[qik hw,wI,hw]
 | some t =>
  obtain⟨k,i,j⟩:=t
  rw[(qhv hw).2.2.2.2,wI,hw];rfl
def ISh(x:Shf):Prop:=VS x.1 x.2.1 x.2.2.1 x.2.2.2.1∧qbV x.1 x.2.2.2.1=none
theorem qig(x:Shf)(hx:Sm (.st cS) x):Ret E n_Z9 [dLL x.1,dI x.2.1,dL x.2.2.1,dMs x.2.2.2.1] ⟨o_Z9,(pb (ISh x),())⟩:=by
 refine qak ?_
 simp only[run_Z9,Z9.ev]
 refine qaa (qcA x hx) (qcs (fun h=>qal ?_) fun h=>?_)
 ·have h:=qbh.1 (show pb (VS x.1 x.2.1 x.2.2.1 x.2.2.2.1)=false by simpa using h)
  rw[qaq fun hi=>h hi.1]
 ·have h:=qaH.1 (show pb (VS x.1 x.2.1 x.2.2.1 x.2.2.2.1)=true by simpa using h)
  refine qaa (qei _ _ _ _ hx.1 h) (qal ?_)
  have:(!(wI x.1 x.2.2.2.1).2.2.1)=pb (ISh x):=qhG (by
   unfold ISh wI
   cases hw:qbV x.1 x.2.2.2.1 with
   | none=>simp[h]
   | some t=>simp)
  rw[this]
open Classical in
noncomputable def qlQ(x:Shf):Int×Int×Int×Unit :=
 if VS x.1 x.2.1 x.2.2.1 x.2.2.2.1 then(match qbV x.1 x.2.2.2.1 with
  | some (k,i,j)=>((k:Int),(qaI x.1 (fc x.1 k i)).getD (j-1) 0,0,())
  | none=>(0,0,3,())) else(0,0,1,())
theorem qfd(x:Shf)(hx:Sm (.st cS) x):Ret E n_Z31 [dLL x.1,dI x.2.1,dL x.2.2.1,dMs x.2.2.2.1] ⟨o_Z31,qlQ x⟩:=by
 refine qak ?_
 simp only[run_Z31,Z31.ev]
 refine qaa (qcA x hx) (qcs (fun h=>qal ?_) fun h=>?_)
 ·have h:=qbh.1 (show pb (VS x.1 x.2.1 x.2.2.1 x.2.2.2.1)=false by simpa using h)
  rw[qlQ,if_neg h]
 ·have h:=qaH.1 (show pb (VS x.1 x.2.1 x.2.2.1 x.2.2.2.1)=true by simpa using h)
  refine qaa (qei _ _ _ _ hx.1 h) ?_
  rw[qlQ,if_pos h]
  cases hw:qbV x.1 x.2.2.2.1 with
  | none=>rw[wI,hw];exact qaB rfl qan
  | some t=>rw[wI,hw];exact qaD rfl qan
theorem qfa{s:Sim}{i j:Nat}(h:i<j):(s.eraseIdx j).eraseIdx i=(s.eraseIdx i).eraseIdx (j-1):=by
 apply List.ext_getElem?
 intro n
 rw[List.getElem?_eraseIdx,List.getElem?_eraseIdx,List.getElem?_eraseIdx,List.getElem?_eraseIdx]
 by_cases h1:n<i
 ·rw[if_pos h1,if_pos (by omega),if_pos (by omega),List.getElem?_eraseIdx,if_pos h1]
 ·by_cases h2:n+1<j
  ·rw[if_neg h1,if_pos h2,if_pos (by omega),List.getElem?_eraseIdx,if_neg h1]
  ·rw[if_neg h1,if_neg h2,if_neg (by omega),List.getElem?_eraseIdx,if_neg (by omega)]
def SDn(c:List Sim)(st:Sim)(d:Int)(n:Nat):Int:=((qaG c d n).map fun i=>st.getD i.toNat 0).sum
theorem qrg{c:List Sim}{st:Sim}{d:Int}:SD c st d=SDn c st d c.length:=by
 unfold SD qmX SDn
 rw[List.take_of_length_le (Nat.le_refl _)]
theorem qpU{c:List Sim}{st:Sim}{d:Int}{n:Nat}:SDn c st d (n+1)=SDn c st d n+if ((c.getD n []).length:Int)=d+1 then st.getD n 0 else 0:=by
 unfold SDn
 rw[qeA,List.map_append,List.sum_append]
 split<;>simp
theorem qqv{c:List Sim}{p:Int}{st:Sim}{ms:List Mat}(h:VS c p st ms)(d:Nat)(hd:d<4):0≤SD c st (d:Int)∧SD c st (d:Int)≤32:=⟨qn8 h.2.2.1.2.1 _,h.2.2.1.2.2 d hd⟩
end VeT
open Go Go.Proofs Ve
namespace VeT
theorem qmC{st:Sim}(hst:∀ x∈st,0≤x∧x≤3)(k:Nat):0≤st.getD k 0∧st.getD k 0≤3:=by
 by_cases hl:k<st.length
 ·rw[qaf hl];exact hst _ (List.getElem_mem hl)
 ·rw[List.getD_eq_getElem?_getD,List.getElem?_eq_none (by omega)];simp
theorem qoY{c:List Sim}{d:Int}{k:Nat}{x:Int}:x∈qaG c d k↔∃ i:Nat,x=i∧i<k∧((c.getD i []).length:Int)=d+1:=by
 unfold qaG
 rw[List.mem_map]
 constructor
 ·rintro⟨i,hi,rfl⟩
  have:=List.mem_filter.1 hi
  exact⟨i,rfl,by simpa using this.1,by simpa using this.2⟩
 ·rintro⟨i,rfl,h1,h2⟩
  exact⟨i,List.mem_filter.2 ⟨by simpa using h1,by simpa using h2⟩,rfl⟩
def sgn(p:Int)(a:Nat):Int:=if a%2=0 then 1 else p-1
theorem qqM{p:Int}(hp:2≤p∧p≤251)(a:Nat):0≤sgn p a∧sgn p a≤p-1:=by
 unfold sgn;split<;>omega
theorem qpi{c:List Sim}(hv:VC c)(st:Sim){d:Int}(hd:d<0∨4≤d):SD c st d=0:=by
 have:qaG c d c.length=[]:=List.eq_nil_iff_forall_not_mem.2 fun x hx=>by
  obtain⟨i,_,hi,hl⟩:=qoY.1 hx
  have:=hv.2.1 i hi
  have h1:=this.1
  have h2:=this.2.1
  omega
 rw[qrg,SDn,this];rfl
theorem qsb{c:List Sim}{p:Int}{st:Sim}{ms:List Mat}(h:VS c p st ms)(d:Int):∃ n:Nat,SD c st d=(n:Int)∧n≤32∧(SD c st d).toNat=n:=by
 by_cases hd:d<0∨4≤d
 ·exact⟨0,qpi h.1 st hd,by omega,by rw[qpi h.1 st hd];rfl⟩
 ·have:=qqv h d.toNat (by omega)
  rw[Int.toNat_of_nonneg (by omega)] at this
  exact⟨(SD c st d).toNat,by omega,by omega,rfl⟩
theorem qkR{n:Nat}{p:Int}(hp:2≤p):qaT (List.replicate n 0) p:=fun x hx=>by
 rw[List.mem_replicate] at hx;omega
end VeT
open Go Go.Proofs Ve
namespace VeT
theorem qjC{C:Nat}:∀ {n:Nat},qat (fun _ _=>0) C n=List.replicate (n*C) 0
 | 0=>by simp[qat]
 | n+1=>by
  rw[qat,qjC,Nat.add_mul,Nat.one_mul,← List.replicate_append_replicate]
  congr 1
  rw[List.map_const',List.length_range]
end VeT
open Go Go.Proofs Ve
namespace VeT
theorem qkT:∀ {a b:Sim},qdU a b=qgX a b
 | [],[]=>rfl
 | [],_::_=>rfl
 | _::_,[]=>rfl
 | x::xs,y::ys=>by rw[qdU,qgX,qkT]
theorem qdk{a b:Sim}:qcO a b=qed a b:=by
 unfold qcO qed
 rw[qkT];rfl
theorem qlJ(n:Nat)(args:List Dv):run E (n+1) n_Z115 args=qgr n_Z39 (mkR (run E n)) args:=rfl
theorem qnT{m:Nat}{R:Run}{xs:List Sim}(h:xs.length≤1048576∧(⟨.fn m .nil,()⟩:Dv)=⟨.fn m .nil,()⟩∧∀ x∈xs,∀ y∈xs,R.r m [⟨tL,x⟩,⟨tL,y⟩]=some ⟨.cons tI .nil,(qed x y,())⟩) :
  qgr m R [⟨tLL,xs⟩,⟨.fn m .nil,()⟩]=some ⟨.cons tLL .nil,(qd7 xs,())⟩:=by
 unfold qgr
 simp only[show(⟨tLL,xs⟩:Dv).to tLL=some xs from rfl,Option.bind_some]
 exact if_pos h
theorem qo5{α:Type}{p:α→Nat→Prop}{l:List α}(h:∀ x∈l,Evt (p x)):Evt fun n=>∀ x∈l,p x n:=by
 induction l with
 | nil=>exact Evt.of fun n x hx=>by cases hx
 | cons a l ih =>
  refine((h a List.mem_cons_self).and (ih fun x hx=>h x (List.mem_cons_of_mem _ hx))).mono fun n ⟨h1,h2⟩ x hx=>?_
  rcases List.mem_cons.1 hx with rfl | hx
  ·exact h1
  ·exact h2 x hx
theorem qli(xs:List Sim)(hs:Sm (.sl (.sl (.int .i64))) xs):Ret E n_Z115 [dLL xs,⟨.fn n_Z39 .nil,()⟩] ⟨o_Z115,(qd7 xs,())⟩:=by
 have hl:xs.length≤1048576:=hs.1
 have hall:Evt fun n=>∀ x∈xs,∀ y∈xs,run E n n_Z39 [dL x,dL y]=some ⟨o_Z39,(qed x y,())⟩ :=
  qo5 fun x hx=>qo5 fun y hy=>by
   have:=qaW x y (hs.2 x hx)
   rw[qdk] at this
   exact this
 refine Evt.succ (hall.mono fun n h=>?_)
 rw[qlJ]
 exact qnT ⟨hl,rfl,h⟩
theorem qeQ(rows:List Sim)(hl:rows.length≤1048576)(hs:∀ x∈rows,x.length≤1048576):Ret E n_Z40 [dLL rows] ⟨o_Z40,(rows,())⟩:=by
 refine qak ?_
 simp only[run_Z40,Z40.ev]
 refine Ev.start (p:=fun φ n=>Z40.l0 (mkR (run E (φ 0))) (φ 0) n rows (rows.length:Int) 0 []=_) 1 ?_ (fun _ _ _ h=>h)
 refine qaw 1 (L:=fun φ n k o=>Z40.l0 (mkR (run E (φ 0))) (φ 0) n rows (rows.length:Int) k o) (len:=rows.length) (fun k=>rows.take k) (fun _ _ _ _ _=>rfl) (fun k r hk ih=>?_) ?_
 ·simp only[Z40.l0_succ _ qag]
  rw[List.take_succ_eq_append_getElem hk] at ih
  refine qaB (decide_eq_true (by omega)) (qae (qao hk) (qaa (qfl _ (hs _ (List.getElem_mem hk))) (qax (by simp only[List.length_take,List.length_singleton,decide_eq_true_eq];omega) ?_)))
  rw[qah (by omega)];exact ih
 ·simp only[Z40.l0_succ _ qag]
  refine qaD (decide_eq_false (by omega)) (qal ?_)
  rw[List.take_of_length_le (Nat.le_refl _)]
theorem qn0(n:Nat)(args:List Dv):run E (n+1) n_Z89 args=qcf n_Z102 (mkR (run E n)) args:=rfl
-- qcf
theorem qgT(xs:List Sim)(hs:Sm (.sl (.sl (.int .i64))) xs) :
  Ret E n_Z89 [dLL xs,⟨.fn n_Z102 .nil,()⟩] ⟨o_Z89,(sel (mC xs xs.length) xs,())⟩:=by
 have hl:xs.length≤1048576:=hs.1
 have hall:Evt fun n=>∀ i,i<xs.length-1→∀(h:i+1<xs.length),run E n n_Z102 [dL xs[i+1],dL xs[i]]=some ⟨o_Z102,(xs[i+1]==xs[i],())⟩ :=
  Evt.lt fun i hi=>by
   have h:i+1<xs.length:=by omega
   have h2:=qiY xs[i+1] xs[i] (qa7 hs h).1
   rw[show pb (xs[i+1]=xs[i])=(xs[i+1]==xs[i]) by rw[Bool.eq_iff_iff,qaH,beq_iff_eq]] at h2
   exact Evt.mono h2 fun n h3 _=>h3
 refine Evt.succ (hall.mono fun n h=>?_)
 rw[qn0]
 unfold qcf
 simp only[show(⟨tLL,xs⟩:Dv).to tLL=some xs from rfl,Option.bind_some]
 exact if_pos ⟨hl,rfl,fun i hi=>h i (by omega) hi⟩
-- qcf
theorem qoh{l:List Sim}(h:l.Pairwise (fun a b=>qed a b≤0)):∀ {m:Nat},m≤l.length→(sel (mC l m) l).Pairwise (fun a b=>qed a b<0)∧(∀ x,x∈sel (mC l m) l↔x∈l.take m):=by
 intro m
 induction m with
 | zero=>intro _;simp[mC,sel]
 | succ m ih =>
  intro hm
  obtain⟨h1,h2⟩:=ih (by omega)
  have hml:m<l.length:=by omega
  rw[mC,qfq (by rw[qgv];exact hml)]
  have e:(l[(mC l m).length]'(by rw[qgv];exact hml))=l[m]:=by congr 1;exact qgv
  rw[e,List.take_succ_eq_append_getElem hml]
  by_cases h0:m=0
  ·subst h0
   simp[mC,sel]
  ·obtain⟨q,rfl⟩:∃ q,m=q+1:=⟨m-1,by omega⟩
   have g1:l[q+1]? = some l[q+1]:=List.getElem?_eq_getElem hml
   have g2:l[q+1-1]? = some l[q]:=by rw[Nat.add_sub_cancel];exact List.getElem?_eq_getElem (by omega)
   rw[g1,g2,show(q+1==0)=false from rfl,Bool.false_or]
   have hq:l[q]∈l.take (q+1):=by rw[List.take_succ_eq_append_getElem (show q<l.length by omega)];exact List.mem_append.2 (.inr (List.mem_singleton.2 rfl))
   by_cases he:l[q+1]=l[q]
   ·rw[show(some l[q+1]==some l[q])=true by rw[he];simp]
    simp only[Bool.not_true,cond_false,List.append_nil]
    refine⟨h1,fun x=>?_⟩
    rw[h2,List.mem_append,List.mem_singleton]
    exact⟨.inl,fun hx=>hx.elim id fun e=>by rw[e,he];exact hq⟩
   ·rw[show(some l[q+1]==some l[q])=false from beq_false_of_ne fun e=>he (Option.some.inj e)]
    simp only[Bool.not_false,cond_true]
    have hlt:∀ x∈sel (mC l (q+1)) l,qed x l[q+1]<0:=fun x hx=>by
     have hx:=(h2 x).1 hx
     have hq1:qed l[q] l[q+1]≤0:=List.pairwise_iff_getElem.1 h q (q+1) (by omega) hml (by omega)
     have hq2:qed l[q] l[q+1]<0:=by
      rcases Int.lt_or_eq_of_le hq1 with h | h
      ·exact h
      ·exact absurd (qdl.1 h).symm he
     obtain⟨i,hi,rfl⟩:=List.mem_iff_getElem.1 hx
     rw[List.length_take] at hi
     rw[List.getElem_take]
     by_cases e:i=q
     ·subst e;exact hq2
     ·have h3:qed l[i] l[q]≤0:=List.pairwise_iff_getElem.1 h i q (by omega) (by omega) (by omega)
      rcases Int.lt_or_eq_of_le h3 with h | h
      ·have:=qer (by rw[qdk];exact h) (by rw[qdk];exact hq2)
       rwa [qdk] at this
      ·rw[qdl.1 h];exact hq2
    refine⟨List.pairwise_append.2 ⟨h1,List.pairwise_singleton _ _,fun x hx y hy=>?_⟩,fun x=>?_⟩
    ·rw[List.mem_singleton] at hy;subst hy;exact hlt x hx
    ·rw[List.mem_append,List.mem_append,h2]
-- qcf
noncomputable def qrq(xs:List Sim):List Sim:=sel (mC (qd7 xs) (qd7 xs).length) (qd7 xs)
-- qcf
theorem qkW(xs:List Sim):Srt (qrq xs)∧(∀ x,x∈qrq xs↔x∈xs)∧(qrq xs).length≤xs.length:=by
 have hp:(qd7 xs).Pairwise (fun a b=>qed a b≤0):=(qiX xs).imp fun h=>by unfold leX at h;exact of_decide_eq_true h
 obtain⟨h1,h2⟩:=qoh hp (Nat.le_refl _)
 refine⟨fun i j hj hij=>?_,fun x=>?_,?_⟩
 ·rw[qdk];exact List.pairwise_iff_getElem.1 h1 i j (by unfold qrq at hj;omega) hj hij
 ·unfold qrq
  rw[h2,List.take_length]
  exact(List.mergeSort_perm xs leX).mem_iff
 ·have:=qmA (ms:=mC (qd7 xs) (qd7 xs).length) (l:=qd7 xs)
  exact Nat.le_trans this (Nat.le_of_eq (qep xs))
-- qcf
theorem qo0:∀ {c d:List Sim},Srt c→Srt d→(∀ x,x∈c↔x∈d)→c=d:=by
 have pw:∀ {c:List Sim},Srt c→c.Pairwise (fun a b=>qcO a b<0):=fun h=>List.pairwise_iff_getElem.2 fun i j hi hj hij=>h i j hj hij
 have main:∀ {c d:List Sim},c.Pairwise (fun a b=>qcO a b<0)→d.Pairwise (fun a b=>qcO a b<0)→(∀ x,x∈c↔x∈d)→c=d:=by
  intro c
  induction c with
  | nil =>
   intro d _ _ h
   cases d with
   | nil=>rfl
   | cons y d=>exact absurd ((h y).2 List.mem_cons_self) (by simp)
  | cons x c ih =>
   intro d hc hd h
   cases d with
   | nil=>exact absurd ((h x).1 List.mem_cons_self) (by simp)
   | cons y d =>
    obtain⟨hc1,hc2⟩:=List.pairwise_cons.1 hc
    obtain⟨hd1,hd2⟩:=List.pairwise_cons.1 hd
    have hxy:x=y:=by
     rcases List.mem_cons.1 ((h x).1 List.mem_cons_self) with e | e
     ·exact e
     ·rcases List.mem_cons.1 ((h y).2 List.mem_cons_self) with e2 | e2
      ·exact e2.symm
      ·have h1:=hd1 x e
       have h2:=hc1 y e2
       have:=qj3 (a:=x) (b:=y)
       omega
    subst hxy
    have irr:∀ z,qcO z z=0:=fun z=>qcc.2 rfl
    rw[ih hc2 hd2 fun z=>?_]
    constructor
    ·intro hz
     rcases List.mem_cons.1 ((h z).1 (List.mem_cons_of_mem _ hz)) with e | e
     ·subst e;have:=hc1 z hz;have:=irr z;omega
     ·exact e
    ·intro hz
     rcases List.mem_cons.1 ((h z).2 (List.mem_cons_of_mem _ hz)) with e | e
     ·subst e;have:=hd1 z hz;have:=irr z;omega
     ·exact e
 exact fun {c d} hc hd h=>main (pw hc) (pw hd) h
-- qcf
theorem qgz(c:List Sim)(hc:Sm (.sl (.sl (.int .i64))) c):Ret E n_Z52 [dLL c] ⟨o_Z52,(qrq c,())⟩:=by
 have h1:=qli c hc
 have hs:Sm (.sl (.sl (.int .i64))) (qd7 c):=⟨by show(qd7 c).length≤1048576;rw[qep];exact hc.1,fun x hx=>hc.2 x ((List.mergeSort_perm c leX).mem_iff.1 hx)⟩
 refine qak ?_
 simp only[run_Z52,Z52.ev]
 exact qaa (qeQ c hc.1 fun x hx=>(hc.2 x hx).1) (qaa h1 (qaa (qgT _ hs) qan))
-- qcf
theorem qmc(c:List Sim)(hc:Sm (.sl (.sl (.int .i64))) c)(hs:Srt c):Ret E n_Z52 [dLL c] ⟨o_Z52,(c,())⟩:=by
 have h:=qgz c hc
 obtain⟨h1,h2,_⟩:=qkW c
 rwa [qo0 h1 hs h2] at h
theorem qiu(c:List Sim)(hc:Sm (.sl (.sl (.int .i64))) c)(hv:VC c):Ret E n_Z161 [dC (c,()),dI 3] ⟨o_Z161,(c,())⟩:=by
 have hl:c.length≤1048576:=hc.1
 refine qak ?_
 simp only[run_Z161,Z161.ev]
 refine Ev.start (p:=fun φ n=>Z161.l0 (mkR (run E (φ 0))) (φ 0) n (c,()) 3 0 []=_) 1 ?_ (fun _ _ _ h=>h)
 refine qaw 1 (L:=fun φ n k o=>Z161.l0 (mkR (run E (φ 0))) (φ 0) n (c,()) 3 k o) (len:=c.length) (fun k=>c.take k) (fun _ _ _ _ _=>rfl) (fun k r hk ih=>?_) ?_
 ·simp only[Z161.l0_succ _ qag]
  rw[List.take_succ_eq_append_getElem hk] at ih
  have h4:=hv.len4 hk
  rw[qaf hk] at h4
  have e4:w64 ((3:Int)+1)=4:=qai (by omega) (by omega)
  refine qaB (decide_eq_true (by show(k:Int)<(c.length:Int);omega)) (qae (qao hk) (qaB (decide_eq_true (by rw[e4];show(c[k].length:Int)≤4;omega)) (qae (qao hk) (qaa (qcE _ (by show c[k].length≤_;omega)) (qax (by simp only[List.length_take,List.length_singleton,decide_eq_true_eq];omega) ?_)))))
  rw[qah (by omega)];exact ih
 ·simp only[Z161.l0_succ _ qag]
  refine qaD (decide_eq_false (by show ¬ ((c.length:Int)<(c.length:Int));omega)) (qal ?_)
  rw[List.take_of_length_le (Nat.le_refl _)]
theorem qiP(m:Mat)(hm:m.2.2.2.1.length≤1048576):Ret E n_Z41 [dI m.1,dI m.2.1,dI m.2.2.1,dL m.2.2.2.1] ⟨o_Z41,(m.1,m.2.1,m.2.2.1,m.2.2.2.1,())⟩:=by
 refine qak ?_
 simp only[run_Z41,Z41.ev]
 exact qaa (qfl _ hm) qan
def zOf(p:Int)(st:Sim)(a:Arw):Mat:=(p,st.getD a.1.toNat 0,st.getD a.2.2.1.toNat 0,List.replicate ((st.getD a.1.toNat 0).toNat*(st.getD a.2.2.1.toNat 0).toNat) 0,())
theorem qgb{c:List Sim}{st:Sim}(hl:st.length=c.length)(hst:∀ x∈st,0≤x∧x≤3){k:Nat}(hk:k<c.length):∃ n:Nat,n≤3∧st.getD k 0=(n:Int)∧∃ h:k<st.length,st[k]=(n:Int):=by
 have h:k<st.length:=by omega
 obtain⟨h1,h2⟩:=hst _ (List.getElem_mem h)
 exact⟨(st[k]).toNat,by omega,by rw[qaf h];omega,h,by omega⟩
theorem qdz{c:List Sim}(hs:Srt c)(hv:VC c){k i:Nat}(hk:k<c.length)(hi:i<(qaI c k).length):∃ f:Nat,f<c.length∧(qaI c k)[i]=(f:Int)∧(qaI c k).getD i 0=(f:Int):=by
 obtain⟨h1,h2,_⟩:=qa4 hv hk hi
 have e:(qaI c k)[i]=((fc c k i:Nat):Int):=by rw[qao hi] at h1;exact Option.some.inj h1
 exact⟨fc c k i,h2,e,by rw[qaf hi,e]⟩
end VeT
open Go Go.Proofs Ve
namespace VeT
def Fa(x s:Sim):Prop:=x≠[]∧x.Sublist s
def Cl(c:List Sim):Prop:=∀ y∈c,∀ x,Fa x y→x∈c
theorem qlj:∀ {x s:Sim},x.Sublist s→x≠s→∃ i,i<s.length∧x.Sublist (s.eraseIdx i)
 | _,_,.slnil,h=>absurd rfl h
 | x,_,.cons a h,_=>⟨0,by simp,by simpa using h⟩
 | _,_,.cons_cons (l₁:=l) (l₂:=l') a h,hn=>by
  obtain⟨i,hi,hs⟩:=qlj h fun e=>hn (by rw[e])
  exact⟨i+1,by simp;omega,by simpa using hs⟩
theorem qny{x s:Sim}:Fa x s↔(x=s∧s≠[])∨∃ i,i<s.length∧Fa x (s.eraseIdx i):=by
 constructor
 ·rintro⟨h1,h2⟩
  by_cases e:x=s
  ·exact .inl ⟨e,e ▸ h1⟩
  ·obtain⟨i,hi,hs⟩:=qlj h2 e
   exact .inr ⟨i,hi,h1,hs⟩
 ·rintro(⟨rfl,h⟩ | ⟨i,hi,h1,h2⟩)
  ·exact⟨h,List.Sublist.refl _⟩
  ·exact⟨h1,h2.trans (List.eraseIdx_sublist _ _)⟩
theorem qfo{x y z:Sim}(h1:Fa x y)(h2:Fa y z):Fa x z:=⟨h1.1,h1.2.trans h2.2⟩
theorem qlA{x s:Sim}(h:Fa x s):x.length≤s.length:=h.2.length_le
theorem VC.cl{c:List Sim}(h:VC c):Cl c:=by
 have main:∀(n:Nat) (y:Sim),y.length=n→y∈c→∀ x,Fa x y→x∈c:=by
  intro n
  induction n with
  | zero =>
   intro y hy hm x hf
   have:=qlA hf
   exact absurd (List.length_eq_zero_iff.1 (by omega)) hf.1
  | succ n ih =>
   intro y hy hm x hf
   rcases qny.1 hf with ⟨rfl,_⟩ | ⟨i,hi,hf2⟩
   ·exact hm
   ·have hl:(y.eraseIdx i).length=n:=by rw[List.length_eraseIdx,if_pos hi];omega
    have h1:1<y.length:=by
     have:=qlA hf2
     have:=List.length_pos_iff.2 hf2.1
     omega
    obtain⟨k,hk,e⟩:=List.mem_iff_getElem.1 hm
    have:=h.2.2.2 k hk (y.eraseIdx i) (by rw[qaf hk,e];exact qbL.2 ⟨h1,i,hi,rfl⟩)
    exact ih _ hl this x hf2
 exact fun y hy x hf=>main y.length y rfl hy x hf
def qnz:Nat→Nat
 | 0=>1
 | n+1=>(n+2)*qnz n+1
theorem qsd{o:List Sim}{s:Sim}(hs:Srt o)(hn:s∉o):∃ t,t≤o.length∧(∀ j (h:j<o.length),j<t→qcO o[j] s<0)∧(∀ h:t<o.length,¬ qcO o[t] s<0)∧Srt (o.take t++[s]++o.drop t):=by
 refine⟨bs o s,qr6,fun j h hj=>(qjP hs h).1 hj,fun h hlt=>?_,?_⟩
 ·have:=(qjP hs h).2 hlt;omega
 ·have pw:o.Pairwise (fun a b=>qcO a b<0):=List.pairwise_iff_getElem.2 fun i j hi hj hij=>hs i j hj hij
  have h1:∀ x∈o.take (bs o s),qcO x s<0:=fun x hx=>by
   obtain⟨i,hi,rfl⟩:=List.mem_iff_getElem.1 hx
   rw[List.length_take] at hi
   rw[List.getElem_take]
   exact(qjP hs (by omega)).1 (by omega)
  have h2:∀ x∈o.drop (bs o s),qcO s x<0:=fun x hx=>by
   obtain⟨i,hi,rfl⟩:=List.mem_iff_getElem.1 hx
   rw[List.length_drop] at hi
   rw[List.getElem_drop]
   have h3:¬ qcO o[bs o s+i] s<0:=fun h=>by
    have:=(qjP hs (show bs o s+i<o.length by omega)).2 h;omega
   have h4:qcO o[bs o s+i] s≠0:=fun h=>hn (by rw[← qcc.1 h];exact List.getElem_mem _)
   have:=qj3 (a:=o[bs o s+i]) (b:=s)
   omega
  have pwn:(o.take (bs o s)++[s]++o.drop (bs o s)).Pairwise (fun a b=>qcO a b<0):=by
   rw[List.pairwise_append]
   refine⟨?_,pw.sublist (List.drop_sublist _ _),fun x hx y hy=>?_⟩
   ·rw[List.pairwise_append]
    refine⟨pw.sublist (List.take_sublist _ _),List.pairwise_singleton _ _,fun x hx y hy=>?_⟩
    rw[List.mem_singleton] at hy;subst hy;exact h1 x hx
   ·rcases List.mem_append.1 hx with hx | hx
    ·exact qer (h1 x hx) (h2 y hy)
    ·rw[List.mem_singleton] at hx;subst hx;exact h2 y hy
  exact fun i j hj hij=>List.pairwise_iff_getElem.1 pwn i j (by omega) hj hij
theorem qoP{o:List Sim}{s x:Sim}{t:Nat}:x∈o.take t++[s]++o.drop t↔x∈o∨x=s:=by
 rw[List.mem_append,List.mem_append,List.mem_singleton]
 conv=>rhs;rw[← List.take_append_drop t o]
 rw[List.mem_append]
 constructor
 ·rintro((h | h) | h)
  ·exact .inl (.inl h)
  ·exact .inr h
  ·exact .inl (.inr h)
 ·rintro((h | h) | h)
  ·exact .inl (.inl h)
  ·exact .inr h
  ·exact .inl (.inr h)
theorem qmW(s:Sim)(o:List Sim)(N1:Nat→Nat)(hs1:s.length≤1048576)(ho:Sm (.sl (.sl (.int .i64))) o)(hl:o.length+1≤1048576)(hs:Srt o)(hn:s∉o) :
  ∃ t,t≤o.length∧Srt (o.take t++[s]++o.drop t)∧Ev fun φ=>Z158.l2 (mkR (run E (φ 0))) (φ 0) (φ 2) s 0 o=some ⟨o_Z158,((o.take t++[s]++o.drop t,()),())⟩:=by
 obtain⟨t,ht,h1,h2,h3⟩:=qsd hs hn
 refine⟨t,ht,h3,?_⟩
 have fin:Ev fun φ=>Z158.j3 (mkR (run E (φ 0))) (φ 0) (φ 2) s (t:Int) false o=some ⟨o_Z158,((o.take t++[s]++o.drop t,()),())⟩:=by
  simp only[Z158.j3_eq _ qag]
  refine qaD rfl (qax (by simp only[Bool.and_eq_true,decide_eq_true_eq];omega) ?_)
  simp only[Int.toNat_natCast,List.nil_append,List.drop_zero,List.take_length]
  refine qax (by simp only[List.length_nil,List.length_take,decide_eq_true_eq];omega) (qaa (qcE s hs1) (qax (by simp only[List.length_take,List.length_singleton,decide_eq_true_eq];omega) (qax (by simp only[Bool.and_eq_true,decide_eq_true_eq];omega) (qax (by simp only[List.length_append,List.length_take,List.length_drop,List.length_singleton,decide_eq_true_eq];omega) qan))))
 have key:∀ d i,i+d=t→Ev fun φ=>Z158.l2 (mkR (run E (φ 0))) (φ 0) (φ 2) s (i:Int) o=some ⟨o_Z158,((o.take t++[s]++o.drop t,()),())⟩:=by
  intro d
  induction d with
  | zero =>
   intro i hi
   obtain rfl:i=t:=by omega
   refine Ev.round 2 (L:=fun φ n=>Z158.l2 (mkR (run E (φ 0))) (φ 0) n s (i:Int) o) ?_ (fun _ _ _=>rfl)
   simp only[Z158.l2_succ _ qag]
   by_cases hlt:i<o.length
   ·refine qaB (decide_eq_true (by omega)) (qax (by simp only[Bool.and_eq_true,decide_eq_true_eq];omega) (qae (by rw[Int.toNat_natCast];exact List.getElem?_eq_getElem hlt) (qaa (qcw _ s (qa7 ho hlt)) ?_)))
    rw[qaq (h2 hlt)]
    exact fin
   ·exact qaD (decide_eq_false (by omega)) fin
  | succ d ih =>
   intro i hi
   have hlt:i<o.length:=by omega
   refine Ev.round 2 (L:=fun φ n=>Z158.l2 (mkR (run E (φ 0))) (φ 0) n s (i:Int) o) ?_ (fun _ _ _=>rfl)
   simp only[Z158.l2_succ _ qag]
   refine qaB (decide_eq_true (by omega)) (qax (by simp only[Bool.and_eq_true,decide_eq_true_eq];omega) (qae (by rw[Int.toNat_natCast];exact List.getElem?_eq_getElem hlt) (qaa (qcw _ s (qa7 ho hlt)) ?_)))
   rw[qay (h1 i hlt (by omega))]
   simp only[Z158.j3_eq _ qag]
   refine qaB rfl ?_
   rw[qah (by omega)]
   exact ih (i+1) (by omega)
 exact key t 0 (by omega)
theorem qrQ:∀(n:Nat) (s:Sim) (c:List Sim),s.length=n+1→n≤1048575→c.length+qnz n≤1048576→Sm (.sl (.sl (.int .i64))) c→Srt c→Cl c →
    ∃ c',Ret E n_Z158 [dC (c,()),dL s] ⟨o_Z158,((c',()),())⟩∧Srt c'∧(∀ x,x∈c'↔x∈c∨Fa x s)∧c'.length≤c.length+qnz n:=by
  intro n
  induction n with
  | zero =>
    intro s c hn hb hl hc hs hcl
    have hs1:s.length≤1048576:=by omega
    have hne:s≠[]:=fun e=>by rw[e] at hn;simp at hn
    by_cases hm:s∈c
    · refine⟨c,?_,hs,fun x=>⟨.inl,fun h=>h.elim id fun h=>hcl s hm x h⟩,by omega⟩
      refine qak ?_
      simp only[run_Z158,Z158.ev]
      exact qaa (qbY (c,()) s hc) (qaB (decide_eq_true (qbb.2 hm)) qan)
    · obtain⟨t,ht,h3,h4⟩:=qmW s c id hs1 hc (by unfold qnz at hl;omega) hs hm
      refine⟨_,?_,h3,fun x=>?_,by simp[qnz];omega⟩
      · refine qak ?_
        simp only[run_Z158,Z158.ev]
        refine qaa (qbY (c,()) s hc) (qaD (decide_eq_false fun h=>hm (qbb.1 h)) ?_)
        have h4:Ev fun φ=>Z158.l2 (mkR (run E (φ 0))) (φ 0) (φ 0) s 0 c=some ⟨o_Z158,((c.take t++[s]++c.drop t,()),())⟩:=Ev.start (p:=fun φ n=>Z158.l2 (mkR (run E (φ 0))) (φ 0) n s 0 c=_) 2 h4 (fun _ _ _ h=>h)
        refine Ev.start (p:=fun φ n=>Z158.l0 (mkR (run E (φ 0))) (φ 0) n s 0 c=_) 1 ?_ (fun _ _ _ h=>h)
        refine Ev.round 1 (L:=fun φ n=>Z158.l0 (mkR (run E (φ 0))) (φ 0) n s 0 c) ?_ (fun _ _ _=>rfl)
        simp only[Z158.l0_succ _ qag,Z158.j1_eq _ qag]
        refine qaB (decide_eq_true (by omega)) (qaD (decide_eq_false (by omega)) h4)
      · rw[qoP,qny]
        constructor
        · rintro(h | h)
          · exact .inl h
          · exact .inr (.inl ⟨h,hne⟩)
        · rintro(h | ⟨h,_⟩ | ⟨i,hi,h1,h2⟩)
          · exact .inl h
          · exact .inr h
          · have:=h2.length_le
            rw[List.length_eraseIdx,if_pos hi] at this
            exact absurd (List.length_eq_zero_iff.1 (by omega)) h1
  | succ n ih =>
    intro s c hn hb hl hc hs hcl
    have hs1:s.length≤1048576:=by omega
    have hne:s≠[]:=fun e=>by rw[e] at hn;simp at hn
    by_cases hm:s∈c
    · refine⟨c,?_,hs,fun x=>⟨.inl,fun h=>h.elim id fun h=>hcl s hm x h⟩,by omega⟩
      refine qak ?_
      simp only[run_Z158,Z158.ev]
      exact qaa (qbY (c,()) s hc) (qaB (decide_eq_true (qbb.2 hm)) qan)
    · have hadd:qnz (n+1)=(n+1+1)*qnz n+1:=rfl
      -- the qbi
      have loop:∀ d i (o:List Sim),i+d=s.length→Sm (.sl (.sl (.int .i64))) o→Srt o→Cl o→(∀ x,x∈o↔x∈c∨∃ j,j<i∧Fa x (s.eraseIdx j))→o.length≤c.length+i*qnz n→s.length*qnz n+1+c.length≤1048576 →
          ∃ c',(Ev fun φ=>Z158.l0 (mkR (run E (φ 0))) (φ 0) (φ 1) s (i:Int) o=some ⟨o_Z158,((c',()),())⟩)∧Srt c'∧(∀ x,x∈c'↔x∈c∨Fa x s)∧c'.length≤c.length+s.length*qnz n+1:=by
        intro d
        induction d with
        | zero =>
          intro i o hi ho1 ho2 ho3 ho4 ho5 hbig
          obtain rfl:i=s.length:=by omega
          have hn2:s∉o:=fun h=>by
            rcases(ho4 s).1 h with h | ⟨j,hj,h⟩
            · exact hm h
            · have:=qlA h
              rw[List.length_eraseIdx,if_pos hj] at this
              omega
          obtain⟨t,ht,h3,h4⟩:=qmW s o id hs1 ho1 (by omega) ho2 hn2
          refine⟨_,?_,h3,fun x=>?_,by simp;omega⟩
          · have h4:Ev fun φ=>Z158.l2 (mkR (run E (φ 0))) (φ 0) (φ 0) s 0 o=some ⟨o_Z158,((o.take t++[s]++o.drop t,()),())⟩:=Ev.start (p:=fun φ n=>Z158.l2 (mkR (run E (φ 0))) (φ 0) n s 0 o=_) 2 h4 (fun _ _ _ h=>h)
            refine Ev.round 1 (L:=fun φ n=>Z158.l0 (mkR (run E (φ 0))) (φ 0) n s (s.length:Int) o) ?_ (fun _ _ _=>rfl)
            simp only[Z158.l0_succ _ qag,Z158.j1_eq _ qag]
            exact qaD (decide_eq_false (by omega)) (qaD rfl h4)
          · rw[qoP,ho4,qny]
            constructor
            · rintro((h | ⟨j,hj,h⟩) | h)
              · exact .inl h
              · exact .inr (.inr ⟨j,hj,h⟩)
              · exact .inr (.inl ⟨h,hne⟩)
            · rintro(h | ⟨h,_⟩ | ⟨j,hj,h⟩)
              · exact .inl (.inl h)
              · exact .inr h
              · exact .inl (.inr ⟨j,hj,h⟩)
        | succ d ihd =>
          intro i o hi ho1 ho2 ho3 ho4 ho5 hbig
          have hil:i<s.length:=by omega
          have hel:(s.eraseIdx i).length=n+1:=by rw[List.length_eraseIdx,if_pos hil];omega
          have hmul:(i+1)*qnz n≤s.length*qnz n:=Nat.mul_le_mul_right _ (by omega)
          rw[Nat.add_mul,Nat.one_mul] at hmul
          obtain⟨o',hr,hs',hm',hl'⟩:=ih (s.eraseIdx i) o hel (by omega) (by omega) ho1 ho2 ho3
          obtain⟨c',hc1,hc2⟩:=ihd (i+1) o' (by omega) ⟨by show o'.length≤1048576;omega,fun x hx=>by
              rcases(hm' x).1 hx with h | h
              · exact ho1.2 x h
              · have:=qlA h
                exact⟨by show x.length≤1048576;omega,fun _ _=>trivial⟩⟩ hs' (fun y hy x hx=>(hm' x).2 (by
              rcases(hm' y).1 hy with h | h
              · exact .inl (ho3 y h x hx)
              · exact .inr (qfo hx h))) (fun x=>by
              rw[hm',ho4]
              constructor
              · rintro((h | ⟨j,hj,h⟩) | h)
                · exact .inl h
                · exact .inr ⟨j,by omega,h⟩
                · exact .inr ⟨i,by omega,h⟩
              · rintro(h | ⟨j,hj,h⟩)
                · exact .inl (.inl h)
                · by_cases e:j=i
                  · subst e;exact .inr h
                  · exact .inl (.inr ⟨j,by omega,h⟩)) (by rw[Nat.add_mul,Nat.one_mul];omega) hbig
          refine⟨c',?_,hc2⟩
          refine Ev.round 1 (L:=fun φ n=>Z158.l0 (mkR (run E (φ 0))) (φ 0) n s (i:Int) o) ?_ (fun _ _ _=>rfl)
          simp only[Z158.l0_succ _ qag,Z158.j1_eq _ qag]
          refine qaB (decide_eq_true (by omega)) (qaB (decide_eq_true (by omega)) (qaa (qdw s i hil hs1) (qaa hr ?_)))
          rw[qah (by omega)]
          exact hc1
      have hbig:s.length*qnz n+1+c.length≤1048576:=by rw[hn];rw[hadd] at hl;omega
      obtain⟨c',h1,h2,h3,h4⟩:=loop s.length 0 c (by omega) hc hs hcl (fun x=>⟨.inl,fun h=>h.elim id fun⟨j,hj,_⟩=>by omega⟩) (by omega) hbig
      refine⟨c',?_,h2,h3,?_⟩
      · refine qak ?_
        simp only[run_Z158,Z158.ev]
        refine qaa (qbY (c,()) s hc) (qaD (decide_eq_false fun h=>hm (qbb.1 h)) ?_)
        exact Ev.start (p:=fun φ n=>Z158.l0 (mkR (run E (φ 0))) (φ 0) n s 0 c=_) 1 h1 (fun _ _ _ h=>h)
      · rw[hadd,← hn];omega
theorem qiB(l:List Sim)(hl:l.length≤1024)(hx:∀ s∈l,1≤s.length∧s.length≤4) :
    ∃ c',Ret E n_Z151 [dLL l] ⟨o_Z151,(c',())⟩∧Srt c'∧(∀ x,x∈c'↔∃ s∈l,Fa x s)∧c'.length≤41*l.length:=by
  have loop:∀ d i (o:List Sim),i+d=l.length→Srt o→(∀ x,x∈o↔∃ s∈l.take i,Fa x s)→o.length≤41*i →
      ∃ c',(Ev fun φ=>Z151.l0 (mkR (run E (φ 0))) (φ 0) (φ 1) l (i:Int) o=some ⟨o_Z151,(c',())⟩)∧Srt c'∧(∀ x,x∈c'↔∃ s∈l,Fa x s)∧c'.length≤41*l.length:=by
    intro d
    induction d with
    | zero =>
      intro i o hi h1 h2 h3
      obtain rfl:i=l.length:=by omega
      rw[List.take_length] at h2
      refine⟨o,?_,h1,h2,h3⟩
      refine Ev.round 1 (L:=fun φ n=>Z151.l0 (mkR (run E (φ 0))) (φ 0) n l (l.length:Int) o) ?_ (fun _ _ _=>rfl)
      simp only[Z151.l0_succ _ qag]
      exact qaD (decide_eq_false (by omega)) qan
    | succ d ih =>
      intro i o hi h1 h2 h3
      have hil:i<l.length:=by omega
      obtain⟨g1,g2⟩:=hx _ (List.getElem_mem hil)
      have hadd:qnz (l[i].length-1)≤41:=by
        have:l[i].length-1=0∨l[i].length-1=1∨l[i].length-1=2∨l[i].length-1=3:=by omega
        rcases this with e | e | e | e<;>rw[e]<;>decide
      have hlen:∀ x∈o,x.length≤4:=fun x hx'=>by
        obtain⟨s,hs,hf⟩:=(h2 x).1 hx'
        have:=(hx s (List.mem_of_mem_take hs)).2
        have:=qlA hf
        omega
      obtain⟨o',hr,hs',hm',hl'⟩:=qrQ (l[i].length-1) l[i] o (by omega) (by omega) (by omega) ⟨by show o.length≤1048576;omega,fun x hx'=>by have:=hlen x hx';exact⟨by show x.length≤1048576;omega,fun _ _=>trivial⟩⟩ h1 (fun y hy x hxy=>by
        obtain⟨s,hs,hf⟩:=(h2 y).1 hy
        exact(h2 x).2 ⟨s,hs,qfo hxy hf⟩)
      obtain⟨c',hc1,hc2⟩:=ih (i+1) o' (by omega) hs' (fun x=>by
        rw[hm',h2,List.take_succ_eq_append_getElem hil]
        constructor
        · rintro(⟨s,hs,h⟩ | h)
          · exact⟨s,List.mem_append.2 (.inl hs),h⟩
          · exact⟨_,List.mem_append.2 (.inr (List.mem_singleton.2 rfl)),h⟩
        · rintro⟨s,hs,h⟩
          rcases List.mem_append.1 hs with hs | hs
          · exact .inl ⟨s,hs,h⟩
          · rw[List.mem_singleton] at hs;subst hs;exact .inr h) (by omega)
      refine⟨c',?_,hc2⟩
      refine Ev.round 1 (L:=fun φ n=>Z151.l0 (mkR (run E (φ 0))) (φ 0) n l (i:Int) o) ?_ (fun _ _ _=>rfl)
      simp only[Z151.l0_succ _ qag]
      refine qaB (decide_eq_true (by omega)) (qae (qao hil) (qaa hr ?_))
      rw[qah (by omega)]
      exact hc1
  obtain⟨c',h1,h2⟩:=loop l.length 0 [] (by omega) (fun i j hj=>by simp at hj) (fun x=>by simp) (by simp)
  refine⟨c',?_,h2⟩
  refine qak ?_
  simp only[run_Z151,Z151.ev]
  exact Ev.start (p:=fun φ n=>Z151.l0 (mkR (run E (φ 0))) (φ 0) n l 0 []=_) 1 h1 (fun _ _ _ h=>h)
end VeT
open Go Go.Proofs Ve
namespace VeT
theorem qh2.lt{s:Sim}(h:qh2 s):∀ {i j:Nat} (hj:j<s.length) (hij:i<j),s[i]<s[j]:=by
 intro i j
 induction j with
 | zero=>intro _ h;omega
 | succ j ih =>
  intro hj hij
  have:=h (j+1) (by omega) hj
  rw[Nat.add_sub_cancel,qaf (by omega),qaf hj] at this
  by_cases e:i=j
  ·subst e;exact this
  ·exact Int.lt_trans (ih (by omega) (by omega)) this
theorem qh2.pairwise{s:Sim}(h:qh2 s):s.Pairwise (·<·):=by
 rw[List.pairwise_iff_getElem]
 intro i j hi hj hij
 exact h.lt hj hij
theorem qlY:∀ {a b:Sim},a.Pairwise (·<·)→b.Pairwise (·<·)→(∀ x,x∈a↔x∈b)→a=b
 | [],[],_,_,_=>rfl
 | [],y::ys,_,_,h=>absurd ((h y).2 List.mem_cons_self) (by simp)
 | x::xs,[],_,_,h=>absurd ((h x).1 List.mem_cons_self) (by simp)
 | x::xs,y::ys,ha,hb,h=>by
  rw[List.pairwise_cons] at ha hb
  have exy:x=y:=by
   have h1:=(h x).1 List.mem_cons_self
   have h2:=(h y).2 List.mem_cons_self
   rw[List.mem_cons] at h1 h2
   rcases h1 with h1 | h1
   ·exact h1
   ·rcases h2 with h2 | h2
    ·exact h2.symm
    ·have:=hb.1 x h1
     have:=ha.1 y h2
     omega
  subst exy
  congr 1
  refine qlY ha.2 hb.2 fun z=>⟨fun hz=>?_,fun hz=>?_⟩
  ·have:=(h z).1 (List.mem_cons_of_mem _ hz)
   rw[List.mem_cons] at this
   rcases this with e | e
   ·have:=ha.1 z hz;omega
   ·exact e
  ·have:=(h z).2 (List.mem_cons_of_mem _ hz)
   rw[List.mem_cons] at this
   rcases this with e | e
   ·have:=hb.1 z hz;omega
   ·exact e
theorem qo4{a b:Sim}(ha:qh2 a)(hb:qh2 b)(h:qeL a b)(hne:a≠b):∃ i,∃ hi:i<b.length,¬ b[i]∈a∧∀ j (hj:j<i),b[j]∈a:=by
 have hex:∃ x∈b,¬ x∈a:=Classical.byContradiction fun hn=>hne (qlY ha.pairwise hb.pairwise fun x=>⟨h x,fun hx=>Classical.byContradiction fun hxa=>hn ⟨x,hx,hxa⟩⟩)
 obtain⟨x,hx,hxa⟩:=hex
 obtain⟨j,hj,rfl⟩:=List.mem_iff_getElem.1 hx
 have hf:b.findIdx (fun v=>!pb (v∈a))<b.length:=List.findIdx_lt_length_of_exists ⟨b[j],hx,by rw[qaq hxa];rfl⟩
 refine⟨b.findIdx (fun v=>!pb (v∈a)),hf,?_,fun q hq=>?_⟩
 ·have:=List.findIdx_getElem (w:=hf)
  exact qbh.1 (by simpa using this)
 ·have:=List.not_of_lt_findIdx hq
  exact qaH.1 (by simpa using this)
theorem qgj{a b:Sim}(h:qeL a b){i:Nat}(hi:i<b.length)(hn:¬ b[i]∈a):qeL a (b.eraseIdx i):=by
 intro x hx
 obtain⟨j,hj,rfl⟩:=List.mem_iff_getElem.1 (h x hx)
 have hji:j≠i:=fun e=>hn (by subst e;exact hx)
 rw[List.mem_iff_getElem?]
 by_cases hlt:j<i
 ·exact⟨j,by rw[List.getElem?_eraseIdx,if_pos hlt,List.getElem?_eq_getElem hj]⟩
 ·exact⟨j-1,by rw[List.getElem?_eraseIdx,if_neg (by omega),show j-1+1=j by omega,List.getElem?_eq_getElem hj]⟩
end VeT
open Go Go.Proofs Ve
namespace VeT
theorem qpu{c:List Sim}(hs:Srt c)(hv:VC c){t:Nat}(ht:t<(qaY c c.length).length) :
  ∃ k i f:Nat,k<c.length∧i<(qaI c k).length∧f<c.length∧(qaY c c.length)[t]=((k:Int),(i:Int),(f:Int),()):=by
 obtain⟨k,i,h1,h2,h3⟩:=qda ht
 obtain⟨f,f1,f2,f3⟩:=qdz hs hv h1 h2
 refine⟨k,i,f,h1,h2,f1,?_⟩
 have:=qbD h1 h2
 rw[← h3,List.getElem?_eq_getElem ht,f3] at this
 exact Option.some.inj this
theorem qcU{c:List Sim}(hv:VC c):(qaY c c.length).length≤192:=by
 have h:=hv.plc (k:=c.length) (Nat.le_refl _)
 have:=hv.1
 unfold plc at h
 omega
theorem qf0(c:List Sim)(p:Int)(st:Sim)(hc:Sm (.sl (.sl (.int .i64))) c)(hv:VC c)(hl:st.length=c.length)(hst:∀ x∈st,0≤x∧x≤3) :
  Ret E n_Z168 [dC (c,()),dI p,dL st] ⟨o_Z168,(c,p,st,(qaY c c.length).map (zOf p st),())⟩:=by
 have hs:=hv.srt
 have h192:=qcU hv
 have h48:=hv.1
 refine qak ?_
 simp only[run_Z168,Z168.ev]
 refine qaa (qiu c hc hv) (qaa (qcE st (by omega)) ?_)
 refine Ev.start (p:=fun φ n=>Z168.l0 (mkR (run E (φ 0))) (φ 0) n (c,()) p st 0 0 p [] c st=_) 1 ?_ (fun _ _ _ h=>h)
 refine qaw 1 (L:=fun φ n k o=>Z168.l0 (mkR (run E (φ 0))) (φ 0) n (c,()) p st k 0 p o c st) (len:=c.length) (fun k=>(qaY c k).map (zOf p st)) (fun _ _ _ _ _=>rfl) (fun k r hk ih=>?_) ?_
 ·simp only[Z168.l0_succ _ qag]
  have hpl:=hv.plc (k:=k) (by omega)
  unfold plc at hpl
  have hf4:=hv.fIdx4 hk
  refine qaB (decide_eq_true (by show(k:Int)<(c.length:Int);omega)) (qaa (qdZ c k hk hc) ?_)
  refine Ev.start (p:=fun φ n=>Z168.l1 (mkR (run E (φ 0))) (φ 0) (φ 1) n (c,()) p st (k:Int) (qaI c k) 0 0 p ((qaY c k).map (zOf p st)) c st=_) 2 ?_ (fun _ _ _ h=>h)
  have:=qaw 2 (L:=fun φ n j o=>Z168.l1 (mkR (run E (φ 0))) (φ 0) (φ 1) n (c,()) p st (k:Int) (qaI c k) j 0 p o c st) (len:=(qaI c k).length) (fun j=>(qaY c k++qmI c k j).map (zOf p st)) (r:=r) (fun _ _ _ _ _=>rfl) (fun j r hj ih=>?_) ?_
  ·simpa [qmI] using this
  ·simp only[Z168.l1_succ _ qag]
   obtain⟨f,f1,f2,f3⟩:=qdz hs hv hk hj
   obtain⟨a,ha,ea,hka,eka⟩:=qgb hl hst hk
   obtain⟨b,hb,eb,hfb,efb⟩:=qgb hl hst f1
   have hz:=qch p a b (by omega) (by omega)
   have e2:zOf p st ((k:Int),(j:Int),(qaI c k).getD j 0,())=(p,(a:Int),(b:Int),List.replicate (a*b) 0,()):=by
    unfold zOf
    simp only[Int.toNat_natCast,ea,eb,f3]
   have erow:qmI c k (j+1)=qmI c k j++[((k:Int),(j:Int),(qaI c k).getD j 0,())]:=by
    unfold qmI
    rw[List.range_succ,List.map_append,List.map_singleton]
   rw[erow,← List.append_assoc,List.map_append (l₂:=[_]),List.map_singleton,e2] at ih
   refine qaB (decide_eq_true (by omega)) (qae (qao hka) (qae (qao hj) ?_))
   simp only[eka,f2]
   refine qae (qao hfb) ?_
   simp only[efb]
   refine qaa hz (qax (by simp only[List.length_map,List.length_append,qdH,List.length_singleton,decide_eq_true_eq];omega) ?_)
   rw[qah (by omega)];exact ih
  ·simp only[Z168.l1_succ _ qag]
   refine qaD (decide_eq_false (by omega)) ?_
   rw[qah (by omega)]
   have:qaY c (k+1)=qaY c k++qmI c k (qaI c k).length:=rfl
   rw[this] at ih
   exact ih
 ·simp only[Z168.l0_succ _ qag]
  exact qaD (decide_eq_false (by show ¬ ((c.length:Int)<(c.length:Int));omega)) qan
theorem qec(c:List Sim)(p:Int)(n:Nat)(hn:n≤3)(hc:Sm (.sl (.sl (.int .i64))) c)(hv:VC c) :
  Ret E n_Z164 [dC (c,()),dI p,dI (n:Int)] ⟨o_Z164,(c,p,List.replicate c.length (n:Int),List.replicate (qaY c c.length).length (qbj p n),())⟩:=by
 have h192:=qcU hv
 have h48:=hv.1
 refine qak ?_
 simp only[run_Z164,Z164.ev]
 refine Ev.start (p:=fun φ q=>Z164.l0 (mkR (run E (φ 0))) (φ 0) q (c,()) p (n:Int) 0 0 []=_) 1 ?_ (fun _ _ _ h=>h)
 refine qaw 1 (L:=fun φ q k o=>Z164.l0 (mkR (run E (φ 0))) (φ 0) q (c,()) p (n:Int) k 0 o) (len:=c.length) (fun k=>List.replicate k (n:Int)) (fun _ _ _ _ _=>rfl) (fun k r hk ih=>?_) ?_
 ·simp only[Z164.l0_succ _ qag]
  rw[List.replicate_succ'] at ih
  refine qaB (decide_eq_true (by show(k:Int)<(c.length:Int);omega)) (qax (by simp only[List.length_replicate,List.length_singleton,decide_eq_true_eq];omega) ?_)
  rw[qah (by omega)];exact ih
 ·simp only[Z164.l0_succ _ qag]
  have hnew:=qf0 c p (List.replicate c.length (n:Int)) hc hv (by simp) fun x hx=>by
   rw[List.eq_of_mem_replicate hx];omega
  refine qaD (decide_eq_false (by show ¬ ((c.length:Int)<(c.length:Int));omega)) (qaa hnew ?_)
  obtain⟨M,hM⟩:∃ M,M=(qaY c c.length).map (zOf p (List.replicate c.length (n:Int))):=⟨_,rfl⟩
  rw[← hM]
  have hMl:M.length=(qaY c c.length).length:=by rw[hM,List.length_map]
  rw[← hMl] at h192 ⊢
  refine Ev.start (p:=fun φ q=>Z164.l1 (mkR (run E (φ 0))) (φ 0) q p (n:Int) 0 0 p M c (List.replicate c.length (n:Int))=_) 1 ?_ (fun _ _ _ h=>h)
  have:=qaw 1 (L:=fun φ q k o=>Z164.l1 (mkR (run E (φ 0))) (φ 0) q p (n:Int) k 0 p o c (List.replicate c.length (n:Int))) (len:=M.length) (fun k=>List.replicate k (qbj p n)++M.drop k) (r:=some ⟨o_Z164,(c,p,List.replicate c.length (n:Int),List.replicate M.length (qbj p n),())⟩) (fun _ _ _ _ _=>rfl) (fun k r hk ih=>?_) ?_
  ·simpa using this
  ·simp only[Z164.l1_succ _ qag]
   have hlen:(List.replicate k (qbj p n)++M.drop k).length=M.length:=by simp;omega
   have hset:(List.replicate k (qbj p n)++M.drop k).set k (qbj p n)=List.replicate (k+1) (qbj p n)++M.drop (k+1):=by
    rw[List.set_append_right _ _ (by simp),List.length_replicate,Nat.sub_self,List.drop_eq_getElem_cons hk,List.set_cons_zero,List.replicate_succ',List.append_assoc,List.singleton_append]
   refine qaB (decide_eq_true (by rw[hlen];omega)) (qaa (qeY p n (by omega)) (qax (by simp only[hlen,Bool.and_eq_true,decide_eq_true_eq];omega) ?_))
   rw[qah (by omega),Int.toNat_natCast]
   have e:((qbj p n).1,(qbj p n).2.1,(qbj p n).2.2.1,(qbj p n).2.2.2.1,())=qbj p n:=rfl
   show Ev fun φ=>Z164.l1 (mkR (run E (φ 0))) (φ 0) (φ 1) p (n:Int) ((k+1:Nat):Int) 0 p (List.set (List.replicate k (qbj p n)++M.drop k) k (qbj p n)) c (List.replicate c.length (n:Int))=r
   rw[hset]
   exact ih
  ·simp only[Z164.l1_succ _ qag]
   refine qaD (decide_eq_false (by simp)) (qal ?_)
   simp
end VeT
open Go Go.Proofs Ve
namespace VeT
end VeT
open Go Go.Proofs Ve
namespace VeT
end VeT
open Go Go.Proofs Ve
namespace VeT
theorem qsA{x y p:Int}(hx:0≤x∧x≤250)(hy:0≤y∧y≤250)(hp:2≤p∧p≤251):Int.tmod (w64 (x*y)) p=x*y%p:=by
 have:=qjl hx hy
 rw[qai (by omega) (by omega),Int.tmod_eq_emod_of_nonneg (by omega)]
end VeT
open Go Go.Proofs Ve
namespace VeT
end VeT
open Go Go.Proofs Ve
namespace VeT
theorem VM.len{m:Mat}(h:VM m):m.2.2.2.1.length≤1024:=by
 obtain⟨R,C,_,hR,hC,hl⟩:=h.nat
 have:=qeB hR hC
 omega
end VeT
open Go Go.Proofs Ve
namespace VeT
noncomputable def fv(c:List Sim)(f k:Nat):Nat:=(c.getD k []).findIdx (fun v=>!pb (v∈c.getD f []))
noncomputable def qdQ(c:List Sim)(p:Int)(st:Sim)(ms:List Mat)(f:Nat):Nat→Nat→Mat
 | 0,k=>qbj p (st.getD f 0).toNat
 | d+1,k=>if f=k then qbj p (st.getD f 0).toNat else qcY (mp c ms k (fv c f k)) (qdQ c p st ms f d (fc c k (fv c f k)))
theorem qew{p:Int}{n:Nat}(hp:Pr p)(hn:n≤32):VM (qbj p n):=by
 refine⟨hp,⟨by show(0:Int)≤n;omega,by show(n:Int)≤32;omega⟩,⟨by show(0:Int)≤n;omega,by show(n:Int)≤32;omega⟩,?_,?_⟩
 ·show((qat qbw n n).length:Int)=(n:Int)*(n:Int)
  rw[qas,qa3]
 ·intro x hx
  have hx:x∈qat qbw n n:=hx
  have:∀ m,x∈qat qbw n m→0≤x∧x≤1:=by
   intro m
   induction m with
   | zero=>intro h;simp[qat] at h
   | succ m ih =>
    intro h
    rw[qat,List.mem_append] at h
    rcases h with h | h
    ·exact ih h
    ·rw[List.mem_map] at h
     obtain⟨j,_,rfl⟩:=h
     unfold qbw;split<;>omega
  have:=this n hx
  have:=hp.1
  show 0≤x∧x≤p-1
  omega
theorem qcN{a b:Mat}(ha:VM a)(hb:VM b):VM (qcY a b):=by
 refine⟨ha.1,ha.2.1,hb.2.2.1,?_,?_⟩
 ·show((qat _ b.2.2.1.toNat a.2.1.toNat).length:Int)=a.2.1*b.2.2.1
  rw[qas]
  have h1:=ha.2.1
  have h2:=hb.2.2.1
  obtain⟨x,hx⟩:=Int.eq_ofNat_of_zero_le h1.1
  obtain⟨y,hy⟩:=Int.eq_ofNat_of_zero_le h2.1
  rw[hx,hy,qa3];rfl
 ·intro x hx
  have hx:x∈qat (qi1 a.1 a.2.2.2.1 b.2.2.2.1 a.2.2.1.toNat b.2.2.1.toNat) b.2.2.1.toNat a.2.1.toNat:=hx
  have hp:=ha.1.1
  have:∀ m,x∈qat (qi1 a.1 a.2.2.2.1 b.2.2.2.1 a.2.2.1.toNat b.2.2.1.toNat) b.2.2.1.toNat m→0≤x∧x≤a.1-1:=by
   intro m
   induction m with
   | zero=>intro h;simp[qat] at h
   | succ m ih =>
    intro h
    rw[qat,List.mem_append] at h
    rcases h with h | h
    ·exact ih h
    ·rw[List.mem_map] at h
     obtain⟨j,_,rfl⟩:=h
     have h1:=Int.emod_nonneg (qa5 (fun l=>a.2.2.2.1.getD (m*a.2.2.1.toNat+l) 0) (fun l=>b.2.2.2.1.getD (l*b.2.2.1.toNat+j) 0) a.2.2.1.toNat) (show a.1≠0 by omega)
     have h2:=Int.emod_lt_of_pos (qa5 (fun l=>a.2.2.2.1.getD (m*a.2.2.1.toNat+l) 0) (fun l=>b.2.2.2.1.getD (l*b.2.2.1.toNat+j) 0) a.2.2.1.toNat) (show 0<a.1 by omega)
     unfold qi1;omega
  exact this _ hx
theorem qfW(v:Int)(a:Sim)(ha:a.length≤1048576):Ret E n_Z67 [dI v,⟨.ptr (.cons (.sl (.int .i64)) .nil),(a,())⟩] ⟨o_Z67,(!pb (v∈a),())⟩:=by
 refine qak ?_
 simp only[run_Z67,Z67.ev]
 exact qaa (qgA a v ha) qan
structure Down (c:List Sim) (p:Int) (st:Sim) (ms:List Mat) (f k:Nat):Prop where
 v:VS c p st ms
 fl:f<c.length
 kl:k<c.length
 ne:f≠k
 pt:qeL (c.getD f []) (c.getD k [])
theorem Down.facts{c p st ms f k}(h:Down c p st ms f k):fv c f k<(c.getD k []).length∧fv c f k<(qaI c k).length∧(∀ j (hj:j<fv c f k) (hl:j<(c.getD k []).length),(c.getD k [])[j]∈c.getD f [])∧(∀ hl:fv c f k<(c.getD k []).length,¬ (c.getD k [])[fv c f k]∈c.getD f [])∧qeL (c.getD f []) (c.getD (fc c k (fv c f k)) [])∧(c.getD (fc c k (fv c f k)) []).length<(c.getD k []).length∧fc c k (fv c f k)<c.length:=by
 have hx:=h.v.1.2.1 f h.fl
 have hy:=h.v.1.2.1 k h.kl
 have hne:c.getD f []≠c.getD k []:=fun e=>by
  have hs:=h.v.1.srt
  rw[qaf h.fl,qaf h.kl] at e
  rcases Nat.lt_or_gt_of_ne h.ne with hlt | hlt
  ·have:=hs f k h.kl hlt;rw[e,qcc.2 rfl] at this;omega
  ·have:=hs k f h.fl hlt;rw[e,qcc.2 rfl] at this;omega
 obtain⟨i,hi,hin,hbef⟩:=qo4 hx.2.2.1 hy.2.2.1 h.pt hne
 have hfv:fv c f k<(c.getD k []).length:=List.findIdx_lt_length_of_exists ⟨_,List.getElem_mem hi,by rw[qaq hin];rfl⟩
 have hno:∀ hl:fv c f k<(c.getD k []).length,¬ (c.getD k [])[fv c f k]∈c.getD f []:=fun hl=>by
  have t:(!pb ((c.getD k [])[fv c f k]∈c.getD f []))=true:=List.findIdx_getElem (w:=hl) (p:=fun v=>!pb (v∈c.getD f []))
  exact qbh.1 (by simpa only[Bool.not_eq_true'] using t)
 have hbf:∀ j (hj:j<fv c f k) (hl:j<(c.getD k []).length),(c.getD k [])[j]∈c.getD f []:=fun j hj hl=>by
  have:=List.not_of_lt_findIdx hj
  exact qaH.1 (by simpa using this)
 have h2:1<(c.getD k []).length:=by
  refine Classical.byContradiction fun hn=>?_
  have h1:(c.getD k []).length=1:=by omega
  have hf0:0<(c.getD f []).length:=hx.1
  have hm:=h.pt _ (List.getElem_mem hf0)
  obtain⟨q,hq,e⟩:=List.mem_iff_getElem.1 hm
  have hq0:q=fv c f k:=by omega
  subst hq0
  exact hno hfv (e ▸ List.getElem_mem hf0)
 have hil:fv c f k<(qaI c k).length:=by rw[qaF,if_pos h2];exact hfv
 obtain⟨_,hF,hFg⟩:=qa4 h.v.1 h.kl hil
 refine⟨hfv,hil,hbf,hno,?_,?_,hF⟩
 ·rw[hFg];exact qgj h.pt hfv (hno hfv)
 ·rw[hFg,List.length_eraseIdx,if_pos hfv];omega
end VeT
open Go Go.Proofs Ve
namespace VeT
end VeT
open Go Go.Proofs Ve
namespace VeT
noncomputable abbrev qsJ(e:Int):List Sim×Int×Sim×List Mat×Int×Unit:=([],0,[],[],e,())
end VeT
open Go Go.Proofs Ve
namespace VeT
theorem qhe:∀ {a b:Sim},a.Pairwise (·<·)→b.Pairwise (·<·)→(∀ x∈a,x∈b)→a.Sublist b
  | [],b,_,_,_=>List.nil_sublist b
  | x::xs,[],_,_,h=>absurd (h x List.mem_cons_self) (by simp)
  | x::xs,y::ys,ha,hb,h=>by
    have ha':=List.pairwise_cons.1 ha
    have hb':=List.pairwise_cons.1 hb
    by_cases e:x=y
    · subst e
      refine List.Sublist.cons_cons _ (qhe ha'.2 hb'.2 fun z hz=>?_)
      rcases List.mem_cons.1 (h z (List.mem_cons_of_mem _ hz)) with rfl | hz'
      · have:=ha'.1 z hz;omega
      · exact hz'
    · have hxy:x∈ys:=by
        rcases List.mem_cons.1 (h x List.mem_cons_self) with h1 | h1
        · exact absurd h1 e
        · exact h1
      have hlt:=hb'.1 x hxy
      refine List.Sublist.cons _ (qhe ha hb'.2 fun z hz=>?_)
      rcases List.mem_cons.1 (h z hz) with rfl | hz'
      · rcases List.mem_cons.1 hz with rfl | hz2
        · exact absurd rfl e
        · have:=ha'.1 z hz2;omega
      · exact hz'
theorem qnR{c:List Sim}(hv:VC c){i k:Nat}(hi:i<c.length)(hk:k<c.length)(h:qeL (c.getD k []) (c.getD i [])):k≤i:=by
 refine Classical.byContradiction fun hn=>?_
 have hs:=hv.srt i k hk (by omega)
 rw[qaf hk,qaf hi] at h
 have r1:=(hv.2.1 k hk).2.2.1
 have r2:=(hv.2.1 i hi).2.2.1
 rw[qaf hk] at r1
 rw[qaf hi] at r2
 have sub:=qhe r1.pairwise r2.pairwise h
 have hl:=sub.length_le
 rcases qhL.1 hs with h1 | ⟨h1,h2⟩
 ·omega
 ·have e:=sub.eq_of_length h1.symm
  rw[e,qdk,qdl.2 rfl] at hs
  omega
theorem qes{c:List Sim}{s:Sim}:∀ {n:Nat} {x:Int},x∈qdX c s n↔∃ i:Nat,x=(i:Int)∧i<n∧qeL s (c.getD i [])
 | 0,x=>by simp[qdX]
 | n+1,x=>by
  rw[qdX,List.mem_append,qes]
  constructor
  ·rintro(⟨i,h1,h2,h3⟩ | h)
   ·exact⟨i,h1,by omega,h3⟩
   ·split at h
    ·rename_i hp
     rw[List.mem_singleton] at h
     exact⟨n,h,by omega,hp⟩
    ·simp at h
  ·rintro⟨i,h1,h2,h3⟩
   by_cases e:i=n
   ·subst e
    right
    rw[if_pos h3,h1];simp
   ·exact .inl ⟨i,h1,by omega,h3⟩
theorem qjg{c:List Sim}{s:Sim}:∀ {n:Nat},(qdX c s n).Pairwise (·<·)
 | 0=>by simp[qdX]
 | n+1=>by
  rw[qdX,List.pairwise_append]
  refine⟨qjg,by split<;>simp,fun x hx y hy=>?_⟩
  obtain⟨i,rfl,hi,_⟩:=qes.1 hx
  split at hy
  ·rw[List.mem_singleton] at hy;omega
  ·simp at hy
open Classical in
noncomputable def qsD(c:List Sim)(k:Int):Int:=if VC c then(if 0≤k∧k≤(c.length:Int)-1 then 0 else 2) else 1
theorem qjI(c:List Sim)(k:Int)(hc:Sm (.sl (.sl (.int .i64))) c):Ret E n_Z149 [dC (c,()),dI k] ⟨o_Z149,(qsD c k,())⟩:=by
 have hl:c.length≤1048576:=hc.1
 refine qak ?_
 simp only[run_Z149,Z149.ev]
 unfold qsD
 refine qaa (qpB (c,()) hc) ?_
 by_cases h1:VC c
 ·rw[if_pos h1]
  refine qaD (by rw[qay h1];rfl) ?_
  rw[qai (n:=(c.length:Int)-1) (by omega) (by omega)]
  refine qaa (qb9 _ _ _) ?_
  by_cases h2:0≤k∧k≤(c.length:Int)-1
  ·rw[if_pos h2];exact qaD (by rw[qay h2];rfl) qan
  ·rw[if_neg h2];exact qaB (by rw[qaq h2];rfl) qan
 ·rw[if_neg h1]
  exact qaB (by rw[qaq h1];rfl) qan
end VeT
open Go Go.Proofs Ve
namespace VeT
def EvQ(A:(Nat→Nat)→Option Dv)(out:Ty)(Q:out.T→Prop):Prop:=∃ x,(Ev fun φ=>A φ=some ⟨out,x⟩)∧Q x
def qke(f:Nat)(args:List Dv)(out:Ty)(Q:out.T→Prop):Prop:=∃ x,Ret E f args ⟨out,x⟩∧Q x
theorem qbX{f:Nat}{args:List Dv}{out:Ty}{Q:out.T→Prop}(h:EvQ (fun φ=>run E (φ 0+1) f args) out Q):qke f args out Q:=let ⟨x,h1,h2⟩:=h;⟨x,qak h1,h2⟩
theorem qaS{out:Ty}{Q:out.T→Prop}{x:out.T}(h:Q x):EvQ (fun _=>some ⟨out,x⟩) out Q:=⟨x,qan,h⟩
theorem qaA{f:Nat}{o:Ty}{args:List Dv}{x:o.T}{out:Ty}{Q:out.T→Prop}{K:(Nat→Nat)→o.T→Option Dv}(h:Ret E f args ⟨o,x⟩)(k:EvQ (fun φ=>K φ x) out Q) :
  EvQ (fun φ=>(Option.bind (qgg (mkR (run E (φ 0))) f o args) fun y=>K φ y)) out Q:=let ⟨z,h1,h2⟩:=k;⟨z,qaa h h1,h2⟩
theorem qbB{f:Nat}{o:Ty}{args:List Dv}{P:o.T→Prop}{out:Ty}{Q:out.T→Prop}{K:(Nat→Nat)→o.T→Option Dv}(h:qke f args o P)(k:∀ x,P x→EvQ (fun φ=>K φ x) out Q) :
  EvQ (fun φ=>(Option.bind (qgg (mkR (run E (φ 0))) f o args) fun y=>K φ y)) out Q:=let ⟨x,h1,h2⟩:=h;qaA h1 (k x h2)
theorem qbW{α:Type}{c:Option α}{x:α}{K:(Nat→Nat)→α→Option Dv}{out:Ty}{Q:out.T→Prop}(h:c=some x)(k:EvQ (fun φ=>K φ x) out Q) :
  EvQ (fun φ=>(Option.bind c fun y=>K φ y)) out Q:=let ⟨z,h1,h2⟩:=k;⟨z,qae h h1,h2⟩
theorem qa9{b:Bool}{K:(Nat→Nat)→Unit→Option Dv}{out:Ty}{Q:out.T→Prop}(h:b=true)(k:EvQ (fun φ=>K φ ()) out Q) :
  EvQ (fun φ=>(Option.bind (chk b) fun y=>K φ y)) out Q:=let ⟨z,h1,h2⟩:=k;⟨z,qax h h1,h2⟩
theorem qoQ{b:Bool}{A B:(Nat→Nat)→Option Dv}{out:Ty}{Q:out.T→Prop}(h:b=true)(k:EvQ A out Q):EvQ (fun φ=>bif b then A φ else B φ) out Q:=by subst h;exact k
theorem qdT{b:Bool}{A B:(Nat→Nat)→Option Dv}{out:Ty}{Q:out.T→Prop}(h:b=false)(k:EvQ B out Q):EvQ (fun φ=>bif b then A φ else B φ) out Q:=by subst h;exact k
theorem qhH{b:Bool}{A B:(Nat→Nat)→Option Dv}{out:Ty}{Q:out.T→Prop}(t:b=true→EvQ A out Q)(f:b=false→EvQ B out Q):EvQ (fun φ=>bif b then A φ else B φ) out Q:=by
 cases b
 ·exact f rfl
 ·exact t rfl
theorem qcH{p:Prop}[Decidable p]{A B:(Nat→Nat)→Option Dv}{out:Ty}{Q:out.T→Prop}(t:p→EvQ A out Q)(f:¬ p→EvQ B out Q):EvQ (fun φ=>bif decide p then A φ else B φ) out Q :=
 qhH (fun h=>t (of_decide_eq_true h)) fun h=>f (of_decide_eq_false h)
theorem EvQ.round(l:Nat){L:(Nat→Nat)→Nat→Option Dv}{out:Ty}{Q:out.T→Prop}(h:EvQ (fun φ=>L φ (φ l+1)) out Q)(hind:∀ φ n n',L (fup φ l n') n=L φ n):EvQ (fun φ=>L φ (φ l)) out Q :=
 let ⟨z,h1,h2⟩:=h;⟨z,Ev.round l h1 hind,h2⟩
theorem EvQ.start(l:Nat){L:(Nat→Nat)→Nat→Option Dv}{out:Ty}{Q:out.T→Prop}(h:EvQ (fun φ=>L φ (φ l)) out Q)(hind:∀ φ n n',L (fup φ l n') n=L φ n):EvQ (fun φ=>L φ (φ 0)) out Q :=
 let ⟨z,h1,h2⟩:=h;⟨z,Ev.start (p:=fun φ n=>L φ n=_) l h1 (fun φ n n' h=>by rw[hind] at h;exact h),h2⟩
theorem EvQ.loop(l:Nat){σ:Type}{L:(Nat→Nat)→Nat→σ→Option Dv}{out:Ty}{Q:out.T→Prop}(hind:∀ φ n n' s,L (fup φ l n') n s=L φ n s)(Inv:σ→Prop)(μ:σ→Nat)
  (step:∀ s,Inv s→(∀ s',Inv s'→μ s'<μ s→EvQ (fun φ=>L φ (φ l) s') out Q)→EvQ (fun φ=>L φ (φ l+1) s) out Q):∀ s,Inv s→EvQ (fun φ=>L φ (φ l) s) out Q:=by
 have key:∀ d s,μ s<d→Inv s→EvQ (fun φ=>L φ (φ l) s) out Q:=by
  intro d
  induction d with
  | zero=>intro s h;omega
  | succ d ih =>
   intro s hd hi
   exact EvQ.round l (L:=fun φ n=>L φ n s) (step s hi fun s' hi' hl=>ih s' (by omega) hi') (fun φ n n'=>hind φ n n' s)
 exact fun s=>key _ s (Nat.lt_succ_self _)
abbrev Src:=List Int×Int×Int×Unit
abbrev cR:Ty:=.cons (.sl (.int .u8)) (.cons (.int .i64) (.cons (.int .u64) .nil))
abbrev dR(s:Src):Dv:=⟨.ptr cR,s⟩
abbrev dB(s:List Int):Dv:=⟨.sl (.int .u8),s⟩
def SO(n:Nat)(s:Src):Prop:=(∀ b∈s.1,0≤b∧b≤255)∧0≤s.2.1∧s.2.1≤(n:Int)
theorem SO.le{n m:Nat}{s:Src}(h:SO n s)(hm:n≤m):SO m s:=⟨h.1,h.2.1,by have:=h.2.2;omega⟩
theorem ql9(c:List Int):Ret E n_Z124 [dB c] ⟨o_Z124,((c,0,0,()),())⟩:=by
 refine qak ?_
 simp only[run_Z124,Z124.ev]
 exact Ev.of fun _=>trivial
theorem qqU(x:BitVec (IntKind.bits .u64)):0≤w64 (IntKind.wrap .u64 (BitVec.toNat (x &&& BitVec.ofInt (IntKind.bits .u64) (255:Int))))∧w64 (IntKind.wrap .u64 (BitVec.toNat (x &&& BitVec.ofInt (IntKind.bits .u64) (255:Int))))≤255:=by
 have h:(x &&& BitVec.ofInt (IntKind.bits .u64) (255:Int)).toNat≤255:=by
  rw[BitVec.toNat_and]
  have:(BitVec.ofInt (IntKind.bits .u64) (255:Int)).toNat=255:=by decide
  rw[this]
  exact Nat.and_le_right
 rw[qlt (by omega) (by omega),qai (by omega) (by omega)]
 omega
theorem qmR(n:Nat)(s:Src)(hn:n≤1152921504606846976)(hs:SO n s):qke n_Z132 [dR s] o_Z132 fun(r:Int×Src×Unit)=>0≤r.1∧r.1≤255∧SO (n+1) r.2.1:=by
 obtain⟨c,a,g,⟨⟩⟩:=s
 obtain⟨h1,h2,h3⟩:=hs
 simp only at h1 h2 h3
 have ha:w64 (a+1)=a+1:=qai (by omega) (by omega)
 have hj:∀ b:Int,0≤b→b≤255→EvQ (fun φ=>Z132.j0 (mkR (run E (φ 0))) (φ 0) b c a g) o_Z132 fun(r:Int×Src×Unit)=>0≤r.1∧r.1≤255∧SO (n+1) r.2.1:=by
  intro b hb1 hb2
  simp only[Z132.j0_eq _ qag,ha]
  refine qcH (fun h=>qaS ⟨hb1,hb2,h1,?_,?_⟩) fun h=>?_
  ·show 0≤a+1;omega
  ·show a+1≤((n+1:Nat):Int);omega
  ·refine qa9 (by decide) (qaS ⟨?_,?_,h1,?_,?_⟩)
   ·exact(qqU _).1
   ·exact(qqU _).2
   ·show 0≤a+1;omega
   ·show a+1≤((n+1:Nat):Int);omega
 refine qbX ?_
 simp only[run_Z132,Z132.ev]
 refine qcH (fun h=>?_) fun h=>hj 0 (by omega) (by omega)
 obtain⟨k,rfl⟩:∃ k:Nat,a=(k:Int):=⟨a.toNat,by omega⟩
 have hk:k<c.length:=by omega
 have hb:=h1 _ (List.getElem_mem hk)
 refine qbW (qao hk) ?_
 have e:w64 c[k]=c[k]:=qai (by omega) (by omega)
 have:=hj _ hb.1 hb.2
 rw[← e] at this
 exact this
theorem qbo(n:Nat)(s:Src)(k:Int)(hn:n≤1000000000000)(hs:SO n s):qke n_Z134 [dR s,dI k] o_Z134 fun(r:Int×Src×Unit)=>0≤r.1∧(r.1<k∨r.1=0)∧r.1≤65535∧SO (n+2) r.2.1:=by
 obtain⟨c,a,g,⟨⟩⟩:=s
 refine qbX ?_
 simp only[run_Z134,Z134.ev]
 refine qcH (fun h=>qaS ⟨Int.le_refl _,.inr rfl,(by show(0:Int)≤65535;decide),hs.le (by omega)⟩) fun h=>?_
 have hk:0<k:=by omega
 have tm:∀ x:Int,0≤x→0≤Int.tmod x k∧Int.tmod x k<k∧Int.tmod x k≤x:=fun x hx=>by
  rw[Int.tmod_eq_emod_of_nonneg hx]
  have h1:=Int.mul_ediv_add_emod x k
  have h2:0≤k*(x / k):=Int.mul_nonneg (by omega) (Int.ediv_nonneg hx (by omega))
  generalize k*(x / k)=y at h1 h2
  exact⟨Int.emod_nonneg _ (by omega),Int.emod_lt_of_pos _ hk,by omega⟩
 have hne:(k != 0)=true:=by simp;omega
 refine qbB (qmR n _ (by omega) hs) fun(r:Int×Src×Unit) ⟨r1,r2,r3⟩=>?_
 refine qcH (fun h2=>?_) fun h2=>?_
 ·refine qbB (qmR (n+1) _ (by omega) r3) fun(q:Int×Src×Unit) ⟨q1,q2,q3⟩=>?_
  refine qa9 hne (qaS ?_)
  have e1:w64 (r.1*256)=r.1*256:=qai (by omega) (by omega)
  have e2:w64 (r.1*256+q.1)=r.1*256+q.1:=qai (by omega) (by omega)
  have:=tm (r.1*256+q.1) (by omega)
  refine⟨?_,.inl ?_,?_,q3⟩
  ·show 0≤Int.tmod _ _;rw[e1,e2];exact this.1
  ·show Int.tmod _ _<_;rw[e1,e2];exact this.2.1
  ·show Int.tmod _ _≤_;rw[e1,e2];omega
 ·have:=tm r.1 r1
  exact qa9 hne (qaS ⟨this.1,.inl this.2.1,(by show Int.tmod _ _≤_;omega),r3.le (by omega)⟩)
theorem qrz(n:Nat)(s:Src)(k:Int)(hn:n≤1000000000000)(hs:SO n s):qke n_Z133 [dR s,dI k] o_Z133 fun(r:Bool×Src×Unit)=>SO (n+2) r.2.1:=by
 obtain⟨c,a,g,⟨⟩⟩:=s
 refine qbX ?_
 simp only[run_Z133,Z133.ev]
 exact qbB (qbo n _ k hn hs) fun(r:Int×Src×Unit) ⟨r1,r2,r3,r4⟩=>qaS r4
theorem qox(n:Nat)(s:Src)(l:List Int)(hl:l≠[])(hn:n≤1000000000000)(hs:SO n s):qke n_Z131 [dR s,dL l] o_Z131 fun(r:Int×Src×Unit)=>r.1∈l∧SO (n+2) r.2.1:=by
 obtain⟨c,a,g,⟨⟩⟩:=s
 have:0<l.length:=List.length_pos_iff.2 hl
 refine qbX ?_
 simp only[run_Z131,Z131.ev]
 refine qbB (qbo n _ _ hn hs) fun(r:Int×Src×Unit) ⟨r1,r2,r3,r4⟩=>?_
 obtain⟨k,hk⟩:∃ k:Nat,r.1=(k:Int):=⟨r.1.toNat,by omega⟩
 have hkl:k<l.length:=by omega
 rw[hk]
 exact qbW (qao hkl) (qaS ⟨List.getElem_mem hkl,r4⟩)
end VeT
open Go Go.Proofs Ve
namespace VeT
end VeT
open Go Go.Proofs Ve
namespace VeT
theorem Down.idx{c p st ms f k}(h:Down c p st ms f k):qiF (fun v=>!pb (v∈c.getD f [])) (c.getD k [])=(fv c f k:Nat):=by
 obtain⟨h1,_,h3,h4,_⟩:=h.facts
 have:(c.getD k []).findIdx? (fun v=>!pb (v∈c.getD f []))=some (fv c f k):=by
  rw[List.findIdx?_eq_some_iff_getElem]
  exact⟨h1,by rw[qaq (h4 h1)];rfl,fun j hj=>by rw[qay (h3 j hj (by omega))];simp⟩
 unfold qiF
 rw[this];rfl
theorem qqB{c p st ms}(h:VS c p st ms)(f:Nat)(hf:f<c.length):∃ hl:f<st.length,∃ n:Nat,st[f]=(n:Int)∧n≤3∧(st.getD f 0).toNat=n∧st.getD f 0=(n:Int):=by
 have hl:f<st.length:=by rw[h.2.2.1.1];exact hf
 have hb:=h.2.2.1.2.1 _ (List.getElem_mem hl)
 obtain⟨n,hn⟩:=Int.eq_ofNat_of_zero_le hb.1
 exact⟨hl,n,hn,by omega,by rw[qaf hl];omega,by rw[qaf hl,hn]⟩
theorem qoO(c:List Sim)(p:Int)(st:Sim)(ms:List Mat)(hc:Sm (.sl (.sl (.int .i64))) c)(h:VS c p st ms)(f:Nat)(hf:f<c.length):∀(d k:Nat),k<c.length→(c.getD k []).length≤d→qeL (c.getD f []) (c.getD k []) →
  (VM (qdQ c p st ms f d k)∧(qdQ c p st ms f d k).2.1=st.getD k 0) ∧
  Ret E n_Z66 [dLL c,dI p,dL st,dMs ms,dI (f:Int),dI (k:Int)] ⟨o_Z66,qdQ c p st ms f d k⟩:=by
 intro d
 obtain⟨hfl,n,hn,hn3,hnt,hng⟩:=qqB h f hf
 induction d with
 | zero =>
  intro k hk hd
  have:=(h.1.2.1 k hk).1
  omega
 | succ d ih =>
  intro k hk hd hpt
  have h4f:=h.1.len4 hf
  rw[qdQ]
  by_cases hfk:f=k
  ·subst hfk
   rw[if_pos rfl,hnt]
   refine⟨⟨qew h.2.1 (by omega),by rw[hng];rfl⟩,qak ?_⟩
   ·simp only[run_Z66,Z66.ev]
    refine qaB (by simp) (qae (qao hfl) ?_)
    rw[hn]
    exact qaa (qqA p n (by omega)) qan
  ·rw[if_neg hfk]
   have D:Down c p st ms f k:=⟨h,hf,hk,hfk,hpt⟩
   obtain⟨f1,f2,f3,f4,f5,f6,f7⟩:=D.facts
   obtain⟨⟨v1,v2⟩,r1⟩:=ih (fc c k (fv c f k)) f7 (by omega) f5
   obtain⟨ix,_,hFg⟩:=qa4 h.1 hk f2
   obtain⟨_,hB⟩:=h.map hk f2
   have hsh:(mp c ms k (fv c f k)).2.2.1=(qdQ c p st ms f d (fc c k (fv c f k))).2.1:=by rw[hB.2.2.2,v2]
   have gf:c.getD f []=c[f]:=qaf hf
   have gk:c.getD k []=c[k]:=qaf hk
   have hlf:(c[f]).length≤1048576:=(qa7 (t:=.sl (.int .i64)) (s:=c) hc hf).1
   have hlk:(c[k]).length≤1048576:=(qa7 (t:=.sl (.int .i64)) (s:=c) hc hk).1
   refine⟨⟨qcN hB.1 v1,hB.2.2.1⟩,qak ?_⟩
   ·simp only[run_Z66,Z66.ev]
    refine qaD (by simp;omega) (qae (qao hf) (qae (qao hk) ?_))
    have hI:=qbr c[k] ((c[f],()),()) (fun v=>!pb (v∈c[f])) hlk fun v _=>qfW v c[f] hlf
    have hD:=D.idx
    rw[gf,gk] at hD
    rw[hD] at hI
    exact qaa hI (qaa (qb7 c k hk hc h.1.srt) (qae ix (qaa (qci c p st ms k (fv c f k) hk f2 h) (qaa r1 (qaa (qil _ _ hB.1 v1 hsh) qan)))))
end VeT
open Go Go.Proofs Ve
namespace VeT
end VeT
open Go Go.Proofs Ve
namespace VeT
end VeT
open Go Go.Proofs Ve
namespace VeT
noncomputable def qcK(x:Shf)(f k:Nat):Mat:=qdQ x.1 x.2.1 x.2.2.1 x.2.2.2.1 f (x.1.getD k []).length k
end VeT
open Go Go.Proofs Ve
namespace VeT
def qr3(c:List Sim)(w:Sim):Prop:=qh2 w∧∀ y∈w,0≤y∧y≤(c.length:Int)-1
theorem qr3.get{c:List Sim}{w:Sim}(h:qr3 c w){i:Nat}(hi:i<w.length):∃ n:Nat,w[i]=(n:Int)∧n<c.length:=by
 have:=h.2 _ (List.getElem_mem hi)
 exact⟨(w[i]).toNat,by omega,by omega⟩
end VeT
open Go Go.Proofs Ve
namespace VeT
theorem qfQ{P:Nat→Prop}:∀ {d a k:Nat},qa2 P a d=some k→∀ i,a≤i→i<k→¬ P i
 | 0,a,k,h=>by simp[qa2] at h
 | d+1,a,k,h=>fun i h1 h2=>by
  rw[qa2] at h
  split at h
  ·obtain rfl:=Option.some.inj h;omega
  ·rename_i hp
   by_cases e:i=a
   ·subst e;exact hp
   ·exact qfQ h i (by omega) h2
theorem qg1{s:Sim}(h:s.Pairwise (·<·)):qh2 s:=fun j h1 h2=>by
 rw[qaf (show j-1<s.length by omega),qaf h2]
 exact List.pairwise_iff_getElem.1 h (j-1) j (by omega) h2 (by omega)
end VeT
open Go Go.Proofs Ve
set_option linter.unusedVariables false
set_option linter.unusedSimpArgs false
namespace VeT

/-! the vertices -/
def vxN (c : List Sim) : Nat → List Int
  | 0 => []
  | k + 1 => if (c.getD k []).length = 1 then vxN c k ++ [(c.getD k []).getD 0 0] else vxN c k

abbrev vxs (c : List Sim) : List Int := vxN c c.length

theorem qkc {c : List Sim} : ∀ {k : Nat} {v : Int}, v ∈ vxN c k ↔ ∃ j, j < k ∧ c.getD j [] = [v]
  | 0, v => by simp [vxN]
  | k + 1, v => by
    have key : (c.getD k []).length = 1 → ((c.getD k []).getD 0 0 = v ↔ c.getD k [] = [v]) := fun h => by
      obtain ⟨u, hu⟩ := List.length_eq_one_iff.1 h
      rw [hu]; simp
    unfold vxN
    split
    · rename_i h1
      rw [List.mem_append, qkc, List.mem_singleton]
      constructor
      · rintro (⟨j, h, e⟩ | h)
        · exact ⟨j, by omega, e⟩
        · exact ⟨k, by omega, (key h1).1 h.symm⟩
      · rintro ⟨j, h, e⟩
        by_cases hj : j = k
        · subst hj; exact .inr ((key h1).2 e).symm
        · exact .inl ⟨j, by omega, e⟩
    · rename_i h1
      rw [qkc]
      constructor
      · rintro ⟨j, h, e⟩; exact ⟨j, by omega, e⟩
      · rintro ⟨j, h, e⟩
        by_cases hj : j = k
        · subst hj; rw [e] at h1; simp at h1
        · exact ⟨j, by omega, e⟩

theorem qon {c : List Sim} {v : Int} : v ∈ vxs c ↔ [v] ∈ c := by
  rw [qkc, List.mem_iff_getElem]
  constructor
  · rintro ⟨j, h, e⟩; exact ⟨j, h, by rw [← e, qaf h]⟩
  · rintro ⟨j, h, e⟩; exact ⟨j, h, by rw [← e, qaf h]⟩

theorem qni {c : List Sim} (h : Srt c) : ∀ {k : Nat}, k ≤ c.length → (vxN c k).Pairwise (· < ·)
  | 0, _ => by simp [vxN]
  | k + 1, hk => by
    have ih := qni h (k := k) (by omega)
    unfold vxN
    split
    · rename_i h1
      refine List.pairwise_append.2 ⟨ih, by simp, fun a ha b hb => ?_⟩
      obtain ⟨j, hj, e⟩ := qkc.1 ha
      have hb : b = (c.getD k []).getD 0 0 := by simpa using hb
      obtain ⟨u, hu⟩ := List.length_eq_one_iff.1 h1
      rw [hu] at hb
      have hb : b = u := by simpa using hb
      subst hb
      have := h j k (by omega) hj
      rw [qaf (by omega)] at e hu
      rw [e, hu] at this
      have h3 : qcO [a] [b] = if a < b then -1 else if b < a then 1 else 0 := by
        simp [qcO, qiH, qdU]
      rw [h3] at this
      split at this
      · assumption
      · split at this <;> omega
    · exact ih

end VeT

open Go Go.Proofs Ve
namespace VeT
def qgW:List Int→Int→List Int
 | [],n=>[n]
 | x::r,n=>if x<n then x::qgW r n else if n<x then n::x::r else x::r
theorem qhc:∀ {l:List Int} {n y:Int},y∈qgW l n↔y=n∨y∈l
 | [],n,y=>by simp[qgW]
 | x::r,n,y=>by
  unfold qgW
  split
  ·rw[List.mem_cons,qhc,List.mem_cons]
   constructor
   ·rintro(h | h | h)
    ·exact .inr (.inl h)
    ·exact .inl h
    ·exact .inr (.inr h)
   ·rintro(h | h | h)
    ·exact .inr (.inl h)
    ·exact .inl h
    ·exact .inr (.inr h)
  ·split
   ·rw[List.mem_cons]
   ·have:x=n:=by omega
    subst this
    rw[List.mem_cons]
    exact⟨fun h=>.inr h,fun h=>h.elim (fun h=>.inl h) id⟩
theorem qlw:∀ {l:List Int} {n:Int},l.Pairwise (·<·)→(qgW l n).Pairwise (·<·)
 | [],n,_=>by simp[qgW]
 | x::r,n,h=>by
  rw[List.pairwise_cons] at h
  unfold qgW
  split
  ·rw[List.pairwise_cons]
   refine⟨fun y hy=>?_,qlw h.2⟩
   rcases qhc.1 hy with rfl | hy
   ·assumption
   ·exact h.1 y hy
  ·split
   ·rw[List.pairwise_cons]
    refine⟨fun y hy=>?_,List.pairwise_cons.2 h⟩
    rcases List.mem_cons.1 hy with rfl | hy
    ·assumption
    ·have:=h.1 y hy;omega
   ·exact List.pairwise_cons.2 h
theorem qhC:∀ {l:List Int} {n:Int},(qgW l n).length≤l.length+1
 | [],n=>by simp[qgW]
 | x::r,n=>by
  unfold qgW
  split
  ·have:=qhC (l:=r) (n:=n);simp;exact this
  ·split<;>simp
theorem qns{c:List Sim}(h:VC c):∀(n:Nat) {s:Sim},s∈c→s.length=n+1→∀ x∈s,[x]∈c
 | 0,s,hs,hl,x,hx=>by
  obtain⟨u,rfl⟩:=List.length_eq_one_iff.1 hl
  have:x=u:=by simpa using hx
  subst this;exact hs
 | n+1,s,hs,hl,x,hx=>by
  obtain⟨j,hj,rfl⟩:=List.mem_iff_getElem.1 hx
  obtain⟨k,hk,hks⟩:=List.mem_iff_getElem.1 hs
  obtain⟨i,hi,hij⟩:∃ i,i<s.length∧i≠j:=by
   by_cases h0:j=0
   ·exact⟨1,by omega,by omega⟩
   ·exact⟨0,by omega,by omega⟩
  have hf:s.eraseIdx i∈c:=h.2.2.2 k hk _ (by rw[qaf hk,hks];exact qbL.2 ⟨by omega,i,hi,rfl⟩)
  refine qns h n hf (by rw[List.length_eraseIdx,if_pos hi];omega) _ ?_
  rw[List.mem_eraseIdx_iff_getElem]
  exact⟨j,hj,fun e=>hij e.symm,rfl⟩
theorem VC.vert{c:List Sim}(h:VC c){s:Sim}(hs:s∈c){x:Int}(hx:x∈s):x∈vxs c:=by
 have hl:0<s.length:=List.length_pos_of_mem hx
 exact qon.2 (qns h (s.length-1) hs (by omega) x hx)
theorem VC.get{c:List Sim}(h:VC c){s:Sim}(hs:s∈c):Vx s:=by
 obtain⟨k,hk,rfl⟩:=List.mem_iff_getElem.1 hs
 have:=h.2.1 k hk
 rwa [qaf hk] at this
noncomputable def qrZ(vs im:List Int)(v:Int):Int:=match vs.findIdx? (fun x=>pb (x=v)) with
 | some i=>im.getD i (-1)
 | none=>-1
theorem qrh{vs im:List Int}{v:Int}(hv:v∈vs)(hl:im.length=vs.length):∃ i,∃ h:i<vs.length,∃ h':i<im.length,vs[i]=v∧(∀ j (hj:j<i),vs[j]≠v)∧qrZ vs im v=im[i]∧qiF (fun x=>pb (x=v)) vs=(i:Int):=by
 unfold qrZ qiF
 cases h:vs.findIdx? (fun x=>pb (x=v)) with
 | none =>
  rw[List.findIdx?_eq_none_iff] at h
  have:=h v hv
  rw[qay rfl] at this;cases this
 | some i =>
  rw[List.findIdx?_eq_some_iff_getElem] at h
  obtain⟨h1,h2,h3⟩:=h
  refine⟨i,h1,by omega,qaH.1 h2,fun j hj e=>h3 j hj (qay e),?_,rfl⟩
  exact qaf (by omega)
noncomputable def img(vs im s:List Int):List Int:=(s.map (qrZ vs im)).foldl qgW []
theorem qoj(l:Sim)(n:Int)(hl:l.length≤1048576):Ret E n_Z128 [dL l,dI n] ⟨o_Z128,(qgW l n,())⟩:=by
  refine qak ?_
  simp only[run_Z128,Z128.ev]
  refine Ev.start (p:=fun φ N=>Z128.l0 (mkR (run E (φ 0))) (φ 0) N l n false 0 []=_) 1 ?_ (fun _ _ _ h=>h)
  refine(qfL 1 (σ:=Bool×Nat×List Int) (L:=fun φ N st=>Z128.l0 (mkR (run E (φ 0))) (φ 0) N l n st.1 (st.2.1:Int) st.2.2) (fun _ _ _ _=>rfl) (fun st=>st.2.1≤l.length∧st.2.2.length≤st.2.1+(bif st.1 then 1 else 0))
    (fun st=>some ⟨o_Z128,(st.2.2++(bif st.1 then l.drop st.2.1 else qgW (l.drop st.2.1) n),())⟩) (fun st=>l.length-st.2.1) (fun st hi ih=>?_) (false,0,[]) ⟨Nat.zero_le _,Nat.zero_le _⟩).to (by simp only[List.nil_append,cond_false,List.drop_zero])
  obtain⟨d,i,o⟩:=st
  obtain⟨h1,h2⟩:=hi
  simp only at h1 h2 ih ⊢
  by_cases hlt:i<l.length
  · have ol:o.length≤i+1:=by cases d<;>simp at h2<;>omega
    have hd:l.drop i=l[i]::l.drop (i+1):=List.drop_eq_getElem_cons hlt
    -- what follows
    have step:∀(d':Bool) (o' X:List Int),o'.length≤i+(bif d' then 1 else 0)→(o'++[l[i]])++(bif d' then l.drop (i+1) else qgW (l.drop (i+1)) n)=X →
        Ev fun φ=>Z128.j2 (mkR (run E (φ 0))) (φ 0) (φ 1) l n d' (i:Int) o'=some ⟨o_Z128,(X,())⟩:=fun d' o' X hol hX=>by
      have ho2:o'.length≤i+1:=by cases d'<;>simp at hol<;>omega
      have:=ih (d',i+1,o'++[l[i]]) ⟨by show i+1≤_;omega,by
        simp only[List.length_append,List.length_singleton]
        cases d'<;>simp at hol ⊢<;>omega⟩ (by simp only;omega)
      simp only at this
      rw[hX] at this
      simp only[Z128.j2_eq _ qag]
      rw[qah (by omega)]
      exact qae (qao hlt) (qax (by simp;omega) this)
    simp only[Z128.l0_succ _ qag]
    refine qaB (decide_eq_true (by omega)) ?_
    cases d with
    | true =>
      refine qaD rfl ?_
      have e:o++List.drop i l=(o++[l[i]])++l.drop (i+1):=by rw[hd];simp
      simp only[cond_true] at h2 ⊢
      rw[e]
      simp only[Z128.j1_eq _ qag]
      refine qaD rfl ?_
      exact step true o _ h2 (by simp only[cond_true])
    | false =>
      refine qaB rfl (qae (qao hlt) ?_)
      simp only[cond_false,Nat.add_zero] at h2 ⊢
      simp only[Z128.j1_eq _ qag]
      refine qeE (fun hge=>?_) fun hge=>?_
      · have hge:l[i]≥n:=hge
        refine qae (qao hlt) (qeE (fun hgt=>?_) fun hgt=>?_)
        · have e:o++qgW (List.drop i l) n=((o++[n])++[l[i]])++l.drop (i+1):=by
            rw[hd,qgW,if_neg (by omega),if_pos (show n<l[i] from hgt)];simp
          rw[e]
          exact qax (by simp;omega) (step true (o++[n]) _ (by simp;omega) (by simp only[cond_true]))
        · have hgt:¬ l[i]>n:=hgt
          have e:o++qgW (List.drop i l) n=(o++[l[i]])++l.drop (i+1):=by
            rw[hd,qgW,if_neg (by omega),if_neg (by omega)];simp
          rw[e]
          exact step true o _ (by simp;omega) (by simp only[cond_true])
      · have hge:¬ l[i]≥n:=hge
        have e:o++qgW (List.drop i l) n=(o++[l[i]])++qgW (l.drop (i+1)) n:=by
          rw[hd,qgW,if_pos (by omega)];simp
        rw[e]
        exact step false o _ (by simp;omega) (by simp only[cond_false])
  · have hi:i=l.length:=by omega
    subst hi
    simp only[Z128.l0_succ _ qag,List.drop_length]
    refine qaD (decide_eq_false (by omega)) ?_
    cases d with
    | true=>exact qaD rfl (qal (by simp only[cond_true,List.append_nil]))
    | false =>
      simp only[cond_false,Nat.add_zero] at h2 ⊢
      exact qaB rfl (qax (by simp;omega) qan)
end VeT
open Go Go.Proofs Ve
namespace VeT
def qpS:Sim→List Sim
 | []=>[[]]
 | a::s=>qpS s++(qpS s).map (a::·)
theorem qip:∀ {s:Sim},(qpS s).length=2 ^ s.length
 | []=>rfl
 | a::s=>by rw[qpS,List.length_append,List.length_map,qip,List.length_cons,Nat.pow_succ];omega
theorem qhd:∀ {x s:Sim},x.Sublist s→x∈qpS s
 | _,_,.slnil=>by simp[qpS]
 | _,_,.cons a h=>by rw[qpS];exact List.mem_append.2 (.inl (qhd h))
 | _,_,.cons_cons a h=>by rw[qpS];exact List.mem_append.2 (.inr (List.mem_map.2 ⟨_,qhd h,rfl⟩))
theorem qhj{α:Type}[DecidableEq α]:∀ {c d:List α},c.Nodup→(∀ x∈c,x∈d)→c.length≤d.length
 | [],d,_,_=>Nat.zero_le _
 | x::c,d,h,hs=>by
  obtain⟨h1,h2⟩:=List.nodup_cons.1 h
  have hx:=hs x List.mem_cons_self
  have:=qhj h2 (d:=d.erase x) fun y hy=>(List.mem_erase_of_ne (fun e=>h1 (by rw[← e];exact hy))).2 (hs y (List.mem_cons_of_mem _ hy))
  rw[List.length_erase_of_mem hx] at this
  have:=List.length_pos_of_mem hx
  rw[List.length_cons];omega
theorem Srt.nodup{c:List Sim}(h:Srt c):c.Nodup:=by
 rw[List.nodup_iff_pairwise_ne,List.pairwise_iff_getElem]
 intro i j hi hj hij e
 have:=h i j hj hij
 rw[e,qcc.2 rfl] at this
 omega
theorem Vx.fa{x s:Sim}(h:Vx s)(hf:Fa x s):Vx x:=by
 refine⟨List.length_pos_iff.2 hf.1,?_,qg1 (h.2.2.1.pairwise.sublist hf.2),fun y hy=>h.2.2.2 y (hf.2.subset hy)⟩
 have:=hf.2.length_le
 have:=h.2.1
 omega
theorem qmM{l c:List Sim}(hs:Srt c)(hm:∀ x,x∈c↔∃ s∈l,Fa x s):c.length≤(l.map fun s=>2 ^ s.length).sum:=by
 have h:=qhj hs.nodup (d:=l.flatMap qpS) fun x hx=>by
  obtain⟨s,hs,hf⟩:=(hm x).1 hx
  exact List.mem_flatMap.2 ⟨s,hs,qhd hf.2⟩
 rw[List.length_flatMap] at h
 simp only[qip] at h
 exact h
theorem qnE(l:List Sim)(hl:l.length≤1024)(hx:∀ s∈l,Vx s)(hn:∀ c:List Sim,Srt c→(∀ x,x∈c↔∃ s∈l,Fa x s)→c.length≤48) :
  qke n_Z151 [dLL l] o_Z151 fun(r:List Sim×Unit)=>VC r.1∧∀ x,x∈r.1↔∃ s∈l,Fa x s:=by
 obtain⟨c',h1,h2,h3,_⟩:=qiB l hl fun s hs=>⟨(hx s hs).1,(hx s hs).2.1⟩
 have hv:∀ x∈c',Vx x:=fun x hx'=>by
  obtain⟨s,hs,hf⟩:=(h3 x).1 hx'
  exact(hx s hs).fa hf
 have hg:∀ k,k<c'.length→c'.getD k []∈c':=fun k hk=>by
  rw[List.getD_eq_getElem?_getD,List.getElem?_eq_getElem hk];exact List.getElem_mem hk
 refine⟨(c',()),h1,⟨hn c' h2 h3, fun k hk=>hv _ (hg k hk),fun k hk1 (hk:k<c'.length)=>?_,fun k (hk:k<c'.length) f hf=>?_⟩,h3⟩
 ·have:=h2 (k-1) k hk (by omega)
  rw[List.getD_eq_getElem?_getD,List.getD_eq_getElem?_getD,List.getElem?_eq_getElem hk,List.getElem?_eq_getElem (show k-1<c'.length by omega)]
  exact this
 ·obtain⟨s,hs,hfa⟩:=(h3 _).1 (hg k hk)
  obtain⟨h1,i,hi,rfl⟩:=qbL.1 hf
  refine(h3 _).2 ⟨s,hs,qfo ⟨fun e=>?_,List.eraseIdx_sublist _ _⟩ hfa⟩
  have:=congrArg List.length e
  rw[List.length_eraseIdx_of_lt hi] at this
  rw[List.length_nil] at this
  omega
theorem VC.sm{c:List Sim}(h:VC c):Sm (.sl (.sl (.int .i64))) c:=by
 refine⟨by have:=h.1;show c.length≤1048576;omega,fun s hs=>?_⟩
 obtain⟨k,hk,rfl⟩:=List.getElem_of_mem hs
 have:=h.2.1 k hk
 rw[List.getD_eq_getElem?_getD,List.getElem?_eq_getElem hk] at this
 have:=this.2.1
 refine⟨?_,fun _ _=>trivial⟩
 show(c[k]).length≤1048576
 simp at this
 omega
theorem qhZ(n:Nat)(s:Src)(v most:Int)(hn:n≤100000000000)(hs:SO n s)(hm:1≤most∧most≤4)(hv:1≤v∧v≤10) :
  qke n_Z152 [dR s,dI v,dI most] o_Z152 fun(r:Sim×Src×Unit)=>Vx r.1∧(r.1.length:Int)≤most∧(∀ x∈r.1,x<v)∧SO (n+12) r.2.1:=by
 obtain⟨c,a,g,⟨⟩⟩:=s
 refine qbX ?_
 simp only[run_Z152,Z152.ev]
 refine qbB (qbo n _ most (by omega) hs) fun(r:Int×Src×Unit) ⟨r1,r2,r3,r4⟩=>?_
 obtain⟨k0,hk0⟩:∃ k:Nat,(r.1:Int)=(k:Int):=⟨Int.toNat r.1,(Int.toNat_of_nonneg r1).symm⟩
 have e0:w64 (1+r.1)=((k0+1:Nat):Int):=by rw[hk0,qai (by omega) (by omega)];omega
 refine EvQ.start 1 (L:=fun φ N=>Z152.l0 (mkR (run E (φ 0))) (φ 0) N v [] (w64 (1+r.1)) r.2.1.1 r.2.1.2.1 r.2.1.2.2.1) ?_ (fun _ _ _=>rfl)
 rw[e0]
 refine EvQ.loop 1 (σ:=Sim×Nat×Src) (L:=fun φ N st=>Z152.l0 (mkR (run E (φ 0))) (φ 0) N v st.1 (st.2.1:Int) st.2.2.1 st.2.2.2.1 st.2.2.2.2.1) (fun _ _ _ _=>rfl)
  (fun st=>st.1.Pairwise (·<·)∧(∀ x∈st.1,0≤x∧x<v)∧((st.1.length+st.2.1:Nat):Int)≤most∧1≤st.1.length+st.2.1∧SO (n+10-2*st.2.1) st.2.2) (fun st=>st.2.1) (fun st hi ih=>?_) ([],k0+1,r.2.1) ⟨List.Pairwise.nil,fun x hx=>by simp at hx,?_,?_,?_⟩
 ·obtain⟨o,k,s1⟩:=st
  obtain⟨i1,i2,i3,i4,i5⟩:=hi
  simp only at i1 i2 i3 i4 i5 ih ⊢
  simp only[Z152.l0_succ _ qag]
  refine qcH (fun h=>?_) fun h=>?_
  ·refine qbB (qbo _ s1 v (by omega) i5) fun(q:Int×Src×Unit) ⟨q1,q2,q3,q4⟩=>?_
   refine qaA (qoj o q.1 (by omega)) ?_
   rw[show w64 ((k:Int)-1)=((k-1:Nat):Int) by rw[qai (by omega) (by omega)];omega]
   refine ih (qgW o q.1,k-1,q.2.1) ⟨qlw i1,fun x hx=>?_,?_,?_,?_⟩ (by show k-1<k;omega)
   ·rcases qhc.1 hx with rfl | hx
    ·omega
    ·exact i2 x hx
   ·have:=qhC (l:=o) (n:=q.1)
    show((((qgW o q.1).length+(k-1):Nat)):Int)≤most
    omega
   ·have:1≤(qgW o q.1).length:=List.length_pos_of_mem (qhc.2 (.inl rfl))
    show 1≤(qgW o q.1).length+(k-1)
    omega
   ·exact q4.le (by show n+10-2*k+2≤n+10-2*(k-1);omega)
  ·refine qaS ⟨⟨by show 1≤o.length;omega,by show o.length≤4;omega,qg1 i1,fun x hx=>⟨(i2 x hx).1,by have:=(i2 x hx).2;omega⟩⟩,by show(o.length:Int)≤most;omega,fun x hx=>(i2 x hx).2,i5.le (by omega)⟩
 ·show((([]:Sim).length+(k0+1):Nat):Int)≤most
  simp;omega
 ·show 1≤([]:Sim).length+(k0+1)
  simp
 ·exact r4.le (by show n+2≤n+10-2*(k0+1);omega)
def S5(c:List Sim):Prop:=∀ x∈c,x.length≤3∧∀ v∈x,v<5
theorem qk9(n:Nat)(s:Src)(hn:n≤10000000000)(hs:SO n s) :
    qke n_Z165 [dR s] o_Z165 fun(r:List Sim×Src×Unit)=>VC r.1∧S5 r.1∧SO (n+50) r.2.1:=by
  obtain⟨c,a,g,⟨⟩⟩:=s
  have fixed:∀(l:List Sim),l.length≤1024→(∀ s∈l,Vx s)→(l.map fun s=>2 ^ s.length).sum≤48→(∀ s∈l,s.length≤3∧∀ v∈s,v<5) →
      qke n_Z151 [dLL l] o_Z151 fun(r:List Sim×Unit)=>VC r.1∧S5 r.1:=fun l h1 h2 h3 h5=>by
    obtain⟨r,g1,g2,g3⟩:=qnE l h1 h2 fun c hs hm=>Nat.le_trans (qmM hs hm) h3
    refine⟨r,g1,g2,fun x hx=>?_⟩
    obtain⟨s,hs,hf⟩:=(g3 x).1 hx
    have:=hf.2.length_le
    have:=(h5 s hs).1
    exact⟨by omega,fun v hv=>(h5 s hs).2 v (hf.2.subset hv)⟩
  have vx2:∀ a b:Int,0≤a→a<b→b≤9→Vx [a,b]:=fun a b h1 h2 h3=>⟨by simp,by simp,qg1 (by simp;exact h2),fun x hx=>by simp at hx;rcases hx with rfl | rfl<;>omega⟩
  have vx3:∀ a b c:Int,0≤a→a<b→b<c→c≤9→Vx [a,b,c]:=fun a b c h1 h2 h3 h4=>⟨by simp,by simp,qg1 (by simp;omega),fun x hx=>by simp at hx;rcases hx with rfl | rfl | rfl<;>omega⟩
  refine qbX ?_
  simp only[run_Z165,Z165.ev]
  refine qbB (qbo n _ 6 (by omega) hs) fun(r:Int×Src×Unit) ⟨r1,r2,r3,r4⟩=>?_
  refine qhH (fun _=>qbB (fixed _ (by decide) (fun s hs=>?_) (by decide) (by decide)) fun(q:List Sim×Unit) ⟨q1,q2⟩=>qaS ⟨q1,q2,r4.le (by omega)⟩) fun _=>?_
  · simp at hs;rcases hs with rfl | rfl | rfl<;>exact vx2 _ _ (by decide) (by decide) (by decide)
  refine qhH (fun _=>qbB (fixed _ (by decide) (fun s hs=>?_) (by decide) (by decide)) fun(q:List Sim×Unit) ⟨q1,q2⟩=>qaS ⟨q1,q2,r4.le (by omega)⟩) fun _=>?_
  · simp at hs;rcases hs with rfl | rfl<;>exact vx3 _ _ _ (by decide) (by decide) (by decide) (by decide)
  refine qhH (fun _=>qbB (fixed _ (by decide) (fun s hs=>?_) (by decide) (by decide)) fun(q:List Sim×Unit) ⟨q1,q2⟩=>qaS ⟨q1,q2,r4.le (by omega)⟩) fun _=>?_
  · simp at hs;rcases hs with rfl | rfl | rfl | rfl<;>exact vx3 _ _ _ (by decide) (by decide) (by decide) (by decide)
  refine qhH (fun _=>qbB (fixed _ (by decide) (fun s hs=>?_) (by decide) (by decide)) fun(q:List Sim×Unit) ⟨q1,q2⟩=>qaS ⟨q1,q2,r4.le (by omega)⟩) fun _=>?_
  · simp at hs;rcases hs with rfl | rfl | rfl | rfl | rfl<;>exact vx2 _ _ (by decide) (by decide) (by decide)
  refine qbB (qbo (n+2) _ 4 (by omega) r4) fun(q:Int×Src×Unit) ⟨q1,q2,q3,q4⟩=>?_
  obtain⟨k0,hk0⟩:∃ k:Nat,(q.1:Int)=(k:Int):=⟨Int.toNat q.1,(Int.toNat_of_nonneg q1).symm⟩
  refine EvQ.start 1 (L:=fun φ N=>Z165.l0 (mkR (run E (φ 0))) (φ 0) N q.1 [] q.2.1.1 q.2.1.2.1 q.2.1.2.2.1) ?_ (fun _ _ _=>rfl)
  rw[hk0]
  refine EvQ.loop 1 (σ:=Nat×List Sim×Src) (L:=fun φ N st=>Z165.l0 (mkR (run E (φ 0))) (φ 0) N (st.1:Int) st.2.1 st.2.2.1 st.2.2.2.1 st.2.2.2.2.1) (fun _ _ _ _=>rfl)
    (fun st=>(∀ x∈st.2.1,Vx x∧x.length≤3∧∀ v∈x,v<5)∧st.2.1.length+st.1≤3∧SO (n+40-12*st.1) st.2.2) (fun st=>st.1) (fun st hi ih=>?_) (k0,[],q.2.1) ⟨fun x hx=>by simp at hx,by simp;omega,q4.le (by show n+2+2≤n+40-12*k0;omega)⟩
  obtain⟨k,o,s1⟩:=st
  obtain⟨i1,i2,i3⟩:=hi
  simp only at i1 i2 i3 ih ⊢
  simp only[Z165.l0_succ _ qag]
  refine qcH (fun h=>?_) fun h=>?_
  · refine qbB (qhZ _ s1 5 3 (by omega) i3 (by decide) (by decide)) fun(t:Sim×Src×Unit) ⟨t1,t2,t3,t4⟩=>?_
    refine qa9 (decide_eq_true (by simp;omega)) ?_
    rw[show w64 ((k:Int)-1)=((k-1:Nat):Int) by rw[qai (by omega) (by omega)];omega]
    refine ih (k-1,o++[t.1],t.2.1) ⟨fun x hx=>?_,?_,?_⟩ (by show k-1<k;omega)
    · rcases List.mem_append.1 hx with hx | hx
      · exact i1 x hx
      · rw[List.mem_singleton] at hx;subst hx;exact⟨t1,by omega,t3⟩
    · show(o++[t.1]).length+(k-1)≤3
      simp;omega
    · exact t4.le (by show n+40-12*k+12≤n+40-12*(k-1);omega)
  · refine qbB (fixed o (by omega) (fun s hs=>(i1 s hs).1) ?_ fun s hs=>(i1 s hs).2) fun(q:List Sim×Unit) ⟨q1,q2⟩=>qaS ⟨q1,q2,i3.le (by omega)⟩
    have:∀(l:List Sim),(∀ x∈l,x.length≤3)→(l.map fun s=>2 ^ s.length).sum≤8*l.length:=by
      intro l
      induction l with
      | nil=>intro _;simp
      | cons x l ih =>
        intro h
        have h1:=h x List.mem_cons_self
        have h2:=ih fun y hy=>h y (List.mem_cons_of_mem _ hy)
        have h3:2 ^ x.length≤2 ^ 3:=Nat.pow_le_pow_right (by decide) h1
        simp only[List.map_cons,List.sum_cons,List.length_cons]
        omega
    have:=this o fun x hx=>(i1 x hx).2.1
    omega
end VeT
open Go Go.Proofs Ve
namespace VeT
def wtN(n:Nat):Nat:=if n≤1 then 1 else if n=2 then 3 else if n=3 then 10 else 41
def wtL(l:List Sim):Nat:=(l.map fun s=>wtN s.length).sum
theorem qqT(n:Nat):1≤wtN n∧wtN n≤41:=by
 unfold wtN
 split
 ·omega
 ·split
  ·omega
  ·split<;>omega
theorem qj0(s:Sim)(l:List Sim):wtL (s::l)=wtN s.length+wtL l:=by unfold wtL;rw[List.map_cons,List.sum_cons]
theorem qpO(a b:List Sim):wtL (a++b)=wtL a+wtL b:=by unfold wtL;rw[List.map_append,List.sum_append]
theorem qpI(l:List Sim):l.length≤wtL l∧wtL l≤41*l.length:=by
 induction l with
 | nil=>exact⟨Nat.le_refl _,Nat.le_refl _⟩
 | cons s l ih =>
  have:=qqT s.length
  rw[qj0,List.length_cons]
  omega
theorem qrA{l:List Sim}{m:Nat}(h:∀ s∈l,wtN s.length=m):wtL l=l.length*m:=by
 induction l with
 | nil=>rw[List.length_nil,Nat.zero_mul];rfl
 | cons s l ih =>
  rw[qj0,h s List.mem_cons_self,ih fun x hx=>h x (List.mem_cons_of_mem _ hx),List.length_cons,Nat.succ_mul]
  omega
theorem qoL{s:Sim}(h:s.length≤4):wtL (qbi s)+1≤wtN s.length:=by
 by_cases h1:1<s.length
 ·have hl:=qcZ (s:=s)
  have e:=qrA (l:=qbi s) (m:=wtN (s.length-1)) fun f hf=>by
   have:=qii hf
   rw[show f.length=s.length-1 by omega]
  rw[e]
  have h3:s.length=2∨s.length=3∨s.length=4:=by omega
  rcases h3 with h3 | h3 | h3
  ·rw[h3];show(qbi s).length*1+1≤3;omega
  ·rw[h3];show(qbi s).length*3+1≤10;omega
  ·rw[h3];show(qbi s).length*10+1≤41;omega
 ·have e:qbi s=[]:=by unfold qbi;rw[if_neg h1]
  rw[e]
  exact(qqT _).1
def qiS(l c:List Sim):Prop:=Srt c∧∀ x,x∈c↔∃ s∈l,Fa x s
theorem qmq{s f:Sim}(h:f∈qbi s):Fa f s∧1≤f.length∧f.length+1=s.length:=by
 have hl:=qii h
 obtain⟨h1,i,hi,rfl⟩:=qbL.1 h
 exact⟨⟨fun e=>by rw[e] at hl;simp at hl;omega,List.eraseIdx_sublist _ _⟩,by omega,hl⟩
theorem qsi{o:List Sim}(h:∀ x∈o,∀ f∈qbi x,f∈o):∀(n:Nat) (s x:Sim),s.length=n→s∈o→Fa x s→x∈o
 | 0,s,x,hn,hs,hx=>absurd (List.length_eq_zero_iff.1 hn ▸ hx.2) fun h2=>hx.1 (List.sublist_nil.1 h2)
 | n+1,s,x,hn,hs,hx=>by
  rcases qny.1 hx with ⟨rfl,_⟩ | ⟨i,hi,hf⟩
  ·exact hs
  ·have hl:(s.eraseIdx i).length=n:=by rw[List.length_eraseIdx_of_lt hi,hn];rfl
   have h1:1<s.length:=Classical.byContradiction fun h1=>hf.1 (List.sublist_nil.1 (List.length_eq_zero_iff.1 (show(s.eraseIdx i).length=0 by omega) ▸ hf.2))
   exact qsi h n (s.eraseIdx i) x hl (h s hs _ (qbL.2 ⟨h1,i,hi,rfl⟩)) hf
-- qcf
theorem qlU(l:List Sim)(hl:l.length≤1024):∀(w k:Nat) (o:List Sim),wtL (o.drop k)≤w→k≤o.length→k+wtL (o.drop k)≤41*l.length→(∀ s∈o,1≤s.length∧s.length≤4)→(∀ x∈o.take k,∀ f∈qbi x,f∈o)→(∀ x∈o,∃ s∈l,Fa x s)→(∀ s∈l,s∈o) →
    ∃ c,(Ev fun φ=>Z37.l0 (mkR (run E (φ 0))) (φ 0) (φ 1) (k:Int) o=some ⟨o_Z37,(c,())⟩)∧qiS l c:=by
  intro w
  have fin:∀(k:Nat) (o:List Sim),k=o.length→o.length≤41*l.length→(∀ s∈o,1≤s.length∧s.length≤4)→(∀ x∈o.take k,∀ f∈qbi x,f∈o)→(∀ x∈o,∃ s∈l,Fa x s)→(∀ s∈l,s∈o) →
      ∃ c,(Ev fun φ=>Z37.l0 (mkR (run E (φ 0))) (φ 0) (φ 1) (k:Int) o=some ⟨o_Z37,(c,())⟩)∧qiS l c:=by
    intro k o hk hol h4 hf h2 h3
    subst hk
    rw[List.take_length] at hf
    obtain⟨g1,g2,_⟩:=qkW o
    refine⟨qrq o,?_,g1,fun x=>?_⟩
    · refine Ev.round 1 (L:=fun φ n=>Z37.l0 (mkR (run E (φ 0))) (φ 0) n (o.length:Int) o) ?_ (fun _ _ _=>rfl)
      simp only[Z37.l0_succ _ qag]
      exact qaD (decide_eq_false (by omega)) (qaa (qgz o ⟨by show o.length≤1048576;omega,fun x hx=>⟨by have:=(h4 x hx).2;show x.length≤1048576;omega,fun _ _=>trivial⟩⟩) qan)
    · rw[g2]
      exact⟨h2 x,fun⟨s,hs,hx⟩=>qsi hf s.length s x rfl (h3 s hs) hx⟩
  induction w with
  | zero =>
    intro k o hw hk hT h4 hf h2 h3
    have:=(qpI (o.drop k)).1
    rw[List.length_drop] at this
    exact fin k o (by omega) (by omega) h4 hf h2 h3
  | succ w ih =>
    intro k o hw hk hT h4 hf h2 h3
    have hge:=(qpI (o.drop k)).1
    rw[List.length_drop] at hge
    by_cases hkl:k<o.length
    · have hs4:=h4 _ (List.getElem_mem hkl)
      have hwf:=qoL hs4.2
      have hfl:=qcZ (s:=o[k])
      rw[List.drop_eq_getElem_cons hkl,qj0] at hw hT hge
      have hd:(o++qbi o[k]).drop (k+1)=o.drop (k+1)++qbi o[k]:=List.drop_append_of_le_length (by omega)
      have ht:(o++qbi o[k]).take (k+1)=o.take k++[o[k]]:=by rw[List.take_append_of_le_length (by omega),List.take_succ_eq_append_getElem hkl]
      obtain⟨c,hc1,hc2⟩:=ih (k+1) (o++qbi o[k]) (by rw[hd,qpO];omega) (by rw[List.length_append];omega) (by rw[hd,qpO];omega)
        (fun s hs=>by
          rcases List.mem_append.1 hs with hs | hs
          · exact h4 s hs
          · have:=qmq hs;omega)
        (fun x hx f hfx=>by
          rw[ht] at hx
          rcases List.mem_append.1 hx with hx | hx
          · exact List.mem_append.2 (.inl (hf x hx f hfx))
          · rw[List.mem_singleton] at hx
            subst hx
            exact List.mem_append.2 (.inr hfx))
        (fun x hx=>by
          rcases List.mem_append.1 hx with hx | hx
          · exact h2 x hx
          · obtain⟨s,hs,h⟩:=h2 _ (List.getElem_mem hkl)
            exact⟨s,hs,qfo (qmq hx).1 h⟩)
        (fun s hs=>List.mem_append.2 (.inl (h3 s hs)))
      refine⟨c,?_,hc2⟩
      refine Ev.round 1 (L:=fun φ n=>Z37.l0 (mkR (run E (φ 0))) (φ 0) n (k:Int) o) ?_ (fun _ _ _=>rfl)
      simp only[Z37.l0_succ _ qag]
      refine qaB (decide_eq_true (by omega)) (qax (by rw[decide_eq_true (show(0:Int)≤(k:Int) by omega),decide_eq_true (show(k:Int)<(o.length:Int) by omega)];rfl) (qae (show o[Int.toNat (k:Int)]? = some o[k] by rw[Int.toNat_natCast];exact List.getElem?_eq_getElem hkl) (qaa (qdE o[k] (by omega)) (qax (decide_eq_true (by simp only[];omega)) ?_))))
      rw[qah (by omega)]
      exact hc1
    · exact fin k o (by omega) (by omega) h4 hf h2 h3
-- qcf
theorem qhW(l:List Sim)(hl:l.length≤1024)(hx:∀ s∈l,1≤s.length∧s.length≤4):∃ c,Ret E n_Z37 [dLL l] ⟨o_Z37,(c,())⟩∧qiS l c:=by
 have hw:=qpI l
 obtain⟨c,h1,h2⟩:=qlU l hl (wtL l) 0 l (by rw[List.drop_zero];exact Nat.le_refl _) (by omega) (by rw[List.drop_zero];omega) hx (fun x hx=>by rw[List.take_zero] at hx;cases hx) (fun x hx'=>⟨x,hx',fun e=>by have:=(hx x hx').1;rw[e] at this;simp at this,List.Sublist.refl _⟩) (fun _ h=>h)
 refine⟨c,?_,h2⟩
 refine qak ?_
 simp only[run_Z37,Z37.ev]
 exact qaa (qeQ l (by omega) fun x h=>by have:=(hx x h).2;omega) (Ev.start (p:=fun φ n=>Z37.l0 (mkR (run E (φ 0))) (φ 0) n 0 l=_) 1 h1 (fun _ _ _ h=>h))
theorem qro{l c d:List Sim}(h1:qiS l c)(h2:qiS l d):c=d:=qo0 h1.1 h2.1 fun x=>(h1.2 x).trans (h2.2 x).symm
open Classical in
noncomputable def qsI(l:List Sim):List Sim:=if h:∃ c,qiS l c then h.choose else []
theorem qmi{l c:List Sim}(h:qiS l c):qsI l=c:=by
 unfold qsI
 rw[dif_pos ⟨c,h⟩]
 exact qro (Exists.choose_spec (⟨c,h⟩:∃ c,qiS l c)) h
open Classical in
noncomputable def qnj(l:List Sim):List Sim×Int:=if ¬ ∀ s∈l,Vx s then([],1) else if 48<l.length then([],5) else if 48<(qsI l).length then([],5) else(qsI l,0)
theorem qr8{l c:List Sim}(hx:∀ s∈l,Vx s)(h:qiS l c)(h48:c.length≤48):VC c:=by
 obtain⟨h2,h3⟩:=h
 have hv:∀ x∈c,Vx x:=fun x hx'=>by
  obtain⟨s,hs,hf⟩:=(h3 x).1 hx'
  exact(hx s hs).fa hf
 have hg:∀ k,k<c.length→c.getD k []∈c:=fun k hk=>by
  rw[List.getD_eq_getElem?_getD,List.getElem?_eq_getElem hk];exact List.getElem_mem hk
 refine⟨h48,fun k hk=>hv _ (hg k hk),fun k hk1 (hk:k<c.length)=>?_,fun k (hk:k<c.length) f hf=>?_⟩
 ·have:=h2 (k-1) k hk (by omega)
  rw[List.getD_eq_getElem?_getD,List.getD_eq_getElem?_getD,List.getElem?_eq_getElem hk,List.getElem?_eq_getElem (show k-1<c.length by omega)]
  exact this
 ·obtain⟨s,hs,hfa⟩:=(h3 _).1 (hg k hk)
  exact(h3 _).2 ⟨s,hs,qfo (qmq hf).1 hfa⟩
theorem qhw(s:Sim)(hs:Sm (.sl (.int .i64)) s):Ret E n_Z6 [dL s] ⟨o_Z6,(pb (¬ Vx s),())⟩:=by
 refine qak ?_
 simp only[run_Z6,Z6.ev]
 refine qaa (qcq s hs) (qal ?_)
 by_cases h:Vx s
 ·rw[qay h,qaq (fun h2=>h2 h)];rfl
 ·rw[qaq h,qay h];rfl
-- qcf
theorem qge(l:List Sim)(hl:Sm (.sl (.sl (.int .i64))) l):Ret E n_Z5 [dLL l] ⟨o_Z5,((qnj l).1,(qnj l).2,())⟩:=by
 have hl1:l.length≤1048576:=hl.1
 refine qak ?_
 simp only[run_Z5,Z5.ev]
 refine qaa (qbc l _ hl1 fun x hx=>qhw x (hl.2 x hx)) ?_
 by_cases hv:∀ s∈l,Vx s
 ·have e:¬ ∃ x∈l,pb (¬ Vx x)=true:=fun⟨x,hx,h⟩=>qaH.1 h (hv x hx)
  refine qaD (qaq e) ?_
  unfold qnj
  rw[if_neg (fun h=>h hv)]
  by_cases h48:48<l.length
  ·rw[if_pos h48]
   exact qaB (decide_eq_true (by omega)) qan
  ·rw[if_neg h48]
   obtain⟨c,hc,hok⟩:=qhW l (by omega) fun s hs=>⟨(hv s hs).1,(hv s hs).2.1⟩
   rw[qmi hok]
   refine qaD (decide_eq_false (by omega)) (qaa hc ?_)
   by_cases hc48:48<c.length
   ·rw[if_pos hc48]
    exact qaB (decide_eq_true (by show(c.length:Int)>48;omega)) qan
   ·rw[if_neg hc48]
    exact qaD (decide_eq_false (by show ¬ (c.length:Int)>48;omega)) qan
 ·have e:∃ x∈l,pb (¬ Vx x)=true:=Classical.byContradiction fun h=>hv fun s hs=>Classical.byContradiction fun h2=>h ⟨s,hs,qay h2⟩
  refine qaB (qay e) ?_
  unfold qnj
  rw[if_pos hv]
  exact qan
end VeT
open Go Go.Proofs Ve
namespace VeT
theorem VS.fits{c:List Sim}{p:Int}{st:Sim}{ms:List Mat}(h:VS c p st ms){t:Nat}(ht:t<ms.length):(ms[t]).2.2.2.1.length≤9∧qg5 (ms[t]).2.2.2.1:=by
 have hlen:plc c c.length=ms.length:=h.2.2.2.1
 obtain⟨k,i,hk,hi,rfl⟩:=qda (c:=c) (n:=c.length) (t:=t) (by show t<plc c c.length;omega)
 obtain⟨_,hb⟩:=h.map hk hi
 have e:mp c ms k i=ms[plc c k+i]:=by
  show ms.getD (plc c k+i) mz=_
  rw[List.getD_eq_getElem?_getD,List.getElem?_eq_getElem ht];rfl
 rw[e] at hb
 obtain⟨hm,e1,e2,e3⟩:=hb
 have hst:=h.2.2.1.2.1
 have s1:=qmC hst k
 have s2:0≤st.getD (fc c k i) 0∧st.getD (fc c k i) 0≤3:=qmC hst (fc c k i)
 have hl:=hm.2.2.2.1
 rw[e2,e3] at hl
 have hle:st.getD k 0*st.getD (fc c k i) 0≤9:=by
  obtain⟨a,ha⟩:=Int.eq_ofNat_of_zero_le s1.1
  obtain⟨b,hb⟩:=Int.eq_ofNat_of_zero_le s2.1
  rw[ha,hb,qa3]
  have:a*b≤3*3:=Nat.mul_le_mul (by omega) (by omega)
  omega
 refine⟨by omega,by omega,fun x hx=>?_⟩
 have h1:=hm.2.2.2.2 x hx
 have h2:=hm.1.2.1
 omega
def qcd(ms:List Mat):List Tx:=ms.map fun m=>qaX m.2.2.2.1
noncomputable def qeU(x:Shf):Tx:=Go.Lib.join (qc1 x.1::Go.Lib.itoa x.2.1::qaX x.2.2.1::qcd x.2.2.2.1) [59]
open Classical in
noncomputable def qdo(x:Shf):ByteArray:=if VS x.1 x.2.1 x.2.2.1 x.2.2.2.1 then tx (qeU x) else tx []
theorem qqD{c:List Sim}(h:VC c):(qc1 c).length≤48*90+1:=by
 unfold qc1
 split
 ·simp
 ·have:=qex (ls:=qgn c) (s:=[47]) (b:=89) (qnq h)
  have h2:(qgn c).length≤c.length:=by unfold qgn;rw[List.length_map];exact qfz
  have h3:=h.1
  rw[List.length_singleton] at this
  have:(qgn c).length*(1+89)≤48*90:=Nat.mul_le_mul (by omega) (by omega)
  omega
theorem qmK{c:List Sim}{st:Sim}(h:VC c)(hs:SK c st):qg5 st:=⟨by rw[hs.1];have:=h.1;omega,fun x hx=>by have:=hs.2.1 x hx;omega⟩
theorem VS.num{c:List Sim}{p:Int}{st:Sim}{ms:List Mat}(h:VS c p st ms):ms.length≤192:=by
 have h1:plc c c.length=ms.length:=h.2.2.2.1
 have h2:=h.1.plc (Nat.le_refl c.length)
 have h3:=h.1.1
 omega
theorem qoB{c:List Sim}{p:Int}{st:Sim}{ms:List Mat}(h:VS c p st ms):∀ x∈qcd ms,x.length≤199:=fun x hx=>by
 obtain⟨m,hm,rfl⟩:=List.mem_map.1 hx
 obtain⟨t,ht,rfl⟩:=List.getElem_of_mem hm
 obtain⟨h1,h2⟩:=h.fits ht
 have:=qhU h2.2
 omega
theorem qkS{x:Shf}(h:VS x.1 x.2.1 x.2.2.1 x.2.2.2.1):∀ y∈qc1 x.1::Go.Lib.itoa x.2.1::qaX x.2.2.1::qcd x.2.2.2.1,y.length≤4321:=fun y hy=>by
 rcases List.mem_cons.1 hy with rfl | hy
 ·exact qqD h.1
 ·rcases List.mem_cons.1 hy with rfl | hy
  ·have h2:=h.2.1
   have:=Go.Lib.itoa_length_le x.2.1 (by have:=h2.1;omega) (by have:=h2.2.1;omega)
   omega
  ·rcases List.mem_cons.1 hy with rfl | hy
   ·have hf:=qmK h.1 h.2.2.1
    have:=qhU hf.2
    have:=hf.1
    omega
   ·have:=qoB h y hy;omega
theorem qdg(x:Shf)(hx:Sm (.st cS) x):Ret E n_Z22 [dLL x.1,dI x.2.1,dL x.2.2.1,dMs x.2.2.2.1] ⟨o_Z22,(qdo x,())⟩:=by
 obtain⟨c,p,st,ms,⟨⟩⟩:=x
 refine qak ?_
 simp only[run_Z22,Z22.ev]
 refine qaa (qbJ c p st ms hx.1 hx.2.2.1.1 hx.2.2.2.1) ?_
 by_cases hv:¬ VS c p st ms
 ·rw[qdo,if_neg hv]
  exact qaB (by rw[qaq hv];rfl) qan
 replace hv:=Classical.not_not.1 hv
 have hv':VS ((c,p,st,ms,()):Shf).1 ((c,p,st,ms,()):Shf).2.1 ((c,p,st,ms,()):Shf).2.2.1 ((c,p,st,ms,()):Shf).2.2.2.1:=hv
 rw[qdo,if_pos hv']
 have hf:=qmK hv.1 hv.2.2.1
 have hn:=hv.num
 have hp:=hv.2.1
 have hwl:=qkS hv'
 refine qaD (by rw[qay hv];rfl) (qaa (qd2 c hx.1) (qaa (qiD p (by have:=hp.1;omega) (by have:=hp.2.1;omega)) (qaa (qc5 st hx.2.2.1.1) ?_)))
 have e0:[tx (qqG c),tx (Go.Lib.itoa p),tx (qeD st)]=[tx (qc1 c),tx (Go.Lib.itoa p),tx (qaX st)]:=by rw[qqG,if_pos hv.1,qeD,if_pos hf]
 show Ev fun φ=>Z22.l0 (mkR (run E (φ 0))) (φ 0) (φ 0) ms (ms.length:Int) 0 [tx (qqG c),tx (Go.Lib.itoa p),tx (qeD st)]=_
 rw[e0]
 have hml:(qcd ms).length=ms.length:=List.length_map _
 refine Ev.start (p:=fun φ n=>Z22.l0 (mkR (run E (φ 0))) (φ 0) n ms (ms.length:Int) 0 [tx (qc1 c),tx (Go.Lib.itoa p),tx (qaX st)]=_) 1 ?_ (fun _ _ _ h=>h)
 refine qaw 1 (L:=fun φ n k o=>Z22.l0 (mkR (run E (φ 0))) (φ 0) n ms (ms.length:Int) k o) (len:=ms.length) (fun k=>(qc1 c::Go.Lib.itoa p::qaX st::(qcd ms).take k).map tx) (fun _ _ _ _ _=>rfl) (fun k r hk ih=>?_) ?_
 ·simp only[Z22.l0_succ _ qag]
  obtain⟨h9,hft⟩:=hv.fits hk
  have hk2:k<(qcd ms).length:=by omega
  have hlk:((qc1 c::Go.Lib.itoa p::qaX st::(qcd ms).take k).map tx).length=k+3:=by simp;omega
  refine qaB (decide_eq_true (by omega)) (qae (qao hk) (qaa (qc5 (ms[k]).2.2.2.1 (by omega)) (qax (decide_eq_true (by simp only[hlk,List.length_singleton];omega)) ?_)))
  rw[qah (by omega)]
  have e:(qc1 c::Go.Lib.itoa p::qaX st::(qcd ms).take (k+1)).map tx=(qc1 c::Go.Lib.itoa p::qaX st::(qcd ms).take k).map tx++[tx (qeD (ms[k]).2.2.2.1)]:=by
   rw[List.take_succ_eq_append_getElem hk2,qeD,if_pos hft]
   simp[qcd]
  rw[e] at ih
  exact ih
 ·simp only[Z22.l0_succ _ qag]
  refine qaD (decide_eq_false (by omega)) ?_
  have e:(qcd ms).take ms.length=qcd ms:=List.take_of_length_le (by omega)
  rw[e]
  have hj:=qex (ls:=qc1 c::Go.Lib.itoa p::qaX st::qcd ms) (s:=[59]) (b:=4321) hwl
  have hl3:(qc1 c::Go.Lib.itoa p::qaX st::qcd ms).length=ms.length+3:=by simp[qcd]
  rw[hl3,List.length_singleton] at hj
  have:(ms.length+3)*(1+4321)≤195*4322:=Nat.mul_le_mul (by omega) (by omega)
  exact qaa (qkk (qc1 c::Go.Lib.itoa p::qaX st::qcd ms) [59] (by omega) (by omega)) qan
end VeT
open Go Go.Proofs Ve
namespace VeT
noncomputable def qpR(c:List Sim):List Sim:=(qfZ c c.length).map fun k=>c.getD k.toNat []
theorem qg6{c:List Sim}:∀ {n:Nat} {x:Int},x∈qfZ c n↔∃ k:Nat,x=(k:Int)∧k<n∧(qdX c (c.getD k []) c.length).length=1
 | 0,x=>⟨fun h=>(by cases h),fun⟨k,_,h,_⟩=>(by omega)⟩
 | n+1,x=>by
  have ih:=qg6 (c:=c) (n:=n) (x:=x)
  unfold qfZ
  split
  ·rename_i h1
   rw[List.mem_append,List.mem_singleton,ih]
   constructor
   ·rintro(⟨k,h,hk,h2⟩ | h)
    ·exact⟨k,h,by omega,h2⟩
    ·exact⟨n,h,by omega,h1⟩
   ·rintro⟨k,h,hk,h2⟩
    by_cases e:k=n
    ·subst e;exact .inr h
    ·exact .inl ⟨k,h,by omega,h2⟩
  ·rename_i h1
   rw[ih]
   constructor
   ·rintro⟨k,h,hk,h2⟩
    exact⟨k,h,by omega,h2⟩
   ·rintro⟨k,h,hk,h2⟩
    by_cases e:k=n
    ·subst e;exact absurd h2 h1
    ·exact⟨k,h,by omega,h2⟩
theorem qss{c:List Sim}(hv:VC c):∀(d k:Nat),k+d=c.length→k<c.length→∃ j,j<c.length∧qeL (c.getD k []) (c.getD j [])∧(qdX c (c.getD j []) c.length).length=1
  | 0,k,h,hk=>by omega
  | d+1,k,h,hk=>by
    have hm:(k:Int)∈qdX c (c.getD k []) c.length:=qes.2 ⟨k,rfl,hk,fun _ h=>h⟩
    have hr:=qjg (c:=c) (s:=c.getD k []) (n:=c.length)
    by_cases h1:(qdX c (c.getD k []) c.length).length=1
    · exact⟨k,hk,fun _ h=>h,h1⟩
    · have hx:∃ x∈qdX c (c.getD k []) c.length,x≠(k:Int):=by
        generalize qdX c (c.getD k []) c.length=l at hm hr h1
        match l,h1 with
        | [],_=>cases hm
        | [a],h1=>exact absurd rfl h1
        | a::b::r,_ =>
          have hab:a<b:=(List.pairwise_cons.1 hr).1 b List.mem_cons_self
          by_cases e:a=(k:Int)
          · exact⟨b,by simp,by omega⟩
          · exact⟨a,by simp,e⟩
      obtain⟨x,hx,hne⟩:=hx
      obtain⟨i,rfl,hi,hp⟩:=qes.1 hx
      have hki:=qnR hv hi hk hp
      obtain⟨e,he⟩:∃ e,c.length=i+e:=⟨c.length-i,by omega⟩
      have ih:∀ d',d'≤d→∀ k',k'+d'=c.length→k'<c.length→∃ j,j<c.length∧qeL (c.getD k' []) (c.getD j [])∧(qdX c (c.getD j []) c.length).length=1:=fun d' hd' k' h' hk'=>qss hv d' k' h' hk'
      obtain⟨j,hj,hp2,h2⟩:=ih (c.length-i) (by omega) i (by omega) hi
      exact⟨j,hj,fun v hv=>hp2 v (hp v hv),h2⟩
termination_by d=>d
theorem qp6{c:List Sim}(hv:VC c):qiS (qpR c) c:=by
 refine⟨hv.srt,fun x=>⟨fun hx=>?_,?_⟩⟩
 ·obtain⟨k,hk,rfl⟩:=List.getElem_of_mem hx
  obtain⟨j,hj,hp,h1⟩:=qss hv (c.length-k) k (by omega) hk
  refine⟨c.getD j [],List.mem_map.2 ⟨(j:Int),qg6.2 ⟨j,rfl,hj,h1⟩,by rw[Int.toNat_natCast]⟩,?_⟩
  have v1:=hv.2.1 k hk
  have v2:=hv.2.1 j hj
  rw[qaf hk] at hp v1
  refine⟨fun e=>?_,qhe v1.2.2.1.pairwise v2.2.2.1.pairwise hp⟩
  have:=v1.1
  rw[e] at this
  simp at this
 ·rintro⟨s,hs,hf⟩
  obtain⟨y,hy,rfl⟩:=List.mem_map.1 hs
  obtain⟨k,rfl,hk,_⟩:=qg6.1 hy
  rw[Int.toNat_natCast,qaf hk] at hf
  exact hv.cl _ (List.getElem_mem hk) x hf
theorem qmm{c:List Sim}(hv:VC c):∀ s∈qpR c,Vx s:=fun s hs=>by
 obtain⟨y,hy,rfl⟩:=List.mem_map.1 hs
 obtain⟨k,rfl,hk,_⟩:=qg6.1 hy
 rw[Int.toNat_natCast]
 exact hv.2.1 k hk
theorem qqt{c:List Sim}(hv:VC c):(qpR c).length≤48:=by
 have:=qfz (c:=c) (n:=c.length)
 have:=hv.1
 unfold qpR
 rw[List.length_map]
 omega
theorem qkm{c:List Sim}:qgn c=(qpR c).map qaX:=by
 unfold qgn qpR
 rw[List.map_map];rfl
noncomputable def ql2(l:Tx):List Sim:=if l=[45] then [] else(spl 47 l).map fun w=>(rdL w).1
theorem qsO{s:Sim}(h:Vx s):s≠[]:=fun e=>by
 have:=h.1
 rw[e] at this
 simp at this
theorem qrI{c:List Sim}(hv:VC c)(h0:qfZ c c.length≠[]):spl 47 (qc1 c)=qgn c∧qc1 c≠[45]:=by
 have hne:qgn c≠[]:=by unfold qgn;simpa using h0
 have h1:spl 47 (qc1 c)=qgn c:=by
  rw[qc1,if_neg h0]
  refine qdv hne fun x hx=>?_
  rw[qkm] at hx
  obtain⟨s,_,rfl⟩:=List.mem_map.1 hx
  exact qgZ (.inl rfl)
 refine⟨h1,fun e=>?_⟩
 rw[e,qjX (by decide),qkm] at h1
 cases hf:qpR c with
 | nil=>rw[hf] at h1;cases h1
 | cons s r =>
  rw[hf,List.map_cons] at h1
  have hx:=qmm hv s (by rw[hf];exact List.mem_cons_self)
  exact qsO hx (qh6 (qky hx).1 (List.cons.inj h1).1.symm)
theorem qqh{c:List Sim}(hv:VC c):ql2 (qc1 c)=qpR c:=by
 by_cases h0:qfZ c c.length=[]
 ·have e:qc1 c=[45]:=by rw[qc1,if_pos h0]
  rw[e,ql2,if_pos rfl,qpR,h0];rfl
 ·obtain⟨h1,h2⟩:=qrI hv h0
  rw[ql2,if_neg h2,h1,qkm,List.map_map]
  exact(List.map_congr_left fun s hs=>by show(rdL (qaX s)).1=s;rw[qhq (qky (qmm hv s hs)).1 rfl]).trans (List.map_id' _)
theorem qpY{c:List Sim}(hv:VC c):qnj (qpR c)=(c,0):=by
 have h1:=qqt hv
 have h2:=hv.1
 unfold qnj
 rw[if_neg (fun h=>h (qmm hv)),if_neg (by omega),qmi (qp6 hv),if_neg (by omega)]
open Classical in
noncomputable def rdC(l:Tx):List Sim×Bool:=if h:∃ c,VC c∧qc1 c=l then(h.choose,true) else([],false)
theorem qkG{l:Tx}{c:List Sim}(hv:VC c)(e:qc1 c=l):qnj (ql2 l)=(c,0):=by
 rw[← e,qqh hv,qpY hv]
theorem qpv{l:Tx}{c:List Sim}(hv:VC c)(e:qc1 c=l):rdC l=(c,true):=by
 have hx:∃ c,VC c∧qc1 c=l:=⟨c,hv,e⟩
 have h1:=qkG hx.choose_spec.1 hx.choose_spec.2
 rw[qkG hv e] at h1
 unfold rdC
 rw[dif_pos hx,← (Prod.mk.inj h1).1]
theorem qpJ{l:Tx}(h:∀ c,VC c→qc1 c≠l):rdC l=([],false):=by
 unfold rdC
 rw[dif_neg fun⟨s,h1,h2⟩=>h s h1 h2]
theorem qsj:VC []:=⟨Nat.zero_le _,fun k h=>absurd h (Nat.not_lt_zero _),fun k _ h=>absurd h (Nat.not_lt_zero _),fun k h=>absurd h (Nat.not_lt_zero _)⟩
theorem qst(l:Tx):VC (rdC l).1:=by
 by_cases hx:∃ c,VC c∧qc1 c=l
 ·obtain⟨c,h1,h2⟩:=hx
  rw[qpv h1 h2]
  exact h1
 ·rw[qpJ fun s h1 h2=>hx ⟨s,h1,h2⟩]
  exact qsj
theorem qrb{l:List Sim}(h:(qnj l).2=0):VC (qnj l).1:=by
 unfold qnj at h ⊢
 split at h
 ·cases h
 ·rename_i hv
  rw[if_neg hv]
  have hv:∀ s∈l,Vx s:=Classical.not_not.1 hv
  split at h
  ·cases h
  ·rename_i h48
   rw[if_neg h48]
   split at h
   ·cases h
   ·rename_i hc
    rw[if_neg hc]
    obtain⟨c,_,hc1,hc2,_⟩:=qiB l (by omega) fun s hs=>⟨(hv s hs).1,(hv s hs).2.1⟩
    rw[qmi ⟨hc1,hc2⟩] at hc ⊢
    exact qr8 hv ⟨hc1,hc2⟩ (Nat.not_lt.1 hc)
theorem qot{l:List Sim}(hl:l.length≤1048576)(h:∀ s∈l,qg5 s):Sm (.sl (.sl (.int .i64))) l:=⟨hl,fun s hs=>⟨by have:=(h s hs).1;show s.length≤1048576;omega,fun _ _=>trivial⟩⟩
theorem qq9{l:Tx}(hl:l.length<1048576):Sm (.sl (.sl (.int .i64))) (ql2 l):=by
 have:=qf3 (b:=47) (l:=l)
 unfold ql2
 split
 ·exact qot (by simp) fun s hs=>by cases hs
 ·refine qot (by rw[List.length_map];omega) fun s hs=>?_
  obtain⟨w,_,rfl⟩:=List.mem_map.1 hs
  exact qjO w
-- qcf
theorem qe1(l:Tx)(hl:l.length<1048576):Ret E n_Z14 [dT (tx l)] ⟨o_Z14,((rdC l).1,(rdC l).2,())⟩:=by
 refine qak ?_
 simp only[run_Z14,Z14.ev]
 have ed:ByteArray.mk #[45]=tx [45]:=rfl
 rw[ed,qkX]
 have main:Ev fun φ=>Z14.j1 (mkR (run E (φ 0))) (φ 0) (tx l) (ql2 l)=some ⟨o_Z14,((rdC l).1,(rdC l).2,())⟩:=by
  simp only[Z14.j1_eq _ qag,Z14.j2_eq _ qag]
  refine qaa (qge (ql2 l) (qq9 hl)) ?_
  by_cases h0:(qnj (ql2 l)).2=0
  ·have hv:=qrb h0
   refine qaD (by show((qnj (ql2 l)).2 != 0)=false;rw[h0];rfl) (qaa (qd2 _ hv.sm) ?_)
   show Ev fun φ=>(bif (!(ByteArray.toList (tx (qqG (qnj (ql2 l)).1))==ByteArray.toList (tx l))) then _ else _)=_
   rw[qkX,qqG,if_pos hv]
   by_cases he:qc1 (qnj (ql2 l)).1=l
   ·refine qaD (by rw[qay he];rfl) ?_
    rw[qpv hv he]
    exact qan
   ·refine qaB (by rw[qaq he];rfl) ?_
    rw[qpJ fun c h1 h2=>he (by rw[qkG h1 h2];exact h2)]
    exact qan
  ·refine qaB (by rw[bne_iff_ne];exact h0) (qaB rfl ?_)
   rw[qpJ fun c h1 h2=>h0 (by rw[qkG h1 h2])]
   exact qan
 by_cases hd:l=[45]
 ·have e:ql2 l=[]:=by rw[ql2,if_pos hd]
  rw[e] at main
  exact qaD (by rw[qay hd];rfl) main
 have e:ql2 l=(spl 47 l).map fun w=>(rdL w).1:=by rw[ql2,if_neg hd]
 have hsl:=qf3 (b:=47) (l:=l)
 refine qaB (by rw[qaq hd];rfl) (qaa (qhf l 47 (by omega)) ?_)
 refine Ev.start (p:=fun φ n=>Z14.l0 (mkR (run E (φ 0))) (φ 0) n (tx l) ((spl 47 l).map tx) (((spl 47 l).map tx).length:Int) 0 []=_) 1 ?_ (fun _ _ _ h=>h)
 rw[List.length_map]
 refine qaw 1 (L:=fun φ n k o=>Z14.l0 (mkR (run E (φ 0))) (φ 0) n (tx l) ((spl 47 l).map tx) ((spl 47 l).length:Int) k o) (len:=(spl 47 l).length) (fun k=>((spl 47 l).map fun w=>(rdL w).1).take k) (fun _ _ _ _ _=>rfl) (fun k r hk ih=>?_) ?_
 ·simp only[Z14.l0_succ _ qag]
  have hkm:k<((spl 47 l).map tx).length:=by rw[List.length_map];exact hk
  have hw:=qfm (List.getElem_mem hk)
  have hkn:k<((spl 47 l).map fun w=>(rdL w).1).length:=by rw[List.length_map];exact hk
  rw[List.take_succ_eq_append_getElem hkn,List.getElem_map] at ih
  refine qaB (decide_eq_true (by omega)) (qae (qao hkm) ?_)
  rw[List.getElem_map]
  refine qaa (qcr (spl 47 l)[k] (by omega)) (qax (decide_eq_true (by rw[List.length_take];simp only[List.length_singleton];omega)) ?_)
  rw[qah (by omega)]
  exact ih
 ·simp only[Z14.l0_succ _ qag]
  refine qaD (decide_eq_false (by omega)) ?_
  rw[List.take_of_length_le (by rw[List.length_map];exact Nat.le_refl _),← e]
  exact main
end VeT
open Go Go.Proofs Ve
namespace VeT
theorem qrK(c:List Sim):(59:UInt8)∉qc1 c:=fun hm=>by
 unfold qc1 at hm
 split at hm
 ·revert hm;decide
 ·rcases qna hm with h | ⟨x,hx,h⟩
  ·revert h;decide
  ·rw[qkm] at hx
   obtain⟨s,_,rfl⟩:=List.mem_map.1 hx
   exact qgZ (.inr rfl) h
theorem qpo(x:Shf):spl 59 (qeU x)=qc1 x.1::Go.Lib.itoa x.2.1::qaX x.2.2.1::qcd x.2.2.2.1:=by
 unfold qeU
 refine qdv (List.cons_ne_nil _ _) fun y hy=>?_
 rcases List.mem_cons.1 hy with rfl | hy
 ·exact qrK _
 ·rcases List.mem_cons.1 hy with rfl | hy
  ·exact qoE (.inr (.inr rfl))
  ·rcases List.mem_cons.1 hy with rfl | hy
   ·exact qgZ (.inr rfl)
   ·obtain⟨m,_,rfl⟩:=List.mem_map.1 hy
    exact qgZ (.inr rfl)
def mA(p:Int)(st:Sim)(a:Arw)(cells:Sim):Mat:=(p,st.getD a.1.toNat 0,st.getD a.2.2.1.toNat 0,cells,())
noncomputable def msN(c:List Sim)(p:Int)(st:Sim)(ps:List Tx)(n:Nat):List Mat:=(List.range n).map fun t=>mA p st ((qaY c c.length).getD t az) (rdL (ps.getD (3+t) [])).1
theorem qqC{c:List Sim}{p:Int}{st:Sim}{ps:List Tx}{n:Nat}:msN c p st ps (n+1)=msN c p st ps n++[mA p st ((qaY c c.length).getD n az) (rdL (ps.getD (3+n) [])).1]:=by
 unfold msN
 rw[List.range_succ,List.map_append];rfl
theorem ql7{c:List Sim}{p:Int}{st:Sim}{ps:List Tx}{n:Nat}:(msN c p st ps n).length=n:=by simp[msN]
theorem qsc{c:List Sim}{p:Int}{st:Sim}{ps:List Tx}{n t:Nat}(h:t<n):(msN c p st ps n)[t]? = some (mA p st ((qaY c c.length).getD t az) (rdL (ps.getD (3+t) [])).1):=by
 unfold msN
 rw[List.getElem?_map,List.getElem?_range h];rfl
def RS(l:Tx)(x:Shf):Prop:=VS x.1 x.2.1 x.2.2.1 x.2.2.2.1∧qeU x=l
noncomputable def pC(ps:List Tx):List Sim:=(rdC (ps.getD 0 [])).1
def pP(ps:List Tx):Int:=(rdT (ps.getD 1 [])).1
noncomputable def pS(ps:List Tx):Sim:=(rdL (ps.getD 2 [])).1
noncomputable def pX(ps:List Tx):Shf:=(pC ps,pP ps,pS ps,msN (pC ps) (pP ps) (pS ps) ps (qaY (pC ps) (pC ps).length).length,())
structure Fix (ps:List Tx) (x:Shf):Prop where
 len:ps.length=3+(qaY (pC ps) (pC ps).length).length
 c1:(rdC (ps.getD 0 [])).2=true
 p1:(rdT (ps.getD 1 [])).2=true
 s1:(rdL (ps.getD 2 [])).2=true
 m1:∀ t,t<(qaY (pC ps) (pC ps).length).length→(rdL (ps.getD (3+t) [])).2=true
 eq:x=pX ps
theorem qp3(m:Mat):m=(m.1,m.2.1,m.2.2.1,m.2.2.2.1,()):=rfl
theorem qqR{l:Tx}{x:Shf}(h:RS l x):Fix (spl 59 l) x:=by
 obtain⟨hv,rfl⟩:=h
 rw[qpo]
 obtain⟨c,p,st,ms,⟨⟩⟩:=x
 have hv:VS c p st ms:=hv
 show Fix (qc1 c::Go.Lib.itoa p::qaX st::qcd ms) (c,p,st,ms,())
 have hf:=qmK hv.1 hv.2.2.1
 have e0:rdC (qc1 c)=(c,true):=qpv hv.1 rfl
 have e1:rdT (Go.Lib.itoa p)=(p,true):=qqJ ⟨rfl,by have h1:=hv.2.1.1;have h2:=hv.2.1.2.1;omega⟩
 have e2:rdL (qaX st)=(st,true):=qhq hf rfl
 have hc:pC (qc1 c::Go.Lib.itoa p::qaX st::qcd ms)=c:=by show(rdC (qc1 c)).1=c;rw[e0]
 have hp:pP (qc1 c::Go.Lib.itoa p::qaX st::qcd ms)=p:=by show(rdT (Go.Lib.itoa p)).1=p;rw[e1]
 have hs:pS (qc1 c::Go.Lib.itoa p::qaX st::qcd ms)=st:=by show(rdL (qaX st)).1=st;rw[e2]
 have hl:(qaY c c.length).length=ms.length:=hv.2.2.2.1
 have hm:∀ t (h:t<ms.length),rdL ((qc1 c::Go.Lib.itoa p::qaX st::qcd ms).getD (3+t) [])=((ms[t]).2.2.2.1,true):=fun t ht=>by
  have e:(qc1 c::Go.Lib.itoa p::qaX st::qcd ms).getD (3+t) []=qaX (ms[t]).2.2.2.1:=by
   rw[Nat.add_comm,List.getD_cons_succ,List.getD_cons_succ,List.getD_cons_succ,List.getD_eq_getElem?_getD]
   unfold qcd
   rw[List.getElem?_map,List.getElem?_eq_getElem ht];rfl
  rw[e,qhq (hv.fits ht).2 rfl]
 refine { len:=?_,c1:=?_,p1:=?_,s1:=?_,m1:=?_,eq:=?_ }
 ·rw[hc,hl]
  simp[qcd]
  omega
 ·show(rdC (qc1 c)).2=true;rw[e0]
 ·show(rdT (Go.Lib.itoa p)).2=true;rw[e1]
 ·show(rdL (qaX st)).2=true;rw[e2]
 ·rw[hc,hl]
  intro t ht
  rw[hm t ht]
 ·unfold pX
  rw[hc,hp,hs]
  refine congrArg (fun q:List Mat=>((c,p,st,q,()):Shf)) ?_
  rw[hl]
  refine List.ext_getElem (by rw[ql7]) fun t h1 h2=>?_
  obtain⟨k,i,hk,hi,e⟩:=qda (c:=c) (n:=c.length) (t:=t) (by omega)
  obtain⟨_,hb⟩:=hv.map hk hi
  have ea:(qaY c c.length).getD t az=((k:Int),(i:Int),(qaI c k).getD i 0,()):=by
   rw[List.getD_eq_getElem?_getD,e,qbD hk hi];rfl
  have em:mp c ms k i=ms[t]:=by
   subst e
   show ms.getD (plc c k+i) mz=_
   rw[List.getD_eq_getElem?_getD,List.getElem?_eq_getElem h1];rfl
  rw[em] at hb
  have eg:=qsc (c:=c) (p:=p) (st:=st) (ps:=qc1 c::Go.Lib.itoa p::qaX st::qcd ms) (n:=ms.length) (t:=t) h1
  rw[List.getElem?_eq_getElem h2,hm t h1,ea] at eg
  rw[Option.some.inj eg]
  obtain⟨_,b1,b2,b3⟩:=hb
  conv=>lhs;rw[qp3 ms[t],b1,b2,b3]
  rfl
theorem qr7{l:Tx}{x:Shf}(h:RS l x):x=pX (spl 59 l):=(qqR h).eq
open Classical in
noncomputable def rdS(l:Tx):Shf×Bool:=if h:∃ x,RS l x then(h.choose,true) else(([],0,[],[],()),false)
theorem qse{l:Tx}{x:Shf}(h:RS l x):rdS l=(x,true):=by
 have hx:∃ x,RS l x:=⟨x,h⟩
 unfold rdS
 rw[dif_pos hx,qr7 hx.choose_spec,qr7 h]
theorem qsu{l:Tx}(h:∀ x,¬ RS l x):rdS l=(([],0,[],[],()),false):=by
 unfold rdS
 rw[dif_neg fun⟨x,hx⟩=>h x hx]
noncomputable def qrP(l:Tx):List Sim×Int×Sim×List Mat×Bool×Unit:=((rdS l).1.1,(rdS l).1.2.1,(rdS l).1.2.2.1,(rdS l).1.2.2.2.1,(rdS l).2,())
theorem qpN{l:Tx}{c:List Sim}{p:Int}{st:Sim}{ms:List Mat}(h:RS l (c,p,st,ms,())):qrP l=(c,p,st,ms,true,()):=by
 unfold qrP
 rw[qse h]
theorem qrs{l:Tx}(h:∀ x,¬ RS l x):qrP l=([],0,[],[],false,()):=by
 unfold qrP
 rw[qsu h]
theorem qsq{c:List Sim}{p:Int}{st:Sim}{ps:List Tx}{n:Nat}(hn:n≤1048576):Sm (.sl (.st cM)) (msN c p st ps n):=⟨by show(msN c p st ps n).length≤_;rw[ql7];exact hn,fun m hm=>by
 obtain⟨t,_,rfl⟩:=List.mem_map.1 hm
 have:=(qjO (ps.getD (3+t) [])).1
 exact⟨trivial,trivial,trivial,⟨by show(rdL (ps.getD (3+t) [])).1.length≤1048576;omega,fun _ _=>trivial⟩,trivial⟩⟩
theorem qte{l w:Tx}(hl:l.length≤1048576)(h3:3≤(spl 59 l).length)(hw:w∈spl 59 l):w.length<1048576:=by
 have:=qfm hw
 omega
theorem qqs{ps:List Tx}{i:Nat}(h:i<ps.length):ps.getD i []∈ps:=by
 rw[List.getD_eq_getElem?_getD,List.getElem?_eq_getElem h]
 exact List.getElem_mem h
theorem qmS{ps:List Tx}{i:Nat}(h:i<ps.length):idx? (ps.map tx) (i:Int)=some (tx (ps.getD i [])):=by
 have h2:i<(ps.map tx).length:=by rw[List.length_map];exact h
 rw[qao h2,List.getElem_map,List.getD_eq_getElem?_getD,List.getElem?_eq_getElem h]
 rfl
-- qcf
theorem qf2(l:Tx)(hl:l.length≤1048576):Ret E n_Z17 [dT (tx l)] ⟨o_Z17,qrP l⟩:=by
 refine qak ?_
 simp only[run_Z17,Z17.ev]
 have no:(∀ x,¬ RS l x)→Ev fun φ=>some (⟨o_Z17,(([]:List Sim),(0:Int),([]:Sim),([]:List Mat),false,())⟩:Dv)=some ⟨o_Z17,qrP l⟩:=fun h=>by rw[qrs h];exact qan
 have hfx:∀ x,RS l x→Fix (spl 59 l) x:=fun x h=>qqR h
 have hsl:=qf3 (b:=59) (l:=l)
 refine qaa (qhf l 59 (by omega)) ?_
 have hwl:3≤(spl 59 l).length→∀ i,i<(spl 59 l).length→((spl 59 l).getD i []).length<1048576:=fun h3 i hi=>qte hl h3 (qqs hi)
 generalize spl 59 l=ps at hfx hsl hwl
 show Ev fun φ=>(bif decide (((ps.map tx).length:Int)<(3:Int)) then _ else _)=_
 rw[List.length_map]
 by_cases h3:ps.length<3
 ·refine qaB (decide_eq_true (by omega)) (no fun x hx=>?_)
  have:=(hfx x hx).len
  omega
 have hwl:=hwl (by omega)
 have hv:VC (pC ps):=qst _
 have hal:=qcU hv
 refine qaD (decide_eq_false (by omega)) (qae (qmS (i:=0) (by omega)) (qaa (qe1 _ (hwl 0 (by omega))) (qae (qmS (i:=1) (by omega)) (qaa (qee _ (by have:=hwl 1 (by omega);omega)) (qae (qmS (i:=2) (by omega)) (qaa (qcr _ (hwl 2 (by omega))) (qaa (qfU (pC ps) hv.sm hv) ?_)))))))
 show Ev fun φ=>(bif (!(rdC (ps.getD 0 [])).2) then(Z17.j0 (mkR (run E (φ 0))) (φ 0) (tx l) (ps.map tx) (qaY (pC ps) (pC ps).length) true 0 (pP ps) (pC ps) (pS ps)) else(bif ((w64 ((ps.length:Int)-(3:Int))) != ((qaY (pC ps) (pC ps).length).length:Int)) then(Z17.j0 (mkR (run E (φ 0))) (φ 0) (tx l) (ps.map tx) (qaY (pC ps) (pC ps).length) true 0 (pP ps) (pC ps) (pS ps)) else(Z17.j0 (mkR (run E (φ 0))) (φ 0) (tx l) (ps.map tx) (qaY (pC ps) (pC ps).length) (((pS ps).length:Int) != ((pC ps).length:Int)) 0 (pP ps) (pC ps) (pS ps))))=_
 have bad:(∀ x,¬ RS l x)→Ev fun φ=>Z17.j0 (mkR (run E (φ 0))) (φ 0) (tx l) (ps.map tx) (qaY (pC ps) (pC ps).length) true 0 (pP ps) (pC ps) (pS ps)=some ⟨o_Z17,qrP l⟩:=fun h=>by
  simp only[Z17.j0_eq _ qag]
  exact qaB rfl (no h)
 cases hc1:(rdC (ps.getD 0 [])).2 with
 | false =>
  refine qaB rfl (bad fun x hx=>?_)
  have:=(hfx x hx).c1
  rw[hc1] at this
  cases this
 | true =>
 refine qaD rfl ?_
 rw[qai (by omega) (by omega)]
 by_cases hlen:ps.length=3+(qaY (pC ps) (pC ps).length).length
 case neg =>
  refine qaB (by rw[bne_iff_ne];omega) (bad fun x hx=>hlen (hfx x hx).len)
 refine qaD (by rw[bne_eq_false_iff_eq];omega) ?_
 by_cases hsc:(pS ps).length=(pC ps).length
 case neg =>
  have e:(((pS ps).length:Int) != ((pC ps).length:Int))=true:=by rw[bne_iff_ne];omega
  rw[e]
  refine bad fun x hx=>hsc ?_
  have h1:=hx.1.2.2.1.1
  rw[(hfx x hx).eq] at h1
  exact h1
 have e:(((pS ps).length:Int) != ((pC ps).length:Int))=false:=by rw[bne_eq_false_iff_eq];omega
 rw[e]
 simp only[Z17.j0_eq _ qag]
 refine qaD rfl ?_
 have hst:(pS ps).length≤64:=(qjO _).1
 refine Ev.start (p:=fun φ n=>Z17.l1 (mkR (run E (φ 0))) (φ 0) n (tx l) (ps.map tx) (qaY (pC ps) (pC ps).length) ((qaY (pC ps) (pC ps).length).length:Int) 0 0 (pP ps) [] (pC ps) (pS ps)=_) 1 ?_ (fun _ _ _ h=>h)
 refine qaw 1 (L:=fun φ n k o=>Z17.l1 (mkR (run E (φ 0))) (φ 0) n (tx l) (ps.map tx) (qaY (pC ps) (pC ps).length) ((qaY (pC ps) (pC ps).length).length:Int) k 0 (pP ps) o (pC ps) (pS ps)) (len:=(qaY (pC ps) (pC ps).length).length) (fun k=>msN (pC ps) (pP ps) (pS ps) ps k) (fun _ _ _ _ _=>rfl) (fun t r ht ih=>?_) ?_
 ·simp only[Z17.l1_succ _ qag]
  obtain⟨k,i,f,hk,hi,hf,ea⟩:=qpu hv.srt hv ht
  have hml:=ql7 (c:=pC ps) (p:=pP ps) (st:=pS ps) (ps:=ps) (n:=t)
  have hks:k<(pS ps).length:=by omega
  have hfs:f<(pS ps).length:=by omega
  have e4:w64 ((t:Int)+3)=((3+t:Nat):Int):=by rw[qai (by omega) (by omega)];omega
  rw[e4]
  rw[qqC,qaf ht,ea] at ih
  refine qaB (decide_eq_true (by omega)) (qae (qao ht) ?_)
  rw[ea]
  refine qae (qmS (i:=3+t) (by omega)) (qaa (qcr _ (hwl (3+t) (by omega))) ?_)
  refine qax (by rw[decide_eq_true (show(0:Int)≤(k:Int) by omega),decide_eq_true (show(k:Int)<((pS ps).length:Int) by omega)];rfl) (qae (show(pS ps)[Int.toNat (k:Int)]? = some (pS ps)[k] by rw[Int.toNat_natCast];exact List.getElem?_eq_getElem hks) ?_)
  refine qax (by rw[decide_eq_true (show(0:Int)≤(f:Int) by omega),decide_eq_true (show(f:Int)<((pS ps).length:Int) by omega)];rfl) (qae (show(pS ps)[Int.toNat (f:Int)]? = some (pS ps)[f] by rw[Int.toNat_natCast];exact List.getElem?_eq_getElem hfs) ?_)
  refine qax (decide_eq_true (by rw[hml];simp only[List.length_singleton];omega)) ?_
  rw[qah (by omega)]
  have em:mA (pP ps) (pS ps) ((k:Int),(i:Int),(f:Int),()) (rdL (ps.getD (3+t) [])).1=(pP ps,(pS ps)[k],(pS ps)[f],(rdL (ps.getD (3+t) [])).1,()):=by
   unfold mA
   simp only[Int.toNat_natCast]
   rw[qaf hks,qaf hfs]
  rw[em] at ih
  exact ih
 ·simp only[Z17.l1_succ _ qag,Z17.j2_eq _ qag]
  refine qaD (decide_eq_false (by omega)) ?_
  have hms:Sm (.sl (.st cM)) (msN (pC ps) (pP ps) (pS ps) ps (qaY (pC ps) (pC ps).length).length):=qsq (by omega)
  refine qaa (qbJ (pC ps) (pP ps) (pS ps) _ hv.sm (by omega) hms) ?_
  by_cases hvs:VS (pC ps) (pP ps) (pS ps) (msN (pC ps) (pP ps) (pS ps) ps (qaY (pC ps) (pC ps).length).length)
  ·have hx:Sm (.st cS) (pX ps):=⟨hv.sm,trivial,⟨by show(pS ps).length≤1048576;omega,fun _ _=>trivial⟩,hms,trivial⟩
   refine qaD (by show(!pb _)=false;rw[qay hvs];rfl) (qaa (qdg (pX ps) hx) ?_)
   have hvs':VS (pX ps).1 (pX ps).2.1 (pX ps).2.2.1 (pX ps).2.2.2.1:=hvs
   rw[qdo,if_pos hvs']
   show Ev fun φ=>(bif (!(ByteArray.toList (tx (qeU (pX ps)))==ByteArray.toList (tx l))) then _ else _)=_
   rw[qkX]
   by_cases he:qeU (pX ps)=l
   ·refine qaD (by rw[qay he];rfl) ?_
    have hr:RS l (pC ps,pP ps,pS ps,msN (pC ps) (pP ps) (pS ps) ps (qaY (pC ps) (pC ps).length).length,()):=⟨hvs,he⟩
    rw[qpN hr]
    exact qan
   ·refine qaB (by rw[qaq he];rfl) (no fun x hx=>he ?_)
    rw[← (hfx x hx).eq]
    exact hx.2
  ·refine qaB (by show(!pb _)=true;rw[qaq hvs];rfl) (qaB rfl (no fun x hx=>hvs ?_))
   have h1:=hx.1
   rw[(hfx x hx).eq] at h1
   exact h1
end VeT
open Go Go.Proofs Ve
namespace VeT
end VeT
open Go Go.Proofs Ve
namespace VeT
theorem qpE{p x x' y y':Int}(h1:x%p=x'%p)(h2:y%p=y'%p):x*y%p=x'*y'%p:=by
 rw[Int.mul_emod x,h1,h2,← Int.mul_emod]
def qks(a p:Int):Int:=a ^ (p-2).toNat%p
theorem qrV{a p:Int}(hp:2≤p):0≤qks a p∧qks a p≤p-1:=by
 have h0:=Int.emod_nonneg (a ^ (p-2).toNat) (show p≠0 by omega)
 have h1:=Int.emod_lt_of_pos (a ^ (p-2).toNat) (show 0<p by omega)
 unfold qks;omega
abbrev Ent:=Nat→Nat→Int
def qdf(top q:Nat)(A:Ent):Ent:=fun i=>if i=top then A q else if i=q then A top else A i
def elN(p:Int)(c top:Nat)(B:Ent):Nat→Int:=fun j=>B top j*qks (B top c) p%p
def elM(p:Int)(c top:Nat)(B:Ent):Ent:=fun i j=>if i=top then elN p c top B j else B i j
def elF(p:Int)(c top:Nat)(B:Ent):Ent:=fun i j=>if i=top then elN p c top B j else if B i c≠0 then(B i j+(p-B i c)*elN p c top B j)%p else B i j
noncomputable def elP(p:Int)(R c:Nat)(S:Ent×List Nat):Ent×List Nat :=
 match qa2 (fun i=>S.1 i c≠0) S.2.length (R-S.2.length) with
 | none=>S
 | some q=>(elF p c S.2.length (qdf S.2.length q S.1),S.2++[c])
noncomputable def elS(p:Int)(R:Nat)(A:Ent):Nat→Ent×List Nat
 | 0=>(A,[])
 | c+1=>elP p R c (elS p R A c)
def EIn(p:Int)(R W:Nat)(A:Ent):Prop:=∀ i j,i<R→j<W→0≤A i j∧A i j≤p-1
theorem EIn.sw{p:Int}{R W top q:Nat}{A:Ent}(h:EIn p R W A)(ht:top<R)(hq:q<R):EIn p R W (qdf top q A):=fun i j hi hj=>by
 unfold qdf;split
 ·exact h q j hq hj
 ·split
  ·exact h top j ht hj
  ·exact h i j hi hj
theorem qhT{p x:Int}(hp:2≤p):0≤x%p∧x%p≤p-1:=by
 have h0:=Int.emod_nonneg x (show p≠0 by omega)
 have h1:=Int.emod_lt_of_pos x (show 0<p by omega)
 omega
theorem EIn.f{p:Int}{R W c top:Nat}{B:Ent}(h:EIn p R W B)(hp:2≤p):EIn p R W (elF p c top B):=fun i j hi hj=>by
 unfold elF;split
 ·exact qhT hp
 ·split
  ·exact qhT hp
  ·exact h i j hi hj
theorem qnl{p:Int}{R W:Nat}{A:Ent}(hp:2≤p)(h:EIn p R W A):∀ c,EIn p R W (elS p R A c).1∧(elS p R A c).2.length≤R∧(elS p R A c).2.length≤c∧∀ x∈(elS p R A c).2,x<c
 | 0=>⟨h,Nat.zero_le _,Nat.zero_le _,fun x hx=>by simp[elS] at hx⟩
 | c+1=>by
  obtain⟨h1,h2,h3,h4⟩:=qnl hp h c
  rw[elS,elP]
  cases hf:qa2 (fun i=>(elS p R A c).1 i c≠0) (elS p R A c).2.length (R-(elS p R A c).2.length) with
  | none=>exact⟨h1,h2,by show(elS p R A c).2.length≤c+1;omega,fun x hx=>by have:=h4 x hx;omega⟩
  | some q =>
   have hq:=qaN hf
   refine⟨(h1.sw (by omega) (by omega)).f hp,?_,?_,fun x hx=>?_⟩
   ·simp only[List.length_append,List.length_singleton];omega
   ·simp only[List.length_append,List.length_singleton];omega
   ·rcases List.mem_append.1 hx with hx | hx
    ·have:=h4 x hx;omega
    ·rw[List.mem_singleton] at hx;omega
def qrR(A:Ent)(R W:Nat):List Sim:=(List.range R).map fun i=>(List.range W).map (A i)
theorem qcJ{A:Ent}{R W i j:Nat}{v:Int}(hi:i<R)(hj:j<W):(qat A W R).set (i*W+j) v=qat (fun k l=>if k=i∧l=j then v else A k l) W R:=by
 apply List.ext_getElem?
 intro n
 by_cases hn:n<R*W
 ·have hW:0<W:=by omega
  have e:n=n / W*W+n%W:=by have:=Nat.div_add_mod n W;rw[Nat.mul_comm] at this;omega
  have h1:n / W<R:=Nat.div_lt_of_lt_mul (by rw[Nat.mul_comm];exact hn)
  have h2:n%W<W:=Nat.mod_lt _ hW
  generalize n / W=a at e h1
  generalize n%W=b at e h2
  subst e
  rw[qb1 h1 h2]
  by_cases hab:a=i∧b=j
  ·obtain⟨rfl,rfl⟩:=hab
   rw[List.getElem?_set_self (by rw[qas];exact hn)]
   simp
  ·rw[List.getElem?_set_ne,qb1 h1 h2,if_neg hab]
   intro e
   have hbW:b<W:=h2
   have:a=i∧b=j:=by
    have h3:(i*W+j) / W=i:=by rw[Nat.mul_comm,Nat.mul_add_div (by omega),Nat.div_eq_of_lt hj,Nat.add_zero]
    have h4:(a*W+b) / W=a:=by rw[Nat.mul_comm,Nat.mul_add_div (by omega),Nat.div_eq_of_lt hbW,Nat.add_zero]
    have:a=i:=by rw[← h3,← h4,e]
    subst this
    exact⟨rfl,by omega⟩
   exact hab this
 ·rw[List.getElem?_eq_none (by rw[List.length_set,qas];omega),List.getElem?_eq_none (by rw[qas];omega)]
theorem qcz{A:Ent}{W:Nat}:∀ {R:Nat},(qrR A R W).flatten=qat A W R
 | 0=>by simp[qrR,qat]
 | R+1=>by
  have:=qcz (A:=A) (W:=W) (R:=R)
  unfold qrR at this ⊢
  rw[List.range_succ,List.map_append,List.flatten_append,this,qat]
  simp
def qea(cells:Sim)(W:Nat):Ent:=fun i j=>cells.getD (i*W+j) 0
theorem qfD{cells:Sim}{R W:Nat}(h:cells.length=R*W):qat (qea cells W) W R=cells:=by
 refine List.ext_getElem (by rw[qas,h]) fun n h1 h2=>?_
 rw[qas] at h1
 have hW:0<W:=by
  cases W with
  | zero=>simp at h1
  | succ W=>omega
 have e:n=n / W*W+n%W:=by have:=Nat.div_add_mod n W;rw[Nat.mul_comm] at this;omega
 have h3:n / W<R:=Nat.div_lt_of_lt_mul (by rw[Nat.mul_comm];exact h1)
 have h4:n%W<W:=Nat.mod_lt _ hW
 have hg:=qb1 (f:=qea cells W) h3 h4
 rw[← e,List.getElem?_eq_getElem (by rw[qas];exact h1)] at hg
 rw[Option.some.inj hg]
 unfold qea
 rw[← e,qaf h2]
theorem qf6{p:Int}{cells:Sim}{R W:Nat}(h:qaT cells p)(hl:cells.length=R*W):EIn p R W (qea cells W):=fun i j hi hj=>by
 unfold qea
 have:=qhP hi hj
 rw[qaf (by omega)]
 exact h _ (List.getElem_mem _)
end VeT
open Go Go.Proofs Ve
namespace VeT
def qqW:Bool:=(List.range 252).all fun p=>!(decide (2≤p)&&(List.range 16).all fun k=>!(decide (2≤k)&&decide (k*k≤p)&&decide (p%k=0))) || (List.range p).all fun a=>a==0 || (a*(a ^ (p-2)%p)%p==1)
theorem qpw:qqW=true:=by kernel_rfl
theorem qoW{p a:Int}(hp:Pr p)(h1:1≤a)(h2:a≤p-1):a*qks a p%p=1:=by
  obtain⟨hp2,hp251,hpk⟩:=hp
  obtain⟨P,rfl⟩:=Int.eq_ofNat_of_zero_le (show 0≤p by omega)
  obtain⟨N,rfl⟩:=Int.eq_ofNat_of_zero_le (show 0≤a by omega)
  have h:=qpw
  unfold qqW at h
  rw[List.all_eq_true] at h
  have hP:=h P (List.mem_range.2 (by omega))
  rw[Bool.or_eq_true] at hP
  rcases hP with hP | hP
  · exfalso
    rw[Bool.not_eq_true',Bool.and_eq_false_iff] at hP
    rcases hP with hP | hP
    · have:=of_decide_eq_false hP;omega
    · rw[← Bool.not_eq_true,List.all_eq_true] at hP
      refine hP fun k hk=>?_
      have hk16:=List.mem_range.1 hk
      rw[Bool.not_eq_true',Bool.and_eq_false_iff,Bool.and_eq_false_iff]
      by_cases hk2:2≤k
      · by_cases hkk:k*k≤P
        · right
          refine decide_eq_false fun e=>?_
          have := hpk k hk2 (by have : ((k * k : Nat) : Int) ≤ (P : Int) := by omega
                                rwa [Int.natCast_mul] at this)
          exact this (by omega)
        · exact .inl (.inr (decide_eq_false hkk))
      · exact .inl (.inl (decide_eq_false hk2))
  · rw[List.all_eq_true] at hP
    have hN:=hP N (List.mem_range.2 (by omega))
    rw[Bool.or_eq_true] at hN
    rcases hN with hN | hN
    · have:N=0:=by simpa using hN
      omega
    · have hN:N*(N ^ (P-2)%P)%P=1:=by simpa using hN
      unfold qks
      have e:((P:Int)-2).toNat=P-2:=by omega
      rw[e]
      have:((N*(N ^ (P-2)%P)%P:Nat):Int)=1:=by rw[hN];rfl
      rwa [Int.natCast_emod,Int.natCast_mul,Int.natCast_emod,Int.natCast_pow] at this
theorem qkK{c d g:Nat→Int}:∀ {n:Nat},qa5 (fun i=>c i+d i) g n=qa5 c g n+qa5 d g n
 | 0=>rfl
 | n+1=>by simp only[qa5];rw[qkK,Int.add_mul];omega
theorem qlp{k:Int}{c g:Nat→Int}:∀ {n:Nat},qa5 (fun i=>k*c i) g n=k*qa5 c g n
 | 0=>by simp[qa5]
 | n+1=>by simp only[qa5];rw[qlp,Int.mul_add,Int.mul_assoc]
theorem qlG{k:Nat}{g:Nat→Int}:∀ {n:Nat},n≤k→qa5 (fun i=>if i=k then 1 else 0) g n=0
 | 0,_=>rfl
 | n+1,h=>by simp only[qa5];rw[qlG (by omega),if_neg (by omega),Int.zero_mul];rfl
theorem qeu{k:Nat}{g:Nat→Int}:∀ {n:Nat},k<n→qa5 (fun i=>if i=k then 1 else 0) g n=g k
 | n+1,h=>by
  simp only[qa5]
  by_cases hk:k=n
  ·subst hk;rw[qlG (Nat.le_refl _),if_pos rfl,Int.one_mul,Int.zero_add]
  ·rw[qeu (by omega),if_neg (by omega),Int.zero_mul,Int.add_zero]
def Spn(p:Int)(R W:Nat)(A:Ent)(x:Nat→Int):Prop:=∃ c:Nat→Int,∀ j,j<W→qa5 c (fun i=>A i j) R%p=x j%p
theorem Spn.row{p:Int}{R W:Nat}{A:Ent}{i:Nat}(hi:i<R):Spn p R W A (A i):=⟨fun k=>if k=i then 1 else 0,fun j _=>by rw[qeu hi]⟩
theorem Spn.congr{p:Int}{R W:Nat}{A:Ent}{x y:Nat→Int}(h:∀ j,j<W→x j%p=y j%p):Spn p R W A x→Spn p R W A y:=fun⟨c,hc⟩=>⟨c,fun j hj=>(hc j hj).trans (h j hj)⟩
theorem Spn.add{p:Int}{R W:Nat}{A:Ent}{x y:Nat→Int}(hx:Spn p R W A x)(hy:Spn p R W A y):Spn p R W A (fun j=>x j+y j):=by
 obtain⟨c,hc⟩:=hx
 obtain⟨d,hd⟩:=hy
 exact⟨fun i=>c i+d i,fun j hj=>by rw[qkK,Int.add_emod,hc j hj,hd j hj,← Int.add_emod]⟩
theorem Spn.smul{p:Int}{R W:Nat}{A:Ent}{x:Nat→Int}(k:Int)(hx:Spn p R W A x):Spn p R W A (fun j=>k*x j):=by
 obtain⟨c,hc⟩:=hx
 exact⟨fun i=>k*c i,fun j hj=>by rw[qlp,Int.mul_emod,hc j hj,← Int.mul_emod]⟩
theorem Spn.zero{p:Int}{R W:Nat}{A:Ent}:Spn p R W A (fun _=>0):=⟨fun _=>0,fun j _=>by
 have:∀ n,qa5 (fun _=>0) (fun i=>A i j) n=0:=fun n=>by
  induction n with
  | zero=>rfl
  | succ n ih=>simp only[qa5,ih,Int.zero_mul];rfl
 rw[this]⟩
theorem Spn.sum{p:Int}{R W:Nat}{A B:Ent}{c:Nat→Int}:∀ {n:Nat},(∀ i,i<n→Spn p R W A (B i))→Spn p R W A (fun j=>qa5 c (fun i=>B i j) n)
 | 0,_=>Spn.zero
 | n+1,h=>(Spn.sum (n:=n) fun i hi=>h i (by omega)).add ((h n (Nat.lt_succ_self n)).smul (c n))
theorem Spn.trans{p:Int}{R R' W:Nat}{A B:Ent}{x:Nat→Int}(h:∀ i,i<R'→Spn p R W A (B i))(hx:Spn p R' W B x):Spn p R W A x:=by
 obtain⟨c,hc⟩:=hx
 exact(Spn.sum h).congr hc
def Eqv(p:Int)(R W:Nat)(A B:Ent):Prop:=(∀ i,i<R→Spn p R W A (B i))∧(∀ i,i<R→Spn p R W B (A i))
theorem Eqv.refl{p:Int}{R W:Nat}{A:Ent}:Eqv p R W A A:=⟨fun _ h=>Spn.row h,fun _ h=>Spn.row h⟩
theorem Eqv.trans{p:Int}{R W:Nat}{A B C:Ent}(h:Eqv p R W A B)(k:Eqv p R W B C):Eqv p R W A C:=⟨fun i hi=>Spn.trans h.1 (k.1 i hi),fun i hi=>Spn.trans k.2 (h.2 i hi)⟩
theorem Eqv.sw{p:Int}{R W top q:Nat}{A:Ent}(ht:top<R)(hq:q<R):Eqv p R W A (qdf top q A):=by
 refine⟨fun i hi=>?_,fun i hi=>?_⟩
 ·unfold qdf
  split
  ·exact Spn.row hq
  ·split
   ·exact Spn.row ht
   ·exact Spn.row hi
 ·have key:∀ k,k<R→(qdf top q A) k=A i→Spn p R W (qdf top q A) (A i):=fun k hk e=>by rw[← e];exact Spn.row hk
  by_cases h1:i=top
  ·subst h1
   by_cases h2:q=i
   ·subst h2;exact key q hq (by simp[qdf])
   ·exact key q hq (by simp[qdf,h2])
  ·by_cases h2:i=q
   ·subst h2;exact key top ht (by simp[qdf])
   ·exact key i hi (by simp[qdf,h1,h2])
theorem Eqv.f{p:Int}{R W c top:Nat}{B:Ent}(hp:Pr p)(ht:top<R)(hl:1≤B top c∧B top c≤p-1):Eqv p R W B (elF p c top B):=by
 have hinv:=qoW hp hl.1 hl.2
 have hN:Spn p R W B (elN p c top B):=((Spn.row ht).smul (qks (B top c) p)).congr fun j _=>by
  show qks (B top c) p*B top j%p=(B top j*qks (B top c) p%p)%p
  rw[Int.emod_emod_of_dvd _ (Int.dvd_refl p),Int.mul_comm]
 have eTop:elF p c top B top=elN p c top B:=by funext j;simp[elF]
 have hN2:Spn p R W (elF p c top B) (elN p c top B):=by rw[← eTop];exact Spn.row ht
 refine⟨fun i hi=>?_,fun i hi=>?_⟩
 ·by_cases h1:i=top
  ·subst h1;rw[eTop];exact hN
  ·by_cases h2:B i c=0
   ·have e:elF p c top B i=B i:=by funext j;simp[elF,h1,h2]
    rw[e];exact Spn.row hi
   ·refine((Spn.row hi).add (hN.smul (p-B i c))).congr fun j _=>?_
    have e:elF p c top B i j=(B i j+(p-B i c)*elN p c top B j)%p:=by simp[elF,h1,h2]
    rw[e,Int.emod_emod_of_dvd _ (Int.dvd_refl p)]
 ·by_cases h1:i=top
  ·subst h1
   refine(hN2.smul (B i c)).congr fun j _=>?_
   show B i c*(B i j*qks (B i c) p%p)%p=B i j%p
   rw[Int.mul_emod,Int.emod_emod_of_dvd _ (Int.dvd_refl p),← Int.mul_emod,show B i c*(B i j*qks (B i c) p)=B i j*(B i c*qks (B i c) p) by rw[← Int.mul_assoc,Int.mul_comm (B i c),Int.mul_assoc],Int.mul_emod,hinv,Int.mul_one,Int.emod_emod_of_dvd _ (Int.dvd_refl p)]
  ·by_cases h2:B i c=0
   ·have e:elF p c top B i=B i:=by funext j;simp[elF,h1,h2]
    rw[← e];exact Spn.row hi
   ·refine((Spn.row hi).add (hN2.smul (B i c))).congr fun j _=>?_
    have e:elF p c top B i j=(B i j+(p-B i c)*elN p c top B j)%p:=by simp[elF,h1,h2]
    rw[e,Int.add_emod,Int.emod_emod_of_dvd _ (Int.dvd_refl p),← Int.add_emod,show B i j+(p-B i c)*elN p c top B j+B i c*elN p c top B j=B i j+p*elN p c top B j by rw[Int.sub_mul];omega,Int.add_mul_emod_self_left]
structure Rf (R c:Nat) (B:Ent) (pv:List Nat):Prop where
 len:pv.length≤R
 lt:∀ i,i<pv.length→pv.getD i 0<c
 mono:∀ i j,i<j→j<pv.length→pv.getD i 0<pv.getD j 0
 one:∀ i j,i<R→j<pv.length→B i (pv.getD j 0)=if i=j then 1 else 0
 low:∀ i j,i<pv.length→j<pv.getD i 0→B i j=0
 bot:∀ i j,pv.length≤i→i<R→j<c→B i j=0
end VeT
open Go Go.Proofs Ve
namespace VeT
theorem qcj{l:List Nat}{c i:Nat}(h:i<l.length):(l++[c]).getD i 0=l.getD i 0:=by
 rw[List.getD_eq_getElem?_getD,List.getD_eq_getElem?_getD,List.getElem?_append_left h]
theorem qdx{l:List Nat}{c:Nat}:(l++[c]).getD l.length 0=c:=by
 rw[List.getD_eq_getElem?_getD,List.getElem?_append_right (Nat.le_refl _)];simp
theorem Rf.next{p:Int}{R W c:Nat}{B:Ent}{pv:List Nat}(hp:Pr p)(hB:EIn p R W B)(hc:c<W)(h:Rf R c B pv){q:Nat}(hq:pv.length≤q∧q<R)(hne:B q c≠0) :
  Rf R (c+1) (elF p c pv.length (qdf pv.length q B)) (pv++[c]):=by
 obtain⟨hlen,hlt,hmono,hone,hlow,hbot⟩:=h
 generalize ht:pv.length=top at *
 have hB':EIn p R W (qdf top q B):=hB.sw (by omega) hq.2
 have rowLt:∀ i,i<top→qdf top q B i=B i:=fun i hi=>by
  unfold qdf;rw[if_neg (by omega),if_neg (by omega)]
 have rowGe:∀ i,top≤i→i<R→∀ j,j<c→qdf top q B i j=0:=fun i h1 h2 j hj=>by
  unfold qdf
  split
  ·exact hbot q j hq.1 hq.2 hj
  ·split
   ·exact hbot top j (Nat.le_refl _) (by omega) hj
   ·exact hbot i j h1 h2 hj
 have eLead:qdf top q B top c=B q c:=by simp[qdf]
 have hlead:1≤qdf top q B top c∧qdf top q B top c≤p-1:=by
  have:=hB q c hq.2 hc
  rw[eLead];omega
 generalize qdf top q B=B' at hB' rowLt rowGe eLead hlead
 have hinv:=qoW hp hlead.1 hlead.2
 have nLt:∀ j,j<c→elN p c top B' j=0:=fun j hj=>by
  unfold elN;rw[rowGe top (Nat.le_refl _) (by omega) j hj,Int.zero_mul];exact Int.zero_emod p
 have nC:elN p c top B' c=1:=hinv
 have fLt:∀ i j,i<R→j<c→elF p c top B' i j=B' i j:=fun i j hi hj=>by
  unfold elF
  split
  ·rename_i e;subst e;rw[nLt j hj,rowGe i (Nat.le_refl _) hi j hj]
  ·split
   ·rw[nLt j hj,Int.mul_zero,Int.add_zero]
    have:=hB' i j hi (by omega)
    exact Int.emod_eq_of_lt this.1 (by omega)
   ·rfl
 have fC:∀ i,i<R→elF p c top B' i c=if i=top then 1 else 0:=fun i hi=>by
  unfold elF
  split
  ·exact nC
  ·split
   ·rw[nC,Int.mul_one,show B' i c+(p-B' i c)=p by omega,Int.emod_self]
   ·rename_i _ h2;exact Classical.byContradiction fun e=>h2 e
 refine⟨?_,?_,?_,?_,?_,?_⟩
 ·rw[List.length_append,List.length_singleton,ht];omega
 ·intro i hi
  rw[List.length_append,List.length_singleton,ht] at hi
  by_cases hi2:i<top
  ·rw[qcj (by omega)];have:=hlt i hi2;omega
  ·obtain rfl:i=top:=by omega
   subst ht
   rw[qdx];omega
 ·intro i j hij hj
  rw[List.length_append,List.length_singleton,ht] at hj
  by_cases hj2:j<top
  ·rw[qcj (by omega),qcj (by omega)];exact hmono i j hij hj2
  ·obtain rfl:j=top:=by omega
   have:=hlt i hij
   subst ht
   rw[qcj hij,qdx];exact this
 ·intro i j hi hj
  rw[List.length_append,List.length_singleton,ht] at hj
  by_cases hj2:j<top
  ·have hpj:=hlt j hj2
   rw[qcj (by omega),fLt i _ hi hpj]
   by_cases hi2:i<top
   ·rw[rowLt i hi2];exact hone i j hi hj2
   ·rw[rowGe i (by omega) hi _ hpj,if_neg (by omega)]
  ·obtain rfl:j=top:=by omega
   have hfc:=fC i hi
   subst ht
   rw[qdx];exact hfc
 ·intro i j hi hj
  rw[List.length_append,List.length_singleton,ht] at hi
  by_cases hi2:i<top
  ·rw[qcj (by omega)] at hj
   have:=hlt i hi2
   rw[fLt i j (by omega) (by omega),rowLt i hi2];exact hlow i j hi2 hj
  ·obtain rfl:i=top:=by omega
   have hfl:j<c→elF p c i B' i j=0:=fun h=>by rw[fLt i j (by omega) h];exact rowGe i (Nat.le_refl _) (by omega) j h
   have e:(pv++[c]).getD i 0=c:=by rw[← ht];exact qdx
   rw[e] at hj
   exact hfl hj
 ·intro i j hi hiR hj
  rw[List.length_append,List.length_singleton,ht] at hi
  by_cases hjc:j<c
  ·rw[fLt i j hiR hjc];exact rowGe i (by omega) hiR j hjc
  ·obtain rfl:j=c:=by omega
   rw[fC i hiR,if_neg (by omega)]
theorem qoK{p:Int}{R W:Nat}{A:Ent}(hp:Pr p)(hA:EIn p R W A):∀ c,c≤W→Rf R c (elS p R A c).1 (elS p R A c).2∧Eqv p R W A (elS p R A c).1
 | 0,_=>⟨⟨Nat.zero_le _,fun i h=>by simp[elS] at h,fun i j _ h=>by simp[elS] at h,fun i j _ h=>by simp[elS] at h,fun i j h=>by simp[elS] at h,fun i j _ _ h=>by omega⟩,Eqv.refl⟩
 | c+1,hc=>by
  obtain⟨h1,h2⟩:=qoK hp hA c (by omega)
  have hB:=(qnl hp.1 hA c).1
  rw[elS,elP]
  generalize elS p R A c=S at h1 h2 hB
  obtain⟨B,pv⟩:=S
  simp only at h1 h2 hB ⊢
  cases hf:qa2 (fun i=>B i c≠0) pv.length (R-pv.length) with
  | none =>
   have hn:=qdK hf
   show Rf R (c+1) B pv∧Eqv p R W A B
   refine⟨⟨h1.len,fun i hi=>by have:=h1.lt i hi;omega,h1.mono,h1.one,h1.low,fun i j h3 h4 h5=>?_⟩,h2⟩
   by_cases hj:j<c
   ·exact h1.bot i j h3 h4 hj
   ·obtain rfl:j=c:=by omega
    exact Classical.byContradiction fun e=>hn i h3 (by omega) e
  | some q =>
   have hq:=qaN hf
   have hq2:pv.length≤q∧q<R:=by omega
   have hlead:1≤qdf pv.length q B pv.length c∧qdf pv.length q B pv.length c≤p-1:=by
    have e:qdf pv.length q B pv.length c=B q c:=by simp[qdf]
    have:=hB q c hq2.2 (by omega)
    have:=hq.2.2
    rw[e];omega
   exact⟨h1.next hp hB (by omega) hq2 hq.2.2,(h2.trans (Eqv.sw (by omega) hq2.2)).trans (Eqv.f hp (by omega) hlead)⟩
end VeT
open Go Go.Proofs Ve
namespace VeT
def qsG(a p:Int):Int:=Int.tmod (w64 (Int.tmod a p+p)) p
theorem qrl{a p:Int}(hp:2≤p∧p≤251)(ha:-1048576≤a∧a≤1048576):qsG a p=a%p:=by
 have h1:-p<Int.tmod a p∧Int.tmod a p<p:=by
  constructor
  ·by_cases h:a<0
   ·have:=Int.tmod_lt_of_pos (-a) (show 0<p by omega)
    rw[Int.neg_tmod] at this;omega
   ·have:=Int.tmod_nonneg p (show 0≤a by omega);omega
  ·exact Int.tmod_lt_of_pos a (by omega)
 have h2:Int.tmod a p%p=a%p:=by
  have:=Int.tmod_add_mul_tdiv a p
  have e:a=Int.tmod a p+p*Int.tdiv a p:=this.symm
  conv=>rhs;rw[e]
  rw[Int.add_mul_emod_self_left]
 unfold qsG
 rw[qai (by omega) (by omega),Int.tmod_eq_emod_of_nonneg (by omega),Int.add_emod_right,h2]
theorem qnS(a p:Int)(hp:2≤p):Ret E n_Z141 [dI a,dI p] ⟨o_Z141,(qsG a p,())⟩:=by
 refine qak ?_
 simp only[run_Z141,Z141.ev]
 exact qax (by simp;omega) (qax (by simp;omega) qan)
theorem qiQ(a p:Int)(hp:2≤p∧p≤251)(ha:0≤a∧a≤p-1):Ret E n_Z139 [dI a,dI p] ⟨o_Z139,(qks a p,())⟩:=by
 have e:w64 (p-2)=(((p-2).toNat:Nat):Int):=by rw[qai (by omega) (by omega)];omega
 refine qak ?_
 simp only[run_Z139,Z139.ev,e]
 refine Ev.start (p:=fun φ m=>Z139.l0 (mkR (run E (φ 0))) (φ 0) m a p 1 (((p-2).toNat:Nat):Int)=_) 1 ?_ (fun _ _ _ h=>h)
 refine qfL 1 (σ:=Nat×Int) (L:=fun φ m s=>Z139.l0 (mkR (run E (φ 0))) (φ 0) m a p s.2 (s.1:Int)) (fun _ _ _ _=>rfl) (fun s=>s.1≤1048576∧(0≤s.2∧s.2≤p-1)∧s.2*a ^ s.1%p=a ^ (p-2).toNat%p) (fun _=>_) (fun s=>s.1) (fun s hi ih=>?_) ((p-2).toNat,1) ⟨by show(p-2).toNat≤_;omega,by show 0≤(1:Int)∧(1:Int)≤p-1;omega,by show 1*_%p=_;rw[Int.one_mul]⟩
 obtain⟨m,q⟩:=s
 obtain⟨h2,h3,h4⟩:=hi
 simp only at h2 h3 h4 ih
 simp only[Z139.l0_succ _ qag]
 have hqa:=qjl (x:=q) (y:=a) (by omega) (by omega)
 refine qeE (fun hm=>qax (by simp;omega) ?_) fun hm=>qal ?_
 ·rw[qai (n:=q*a) (by omega) (by omega),Int.tmod_eq_emod_of_nonneg (by omega),qai (by omega) (by omega),show(m:Int)-1=((m-1:Nat):Int) by omega]
  refine ih (m-1,q*a%p) ⟨by show m-1≤_;omega,qhT (by omega),?_⟩ (by show m-1<m;omega)
  rw[← h4]
  show q*a%p*a ^ (m-1)%p=_
  have hx:(q*a%p)%p=(q*a)%p:=Int.emod_emod_of_dvd _ (Int.dvd_refl p)
  rw[qpE hx rfl]
  conv=>rhs;rw[show m=m-1+1 by omega,Int.pow_succ]
  rw[Int.mul_assoc,Int.mul_comm a]
 ·have hm:m=0:=by omega
  subst hm
  have:q=qks a p:=by unfold qks;rw[← h4,Int.pow_zero,Int.mul_one,Int.emod_eq_of_lt (by omega) (by omega)]
  rw[this]
def pvL(l:List Nat):Sim:=l.map fun(n:Nat)=>(n:Int)
theorem qjJ{l:List Nat}:(pvL l).length=l.length:=by simp[pvL]
theorem qq8{l:List Nat}{c:Nat}:pvL (l++[c])=pvL l++[(c:Int)]:=by simp[pvL]
end VeT
open Go Go.Proofs Ve
namespace VeT
end VeT
open Go Go.Proofs Ve
namespace VeT
theorem qgk{i W j:Nat}(h:i*W+j≤4611686018427387904):w64 (w64 ((i:Int)*(W:Int))+(j:Int))=((i*W+j:Nat):Int):=by
 rw[qa3,qai (n:=((i*W:Nat):Int)) (by omega) (by omega),qai (by omega) (by omega)];omega
theorem qel{A:Ent}{R W i j:Nat}(hi:i<R)(hj:j<W)(hRW:R*W≤1048576):(decide ((0:Int)≤((i*W+j:Nat):Int))&&decide (((i*W+j:Nat):Int)<((qat A W R).length:Int)))=true∧(qat A W R)[i*W+j]? = some (A i j):=by
 have:=qhP hi hj
 refine⟨?_,qb1 hi hj⟩
 simp only[Bool.and_eq_true,decide_eq_true_eq,qas];omega
theorem qeN(p:Int)(R W:Nat)(cells:Sim)(hp:2≤p∧p≤251)(hR:R≤1048576)(hW:W≤1048576)(hRW:R*W≤1048576)(hl:cells.length=R*W)(he:qaT cells p) :
    ∃ det:Int,Ret E n_Z144 [dM (p,(R:Int),(W:Int),cells,())] ⟨o_Z144,(p,(R:Int),(W:Int),qat (elS p R (qea cells W) W).1 W R,pvL (elS p R (qea cells W) W).2,det,())⟩:=by
  generalize hMt:(p,(R:Int),(W:Int),cells,())=M
  have M1:M.1=p:=by rw[← hMt]
  have M2:M.2.1=(R:Int):=by rw[← hMt]
  have M3:M.2.2.1=(W:Int):=by rw[← hMt]
  have M4:M.2.2.2.1=cells:=by rw[← hMt]
  have hA:=qf6 he hl
  have hfl:=qfD hl
  generalize qea cells W=A at hA hfl
  let G:Int→Option Dv:=fun det=>some ⟨o_Z144,(p,(R:Int),(W:Int),qat (elS p R A W).1 W R,pvL (elS p R A W).2,det,())⟩
  -- a column where no row is left
  have none_of:∀ c,(elS p R A c).2.length=R→elS p R A (c+1)=elS p R A c:=fun c h=>by
    show elP p R c (elS p R A c)=_
    rw[elP,h,Nat.sub_self];rfl
  have stay:∀ d c,c+d=W→(elS p R A c).2.length=R→elS p R A W=elS p R A c:=by
    intro d
    induction d with
    | zero=>intro c hc _;rw[show c=W by omega]
    | succ d ih =>
      intro c hc h
      have e:=none_of c h
      rw[ih (c+1) (by omega) (by rw[e];exact h),e]
  have key:∀ d c det,c+d=W→∃ det':Int,Ev fun φ=>Z144.l1 (mkR (run E (φ 0))) (φ 0) (φ 1) M p (W:Int) det ((elS p R A c).2.length:Int) (c:Int) 0 0 0 p (R:Int) (W:Int) (pvL (elS p R A c).2) (qat (elS p R A c).1 W R)=G det':=by
    intro d
    induction d with
    | zero =>
      intro c det hc
      obtain rfl:c=W:=by omega
      refine⟨det,Ev.round 1 (L:=fun φ n=>Z144.l1 (mkR (run E (φ 0))) (φ 0) n M p (c:Int) det ((elS p R A c).2.length:Int) (c:Int) 0 0 0 p (R:Int) (c:Int) (pvL (elS p R A c).2) (qat (elS p R A c).1 c R)) ?_ (fun _ _ _=>rfl)⟩
      simp only[Z144.l1_succ _ qag,Z144.j2_eq _ qag,cond_false]
      exact qaD (decide_eq_false (by omega)) qan
    | succ d ih =>
      intro c det hcd
      have hc:c<W:=by omega
      obtain⟨hB,hpl,hpc,_⟩:=qnl hp.1 hA c
      have hstep:elS p R A (c+1)=elP p R c (elS p R A c):=rfl
      by_cases hfull:(elS p R A c).2.length=R
      · refine⟨det,Ev.round 1 (L:=fun φ n=>Z144.l1 (mkR (run E (φ 0))) (φ 0) n M p (W:Int) det ((elS p R A c).2.length:Int) (c:Int) 0 0 0 p (R:Int) (W:Int) (pvL (elS p R A c).2) (qat (elS p R A c).1 W R)) ?_ (fun _ _ _=>rfl)⟩
        simp only[Z144.l1_succ _ qag,M2,hfull,show decide ((R:Int)<(R:Int))=false from decide_eq_false (by omega),Z144.j2_eq _ qag,cond_false]
        refine qaB (decide_eq_true (by omega)) (qal ?_)
        show _=some _
        rw[stay (d+1) c hcd hfull]
      · have htR:(elS p R A c).2.length<R:=by omega
        generalize hS:elS p R A c=S at hB hpl hpc hstep hfull htR
        obtain⟨B0,pv⟩:=S
        simp only at hB hpl hpc hstep hfull htR
        generalize ht:pv.length=top at hpl hpc hfull htR
        -- what lies behind the exchange
        have back:∀ q,top≤q→q<R→B0 q c≠0→elS p R A (c+1)=(elF p c top (qdf top q B0),pv++[c])→∀ det2,∃ det',Ev fun φ=>Z144.j6 (mkR (run E (φ 0))) (φ 0) (φ 1) M p (W:Int) det2 (top:Int) (c:Int) 0 0 0 p (R:Int) (W:Int) (pvL pv) (qat (qdf top q B0) W R)=G det':=fun q hq1 hqR hq2 e det2=>by
          have hsw:=hB.sw htR hqR
          have hlead:1≤qdf top q B0 top c∧qdf top q B0 top c≤p-1:=by
            have h1:=hsw top c htR hc
            have h2:qdf top q B0 top c=B0 q c:=by simp[qdf]
            rw[← h2] at hq2
            omega
          generalize qdf top q B0=B at hsw hlead e
          obtain⟨det',h'⟩:=ih (c+1) (Int.tmod (w64 (det2*B top c)) p) (by omega)
          rw[e] at h'
          simp only at h'
          rw[qq8,List.length_append,List.length_singleton,ht] at h'
          have hNin:∀ j,0≤elN p c top B j∧elN p c top B j≤p-1:=fun j=>qhT hp.1
          have hinv:=qrV (a:=B top c) (p:=p) hp.1
          have hinvR:=qiQ (B top c) p hp ⟨by omega,hlead.2⟩
          have hidx:∀ i j,i<R→j<W→i*W+j≤4611686018427387904:=fun i j hi hj=>by have:=qhP hi hj;omega
          refine⟨det',?_⟩
          simp only[Z144.j6_eq _ qag,qgk (hidx top c htR hc),Int.toNat_natCast]
          obtain⟨k1,k2⟩:=qel (A:=B) htR hc hRW
          refine qax k1 (qae k2 (qax (by simp;omega) (qaa hinvR ?_)))
          generalize Int.tmod (w64 (det2*B top c)) p=D at h' ⊢
          -- the loop that scales the row
          let N:Nat→Ent:=fun n i j=>if i=top∧j<n then elN p c top B j else B i j
          have hN0:qat (N 0) W R=qat B W R:=qaE fun i j _ _=>by simp[N]
          have hNW:qat (N W) W R=qat (elM p c top B) W R:=qaE fun i j _ hj=>by
            simp only[N,elM,hj,and_true]
          rw[← hN0]
          refine Ev.start (p:=fun φ n=>Z144.l7 (mkR (run E (φ 0))) (φ 0) (φ 1) n M p (W:Int) D (top:Int) (c:Int) (qks (B top c) p) 0 0 0 0 p (R:Int) (W:Int) (pvL pv) (qat (N 0) W R)=_) 2 ?_ (fun _ _ _ h=>h)
          refine qaw 2 (L:=fun φ n j o=>Z144.l7 (mkR (run E (φ 0))) (φ 0) (φ 1) n M p (W:Int) D (top:Int) (c:Int) (qks (B top c) p) j 0 0 0 p (R:Int) (W:Int) (pvL pv) o) (len:=W) (fun j=>qat (N j) W R) (fun _ _ _ _ _=>rfl) (fun j r hj ih2=>?_) ?_
          · simp only[Z144.l7_succ _ qag,qgk (hidx top j htR hj),Int.toNat_natCast]
            obtain⟨k1,k2⟩:=qel (A:=N j) htR hj hRW
            have hNj:N j top j=B top j:=by simp[N]
            rw[hNj] at k2
            have hb:=hsw top j htR hj
            have ev:=qsA (x:=B top j) (y:=qks (B top c) p) (p:=p) (by omega) (by omega) hp
            have hset:(qat (N j) W R).set (top*W+j) (B top j*qks (B top c) p%p)=qat (N (j+1)) W R:=by
              rw[qcJ htR hj]
              refine qaE fun k l _ _=>?_
              simp only[N]
              by_cases h1:k=top
              · subst h1
                by_cases h2:l=j
                · subst h2;simp[elN]
                · simp only[true_and,h2,if_false,and_false]
                  by_cases h3:l<j
                  · rw[if_pos h3,if_pos (by omega)]
                  · rw[if_neg h3,if_neg (by omega)]
              · simp[h1]
            refine qaB (decide_eq_true (by omega)) (qax k1 (qae k2 (qax (by simp;omega) (qax k1 ?_))))
            simp only[ev]
            rw[qah (by omega),hset];exact ih2
          · simp only[Z144.l7_succ _ qag]
            refine qaD (decide_eq_false (by omega)) ?_
            rw[hNW]
            -- the loop over the rows
            let K:Nat→Ent:=fun n i j=>if i<n then elF p c top B i j else elM p c top B i j
            have hK0:qat (K 0) W R=qat (elM p c top B) W R:=qaE fun i j _ _=>by simp[K]
            have hKR:qat (K R) W R=qat (elF p c top B) W R:=qaE fun i j hi _=>by simp[K,hi]
            rw[← hK0]
            refine Ev.start (p:=fun φ n=>Z144.l8 (mkR (run E (φ 0))) (φ 0) (φ 1) n M p (W:Int) D (top:Int) (c:Int) 0 0 0 0 p (R:Int) (W:Int) (pvL pv) (qat (K 0) W R)=_) 3 ?_ (fun _ _ _ h=>h)
            refine qaw 3 (L:=fun φ n i o=>Z144.l8 (mkR (run E (φ 0))) (φ 0) (φ 1) n M p (W:Int) D (top:Int) (c:Int) i 0 0 0 p (R:Int) (W:Int) (pvL pv) o) (len:=R) (fun i=>qat (K i) W R) (fun _ _ _ _ _=>rfl) (fun i r hi ih2=>?_) ?_
            · simp only[Z144.l8_succ _ qag,M2,qgk (hidx i c hi hc),Int.toNat_natCast]
              obtain⟨k1,k2⟩:=qel (A:=K i) hi hc hRW
              refine qaB (decide_eq_true (by omega)) (qax k1 (qae k2 ?_))
              by_cases hit:i=top
              · subst hit
                refine qaB (by simp) ?_
                simp only[Z144.j9_eq _ qag,cond_true]
                have hsame:qat (K (i+1)) W R=qat (K i) W R:=qaE fun k j _ _=>by
                  simp only[K]
                  by_cases h1:k=i
                  · subst h1;simp[elF,elM]
                  · by_cases h2:k<i
                    · rw[if_pos (by omega),if_pos h2]
                    · rw[if_neg (by omega),if_neg h2]
                rw[hsame] at ih2
                rw[qah (by omega)];exact ih2
              · have hM:∀ j,K i i j=B i j:=fun j=>by simp[K,elM,hit]
                rw[hM]
                have hBi:=hsw i c hi hc
                refine qaD (by simp;omega) ?_
                by_cases hz:B i c=0
                · simp only[hz,beq_self_eq_true,Z144.j9_eq _ qag,cond_true]
                  have hsame:qat (K (i+1)) W R=qat (K i) W R:=qaE fun k j _ _=>by
                    simp only[K]
                    by_cases h1:k=i
                    · subst h1;simp[elF,elM,hit,hz]
                    · by_cases h2:k<i
                      · rw[if_pos (by omega),if_pos h2]
                      · rw[if_neg (by omega),if_neg h2]
                  rw[hsame] at ih2
                  rw[qah (by omega)];exact ih2
                · have hne:(B i c==0)=false:=by simpa using hz
                  simp only[hne,Z144.j9_eq _ qag,cond_false]
                  let Q:Nat→Ent:=fun n k j=>if k=i∧j<n then elF p c top B i j else K i k j
                  have hQ0:qat (Q 0) W R=qat (K i) W R:=qaE fun k j _ _=>by simp[Q]
                  have hQW:qat (Q W) W R=qat (K (i+1)) W R:=qaE fun k j _ hj=>by
                    simp only[Q,K,hj,and_true]
                    by_cases h1:k=i
                    · subst h1;simp
                    · by_cases h2:k<i
                      · rw[if_neg h1,if_pos h2,if_pos (by omega)]
                      · rw[if_neg h1,if_neg h2,if_neg (by omega)]
                  rw[← hQ0]
                  refine Ev.start (p:=fun φ n=>Z144.l10 (mkR (run E (φ 0))) (φ 0) (φ 1) (φ 3) n M p (W:Int) D (top:Int) (c:Int) (i:Int) (B i c) 0 0 0 0 p (R:Int) (W:Int) (pvL pv) (qat (Q 0) W R)=_) 4 ?_ (fun _ _ _ h=>h)
                  refine qaw 4 (L:=fun φ n j o=>Z144.l10 (mkR (run E (φ 0))) (φ 0) (φ 1) (φ 3) n M p (W:Int) D (top:Int) (c:Int) (i:Int) (B i c) j 0 0 0 p (R:Int) (W:Int) (pvL pv) o) (len:=W) (fun j=>qat (Q j) W R) (fun _ _ _ _ _=>rfl) (fun j r2 hj ih3=>?_) ?_
                  · simp only[Z144.l10_succ _ qag,qgk (hidx i j hi hj),qgk (hidx top j htR hj),Int.toNat_natCast]
                    obtain⟨k1,k2⟩:=qel (A:=Q j) hi hj hRW
                    obtain⟨k3,k4⟩:=qel (A:=Q j) htR hj hRW
                    have q1:Q j i j=B i j:=by simp only[Q,Nat.lt_irrefl,and_false,if_false];exact hM j
                    have q2:Q j top j=elN p c top B j:=by
                      have:¬ top=i:=fun e=>hit e.symm
                      simp[Q,K,this,elF,elM]
                    rw[q1] at k2
                    rw[q2] at k4
                    have hbij:=hsw i j hi hj
                    have hnj:=hNin j
                    have hm:=qjl (x:=B i c) (y:=elN p c top B j) (by omega) (by omega)
                    have e1:w64 (B i c*elN p c top B j)=B i c*elN p c top B j:=qai (by omega) (by omega)
                    have e2:w64 (B i j-B i c*elN p c top B j)=B i j-B i c*elN p c top B j:=qai (by omega) (by omega)
                    have e3:qsG (B i j-B i c*elN p c top B j) p=elF p c top B i j:=by
                      rw[qrl hp (by omega)]
                      unfold elF
                      rw[if_neg hit,if_pos hz]
                      have:B i j+(p-B i c)*elN p c top B j=B i j-B i c*elN p c top B j+p*elN p c top B j:=by rw[Int.sub_mul];omega
                      rw[this,Int.add_mul_emod_self_left]
                    have hmod:=qnS (B i j-B i c*elN p c top B j) p hp.1
                    rw[e3] at hmod
                    have hset:(qat (Q j) W R).set (i*W+j) (elF p c top B i j)=qat (Q (j+1)) W R:=by
                      rw[qcJ hi hj]
                      refine qaE fun k l _ _=>?_
                      simp only[Q]
                      by_cases h1:k=i
                      · subst h1
                        by_cases h2:l=j
                        · subst h2;simp
                        · simp only[true_and,h2,if_false,and_false]
                          by_cases h3:l<j
                          · rw[if_pos h3,if_pos (by omega)]
                          · rw[if_neg h3,if_neg (by omega)]
                      · simp[h1]
                    refine qaB (decide_eq_true (by omega)) (qax k1 (qae k2 (qax k3 (qae k4 ?_))))
                    simp only[e1,e2]
                    refine qaa hmod (qax k1 ?_)
                    rw[qah (by omega)]
                    rw[← hset] at ih3
                    exact ih3
                  · simp only[Z144.l10_succ _ qag]
                    refine qaD (decide_eq_false (by omega)) ?_
                    rw[qah (by omega),hQW];exact ih2
            · simp only[Z144.l8_succ _ qag,M2]
              refine qaD (decide_eq_false (by omega)) (qax (by simp only[qjJ,List.length_cons,List.length_nil,decide_eq_true_eq];omega) ?_)
              rw[qah (by omega),qah (by omega),hKR]
              exact h'
        have hidx:∀ i j,i<R→j<W→i*W+j≤4611686018427387904:=fun i j hi hj=>by have:=qhP hi hj;omega
        -- the search for the row
        have search:∀ rs:Nat→Option Dv,∀ rn:Option Dv,(∀ q,top≤q→q<R→B0 q c≠0→(∀ i,top≤i→i<q→¬ B0 i c≠0)→Ev fun φ=>Z144.j4 (mkR (run E (φ 0))) (φ 0) (φ 1) (φ 2) M p (W:Int) det (top:Int) (c:Int) (q:Int) false 0 0 0 p (R:Int) (W:Int) (pvL pv) (qat B0 W R)=rs q) →
            ((∀ i,top≤i→i<R→¬ B0 i c≠0)→Ev fun φ=>Z144.j4 (mkR (run E (φ 0))) (φ 0) (φ 1) (φ 2) M p (W:Int) det (top:Int) (c:Int) (R:Int) false 0 0 0 p (R:Int) (W:Int) (pvL pv) (qat B0 W R)=rn) →
            Ev fun φ=>Z144.l3 (mkR (run E (φ 0))) (φ 0) (φ 1) (φ 0) M p (W:Int) det (top:Int) (c:Int) (top:Int) 0 0 0 p (R:Int) (W:Int) (pvL pv) (qat B0 W R)=orN rs rn (qa2 (fun i=>B0 i c≠0) top (R-top)):=fun rs rn hs hn=>by
          refine Ev.start (p:=fun φ n=>Z144.l3 (mkR (run E (φ 0))) (φ 0) (φ 1) n M p (W:Int) det (top:Int) (c:Int) (top:Int) 0 0 0 p (R:Int) (W:Int) (pvL pv) (qat B0 W R)=_) 2 ?_ (fun _ _ _ h=>h)
          -- the first one is kept in mind by the number of the round
          have go:∀ d a,top≤a→a+d=R→(∀ i,top≤i→i<a→¬ B0 i c≠0)→Ev fun φ=>Z144.l3 (mkR (run E (φ 0))) (φ 0) (φ 1) (φ 2) M p (W:Int) det (top:Int) (c:Int) (a:Int) 0 0 0 p (R:Int) (W:Int) (pvL pv) (qat B0 W R)=orN rs rn (qa2 (fun i=>B0 i c≠0) a d):=by
            intro d
            induction d with
            | zero =>
              intro a ha hk hno
              obtain rfl:a=R:=by omega
              refine Ev.round 2 (L:=fun φ n=>Z144.l3 (mkR (run E (φ 0))) (φ 0) (φ 1) n M p (W:Int) det (top:Int) (c:Int) (a:Int) 0 0 0 p (a:Int) (W:Int) (pvL pv) (qat B0 W a)) ?_ (fun _ _ _=>rfl)
              simp only[Z144.l3_succ _ qag,M2]
              exact qaD (decide_eq_false (by omega)) (hn hno)
            | succ d ih3 =>
              intro a ha hk hno
              have haR:a<R:=by omega
              refine Ev.round 2 (L:=fun φ n=>Z144.l3 (mkR (run E (φ 0))) (φ 0) (φ 1) n M p (W:Int) det (top:Int) (c:Int) (a:Int) 0 0 0 p (R:Int) (W:Int) (pvL pv) (qat B0 W R)) ?_ (fun _ _ _=>rfl)
              simp only[Z144.l3_succ _ qag,M2,qgk (hidx a c haR hc),Int.toNat_natCast]
              obtain⟨k1,k2⟩:=qel (A:=B0) haR hc hRW
              refine qaB (decide_eq_true (by omega)) (qax k1 (qae k2 ?_))
              rw[qa2]
              by_cases hz:B0 a c=0
              · rw[if_neg (by simpa using hz)]
                simp only[hz,beq_self_eq_true,Z144.j4_eq _ qag,cond_true]
                rw[qah (by omega)]
                refine ih3 (a+1) (by omega) (by omega) fun i h1 h2=>?_
                by_cases e:i=a
                · subst e;simpa using hz
                · exact hno i h1 (by omega)
              · rw[if_pos hz]
                have hne:(B0 a c==0)=false:=by simpa using hz
                simp only[hne]
                exact hs a ha haR hz hno
          exact go (R-top) top (Nat.le_refl _) (by omega) fun i h1 h2=>by omega
        have enter:∀ r,(Ev fun φ=>Z144.l3 (mkR (run E (φ 0))) (φ 0) (φ 1) (φ 0) M p (W:Int) det (top:Int) (c:Int) (top:Int) 0 0 0 p (R:Int) (W:Int) (pvL pv) (qat B0 W R)=r)→Ev fun φ=>Z144.l1 (mkR (run E (φ 0))) (φ 0) (φ 1) M p (W:Int) det (top:Int) (c:Int) 0 0 0 p (R:Int) (W:Int) (pvL pv) (qat B0 W R)=r:=fun r hr=>by
          refine Ev.round 1 (L:=fun φ n=>Z144.l1 (mkR (run E (φ 0))) (φ 0) n M p (W:Int) det (top:Int) (c:Int) 0 0 0 p (R:Int) (W:Int) (pvL pv) (qat B0 W R)) ?_ (fun _ _ _=>rfl)
          simp only[Z144.l1_succ _ qag,M2,show decide ((top:Int)<(R:Int))=true from decide_eq_true (by omega),Z144.j2_eq _ qag,cond_true]
          exact qaB (decide_eq_true (by omega)) hr
        cases hf:qa2 (fun i=>B0 i c≠0) top (R-top) with
        | none =>
          have e:elS p R A (c+1)=(B0,pv):=by rw[hstep,elP];simp only[ht,hf]
          obtain⟨det',h'⟩:=ih (c+1) det (by omega)
          rw[e] at h'
          simp only[ht] at h'
          refine⟨det',enter _ ?_⟩
          have:=search (fun _=>G det') (G det') (fun q h1 h2 h3 _=>absurd h3 (qdK hf q h1 (by omega))) fun _=>by
            simp only[Z144.j4_eq _ qag,cond_false,M2]
            refine qaB (by simp) ?_
            rw[qah (by omega)];exact h'
          rw[hf] at this
          exact this
        | some q =>
          have hq:=qaN hf
          have hqR:q<R:=by omega
          have e:elS p R A (c+1)=(elF p c top (qdf top q B0),pv++[c]):=by rw[hstep,elP];simp only[ht,hf]
          by_cases hqt:q=top
          · subst hqt
            obtain⟨det',h'⟩:=back q (Nat.le_refl _) hqR hq.2.2 e det
            have hself:qat (qdf q q B0) W R=qat B0 W R:=qaE fun i j _ _=>by
              unfold qdf
              by_cases h:i=q
              · subst h;simp
              · simp[h]
            rw[hself] at h'
            refine⟨det',enter _ ?_⟩
            have:=search (fun _=>G det') (G det') (fun q' h1 h2 h3 h4=>by
              obtain rfl:q'=q:=Classical.byContradiction fun hne=>h4 q (Nat.le_refl _) (by omega) hq.2.2
              simp only[Z144.j4_eq _ qag,cond_false,M2]
              exact qaD (by simp;omega) (qaD (by simp) h')) fun hno=>absurd hq.2.2 (hno q (Nat.le_refl _) hqR)
            rw[hf] at this
            exact this
          · obtain⟨det',h'⟩:=back q hq.1 hqR hq.2.2 e (w64 (p-det))
            refine⟨det',enter _ ?_⟩
            have:=search (fun _=>G det') (G det') (fun q' h1 h2 h3 h4=>by
              obtain rfl:q'=q:=by
                rcases Nat.lt_trichotomy q' q with h | h | h
                · exact absurd h3 (qfQ hf q' h1 h)
                · exact h
                · exact absurd hq.2.2 (h4 q hq.1 h)
              simp only[Z144.j4_eq _ qag,cond_false,M2]
              refine qaD (by simp;omega) (qaB (by simp;omega) ?_)
              -- the loop that exchanges the rows
              let X:Nat→Ent:=fun n i j=>if j<n then qdf top q' B0 i j else B0 i j
              have hX0:qat (X 0) W R=qat B0 W R:=qaE fun i j _ _=>by simp[X]
              have hXW:qat (X W) W R=qat (qdf top q' B0) W R:=qaE fun i j _ hj=>by simp[X,hj]
              rw[← hX0]
              refine Ev.start (p:=fun φ n=>Z144.l5 (mkR (run E (φ 0))) (φ 0) (φ 1) n M p (W:Int) (w64 (p-det)) (top:Int) (c:Int) (q':Int) 0 0 0 0 p (R:Int) (W:Int) (pvL pv) (qat (X 0) W R)=_) 3 ?_ (fun _ _ _ h=>h)
              refine qaw 3 (L:=fun φ n j o=>Z144.l5 (mkR (run E (φ 0))) (φ 0) (φ 1) n M p (W:Int) (w64 (p-det)) (top:Int) (c:Int) (q':Int) j 0 0 0 p (R:Int) (W:Int) (pvL pv) o) (len:=W) (fun j=>qat (X j) W R) (fun _ _ _ _ _=>rfl) (fun j r hj ih3=>?_) ?_
              · simp only[Z144.l5_succ _ qag,qgk (hidx q' j hqR hj),qgk (hidx top j htR hj),Int.toNat_natCast,List.length_set]
                obtain⟨k1,k2⟩:=qel (A:=X j) hqR hj hRW
                obtain⟨k3,k4⟩:=qel (A:=X j) htR hj hRW
                have x1:X j q' j=B0 q' j:=by simp[X]
                have x2:X j top j=B0 top j:=by simp[X]
                rw[x1] at k2
                rw[x2] at k4
                have hset:((qat (X j) W R).set (q'*W+j) (B0 top j)).set (top*W+j) (B0 q' j)=qat (X (j+1)) W R:=by
                  rw[qcJ hqR hj,qcJ htR hj]
                  refine qaE fun k l _ _=>?_
                  simp only[X]
                  by_cases hl:l=j
                  · subst hl
                    by_cases hk1:k=top
                    · subst hk1;simp[qdf]
                    · by_cases hk2:k=q'
                      · subst hk2;simp[qdf,hk1]
                      · simp[qdf,hk1,hk2]
                  · simp only[hl,and_false,if_false]
                    by_cases h3:l<j
                    · rw[if_pos h3,if_pos (by omega)]
                    · rw[if_neg h3,if_neg (by omega)]
                refine qaB (decide_eq_true (by omega)) (qax k1 (qae k2 (qax k3 (qae k4 (qax k1 (qax k3 ?_))))))
                rw[qah (by omega),hset];exact ih3
              · simp only[Z144.l5_succ _ qag]
                refine qaD (decide_eq_false (by omega)) ?_
                rw[hXW];exact h') fun hno=>absurd hq.2.2 (hno q hq.1 hqR)
            rw[hf] at this
            exact this
  obtain⟨det',h⟩:=key W 0 1 (by omega)
  refine⟨det',qak ?_⟩
  have h0:qat (elS p R A 0).1 W R=cells:=hfl
  rw[h0] at h
  simp only[run_Z144,Z144.ev,Z144.j0_eq _ qag,M1,M2,M3,M4]
  have own:=qcE cells (by omega)
  have st:=Ev.start (p:=fun φ n=>Z144.l1 (mkR (run E (φ 0))) (φ 0) n M p (W:Int) 1 0 0 0 0 0 p (R:Int) (W:Int) [] cells=G det') 1 h (fun _ _ _ h=>h)
  exact qdc (qaa own st) (qaa own st)
end VeT
