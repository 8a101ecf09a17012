import Derived.Test.YtjnnliedeobfgaaGreatT5
import Derived.Test.YtjnnliedeobfgaaGreatV2
import Derived.KernelRfl
set_option linter.unusedVariables false
set_option linter.unusedSimpArgs false
open Go Go.Proofs Ve
namespace VeT
theorem qm5(p r:Int)(C:Nat)(cells:Sim)(i j:Nat)(h:i*C+j<cells.length)(hl:cells.length≤1048576):Ret E n_Z7 [dI p,dI r,dI (C:Int),dL cells,dI (i:Int),dI (j:Int)] ⟨o_Z7,(cells[i*C+j],())⟩:=by
 refine qak ?_
 simp only[run_Z7,Z7.ev]
 rw[qa2,qag (n:=((i*C:Nat):Int)) (by omega) (by omega),qag (by omega) (by omega),show((i*C:Nat):Int)+(j:Int)=((i*C+j:Nat):Int) by omega]
 exact qab (qai h) qam
theorem qe5(p r:Int)(C:Nat)(cells:Sim)(i:Nat)(h:(i+1)*C≤cells.length)(hi:i≤1048576)(hl:cells.length≤1048576):Ret E n_Z8 [dI p,dI r,dI (C:Int),dL cells,dI (i:Int)] ⟨o_Z8,((cells.take ((i+1)*C)).drop (i*C),())⟩:=by
 refine qak ?_
 simp only[run_Z8,Z8.ev]
 have h1:i*C≤(i+1)*C:=Nat.mul_le_mul_right _ (by omega)
 have e1:w64 ((i:Int)*(C:Int))=((i*C:Nat):Int):=by rw[qa2];exact qag (by omega) (by omega)
 have e2:w64 ((i:Int)+1)=((i+1:Nat):Int):=qae (by omega)
 have e3:w64 (((i+1:Nat):Int)*(C:Int))=(((i+1)*C:Nat):Int):=by rw[qa2];exact qag (by omega) (by omega)
 simp only[e1,e2,e3,Int.toNat_natCast]
 exact qan (by simp only[Bool.and_eq_true,decide_eq_true_eq];omega) qam
theorem qkz(s:Sim)(hs:s.length≤1048576):Ret E n_Z72 [dL s] ⟨o_Z72,(s,())⟩:=by
 refine qak ?_
 simp only[run_Z72,Z72.ev,Z72.j0_eq _ qaf,cond_true,cond_false]
 have h:Ev fun φ=>(Option.bind (chk (decide ((List.length ([]:List Int)+List.length s)*8≤70368744177664))) fun _=>some (⟨o_Z72,((([]:List Int)++s),())⟩:Dv))=some ⟨o_Z72,(s,())⟩ :=
  qan (by simp;omega) (qaj rfl)
 cases s with
 | nil=>exact qax rfl (qcB qam h)
 | cons a s=>exact qaB rfl h
theorem qh5(m:Mat)(C:Nat)(i j:Nat)(hC:m.2.2.1=(C:Int))(h:j*C+i<m.2.2.2.1.length)(hl:m.2.2.2.1.length≤1048576):Ret E n_Z62 [dI (i:Int),dI (j:Int),dM m] ⟨o_Z62,(m.2.2.2.1.getD (j*C+i) 0,())⟩:=by
 rw[qad h]
 refine qak ?_
 simp only[run_Z62,Z62.ev]
 rw[hC]
 exact qaa (qm5 _ _ C _ j i h hl) qam
theorem qqO(a b:Sim)(p:Int)(hp:2≤p∧p≤251)(ha:a.length≤32)(hb:a.length≤b.length)(ea:∀ x∈a,0≤x∧x≤250)(eb:∀ x∈b,0≤x∧x≤250) :
  Ret E n_Z27 [dL a,dL b,dI p] ⟨o_Z27,(qaJ (fun l=>a.getD l 0) (fun l=>b.getD l 0) a.length%p,())⟩:=by
 refine qak ?_
 simp only[run_Z27,Z27.ev]
 refine Ev.start (p:=fun φ n=>Z27.l0 (mkR (run E (φ 0))) (φ 0) n a b p 0 (a.length:Int) 0=_) 1 ?_ (fun _ _ _ h=>h)
 have:=qao 1 (L:=fun φ n k s=>Z27.l0 (mkR (run E (φ 0))) (φ 0) n a b p s (a.length:Int) k) (len:=a.length) (fun k=>qaJ (fun l=>a.getD l 0) (fun l=>b.getD l 0) k%p) (r:=some ⟨o_Z27,(qaJ (fun l=>a.getD l 0) (fun l=>b.getD l 0) a.length%p,())⟩) (fun _ _ _ _ _=>rfl) (fun k r hk ih=>?_) ?_
 ·simpa [qaJ] using this
 ·simp only[Z27.l0_succ _ qaf]
  have hkb:k<b.length:=by omega
  have hm:=qeC (ea _ (List.getElem_mem hk)) (eb _ (List.getElem_mem hkb))
  have h0:=Int.emod_nonneg (qaJ (fun l=>a.getD l 0) (fun l=>b.getD l 0) k) (show p≠0 by omega)
  have h1:=Int.emod_lt_of_pos (qaJ (fun l=>a.getD l 0) (fun l=>b.getD l 0) k) (show 0<p by omega)
  refine qax (decide_eq_true (by omega)) (qab (qai hk) (qab (qai hkb) (qan (by simp;omega) ?_)))
  rw[qag (n:=a[k]*b[k]) (by omega) (by omega),qag (by omega) (by omega),Int.tmod_eq_emod_of_nonneg (by omega),Int.emod_add_emod,qae (by omega)]
  simp only[qaJ] at ih
  rw[qad hk,qad hkb] at ih
  exact ih
 ·simp only[Z27.l0_succ _ qaf]
  exact qaB (decide_eq_false (by omega)) qam
theorem qm2(p:Int)(R C:Nat)(cells:Sim)(hl:cells.length=R*C)(hR:R≤32)(hC:C≤32):Ret E n_Z56 [dI p,dI (R:Int),dI (C:Int),dL cells] ⟨o_Z56,((List.range R).map fun i=>(cells.take ((i+1)*C)).drop (i*C),())⟩:=by
 have h1024:=qdI hR hC
 refine qak ?_
 simp only[run_Z56,Z56.ev]
 refine Ev.start (p:=fun φ n=>Z56.l0 (mkR (run E (φ 0))) (φ 0) n (R:Int) 0 p (R:Int) (C:Int) cells []=_) 1 ?_ (fun _ _ _ h=>h)
 refine qao 1 (L:=fun φ n k a=>Z56.l0 (mkR (run E (φ 0))) (φ 0) n (R:Int) k p (R:Int) (C:Int) cells a) (len:=R) (fun k=>(List.range k).map fun i=>(cells.take ((i+1)*C)).drop (i*C)) (fun _ _ _ _ _=>rfl) (fun k r hk ih=>?_) ?_
 ·simp only[Z56.l0_succ _ qaf]
  have hle:(k+1)*C≤R*C:=Nat.mul_le_mul_right _ hk
  rw[List.range_succ,List.map_append] at ih
  refine qax (decide_eq_true (by omega)) (qaa (qe5 p _ C cells k (by omega) (by omega) (by omega)) (qaa (qkz _ (by simp;omega)) (qan (by simp;omega) ?_)))
  rw[qae (by omega)];exact ih
 ·simp only[Z56.l0_succ _ qaf]
  exact qaB (decide_eq_false (by omega)) qam
end VeT
open Go Go.Proofs Ve
namespace VeT
theorem qaI.get{v:Sim}{p:Int}(h:qaI v p)(hp:2≤p∧p≤251)(i:Nat):0≤v.getD i 0∧v.getD i 0≤250:=by
 by_cases hi:i<v.length
 ·rw[qad hi]
  have:=h _ (List.getElem_mem hi)
  omega
 ·rw[List.getD_eq_getElem?_getD,List.getElem?_eq_none (by omega)];simp
theorem qaI.mem{v:Sim}{p:Int}(h:qaI v p)(hp:2≤p∧p≤251):∀ x∈v,0≤x∧x≤250:=fun x hx=>by
 have:=h x hx;omega
def qjp(p:Int)(ca cb:Sim)(K C i j:Nat):Int:=qaJ (fun l=>ca.getD (i*K+l) 0) (fun l=>cb.getD (l*C+j) 0) K%p
def qdo(a b:Mat):Mat:=(a.1,a.2.1,b.2.2.1,qaq (qjp a.1 a.2.2.2.1 b.2.2.2.1 a.2.2.1.toNat b.2.2.1.toNat) b.2.2.1.toNat a.2.1.toNat,())
def qfm(K C:Nat)(cb:Sim):List Sim:=(List.range C).map fun i=>(List.range K).map fun j=>cb.getD (j*C+i) 0
theorem qjT(q:Int)(K C:Nat)(cb:Sim)(hl:cb.length=K*C)(hK:K≤32)(hC:C≤32):Ret E n_Z61 [dI q,dI (K:Int),dI (C:Int),dL cb] ⟨o_Z61,(q,(C:Int),(K:Int),qaq (fun i j=>cb.getD (j*C+i) 0) K C,())⟩:=by
 have h1:=qdI hK hC
 have h2:=qdI hC hK
 refine qak ?_
 simp only[run_Z61,Z61.ev]
 refine qaa (qcS q C K ((q,(K:Int),(C:Int),cb,()),()) (fun i j=>cb.getD (j*C+i) 0) (by omega) (by omega) (by omega) fun i j hi hj=>?_) qam
 exact qh5 (q,(K:Int),(C:Int),cb,()) C i j rfl (by show _<cb.length;rw[hl];exact qeO hj hi) (by show cb.length≤_;omega)
theorem qjG(q:Int)(K C:Nat)(cb:Sim)(hl:cb.length=K*C)(hK:K≤32)(hC:C≤32):Ret E n_Z24 [dI q,dI (K:Int),dI (C:Int),dL cb] ⟨o_Z24,(qfm K C cb,())⟩:=by
 refine qak ?_
 simp only[run_Z24,Z24.ev]
 refine qaa (qjT q K C cb hl hK hC) (qaa (qm2 q C K _ qas hC hK) (qaj ?_))
 have:((List.range C).map fun i=>((qaq (fun i j=>cb.getD (j*C+i) 0) K C).take ((i+1)*K)).drop (i*K))=qfm K C cb :=
  List.map_congr_left fun i hi=>qkQ (List.mem_range.1 hi)
 rw[this]
theorem qnW{K C:Nat}{cb:Sim}{q:Int}(hb:qaI cb q)(hq:2≤q∧q≤251){j:Nat}(hj:j<(qfm K C cb).length):∀ x∈(qfm K C cb)[j],0≤x∧x≤250:=by
 intro x hx
 have hm:=List.getElem_mem hj
 generalize (qfm K C cb)[j]=y at hm hx
 unfold qfm at hm
 rw[List.mem_map] at hm
 obtain⟨i,_,rfl⟩:=hm
 rw[List.mem_map] at hx
 obtain⟨l,_,rfl⟩:=hx
 exact hb.get hq _
theorem qjQ(p:Int)(R K C:Nat)(ca cb:Sim)(i j:Nat)(hi:i<R)(hj:j<C)(hp:2≤p∧p≤251)(hla:ca.length=R*K)(hR:R≤32)(hK:K≤32)(ea:qaI ca p){q:Int}(hq:2≤q∧q≤251)(eb:qaI cb q) :
  Ret E n_Z52 [dI (i:Int),dI (j:Int),dM (p,(R:Int),(K:Int),ca,()),⟨.ptr (.cons (.sl (.sl (.int .i64))) .nil),(qfm K C cb,())⟩] ⟨o_Z52,(qjp p ca cb K C i j,())⟩:=by
 have h1:=qdI hR hK
 have hle:(i+1)*K≤R*K:=Nat.mul_le_mul_right _ hi
 have hjl:j<(qfm K C cb).length:=by simp[qfm,hj]
 have hcl:((qfm K C cb)[j]).length=K:=by simp[qfm]
 have hrl:((ca.take ((i+1)*K)).drop (i*K)).length=K:=by
  rw[List.length_drop,List.length_take,Nat.min_eq_left (by omega),Nat.add_mul];omega
 refine qak ?_
 simp only[run_Z52,Z52.ev]
 refine qab (qai hjl) (qaa (qe5 p _ K ca i (by omega) (by omega) (by omega)) (qaa (qqO ((ca.take ((i+1)*K)).drop (i*K)) ((qfm K C cb)[j]) p hp (by omega) (by omega) (fun x hx=>ea.mem hp x (List.mem_of_mem_take (List.mem_of_mem_drop hx))) (qnW eb hq hjl)) (qaj ?_)))
 rw[hrl]
 have:qaJ (fun l=>((ca.take ((i+1)*K)).drop (i*K)).getD l 0) (fun l=>((qfm K C cb)[j]).getD l 0) K=qaJ (fun l=>ca.getD (i*K+l) 0) (fun l=>cb.getD (l*C+j) 0) K:=qaA fun l hl=>⟨by
  rw[List.getD_eq_getElem?_getD,List.getD_eq_getElem?_getD,List.getElem?_drop,List.getElem?_take_of_lt (by rw[Nat.add_mul];omega)],by
  simp[qfm,List.getD_eq_getElem?_getD,hl]⟩
 rw[this];rfl
theorem VM.nat{m:Mat}(h:VM m):∃ R K:Nat,m=(m.1,(R:Int),(K:Int),m.2.2.2.1,())∧R≤32∧K≤32∧m.2.2.2.1.length=R*K:=by
 obtain⟨p,r,k,c,⟨⟩⟩:=m
 obtain⟨_,h2,h3,h4,_⟩:=h
 simp only at h2 h3 h4
 obtain⟨R,rfl⟩:=Int.eq_ofNat_of_zero_le h2.1
 obtain⟨K,rfl⟩:=Int.eq_ofNat_of_zero_le h3.1
 refine⟨R,K,rfl,by omega,by omega,?_⟩
 rw[qa2] at h4;simp only;omega
theorem qie(a b:Mat)(ha:VM a)(hb:VM b)(hab:a.2.2.1=b.2.1):Ret E n_Z51 [dI a.1,dI a.2.1,dI a.2.2.1,dL a.2.2.2.1,dI b.1,dI b.2.1,dI b.2.2.1,dL b.2.2.2.1] ⟨o_Z51,qdo a b⟩:=by
  obtain⟨R,K,ea,hR,hK,hla⟩:=ha.nat
  obtain⟨K',C,eb,hK',hC,hlb⟩:=hb.nat
  have pa:2≤a.1∧a.1≤251:=⟨ha.1.1,ha.1.2.1⟩
  have pb':2≤b.1∧b.1≤251:=⟨hb.1.1,hb.1.2.1⟩
  have ela:=ha.2.2.2.2
  have elb:=hb.2.2.2.2
  rw[ea,eb] at hab
  obtain rfl : K = K' := by have hab : (K : Int) = (K' : Int) := hab
                            omega
  rw[ea,eb]
  simp only
  refine qak ?_
  simp only[run_Z51,Z51.ev]
  have hRC:=qdI hR hC
  refine qaa (qjG _ K C _ hlb hK hC) (qaa (qdi a.1 R C ((a.1,(R:Int),(K:Int),a.2.2.2.1,()),(qfm K C b.2.2.2.1,()),()) (qjp a.1 a.2.2.2.1 b.2.2.2.1 K C) (by omega) (by omega) (by omega) fun i j hi hj=>?_) (qaj ?_))
  · exact qjQ a.1 R K C _ _ i j hi hj pa hla hR hK ela pb' elb
  · simp only[qdo,Int.toNat_natCast]
theorem qcl(p:Int)(R C:Nat)(hR:R≤32)(hC:C≤32):Ret E n_Z126 [dI p,dI (R:Int),dI (C:Int)] ⟨o_Z126,(p,(R:Int),(C:Int),List.replicate (R*C) 0,())⟩:=by
 have h1:=qdI hR hC
 have e1:w64 ((R:Int)*(C:Int))=((R*C:Nat):Int):=by rw[qa2];exact qag (by omega) (by omega)
 refine qak ?_
 simp only[run_Z126,Z126.ev,e1,Int.toNat_natCast]
 exact qan (by simp only[Bool.and_eq_true,decide_eq_true_eq];omega) qam
theorem qew(a b:Mat)(ha:VM a)(hb:VM b)(hab:a.2.2.1=b.2.1):Ret E n_Z124 [dM a,dM b] ⟨o_Z124,qdo a b⟩:=by
  obtain⟨R,K,ea,hR,hK,hla⟩:=ha.nat
  obtain⟨K',C,eb,hK',hC,hlb⟩:=hb.nat
  have pa:2≤a.1∧a.1≤251:=⟨ha.1.1,ha.1.2.1⟩
  have pb':2≤b.1∧b.1≤251:=⟨hb.1.1,hb.1.2.1⟩
  have ela:=ha.2.2.2.2
  have elb:=hb.2.2.2.2
  rw[ea,eb] at hab
  obtain rfl : K = K' := by have hab : (K : Int) = (K' : Int) := hab
                            omega
  obtain⟨p,r,k,ca,⟨⟩⟩:=a
  obtain⟨q,k',c,cb,⟨⟩⟩:=b
  simp only[Prod.mk.injEq,true_and,and_true] at ea eb pa pb' ela elb hla hlb
  obtain⟨rfl,rfl⟩:=ea
  obtain⟨rfl,rfl⟩:=eb
  have hRC:=qdI hR hC
  have hRK:=qdI hR hK
  have hKC:=qdI hK hC
  have hM:qdo (p,(R:Int),(K:Int),ca,()) (q,(K:Int),(C:Int),cb,())=(p,(R:Int),(C:Int),qaq (qjp p ca cb K C) C R,()):=by simp[qdo]
  rw[hM]
  refine qak ?_
  simp only[run_Z124,Z124.ev,Z124.j0_eq _ qaf]
  suffices h:Ev fun φ=>Z124.l1 (mkR (run E (φ 0))) (φ 0) (φ 0) (p,(R:Int),(K:Int),ca,()) (q,(K:Int),(C:Int),cb,()) 0 0 0 0 p (R:Int) (C:Int) (List.replicate (R*C) 0)=some ⟨o_Z124,(p,(R:Int),(C:Int),qaq (qjp p ca cb K C) C R,())⟩ by
    exact qcB (qaa (qcl p R C hR hC) h) (qaa (qcl p R C hR hC) h)
  refine Ev.start (p:=fun φ n=>Z124.l1 (mkR (run E (φ 0))) (φ 0) n (p,(R:Int),(K:Int),ca,()) (q,(K:Int),(C:Int),cb,()) 0 0 0 0 p (R:Int) (C:Int) (List.replicate (R*C) 0)=_) 1 ?_ (fun _ _ _ h=>h)
  have:=qao 1 (L:=fun φ n i o=>Z124.l1 (mkR (run E (φ 0))) (φ 0) n (p,(R:Int),(K:Int),ca,()) (q,(K:Int),(C:Int),cb,()) i 0 0 0 p (R:Int) (C:Int) o) (len:=R) (fun i=>qaq (qjp p ca cb K C) C i++List.replicate ((R-i)*C) 0) (r:=some ⟨o_Z124,(p,(R:Int),(C:Int),qaq (qjp p ca cb K C) C R,())⟩) (fun _ _ _ _ _=>rfl) (fun i r hi ih=>?_) ?_
  · simpa [qaq] using this
  · simp only[Z124.l1_succ _ qaf]
    refine qax (decide_eq_true (by omega)) ?_
    refine Ev.start (p:=fun φ n=>Z124.l2 (mkR (run E (φ 0))) (φ 0) (φ 1) n (p,(R:Int),(K:Int),ca,()) (q,(K:Int),(C:Int),cb,()) (i:Int) 0 0 0 0 p (R:Int) (C:Int) (qaq (qjp p ca cb K C) C i++List.replicate ((R-i)*C) 0)=_) 2 ?_ (fun _ _ _ h=>h)
    have hRi:(R-i)*C=(R-(i+1))*C+C:=by
      rw[show R-i=(R-(i+1))+1 by omega,Nat.add_mul];omega
    have hiC:(i+1)*C≤R*C:=Nat.mul_le_mul_right _ hi
    have hiK:(i+1)*K≤R*K:=Nat.mul_le_mul_right _ hi
    rw[Nat.add_mul] at hiC hiK
    have:=qao 2 (L:=fun φ n j o=>Z124.l2 (mkR (run E (φ 0))) (φ 0) (φ 1) n (p,(R:Int),(K:Int),ca,()) (q,(K:Int),(C:Int),cb,()) (i:Int) j 0 0 0 p (R:Int) (C:Int) o) (len:=C) (fun j=>(qaq (qjp p ca cb K C) C i++(List.range j).map (qjp p ca cb K C i))++List.replicate ((R-i)*C-j) 0) (r:=r) (fun _ _ _ _ _=>rfl) (fun j r hj ih=>?_) ?_
    · simpa using this
    · simp only[Z124.l2_succ _ qaf]
      refine qax (decide_eq_true (by omega)) ?_
      have hpl:(qaq (qjp p ca cb K C) C i++(List.range j).map (qjp p ca cb K C i)).length=i*C+j:=by simp[qas]
      have hsp:(R-i)*C-j=((R-i)*C-(j+1))+1:=by omega
      generalize hO:(qaq (qjp p ca cb K C) C i++(List.range j).map (qjp p ca cb K C i))++List.replicate ((R-i)*C-j) 0=O
      have hOl:O.length=R*C:=by
        rw[← hO,List.length_append,hpl,List.length_replicate,hRi]
        have:R*C=(R-(i+1))*C+(i*C+C):=by
          have e:R=(R-(i+1))+(i+1):=by omega
          have:=congrArg (·*C) e
          simp only[Nat.add_mul,Nat.one_mul] at this ⊢;omega
        omega
      refine Ev.start (p:=fun φ n=>Z124.l3 (mkR (run E (φ 0))) (φ 0) (φ 1) (φ 2) n (p,(R:Int),(K:Int),ca,()) (q,(K:Int),(C:Int),cb,()) (i:Int) (j:Int) 0 0 0 0 0 p (R:Int) (C:Int) O=_) 3 ?_ (fun _ _ _ h=>h)
      refine qao 3 (L:=fun φ n l s=>Z124.l3 (mkR (run E (φ 0))) (φ 0) (φ 1) (φ 2) n (p,(R:Int),(K:Int),ca,()) (q,(K:Int),(C:Int),cb,()) (i:Int) (j:Int) s l 0 0 0 p (R:Int) (C:Int) O) (len:=K) (fun l=>qaJ (fun l=>ca.getD (i*K+l) 0) (fun l=>cb.getD (l*C+j) 0) l) (fun _ _ _ _ _=>rfl) (fun l r hl ih=>?_) ?_
      · simp only[Z124.l3_succ _ qaf]
        have b1:=qhx (f:=fun l=>ca.getD (i*K+l) 0) (g:=fun l=>cb.getD (l*C+j) 0) (n:=l) fun l _=>⟨ela.get pa _,elb.get pb' _⟩
        have b2:=qeC (ela.get pa (i*K+l)) (elb.get pb' (l*C+j))
        have hlC:(l+1)*C≤K*C:=Nat.mul_le_mul_right _ hl
        rw[Nat.add_mul] at hlC
        have e1:w64 (w64 ((i:Int)*(K:Int))+(l:Int))=((i*K+l:Nat):Int):=by
          rw[qa2,qag (n:=((i*K:Nat):Int)) (by omega) (by omega),qag (by omega) (by omega)];omega
        have e2:w64 (w64 ((l:Int)*(C:Int))+(j:Int))=((l*C+j:Nat):Int):=by
          rw[qa2,qag (n:=((l*C:Nat):Int)) (by omega) (by omega),qag (by omega) (by omega)];omega
        simp only[e1,e2]
        have i1:i*K+l<ca.length:=by omega
        have i2:l*C+j<cb.length:=by omega
        refine qax (decide_eq_true (by omega)) (qab (qai i1) (qab (qai i2) ?_))
        simp only[qaJ] at ih
        rw[qad i1,qad i2] at ih b2
        rw[qag (n:=ca[i*K+l]*cb[l*C+j]) (by omega) (by omega),qag (by omega) (by omega),qae (by omega)]
        exact ih
      · simp only[Z124.l3_succ _ qaf]
        have b1:=qhx (f:=fun l=>ca.getD (i*K+l) 0) (g:=fun l=>cb.getD (l*C+j) 0) (n:=K) fun l _=>⟨ela.get pa _,elb.get pb' _⟩
        have e1:w64 (w64 ((i:Int)*(C:Int))+(j:Int))=((i*C+j:Nat):Int):=by
          rw[qa2,qag (n:=((i*C:Nat):Int)) (by omega) (by omega),qag (by omega) (by omega)];omega
        simp only[e1,Int.toNat_natCast]
        refine qaB (decide_eq_false (by omega)) (qan (by simp;omega) (qan (by simp only[Bool.and_eq_true,decide_eq_true_eq];omega) ?_))
        rw[Int.tmod_eq_emod_of_nonneg (by omega),qae (by omega),← hO,hsp,← hpl,qqD]
        rw[List.range_succ,List.map_append,← List.append_assoc] at ih
        exact ih
    · simp only[Z124.l2_succ _ qaf]
      refine qaB (decide_eq_false (by omega)) ?_
      rw[qae (by omega),hRi,Nat.add_sub_cancel]
      exact ih
  · simp only[Z124.l1_succ _ qaf]
    refine qaB (decide_eq_false (by omega)) (qaj ?_)
    simp
end VeT
open Go Go.Proofs Ve
namespace VeT
theorem qna(a b:Sim)(ha:a.length≤1048576):Ret E n_Z83 [dL a,dL b] ⟨o_Z83,(pb (a=b),())⟩:=by
 refine qak ?_
 simp only[run_Z83,Z83.ev]
 refine qb7 (fun h=>qaj ?_) fun h=>?_
 ·have h:(a.length:Int)≠b.length:=by simpa using h
  rw[qar fun e=>h (by rw[e])]
 ·have h:(a.length:Int)=b.length:=by simpa using h
  refine Ev.start (p:=fun φ n=>Z83.l0 (mkR (run E (φ 0))) (φ 0) n a b (a.length:Int) 0=_) 1 ?_ (fun _ _ _ h=>h)
  refine(qcY 1 (L:=fun φ n k=>Z83.l0 (mkR (run E (φ 0))) (φ 0) n a b (a.length:Int) k) (len:=a.length) 0 (by omega) (fun j=>a.getD j 0=b.getD j 0) (fun b=>some ⟨o_Z83,(b,())⟩) (fun _ _ _ _=>rfl) (fun k h1 h2 hP _=>?_) (fun k r h1 h2 hP _ ih=>?_) (fun _=>?_)).to ?_
  ·simp only[Z83.l0_succ _ qaf]
   have hb:k<b.length:=by omega
   rw[qad h2,qad hb] at hP
   exact qax (decide_eq_true (by omega)) (qab (qai h2) (qab (qai hb) (qax (by simpa using hP) qam)))
  ·simp only[Z83.l0_succ _ qaf]
   have hb:k<b.length:=by omega
   rw[qad h2,qad hb] at hP
   refine qax (decide_eq_true (by omega)) (qab (qai h2) (qab (qai hb) (qaB (by simpa using hP) ?_)))
   rw[qae (by omega)];exact ih
  ·simp only[Z83.l0_succ _ qaf]
   exact qaB (decide_eq_false (by omega)) qam
  ·refine congrArg (fun b:Bool=>some (⟨o_Z83,(b,())⟩:Dv)) (qaN ⟨fun hh=>List.ext_getElem (by omega) fun j h1 h2=>?_,fun hh j _ _=>by rw[hh]⟩)
   have:=hh j (by omega) h1
   rwa [qad h1,qad h2] at this
theorem qd4{a b:Mat}:a=b↔a.1=b.1∧a.2.1=b.2.1∧a.2.2.1=b.2.2.1∧a.2.2.2.1=b.2.2.2.1:=by
 obtain⟨p,r,k,c,⟨⟩⟩:=a
 obtain⟨p',r',k',c',⟨⟩⟩:=b
 simp only[Prod.mk.injEq,and_true]
theorem qhq(a b:Mat)(ha:a.2.2.2.1.length≤1048576):Ret E n_Z9 [dI a.1,dI a.2.1,dI a.2.2.1,dL a.2.2.2.1,dI b.1,dI b.2.1,dI b.2.2.1,dL b.2.2.2.1] ⟨o_Z9,(pb (a=b),())⟩:=by
 refine qak ?_
 simp only[run_Z9,Z9.ev]
 refine qb7 (fun h1=>qb7 (fun h2=>qb7 (fun h3=>qaa (qna _ _ ha) (qaj ?_)) fun h3=>qaj ?_) fun h2=>qaj ?_) fun h1=>qaj ?_
 ·exact congrArg (fun b:Bool=>some (⟨o_Z9,(b,())⟩:Dv)) (qaN ⟨fun h=>qd4.2 ⟨by simpa using h1,by simpa using h2,by simpa using h3,h⟩,fun h=>(qd4.1 h).2.2.2⟩)
 ·rw[qar fun h=>by have:=(qd4.1 h).2.2.1;simp[this] at h3]
 ·rw[qar fun h=>by have:=(qd4.1 h).2.1;simp[this] at h2]
 ·rw[qar fun h=>by have:=(qd4.1 h).1;simp[this] at h1]
theorem qkA(a b:Mat)(ha:a.2.2.2.1.length≤1048576):Ret E n_Z123 [dM a,dM b] ⟨o_Z123,(pb (a=b),())⟩:=by
 refine qak ?_
 simp only[run_Z123,Z123.ev]
 have no:a≠b→Ev fun φ=>Z123.j0 (mkR (run E (φ 0))) (φ 0) a b true=some ⟨o_Z123,(pb (a=b),())⟩:=fun h=>by
  simp only[Z123.j0_eq _ qaf,cond_true]
  rw[qar h];(first | exact qam | exact Ev.of fun _=>trivial)
 refine qb7 (fun h1=>no fun h=>by simp[(qd4.1 h).1] at h1) fun h1=>qb7 (fun h2=>no fun h=>by simp[(qd4.1 h).2.1] at h2) fun h2=>qb7 (fun h3=>no fun h=>by simp[(qd4.1 h).2.2.1] at h3) fun h3=>?_
 have h1:a.1=b.1:=by simpa using h1
 have h2:a.2.1=b.2.1:=by simpa using h2
 have h3:a.2.2.1=b.2.2.1:=by simpa using h3
 by_cases hl:a.2.2.2.1.length=b.2.2.2.1.length
 ·simp only[show((a.2.2.2.1.length:Int) != (b.2.2.2.1.length:Int))=false by simp[hl],Z123.j0_eq _ qaf,cond_false]
  refine Ev.start (p:=fun φ n=>Z123.l1 (mkR (run E (φ 0))) (φ 0) n a b 0=_) 1 ?_ (fun _ _ _ h=>h)
  refine(qcY 1 (L:=fun φ n k=>Z123.l1 (mkR (run E (φ 0))) (φ 0) n a b k) (len:=a.2.2.2.1.length) 0 (by omega) (fun j=>a.2.2.2.1.getD j 0=b.2.2.2.1.getD j 0) (fun b=>some ⟨o_Z123,(b,())⟩) (fun _ _ _ _=>rfl) (fun k k1 k2 hP _=>?_) (fun k r k1 k2 hP _ ih=>?_) (fun _=>?_)).to ?_
  ·simp only[Z123.l1_succ _ qaf]
   have hb:k<b.2.2.2.1.length:=by omega
   rw[qad k2,qad hb] at hP
   exact qax (decide_eq_true (by omega)) (qab (qai k2) (qab (qai hb) (qax (by simpa using hP) qam)))
  ·simp only[Z123.l1_succ _ qaf]
   have hb:k<b.2.2.2.1.length:=by omega
   rw[qad k2,qad hb] at hP
   refine qax (decide_eq_true (by omega)) (qab (qai k2) (qab (qai hb) (qaB (by simpa using hP) ?_)))
   rw[qae (by omega)];exact ih
  ·simp only[Z123.l1_succ _ qaf]
   exact qaB (decide_eq_false (by omega)) qam
  ·refine congrArg (fun b:Bool=>some (⟨o_Z123,(b,())⟩:Dv)) (qaN ⟨fun hh=>qd4.2 ⟨h1,h2,h3,List.ext_getElem hl fun j g1 g2=>?_⟩,fun hh j _ _=>by rw[hh]⟩)
   have:=hh j (by omega) g1
   rwa [qad g1,qad g2] at this
 ·simp only[show((a.2.2.2.1.length:Int) != (b.2.2.2.1.length:Int))=true by simp;omega]
  exact no fun h=>hl (by rw[(qd4.1 h).2.2.2])
noncomputable def mp(c:List Sim)(ms:List Mat)(k i:Nat):Mat:=ms.getD (plc c k+i) mz
noncomputable def fc(c:List Sim)(k i:Nat):Nat:=((qaF c k).getD i 0).toNat
theorem qkD{c:List Sim}{s:Sim}(h:s∈c):c.getD (qdn c s).toNat []=s:=by
 have h0:=qa6.2 h
 unfold qdn qiQ at h0 ⊢
 cases hf:c.findIdx? (fun x=>pb (x=s)) with
 | none=>rw[hf] at h0;simp[o2i] at h0
 | some k =>
  rw[List.findIdx?_eq_some_iff_getElem] at hf
  obtain⟨hk,hp,_⟩:=hf
  simp only[o2i,Int.toNat_natCast]
  rw[qad hk];exact qaC.1 hp
theorem qaX{c:List Sim}(h:VC c){k i:Nat}(hk:k<c.length)(hi:i<(qaF c k).length):idx? (qaF c k) (i:Int)=some ((fc c k i:Nat):Int)∧fc c k i<c.length∧c.getD (fc c k i) []=(c.getD k []).eraseIdx i:=by
 have hm:=qj2 h hk (List.getElem_mem hi)
 have hl:=qaz (c:=c) (k:=k)
 have h1:1<(c.getD k []).length:=Classical.byContradiction fun hn=>by rw[if_neg hn] at hl;omega
 rw[if_pos h1] at hl
 have hfc:(qaF c k)[i]=qdn c ((c.getD k []).eraseIdx i):=by
  have:(qaF c k)[i]? = some (qdn c ((c.getD k []).eraseIdx i)):=by
   unfold qaF qch
   rw[if_pos h1,List.map_map,List.getElem?_map,List.getElem?_range (by omega)];rfl
  rw[List.getElem?_eq_getElem hi] at this
  exact Option.some.inj this
 have hin:(c.getD k []).eraseIdx i∈c:=h.2.2.2 k hk _ (qcw.2 ⟨h1,i,by omega,rfl⟩)
 unfold fc
 rw[qad hi]
 refine⟨?_,by omega,?_⟩
 ·rw[qai hi];congr 1;omega
 ·rw[hfc];exact qkD hin
theorem VS.map{c:List Sim}{p:Int}{st:Sim}{ms:List Mat}(h:VS c p st ms){k i:Nat}(hk:k<c.length)(hi:i<(qaF c k).length):plc c k+i<ms.length∧Bt (mp c ms k i) p (st.getD (fc c k i) 0) (st.getD k 0):=by
 have hg:=qcr hk hi
 have hlt:=(List.getElem?_eq_some_iff.1 hg).1
 exact⟨by rw[← h.2.2.2.1];exact hlt,h.2.2.2.2 k hk i hi⟩
theorem qkV(c:List Sim)(p:Int)(st:Sim)(ms:List Mat)(k:Nat)(hk:k≤c.length)(hv:VC c):Ret E n_Z36 [dLL c,dI p,dL st,dMs ms,dI (k:Int)] ⟨o_Z36,(((plc c k:Nat):Int),())⟩:=by
 have h48:=hv.1
 have htl:(c.take k).length=k:=by rw[List.length_take];omega
 refine qak ?_
 simp only[run_Z36,Z36.ev,Int.toNat_natCast,htl]
 refine qan (by simp;omega) ?_
 refine Ev.start (p:=fun φ n=>Z36.l0 (mkR (run E (φ 0))) (φ 0) n 0 (c.take k) (k:Int) 0=_) 1 ?_ (fun _ _ _ h=>h)
 have:=qao 1 (L:=fun φ n j a=>Z36.l0 (mkR (run E (φ 0))) (φ 0) n a (c.take k) (k:Int) j) (len:=k) (fun j=>((plc c j:Nat):Int)) (r:=some ⟨o_Z36,(((plc c k:Nat):Int),())⟩) (fun _ _ _ _ _=>rfl) (fun j r hj ih=>?_) ?_
 ·exact this
 ·simp only[Z36.l0_succ _ qaf]
  have hjc:j<c.length:=by omega
  have hpl:=hv.plc (k:=j) (by omega)
  have h4:=hv.len4 hjc
  have e:=qeH (c:=c) (k:=j)
  rw[qaz] at e
  rw[qad hjc] at e h4
  have hjt:j<(c.take k).length:=by omega
  have hgt:(c.take k)[j]=c[j]:=List.getElem_take
  refine qax (decide_eq_true (by omega)) (qab (qai hjt) ?_)
  rw[hgt]
  refine qec (fun hl=>qaa (qhG _) ?_) fun hl=>?_
  ·rw[if_pos (by omega)] at e
   rw[qae (by omega),qag (by omega) (by omega)]
   rw[e] at ih
   simpa using ih
  ·rw[if_neg (by omega)] at e
   rw[qae (by omega)]
   rw[e] at ih;exact ih
 ·simp only[Z36.l0_succ _ qaf]
  exact qaB (decide_eq_false (by omega)) qam
theorem qdB(c:List Sim)(p:Int)(st:Sim)(ms:List Mat)(k i:Nat)(hk:k<c.length)(hi:i<(qaF c k).length)(h:VS c p st ms):Ret E n_Z26 [dLL c,dI p,dL st,dMs ms,dI (k:Int),dI (i:Int)] ⟨o_Z26,mp c ms k i⟩:=by
 have h48:=h.1.1
 have hpl:=h.1.plc (k:=k) (by omega)
 have h4:=h.1.fIdx4 hk
 obtain⟨ht,_⟩:=h.map hk hi
 refine qak ?_
 simp only[run_Z26,Z26.ev]
 refine qaa (qkV c p st ms k (by omega) h.1) ?_
 simp only
 rw[qag (by omega) (by omega),show((plc c k:Nat):Int)+(i:Int)=((plc c k+i:Nat):Int) by omega]
 refine qab (qai ht) (qaj ?_)
 rw[mp,qad ht]
theorem qdw(x:Shf)(k i:Nat)(hk:k<x.1.length)(hi:i<(qaF x.1 k).length)(h:VS x.1 x.2.1 x.2.2.1 x.2.2.2.1):Ret E n_Z146 [dS x,dI (k:Int),dI (i:Int)] ⟨o_Z146,(mp x.1 x.2.2.2.1 k i,())⟩:=by
 have h4:=h.1.fIdx4 hk
 obtain⟨ht,_⟩:=h.map hk hi
 refine qak ?_
 simp only[run_Z146,Z146.ev]
 refine qaa (qc8 x.1 k i (by omega) (by omega) h.1) (qab (qai ht) (qaj ?_))
 rw[mp,qad ht]
noncomputable def two(c:List Sim)(ms:List Mat)(k i j:Nat):Mat:=qdo (mp c ms k i) (mp c ms (fc c k i) j)
theorem qmE{a b:Mat}(ha:VM a)(hb:VM b):(qdo a b).2.2.2.1.length≤1048576:=by
 show(qaq _ _ _).length≤_
 rw[qas]
 have h1:=ha.2.1
 have h2:=hb.2.2.1
 have:=qdI (R:=a.2.1.toNat) (C:=b.2.2.1.toNat) (by omega) (by omega)
 omega
structure Sq (c:List Sim) (p:Int) (st:Sim) (ms:List Mat) (k i j:Nat):Prop where
 kl:k<c.length
 n3:3≤(c.getD k []).length
 il:i<(c.getD k []).length
 jl:j+1<(c.getD k []).length
 v:VS c p st ms
theorem Sq.hi{c p st ms k i j}(h:Sq c p st ms k i j):i<(qaF c k).length:=by
 have:=h.n3;have:=h.il
 rw[qaz,if_pos (by omega)];exact this
theorem Sq.fk{c p st ms k i j}(h:Sq c p st ms k i j):fc c k i<c.length:=(qaX h.v.1 h.kl h.hi).2.1
theorem Sq.hj{c p st ms k i j}(h:Sq c p st ms k i j):j<(qaF c (fc c k i)).length:=by
 have h1:=h.n3;have h2:=h.il;have h3:=h.jl
 have e:=(qaX h.v.1 h.kl h.hi).2.2
 rw[qaz,e,List.length_eraseIdx,if_pos h2,if_pos (by omega)];omega
theorem Sq.b1{c p st ms k i j}(h:Sq c p st ms k i j):VM (mp c ms k i):=((h.v.map h.kl h.hi).2).1
theorem Sq.b2{c p st ms k i j}(h:Sq c p st ms k i j):VM (mp c ms (fc c k i) j):=((h.v.map h.fk h.hj).2).1
theorem Sq.sh{c p st ms k i j}(h:Sq c p st ms k i j):(mp c ms k i).2.2.1=(mp c ms (fc c k i) j).2.1:=by
 rw[((h.v.map h.kl h.hi).2).2.2.2,((h.v.map h.fk h.hj).2).2.2.1]
theorem Sq.impl{c p st ms k i j}(h:Sq c p st ms k i j):Ret E n_Z51 [dI (mp c ms k i).1,dI (mp c ms k i).2.1,dI (mp c ms k i).2.2.1,dL (mp c ms k i).2.2.2.1,dI (mp c ms (fc c k i) j).1,dI (mp c ms (fc c k i) j).2.1,dI (mp c ms (fc c k i) j).2.2.1,dL (mp c ms (fc c k i) j).2.2.2.1] ⟨o_Z51,two c ms k i j⟩ :=
 qie _ _ h.b1 h.b2 h.sh
theorem qjo(x:Shf)(k i j:Nat)(hij:i≠j)(h:Sq x.1 x.2.1 x.2.2.1 x.2.2.2.1 k i (if i<j then j-1 else j))(hc:Sm (.sl (.sl (.int .i64))) x.1)(hj:j≤1048576):Ret E n_Z156 [dS x,dI (k:Int),dI (i:Int),dI (j:Int)] ⟨o_Z156,two x.1 x.2.2.2.1 k i (if i<j then j-1 else j)⟩:=by
 obtain⟨hidx,hF,_⟩:=qaX h.v.1 h.kl h.hi
 refine qak ?_
 simp only[run_Z156,Z156.ev]
 refine qaa (qb5 x.1 k h.kl hc) (qab hidx ?_)
 have tail:Ev fun φ=>Z156.j0 (mkR (run E (φ 0))) (φ 0) x (k:Int) (i:Int) (((if i<j then j-1 else j:Nat)):Int) ((fc x.1 k i:Nat):Int) 0 0 0=some ⟨o_Z156,two x.1 x.2.2.2.1 k i (if i<j then j-1 else j)⟩:=by
  simp only[Z156.j0_eq _ qaf]
  refine qaa (qdw x k i h.kl h.hi h.v) (qaa (qdw x _ _ h.fk h.hj h.v) (qaa (qew _ _ h.b1 h.b2 h.sh) qam))
 refine qec (fun hgt=>?_) fun hgt=>?_
 ·rw[qag (by omega) (by omega),show(j:Int)-1=((j-1:Nat):Int) by omega]
  rw[if_pos (by omega)] at tail ⊢;exact tail
 ·rw[if_neg (by omega)] at tail ⊢;exact tail
end VeT
open Go Go.Proofs Ve
namespace VeT
def Bq(c:List Sim)(ms:List Mat)(k i j:Nat):Prop:=two c ms k i (j-1)≠two c ms k j i
def Pi(c:List Sim)(ms:List Mat)(k i:Nat):Prop:=∃ j,i+1≤j∧j<i+1+((c.getD k []).length-(i+1))∧Bq c ms k i j
def Pk(c:List Sim)(ms:List Mat)(k:Nat):Prop:=3≤(c.getD k []).length∧∃ i,0≤i∧i<0+(c.getD k []).length∧Pi c ms k i
noncomputable def rI(c:List Sim)(ms:List Mat)(out:Nat→Nat→Nat→Option Dv)(k i:Nat)(rn:Option Dv):Option Dv:=orN (out k i) rn (qaP (Bq c ms k i) (i+1) ((c.getD k []).length-(i+1)))
noncomputable def rK(c:List Sim)(ms:List Mat)(out:Nat→Nat→Nat→Option Dv)(k:Nat)(rn:Option Dv):Option Dv:=orN (fun i=>rI c ms out k i none) rn (qaP (Pi c ms k) 0 (c.getD k []).length)
noncomputable def qjc(c:List Sim)(ms:List Mat)(out:Nat→Nat→Nat→Option Dv)(rn:Option Dv):Option Dv:=orN (fun k=>rK c ms out k none) rn (qaP (Pk c ms) 0 c.length)
theorem qrR{c ms out k i}{rn rn':Option Dv}(h:Pi c ms k i):rI c ms out k i rn=rI c ms out k i rn':=by
 obtain⟨j,hj⟩:=qca h
 unfold rI;rw[hj];rfl
theorem qq0{c ms out k i}{rn:Option Dv}(h:¬ Pi c ms k i):rI c ms out k i rn=rn:=by
 unfold rI
 cases hf:qaP (Bq c ms k i) (i+1) ((c.getD k []).length-(i+1)) with
 | none=>rfl
 | some j=>exact absurd ⟨j,qay hf⟩ h
theorem qrP{c ms out k}{rn rn':Option Dv}(h:Pk c ms k):rK c ms out k rn=rK c ms out k rn':=by
 obtain⟨j,hj⟩:=qca h.2
 unfold rK;rw[hj];rfl
theorem qq6{c ms out k}{rn:Option Dv}(h:¬ Pk c ms k)(h3:3≤(c.getD k []).length):rK c ms out k rn=rn:=by
 unfold rK
 cases hf:qaP (Pi c ms k) 0 (c.getD k []).length with
 | none=>rfl
 | some j=>exact absurd ⟨h3,j,qay hf⟩ h
noncomputable def qb3(c:List Sim)(ms:List Mat):Option (Nat×Nat×Nat) :=
 (qaP (Pk c ms) 0 c.length).bind fun k=>(qaP (Pi c ms k) 0 (c.getD k []).length).bind fun i=>(qaP (Bq c ms k i) (i+1) ((c.getD k []).length-(i+1))).map fun j=>(k,i,j)
theorem qfo{c ms k i j}(h:qb3 c ms=some (k,i,j)):k<c.length∧3≤(c.getD k []).length∧i<j∧j<(c.getD k []).length∧∀ out rn,qjc c ms out rn=out k i j:=by
 unfold qb3 at h
 obtain⟨k',hk,h⟩:=Option.bind_eq_some_iff.1 h
 obtain⟨i',hi,h⟩:=Option.bind_eq_some_iff.1 h
 obtain⟨j',hj,h⟩:=Option.map_eq_some_iff.1 h
 simp only[Prod.mk.injEq] at h
 obtain⟨rfl,rfl,rfl⟩:=h
 have a:=qay hk
 have b:=qay hi
 have d:=qay hj
 refine⟨by omega,a.2.2.1,by omega,by omega,fun out rn=>?_⟩
 unfold qjc rK rI
 rw[hk];simp only[orN];rw[hi];simp only[orN];rw[hj]
theorem qfn{c ms}(h:qb3 c ms=none):∀ out rn,qjc c ms out rn=rn:=by
 intro out rn
 unfold qjc
 cases hk:qaP (Pk c ms) 0 c.length with
 | none=>rfl
 | some k =>
  have a:=qay hk
  obtain⟨i,hi⟩:=qca a.2.2.2
  obtain⟨j,hj⟩:=qca (qay hi).2.2
  unfold qb3 at h
  rw[hk] at h
  simp only[Option.bind_some] at h
  rw[hi] at h
  simp only[Option.bind_some] at h
  rw[hj] at h
  cases h
theorem qgp(c:List Sim)(k:Nat)(hk:k<c.length)(hc:Sm (.sl (.sl (.int .i64))) c)(hv:VC c):Ret E n_Z30 [dLL c,dI (k:Int)] ⟨o_Z30,(qaF c k,())⟩:=qcW c k hk hc hv.srt
noncomputable def qps(c:List Sim)(k i j:Nat):Option Dv:=some ⟨o_Z66,((k:Int),(qaF c (fc c k i)).getD (j-1) 0,true,())⟩
theorem qg0(c:List Sim)(p:Int)(st:Sim)(ms:List Mat)(hc:Sm (.sl (.sl (.int .i64))) c)(h:VS c p st ms):Ev fun φ=>run E (φ 0+1) n_Z66 [dLL c,dI p,dL st,dMs ms]=qjc c ms (qps c) (some ⟨o_Z66,(0,0,false,())⟩):=by
  have hv:=h.1
  have h48:=hv.1
  simp only[run_Z66,Z66.ev]
  refine Ev.start (p:=fun φ n=>Z66.l0 (mkR (run E (φ 0))) (φ 0) n c (c.length:Int) 0 c p st ms=_) 1 ?_ (fun _ _ _ h=>h)
  have inner3:∀ k i (hk:k<c.length) (hn:3≤(c.getD k []).length) (hi:i<(c.getD k []).length) (rn:Option Dv),
      (¬ Pi c ms k i→Ev fun φ=>Z66.l1 (mkR (run E (φ 0))) (φ 0) (φ 1) (φ 2) (c.getD k []) (k:Int) (qaF c k) c (c.length:Int) (k:Int) ((c.getD k []).length:Int) ((i+1:Nat):Int) c p st ms=rn) →
      Ev fun φ=>Z66.l2 (mkR (run E (φ 0))) (φ 0) (φ 1) (φ 2) (φ 0) (c.getD k []) (k:Int) (qaF c k) (i:Int) ((i+1:Nat):Int) c (c.length:Int) (k:Int) ((c.getD k []).length:Int) (i:Int) c p st ms=rI c ms (qps c) k i rn:=by
    intro k i hk hn hi rn hrn
    have h4:=hv.len4 hk
    refine Ev.start (p:=fun φ n=>Z66.l2 (mkR (run E (φ 0))) (φ 0) (φ 1) (φ 2) n (c.getD k []) (k:Int) (qaF c k) (i:Int) ((i+1:Nat):Int) c (c.length:Int) (k:Int) ((c.getD k []).length:Int) (i:Int) c p st ms=_) 3 ?_ (fun _ _ _ h=>h)
    -- one round
    have round:∀ j (hij:i+1≤j) (hj:j<(c.getD k []).length) (r:Option Dv),
        (Ev fun φ=>(bif (!pb (two c ms k i (j-1)=two c ms k j i)) then qps c k i j else Z66.l2 (mkR (run E (φ 0))) (φ 0) (φ 1) (φ 2) (φ 3) (c.getD k []) (k:Int) (qaF c k) (i:Int) (w64 ((j:Int)+1)) c (c.length:Int) (k:Int) ((c.getD k []).length:Int) (i:Int) c p st ms)=r) →
        Ev fun φ=>Z66.l2 (mkR (run E (φ 0))) (φ 0) (φ 1) (φ 2) (φ 3+1) (c.getD k []) (k:Int) (qaF c k) (i:Int) (j:Int) c (c.length:Int) (k:Int) ((c.getD k []).length:Int) (i:Int) c p st ms=r:=by
      intro j hij hj r hr
      have s1:Sq c p st ms k i (j-1):=⟨hk,hn,hi,by omega,h⟩
      have s2:Sq c p st ms k j i:=⟨hk,hn,hj,by omega,h⟩
      obtain⟨ix1,F1,_⟩:=qaX hv hk s1.hi
      obtain⟨ix2,F2,_⟩:=qaX hv hk s2.hi
      have g1:=qdB c p st ms k i hk s1.hi h
      have g2:=qdB c p st ms (fc c k i) (j-1) F1 s1.hj h
      have g3:=qdB c p st ms k j hk s2.hi h
      have g4:=qdB c p st ms (fc c k j) i F2 s2.hj h
      have ej:w64 ((j:Int)-1)=((j-1:Nat):Int):=by rw[qag (by omega) (by omega)];omega
      have j4:Ev fun φ=>Z66.j4 (mkR (run E (φ 0))) (φ 0) (φ 1) (φ 2) (φ 3) (c.getD k []) (k:Int) (qaF c k) (i:Int) (j:Int) c (c.length:Int) (k:Int) ((c.getD k []).length:Int) (i:Int) c p st ms
          (two c ms k i (j-1)).1 (two c ms k i (j-1)).2.1 (two c ms k i (j-1)).2.2.1 (two c ms k i (j-1)).2.2.2.1 (two c ms k j i).1 (two c ms k j i).2.1 (two c ms k j i).2.2.1 (two c ms k j i).2.2.2.1=r:=by
        simp only[Z66.j4_eq _ qaf,ej]
        refine qaa (qhq (two c ms k i (j-1)) (two c ms k j i) (qmE s1.b1 s1.b2)) ?_
        by_cases he:two c ms k i (j-1)=two c ms k j i
        · rw[qaL he] at hr ⊢
          exact qaB rfl (by simpa using hr)
        · rw[qar he] at hr ⊢
          refine qax rfl (qab ix1 (qaa (qgp c (fc c k i) F1 hc hv) (qab (qai s1.hj) ?_)))
          have:qps c k i j=r:=by
            obtain⟨n0,hr⟩:=hr
            exact hr (fun _=>n0) (fun _=>Nat.le_refl _)
          rw[← this,qps,qad s1.hj];exact qam
      have j3:Ev fun φ=>Z66.j3 (mkR (run E (φ 0))) (φ 0) (φ 1) (φ 2) (φ 3) (c.getD k []) (k:Int) (qaF c k) (i:Int) (j:Int) c (c.length:Int) (k:Int) ((c.getD k []).length:Int) (i:Int) c p st ms
          (two c ms k i (j-1)).1 (two c ms k i (j-1)).2.1 (two c ms k i (j-1)).2.2.1 (two c ms k i (j-1)).2.2.2.1=r:=by
        simp only[Z66.j3_eq _ qaf]
        refine qab ix2 (qcB (qaa g3 (qcB (qaa g4 (qcB (qaa s2.impl j4) (qaa s2.impl j4))) (qaa g4 (qaa s2.impl j4)))) (qaa g3 (qaa g4 (qaa s2.impl j4))))
      simp only[Z66.l2_succ _ qaf,ej]
      refine qax (decide_eq_true (by omega)) (qab ix1 (qcB (qaa g1 (qcB (qaa g2 (qcB (qaa s1.impl j3) (qaa s1.impl j3))) (qaa g2 (qaa s1.impl j3)))) (qaa g1 (qaa g2 (qaa s1.impl j3)))))
    refine qb0 3 (L:=fun φ n j=>Z66.l2 (mkR (run E (φ 0))) (φ 0) (φ 1) (φ 2) n (c.getD k []) (k:Int) (qaF c k) (i:Int) j c (c.length:Int) (k:Int) ((c.getD k []).length:Int) (i:Int) c p st ms) (len:=(c.getD k []).length) (Bq c ms k i) (qps c k i) rn (fun _ _ _ _=>rfl) (i+1) (fun j h1 h2 hB=>?_) (fun j q h1 h2 hB ih=>?_) (fun hno=>?_) _ (by omega)
    · refine round j h1 h2 _ (qax ?_ qam)
      rw[qar hB];rfl
    · refine round j h1 h2 _ (qaB ?_ ?_)
      · rw[qaL (Classical.not_not.1 hB)];rfl
      · rw[qae (by omega)];exact ih
    · simp only[Z66.l2_succ _ qaf]
      refine qaB (decide_eq_false (by omega)) ?_
      rw[qae (by omega)];exact hrn fun⟨j,h1,h2,h3⟩=>hno j h1 (by omega) h3
  have inner2:∀ k (hk:k<c.length) (hn:3≤(c.getD k []).length) (rn:Option Dv),
      (¬ Pk c ms k→Ev fun φ=>Z66.l0 (mkR (run E (φ 0))) (φ 0) (φ 1) c (c.length:Int) ((k+1:Nat):Int) c p st ms=rn) →
      Ev fun φ=>Z66.l1 (mkR (run E (φ 0))) (φ 0) (φ 1) (φ 0) (c.getD k []) (k:Int) (qaF c k) c (c.length:Int) (k:Int) ((c.getD k []).length:Int) 0 c p st ms=rK c ms (qps c) k rn:=by
    intro k hk hn rn hrn
    have h4:=hv.len4 hk
    refine Ev.start (p:=fun φ n=>Z66.l1 (mkR (run E (φ 0))) (φ 0) (φ 1) n (c.getD k []) (k:Int) (qaF c k) c (c.length:Int) (k:Int) ((c.getD k []).length:Int) 0 c p st ms=_) 2 ?_ (fun _ _ _ h=>h)
    refine qb0 2 (L:=fun φ n i=>Z66.l1 (mkR (run E (φ 0))) (φ 0) (φ 1) n (c.getD k []) (k:Int) (qaF c k) c (c.length:Int) (k:Int) ((c.getD k []).length:Int) i c p st ms) (len:=(c.getD k []).length) (Pi c ms k) (fun i=>rI c ms (qps c) k i none) rn (fun _ _ _ _=>rfl) 0 (fun i h1 h2 hP=>?_) (fun i q h1 h2 hP ih=>?_) (fun hno=>?_) _ (by omega)
    · simp only[Z66.l1_succ _ qaf]
      refine qax (decide_eq_true (by omega)) ?_
      rw[qae (by omega)]
      exact inner3 k i hk hn h2 none fun hn=>absurd hP hn
    · simp only[Z66.l1_succ _ qaf]
      refine qax (decide_eq_true (by omega)) ?_
      rw[qae (by omega)]
      exact(inner3 k i hk hn h2 q fun _=>ih).to (qq0 hP)
    · simp only[Z66.l1_succ _ qaf]
      refine qaB (decide_eq_false (by omega)) ?_
      rw[qae (by omega)];exact hrn fun⟨_,i,h1,h2,h3⟩=>hno i h1 (by omega) h3
  refine qb0 1 (L:=fun φ n k=>Z66.l0 (mkR (run E (φ 0))) (φ 0) n c (c.length:Int) k c p st ms) (len:=c.length) (Pk c ms) (fun k=>rK c ms (qps c) k none) _ (fun _ _ _ _=>rfl) 0 (fun k h1 h2 hP=>?_) (fun k q h1 h2 hP ih=>?_) (fun hno=>?_) _ (by omega)
  · simp only[Z66.l0_succ _ qaf]
    refine qax (decide_eq_true (by omega)) (qab (qai h2) ?_)
    have hn:=hP.1
    rw[← qad (d:=[]) h2]
    exact qaB (decide_eq_false (by omega)) (qaa (qgp c k h2 hc hv) (inner2 k h2 hn none fun hn=>absurd hP hn))
  · simp only[Z66.l0_succ _ qaf]
    refine qax (decide_eq_true (by omega)) (qab (qai h2) ?_)
    rw[← qad (d:=[]) h2]
    refine qec (fun hlt=>?_) fun hlt=>?_
    · rw[qae (by omega)];exact ih
    · exact qaa (qgp c k h2 hc hv) ((inner2 k h2 (by omega) q fun _=>ih).to (qq6 hP (by omega)))
  · simp only[Z66.l0_succ _ qaf]
    exact qaB (decide_eq_false (by omega)) qam
noncomputable def qqG(k i j:Nat):Option Dv:=some ⟨o_Z157,((k:Int),(i:Int),(j:Int),())⟩
theorem qkh(x:Shf)(hc:Sm (.sl (.sl (.int .i64))) x.1)(h:VS x.1 x.2.1 x.2.2.1 x.2.2.2.1):Ev fun φ=>run E (φ 0+1) n_Z157 [dS x]=qjc x.1 x.2.2.2.1 qqG (some ⟨o_Z157,(-1,0,0,())⟩):=by
  have hv:=h.1
  have h48:=hv.1
  simp only[run_Z157,Z157.ev]
  refine Ev.start (p:=fun φ n=>Z157.l0 (mkR (run E (φ 0))) (φ 0) n x 0=_) 1 ?_ (fun _ _ _ h=>h)
  have inner3:∀ k i (hk:k<x.1.length) (hn:3≤(x.1.getD k []).length) (hi:i<(x.1.getD k []).length) (rn:Option Dv),
      (¬ Pi x.1 x.2.2.2.1 k i→Ev fun φ=>Z157.l1 (mkR (run E (φ 0))) (φ 0) (φ 1) (φ 2) x (k:Int) ((x.1.getD k []).length:Int) ((i+1:Nat):Int)=rn) →
      Ev fun φ=>Z157.l3 (mkR (run E (φ 0))) (φ 0) (φ 1) (φ 2) (φ 0) x (k:Int) ((x.1.getD k []).length:Int) (i:Int) ((i+1:Nat):Int)=rI x.1 x.2.2.2.1 qqG k i rn:=by
    intro k i hk hn hi rn hrn
    have h4:=hv.len4 hk
    refine Ev.start (p:=fun φ n=>Z157.l3 (mkR (run E (φ 0))) (φ 0) (φ 1) (φ 2) n x (k:Int) ((x.1.getD k []).length:Int) (i:Int) ((i+1:Nat):Int)=_) 3 ?_ (fun _ _ _ h=>h)
    have round:∀ j (hij:i+1≤j) (hj:j<(x.1.getD k []).length) (r:Option Dv),
        (Ev fun φ=>(bif (!pb (two x.1 x.2.2.2.1 k i (j-1)=two x.1 x.2.2.2.1 k j i)) then qqG k i j else Z157.l3 (mkR (run E (φ 0))) (φ 0) (φ 1) (φ 2) (φ 3) x (k:Int) ((x.1.getD k []).length:Int) (i:Int) (w64 ((j:Int)+1)))=r) →
        Ev fun φ=>Z157.l3 (mkR (run E (φ 0))) (φ 0) (φ 1) (φ 2) (φ 3+1) x (k:Int) ((x.1.getD k []).length:Int) (i:Int) (j:Int)=r:=by
      intro j hij hj r hr
      have s1:Sq x.1 x.2.1 x.2.2.1 x.2.2.2.1 k i (j-1):=⟨hk,hn,hi,by omega,h⟩
      have s2:Sq x.1 x.2.1 x.2.2.1 x.2.2.2.1 k j i:=⟨hk,hn,hj,by omega,h⟩
      have t1:=qjo x k i j (by omega) (by rw[if_pos (by omega)];exact s1) hc (by omega)
      have t2:=qjo x k j i (by omega) (by rw[if_neg (by omega)];exact s2) hc (by omega)
      rw[if_pos (by omega)] at t1
      rw[if_neg (by omega)] at t2
      simp only[Z157.l3_succ _ qaf]
      exact qax (decide_eq_true (by omega)) (qaa t1 (qaa t2 (qaa (qkA (two x.1 x.2.2.2.1 k i (j-1)) (two x.1 x.2.2.2.1 k j i) (qmE s1.b1 s1.b2)) hr)))
    refine qb0 3 (L:=fun φ n j=>Z157.l3 (mkR (run E (φ 0))) (φ 0) (φ 1) (φ 2) n x (k:Int) ((x.1.getD k []).length:Int) (i:Int) j) (len:=(x.1.getD k []).length) (Bq x.1 x.2.2.2.1 k i) (qqG k i) rn (fun _ _ _ _=>rfl) (i+1) (fun j h1 h2 hB=>?_) (fun j q h1 h2 hB ih=>?_) (fun hno=>?_) _ (by omega)
    · refine round j h1 h2 _ (qax ?_ qam)
      rw[qar hB];rfl
    · refine round j h1 h2 _ (qaB ?_ ?_)
      · rw[qaL (Classical.not_not.1 hB)];rfl
      · rw[qae (by omega)];exact ih
    · simp only[Z157.l3_succ _ qaf]
      refine qaB (decide_eq_false (by omega)) ?_
      rw[qae (by omega)];exact hrn fun⟨j,h1,h2,h3⟩=>hno j h1 (by omega) h3
  have inner2:∀ k (hk:k<x.1.length) (hn:3≤(x.1.getD k []).length) (rn:Option Dv),
      (¬ Pk x.1 x.2.2.2.1 k→Ev fun φ=>Z157.l0 (mkR (run E (φ 0))) (φ 0) (φ 1) x ((k+1:Nat):Int)=rn) →
      Ev fun φ=>Z157.l1 (mkR (run E (φ 0))) (φ 0) (φ 1) (φ 0) x (k:Int) ((x.1.getD k []).length:Int) 0=rK x.1 x.2.2.2.1 qqG k rn:=by
    intro k hk hn rn hrn
    have h4:=hv.len4 hk
    refine Ev.start (p:=fun φ n=>Z157.l1 (mkR (run E (φ 0))) (φ 0) (φ 1) n x (k:Int) ((x.1.getD k []).length:Int) 0=_) 2 ?_ (fun _ _ _ h=>h)
    have h2':decide (((x.1.getD k []).length:Int)>2)=true:=decide_eq_true (by omega)
    refine qb0 2 (L:=fun φ n i=>Z157.l1 (mkR (run E (φ 0))) (φ 0) (φ 1) n x (k:Int) ((x.1.getD k []).length:Int) i) (len:=(x.1.getD k []).length) (Pi x.1 x.2.2.2.1 k) (fun i=>rI x.1 x.2.2.2.1 qqG k i none) rn (fun _ _ _ _=>rfl) 0 (fun i h1 h2 hP=>?_) (fun i q h1 h2 hP ih=>?_) (fun hno=>?_) _ (by omega)
    · simp only[Z157.l1_succ _ qaf,h2',Z157.j2_eq _ qaf,cond_true]
      refine qax (decide_eq_true (by omega)) ?_
      rw[qae (by omega)]
      exact inner3 k i hk hn h2 none fun hn=>absurd hP hn
    · simp only[Z157.l1_succ _ qaf,h2',Z157.j2_eq _ qaf,cond_true]
      refine qax (decide_eq_true (by omega)) ?_
      rw[qae (by omega)]
      exact(inner3 k i hk hn h2 q fun _=>ih).to (qq0 hP)
    · simp only[Z157.l1_succ _ qaf,Z157.j2_eq _ qaf,cond_false]
      refine qaB (decide_eq_false (by omega)) ?_
      rw[qae (by omega)];exact hrn fun⟨_,i,h1,h2,h3⟩=>hno i h1 (by omega) h3
  refine qb0 1 (L:=fun φ n k=>Z157.l0 (mkR (run E (φ 0))) (φ 0) n x k) (len:=x.1.length) (Pk x.1 x.2.2.2.1) (fun k=>rK x.1 x.2.2.2.1 qqG k none) _ (fun _ _ _ _=>rfl) 0 (fun k h1 h2 hP=>?_) (fun k q h1 h2 hP ih=>?_) (fun hno=>?_) _ (by omega)
  · simp only[Z157.l0_succ _ qaf]
    refine qax (decide_eq_true (by omega)) (qab (qai h2) ?_)
    have hn:=hP.1
    rw[← qad (d:=[]) h2]
    exact inner2 k h2 hn none fun hn=>absurd hP hn
  · simp only[Z157.l0_succ _ qaf]
    refine qax (decide_eq_true (by omega)) (qab (qai h2) ?_)
    rw[← qad (d:=[]) h2]
    by_cases hn:3≤(x.1.getD k []).length
    · exact(inner2 k h2 hn q fun _=>ih).to (qq6 hP hn)
    · have h2':decide (((x.1.getD k []).length:Int)>2)=false:=decide_eq_false (by omega)
      refine Ev.start (p:=fun φ n=>Z157.l1 (mkR (run E (φ 0))) (φ 0) (φ 1) n x (k:Int) ((x.1.getD k []).length:Int) 0=_) 2 ?_ (fun _ _ _ h=>h)
      refine Ev.round 2 (L:=fun φ n=>Z157.l1 (mkR (run E (φ 0))) (φ 0) (φ 1) n x (k:Int) ((x.1.getD k []).length:Int) 0) ?_ (fun _ _ _=>rfl)
      simp only[Z157.l1_succ _ qaf,h2',Z157.j2_eq _ qaf,cond_false]
      rw[qae (by omega)]
      exact qec (fun _=>ih) fun _=>ih
  · simp only[Z157.l0_succ _ qaf]
    exact qaB (decide_eq_false (by omega)) qam
end VeT
open Go Go.Proofs Ve
namespace VeT
noncomputable def wI(c:List Sim)(ms:List Mat):Int×Int×Bool×Unit:=match qb3 c ms with
 | some (k,i,j)=>((k:Int),(qaF c (fc c k i)).getD (j-1) 0,true,())
 | none=>(0,0,false,())
noncomputable def wS(c:List Sim)(ms:List Mat):Int×Int×Int×Unit:=match qb3 c ms with
 | some (k,i,j)=>((k:Int),(i:Int),(j:Int),())
 | none=>(-1,0,0,())
theorem qhO(c:List Sim)(p:Int)(st:Sim)(ms:List Mat)(hc:Sm (.sl (.sl (.int .i64))) c)(h:VS c p st ms):Ret E n_Z66 [dLL c,dI p,dL st,dMs ms] ⟨o_Z66,wI c ms⟩:=by
 refine qak ((qg0 c p st ms hc h).to ?_)
 cases hw:qb3 c ms with
 | none=>rw[qfn hw,wI,hw]
 | some t =>
  obtain⟨k,i,j⟩:=t
  rw[(qfo hw).2.2.2.2,wI,hw];rfl
theorem qlg(x:Shf)(hc:Sm (.sl (.sl (.int .i64))) x.1)(h:VS x.1 x.2.1 x.2.2.1 x.2.2.2.1):Ret E n_Z157 [dS x] ⟨o_Z157,wS x.1 x.2.2.2.1⟩:=by
 refine qak ((qkh x hc h).to ?_)
 cases hw:qb3 x.1 x.2.2.2.1 with
 | none=>rw[qfn hw,wS,hw]
 | some t =>
  obtain⟨k,i,j⟩:=t
  rw[(qfo hw).2.2.2.2,wS,hw];rfl
def ISh(x:Shf):Prop:=VS x.1 x.2.1 x.2.2.1 x.2.2.2.1∧qb3 x.1 x.2.2.2.1=none
theorem qhD(x:Shf)(hx:Sm (.st cS) x):Ret E n_Z5 [dLL x.1,dI x.2.1,dL x.2.2.1,dMs x.2.2.2.1] ⟨o_Z5,(pb (ISh x),())⟩:=by
 refine qak ?_
 simp only[run_Z5,Z5.ev]
 refine qaa (qjx x hx) (qb7 (fun h=>qaj ?_) fun h=>?_)
 ·have h:=qa1.1 (show pb (VS x.1 x.2.1 x.2.2.1 x.2.2.2.1)=false by simpa using h)
  rw[qar fun hi=>h hi.1]
 ·have h:=qaC.1 (show pb (VS x.1 x.2.1 x.2.2.1 x.2.2.2.1)=true by simpa using h)
  refine qaa (qhO _ _ _ _ hx.1 h) (qaj ?_)
  have:(!(wI x.1 x.2.2.2.1).2.2.1)=pb (ISh x):=qfs (by
   unfold ISh wI
   cases hw:qb3 x.1 x.2.2.2.1 with
   | none=>simp[h]
   | some t=>simp)
  rw[this]
theorem qk8(x:Shf)(hx:Sm (.st cS) x):Ret E n_Z148 [dS x] ⟨o_Z148,(pb (ISh x),())⟩:=by
 refine qak ?_
 simp only[run_Z148,Z148.ev]
 refine qaa (qnT x hx) (qb7 (fun h=>qaj ?_) fun h=>?_)
 ·have h:=qa1.1 (show pb (VS x.1 x.2.1 x.2.2.1 x.2.2.2.1)=false by simpa using h)
  rw[qar fun hi=>h hi.1]
 ·have h:=qaC.1 (show pb (VS x.1 x.2.1 x.2.2.1 x.2.2.2.1)=true by simpa using h)
  refine qaa (qlg x hx.1 h) (qaj ?_)
  have:decide ((wS x.1 x.2.2.2.1).1<0)=pb (ISh x):=qfs (by
   rw[decide_eq_true_iff]
   unfold ISh wS
   cases hw:qb3 x.1 x.2.2.2.1 with
   | none=>simp[h]
   | some t=>simp only[reduceCtorEq,and_false,iff_false];omega)
  rw[this]
theorem qfe{s:Sim}{i j:Nat}(h:i<j):(s.eraseIdx j).eraseIdx i=(s.eraseIdx i).eraseIdx (j-1):=by
 apply List.ext_getElem?
 intro n
 rw[List.getElem?_eraseIdx,List.getElem?_eraseIdx,List.getElem?_eraseIdx,List.getElem?_eraseIdx]
 by_cases h1:n<i
 ·rw[if_pos h1,if_pos (by omega),if_pos (by omega),List.getElem?_eraseIdx,if_pos h1]
 ·by_cases h2:n+1<j
  ·rw[if_neg h1,if_pos h2,if_pos (by omega),List.getElem?_eraseIdx,if_neg h1]
  ·rw[if_neg h1,if_neg h2,if_neg (by omega),List.getElem?_eraseIdx,if_neg (by omega)]
def SDn(c:List Sim)(st:Sim)(d:Int)(n:Nat):Int:=((qaK c d n).map fun i=>st.getD i.toNat 0).sum
theorem qly{c:List Sim}{st:Sim}{d:Int}:SD c st d=SDn c st d c.length:=by
 unfold SD qiB SDn
 rw[List.take_of_length_le (Nat.le_refl _)]
theorem qde{c:List Sim}{st:Sim}{d:Int}{n:Nat}:SDn c st d (n+1)=SDn c st d n+if ((c.getD n []).length:Int)=d+1 then st.getD n 0 else 0:=by
 unfold SDn
 rw[qcm,List.map_append,List.sum_append]
 split<;>simp
theorem qpb{c:List Sim}{p:Int}{st:Sim}{ms:List Mat}(h:VS c p st ms)(d:Nat)(hd:d<4):0≤SD c st (d:Int)∧SD c st (d:Int)≤32:=⟨qm9 h.2.2.1.2.1 _,h.2.2.1.2.2 d hd⟩
end VeT
open Go Go.Proofs Ve
namespace VeT
theorem qcx{st:Sim}(hst:∀ x∈st,0≤x∧x≤3)(k:Nat):0≤st.getD k 0∧st.getD k 0≤3:=by
 by_cases hl:k<st.length
 ·rw[qad hl];exact hst _ (List.getElem_mem hl)
 ·rw[List.getD_eq_getElem?_getD,List.getElem?_eq_none (by omega)];simp
theorem qi0{c:List Sim}{st:Sim}{d:Int}(hst:∀ x∈st,0≤x∧x≤3):∀ {n:Nat},0≤SDn c st d n∧SDn c st d n≤3*n
 | 0=>by simp[SDn,qaK]
 | n+1=>by
  have h1:=qi0 (c:=c) (d:=d) hst (n:=n)
  have h2:=qcx hst n
  rw[qde];split<;>omega
theorem qpv{c:List Sim}{st:Sim}{d:Int}(hst:∀ x∈st,0≤x∧x≤3){n m:Nat}(h:n≤m):SDn c st d n≤SDn c st d m:=by
 induction h with
 | refl=>exact Int.le_refl _
 | @step m h ih=>rw[qde];have:=qcx hst m;split<;>omega
theorem qoz{c:List Sim}{st:Sim}{d:Int}(hst:∀ x∈st,0≤x∧x≤3){s n:Nat}(hs:s<n)(hd:((c.getD s []).length:Int)=d+1):SDn c st d s+st.getD s 0≤SDn c st d n:=by
 have:=qpv (c:=c) (d:=d) hst (show s+1≤n from hs)
 rw[qde,if_pos hd] at this;exact this
theorem qoH{c:List Sim}{d:Int}{s n:Nat}(hs:s<n)(hd:((c.getD s []).length:Int)=d+1):∃ tl,qaK c d n=qaK c d s++(s:Int)::tl:=by
 induction n with
 | zero=>omega
 | succ n ih =>
  rw[qcm]
  by_cases h:s=n
  ·subst h;exact⟨[],by rw[if_pos hd]⟩
  ·obtain⟨tl,e⟩:=ih (by omega)
   exact⟨tl++_,by rw[e,List.append_assoc];rfl⟩
theorem qfq{c:List Sim}{d:Int}{k:Nat}{x:Int}:x∈qaK c d k↔∃ i:Nat,x=i∧i<k∧((c.getD i []).length:Int)=d+1:=by
 unfold qaK
 rw[List.mem_map]
 constructor
 ·rintro⟨i,hi,rfl⟩
  have:=List.mem_filter.1 hi
  exact⟨i,rfl,by simpa using this.1,by simpa using this.2⟩
 ·rintro⟨i,rfl,h1,h2⟩
  exact⟨i,List.mem_filter.2 ⟨by simpa using h1,by simpa using h2⟩,rfl⟩
def FC(c:List Sim)(st:Sim)(s:Nat):Int:=SDn c st (((c.getD s []).length:Int)-1) s
theorem qdY{c:List Sim}{st:Sim}(hst:∀ x∈st,0≤x∧x≤3){s:Nat}(hs:s<c.length):0≤FC c st s∧FC c st s+st.getD s 0≤SD c st (((c.getD s []).length:Int)-1):=by
 refine⟨(qi0 hst).1,?_⟩
 rw[qly]
 exact qoz hst hs (by omega)
abbrev St:=List (Nat×Int)
def qkc(S:St)(cs:Sim):Sim:=S.foldl (fun cs q=>cs.set q.1 q.2) cs
theorem qh1{S T:St}{cs:Sim}:qkc (S++T) cs=qkc T (qkc S cs):=by simp[qkc]
theorem qrn{q:Nat}{v:Int}{cs:Sim}:qkc [(q,v)] cs=cs.set q v:=rfl
theorem qdW{S:St}:∀ {cs:Sim},(qkc S cs).length=cs.length:=by
 induction S with
 | nil=>intro cs;rfl
 | cons q S ih=>intro cs;show(qkc S (cs.set q.1 q.2)).length=_;rw[ih,List.length_set]
theorem qge{p:Int}{S:St}:∀ {cs:Sim},qaI cs p→(∀ q∈S,0≤q.2∧q.2≤p-1)→qaI (qkc S cs) p:=by
 induction S with
 | nil=>intro cs h _;exact h
 | cons q S ih =>
  intro cs h hS
  refine ih (cs:=cs.set q.1 q.2) (fun x hx=>?_) fun y hy=>hS y (List.mem_cons_of_mem _ hy)
  rcases List.mem_or_eq_of_mem_set hx with hx | rfl
  ·exact h x hx
  ·exact hS q List.mem_cons_self
theorem qix{S:St}{q:Nat}:∀ {cs:Sim},(∀ x∈S,x.1≠q)→(qkc S cs).getD q 0=cs.getD q 0:=by
 induction S with
 | nil=>intro cs _;rfl
 | cons y S ih =>
  intro cs h
  have e:=ih (cs:=cs.set y.1 y.2) fun x hx=>h x (List.mem_cons_of_mem _ hx)
  show(qkc S (cs.set y.1 y.2)).getD q 0=_
  rw[e,List.getD_eq_getElem?_getD,List.getD_eq_getElem?_getD,List.getElem?_set_ne (h y List.mem_cons_self)]
theorem qmj{S:St}{q:Nat}{v:Int}:∀ {cs:Sim},q<cs.length→(∀ x∈S,x.1=q→x.2=v)→(∃ x∈S,x.1=q)→(qkc S cs).getD q 0=v:=by
 induction S with
 | nil=>intro cs _ _ ⟨x,hx,_⟩;simp at hx
 | cons y S ih =>
  intro cs hq hall ⟨x,hx,e⟩
  show(qkc S (cs.set y.1 y.2)).getD q 0=_
  by_cases hS:∃ x∈S,x.1=q
  ·exact ih (by rw[List.length_set];exact hq) (fun x hx=>hall x (List.mem_cons_of_mem _ hx)) hS
  ·rw[qix fun x hx e=>hS ⟨x,hx,e⟩]
   rcases List.mem_cons.1 hx with rfl | hx
   ·subst e
    rw[List.getD_eq_getElem?_getD,List.getElem?_set_self hq]
    exact hall x List.mem_cons_self rfl
   ·exact absurd ⟨x,hx,e⟩ hS
def sgn(p:Int)(a:Nat):Int:=if a%2=0 then 1 else p-1
def stJ(p:Int)(m:Mat)(W top left:Nat)(sg:Int)(i n:Nat):St:=(List.range n).map fun j=>((top+i)*W+left+j,m.2.2.2.1.getD (i*m.2.2.1.toNat+j) 0*sg%p)
def stI(p:Int)(m:Mat)(W top left:Nat)(sg:Int)(n:Nat):St:=(List.range n).flatMap fun i=>stJ p m W top left sg i m.2.2.1.toNat
noncomputable def stF(c:List Sim)(p:Int)(st:Sim)(ms:List Mat)(k:Int)(s n:Nat):St :=
 (List.range n).flatMap fun a=>stI p (mp c ms s a) (SD c st k).toNat (FC c st s).toNat (FC c st (fc c s a)).toNat (sgn p a) (mp c ms s a).2.1.toNat
noncomputable def stS(c:List Sim)(p:Int)(st:Sim)(ms:List Mat)(k:Int)(n:Nat):St :=
 ((qaK c (k+1) c.length).take n).flatMap fun s=>stF c p st ms k s.toNat (qaF c s.toNat).length
open Classical in
noncomputable def qmY(c:List Sim)(p:Int)(st:Sim)(ms:List Mat)(k:Int):Sim :=
 if k<0 then List.replicate ((SD c st (k+1)).toNat*(SD c st k).toNat) 0 else qkc (stS c p st ms k (qaK c (k+1) c.length).length) (List.replicate ((SD c st (k+1)).toNat*(SD c st k).toNat) 0)
noncomputable def qrX(c:List Sim)(p:Int)(st:Sim)(ms:List Mat)(k:Int):Mat:=(p,SD c st (k+1),SD c st k,qmY c p st ms k,())
theorem qoJ{p:Int}{m:Mat}{W top left:Nat}{sg:Int}{i n:Nat}{q:Nat×Int}:q∈stJ p m W top left sg i n↔∃ j,j<n∧q=((top+i)*W+left+j,m.2.2.2.1.getD (i*m.2.2.1.toNat+j) 0*sg%p):=by
 unfold stJ
 rw[List.mem_map]
 constructor
 ·rintro⟨j,hj,rfl⟩;exact⟨j,List.mem_range.1 hj,rfl⟩
 ·rintro⟨j,hj,rfl⟩;exact⟨j,List.mem_range.2 hj,rfl⟩
theorem qki{c:List Sim}{p:Int}{st:Sim}{ms:List Mat}{k:Int}{s n:Nat}{q:Nat×Int}:q∈stF c p st ms k s n↔∃ a i j,a<n∧i<(mp c ms s a).2.1.toNat∧j<(mp c ms s a).2.2.1.toNat ∧
  q=(((FC c st s).toNat+i)*(SD c st k).toNat+(FC c st (fc c s a)).toNat+j,(mp c ms s a).2.2.2.1.getD (i*(mp c ms s a).2.2.1.toNat+j) 0*sgn p a%p):=by
 unfold stF stI
 rw[List.mem_flatMap]
 constructor
 ·rintro⟨a,ha,h⟩
  obtain⟨i,hi,h⟩:=List.mem_flatMap.1 h
  obtain⟨j,hj,e⟩:=qoJ.1 h
  exact⟨a,i,j,List.mem_range.1 ha,List.mem_range.1 hi,hj,e⟩
 ·rintro⟨a,i,j,ha,hi,hj,e⟩
  exact⟨a,List.mem_range.2 ha,List.mem_flatMap.2 ⟨i,List.mem_range.2 hi,qoJ.2 ⟨j,hj,e⟩⟩⟩
theorem qkg{c:List Sim}{p:Int}{st:Sim}{ms:List Mat}{k:Int}{n:Nat}{q:Nat×Int}(hn:(qaK c (k+1) c.length).length≤n):q∈stS c p st ms k n↔∃ s:Nat,s<c.length∧((c.getD s []).length:Int)=k+2∧q∈stF c p st ms k s (qaF c s).length:=by
 unfold stS
 rw[List.take_of_length_le hn,List.mem_flatMap]
 constructor
 ·rintro⟨x,hx,h⟩
  obtain⟨s,rfl,h1,h2⟩:=qfq.1 hx
  exact⟨s,h1,by omega,h⟩
 ·rintro⟨s,h1,h2,h⟩
  exact⟨(s:Int),qfq.2 ⟨s,rfl,h1,by omega⟩,h⟩
theorem qdl{c:List Sim}{p:Int}{st:Sim}{ms:List Mat}(h:VS c p st ms){k:Int}{s a:Nat}(hs:s<c.length)(hd:((c.getD s []).length:Int)=k+2)(ha:a<(qaF c s).length) :
  (mp c ms s a).2.1=st.getD s 0∧(mp c ms s a).2.2.1=st.getD (fc c s a) 0∧fc c s a<c.length∧((c.getD (fc c s a) []).length:Int)=k+1 ∧
  (0≤FC c st s∧FC c st s+st.getD s 0≤SD c st (k+1))∧0≤FC c st (fc c s a)∧FC c st (fc c s a)+st.getD (fc c s a) 0≤SD c st k:=by
 obtain⟨_,hb⟩:=h.map hs ha
 obtain⟨_,hf,hg⟩:=qaX h.1 hs ha
 have hl:=qaz (c:=c) (k:=s)
 have hfl:((c.getD (fc c s a) []).length:Int)=k+1:=by
  rw[hg,List.length_eraseIdx]
  split at hl
  ·rw[if_pos (by omega)];omega
  ·omega
 have b1:=qdY h.2.2.1.2.1 hs
 have b2:=qdY h.2.2.1.2.1 hf
 rw[show((c.getD s []).length:Int)-1=k+1 by omega] at b1
 rw[show((c.getD (fc c s a) []).length:Int)-1=k by omega] at b2
 exact⟨hb.2.2.1,hb.2.2.2,hf,hfl,b1,b2⟩
theorem qow{c:List Sim}(hv:VC c)(st:Sim){d:Int}(hd:d<0∨4≤d):SD c st d=0:=by
 have:qaK c d c.length=[]:=List.eq_nil_iff_forall_not_mem.2 fun x hx=>by
  obtain⟨i,_,hi,hl⟩:=qfq.1 hx
  have:=hv.2.1 i hi
  have h1:=this.1
  have h2:=this.2.1
  omega
 rw[qly,SDn,this];rfl
theorem qmO{c:List Sim}{p:Int}{st:Sim}{ms:List Mat}(h:VS c p st ms)(d:Int):∃ n:Nat,SD c st d=(n:Int)∧n≤32∧(SD c st d).toNat=n:=by
 by_cases hd:d<0∨4≤d
 ·exact⟨0,qow h.1 st hd,by omega,by rw[qow h.1 st hd];rfl⟩
 ·have:=qpb h d.toNat (by omega)
  rw[Int.toNat_of_nonneg (by omega)] at this
  exact⟨(SD c st d).toNat,by omega,by omega,rfl⟩
theorem qhj{c:List Sim}{p:Int}{st:Sim}{ms:List Mat}{k:Int}:(qmY c p st ms k).length=(SD c st (k+1)).toNat*(SD c st k).toNat:=by
 unfold qmY;split
 ·rw[List.length_replicate]
 ·rw[qdW,List.length_replicate]
theorem qis{n:Nat}{p:Int}(hp:2≤p):qaI (List.replicate n 0) p:=fun x hx=>by
 rw[List.mem_replicate] at hx;omega
theorem qjj{c:List Sim}{p:Int}{st:Sim}{ms:List Mat}(h:VS c p st ms)(k:Int):qaI (qmY c p st ms k) p:=by
 have hp:=h.2.1.1
 unfold qmY;split
 ·exact qis hp
 ·refine qge (qis hp) fun q hq=>?_
  obtain⟨s,_,_,hq⟩:=(qkg (Nat.le_refl _)).1 hq
  obtain⟨a,i,j,_,_,_,rfl⟩:=qki.1 hq
  have h0:=Int.emod_nonneg ((mp c ms s a).2.2.2.1.getD (i*(mp c ms s a).2.2.1.toNat+j) 0*sgn p a) (show p≠0 by omega)
  have h1:=Int.emod_lt_of_pos ((mp c ms s a).2.2.2.1.getD (i*(mp c ms s a).2.2.1.toNat+j) 0*sgn p a) (show 0<p by omega)
  exact⟨h0,by simp only;omega⟩
def qmH(m:Mat)(v:Sim)(n:Nat):Sim:=(List.range n).map fun i=>qaJ (fun l=>m.2.2.2.1.getD (i*m.2.2.1.toNat+l) 0) (fun l=>v.getD l 0) m.2.2.1.toNat%m.1
theorem qcM{m:Mat}{v:Sim}{n:Nat}:(qmH m v n).length=n:=by simp[qmH]
end VeT
open Go Go.Proofs Ve
namespace VeT
theorem qnX(s:Sim)(v:Int)(hs:s.length≤1048576):Ret E n_Z94 [dL s,dI v] ⟨o_Z94,(qiQ (fun x=>pb (x=v)) s,())⟩:=by
  obtain⟨o,h1,h2,h3⟩:=qbS 1 (L:=fun φ n k=>Z94.l0 (mkR (run E (φ 0))) (φ 0) n s v (s.length:Int) k) (len:=s.length) (fun k=>∃ h:k<s.length,pb (s[k]=v)=true) (fun o=>some ⟨o_Z94,(o2i o,())⟩) (fun _ _ _ _=>rfl) (fun k hk hP=>by
      obtain⟨_,hP⟩:=hP
      have hP:=qaC.1 hP
      simp only[Z94.l0_succ _ qaf]
      exact qax (decide_eq_true (by omega)) (qab (qai hk) (qax (by simp[hP]) qam))) (fun k q hk hP ih=>by
      simp only[Z94.l0_succ _ qaf]
      refine qax (decide_eq_true (by omega)) (qab (qai hk) (qaB (by simp only[beq_eq_false_iff_ne];exact fun e=>hP ⟨hk,qaL e.symm⟩) ?_))
      rw[qae (by omega)];exact ih) (by
      simp only[Z94.l0_succ _ qaf]
      exact qaB (decide_eq_false (by omega)) qam)
  rw[qdk (p:=fun x=>pb (x=v)) h1 h2] at h3
  refine qak ?_
  simp only[run_Z94,Z94.ev]
  exact Ev.start (p:=fun φ n=>Z94.l0 (mkR (run E (φ 0))) (φ 0) n s v (s.length:Int) 0=_) 1 h3 (fun _ _ _ h=>h)
theorem qeo(s:Sim)(v:Int)(hs:s.length≤1048576):Ret E n_Z82 [dL s,dI v] ⟨o_Z82,(pb (v∈s),())⟩:=by
 refine qak ?_
 simp only[run_Z82,Z82.ev]
 refine qaa (qnX s v hs) (qaj ?_)
 have:decide (qiQ (fun x=>pb (x=v)) s≥0)=pb (v∈s):=qfs (by
  rw[decide_eq_true_iff,ge_iff_le,qbX]
  exact⟨fun⟨x,h,e⟩=>qaC.1 e ▸ h,fun h=>⟨v,h,qaL rfl⟩⟩)
 simp only[this]
theorem qeN(s:Sim)(v:Int)(hs:s.length≤1048576):Ret E n_Z101 [dL s,dI v] ⟨o_Z101,(pb (v∈s),())⟩:=by
  obtain⟨o,h1,h2,h3⟩:=qbS 1 (L:=fun φ n k=>Z101.l0 (mkR (run E (φ 0))) (φ 0) n s v k) (len:=s.length) (fun k=>∃ h:k<s.length,s[k]=v) (fun o=>some ⟨o_Z101,(o.isSome,())⟩) (fun _ _ _ _=>rfl) (fun k hk hP=>by
      obtain⟨_,hP⟩:=hP
      simp only[Z101.l0_succ _ qaf]
      exact qax (decide_eq_true (by omega)) (qab (qai hk) (qax (by simp[hP]) qam))) (fun k q hk hP ih=>by
      simp only[Z101.l0_succ _ qaf]
      refine qax (decide_eq_true (by omega)) (qab (qai hk) (qaB (by simp only[beq_eq_false_iff_ne];exact fun e=>hP ⟨hk,e⟩) ?_))
      rw[qae (by omega)];exact ih) (by
      simp only[Z101.l0_succ _ qaf]
      exact qaB (decide_eq_false (by omega)) qam)
  have:o.isSome=pb (v∈s):=qfs (by
    cases o with
    | none =>
      simp only[Option.isSome_none,Bool.false_eq_true,false_iff]
      intro hm
      obtain⟨j,hj,e⟩:=List.mem_iff_getElem.1 hm
      exact h2 rfl j hj ⟨hj,e⟩
    | some k =>
      obtain⟨_,⟨hk,e⟩,_⟩:=h1 k rfl
      simp only[Option.isSome_some,true_iff]
      exact e ▸ List.getElem_mem hk)
  rw[this] at h3
  refine qak ?_
  simp only[run_Z101,Z101.ev]
  exact Ev.start (p:=fun φ n=>Z101.l0 (mkR (run E (φ 0))) (φ 0) n s v 0=_) 1 h3 (fun _ _ _ h=>h)
def qdx(a b:Sim):Prop:=∀ x∈a,x∈b
theorem qlj(x:Int)(b:Sim)(hb:b.length≤1048576):Ret E n_Z42 [dI x,⟨.ptr (.cons (.sl (.int .i64)) .nil),(b,())⟩] ⟨o_Z42,(!pb (x∈b),())⟩:=by
 refine qak ?_
 simp only[run_Z42,Z42.ev]
 exact qaa (qeo b x hb) qam
theorem qnA(a b:Sim)(ha:a.length≤1048576)(hb:b.length≤1048576):Ret E n_Z41 [dL a,dL b] ⟨o_Z41,(pb (qdx a b),())⟩:=by
 refine qak ?_
 simp only[run_Z41,Z41.ev]
 refine qaa (qbz a ((b,()),()) _ ha fun x _=>qlj x b hb) (qaj ?_)
 simp only[qjO];rfl
theorem qij(a b:Sim)(ha:a.length≤1048576)(hb:b.length≤1048576):Ret E n_Z136 [dL a,dL b] ⟨o_Z136,(pb (qdx a b),())⟩:=by
 refine qak ?_
 simp only[run_Z136,Z136.ev]
 refine Ev.start (p:=fun φ n=>Z136.l0 (mkR (run E (φ 0))) (φ 0) n a b 0=_) 1 ?_ (fun _ _ _ h=>h)
 refine(qcY 1 (L:=fun φ n k=>Z136.l0 (mkR (run E (φ 0))) (φ 0) n a b k) (len:=a.length) 0 (by omega) (fun j=>a.getD j 0∈b) (fun b=>some ⟨o_Z136,(b,())⟩) (fun _ _ _ _=>rfl) (fun k h1 h2 hP _=>?_) (fun k r h1 h2 hP _ ih=>?_) (fun _=>?_)).to ?_
 ·simp only[Z136.l0_succ _ qaf]
  rw[qad h2] at hP
  exact qax (decide_eq_true (by omega)) (qab (qai h2) (qaa (qeN b _ hb) (qax (by rw[qar hP];rfl) qam)))
 ·simp only[Z136.l0_succ _ qaf]
  rw[qad h2] at hP
  refine qax (decide_eq_true (by omega)) (qab (qai h2) (qaa (qeN b _ hb) (qaB (by rw[qaL hP];rfl) ?_)))
  rw[qae (by omega)];exact ih
 ·simp only[Z136.l0_succ _ qaf]
  exact qaB (decide_eq_false (by omega)) qam
 ·refine congrArg (fun b:Bool=>some (⟨o_Z136,(b,())⟩:Dv)) (qaN ⟨fun h x hx=>?_,fun h j _ hj=>by rw[qad hj];exact h _ (List.getElem_mem hj)⟩)
  obtain⟨j,hj,rfl⟩:=List.mem_iff_getElem.1 hx
  have:=h j (by omega) hj
  rwa [qad hj] at this
end VeT
open Go Go.Proofs Ve
namespace VeT
theorem qi4{C:Nat}:∀ {n:Nat},qaq (fun _ _=>0) C n=List.replicate (n*C) 0
 | 0=>by simp[qaq]
 | n+1=>by
  rw[qaq,qi4,Nat.add_mul,Nat.one_mul,← List.replicate_append_replicate]
  congr 1
  rw[List.map_const',List.length_range]
def qiL(c:List Sim)(st:Sim)(v:Sim)(s:Nat):Sim:=(v.take (FC c st s+st.getD s 0).toNat).drop (FC c st s).toNat
end VeT
open Go Go.Proofs Ve
namespace VeT
theorem qpV{x y p:Int}(hx:0≤x∧x≤250)(hy:0≤y∧y≤250)(hp:2≤p∧p≤251):Int.tmod (w64 (x*y)) p=x*y%p:=by
 have:=qeC hx hy
 rw[qag (by omega) (by omega),Int.tmod_eq_emod_of_nonneg (by omega)]
end VeT
open Go Go.Proofs Ve
namespace VeT
theorem qld(m:Mat)(v:Sim)(hm:VM m)(hv:m.2.2.1≤v.length)(ev:∀ x∈v,0≤x∧x≤250):Ret E n_Z113 [dM m,dL v] ⟨o_Z113,(qmH m v m.2.1.toNat,())⟩:=by
 obtain⟨R,C,em,hR,hC,hlen⟩:=hm.nat
 have hp:2≤m.1∧m.1≤251:=⟨hm.1.1,hm.1.2.1⟩
 have el:=hm.2.2.2.2
 obtain⟨p,r,k,cs,⟨⟩⟩:=m
 simp only[Prod.mk.injEq,true_and,and_true] at em hlen hv hp el
 obtain⟨rfl,rfl⟩:=em
 have hRC:=qdI hR hC
 show Ret E n_Z113 [dM (p,(R:Int),(C:Int),cs,()),dL v] ⟨o_Z113,(qmH (p,(R:Int),(C:Int),cs,()) v R,())⟩
 refine qak ?_
 simp only[run_Z113,Z113.ev]
 refine Ev.start (p:=fun φ n=>Z113.l0 (mkR (run E (φ 0))) (φ 0) n (p,(R:Int),(C:Int),cs,()) v 0 []=_) 1 ?_ (fun _ _ _ h=>h)
 refine qao 1 (L:=fun φ n i a=>Z113.l0 (mkR (run E (φ 0))) (φ 0) n (p,(R:Int),(C:Int),cs,()) v i a) (len:=R) (fun i=>qmH (p,(R:Int),(C:Int),cs,()) v i) (fun _ _ _ _ _=>rfl) (fun i q hi ih=>?_) ?_
 ·simp only[Z113.l0_succ _ qaf]
  have ea:qmH (p,(R:Int),(C:Int),cs,()) v (i+1)=qmH (p,(R:Int),(C:Int),cs,()) v i++[qaJ (fun l=>cs.getD (i*C+l) 0) (fun l=>v.getD l 0) C%p]:=by
   unfold qmH
   rw[List.range_succ,List.map_append];rfl
  rw[ea] at ih
  have hle:(i+1)*C≤R*C:=Nat.mul_le_mul_right _ hi
  rw[Nat.add_mul] at hle
  have gv:∀ l,0≤v.getD l 0∧v.getD l 0≤250:=fun l=>by
   by_cases hl:l<v.length
   ·rw[qad hl];exact ev _ (List.getElem_mem hl)
   ·rw[List.getD_eq_getElem?_getD,List.getElem?_eq_none (by omega)];simp
  refine qax (decide_eq_true (by omega)) ?_
  generalize hA:qmH (p,(R:Int),(C:Int),cs,()) v i=A at ih ⊢
  have hAl:A.length=i:=by rw[← hA,qcM]
  refine Ev.start (p:=fun φ n=>Z113.l1 (mkR (run E (φ 0))) (φ 0) (φ 1) n (p,(R:Int),(C:Int),cs,()) v (i:Int) 0 0 A=_) 2 ?_ (fun _ _ _ h=>h)
  refine qao 2 (L:=fun φ n l a=>Z113.l1 (mkR (run E (φ 0))) (φ 0) (φ 1) n (p,(R:Int),(C:Int),cs,()) v (i:Int) a l A) (len:=C) (fun l=>qaJ (fun l=>cs.getD (i*C+l) 0) (fun l=>v.getD l 0) l) (fun _ _ _ _ _=>rfl) (fun l q2 hl2 ih2=>?_) ?_
  ·simp only[Z113.l1_succ _ qaf]
   have hvl:l<v.length:=by omega
   have hcl:i*C+l<cs.length:=by omega
   have b1:=qhx (f:=fun l=>cs.getD (i*C+l) 0) (g:=fun l=>v.getD l 0) (n:=l) fun l _=>⟨el.get hp _,gv l⟩
   have b2:=qeC (el.get hp (i*C+l)) (gv l)
   have e1:w64 (w64 ((i:Int)*(C:Int))+(l:Int))=((i*C+l:Nat):Int):=by
    rw[qa2,qag (n:=((i*C:Nat):Int)) (by omega) (by omega),qag (by omega) (by omega)];omega
   simp only[qaJ] at ih2
   rw[qad hcl,qad hvl] at ih2 b2
   simp only[e1]
   refine qax (decide_eq_true (by omega)) (qab (qai hcl) (qab (qai hvl) ?_))
   rw[qag (n:=cs[i*C+l]*v[l]) (by omega) (by omega),qag (by omega) (by omega),qae (by omega)]
   exact ih2
  ·simp only[Z113.l1_succ _ qaf]
   have b1:=qhx (f:=fun l=>cs.getD (i*C+l) 0) (g:=fun l=>v.getD l 0) (n:=C) fun l _=>⟨el.get hp _,gv l⟩
   refine qaB (decide_eq_false (by omega)) (qan (by simp;omega) ?_)
   rw[Int.tmod_eq_emod_of_nonneg (by omega),qae (by omega)]
   exact qan (by simp[hAl];omega) ih
 ·simp only[Z113.l0_succ _ qaf]
  exact qaB (decide_eq_false (by omega)) qam
def Zs(v:Sim):Prop:=∀ x∈v,x=0
theorem qrI{v:Sim}:pb (∀ j,0≤j→j<v.length→v.getD j 0=0)=pb (Zs v):=qaN ⟨fun h x hx=>by
 obtain⟨j,hj,rfl⟩:=List.mem_iff_getElem.1 hx
 have:=h j (by omega) hj
 rwa [qad hj] at this,fun h j _ hj=>by rw[qad hj];exact h _ (List.getElem_mem hj)⟩
end VeT
open Go Go.Proofs Ve
namespace VeT
theorem qcV{p x x' y y':Int}(h1:x%p=x'%p)(h2:y%p=y'%p):x*y%p=x'*y'%p:=by
 rw[Int.mul_emod x,h1,h2,← Int.mul_emod]
theorem qhl{p x x':Int}(h:x%p=x'%p):∀ n:Nat,x ^ n%p=x' ^ n%p
 | 0=>by rw[Int.pow_zero,Int.pow_zero]
 | n+1=>by rw[Int.pow_succ,Int.pow_succ];exact qcV (qhl h n) h
def qgU(a p:Int):Int:=a ^ (p-2).toNat%p
theorem qoT{a p:Int}(hp:2≤p):0≤qgU a p∧qgU a p≤p-1:=by
 have h0:=Int.emod_nonneg (a ^ (p-2).toNat) (show p≠0 by omega)
 have h1:=Int.emod_lt_of_pos (a ^ (p-2).toNat) (show 0<p by omega)
 unfold qgU;omega
abbrev Ent:=Nat→Nat→Int
def qcp(top q:Nat)(A:Ent):Ent:=fun i=>if i=top then A q else if i=q then A top else A i
def elN(p:Int)(c top:Nat)(B:Ent):Nat→Int:=fun j=>B top j*qgU (B top c) p%p
def elM(p:Int)(c top:Nat)(B:Ent):Ent:=fun i j=>if i=top then elN p c top B j else B i j
def elF(p:Int)(c top:Nat)(B:Ent):Ent:=fun i j=>if i=top then elN p c top B j else if B i c≠0 then(B i j+(p-B i c)*elN p c top B j)%p else B i j
noncomputable def elP(p:Int)(R c:Nat)(S:Ent×List Nat):Ent×List Nat :=
 match qaP (fun i=>S.1 i c≠0) S.2.length (R-S.2.length) with
 | none=>S
 | some q=>(elF p c S.2.length (qcp S.2.length q S.1),S.2++[c])
noncomputable def elS(p:Int)(R:Nat)(A:Ent):Nat→Ent×List Nat
 | 0=>(A,[])
 | c+1=>elP p R c (elS p R A c)
def EIn(p:Int)(R W:Nat)(A:Ent):Prop:=∀ i j,i<R→j<W→0≤A i j∧A i j≤p-1
theorem EIn.sw{p:Int}{R W top q:Nat}{A:Ent}(h:EIn p R W A)(ht:top<R)(hq:q<R):EIn p R W (qcp top q A):=fun i j hi hj=>by
 unfold qcp;split
 ·exact h q j hq hj
 ·split
  ·exact h top j ht hj
  ·exact h i j hi hj
theorem qdh{p x:Int}(hp:2≤p):0≤x%p∧x%p≤p-1:=by
 have h0:=Int.emod_nonneg x (show p≠0 by omega)
 have h1:=Int.emod_lt_of_pos x (show 0<p by omega)
 omega
theorem EIn.f{p:Int}{R W c top:Nat}{B:Ent}(h:EIn p R W B)(hp:2≤p):EIn p R W (elF p c top B):=fun i j hi hj=>by
 unfold elF;split
 ·exact qdh hp
 ·split
  ·exact qdh hp
  ·exact h i j hi hj
theorem qgF{p:Int}{R W:Nat}{A:Ent}(hp:2≤p)(h:EIn p R W A):∀ c,EIn p R W (elS p R A c).1∧(elS p R A c).2.length≤R∧(elS p R A c).2.length≤c∧∀ x∈(elS p R A c).2,x<c
 | 0=>⟨h,Nat.zero_le _,Nat.zero_le _,fun x hx=>by simp[elS] at hx⟩
 | c+1=>by
  obtain⟨h1,h2,h3,h4⟩:=qgF hp h c
  rw[elS,elP]
  cases hf:qaP (fun i=>(elS p R A c).1 i c≠0) (elS p R A c).2.length (R-(elS p R A c).2.length) with
  | none=>exact⟨h1,h2,by show(elS p R A c).2.length≤c+1;omega,fun x hx=>by have:=h4 x hx;omega⟩
  | some q =>
   have hq:=qay hf
   refine⟨(h1.sw (by omega) (by omega)).f hp,?_,?_,fun x hx=>?_⟩
   ·simp only[List.length_append,List.length_singleton];omega
   ·simp only[List.length_append,List.length_singleton];omega
   ·rcases List.mem_append.1 hx with hx | hx
    ·have:=h4 x hx;omega
    ·rw[List.mem_singleton] at hx;omega
def qaE(A:Ent)(R W:Nat):List Sim:=(List.range R).map fun i=>(List.range W).map (A i)
theorem qaO{A:Ent}{R W:Nat}:(qaE A R W).length=R:=by simp[qaE]
theorem qbH{A:Ent}{R W i:Nat}(hi:i<R):(qaE A R W)[i]? = some ((List.range W).map (A i)):=by
 unfold qaE;rw[List.getElem?_map,List.getElem?_range hi];rfl
theorem qbZ{A B:Ent}{R W:Nat}(h:∀ i j,i<R→j<W→A i j=B i j):qaE A R W=qaE B R W :=
 List.map_congr_left fun i hi=>List.map_congr_left fun j hj=>h i j (List.mem_range.1 hi) (List.mem_range.1 hj)
theorem qfE{A:Ent}{R W i:Nat}{f:Nat→Int}:(qaE A R W).set i ((List.range W).map f)=qaE (fun k j=>if k=i then f j else A k j) R W:=by
 apply List.ext_getElem?
 intro k
 by_cases hk:k<R
 ·rw[qbH hk]
  by_cases hik:k=i
  ·subst hik
   rw[List.getElem?_set_self (by rw[qaO];exact hk)]
   simp
  ·rw[List.getElem?_set_ne (Ne.symm hik),qbH hk]
   simp[hik]
 ·rw[List.getElem?_eq_none (by rw[List.length_set,qaO];omega),List.getElem?_eq_none (by rw[qaO];omega)]
theorem qgo{f:Nat→Int}{W j:Nat}(hj:j<W):((List.range W).map f)[j]? = some (f j):=by
 rw[List.getElem?_map,List.getElem?_range hj];rfl
theorem qcO{A:Ent}{R W i j:Nat}{v:Int}(hi:i<R)(hj:j<W):(qaq A W R).set (i*W+j) v=qaq (fun k l=>if k=i∧l=j then v else A k l) W R:=by
 apply List.ext_getElem?
 intro n
 by_cases hn:n<R*W
 ·have hW:0<W:=by omega
  have e:n=n / W*W+n%W:=by have:=Nat.div_add_mod n W;rw[Nat.mul_comm] at this;omega
  have h1:n / W<R:=Nat.div_lt_of_lt_mul (by rw[Nat.mul_comm];exact hn)
  have h2:n%W<W:=Nat.mod_lt _ hW
  generalize n / W=a at e h1
  generalize n%W=b at e h2
  subst e
  rw[qbu h1 h2]
  by_cases hab:a=i∧b=j
  ·obtain⟨rfl,rfl⟩:=hab
   rw[List.getElem?_set_self (by rw[qas];exact hn)]
   simp
  ·rw[List.getElem?_set_ne,qbu h1 h2,if_neg hab]
   intro e
   have hbW:b<W:=h2
   have:a=i∧b=j:=by
    have h3:(i*W+j) / W=i:=by rw[Nat.mul_comm,Nat.mul_add_div (by omega),Nat.div_eq_of_lt hj,Nat.add_zero]
    have h4:(a*W+b) / W=a:=by rw[Nat.mul_comm,Nat.mul_add_div (by omega),Nat.div_eq_of_lt hbW,Nat.add_zero]
    have:a=i:=by rw[← h3,← h4,e]
    subst this
    exact⟨rfl,by omega⟩
   exact hab this
 ·rw[List.getElem?_eq_none (by rw[List.length_set,qas];omega),List.getElem?_eq_none (by rw[qas];omega)]
theorem qbM{A:Ent}{W:Nat}:∀ {R:Nat},(qaE A R W).flatten=qaq A W R
 | 0=>by simp[qaE,qaq]
 | R+1=>by
  have:=qbM (A:=A) (W:=W) (R:=R)
  unfold qaE at this ⊢
  rw[List.range_succ,List.map_append,List.flatten_append,this,qaq]
  simp
def qbL(cells:Sim)(W:Nat):Ent:=fun i j=>cells.getD (i*W+j) 0
theorem qen{cells:Sim}{R W:Nat}(h:cells.length=R*W):qaq (qbL cells W) W R=cells:=by
 refine List.ext_getElem (by rw[qas,h]) fun n h1 h2=>?_
 rw[qas] at h1
 have hW:0<W:=by
  cases W with
  | zero=>simp at h1
  | succ W=>omega
 have e:n=n / W*W+n%W:=by have:=Nat.div_add_mod n W;rw[Nat.mul_comm] at this;omega
 have h3:n / W<R:=Nat.div_lt_of_lt_mul (by rw[Nat.mul_comm];exact h1)
 have h4:n%W<W:=Nat.mod_lt _ hW
 have hg:=qbu (f:=qbL cells W) h3 h4
 rw[← e,List.getElem?_eq_getElem (by rw[qas];exact h1)] at hg
 rw[Option.some.inj hg]
 unfold qbL
 rw[← e,qad h2]
theorem qcA{p:Int}{cells:Sim}{R W:Nat}(h:qaI cells p)(hl:cells.length=R*W):EIn p R W (qbL cells W):=fun i j hi hj=>by
 unfold qbL
 have:=qeO hi hj
 rw[qad (by omega)]
 exact h _ (List.getElem_mem _)
end VeT
open Go Go.Proofs Ve
namespace VeT
def qqb:Bool:=(List.range 252).all fun p=>!(decide (2≤p)&&(List.range 16).all fun k=>!(decide (2≤k)&&decide (k*k≤p)&&decide (p%k=0))) || (List.range p).all fun a=>a==0 || (a*(a ^ (p-2)%p)%p==1)
theorem qoj:qqb=true:=by kernel_rfl
theorem ql9{p a:Int}(hp:Pr p)(h1:1≤a)(h2:a≤p-1):a*qgU a p%p=1:=by
  obtain⟨hp2,hp251,hpk⟩:=hp
  obtain⟨P,rfl⟩:=Int.eq_ofNat_of_zero_le (show 0≤p by omega)
  obtain⟨N,rfl⟩:=Int.eq_ofNat_of_zero_le (show 0≤a by omega)
  have h:=qoj
  unfold qqb at h
  rw[List.all_eq_true] at h
  have hP:=h P (List.mem_range.2 (by omega))
  rw[Bool.or_eq_true] at hP
  rcases hP with hP | hP
  · exfalso
    rw[Bool.not_eq_true',Bool.and_eq_false_iff] at hP
    rcases hP with hP | hP
    · have:=of_decide_eq_false hP;omega
    · rw[← Bool.not_eq_true,List.all_eq_true] at hP
      refine hP fun k hk=>?_
      have hk16:=List.mem_range.1 hk
      rw[Bool.not_eq_true',Bool.and_eq_false_iff,Bool.and_eq_false_iff]
      by_cases hk2:2≤k
      · by_cases hkk:k*k≤P
        · right
          refine decide_eq_false fun e=>?_
          have := hpk k hk2 (by have : ((k * k : Nat) : Int) ≤ (P : Int) := by omega
                                rwa [Int.natCast_mul] at this)
          exact this (by omega)
        · exact .inl (.inr (decide_eq_false hkk))
      · exact .inl (.inl (decide_eq_false hk2))
  · rw[List.all_eq_true] at hP
    have hN:=hP N (List.mem_range.2 (by omega))
    rw[Bool.or_eq_true] at hN
    rcases hN with hN | hN
    · have:N=0:=by simpa using hN
      omega
    · have hN:N*(N ^ (P-2)%P)%P=1:=by simpa using hN
      unfold qgU
      have e:((P:Int)-2).toNat=P-2:=by omega
      rw[e]
      have:((N*(N ^ (P-2)%P)%P:Nat):Int)=1:=by rw[hN];rfl
      rwa [Int.natCast_emod,Int.natCast_mul,Int.natCast_emod,Int.natCast_pow] at this
theorem qmT{c d g:Nat→Int}:∀ {n:Nat},qaJ (fun i=>c i+d i) g n=qaJ c g n+qaJ d g n
 | 0=>rfl
 | n+1=>by simp only[qaJ];rw[qmT,Int.add_mul];omega
theorem qlf{k:Int}{c g:Nat→Int}:∀ {n:Nat},qaJ (fun i=>k*c i) g n=k*qaJ c g n
 | 0=>by simp[qaJ]
 | n+1=>by simp only[qaJ];rw[qlf,Int.mul_add,Int.mul_assoc]
theorem qll{k:Nat}{g:Nat→Int}:∀ {n:Nat},n≤k→qaJ (fun i=>if i=k then 1 else 0) g n=0
 | 0,_=>rfl
 | n+1,h=>by simp only[qaJ];rw[qll (by omega),if_neg (by omega),Int.zero_mul];rfl
theorem qbU{k:Nat}{g:Nat→Int}:∀ {n:Nat},k<n→qaJ (fun i=>if i=k then 1 else 0) g n=g k
 | n+1,h=>by
  simp only[qaJ]
  by_cases hk:k=n
  ·subst hk;rw[qll (Nat.le_refl _),if_pos rfl,Int.one_mul,Int.zero_add]
  ·rw[qbU (by omega),if_neg (by omega),Int.zero_mul,Int.add_zero]
def Spn(p:Int)(R W:Nat)(A:Ent)(x:Nat→Int):Prop:=∃ c:Nat→Int,∀ j,j<W→qaJ c (fun i=>A i j) R%p=x j%p
theorem Spn.row{p:Int}{R W:Nat}{A:Ent}{i:Nat}(hi:i<R):Spn p R W A (A i):=⟨fun k=>if k=i then 1 else 0,fun j _=>by rw[qbU hi]⟩
theorem Spn.congr{p:Int}{R W:Nat}{A:Ent}{x y:Nat→Int}(h:∀ j,j<W→x j%p=y j%p):Spn p R W A x→Spn p R W A y:=fun⟨c,hc⟩=>⟨c,fun j hj=>(hc j hj).trans (h j hj)⟩
theorem Spn.add{p:Int}{R W:Nat}{A:Ent}{x y:Nat→Int}(hx:Spn p R W A x)(hy:Spn p R W A y):Spn p R W A (fun j=>x j+y j):=by
 obtain⟨c,hc⟩:=hx
 obtain⟨d,hd⟩:=hy
 exact⟨fun i=>c i+d i,fun j hj=>by rw[qmT,Int.add_emod,hc j hj,hd j hj,← Int.add_emod]⟩
theorem Spn.smul{p:Int}{R W:Nat}{A:Ent}{x:Nat→Int}(k:Int)(hx:Spn p R W A x):Spn p R W A (fun j=>k*x j):=by
 obtain⟨c,hc⟩:=hx
 exact⟨fun i=>k*c i,fun j hj=>by rw[qlf,Int.mul_emod,hc j hj,← Int.mul_emod]⟩
theorem Spn.zero{p:Int}{R W:Nat}{A:Ent}:Spn p R W A (fun _=>0):=⟨fun _=>0,fun j _=>by
 have:∀ n,qaJ (fun _=>0) (fun i=>A i j) n=0:=fun n=>by
  induction n with
  | zero=>rfl
  | succ n ih=>simp only[qaJ,ih,Int.zero_mul];rfl
 rw[this]⟩
theorem Spn.sum{p:Int}{R W:Nat}{A B:Ent}{c:Nat→Int}:∀ {n:Nat},(∀ i,i<n→Spn p R W A (B i))→Spn p R W A (fun j=>qaJ c (fun i=>B i j) n)
 | 0,_=>Spn.zero
 | n+1,h=>(Spn.sum (n:=n) fun i hi=>h i (by omega)).add ((h n (Nat.lt_succ_self n)).smul (c n))
theorem Spn.trans{p:Int}{R R' W:Nat}{A B:Ent}{x:Nat→Int}(h:∀ i,i<R'→Spn p R W A (B i))(hx:Spn p R' W B x):Spn p R W A x:=by
 obtain⟨c,hc⟩:=hx
 exact(Spn.sum h).congr hc
def Eqv(p:Int)(R W:Nat)(A B:Ent):Prop:=(∀ i,i<R→Spn p R W A (B i))∧(∀ i,i<R→Spn p R W B (A i))
theorem Eqv.refl{p:Int}{R W:Nat}{A:Ent}:Eqv p R W A A:=⟨fun _ h=>Spn.row h,fun _ h=>Spn.row h⟩
theorem Eqv.trans{p:Int}{R W:Nat}{A B C:Ent}(h:Eqv p R W A B)(k:Eqv p R W B C):Eqv p R W A C:=⟨fun i hi=>Spn.trans h.1 (k.1 i hi),fun i hi=>Spn.trans k.2 (h.2 i hi)⟩
theorem Eqv.sw{p:Int}{R W top q:Nat}{A:Ent}(ht:top<R)(hq:q<R):Eqv p R W A (qcp top q A):=by
 refine⟨fun i hi=>?_,fun i hi=>?_⟩
 ·unfold qcp
  split
  ·exact Spn.row hq
  ·split
   ·exact Spn.row ht
   ·exact Spn.row hi
 ·have key:∀ k,k<R→(qcp top q A) k=A i→Spn p R W (qcp top q A) (A i):=fun k hk e=>by rw[← e];exact Spn.row hk
  by_cases h1:i=top
  ·subst h1
   by_cases h2:q=i
   ·subst h2;exact key q hq (by simp[qcp])
   ·exact key q hq (by simp[qcp,h2])
  ·by_cases h2:i=q
   ·subst h2;exact key top ht (by simp[qcp])
   ·exact key i hi (by simp[qcp,h1,h2])
theorem Eqv.f{p:Int}{R W c top:Nat}{B:Ent}(hp:Pr p)(ht:top<R)(hl:1≤B top c∧B top c≤p-1):Eqv p R W B (elF p c top B):=by
 have hinv:=ql9 hp hl.1 hl.2
 have hN:Spn p R W B (elN p c top B):=((Spn.row ht).smul (qgU (B top c) p)).congr fun j _=>by
  show qgU (B top c) p*B top j%p=(B top j*qgU (B top c) p%p)%p
  rw[Int.emod_emod_of_dvd _ (Int.dvd_refl p),Int.mul_comm]
 have eTop:elF p c top B top=elN p c top B:=by funext j;simp[elF]
 have hN2:Spn p R W (elF p c top B) (elN p c top B):=by rw[← eTop];exact Spn.row ht
 refine⟨fun i hi=>?_,fun i hi=>?_⟩
 ·by_cases h1:i=top
  ·subst h1;rw[eTop];exact hN
  ·by_cases h2:B i c=0
   ·have e:elF p c top B i=B i:=by funext j;simp[elF,h1,h2]
    rw[e];exact Spn.row hi
   ·refine((Spn.row hi).add (hN.smul (p-B i c))).congr fun j _=>?_
    have e:elF p c top B i j=(B i j+(p-B i c)*elN p c top B j)%p:=by simp[elF,h1,h2]
    rw[e,Int.emod_emod_of_dvd _ (Int.dvd_refl p)]
 ·by_cases h1:i=top
  ·subst h1
   refine(hN2.smul (B i c)).congr fun j _=>?_
   show B i c*(B i j*qgU (B i c) p%p)%p=B i j%p
   rw[Int.mul_emod,Int.emod_emod_of_dvd _ (Int.dvd_refl p),← Int.mul_emod,show B i c*(B i j*qgU (B i c) p)=B i j*(B i c*qgU (B i c) p) by rw[← Int.mul_assoc,Int.mul_comm (B i c),Int.mul_assoc],Int.mul_emod,hinv,Int.mul_one,Int.emod_emod_of_dvd _ (Int.dvd_refl p)]
  ·by_cases h2:B i c=0
   ·have e:elF p c top B i=B i:=by funext j;simp[elF,h1,h2]
    rw[← e];exact Spn.row hi
   ·refine((Spn.row hi).add (hN2.smul (B i c))).congr fun j _=>?_
    have e:elF p c top B i j=(B i j+(p-B i c)*elN p c top B j)%p:=by simp[elF,h1,h2]
    rw[e,Int.add_emod,Int.emod_emod_of_dvd _ (Int.dvd_refl p),← Int.add_emod,show B i j+(p-B i c)*elN p c top B j+B i c*elN p c top B j=B i j+p*elN p c top B j by rw[Int.sub_mul];omega,Int.add_mul_emod_self_left]
structure Rf (R c:Nat) (B:Ent) (pv:List Nat):Prop where
 len:pv.length≤R
 lt:∀ i,i<pv.length→pv.getD i 0<c
 mono:∀ i j,i<j→j<pv.length→pv.getD i 0<pv.getD j 0
 one:∀ i j,i<R→j<pv.length→B i (pv.getD j 0)=if i=j then 1 else 0
 low:∀ i j,i<pv.length→j<pv.getD i 0→B i j=0
 bot:∀ i j,pv.length≤i→i<R→j<c→B i j=0
end VeT
open Go Go.Proofs Ve
namespace VeT
theorem qcn{l:List Nat}{c i:Nat}(h:i<l.length):(l++[c]).getD i 0=l.getD i 0:=by
 rw[List.getD_eq_getElem?_getD,List.getD_eq_getElem?_getD,List.getElem?_append_left h]
theorem qdZ{l:List Nat}{c:Nat}:(l++[c]).getD l.length 0=c:=by
 rw[List.getD_eq_getElem?_getD,List.getElem?_append_right (Nat.le_refl _)];simp
theorem Rf.next{p:Int}{R W c:Nat}{B:Ent}{pv:List Nat}(hp:Pr p)(hB:EIn p R W B)(hc:c<W)(h:Rf R c B pv){q:Nat}(hq:pv.length≤q∧q<R)(hne:B q c≠0) :
  Rf R (c+1) (elF p c pv.length (qcp pv.length q B)) (pv++[c]):=by
 obtain⟨hlen,hlt,hmono,hone,hlow,hbot⟩:=h
 generalize ht:pv.length=top at *
 have hB':EIn p R W (qcp top q B):=hB.sw (by omega) hq.2
 have rowLt:∀ i,i<top→qcp top q B i=B i:=fun i hi=>by
  unfold qcp;rw[if_neg (by omega),if_neg (by omega)]
 have rowGe:∀ i,top≤i→i<R→∀ j,j<c→qcp top q B i j=0:=fun i h1 h2 j hj=>by
  unfold qcp
  split
  ·exact hbot q j hq.1 hq.2 hj
  ·split
   ·exact hbot top j (Nat.le_refl _) (by omega) hj
   ·exact hbot i j h1 h2 hj
 have eLead:qcp top q B top c=B q c:=by simp[qcp]
 have hlead:1≤qcp top q B top c∧qcp top q B top c≤p-1:=by
  have:=hB q c hq.2 hc
  rw[eLead];omega
 generalize qcp top q B=B' at hB' rowLt rowGe eLead hlead
 have hinv:=ql9 hp hlead.1 hlead.2
 have nLt:∀ j,j<c→elN p c top B' j=0:=fun j hj=>by
  unfold elN;rw[rowGe top (Nat.le_refl _) (by omega) j hj,Int.zero_mul];exact Int.zero_emod p
 have nC:elN p c top B' c=1:=hinv
 have fLt:∀ i j,i<R→j<c→elF p c top B' i j=B' i j:=fun i j hi hj=>by
  unfold elF
  split
  ·rename_i e;subst e;rw[nLt j hj,rowGe i (Nat.le_refl _) hi j hj]
  ·split
   ·rw[nLt j hj,Int.mul_zero,Int.add_zero]
    have:=hB' i j hi (by omega)
    exact Int.emod_eq_of_lt this.1 (by omega)
   ·rfl
 have fC:∀ i,i<R→elF p c top B' i c=if i=top then 1 else 0:=fun i hi=>by
  unfold elF
  split
  ·exact nC
  ·split
   ·rw[nC,Int.mul_one,show B' i c+(p-B' i c)=p by omega,Int.emod_self]
   ·rename_i _ h2;exact Classical.byContradiction fun e=>h2 e
 refine⟨?_,?_,?_,?_,?_,?_⟩
 ·rw[List.length_append,List.length_singleton,ht];omega
 ·intro i hi
  rw[List.length_append,List.length_singleton,ht] at hi
  by_cases hi2:i<top
  ·rw[qcn (by omega)];have:=hlt i hi2;omega
  ·obtain rfl:i=top:=by omega
   subst ht
   rw[qdZ];omega
 ·intro i j hij hj
  rw[List.length_append,List.length_singleton,ht] at hj
  by_cases hj2:j<top
  ·rw[qcn (by omega),qcn (by omega)];exact hmono i j hij hj2
  ·obtain rfl:j=top:=by omega
   have:=hlt i hij
   subst ht
   rw[qcn hij,qdZ];exact this
 ·intro i j hi hj
  rw[List.length_append,List.length_singleton,ht] at hj
  by_cases hj2:j<top
  ·have hpj:=hlt j hj2
   rw[qcn (by omega),fLt i _ hi hpj]
   by_cases hi2:i<top
   ·rw[rowLt i hi2];exact hone i j hi hj2
   ·rw[rowGe i (by omega) hi _ hpj,if_neg (by omega)]
  ·obtain rfl:j=top:=by omega
   have hfc:=fC i hi
   subst ht
   rw[qdZ];exact hfc
 ·intro i j hi hj
  rw[List.length_append,List.length_singleton,ht] at hi
  by_cases hi2:i<top
  ·rw[qcn (by omega)] at hj
   have:=hlt i hi2
   rw[fLt i j (by omega) (by omega),rowLt i hi2];exact hlow i j hi2 hj
  ·obtain rfl:i=top:=by omega
   have hfl:j<c→elF p c i B' i j=0:=fun h=>by rw[fLt i j (by omega) h];exact rowGe i (Nat.le_refl _) (by omega) j h
   have e:(pv++[c]).getD i 0=c:=by rw[← ht];exact qdZ
   rw[e] at hj
   exact hfl hj
 ·intro i j hi hiR hj
  rw[List.length_append,List.length_singleton,ht] at hi
  by_cases hjc:j<c
  ·rw[fLt i j hiR hjc];exact rowGe i (by omega) hiR j hjc
  ·obtain rfl:j=c:=by omega
   rw[fC i hiR,if_neg (by omega)]
theorem qgu{p:Int}{R W:Nat}{A:Ent}(hp:Pr p)(hA:EIn p R W A):∀ c,c≤W→Rf R c (elS p R A c).1 (elS p R A c).2∧Eqv p R W A (elS p R A c).1
 | 0,_=>⟨⟨Nat.zero_le _,fun i h=>by simp[elS] at h,fun i j _ h=>by simp[elS] at h,fun i j _ h=>by simp[elS] at h,fun i j h=>by simp[elS] at h,fun i j _ _ h=>by omega⟩,Eqv.refl⟩
 | c+1,hc=>by
  obtain⟨h1,h2⟩:=qgu hp hA c (by omega)
  have hB:=(qgF hp.1 hA c).1
  rw[elS,elP]
  generalize elS p R A c=S at h1 h2 hB
  obtain⟨B,pv⟩:=S
  simp only at h1 h2 hB ⊢
  cases hf:qaP (fun i=>B i c≠0) pv.length (R-pv.length) with
  | none =>
   have hn:=qcX hf
   show Rf R (c+1) B pv∧Eqv p R W A B
   refine⟨⟨h1.len,fun i hi=>by have:=h1.lt i hi;omega,h1.mono,h1.one,h1.low,fun i j h3 h4 h5=>?_⟩,h2⟩
   by_cases hj:j<c
   ·exact h1.bot i j h3 h4 hj
   ·obtain rfl:j=c:=by omega
    exact Classical.byContradiction fun e=>hn i h3 (by omega) e
  | some q =>
   have hq:=qay hf
   have hq2:pv.length≤q∧q<R:=by omega
   have hlead:1≤qcp pv.length q B pv.length c∧qcp pv.length q B pv.length c≤p-1:=by
    have e:qcp pv.length q B pv.length c=B q c:=by simp[qcp]
    have:=hB q c hq2.2 (by omega)
    have:=hq.2.2
    rw[e];omega
   exact⟨h1.next hp hB (by omega) hq2 hq.2.2,(h2.trans (Eqv.sw (by omega) hq2.2)).trans (Eqv.f hp (by omega) hlead)⟩
end VeT
open Go Go.Proofs Ve
namespace VeT
end VeT
open Go Go.Proofs Ve
namespace VeT
end VeT
open Go Go.Proofs Ve
namespace VeT
def qbf(i j:Nat):Int:=if i=j then 1 else 0
def qaW(p:Int)(n:Nat):Mat:=(p,(n:Int),(n:Int),qaq qbf n n,())
theorem qnH(i j:Nat):Ret E n_Z64 [dI (i:Int),dI (j:Int)] ⟨o_Z64,(qbf i j,())⟩:=by
 refine qak ?_
 simp only[run_Z64,Z64.ev]
 refine qb7 (fun h=>qaj ?_) fun h=>qaj ?_
 ·have h:(i:Int)=j:=by simpa using h
  rw[qbf,if_pos (by omega)]
 ·have h:¬ (i:Int)=j:=by simpa using h
  rw[qbf,if_neg (by omega)]
theorem qpD(p:Int)(n:Nat)(hn:n≤32):Ret E n_Z63 [dI p,dI (n:Int)] ⟨o_Z63,qaW p n⟩:=by
 have h:=qdI hn hn
 refine qak ?_
 simp only[run_Z63,Z63.ev]
 exact qaa (qeb p n n qbf (by omega) (by omega) (by omega) fun i j _ _=>qnH i j) qam
theorem qdL(p:Int)(n:Nat)(hn:n≤32):Ret E n_Z125 [dI p,dI (n:Int)] ⟨o_Z125,qaW p n⟩:=by
 have h:=qdI hn hn
 refine qak ?_
 simp only[run_Z125,Z125.ev]
 refine qaa (qcl p n n hn hn) ?_
 refine Ev.start (p:=fun φ m=>Z125.l0 (mkR (run E (φ 0))) (φ 0) m (n:Int) 0 0 0 0 p (n:Int) (n:Int) (List.replicate (n*n) 0)=_) 1 ?_ (fun _ _ _ h=>h)
 have:=qao 1 (L:=fun φ m i o=>Z125.l0 (mkR (run E (φ 0))) (φ 0) m (n:Int) i 0 0 0 p (n:Int) (n:Int) o) (len:=n) (fun i=>qaq qbf n i++List.replicate ((n-i)*n) 0) (r:=some ⟨o_Z125,qaW p n⟩) (fun _ _ _ _ _=>rfl) (fun i r hi ih=>?_) ?_
 ·simpa [qaq] using this
 ·simp only[Z125.l0_succ _ qaf]
  have hii:=qeO hi hi
  have hle:(i+1)*n≤n*n:=Nat.mul_le_mul_right _ hi
  rw[Nat.add_mul] at hle
  have hRi:(n-i)*n=n+(n-(i+1))*n:=by
   rw[show n-i=(n-(i+1))+1 by omega,Nat.add_mul];omega
  have hol:(qaq qbf n i++List.replicate ((n-i)*n) (0:Int)).length=i*n+(n-i)*n:=by simp[qas]
  have e1:w64 (w64 ((i:Int)*(n:Int))+(i:Int))=((i*n+i:Nat):Int):=by
   rw[qa2,qag (n:=((i*n:Nat):Int)) (by omega) (by omega),qag (by omega) (by omega)];omega
  simp only[e1,Int.toNat_natCast]
  refine qax (decide_eq_true (by omega)) (qan (by simp only[Bool.and_eq_true,decide_eq_true_eq,hol];omega) ?_)
  rw[qae (by omega)]
  have e2:(qaq qbf n i++List.replicate ((n-i)*n) (0:Int)).set (i*n+i) 1=qaq qbf n (i+1)++List.replicate ((n-(i+1))*n) 0:=by
   rw[List.set_append_right _ _ (by rw[qas];omega),qas,Nat.add_sub_cancel_left,qaq,List.append_assoc]
   congr 1
   apply List.ext_getElem?
   intro j
   rw[List.getElem?_set,List.length_replicate]
   by_cases hj:j<n
   ·rw[List.getElem?_append_left (by simpa using hj)]
    by_cases hij:i=j
    ·subst hij
     rw[if_pos rfl,if_pos (by omega)]
     simp[hj,qbf]
    ·rw[if_neg hij,List.getElem?_replicate,if_pos (by omega)]
     simp[hj,qbf,hij]
   ·rw[if_neg (by omega),List.getElem?_append_right (by simpa using hj)]
    simp only[List.length_map,List.length_range,List.getElem?_replicate]
    by_cases h2:j<(n-i)*n
    ·rw[if_pos h2,if_pos (by omega)]
    ·rw[if_neg h2,if_neg (by omega)]
  rw[e2]
  exact ih
 ·simp only[Z125.l0_succ _ qaf]
  refine qaB (decide_eq_false (by omega)) (qaj ?_)
  simp[qaW]
end VeT
open Go Go.Proofs Ve
namespace VeT
noncomputable def qqY(x:Shf)(k:Int):Mat:=qrX x.1 x.2.1 x.2.2.1 x.2.2.2.1 k
theorem VM.len{m:Mat}(h:VM m):m.2.2.2.1.length≤1024:=by
 obtain⟨R,C,_,hR,hC,hl⟩:=h.nat
 have:=qdI hR hC
 omega
end VeT
open Go Go.Proofs Ve
namespace VeT
theorem qey.lt{s:Sim}(h:qey s):∀ {i j:Nat} (hj:j<s.length) (hij:i<j),s[i]<s[j]:=by
 intro i j
 induction j with
 | zero=>intro _ h;omega
 | succ j ih =>
  intro hj hij
  have:=h (j+1) (by omega) hj
  rw[Nat.add_sub_cancel,qad (by omega),qad hj] at this
  by_cases e:i=j
  ·subst e;exact this
  ·exact Int.lt_trans (ih (by omega) (by omega)) this
theorem qey.pairwise{s:Sim}(h:qey s):s.Pairwise (·<·):=by
 rw[List.pairwise_iff_getElem]
 intro i j hi hj hij
 exact h.lt hj hij
theorem qk6:∀ {a b:Sim},a.Pairwise (·<·)→b.Pairwise (·<·)→(∀ x,x∈a↔x∈b)→a=b
 | [],[],_,_,_=>rfl
 | [],y::ys,_,_,h=>absurd ((h y).2 List.mem_cons_self) (by simp)
 | x::xs,[],_,_,h=>absurd ((h x).1 List.mem_cons_self) (by simp)
 | x::xs,y::ys,ha,hb,h=>by
  rw[List.pairwise_cons] at ha hb
  have exy:x=y:=by
   have h1:=(h x).1 List.mem_cons_self
   have h2:=(h y).2 List.mem_cons_self
   rw[List.mem_cons] at h1 h2
   rcases h1 with h1 | h1
   ·exact h1
   ·rcases h2 with h2 | h2
    ·exact h2.symm
    ·have:=hb.1 x h1
     have:=ha.1 y h2
     omega
  subst exy
  congr 1
  refine qk6 ha.2 hb.2 fun z=>⟨fun hz=>?_,fun hz=>?_⟩
  ·have:=(h z).1 (List.mem_cons_of_mem _ hz)
   rw[List.mem_cons] at this
   rcases this with e | e
   ·have:=ha.1 z hz;omega
   ·exact e
  ·have:=(h z).2 (List.mem_cons_of_mem _ hz)
   rw[List.mem_cons] at this
   rcases this with e | e
   ·have:=hb.1 z hz;omega
   ·exact e
theorem qkB{a b:Sim}(ha:qey a)(hb:qey b)(h:qdx a b)(hne:a≠b):∃ i,∃ hi:i<b.length,¬ b[i]∈a∧∀ j (hj:j<i),b[j]∈a:=by
 have hex:∃ x∈b,¬ x∈a:=Classical.byContradiction fun hn=>hne (qk6 ha.pairwise hb.pairwise fun x=>⟨h x,fun hx=>Classical.byContradiction fun hxa=>hn ⟨x,hx,hxa⟩⟩)
 obtain⟨x,hx,hxa⟩:=hex
 obtain⟨j,hj,rfl⟩:=List.mem_iff_getElem.1 hx
 have hf:b.findIdx (fun v=>!pb (v∈a))<b.length:=List.findIdx_lt_length_of_exists ⟨b[j],hx,by rw[qar hxa];rfl⟩
 refine⟨b.findIdx (fun v=>!pb (v∈a)),hf,?_,fun q hq=>?_⟩
 ·have:=List.findIdx_getElem (w:=hf)
  exact qa1.1 (by simpa using this)
 ·have:=List.not_of_lt_findIdx hq
  exact qaC.1 (by simpa using this)
theorem qcK{a b:Sim}(h:qdx a b){i:Nat}(hi:i<b.length)(hn:¬ b[i]∈a):qdx a (b.eraseIdx i):=by
 intro x hx
 obtain⟨j,hj,rfl⟩:=List.mem_iff_getElem.1 (h x hx)
 have hji:j≠i:=fun e=>hn (by subst e;exact hx)
 rw[List.mem_iff_getElem?]
 by_cases hlt:j<i
 ·exact⟨j,by rw[List.getElem?_eraseIdx,if_pos hlt,List.getElem?_eq_getElem hj]⟩
 ·exact⟨j-1,by rw[List.getElem?_eraseIdx,if_neg (by omega),show j-1+1=j by omega,List.getElem?_eq_getElem hj]⟩
end VeT
open Go Go.Proofs Ve
namespace VeT
theorem qqa{W a b a' b':Nat}(hb:b<W)(hb':b'<W)(e:a*W+b=a'*W+b'):a=a'∧b=b':=by
 have h1:(a*W+b) / W=a:=by rw[Nat.mul_comm,Nat.mul_add_div (by omega),Nat.div_eq_of_lt hb,Nat.add_zero]
 have h2:(a'*W+b') / W=a':=by rw[Nat.mul_comm,Nat.mul_add_div (by omega),Nat.div_eq_of_lt hb',Nat.add_zero]
 have:a=a':=by rw[← h1,← h2,e]
 subst this
 exact⟨rfl,by omega⟩
theorem qra{c:List Sim}{st:Sim}(hst:∀ x∈st,0≤x∧x≤3){s s':Nat}(hl:(c.getD s []).length=(c.getD s' []).length)(h:s<s'):FC c st s+st.getD s 0≤FC c st s':=by
 unfold FC
 rw[← hl]
 exact qoz hst h (by omega)
theorem qjS{c:List Sim}{st:Sim}(hst:∀ x∈st,0≤x∧x≤3){s s' i i':Nat}(hl:(c.getD s []).length=(c.getD s' []).length)(hi:i<(st.getD s 0).toNat)(hi':i'<(st.getD s' 0).toNat)
  (e:(FC c st s).toNat+i=(FC c st s').toNat+i'):s=s'∧i=i':=by
 have n1:0≤FC c st s:=(qi0 hst).1
 have n2:0≤FC c st s':=(qi0 hst).1
 rcases Nat.lt_trichotomy s s' with h | h | h
 ·have:=qra hst hl h;omega
 ·subst h;exact⟨rfl,by omega⟩
 ·have:=qra hst hl.symm h;omega
theorem qop{s:Sim}(hs:qey s){a b:Nat}(ha:a<s.length)(hb:b<s.length)(e:s.eraseIdx a=s.eraseIdx b):a=b:=by
 have key:∀ {a b:Nat},a<b→b<s.length→s.eraseIdx a=s.eraseIdx b→False:=fun {a b} hab hb e=>by
  have h:=congrArg (·[a]?) e
  simp only[List.getElem?_eraseIdx] at h
  rw[if_neg (by omega),if_pos hab,List.getElem?_eq_getElem (by omega),List.getElem?_eq_getElem (by omega)] at h
  have h:=Option.some.inj h
  have:=hs.lt (i:=a) (j:=a+1) (by omega) (by omega)
  omega
 rcases Nat.lt_trichotomy a b with h | h | h
 ·exact absurd e fun e=>key h hb e
 ·exact h
 ·exact absurd e.symm fun e=>key h ha e
theorem qnV{c:List Sim}(hv:VC c){s a b:Nat}(hs:s<c.length)(ha:a<(qaF c s).length)(hb:b<(qaF c s).length)(e:fc c s a=fc c s b):a=b:=by
 obtain⟨_,_,ea⟩:=qaX hv hs ha
 obtain⟨_,_,eb⟩:=qaX hv hs hb
 have hl:=qaz (c:=c) (k:=s)
 rw[e,eb] at ea
 split at hl
 ·exact(qop (hv.2.1 s hs).2.2.1 (by omega) (by omega) ea).symm
 ·omega
theorem qoZ{c:List Sim}{p:Int}{st:Sim}{ms:List Mat}(h:VS c p st ms){k:Int}(hk:0≤k){s a i j:Nat}(hs:s<c.length)(hd:((c.getD s []).length:Int)=k+2)(ha:a<(qaF c s).length)
  (hi:i<(st.getD s 0).toNat) (hj:j<(st.getD (fc c s a) 0).toNat) :
  (qmY c p st ms k).getD (((FC c st s).toNat+i)*(SD c st k).toNat+((FC c st (fc c s a)).toNat+j)) 0=(mp c ms s a).2.2.2.1.getD (i*(mp c ms s a).2.2.1.toNat+j) 0*sgn p a%p:=by
 have hst:=h.2.2.1.2.1
 obtain⟨g1,g2,g3,g4,g5,g6,g7⟩:=qdl h hs hd ha
 have hW:(FC c st (fc c s a)).toNat+j<(SD c st k).toNat:=by omega
 have hH:(FC c st s).toNat+i<(SD c st (k+1)).toNat:=by omega
 unfold qmY
 rw[if_neg (by omega)]
 refine qmj (by rw[List.length_replicate];exact qeO hH hW) (fun x hx e=>?_) ⟨_,(qkg (Nat.le_refl _)).2 ⟨s,hs,hd,qki.2 ⟨a,i,j,ha,by omega,by omega,rfl⟩⟩,by simp only;omega⟩
 obtain⟨s',hs',hd',hx⟩:=(qkg (Nat.le_refl _)).1 hx
 obtain⟨a',i',j',ha',hi',hj',rfl⟩:=qki.1 hx
 obtain⟨q1,q2,q3,q4,q5,q6,q7⟩:=qdl h hs' hd' ha'
 simp only at e ⊢
 have hW':(FC c st (fc c s' a')).toNat+j'<(SD c st k).toNat:=by omega
 have e0:((FC c st s').toNat+i')*(SD c st k).toNat+((FC c st (fc c s' a')).toNat+j')=((FC c st s).toNat+i)*(SD c st k).toNat+((FC c st (fc c s a)).toNat+j):=by omega
 obtain⟨e1,e2⟩:=qqa hW' hW e0
 obtain⟨rfl,rfl⟩:=qjS hst (by omega) (by omega) (by omega) e1
 obtain⟨e3,rfl⟩:=qjS hst (by omega) (by omega) (by omega) e2
 obtain rfl:=qnV h.1 hs ha' ha e3
 rfl
theorem qpL{c:List Sim}{p:Int}{st:Sim}{ms:List Mat}(h:VS c p st ms){k:Int}{s i g:Nat}(hs:s<c.length)(hd:((c.getD s []).length:Int)=k+2)
  (hi:i<(st.getD s 0).toNat) (hg:g<(SD c st k).toNat) (hno:∀ a,a<(qaF c s).length→¬ ((FC c st (fc c s a)).toNat≤g∧g<(FC c st (fc c s a)).toNat+(st.getD (fc c s a) 0).toNat)) :
  (qmY c p st ms k).getD (((FC c st s).toNat+i)*(SD c st k).toNat+g) 0=0:=by
 have hst:=h.2.2.1.2.1
 have hrep:∀ n q,(List.replicate n (0:Int)).getD q 0=0:=fun n q=>by
  rw[List.getD_eq_getElem?_getD,List.getElem?_replicate];split<;>rfl
 unfold qmY
 split
 ·exact hrep _ _
 rw[qix fun x hx e=>?_]
 ·exact hrep _ _
 obtain⟨s',hs',hd',hx⟩:=(qkg (Nat.le_refl _)).1 hx
 obtain⟨a',i',j',ha',hi',hj',rfl⟩:=qki.1 hx
 obtain⟨q1,q2,q3,q4,q5,q6,q7⟩:=qdl h hs' hd' ha'
 simp only at e
 have hW':(FC c st (fc c s' a')).toNat+j'<(SD c st k).toNat:=by omega
 have e0:((FC c st s').toNat+i')*(SD c st k).toNat+((FC c st (fc c s' a')).toNat+j')=((FC c st s).toNat+i)*(SD c st k).toNat+g:=by omega
 obtain⟨e1,e2⟩:=qqa hW' hg e0
 obtain⟨rfl,rfl⟩:=qjS hst (by omega) (by omega) (by omega) e1
 exact hno a' ha' ⟨by omega,by omega⟩
end VeT
open Go Go.Proofs Ve
namespace VeT
noncomputable def fv(c:List Sim)(f k:Nat):Nat:=(c.getD k []).findIdx (fun v=>!pb (v∈c.getD f []))
noncomputable def qd0(c:List Sim)(p:Int)(st:Sim)(ms:List Mat)(f:Nat):Nat→Nat→Mat
 | 0,k=>qaW p (st.getD f 0).toNat
 | d+1,k=>if f=k then qaW p (st.getD f 0).toNat else qdo (mp c ms k (fv c f k)) (qd0 c p st ms f d (fc c k (fv c f k)))
theorem qeM{p:Int}{n:Nat}(hp:Pr p)(hn:n≤32):VM (qaW p n):=by
 refine⟨hp,⟨by show(0:Int)≤n;omega,by show(n:Int)≤32;omega⟩,⟨by show(0:Int)≤n;omega,by show(n:Int)≤32;omega⟩,?_,?_⟩
 ·show((qaq qbf n n).length:Int)=(n:Int)*(n:Int)
  rw[qas,qa2]
 ·intro x hx
  have hx:x∈qaq qbf n n:=hx
  have:∀ m,x∈qaq qbf n m→0≤x∧x≤1:=by
   intro m
   induction m with
   | zero=>intro h;simp[qaq] at h
   | succ m ih =>
    intro h
    rw[qaq,List.mem_append] at h
    rcases h with h | h
    ·exact ih h
    ·rw[List.mem_map] at h
     obtain⟨j,_,rfl⟩:=h
     unfold qbf;split<;>omega
  have:=this n hx
  have:=hp.1
  show 0≤x∧x≤p-1
  omega
theorem qcP{a b:Mat}(ha:VM a)(hb:VM b):VM (qdo a b):=by
 refine⟨ha.1,ha.2.1,hb.2.2.1,?_,?_⟩
 ·show((qaq _ b.2.2.1.toNat a.2.1.toNat).length:Int)=a.2.1*b.2.2.1
  rw[qas]
  have h1:=ha.2.1
  have h2:=hb.2.2.1
  obtain⟨x,hx⟩:=Int.eq_ofNat_of_zero_le h1.1
  obtain⟨y,hy⟩:=Int.eq_ofNat_of_zero_le h2.1
  rw[hx,hy,qa2];rfl
 ·intro x hx
  have hx:x∈qaq (qjp a.1 a.2.2.2.1 b.2.2.2.1 a.2.2.1.toNat b.2.2.1.toNat) b.2.2.1.toNat a.2.1.toNat:=hx
  have hp:=ha.1.1
  have:∀ m,x∈qaq (qjp a.1 a.2.2.2.1 b.2.2.2.1 a.2.2.1.toNat b.2.2.1.toNat) b.2.2.1.toNat m→0≤x∧x≤a.1-1:=by
   intro m
   induction m with
   | zero=>intro h;simp[qaq] at h
   | succ m ih =>
    intro h
    rw[qaq,List.mem_append] at h
    rcases h with h | h
    ·exact ih h
    ·rw[List.mem_map] at h
     obtain⟨j,_,rfl⟩:=h
     have h1:=Int.emod_nonneg (qaJ (fun l=>a.2.2.2.1.getD (m*a.2.2.1.toNat+l) 0) (fun l=>b.2.2.2.1.getD (l*b.2.2.1.toNat+j) 0) a.2.2.1.toNat) (show a.1≠0 by omega)
     have h2:=Int.emod_lt_of_pos (qaJ (fun l=>a.2.2.2.1.getD (m*a.2.2.1.toNat+l) 0) (fun l=>b.2.2.2.1.getD (l*b.2.2.1.toNat+j) 0) a.2.2.1.toNat) (show 0<a.1 by omega)
     unfold qjp;omega
  exact this _ hx
theorem qgb(v:Int)(a:Sim)(ha:a.length≤1048576):Ret E n_Z55 [dI v,⟨.ptr (.cons (.sl (.int .i64)) .nil),(a,())⟩] ⟨o_Z55,(!pb (v∈a),())⟩:=by
 refine qak ?_
 simp only[run_Z55,Z55.ev]
 exact qaa (qeo a v ha) qam
structure Down (c:List Sim) (p:Int) (st:Sim) (ms:List Mat) (f k:Nat):Prop where
 v:VS c p st ms
 fl:f<c.length
 kl:k<c.length
 ne:f≠k
 pt:qdx (c.getD f []) (c.getD k [])
theorem Down.facts{c p st ms f k}(h:Down c p st ms f k):fv c f k<(c.getD k []).length∧fv c f k<(qaF c k).length∧(∀ j (hj:j<fv c f k) (hl:j<(c.getD k []).length),(c.getD k [])[j]∈c.getD f [])∧(∀ hl:fv c f k<(c.getD k []).length,¬ (c.getD k [])[fv c f k]∈c.getD f [])∧qdx (c.getD f []) (c.getD (fc c k (fv c f k)) [])∧(c.getD (fc c k (fv c f k)) []).length<(c.getD k []).length∧fc c k (fv c f k)<c.length:=by
 have hx:=h.v.1.2.1 f h.fl
 have hy:=h.v.1.2.1 k h.kl
 have hne:c.getD f []≠c.getD k []:=fun e=>by
  have hs:=h.v.1.srt
  rw[qad h.fl,qad h.kl] at e
  rcases Nat.lt_or_gt_of_ne h.ne with hlt | hlt
  ·have:=hs f k h.kl hlt;rw[e,qb9.2 rfl] at this;omega
  ·have:=hs k f h.fl hlt;rw[e,qb9.2 rfl] at this;omega
 obtain⟨i,hi,hin,hbef⟩:=qkB hx.2.2.1 hy.2.2.1 h.pt hne
 have hfv:fv c f k<(c.getD k []).length:=List.findIdx_lt_length_of_exists ⟨_,List.getElem_mem hi,by rw[qar hin];rfl⟩
 have hno:∀ hl:fv c f k<(c.getD k []).length,¬ (c.getD k [])[fv c f k]∈c.getD f []:=fun hl=>by
  have t:(!pb ((c.getD k [])[fv c f k]∈c.getD f []))=true:=List.findIdx_getElem (w:=hl) (p:=fun v=>!pb (v∈c.getD f []))
  exact qa1.1 (by simpa only[Bool.not_eq_true'] using t)
 have hbf:∀ j (hj:j<fv c f k) (hl:j<(c.getD k []).length),(c.getD k [])[j]∈c.getD f []:=fun j hj hl=>by
  have:=List.not_of_lt_findIdx hj
  exact qaC.1 (by simpa using this)
 have h2:1<(c.getD k []).length:=by
  refine Classical.byContradiction fun hn=>?_
  have h1:(c.getD k []).length=1:=by omega
  have hf0:0<(c.getD f []).length:=hx.1
  have hm:=h.pt _ (List.getElem_mem hf0)
  obtain⟨q,hq,e⟩:=List.mem_iff_getElem.1 hm
  have hq0:q=fv c f k:=by omega
  subst hq0
  exact hno hfv (e ▸ List.getElem_mem hf0)
 have hil:fv c f k<(qaF c k).length:=by rw[qaz,if_pos h2];exact hfv
 obtain⟨_,hF,hFg⟩:=qaX h.v.1 h.kl hil
 refine⟨hfv,hil,hbf,hno,?_,?_,hF⟩
 ·rw[hFg];exact qcK h.pt hfv (hno hfv)
 ·rw[hFg,List.length_eraseIdx,if_pos hfv];omega
end VeT
open Go Go.Proofs Ve
namespace VeT
theorem Down.idx{c p st ms f k}(h:Down c p st ms f k):qiQ (fun v=>!pb (v∈c.getD f [])) (c.getD k [])=(fv c f k:Nat):=by
 obtain⟨h1,_,h3,h4,_⟩:=h.facts
 have:(c.getD k []).findIdx? (fun v=>!pb (v∈c.getD f []))=some (fv c f k):=by
  rw[List.findIdx?_eq_some_iff_getElem]
  exact⟨h1,by rw[qar (h4 h1)];rfl,fun j hj=>by rw[qaL (h3 j hj (by omega))];simp⟩
 unfold qiQ
 rw[this];rfl
theorem qpM{c p st ms}(h:VS c p st ms)(f:Nat)(hf:f<c.length):∃ hl:f<st.length,∃ n:Nat,st[f]=(n:Int)∧n≤3∧(st.getD f 0).toNat=n∧st.getD f 0=(n:Int):=by
 have hl:f<st.length:=by rw[h.2.2.1.1];exact hf
 have hb:=h.2.2.1.2.1 _ (List.getElem_mem hl)
 obtain⟨n,hn⟩:=Int.eq_ofNat_of_zero_le hb.1
 exact⟨hl,n,hn,by omega,by rw[qad hl];omega,by rw[qad hl,hn]⟩
theorem qmU(c:List Sim)(p:Int)(st:Sim)(ms:List Mat)(hc:Sm (.sl (.sl (.int .i64))) c)(h:VS c p st ms)(f:Nat)(hf:f<c.length):∀(d k:Nat),k<c.length→(c.getD k []).length≤d→qdx (c.getD f []) (c.getD k []) →
    (VM (qd0 c p st ms f d k)∧(qd0 c p st ms f d k).2.1=st.getD k 0) ∧
    Ret E n_Z54 [dLL c,dI p,dL st,dMs ms,dI (f:Int),dI (k:Int)] ⟨o_Z54,qd0 c p st ms f d k⟩ ∧
    Ret E n_Z153 [dS (c,p,st,ms,()),dI (f:Int),dI (k:Int)] ⟨o_Z153,qd0 c p st ms f d k⟩:=by
  intro d
  obtain⟨hfl,n,hn,hn3,hnt,hng⟩:=qpM h f hf
  induction d with
  | zero =>
    intro k hk hd
    have:=(h.1.2.1 k hk).1
    omega
  | succ d ih =>
    intro k hk hd hpt
    have h4f:=h.1.len4 hf
    rw[qd0]
    by_cases hfk:f=k
    · subst hfk
      rw[if_pos rfl,hnt]
      refine⟨⟨qeM h.2.1 (by omega),by rw[hng];rfl⟩,qak ?_,qak ?_⟩
      · simp only[run_Z54,Z54.ev]
        refine qax (by simp) (qab (qai hfl) ?_)
        rw[hn]
        exact qaa (qpD p n (by omega)) qam
      · simp only[run_Z153,Z153.ev]
        refine qax (by simp) (qab (qai (xs:=st) hfl) ?_)
        rw[hn]
        exact qaa (qdL p n (by omega)) qam
    · rw[if_neg hfk]
      have D:Down c p st ms f k:=⟨h,hf,hk,hfk,hpt⟩
      obtain⟨f1,f2,f3,f4,f5,f6,f7⟩:=D.facts
      obtain⟨⟨v1,v2⟩,r1,r2⟩:=ih (fc c k (fv c f k)) f7 (by omega) f5
      obtain⟨ix,_,hFg⟩:=qaX h.1 hk f2
      obtain⟨_,hB⟩:=h.map hk f2
      have hsh:(mp c ms k (fv c f k)).2.2.1=(qd0 c p st ms f d (fc c k (fv c f k))).2.1:=by rw[hB.2.2.2,v2]
      have gf:c.getD f []=c[f]:=qad hf
      have gk:c.getD k []=c[k]:=qad hk
      have hlf:(c[f]).length≤1048576:=(qbl (t:=.sl (.int .i64)) (s:=c) hc hf).1
      have hlk:(c[k]).length≤1048576:=(qbl (t:=.sl (.int .i64)) (s:=c) hc hk).1
      refine⟨⟨qcP hB.1 v1,hB.2.2.1⟩,qak ?_,qak ?_⟩
      · simp only[run_Z54,Z54.ev]
        refine qaB (by simp;omega) (qab (qai hf) (qab (qai hk) ?_))
        have hI:=qbr c[k] ((c[f],()),()) (fun v=>!pb (v∈c[f])) hlk fun v _=>qgb v c[f] hlf
        have hD:=D.idx
        rw[gf,gk] at hD
        rw[hD] at hI
        exact qaa hI (qaa (qcW c k hk hc h.1.srt) (qab ix (qaa (qdB c p st ms k (fv c f k) hk f2 h) (qaa r1 (qaa (qie _ _ hB.1 v1 hsh) qam)))))
      · simp only[run_Z153,Z153.ev]
        refine qaB (by simp;omega) (qab (qai (xs:=c) hk) ?_)
        refine Ev.start (p:=fun φ m=>Z153.l0 (mkR (run E (φ 0))) (φ 0) m (c,p,st,ms,()) (f:Int) (k:Int) c[k] 0 0 0 0=_) 1 ?_ (fun _ _ _ h=>h)
        rw[gk] at f1
        refine qeQ 1 (σ:=Nat) (L:=fun φ m i=>Z153.l0 (mkR (run E (φ 0))) (φ 0) m (c,p,st,ms,()) (f:Int) (k:Int) c[k] (i:Int) 0 0 0) (fun _ _ _ _=>rfl) (fun i=>i≤fv c f k) (fun _=>_) (fun i=>fv c f k-i) (fun i hi ihi=>?_) 0 (Nat.zero_le _)
        have hi:i≤fv c f k:=hi
        have hil:i<(c[k]).length:=by omega
        simp only[Z153.l0_succ _ qaf]
        refine qab (qai (xs:=c) hf) (qab (qai hil) (qaa (qeN c[f] c[k][i] hlf) ?_))
        by_cases he:i=fv c f k
        · subst he
          have hno:¬ c[k][fv c f k]∈c[f]:=by
            have:=f4 (by rw[gk];exact f1)
            simpa only[gk,gf] using this
          exact qaB (qar hno) (qaa (qb5 c k hk hc) (qab ix (qaa r2 (qaa (qdw (c,p,st,ms,()) k (fv c f k) hk f2 h) (qaa (qew _ _ hB.1 v1 hsh) qam)))))
        · have hin:c[k][i]∈c[f]:=by
            have:=f3 i (by omega) (by rw[gk];exact hil)
            simpa only[gk,gf] using this
          refine qax (qaL hin) ?_
          have h4k:=h.1.len4 hk
          rw[gk] at h4k
          rw[qae (by omega)]
          exact ihi (i+1) (by show i+1≤_;omega) (by show fv c f k-(i+1)<fv c f k-i;omega)
end VeT
open Go Go.Proofs Ve
namespace VeT
theorem VC.len1{c:List Sim}(h:VC c){k:Nat}(hk:k<c.length):1≤(c.getD k []).length:=(h.2.1 k hk).1
theorem qpc{c:List Sim}(h:VC c){v k:Nat}(hv:v<c.length)(h1:(c.getD v []).length=1)(hk:k<v):(c.getD k []).length=1:=by
 have hkc:k<c.length:=by omega
 have:=h.srt k v hv hk
 rw[qe4] at this
 have h2:=h.len1 hkc
 rw[qad hv] at h1
 rw[qad hkc] at h2 ⊢
 omega
theorem qoU{c:List Sim}{st:Sim}{v:Nat}(h1:(c.getD v []).length=1):FC c st v=SDn c st 0 v:=by
 unfold FC;rw[h1];rfl
theorem qgP(x:Shf)(v:Nat)(hv:v<x.1.length)(h1:(x.1.getD v []).length=1)(h:VS x.1 x.2.1 x.2.2.1 x.2.2.2.1):Ret E n_Z168 [dS x,dI (v:Int)] ⟨o_Z168,(FC x.1 x.2.2.1 v,())⟩:=by
 have h48:=h.1.1
 have hst:=h.2.2.1.2.1
 have hl:=h.2.2.1.1
 rw[qoU h1]
 refine qak ?_
 simp only[run_Z168,Z168.ev]
 refine Ev.start (p:=fun φ n=>Z168.l0 (mkR (run E (φ 0))) (φ 0) n x (v:Int) 0 0=_) 1 ?_ (fun _ _ _ h=>h)
 refine qao 1 (L:=fun φ n k a=>Z168.l0 (mkR (run E (φ 0))) (φ 0) n x (v:Int) a k) (len:=v) (fun k=>SDn x.1 x.2.2.1 0 k) (fun _ _ _ _ _=>rfl) (fun k r hk ih=>?_) ?_
 ·have hks:k<x.2.2.1.length:=by omega
  simp only[Z168.l0_succ _ qaf]
  have hb:=qi0 (c:=x.1) (d:=0) hst (n:=k)
  have hb2:=hst _ (List.getElem_mem hks)
  have hl1:=qpc h.1 hv h1 hk
  rw[qde,if_pos (by omega),qad hks] at ih
  refine qax (decide_eq_true (by omega)) (qab (qai hks) ?_)
  rw[qae (by omega),qag (by omega) (by omega)];exact ih
 ·simp only[Z168.l0_succ _ qaf]
  exact qaB (decide_eq_false (by omega)) qam
theorem qi8(x:Shf)(hc:Sm (.sl (.sl (.int .i64))) x.1)(h:VS x.1 x.2.1 x.2.2.1 x.2.2.2.1):Ret E n_Z158 [dS x] ⟨o_Z158,(SD x.1 x.2.2.1 0,())⟩:=by
 refine qak ?_
 simp only[run_Z158,Z158.ev]
 exact qaa (qgh x.1 x.2.2.1 0 hc h.2.2.1.1 h.2.2.1.2.1 (by omega)) qam
def qls(a b:Sim)(c p:Int):Sim:=(List.range a.length).map fun i=>(a.getD i 0+c*b.getD i 0)%p
theorem qdE{a b:Sim}{c p:Int}:(qls a b c p).length=a.length:=by simp[qls]
theorem qkn{a b:Sim}{c p:Int}{i:Nat}(h:i<a.length):(qls a b c p).getD i 0=(a.getD i 0+c*b.getD i 0)%p:=by
 simp[qls,List.getD_eq_getElem?_getD,h]
theorem qnh{a b:Sim}{c p:Int}(hp:2≤p):qaI (qls a b c p) p:=fun x hx=>by
 unfold qls at hx
 obtain⟨i,_,rfl⟩:=List.mem_map.1 hx
 have h0:=Int.emod_nonneg (a.getD i 0+c*b.getD i 0) (show p≠0 by omega)
 have h1:=Int.emod_lt_of_pos (a.getD i 0+c*b.getD i 0) (show 0<p by omega)
 omega
theorem qni(a b:Sim)(c p:Int)(hp:2≤p∧p≤251)(hc:0≤c∧c≤250)(hl:a.length≤b.length)(ha1:a.length≤1048576)(ea:∀ x∈a,0≤x∧x≤250)(eb:∀ x∈b,0≤x∧x≤250) :
  Ret E n_Z111 [dL a,dL b,dI c,dI p] ⟨o_Z111,(qls a b c p,())⟩:=by
 refine qak ?_
 simp only[run_Z111,Z111.ev]
 refine Ev.start (p:=fun φ n=>Z111.l0 (mkR (run E (φ 0))) (φ 0) n a b c p 0 []=_) 1 ?_ (fun _ _ _ h=>h)
 refine qao 1 (L:=fun φ n k o=>Z111.l0 (mkR (run E (φ 0))) (φ 0) n a b c p k o) (len:=a.length) (fun k=>(List.range k).map fun i=>(a.getD i 0+c*b.getD i 0)%p) (fun _ _ _ _ _=>rfl) (fun k r hk ih=>?_) ?_
 ·simp only[Z111.l0_succ _ qaf]
  have hkb:k<b.length:=by omega
  have h1:=ea _ (List.getElem_mem hk)
  have h2:=qeC hc (eb _ (List.getElem_mem hkb))
  rw[List.range_succ,List.map_append,List.map_singleton,qad hk,qad hkb] at ih
  refine qax (decide_eq_true (by omega)) (qab (qai hk) (qab (qai hkb) (qan (by simp;omega) ?_)))
  rw[qag (n:=c*b[k]) (by omega) (by omega),qag (by omega) (by omega),Int.tmod_eq_emod_of_nonneg (by omega),qae (by omega)]
  exact qan (by simp;omega) ih
 ·simp only[Z111.l0_succ _ qaf]
  exact qaB (decide_eq_false (by omega)) qam
def qnk(m:Mat)(a:Nat)(t:Int)(i n:Nat):St:=(List.range n).map fun j=>(a+j,m.2.2.2.1.getD (i*m.2.2.1.toNat+j) 0*t%m.1)
def qfF(m:Mat)(a n:Nat)(t:Int)(i:Nat):Sim:=qkc (qnk m a t i m.2.2.1.toNat) (List.replicate n 0)
theorem qnB{m:Mat}{a:Nat}{t:Int}{i n:Nat}{cs:Sim}:qkc (qnk m a t i (n+1)) cs=(qkc (qnk m a t i n) cs).set (a+n) (m.2.2.2.1.getD (i*m.2.2.1.toNat+n) 0*t%m.1):=by
 unfold qnk
 rw[List.range_succ,List.map_append,qh1];rfl
theorem qa0{m:Mat}{a n:Nat}{t:Int}{i:Nat}:(qfF m a n t i).length=n:=by rw[qfF,qdW,List.length_replicate]
theorem qdO{m:Mat}{a n:Nat}{t:Int}{i j:Nat}(hj:j<m.2.2.1.toNat)(hn:a+j<n):(qfF m a n t i).getD (a+j) 0=m.2.2.2.1.getD (i*m.2.2.1.toNat+j) 0*t%m.1:=by
 unfold qfF
 refine qmj (by rw[List.length_replicate];exact hn) (fun x hx e=>?_) ⟨_,List.mem_map.2 ⟨j,List.mem_range.2 hj,rfl⟩,rfl⟩
 obtain⟨j',_,rfl⟩:=List.mem_map.1 hx
 simp only at e ⊢
 obtain rfl:j'=j:=by omega
 rfl
theorem qbT{m:Mat}{a n:Nat}{t:Int}{i g:Nat}(h:¬ (a≤g∧g<a+m.2.2.1.toNat)):(qfF m a n t i).getD g 0=0:=by
 unfold qfF
 rw[qix fun x hx e=>?_]
 ·rw[List.getD_eq_getElem?_getD,List.getElem?_replicate];split<;>rfl
 ·obtain⟨j',hj',rfl⟩:=List.mem_map.1 hx
  have:=List.mem_range.1 hj'
  simp only at e
  omega
theorem qnv{m:Mat}{a n:Nat}{t:Int}{i:Nat}(hp:2≤m.1):qaI (qfF m a n t i) m.1:=by
 refine qge (qis hp) fun q hq=>?_
 obtain⟨j,_,rfl⟩:=List.mem_map.1 hq
 have h0:=Int.emod_nonneg (m.2.2.2.1.getD (i*m.2.2.1.toNat+j) 0*t) (show m.1≠0 by omega)
 have h1:=Int.emod_lt_of_pos (m.2.2.2.1.getD (i*m.2.2.1.toNat+j) 0*t) (show 0<m.1 by omega)
 simp only;omega
theorem qho(m:Mat)(a n:Nat)(t:Int)(hm:VM m)(ha:(a:Int)+m.2.2.1≤n)(hn:n≤1048576)(ht:0≤t∧t≤250):Ret E n_Z167 [dM m,dI (a:Int),dI (n:Int),dI t] ⟨o_Z167,((List.range m.2.1.toNat).map (qfF m a n t),())⟩:=by
 obtain⟨R,C,em,hR,hC,hlen⟩:=hm.nat
 have hp:2≤m.1∧m.1≤251:=⟨hm.1.1,hm.1.2.1⟩
 have el:=hm.2.2.2.2
 have eR:m.2.1=(R:Int):=congrArg (fun m:Mat=>m.2.1) em
 have eC:m.2.2.1=(C:Int):=congrArg (fun m:Mat=>m.2.2.1) em
 have hRC:=qdI hR hC
 rw[eC] at ha
 rw[eR,Int.toNat_natCast]
 refine qak ?_
 simp only[run_Z167,Z167.ev]
 refine Ev.start (p:=fun φ q=>Z167.l0 (mkR (run E (φ 0))) (φ 0) q m (a:Int) (n:Int) t 0 []=_) 1 ?_ (fun _ _ _ h=>h)
 refine qao 1 (L:=fun φ q i o=>Z167.l0 (mkR (run E (φ 0))) (φ 0) q m (a:Int) (n:Int) t i o) (len:=R) (fun i=>(List.range i).map (qfF m a n t)) (fun _ _ _ _ _=>rfl) (fun i r hi ih=>?_) ?_
 ·simp only[Z167.l0_succ _ qaf,eR,Int.toNat_natCast]
  rw[List.range_succ,List.map_append,List.map_singleton] at ih
  refine qax (decide_eq_true (by omega)) (qan (by simp only[Bool.and_eq_true,decide_eq_true_eq];omega) ?_)
  refine Ev.start (p:=fun φ q=>Z167.l1 (mkR (run E (φ 0))) (φ 0) (φ 1) q m (a:Int) (n:Int) t (i:Int) 0 ((List.range i).map (qfF m a n t)) (List.replicate n 0)=_) 2 ?_ (fun _ _ _ h=>h)
  refine qao 2 (L:=fun φ q j o=>Z167.l1 (mkR (run E (φ 0))) (φ 0) (φ 1) q m (a:Int) (n:Int) t (i:Int) j ((List.range i).map (qfF m a n t)) o) (len:=C) (fun j=>qkc (qnk m a t i j) (List.replicate n 0)) (fun _ _ _ _ _=>rfl) (fun j q hj ih2=>?_) ?_
  ·simp only[Z167.l1_succ _ qaf]
   have hij:i*C+j<m.2.2.2.1.length:=by rw[hlen];exact qeO hi hj
   have hx:=el.get hp (i*C+j)
   rw[qnB,eC,Int.toNat_natCast,qad hij] at ih2
   rw[qad hij] at hx
   have hol':(qkc (qnk m a t i j) (List.replicate n 0)).length=n:=by rw[qdW,List.length_replicate]
   have ev:=qpV hx ht hp
   have e1:w64 (w64 ((i:Int)*(C:Int))+(j:Int))=((i*C+j:Nat):Int):=by
    rw[qa2,qag (n:=((i*C:Nat):Int)) (by omega) (by omega),qag (by omega) (by omega)];omega
   have e2:w64 ((a:Int)+(j:Int))=((a+j:Nat):Int):=by rw[qag (by omega) (by omega)];omega
   simp only[eC,e1,e2,hol',Int.toNat_natCast]
   refine qax (decide_eq_true (by omega)) (qab (qai hij) (qan (by simp;omega) ?_))
   simp only[ev]
   refine qan (by simp only[Bool.and_eq_true,decide_eq_true_eq];omega) ?_
   rw[qae (by omega)]
   exact ih2
  ·simp only[Z167.l1_succ _ qaf,eC]
   refine qaB (decide_eq_false (by omega)) (qan (by simp;omega) ?_)
   rw[qae (by omega)]
   rw[qfF,eC,Int.toNat_natCast] at ih
   exact ih
 ·simp only[Z167.l0_succ _ qaf,eR]
  exact qaB (decide_eq_false (by omega)) qam
theorem qnE(a b:List Sim)(p:Int)(hp:2≤p∧p≤251)(hl:b.length=a.length)(ha:a.length≤1048576)(hr:∀ i (h:i<a.length) (h':i<b.length),a[i].length≤b[i].length∧a[i].length≤1048576∧(∀ x∈a[i],0≤x∧x≤250)∧∀ x∈b[i],0≤x∧x≤250) :
  Ret E n_Z169 [dLL a,dLL b,dI p] ⟨o_Z169,((List.range a.length).map fun i=>qls (a.getD i []) (b.getD i []) 1 p,())⟩:=by
 refine qak ?_
 simp only[run_Z169,Z169.ev]
 refine Ev.start (p:=fun φ n=>Z169.l0 (mkR (run E (φ 0))) (φ 0) n a b p 0 []=_) 1 ?_ (fun _ _ _ h=>h)
 refine qao 1 (L:=fun φ n k o=>Z169.l0 (mkR (run E (φ 0))) (φ 0) n a b p k o) (len:=a.length) (fun k=>(List.range k).map fun i=>qls (a.getD i []) (b.getD i []) 1 p) (fun _ _ _ _ _=>rfl) (fun k r hk ih=>?_) ?_
 ·simp only[Z169.l0_succ _ qaf]
  have hkb:k<b.length:=by omega
  obtain⟨h1,h2,h3,h4⟩:=hr k hk hkb
  rw[List.range_succ,List.map_append,List.map_singleton,qad hk,qad hkb] at ih
  refine qax (decide_eq_true (by omega)) (qab (qai hk) (qab (qai hkb) (qaa (qni a[k] b[k] 1 p hp (by omega) h1 h2 h3 h4) (qan (by simp;omega) ?_))))
  rw[qae (by omega)];exact ih
 ·simp only[Z169.l0_succ _ qaf]
  exact qaB (decide_eq_false (by omega)) qam
end VeT
open Go Go.Proofs Ve
namespace VeT
noncomputable def qod(c:List Sim)(p:Int)(st:Sim)(ms:List Mat)(k:Int)(r:Nat):Sim:=(List.range (SD c st k).toNat).map fun g=>(qmY c p st ms k).getD (r*(SD c st k).toNat+g) 0
theorem qhw{c:List Sim}{p:Int}{st:Sim}{ms:List Mat}{k:Int}{r:Nat}:(qod c p st ms k r).length=(SD c st k).toNat:=by simp[qod]
theorem qmk{c:List Sim}{p:Int}{st:Sim}{ms:List Mat}{k:Int}{r g:Nat}(h:g<(SD c st k).toNat):(qod c p st ms k r).getD g 0=(qmY c p st ms k).getD (r*(SD c st k).toNat+g) 0:=by
 simp[qod,List.getD_eq_getElem?_getD,h]
theorem qhb{a b:Sim}(hl:a.length=b.length)(h:∀ i,i<a.length→a.getD i 0=b.getD i 0):a=b:=by
 refine List.ext_getElem hl fun i h1 h2=>?_
 have:=h i h1
 rwa [qad h1,qad h2] at this
theorem qdp{c:List Sim}{s:Nat}(h2:(c.getD s []).length=2):(qaF c s).length=2:=by
 rw[qaz,if_pos (by omega)];exact h2
theorem qmN{c:List Sim}{p:Int}{st:Sim}{ms:List Mat}(h:VS c p st ms){s i:Nat}(hs:s<c.length)(h2:(c.getD s []).length=2)(hi:i<(st.getD s 0).toNat) :
  qls (qfF (mp c ms s 0) (FC c st (fc c s 0)).toNat (SD c st 0).toNat 1 i) (qfF (mp c ms s 1) (FC c st (fc c s 1)).toNat (SD c st 0).toNat (p-1) i) 1 p=qod c p st ms 0 ((FC c st s).toNat+i):=by
 have hst:=h.2.2.1.2.1
 have hp:2≤p∧p≤251:=⟨h.2.1.1,h.2.1.2.1⟩
 have hfl:=qdp h2
 have hd:((c.getD s []).length:Int)=0+2:=by omega
 obtain⟨a1,a2,a3,a4,a5,a6,a7⟩:=qdl h hs hd (a:=0) (by omega)
 obtain⟨b1,b2,b3,b4,b5,b6,b7⟩:=qdl h hs hd (a:=1) (by omega)
 obtain⟨_,A⟩:=h.map hs (i:=0) (by omega)
 obtain⟨_,B⟩:=h.map hs (i:=1) (by omega)
 have hne:fc c s 0≠fc c s 1:=fun e=>by have:=qnV h.1 hs (a:=0) (b:=1) (by omega) (by omega) e;omega
 have na:=qcx hst (fc c s 0)
 have nb:=qcx hst (fc c s 1)
 refine qhb (by rw[qdE,qa0,qhw]) fun g hg=>?_
 rw[qdE,qa0] at hg
 rw[qkn (by rw[qa0];exact hg),qmk hg]
 have one:∀ x:Int,(x%p+1*0)%p=x%p:=fun x=>by rw[Int.mul_zero,Int.add_zero,Int.emod_emod_of_dvd _ (Int.dvd_refl p)]
 have two:∀ x:Int,(0+1*(x%p))%p=x%p:=fun x=>by rw[Int.one_mul,Int.zero_add,Int.emod_emod_of_dvd _ (Int.dvd_refl p)]
 have A1:(mp c ms s 0).1=p:=A.2.1
 have B1:(mp c ms s 1).1=p:=B.2.1
 by_cases hA:(FC c st (fc c s 0)).toNat≤g∧g<(FC c st (fc c s 0)).toNat+(st.getD (fc c s 0) 0).toNat
 ·obtain⟨j,rfl⟩:∃ j,g=(FC c st (fc c s 0)).toNat+j:=⟨g-(FC c st (fc c s 0)).toNat,by omega⟩
  have hj:j<(st.getD (fc c s 0) 0).toNat:=by omega
  rw[qdO (by rw[a2];exact hj) hg,qbT (m:=mp c ms s 1),A1,one]
  ·rw[qoZ h (by omega) hs hd (a:=0) (by omega) hi hj];rfl
  ·rw[b2]
   intro hh
   obtain⟨q,hq⟩:∃ q,(FC c st (fc c s 0)).toNat+j=(FC c st (fc c s 1)).toNat+q:=⟨(FC c st (fc c s 0)).toNat+j-(FC c st (fc c s 1)).toNat,by omega⟩
   exact hne (qjS hst (by omega) hj (i':=q) (by omega) hq).1
 ·by_cases hB:(FC c st (fc c s 1)).toNat≤g∧g<(FC c st (fc c s 1)).toNat+(st.getD (fc c s 1) 0).toNat
  ·obtain⟨j,rfl⟩:∃ j,g=(FC c st (fc c s 1)).toNat+j:=⟨g-(FC c st (fc c s 1)).toNat,by omega⟩
   have hj:j<(st.getD (fc c s 1) 0).toNat:=by omega
   rw[qbT (m:=mp c ms s 0) (by rw[a2];exact hA),qdO (by rw[b2];exact hj) hg,B1,two]
   rw[qoZ h (by omega) hs hd (a:=1) (by omega) hi hj];rfl
  ·rw[qbT (m:=mp c ms s 0) (by rw[a2];exact hA),qbT (m:=mp c ms s 1) (by rw[b2];exact hB)]
   rw[qpL h hs hd hi hg fun a ha=>?_]
   ·simp
   ·have:a=0∨a=1:=by omega
    rcases this with rfl | rfl
    ·exact hA
    ·exact hB
noncomputable def qe7(c:List Sim)(p:Int)(st:Sim)(ms:List Mat)(n:Nat):List Sim:=(List.range n).map (qod c p st ms 0)
theorem qo4{c:List Sim}{p:Int}{st:Sim}{ms:List Mat}{a b:Nat}:qe7 c p st ms (a+b)=qe7 c p st ms a++(List.range b).map fun i=>qod c p st ms 0 (a+i):=by
 induction b with
 | zero=>simp
 | succ b ih =>
  unfold qe7 at ih ⊢
  rw[← Nat.add_assoc,List.range_succ,List.map_append,ih,List.range_succ,List.map_append,List.append_assoc];rfl
theorem qgA{c:List Sim}{p:Int}{st:Sim}{ms:List Mat}{n:Nat}:(qe7 c p st ms n).length=n:=by simp[qe7]
theorem qqF{c:List Sim}{st:Sim}{d:Int}{t s:Nat}(ht:t<(qaK c d c.length).length)(hs:(qaK c d c.length)[t]=(s:Int))(hd:((c.getD s []).length:Int)=d+1)(hsl:s<c.length):qiB c st d t=FC c st s:=by
 obtain⟨tl,e⟩:=qoH (c:=c) (d:=d) hsl hd
 have hu:t=(qaK c d s).length:=by
  rcases Nat.lt_trichotomy t (qaK c d s).length with h | h | h
  ·have h1:(qaK c d c.length)[t]? = (qaK c d s)[t]?:=by rw[e,List.getElem?_append_left h]
   rw[List.getElem?_eq_getElem ht,List.getElem?_eq_getElem h,hs] at h1
   obtain⟨i,hi,his⟩:=qfN (List.getElem_mem h)
   have:=Option.some.inj h1
   omega
  ·exact h
  ·-- behind s only greater ones
   exfalso
   have hmono:∀ n m i j,i<(qaK c d n).length→j<(qaK c d n).length→i<j→m=n→(qaK c d n).getD i 0<(qaK c d n).getD j 0:=by
    intro n
    induction n with
    | zero=>intro m i j hi;simp[qaK] at hi
    | succ n ih =>
     intro m i j hi hj hij hm
     rw[qcm] at hi hj ⊢
     by_cases hl:((c.getD n []).length:Int)=d+1
     ·rw[if_pos hl] at hi hj ⊢
      rw[List.length_append,List.length_singleton] at hi hj
      by_cases hjn:j<(qaK c d n).length
      ·have:=ih n i j (by omega) hjn hij rfl
       rw[List.getD_eq_getElem?_getD,List.getD_eq_getElem?_getD,List.getElem?_append_left (by omega),List.getElem?_append_left hjn]
       rw[List.getD_eq_getElem?_getD,List.getD_eq_getElem?_getD] at this
       exact this
      ·have hin:i<(qaK c d n).length:=by omega
       obtain⟨q,hq,hqn⟩:=qfN (List.getElem_mem hin)
       rw[List.getD_eq_getElem?_getD,List.getD_eq_getElem?_getD,List.getElem?_append_left hin,List.getElem?_append_right (by omega),List.getElem?_eq_getElem hin,hq,show j-(qaK c d n).length=0 by omega]
       simp;omega
     ·rw[if_neg hl,List.append_nil] at hi hj ⊢
      exact ih n i j hi hj hij rfl
   have hlt:(qaK c d s).length<(qaK c d c.length).length:=by rw[e];simp
   have:=hmono c.length c.length _ t hlt ht h rfl
   rw[qad ht,hs,List.getD_eq_getElem?_getD,e,List.getElem?_append_right (Nat.le_refl _),Nat.sub_self] at this
   simp at this
 have hdd:((c.getD s []).length:Int)-1=d:=by omega
 unfold FC
 rw[hdd]
 unfold qiB SDn
 rw[hu,e,List.take_left' rfl]
theorem qga(x:Shf)(hc:Sm (.sl (.sl (.int .i64))) x.1)(h:VS x.1 x.2.1 x.2.2.1 x.2.2.2.1):Ret E n_Z160 [dS x] ⟨o_Z160,(qe7 x.1 x.2.1 x.2.2.1 x.2.2.2.1 (SD x.1 x.2.2.1 1).toNat,())⟩:=by
 obtain⟨c,p,st,ms,⟨⟩⟩:=x
 have hc:Sm (.sl (.sl (.int .i64))) c:=hc
 have h:VS c p st ms:=h
 show Ret E n_Z160 [dS (c,p,st,ms,())] ⟨o_Z160,(qe7 c p st ms (SD c st 1).toNat,())⟩
 obtain⟨W,eW,bW,tW⟩:=qmO h 0
 obtain⟨H,eH,bH,tH⟩:=qmO h 1
 have hst:=h.2.2.1.2.1
 have h48:=h.1.1
 have hp:2≤p∧p≤251:=⟨h.2.1.1,h.2.1.2.1⟩
 have hol:=qcu c 1 c.length
 have ep:w64 (p-1)=p-1:=qag (by omega) (by omega)
 have all:=qi8 (c,p,st,ms,()) hc h
 rw[show SD (c,p,st,ms,()).1 (c,p,st,ms,()).2.2.1 0=(W:Int) from eW] at all
 refine qak ?_
 simp only[run_Z160,Z160.ev]
 refine qaa all (qaa (qkE c 1 hc (by omega)) ?_)
 refine Ev.start (p:=fun φ n=>Z160.l0 (mkR (run E (φ 0))) (φ 0) n (c,p,st,ms,()) (W:Int) (qaK c 1 c.length) 0 []=_) 1 ?_ (fun _ _ _ h=>h)
 have:=qao 1 (L:=fun φ n t o=>Z160.l0 (mkR (run E (φ 0))) (φ 0) n (c,p,st,ms,()) (W:Int) (qaK c 1 c.length) t o) (len:=(qaK c 1 c.length).length) (fun t=>qe7 c p st ms (qiB c st 1 t).toNat) (r:=some ⟨o_Z160,(qe7 c p st ms (SD c st 1).toNat,())⟩) (fun _ _ _ _ _=>rfl) (fun t q ht ih=>?_) ?_
 ·exact this
 ·simp only[Z160.l0_succ _ qaf]
  obtain⟨s,hse,hs,hd⟩:=qfq.1 (List.getElem_mem ht)
  have hg:(qaK c 1 c.length)[t]? = some (s:Int):=by rw[List.getElem?_eq_getElem ht,hse]
  have h2:(c.getD s []).length=2:=by omega
  have hfl:=qdp h2
  have hd0:((c.getD s []).length:Int)=0+2:=by omega
  obtain⟨a1,a2,a3,a4,a5,a6,a7⟩:=qdl h hs hd0 (a:=0) (by omega)
  obtain⟨b1,b2,b3,b4,b5,b6,b7⟩:=qdl h hs hd0 (a:=1) (by omega)
  obtain⟨_,A⟩:=h.map hs (i:=0) (by omega)
  obtain⟨_,B⟩:=h.map hs (i:=1) (by omega)
  obtain⟨ix0,_,_⟩:=qaX h.1 hs (i:=0) (by omega)
  obtain⟨ix1,_,_⟩:=qaX h.1 hs (i:=1) (by omega)
  have na:=qcx hst (fc c s 0)
  have nb:=qcx hst (fc c s 1)
  have ns:=qcx hst s
  have f0:=qgP (c,p,st,ms,()) (fc c s 0) a3 (by show(c.getD (fc c s 0) []).length=1;omega) h
  have f1:=qgP (c,p,st,ms,()) (fc c s 1) b3 (by show(c.getD (fc c s 1) []).length=1;omega) h
  obtain⟨T0,e0⟩:=Int.eq_ofNat_of_zero_le a6
  obtain⟨T1,e1⟩:=Int.eq_ofNat_of_zero_le b6
  rw[show FC (c,p,st,ms,()).1 (c,p,st,ms,()).2.2.1 (fc c s 0)=(T0:Int) from e0] at f0
  rw[show FC (c,p,st,ms,()).1 (c,p,st,ms,()).2.2.1 (fc c s 1)=(T1:Int) from e1] at f1
  have r0:=qho (mp c ms s 0) T0 W 1 A.1 (by omega) (by omega) (by omega)
  have r1:=qho (mp c ms s 1) T1 W (p-1) B.1 (by omega) (by omega) (by omega)
  have A1:(mp c ms s 0).1=p:=A.2.1
  have B1:(mp c ms s 1).1=p:=B.2.1
  have hR0:(mp c ms s 0).2.1.toNat=(st.getD s 0).toNat:=by rw[a1]
  have hR1:(mp c ms s 1).2.1.toNat=(st.getD s 0).toNat:=by rw[b1]
  rw[hR0] at r0
  rw[hR1] at r1
  have hin:∀ m:Mat,m.1=p→∀ a t i,∀ x∈qfF m a W t i,0≤x∧x≤250:=fun m hm a t i x hx=>by
   have:=qnv (m:=m) (a:=a) (n:=W) (t:=t) (i:=i) (by omega)
   rw[hm] at this
   exact this.mem hp x hx
  have sm:=qnE ((List.range (st.getD s 0).toNat).map (qfF (mp c ms s 0) T0 W 1)) ((List.range (st.getD s 0).toNat).map (qfF (mp c ms s 1) T1 W (p-1))) p hp (by simp) (by rw[List.length_map,List.length_range];omega) (fun i hi hi'=>by
   simp only[List.getElem_map,List.getElem_range,qa0]
   exact⟨Nat.le_refl _,by omega,hin _ A1 _ _ _,hin _ B1 _ _ _⟩)
  rw[List.length_map,List.length_range] at sm
  have hbk:=qjw hst 1 t (c:=c)
  have hFC:=qqF ht hse hd hs (st:=st)
  have hrow:((List.range (st.getD s 0).toNat).map fun i=>qls (((List.range (st.getD s 0).toNat).map (qfF (mp c ms s 0) T0 W 1)).getD i []) (((List.range (st.getD s 0).toNat).map (qfF (mp c ms s 1) T1 W (p-1))).getD i []) 1 p)=(List.range (st.getD s 0).toNat).map fun i=>qod c p st ms 0 ((qiB c st 1 t).toNat+i):=List.map_congr_left fun i hi=>by
   have hi:=List.mem_range.1 hi
   have hE:=qmN h hs h2 hi
   rw[e0,e1,Int.toNat_natCast,Int.toNat_natCast,tW] at hE
   rw[hFC,← hE]
   generalize (st.getD s 0).toNat=n at hi ⊢
   simp[List.getD_eq_getElem?_getD,hi]
  rw[hrow] at sm
  rw[qfQ _ _ _ _ ht,hse,Int.toNat_natCast,show(qiB c st 1 t+st.getD s 0).toNat=(qiB c st 1 t).toNat+(st.getD s 0).toNat by omega,qo4] at ih
  refine qax (decide_eq_true (by omega)) (qab (qaZ.trans hg) (qaa (qb5 c s hs hc) (qab (qaZ.trans hg) (qab ix0 (qaa (qdw (c,p,st,ms,()) s 0 hs (by show 0<(qaF c s).length;omega) h) (qaa f0 (qaa r0 (qab (qaZ.trans hg) (qab ix1 (qaa (qdw (c,p,st,ms,()) s 1 hs (by show 1<(qaF c s).length;omega) h) (qaa f1 ?_)))))))))))
  simp only[ep]
  refine qaa r1 (qaa sm (qan (by simp only[qgA,List.length_map,List.length_range,decide_eq_true_eq];omega) ?_))
  rw[qae (by omega)]
  exact ih
 ·simp only[Z160.l0_succ _ qaf]
  exact qaB (decide_eq_false (by omega)) qam
end VeT
open Go Go.Proofs Ve
namespace VeT
noncomputable def fvx(c:List Sim)(s:Nat):Nat:=(qdn c ((c.getD s []).take 1)).toNat
theorem qmt{c:List Sim}(h:VC c){s:Nat}(hs:s<c.length):∀ d n,n+d=(c.getD s []).length→1≤n→(c.getD s []).take n∈c
 | 0,n,e,_=>by
  rw[List.take_of_length_le (by omega),qad hs];exact List.getElem_mem hs
 | d+1,n,e,h1=>by
  have hm:=qmt h hs d (n+1) (by omega) (by omega)
  obtain⟨k,hk,ek⟩:=List.mem_iff_getElem.1 hm
  have hf:=h.2.2.2 k hk ((c.getD s []).take n) (qcw.2 ⟨?_,n,?_,?_⟩)
  ·exact hf
  ·rw[qad hk,ek,List.length_take];omega
  ·rw[qad hk,ek,List.length_take];omega
  ·rw[qad hk,ek]
   apply List.ext_getElem?
   intro j
   rw[List.getElem?_eraseIdx,List.getElem?_take,List.getElem?_take,List.getElem?_take]
   by_cases hj:j<n
   ·rw[if_pos hj,if_pos hj,if_pos (by omega)]
   ·rw[if_neg hj,if_neg hj,if_neg (by omega)]
theorem qib{c:List Sim}(h:VC c){s:Nat}(hs:s<c.length):qdn c ((c.getD s []).take 1)=((fvx c s:Nat):Int)∧fvx c s<c.length∧c.getD (fvx c s) []=(c.getD s []).take 1∧(c.getD (fvx c s) []).length=1∧qdx (c.getD (fvx c s) []) (c.getD s []):=by
 have h1:=h.len1 hs
 have hm:=qmt h hs ((c.getD s []).length-1) 1 (by omega) (by omega)
 have h0:=qa6.2 hm
 have hlt:=qmv (c:=c) (s:=(c.getD s []).take 1)
 have hg:=qkD hm
 refine⟨by unfold fvx;omega,by unfold fvx;omega,hg,?_,fun y hy=>?_⟩
 ·show(c.getD (qdn c ((c.getD s []).take 1)).toNat []).length=1
  rw[hg,List.length_take];omega
 ·have hy:y∈c.getD (qdn c ((c.getD s []).take 1)).toNat []:=hy
  rw[hg] at hy
  exact List.mem_of_mem_take hy
theorem qf9{c:List Sim}{p:Int}{st:Sim}{ms:List Mat}{f:Nat}(hst:∀ x∈st,0≤x∧x≤3):∀ {d k:Nat},(qd0 c p st ms f d k).2.2.1=st.getD f 0
 | 0,k=>by
  have:=qcx hst f
  show(((st.getD f 0).toNat:Nat):Int)=_;omega
 | d+1,k=>by
  have:=qcx hst f
  rw[qd0];split
  ·show(((st.getD f 0).toNat:Nat):Int)=_;omega
  ·exact qf9 hst (d:=d)
noncomputable def qaV(x:Shf)(f k:Nat):Mat:=qd0 x.1 x.2.1 x.2.2.1 x.2.2.2.1 f (x.1.getD k []).length k
noncomputable def atV(x:Shf)(v:Sim)(s:Nat):Sim:=qmH (qaV x (fvx x.1 s) s) (qiL x.1 x.2.2.1 v (fvx x.1 s)) (x.2.2.1.getD s 0).toNat
end VeT
open Go Go.Proofs Ve
namespace VeT
def qeL(c:List Sim)(w:Sim):Prop:=qey w∧∀ y∈w,0≤y∧y≤(c.length:Int)-1
theorem qko(x:Shf)(w:Sim)(hc:x.1.length≤1048576)(hw:Sm (.sl (.int .i64)) w):Ret E n_Z20 [dLL x.1,dI x.2.1,dL x.2.2.1,dMs x.2.2.2.1,dL w] ⟨o_Z20,(pb (qeL x.1 w),())⟩:=by
 refine qak ?_
 simp only[run_Z20,Z20.ev]
 refine qaa (qgv w hw) (qb7 (fun h=>qaa (qhV x.1) (qaa (qeq w (x.1.length:Int) hw.1 ⟨by omega,by omega⟩) (qaj ?_))) fun h=>qaj ?_)
 ·have h:=qaC.1 (show pb (qey w)=true by simpa using h)
  exact congrArg (fun b:Bool=>some (⟨o_Z20,(b,())⟩:Dv)) (qaN ⟨fun e=>⟨h,e⟩,fun e=>e.2⟩)
 ·have h:=qa1.1 (show pb (qey w)=false by simpa using h)
  rw[qar fun e=>h e.1]
theorem qj6(x:Shf)(w:Sim)(hc:x.1.length≤1048576)(hw:Sm (.sl (.int .i64)) w):Ret E n_Z166 [dS x,dL w] ⟨o_Z166,(pb (qeL x.1 w),())⟩:=by
 have e:w64 ((x.1.length:Int)-1)=(x.1.length:Int)-1:=qag (by omega) (by omega)
 refine qak ?_
 simp only[run_Z166,Z166.ev,e]
 exact qaa (qgJ w 0 ((x.1.length:Int)-1) hw) qam
theorem qeL.get{c:List Sim}{w:Sim}(h:qeL c w){i:Nat}(hi:i<w.length):∃ n:Nat,w[i]=(n:Int)∧n<c.length:=by
 have:=h.2 _ (List.getElem_mem hi)
 exact⟨(w[i]).toNat,by omega,by omega⟩
open Classical in
noncomputable def PC(x:Shf)(w:Sim):Int:=if ISh x then(if qeL x.1 w then 0 else 2) else 1
theorem qe6{x:Shf}{w:Sim}:PC x w=0↔ISh x∧qeL x.1 w:=by
 unfold PC;split
 ·rename_i h
  split
  ·rename_i h2;exact⟨fun _=>⟨h,h2⟩,fun _=>rfl⟩
  ·rename_i h2;exact⟨fun e=>by omega,fun e=>absurd e.2 h2⟩
 ·rename_i h;exact⟨fun e=>by omega,fun e=>absurd e.1 h⟩
theorem qns(x:Shf)(w:Sim)(hx:Sm (.st cS) x)(hw:Sm (.sl (.int .i64)) w):Ret E n_Z49 [dLL x.1,dI x.2.1,dL x.2.2.1,dMs x.2.2.2.1,dL w] ⟨o_Z49,(PC x w,())⟩:=by
 refine qak ?_
 simp only[run_Z49,Z49.ev]
 refine qaa (qhD x hx) (qb7 (fun h=>qaj ?_) fun h=>qaa (qko x w hx.1.1 hw) (qb7 (fun h2=>qaj ?_) fun h2=>qaj ?_))
 ·rw[PC,if_neg (qa1.1 (show pb (ISh x)=false by simpa using h))]
 ·rw[PC,if_pos (qaC.1 (show pb (ISh x)=true by simpa using h)),if_neg (qa1.1 (show pb (qeL x.1 w)=false by simpa using h2))]
 ·rw[PC,if_pos (qaC.1 (show pb (ISh x)=true by simpa using h)),if_pos (qaC.1 (show pb (qeL x.1 w)=true by simpa using h2))]
noncomputable def qiD(x:Shf)(v w:Sim)(n:Nat):Sim:=((w.take n).map fun k=>atV x v k.toNat).flatten
theorem qjd{x:Shf}{v w:Sim}{n:Nat}(hn:n<w.length){s:Nat}(hs:w[n]=(s:Int)):qiD x v w (n+1)=qiD x v w n++atV x v s:=by
 unfold qiD
 rw[List.take_succ_eq_append_getElem hn,List.map_append,List.flatten_append,hs]
 simp
end VeT
open Go Go.Proofs Ve
namespace VeT
theorem qeE{P:Nat→Prop}:∀ {d a k:Nat},qaP P a d=some k→∀ i,a≤i→i<k→¬ P i
 | 0,a,k,h=>by simp[qaP] at h
 | d+1,a,k,h=>fun i h1 h2=>by
  rw[qaP] at h
  split at h
  ·obtain rfl:=Option.some.inj h;omega
  ·rename_i hp
   by_cases e:i=a
   ·subst e;exact hp
   ·exact qeE h i (by omega) h2
theorem qdH{s:Sim}(h:s.Pairwise (·<·)):qey s:=fun j h1 h2=>by
 rw[qad (show j-1<s.length by omega),qad h2]
 exact List.pairwise_iff_getElem.1 h (j-1) j (by omega) h2 (by omega)
theorem qou:∀(n:Nat) {a b:Sim},b.length=n→qey a→qey b→qdx a b→a≠b→a.length<b.length
 | n,a,b,hn,ha,hb,hp,hne=>by
  obtain⟨i,hi,hni,_⟩:=qkB ha hb hp hne
  have hp':=qcK hp hi hni
  have hl:(b.eraseIdx i).length=b.length-1:=by rw[List.length_eraseIdx,if_pos hi]
  have hb':qey (b.eraseIdx i):=qdH (hb.pairwise.sublist (List.eraseIdx_sublist _ _))
  by_cases e:a=b.eraseIdx i
  ·rw[e];omega
  ·cases n with
   | zero=>omega
   | succ n =>
    have:=qou n (by omega) ha hb' hp' e
    omega
theorem qf7{c:List Sim}(h:VC c){f k:Nat}(hf:f<c.length)(hk:k<c.length)(hp:qdx (c.getD f []) (c.getD k []))(hne:f≠k):f<k:=by
 rcases Nat.lt_trichotomy f k with h1 | h1 | h1
 ·exact h1
 ·exact absurd h1 hne
 ·exfalso
  have hs:=h.srt k f hf h1
  rw[qad hf,qad hk] at hp
  have hvf:=h.2.1 f hf
  have hvk:=h.2.1 k hk
  rw[qad hf] at hvf
  rw[qad hk] at hvk
  have he:c[f]≠c[k]:=fun e=>by rw[e,qb9.2 rfl] at hs;omega
  have:=qou _ rfl hvf.2.2.1 hvk.2.2.1 hp he
  rw[qe4] at hs
  omega
def off(st w:Sim)(n:Nat):Int:=((w.take n).map fun k=>st.getD k.toNat 0).sum
theorem qeF{st w:Sim}{n:Nat}(hn:n<w.length){s:Nat}(hs:w[n]=(s:Int)):off st w (n+1)=off st w n+st.getD s 0:=by
 unfold off
 rw[List.take_succ_eq_append_getElem hn,List.map_append,List.sum_append,hs]
 simp
theorem qfT{st w:Sim}(hst:∀ x∈st,0≤x∧x≤3):∀ {n:Nat},0≤off st w n∧off st w n≤3*n
 | 0=>by simp[off]
 | n+1=>by
  have ih:=qfT (w:=w) hst (n:=n)
  by_cases hn:n<w.length
  ·have hb:=qcx hst (w[n]).toNat
   unfold off at ih ⊢
   rw[List.take_succ_eq_append_getElem hn,List.map_append,List.sum_append]
   simp only[List.map_cons,List.map_nil,List.sum_cons,List.sum_nil,Int.add_zero]
   omega
  ·unfold off at ih ⊢
   rw[List.take_of_length_le (by omega)] at ih ⊢
   omega
theorem qfI{st w:Sim}(hst:∀ x∈st,0≤x∧x≤3){n m:Nat}(h:n≤m):off st w n≤off st w m:=by
 induction h with
 | refl=>exact Int.le_refl _
 | @step m h ih =>
  by_cases hn:m<w.length
  ·have hb:=qcx hst (w[m]).toNat
   unfold off at ih ⊢
   rw[List.take_succ_eq_append_getElem hn,List.map_append,List.sum_append]
   simp only[List.map_cons,List.map_nil,List.sum_cons,List.sum_nil,Int.add_zero]
   omega
  ·unfold off at ih ⊢
   rw[List.take_of_length_le (show w.length≤m+1 by omega)]
   rwa [List.take_of_length_le (show w.length≤m by omega)] at ih
theorem qpk{st w:Sim}{n:Nat}:off st (w.take n) (w.take n).length=off st w n:=by
 unfold off;rw[List.take_of_length_le (Nat.le_refl _)]
theorem qeL.le48{c:List Sim}{w:Sim}(h:qeL c w):w.length≤c.length:=by
  by_cases h0:w.length=0
  · omega
  · have hge:∀ j,∀ hj:j<w.length,(j:Int)≤w[j]:=by
      intro j
      induction j with
      | zero=>intro hj;exact(h.2 _ (List.getElem_mem hj)).1
      | succ j ih =>
        intro hj
        have h1:=ih (by omega)
        have h2:=h.1.lt hj (Nat.lt_succ_self j)
        omega
    have h1:=hge (w.length-1) (by omega)
    have h2:=(h.2 _ (List.getElem_mem (show w.length-1<w.length by omega))).2
    omega
theorem qhg(x:Shf)(w:Sim)(hl:x.2.2.1.length=x.1.length)(hst:∀ y∈x.2.2.1,0≤y∧y≤3)(hw:w.length≤1048576)(hpl:∀ i (h:i<w.length),∃ n:Nat,w[i]=(n:Int)∧n<x.1.length) :
  Ret E n_Z165 [dS x,dL w] ⟨o_Z165,(off x.2.2.1 w w.length,())⟩:=by
 refine qak ?_
 simp only[run_Z165,Z165.ev]
 refine Ev.start (p:=fun φ n=>Z165.l0 (mkR (run E (φ 0))) (φ 0) n x w 0 0=_) 1 ?_ (fun _ _ _ h=>h)
 refine qao 1 (L:=fun φ n k a=>Z165.l0 (mkR (run E (φ 0))) (φ 0) n x w a k) (len:=w.length) (fun k=>off x.2.2.1 w k) (fun _ _ _ _ _=>rfl) (fun k r hk ih=>?_) ?_
 ·simp only[Z165.l0_succ _ qaf]
  obtain⟨s,hs,hsl⟩:=hpl k hk
  have hg:w[k]? = some (s:Int):=by rw[List.getElem?_eq_getElem hk,hs]
  have hss:s<x.2.2.1.length:=by omega
  have hb:=qfT (w:=w) hst (n:=k)
  have hb2:=hst _ (List.getElem_mem hss)
  rw[qeF hk hs,qad hss] at ih
  refine qax (decide_eq_true (by omega)) (qab (qaZ.trans hg) (qab (qai hss) ?_))
  rw[qae (by omega),qag (by omega) (by omega)];exact ih
 ·simp only[Z165.l0_succ _ qaf]
  exact qaB (decide_eq_false (by omega)) qam
def qex(st w:Sim)(n:Nat):Sim:=(List.range n).map (off st w)
theorem qlH(x:Shf)(w:Sim)(hl:x.2.2.1.length=x.1.length)(hst:∀ y∈x.2.2.1,0≤y∧y≤3)(hw:w.length≤1048576)(hpl:∀ i (h:i<w.length),∃ n:Nat,w[i]=(n:Int)∧n<x.1.length) :
  Ret E n_Z48 [dLL x.1,dI x.2.1,dL x.2.2.1,dMs x.2.2.2.1,dL w] ⟨o_Z48,(qex x.2.2.1 w w.length,off x.2.2.1 w w.length,())⟩:=by
 refine qak ?_
 simp only[run_Z48,Z48.ev]
 refine Ev.start (p:=fun φ n=>Z48.l0 (mkR (run E (φ 0))) (φ 0) n 0 w (w.length:Int) 0 x.1 x.2.1 x.2.2.1 x.2.2.2.1 []=_) 1 ?_ (fun _ _ _ h=>h)
 have:=qao 1 (L:=fun φ n k (a:Int×Sim)=>Z48.l0 (mkR (run E (φ 0))) (φ 0) n a.1 w (w.length:Int) k x.1 x.2.1 x.2.2.1 x.2.2.2.1 a.2) (len:=w.length) (fun k=>(off x.2.2.1 w k,qex x.2.2.1 w k)) (r:=some ⟨o_Z48,(qex x.2.2.1 w w.length,off x.2.2.1 w w.length,())⟩) (fun _ _ _ _ _=>rfl) (fun k r hk ih=>?_) ?_
 ·exact this
 ·simp only[Z48.l0_succ _ qaf]
  obtain⟨s,hs,hsl⟩:=hpl k hk
  have hg:w[k]? = some (s:Int):=by rw[List.getElem?_eq_getElem hk,hs]
  have hss:s<x.2.2.1.length:=by omega
  have hb:=qfT (w:=w) hst (n:=k)
  have hb2:=hst _ (List.getElem_mem hss)
  have hle:(qex x.2.2.1 w k).length=k:=by simp[qex]
  have es:qex x.2.2.1 w (k+1)=qex x.2.2.1 w k++[off x.2.2.1 w k]:=by
   unfold qex;rw[List.range_succ,List.map_append];rfl
  rw[es] at ih
  simp only at ih
  rw[qeF hk hs,qad hss] at ih
  refine qax (decide_eq_true (by omega)) (qab (qaZ.trans hg) (qan (decide_eq_true (by simp only[List.length_cons,List.length_nil,hle];omega)) (qab (qai hss) ?_)))
  rw[qae (by omega),qag (by omega) (by omega)];exact ih
 ·simp only[Z48.l0_succ _ qaf]
  exact qaB (decide_eq_false (by omega)) qam
def Dat(x:Shf)(w v:Sim):Prop:=qaI v x.2.1∧(v.length:Int)=off x.2.2.1 w w.length
open Classical in
noncomputable def LC(x:Shf)(w v:Sim):Int:=if PC x w=0 then(if Dat x w v then 0 else 7) else PC x w
theorem qnR{x:Shf}{w v:Sim}:LC x w v=0↔(ISh x∧qeL x.1 w)∧Dat x w v:=by
 rw[← qe6]
 unfold LC;split
 ·rename_i h
  split
  ·rename_i h2;exact⟨fun _=>⟨h,h2⟩,fun _=>rfl⟩
  ·rename_i h2;exact⟨fun e=>by omega,fun e=>absurd e.2 h2⟩
 ·rename_i h;exact⟨fun e=>absurd e h,fun e=>absurd e.1 h⟩
theorem qlN(x:Shf)(w v:Sim)(hl:x.2.2.1.length=x.1.length)(hst:∀ y∈x.2.2.1,0≤y∧y≤3)(hw:w.length≤1048576)(hv:v.length≤1048576)(hpl:∀ i (h:i<w.length),∃ n:Nat,w[i]=(n:Int)∧n<x.1.length)(hp:0≤x.2.1∧x.2.1≤1048576) :
    Ret E n_Z162 [dS x,dL w,dL v] ⟨o_Z162,(pb (Dat x w v),())⟩:=by
  have e:w64 (x.2.1-1)=x.2.1-1:=qag (by omega) (by omega)
  refine qak ?_
  simp only[run_Z162,Z162.ev]
  refine Ev.start (p:=fun φ n'=>Z162.l0 (mkR (run E (φ 0))) (φ 0) n' x w v 0=_) 1 ?_ (fun _ _ _ h=>h)
  refine(qcY 1 (L:=fun φ n' k=>Z162.l0 (mkR (run E (φ 0))) (φ 0) n' x w v k) (len:=v.length) 0 (by omega) (fun j=>0≤v.getD j 0∧v.getD j 0≤x.2.1-1) (fun b=>some ⟨o_Z162,(b&&((v.length:Int)==off x.2.2.1 w w.length),())⟩) (fun _ _ _ _=>rfl) (fun k h1 h2 hP _=>?_) (fun k r h1 h2 hP _ ih=>?_) (fun _=>?_)).to ?_
  · simp only[Z162.l0_succ _ qaf,e]
    rw[qad h2] at hP
    exact qax (decide_eq_true (by omega)) (qab (qai h2) (qaa (qbR _ _ _) (qax (by rw[qar hP];rfl) qam)))
  · simp only[Z162.l0_succ _ qaf,e]
    rw[qad h2] at hP
    refine qax (decide_eq_true (by omega)) (qab (qai h2) (qaa (qbR _ _ _) (qaB (by rw[qaL hP];rfl) ?_)))
    rw[qae (by omega)];exact ih
  · simp only[Z162.l0_succ _ qaf]
    exact qaB (decide_eq_false (by omega)) (qaa (qhg x w hl hst hw hpl) (qaj (by rw[Bool.true_and])))
  · have:(pb (∀ j,0≤j→j<v.length→0≤v.getD j 0∧v.getD j 0≤x.2.1-1)&&((v.length:Int)==off x.2.2.1 w w.length))=pb (Dat x w v):=qfs (by
      rw[Bool.and_eq_true,qaC,beq_iff_eq]
      refine and_congr_left' ⟨fun h y hy=>?_,fun h j _ hj=>?_⟩
      · obtain⟨j,hj,rfl⟩:=List.mem_iff_getElem.1 hy
        have:=h j (by omega) hj
        rwa [qad hj] at this
      · rw[qad hj];exact h _ (List.getElem_mem hj))
    rw[this]
theorem qnm(x:Shf)(w v:Sim)(hx:Sm (.st cS) x)(hw:Sm (.sl (.int .i64)) w)(hv:Sm (.sl (.int .i64)) v):Ret E n_Z159 [dS x,dL w,dL v] ⟨o_Z159,(LC x w v,())⟩:=by
 refine qak ?_
 simp only[run_Z159,Z159.ev]
 refine qaa (qk8 x hx) (qb7 (fun h=>qaj ?_) fun h=>?_)
 ·have h:=qa1.1 (show pb (ISh x)=false by simpa using h)
  have e:PC x w=1:=by rw[PC,if_neg h]
  rw[LC,e,if_neg (by omega)]
 ·have h:=qaC.1 (show pb (ISh x)=true by simpa using h)
  refine qaa (qj6 x w hx.1.1 hw) (qb7 (fun h2=>qaj ?_) fun h2=>?_)
  ·have h2:=qa1.1 (show pb (qeL x.1 w)=false by simpa using h2)
   have e:PC x w=2:=by rw[PC,if_pos h,if_neg h2]
   rw[LC,e,if_neg (by omega)]
  ·have h2:=qaC.1 (show pb (qeL x.1 w)=true by simpa using h2)
   have hp:=h.1.2.1
   have h0:=qe6.2 ⟨h,h2⟩
   refine qaa (qlN x w v h.1.2.2.1.1 h.1.2.2.1.2.1 hw.1 hv.1 (fun i hi=>h2.get hi) ⟨by have:=hp.1;omega,by have:=hp.2.1;omega⟩) (qb7 (fun h3=>qaj ?_) fun h3=>qaj ?_)
   ·rw[LC,if_pos h0,if_neg (qa1.1 (show pb (Dat x w v)=false by simpa using h3))]
   ·rw[LC,if_pos h0,if_pos (qaC.1 (show pb (Dat x w v)=true by simpa using h3))]
end VeT
open Go Go.Proofs Ve
namespace VeT
def qqS(a p:Int):Int:=Int.tmod (w64 (Int.tmod a p+p)) p
theorem qma{a p:Int}(hp:2≤p∧p≤251)(ha:-1048576≤a∧a≤1048576):qqS a p=a%p:=by
 have h1:-p<Int.tmod a p∧Int.tmod a p<p:=by
  constructor
  ·by_cases h:a<0
   ·have:=Int.tmod_lt_of_pos (-a) (show 0<p by omega)
    rw[Int.neg_tmod] at this;omega
   ·have:=Int.tmod_nonneg p (show 0≤a by omega);omega
  ·exact Int.tmod_lt_of_pos a (by omega)
 have h2:Int.tmod a p%p=a%p:=by
  have:=Int.tmod_add_mul_tdiv a p
  have e:a=Int.tmod a p+p*Int.tdiv a p:=this.symm
  conv=>rhs;rw[e]
  rw[Int.add_mul_emod_self_left]
 unfold qqS
 rw[qag (by omega) (by omega),Int.tmod_eq_emod_of_nonneg (by omega),Int.add_emod_right,h2]
theorem qi2(a p:Int)(hp:2≤p):Ret E n_Z53 [dI a,dI p] ⟨o_Z53,(qqS a p,())⟩:=by
 refine qak ?_
 simp only[run_Z53,Z53.ev]
 exact qan (by simp;omega) (qan (by simp;omega) qam)
theorem qiO(a p:Int)(hp:2≤p):Ret E n_Z119 [dI a,dI p] ⟨o_Z119,(qqS a p,())⟩:=by
 refine qak ?_
 simp only[run_Z119,Z119.ev]
 exact qan (by simp;omega) (qan (by simp;omega) qam)
theorem qgM(a b:Sim)(c p:Int)(hp:2≤p∧p≤251)(hc:0≤c∧c≤250)(hl:a.length≤b.length)(ha1:a.length≤1048576)(ea:∀ x∈a,0≤x∧x≤250)(eb:∀ x∈b,0≤x∧x≤250) :
  Ret E n_Z17 [dL a,dL b,dI c,dI p] ⟨o_Z17,(qls a b c p,())⟩:=by
 refine qak ?_
 simp only[run_Z17,Z17.ev]
 refine Ev.start (p:=fun φ n=>Z17.l0 (mkR (run E (φ 0))) (φ 0) n a b c p (a.length:Int) 0 []=_) 1 ?_ (fun _ _ _ h=>h)
 refine qao 1 (L:=fun φ n k o=>Z17.l0 (mkR (run E (φ 0))) (φ 0) n a b c p (a.length:Int) k o) (len:=a.length) (fun k=>(List.range k).map fun i=>(a.getD i 0+c*b.getD i 0)%p) (fun _ _ _ _ _=>rfl) (fun k r hk ih=>?_) ?_
 ·simp only[Z17.l0_succ _ qaf]
  have hkb:k<b.length:=by omega
  have h1:=ea _ (List.getElem_mem hk)
  have h2:=qeC hc (eb _ (List.getElem_mem hkb))
  rw[List.range_succ,List.map_append,List.map_singleton,qad hk,qad hkb] at ih
  refine qax (decide_eq_true (by omega)) (qab (qai hk) (qab (qai hkb) (qan (by simp;omega) ?_)))
  rw[qag (n:=c*b[k]) (by omega) (by omega),qag (by omega) (by omega),Int.tmod_eq_emod_of_nonneg (by omega),qae (by omega)]
  exact qan (by simp;omega) ih
 ·simp only[Z17.l0_succ _ qaf]
  exact qaB (decide_eq_false (by omega)) qam
theorem qob{a:Int}:∀ k:Nat,(a*a) ^ k=a ^ (k+k)
 | 0=>by rw[Int.pow_zero,Nat.add_zero,Int.pow_zero]
 | k+1=>by rw[Int.pow_succ,qob k,show k+1+(k+1)=k+k+1+1 by omega,Int.pow_succ,Int.pow_succ,Int.mul_assoc]
theorem qlC(a:Int)(n:Nat)(p:Int)(hp:2≤p∧p≤251)(ha:0≤a∧a≤p-1)(hn:n≤1048576):Ret E n_Z50 [dI a,dI (n:Int),dI p] ⟨o_Z50,(a ^ n%p,())⟩:=by
  refine qak ?_
  simp only[run_Z50,Z50.ev]
  refine Ev.start (p:=fun φ m=>Z50.l0 (mkR (run E (φ 0))) (φ 0) m a (n:Int) p 1=_) 1 ?_ (fun _ _ _ h=>h)
  refine qeQ 1 (σ:=Int×Nat×Int) (L:=fun φ m s=>Z50.l0 (mkR (run E (φ 0))) (φ 0) m s.1 (s.2.1:Int) p s.2.2) (fun _ _ _ _=>rfl) (fun s=>(0≤s.1∧s.1≤p-1)∧s.2.1≤1048576∧(0≤s.2.2∧s.2.2≤p-1)∧s.2.2*s.1 ^ s.2.1%p=a ^ n%p) (fun _=>_) (fun s=>s.2.1) (fun s hi ih=>?_) (a,n,1) ⟨ha,hn,by show 0≤(1:Int)∧(1:Int)≤p-1;omega,by show 1*a ^ n%p=_;rw[Int.one_mul]⟩
  obtain⟨b,m,q⟩:=s
  obtain⟨h1,h2,h3,h4⟩:=hi
  simp only at h1 h2 h3 h4 ih
  simp only[Z50.l0_succ _ qaf]
  have hbb:=qeC (x:=b) (y:=b) (by omega) (by omega)
  have hqb:=qeC (x:=q) (y:=b) (by omega) (by omega)
  have e1:w64 (b*b)=b*b:=qag (by omega) (by omega)
  have e2:w64 (q*b)=q*b:=qag (by omega) (by omega)
  have e3:Int.tdiv (m:Int) 2=((m / 2:Nat):Int):=rfl
  have e4:w64 ((m / 2:Nat):Int)=((m / 2:Nat):Int):=qag (by omega) (by omega)
  have e5:Int.tmod (m:Int) 2=((m%2:Nat):Int):=rfl
  refine qec (fun hm=>?_) fun hm=>qaj ?_
  · rw[e5,e1,e2,e3,e4,Int.tmod_eq_emod_of_nonneg (by omega),Int.tmod_eq_emod_of_nonneg (by omega)]
    have hd:m / 2<m:=by omega
    refine qb7 (fun ho=>qan (by simp;omega) (qan (by simp;omega) ?_)) fun he=>qan (by simp;omega) ?_
    · have ho : m % 2 = 1 := by have : ((m % 2 : Nat) : Int) = 1 := by simpa using ho
                                omega
      refine ih (b*b%p,m / 2,q*b%p) ⟨qdh (by omega),by show m / 2≤_;omega,qdh (by omega),?_⟩ hd
      rw[← h4]
      show q*b%p*(b*b%p) ^ (m / 2)%p=_
      have hx:(q*b%p)%p=(q*b)%p:=Int.emod_emod_of_dvd _ (Int.dvd_refl p)
      have hy:(b*b%p) ^ (m / 2)%p=(b*b) ^ (m / 2)%p:=qhl (Int.emod_emod_of_dvd _ (Int.dvd_refl p)) _
      rw[qcV hx hy,qob]
      have hm2:m=m / 2+m / 2+1:=by omega
      conv=>rhs;rw[hm2,Int.pow_succ]
      rw[Int.mul_assoc,Int.mul_comm b]
    · have he:m%2=0:=by
        have:¬ ((m%2:Nat):Int)=1:=by simpa using he
        omega
      refine ih (b*b%p,m / 2,q) ⟨qdh (by omega),by show m / 2≤_;omega,h3,?_⟩ hd
      rw[← h4]
      show q*(b*b%p) ^ (m / 2)%p=_
      have hy:(b*b%p) ^ (m / 2)%p=(b*b) ^ (m / 2)%p:=qhl (Int.emod_emod_of_dvd _ (Int.dvd_refl p)) _
      rw[qcV rfl hy,qob]
      have hm2:m=m / 2+m / 2:=by omega
      conv=>rhs;rw[hm2]
  · have hm:m=0:=by omega
    subst hm
    have:q=a ^ n%p:=by rw[← h4,Int.pow_zero,Int.mul_one,Int.emod_eq_of_lt (by omega) (by omega)]
    rw[this]
theorem qkp(a p:Int)(hp:2≤p∧p≤251)(ha:0≤a∧a≤p-1):Ret E n_Z38 [dI a,dI p] ⟨o_Z38,(qgU a p,())⟩:=by
 have e:w64 (p-2)=(((p-2).toNat:Nat):Int):=by rw[qag (by omega) (by omega)];omega
 refine qak ?_
 simp only[run_Z38,Z38.ev,e]
 exact qaa (qlC a (p-2).toNat p hp ha (by omega)) qam
theorem qiJ(a p:Int)(hp:2≤p∧p≤251)(ha:0≤a∧a≤p-1):Ret E n_Z116 [dI a,dI p] ⟨o_Z116,(qgU a p,())⟩:=by
 have e:w64 (p-2)=(((p-2).toNat:Nat):Int):=by rw[qag (by omega) (by omega)];omega
 refine qak ?_
 simp only[run_Z116,Z116.ev,e]
 refine Ev.start (p:=fun φ m=>Z116.l0 (mkR (run E (φ 0))) (φ 0) m a p 1 (((p-2).toNat:Nat):Int)=_) 1 ?_ (fun _ _ _ h=>h)
 refine qeQ 1 (σ:=Nat×Int) (L:=fun φ m s=>Z116.l0 (mkR (run E (φ 0))) (φ 0) m a p s.2 (s.1:Int)) (fun _ _ _ _=>rfl) (fun s=>s.1≤1048576∧(0≤s.2∧s.2≤p-1)∧s.2*a ^ s.1%p=a ^ (p-2).toNat%p) (fun _=>_) (fun s=>s.1) (fun s hi ih=>?_) ((p-2).toNat,1) ⟨by show(p-2).toNat≤_;omega,by show 0≤(1:Int)∧(1:Int)≤p-1;omega,by show 1*_%p=_;rw[Int.one_mul]⟩
 obtain⟨m,q⟩:=s
 obtain⟨h2,h3,h4⟩:=hi
 simp only at h2 h3 h4 ih
 simp only[Z116.l0_succ _ qaf]
 have hqa:=qeC (x:=q) (y:=a) (by omega) (by omega)
 refine qec (fun hm=>qan (by simp;omega) ?_) fun hm=>qaj ?_
 ·rw[qag (n:=q*a) (by omega) (by omega),Int.tmod_eq_emod_of_nonneg (by omega),qag (by omega) (by omega),show(m:Int)-1=((m-1:Nat):Int) by omega]
  refine ih (m-1,q*a%p) ⟨by show m-1≤_;omega,qdh (by omega),?_⟩ (by show m-1<m;omega)
  rw[← h4]
  show q*a%p*a ^ (m-1)%p=_
  have hx:(q*a%p)%p=(q*a)%p:=Int.emod_emod_of_dvd _ (Int.dvd_refl p)
  rw[qcV hx rfl]
  conv=>rhs;rw[show m=m-1+1 by omega,Int.pow_succ]
  rw[Int.mul_assoc,Int.mul_comm a]
 ·have hm:m=0:=by omega
  subst hm
  have:q=qgU a p:=by unfold qgU;rw[← h4,Int.pow_zero,Int.mul_one,Int.emod_eq_of_lt (by omega) (by omega)]
  rw[this]
theorem qmg{f g:Nat→Int}{W:Nat}{c p:Int}:qls ((List.range W).map f) ((List.range W).map g) c p=(List.range W).map fun j=>(f j+c*g j)%p:=by
 unfold qls
 rw[List.length_map,List.length_range]
 refine List.map_congr_left fun j hj=>?_
 have hj:=List.mem_range.1 hj
 simp[List.getD_eq_getElem?_getD,hj]
theorem qkX{W:Nat}:List.replicate W (0:Int)=(List.range W).map fun _=>0:=by
 rw[List.map_const',List.length_range]
theorem qo0{f:Nat→Int}{W:Nat}{p:Int}(hp:p≤251)(h:∀ j,j<W→0≤f j∧f j≤p-1):∀ x∈(List.range W).map f,0≤x∧x≤250:=fun x hx=>by
 obtain⟨j,hj,rfl⟩:=List.mem_map.1 hx
 have:=h j (List.mem_range.1 hj)
 omega
def pvL(l:List Nat):Sim:=l.map fun(n:Nat)=>(n:Int)
theorem qa8{l:List Nat}:(pvL l).length=l.length:=by simp[pvL]
theorem qoO{l:List Nat}{c:Nat}:pvL (l++[c])=pvL l++[(c:Int)]:=by simp[pvL]
theorem qnr{A:Ent}{R W c top:Nat}(hc:c<W)(ht:top≤R):qiQ (fun row:Sim=>row.getD c 0 != 0) ((qaE A R W).drop top)=o2i ((qaP (fun i=>A i c≠0) top (R-top)).map fun q=>q-top):=by
 have hlen:((qaE A R W).drop top).length=R-top:=by rw[List.length_drop,qaO]
 have hget:∀ k (h:k<((qaE A R W).drop top).length),(((qaE A R W).drop top)[k].getD c 0 != 0)=true↔A (top+k) c≠0:=fun k h=>by
  rw[hlen] at h
  have h1:=qbH (A:=A) (W:=W) (show top+k<R by omega)
  have h2:((qaE A R W).drop top)[k]? = some ((List.range W).map (A (top+k))):=by rw[List.getElem?_drop];exact h1
  rw[List.getElem?_eq_getElem (by rw[hlen];exact h)] at h2
  rw[Option.some.inj h2,List.getD_eq_getElem?_getD,qgo hc]
  simp
 symm
 refine qdk (fun k hk=>?_) fun hno j hj ⟨hj',hP⟩=>?_
 ·cases hf:qaP (fun i=>A i c≠0) top (R-top) with
  | none=>rw[hf] at hk;cases hk
  | some q =>
   rw[hf] at hk
   have hk:q-top=k:=Option.some.inj hk
   have h1:=qay hf
   have hkl:k<((qaE A R W).drop top).length:=by rw[hlen];omega
   refine⟨hkl,⟨hkl,(hget k hkl).2 (by rw[show top+k=q by omega];exact h1.2.2)⟩,fun j hj ⟨hj',hP⟩=>?_⟩
   exact qeE hf (top+j) (by omega) (by omega) ((hget j hj').1 hP)
 ·cases hf:qaP (fun i=>A i c≠0) top (R-top) with
  | none=>exact qcX hf (top+j) (by omega) (by rw[hlen] at hj;omega) ((hget j hj').1 hP)
  | some q=>rw[hf] at hno;cases hno
end VeT
open Go Go.Proofs Ve
namespace VeT
theorem qh4(row:Sim)(c:Nat)(hc:c<row.length):Ret E n_Z29 [dL row,⟨.ptr (.cons (.int .i64) .nil),((c:Int),())⟩] ⟨o_Z29,(row.getD c 0 != 0,())⟩:=by
 rw[qad hc]
 refine qak ?_
 simp only[run_Z29,Z29.ev]
 exact qab (qai hc) qam
def elK(p:Int)(c top k:Nat)(B:Ent):Ent:=fun i j=>if i<k then elF p c top B i j else elM p c top B i j
theorem qpo{p:Int}{c top:Nat}{B:Ent}{R W:Nat}:qaE (elK p c top 0 B) R W=qaE (elM p c top B) R W:=qbZ fun i j _ _=>by simp[elK]
theorem qqt{p:Int}{c top:Nat}{B:Ent}{R W:Nat}:qaE (elK p c top R B) R W=qaE (elF p c top B) R W:=qbZ fun i j hi _=>by simp[elK,hi]
theorem qn0{top q R W:Nat}{A:Ent}(ht:top<R)(hq:q<R)(hne:q≠top):((qaE A R W).set top ((List.range W).map (A q))).set q ((List.range W).map (A top))=qaE (qcp top q A) R W:=by
 rw[qfE,qfE]
 refine qbZ fun i j _ _=>?_
 unfold qcp
 by_cases h1:i=q
 ·subst h1;simp[hne]
 ·by_cases h2:i=top
  ·subst h2;simp[h1]
  ·simp[h1,h2]
theorem qoY{top R W:Nat}{A:Ent}:qaE (qcp top top A) R W=qaE A R W:=qbZ fun i j _ _=>by
 unfold qcp
 by_cases h:i=top
 ·subst h;simp
 ·simp[h]
theorem qjL(A:Ent)(R W:Nat)(p:Int)(hp:2≤p∧p≤251)(hR:R≤1048576)(hW:W≤1048576)(hA:EIn p R W A) :
  ∃ det:Int,Ret E n_Z28 [dLL (qaE A R W),dI (W:Int),dI p] ⟨o_Z28,(pvL (elS p R A W).2,det,qaE (elS p R A W).1 R W,())⟩:=by
 have key:∀ d c det,c+d=W→∃ det':Int,Ev fun φ=>Z28.l0 (mkR (run E (φ 0))) (φ 0) (φ 1) (W:Int) p det (W:Int) (c:Int) (pvL (elS p R A c).2) (qaE (elS p R A c).1 R W)=some ⟨o_Z28,(pvL (elS p R A W).2,det',qaE (elS p R A W).1 R W,())⟩:=by
  intro d
  induction d with
  | zero =>
   intro c det hc
   obtain rfl:c=W:=by omega
   refine⟨det,Ev.round 1 (L:=fun φ n=>Z28.l0 (mkR (run E (φ 0))) (φ 0) n (c:Int) p det (c:Int) (c:Int) (pvL (elS p R A c).2) (qaE (elS p R A c).1 R c)) ?_ (fun _ _ _=>rfl)⟩
   simp only[Z28.l0_succ _ qaf]
   exact qaB (decide_eq_false (by omega)) qam
  | succ d ih =>
   intro c det hcd
   have hc:c<W:=by omega
   obtain⟨hB,hpl,hpc,_⟩:=qgF hp.1 hA c
   have hstep:elS p R A (c+1)=elP p R c (elS p R A c):=rfl
   generalize hS:elS p R A c=S at hB hpl hpc hstep
   obtain⟨B0,pv⟩:=S
   simp only at hB hpl hpc hstep
   have hlen:(qaE B0 R W).length=R:=qaO
   have hI:=qbq ((qaE B0 R W).drop pv.length) (((c:Int),()),()) (fun row=>row.getD c 0 != 0) (by rw[List.length_drop,hlen];omega) fun row hrow=>qh4 row c (by
    have:=List.mem_of_mem_drop hrow
    unfold qaE at this
    obtain⟨i,_,rfl⟩:=List.mem_map.1 this
    simpa using hc)
   rw[qnr hc hpl] at hI
   cases hf:qaP (fun i=>B0 i c≠0) pv.length (R-pv.length) with
   | none =>
    rw[hf] at hI
    have e:elS p R A (c+1)=(B0,pv):=by rw[hstep,elP];simp only[hf]
    obtain⟨det',h'⟩:=ih (c+1) 0 (by omega)
    rw[e] at h'
    refine⟨det',Ev.round 1 (L:=fun φ n=>Z28.l0 (mkR (run E (φ 0))) (φ 0) n (W:Int) p det (W:Int) (c:Int) (pvL pv) (qaE B0 R W)) ?_ (fun _ _ _=>rfl)⟩
    simp only[Z28.l0_succ _ qaf,qa8,hlen,Int.toNat_natCast]
    rw[show List.take R (qaE B0 R W)=qaE B0 R W from List.take_of_length_le (by omega)]
    refine qax (decide_eq_true (by omega)) (qan (by simp only[Bool.and_eq_true,decide_eq_true_eq];omega) (qaa hI (qax rfl ?_)))
    rw[qae (by omega)]
    exact h'
   | some q =>
    rw[hf] at hI
    have hq:=qay hf
    have e:elS p R A (c+1)=(elF p c pv.length (qcp pv.length q B0),pv++[c]):=by rw[hstep,elP];simp only[hf]
    generalize ht:pv.length=top at hI hq e hpl hpc
    have htR:top<R:=by omega
    have hqR:q<R:=by omega
    have hsw:=hB.sw htR hqR
    have hlead:1≤qcp top q B0 top c∧qcp top q B0 top c≤p-1:=by
     have h1:=hsw top c htR hc
     have h2:qcp top q B0 top c=B0 q c:=by simp[qcp]
     have h3:=hq.2.2
     rw[← h2] at h3
     omega
    have hI':Ret E n_Z85 [dLL ((qaE B0 R W).drop top),⟨.fn n_Z29 (.cons (.ptr (.cons (.int .i64) .nil)) .nil),(((c:Int),()),())⟩] ⟨o_Z85,(((q-top:Nat):Int),())⟩:=hI
    -- what lies behind the exchange
    have back:∀ det2,∃ det',Ev fun φ=>Z28.j1 (mkR (run E (φ 0))) (φ 0) (φ 1) (W:Int) p det2 (top:Int) (W:Int) (c:Int) (c:Int) (pvL pv) (qaE (qcp top q B0) R W)=some ⟨o_Z28,(pvL (elS p R A W).2,det',qaE (elS p R A W).1 R W,())⟩:=fun det2=>by
     generalize qcp top q B0=B at hsw hlead e
     obtain⟨det',h'⟩:=ih (c+1) (Int.tmod (w64 (det2*B top c)) p) (by omega)
     rw[e] at h'
     simp only at h'
     rw[qoO,← qqt] at h'
     have hBl:(qaE B R W).length=R:=qaO
     have hNin:∀ j,0≤elN p c top B j∧elN p c top B j≤p-1:=fun j=>qdh hp.1
     have hinv:=qoT (a:=B top c) (p:=p) hp.1
     have hinvR:=qkp (B top c) p hp ⟨by omega,hlead.2⟩
     have hgt:=qbH (A:=B) (W:=W) htR
     have hat:Ret E n_Z17 [dL (List.replicate W 0),dL ((List.range W).map (B top)),dI (qgU (B top c) p),dI p] ⟨o_Z17,((List.range W).map (elN p c top B),())⟩:=by
      have:=qgM (List.replicate W 0) ((List.range W).map (B top)) (qgU (B top c) p) p hp (by omega) (by simp) (by rw[List.length_replicate];exact hW) (fun x hx=>by rw[List.mem_replicate] at hx;omega) (qo0 hp.2 fun j hj=>hsw top j htR hj)
      rw[qkX,qmg,← qkX] at this
      have e2:((List.range W).map fun j=>(0+qgU (B top c) p*B top j)%p)=(List.range W).map (elN p c top B):=List.map_congr_left fun j _=>by
       rw[Int.zero_add,Int.mul_comm];rfl
      rw[e2] at this
      exact this
     have hset:(qaE B R W).set top ((List.range W).map (elN p c top B))=qaE (elK p c top 0 B) R W:=by
      rw[qfE,qpo];rfl
     refine⟨det',?_⟩
     -- the loop over the rows
     have loop:Ev fun φ=>Z28.j2 (mkR (run E (φ 0))) (φ 0) (φ 1) (W:Int) p (Int.tmod (w64 (det2*B top c)) p) (top:Int) (W:Int) (c:Int) (c:Int) (pvL pv) (qaE (elK p c top 0 B) R W)=some ⟨o_Z28,(pvL (elS p R A W).2,det',qaE (elS p R A W).1 R W,())⟩:=by
      simp only[Z28.j2_eq _ qaf,qaO]
      generalize Int.tmod (w64 (det2*B top c)) p=D at h' ⊢
      refine Ev.start (p:=fun φ n=>Z28.l3 (mkR (run E (φ 0))) (φ 0) (φ 1) n (W:Int) p D (top:Int) (W:Int) (c:Int) (R:Int) 0 (c:Int) (pvL pv) (qaE (elK p c top 0 B) R W)=_) 2 ?_ (fun _ _ _ h=>h)
      refine qao 2 (L:=fun φ n i S=>Z28.l3 (mkR (run E (φ 0))) (φ 0) (φ 1) n (W:Int) p D (top:Int) (W:Int) (c:Int) (R:Int) i (c:Int) (pvL pv) S) (len:=R) (fun i=>qaE (elK p c top i B) R W) (fun _ _ _ _ _=>rfl) (fun i r hi ih2=>?_) ?_
      ·simp only[Z28.l3_succ _ qaf,qaO,Int.toNat_natCast]
       have hrow:(qaE (elK p c top i B) R W)[i]? = some ((List.range W).map (elM p c top B i)):=by
        rw[qbH hi]
        have:elK p c top i B i=elM p c top B i:=funext fun j=>by simp[elK]
        rw[this]
       have htop:(qaE (elK p c top i B) R W)[top]? = some ((List.range W).map (elN p c top B)):=by
        rw[qbH htR]
        have:elK p c top i B top=elN p c top B:=funext fun j=>by simp[elK,elF,elM]
        rw[this]
       refine qax (decide_eq_true (by omega)) (qan (by simp only[Bool.and_eq_true,decide_eq_true_eq];omega) (qab hrow ?_))
       by_cases hit:i=top
       ·subst hit
        refine qaB (by simp) ?_
        simp only[Z28.j4_eq _ qaf,cond_false]
        have hsame:qaE (elK p c i (i+1) B) R W=qaE (elK p c i i B) R W:=qbZ fun k j _ _=>by
         unfold elK
         by_cases h1:k=i
         ·subst h1;simp[elF,elM]
         ·by_cases h2:k<i
          ·rw[if_pos (by omega),if_pos h2]
          ·rw[if_neg (by omega),if_neg h2]
        rw[hsame] at ih2
        rw[qae (by omega)];exact ih2
       ·have hM:elM p c top B i=B i:=funext fun j=>by simp[elM,hit]
        rw[hM]
        have hBi:=hsw i c hi hc
        refine qax (by simp;omega) (qab (qaZ.trans (qgo hc)) ?_)
        by_cases hz:B i c=0
        ·simp only[hz,bne_self_eq_false,Z28.j4_eq _ qaf,cond_false]
         have hsame:qaE (elK p c top (i+1) B) R W=qaE (elK p c top i B) R W:=qbZ fun k j _ _=>by
          unfold elK
          by_cases h1:k=i
          ·subst h1;simp[elF,elM,hit,hz]
          ·by_cases h2:k<i
           ·rw[if_pos (by omega),if_pos h2]
           ·rw[if_neg (by omega),if_neg h2]
         rw[hsame] at ih2
         rw[qae (by omega)];exact ih2
        ·have hne:(B i c != 0)=true:=by simpa using hz
         have ec:w64 (p-B i c)=p-B i c:=qag (by omega) (by omega)
         simp only[hne,Z28.j4_eq _ qaf,cond_true,qaO,Int.toNat_natCast]
         refine qan (by simp only[Bool.and_eq_true,decide_eq_true_eq];omega) (qab htop (qab (qaZ.trans (qgo hc)) ?_))
         simp only[ec]
         have hat2:=qgM ((List.range W).map (B i)) ((List.range W).map (elN p c top B)) (p-B i c) p hp (by omega) (by simp) (by simpa using hW) (qo0 hp.2 fun j hj=>hsw i j hi hj) (qo0 hp.2 fun j _=>hNin j)
         rw[qmg] at hat2
         refine qaa hat2 (qan (by simp only[Bool.and_eq_true,decide_eq_true_eq];omega) ?_)
         have hset2:(qaE (elK p c top i B) R W).set i ((List.range W).map fun j=>(B i j+(p-B i c)*elN p c top B j)%p)=qaE (elK p c top (i+1) B) R W:=by
          rw[qfE]
          refine qbZ fun k j _ _=>?_
          unfold elK
          by_cases h1:k=i
          ·subst h1;simp[elF,hit,hz]
          ·by_cases h2:k<i
           ·rw[if_neg h1,if_pos h2,if_pos (by omega)]
           ·rw[if_neg h1,if_neg h2,if_neg (by omega)]
         rw[qae (by omega)]
         rw[← hset2] at ih2
         exact ih2
      ·simp only[Z28.l3_succ _ qaf]
       refine qaB (decide_eq_false (by omega)) (qan (by simp only[qa8,List.length_cons,List.length_nil,decide_eq_true_eq];omega) ?_)
       rw[qae (by omega)]
       exact h'
     simp only[Z28.j1_eq _ qaf,qaO,Int.toNat_natCast]
     have hck:(decide ((0:Int)≤(top:Int))&&decide ((top:Int)<(R:Int)))=true:=by simp only[Bool.and_eq_true,decide_eq_true_eq];omega
     have hcw:(decide ((0:Int)≤(W:Int))&&decide ((W:Int)*8≤70368744177664))=true:=by simp only[Bool.and_eq_true,decide_eq_true_eq];omega
     have fin:=loop
     rw[← hset] at fin
     exact qan hck (qab hgt (qab (qaZ.trans (qgo hc)) (qan (by simp;omega) (qan hck (qab hgt (qcB (qan hcw (qaa hinvR (qaa hat (qan hck fin)))) (qaa hinvR (qan hcw (qaa hat (qan hck fin))))))))))
    by_cases hqt:q=top
    ·subst hqt
     obtain⟨det',h'⟩:=back det
     rw[qoY] at h'
     refine⟨det',Ev.round 1 (L:=fun φ n=>Z28.l0 (mkR (run E (φ 0))) (φ 0) n (W:Int) p det (W:Int) (c:Int) (pvL pv) (qaE B0 R W)) ?_ (fun _ _ _=>rfl)⟩
     simp only[Z28.l0_succ _ qaf,qa8,hlen,Int.toNat_natCast,ht]
     rw[show List.take R (qaE B0 R W)=qaE B0 R W from List.take_of_length_le (by omega)]
     refine qax (decide_eq_true (by omega)) (qan (by simp only[Bool.and_eq_true,decide_eq_true_eq];omega) (qaa hI' ?_))
     rw[Nat.sub_self]
     exact qaB rfl (qaB rfl h')
    ·obtain⟨det',h'⟩:=back (qqS (w64 (0-det)) p)
     rw[← qn0 htR hqR hqt] at h'
     refine⟨det',Ev.round 1 (L:=fun φ n=>Z28.l0 (mkR (run E (φ 0))) (φ 0) n (W:Int) p det (W:Int) (c:Int) (pvL pv) (qaE B0 R W)) ?_ (fun _ _ _=>rfl)⟩
     simp only[Z28.l0_succ _ qaf,qa8,hlen,Int.toNat_natCast,ht]
     rw[show List.take R (qaE B0 R W)=qaE B0 R W from List.take_of_length_le (by omega)]
     have e3:w64 ((top:Int)+((q-top:Nat):Int))=(q:Int):=by rw[qag (by omega) (by omega)];omega
     refine qax (decide_eq_true (by omega)) (qan (by simp only[Bool.and_eq_true,decide_eq_true_eq];omega) (qaa hI' (qaB (decide_eq_false (Int.not_lt.2 (Int.natCast_nonneg _))) (qax (decide_eq_true (by show(0:Int)<((q-top:Nat):Int);omega)) ?_))))
     simp only[e3,Int.toNat_natCast,List.length_set,hlen]
     have hck:(decide ((0:Int)≤(top:Int))&&decide ((top:Int)<(R:Int)))=true:=by simp only[Bool.and_eq_true,decide_eq_true_eq];omega
     have hckq:(decide ((0:Int)≤(q:Int))&&decide ((q:Int)<(R:Int)))=true:=by simp only[Bool.and_eq_true,decide_eq_true_eq];omega
     exact qan hckq (qab (qbH hqR) (qan hck (qab (qbH htR) (qan hck (qan hckq (qaa (qi2 (w64 (0-det)) p hp.1) h'))))))
 obtain⟨det',h⟩:=key W 0 1 (by omega)
 refine⟨det',qak ?_⟩
 simp only[run_Z28,Z28.ev]
 exact Ev.start (p:=fun φ n=>Z28.l0 (mkR (run E (φ 0))) (φ 0) n (W:Int) p 1 (W:Int) 0 [] (qaE A R W)=_) 1 h (fun _ _ _ h=>h)
end VeT
open Go Go.Proofs Ve
namespace VeT
theorem qfz{i W j:Nat}(h:i*W+j≤4611686018427387904):w64 (w64 ((i:Int)*(W:Int))+(j:Int))=((i*W+j:Nat):Int):=by
 rw[qa2,qag (n:=((i*W:Nat):Int)) (by omega) (by omega),qag (by omega) (by omega)];omega
theorem qet{A:Ent}{R W i j:Nat}(hi:i<R)(hj:j<W)(hRW:R*W≤1048576):(decide ((0:Int)≤((i*W+j:Nat):Int))&&decide (((i*W+j:Nat):Int)<((qaq A W R).length:Int)))=true∧(qaq A W R)[i*W+j]? = some (A i j):=by
 have:=qeO hi hj
 refine⟨?_,qbu hi hj⟩
 simp only[Bool.and_eq_true,decide_eq_true_eq,qas];omega
theorem qdj(p:Int)(R W:Nat)(cells:Sim)(hp:2≤p∧p≤251)(hR:R≤1048576)(hW:W≤1048576)(hRW:R*W≤1048576)(hl:cells.length=R*W)(he:qaI cells p) :
    ∃ det:Int,Ret E n_Z122 [dM (p,(R:Int),(W:Int),cells,())] ⟨o_Z122,(p,(R:Int),(W:Int),qaq (elS p R (qbL cells W) W).1 W R,pvL (elS p R (qbL cells W) W).2,det,())⟩:=by
  generalize hMt:(p,(R:Int),(W:Int),cells,())=M
  have M1:M.1=p:=by rw[← hMt]
  have M2:M.2.1=(R:Int):=by rw[← hMt]
  have M3:M.2.2.1=(W:Int):=by rw[← hMt]
  have M4:M.2.2.2.1=cells:=by rw[← hMt]
  have hA:=qcA he hl
  have hfl:=qen hl
  generalize qbL cells W=A at hA hfl
  let G:Int→Option Dv:=fun det=>some ⟨o_Z122,(p,(R:Int),(W:Int),qaq (elS p R A W).1 W R,pvL (elS p R A W).2,det,())⟩
  -- a column where no row is left
  have none_of:∀ c,(elS p R A c).2.length=R→elS p R A (c+1)=elS p R A c:=fun c h=>by
    show elP p R c (elS p R A c)=_
    rw[elP,h,Nat.sub_self];rfl
  have stay:∀ d c,c+d=W→(elS p R A c).2.length=R→elS p R A W=elS p R A c:=by
    intro d
    induction d with
    | zero=>intro c hc _;rw[show c=W by omega]
    | succ d ih =>
      intro c hc h
      have e:=none_of c h
      rw[ih (c+1) (by omega) (by rw[e];exact h),e]
  have key:∀ d c det,c+d=W→∃ det':Int,Ev fun φ=>Z122.l1 (mkR (run E (φ 0))) (φ 0) (φ 1) M p (W:Int) det ((elS p R A c).2.length:Int) (c:Int) 0 0 0 p (R:Int) (W:Int) (pvL (elS p R A c).2) (qaq (elS p R A c).1 W R)=G det':=by
    intro d
    induction d with
    | zero =>
      intro c det hc
      obtain rfl:c=W:=by omega
      refine⟨det,Ev.round 1 (L:=fun φ n=>Z122.l1 (mkR (run E (φ 0))) (φ 0) n M p (c:Int) det ((elS p R A c).2.length:Int) (c:Int) 0 0 0 p (R:Int) (c:Int) (pvL (elS p R A c).2) (qaq (elS p R A c).1 c R)) ?_ (fun _ _ _=>rfl)⟩
      simp only[Z122.l1_succ _ qaf,Z122.j2_eq _ qaf,cond_false]
      exact qaB (decide_eq_false (by omega)) qam
    | succ d ih =>
      intro c det hcd
      have hc:c<W:=by omega
      obtain⟨hB,hpl,hpc,_⟩:=qgF hp.1 hA c
      have hstep:elS p R A (c+1)=elP p R c (elS p R A c):=rfl
      by_cases hfull:(elS p R A c).2.length=R
      · refine⟨det,Ev.round 1 (L:=fun φ n=>Z122.l1 (mkR (run E (φ 0))) (φ 0) n M p (W:Int) det ((elS p R A c).2.length:Int) (c:Int) 0 0 0 p (R:Int) (W:Int) (pvL (elS p R A c).2) (qaq (elS p R A c).1 W R)) ?_ (fun _ _ _=>rfl)⟩
        simp only[Z122.l1_succ _ qaf,M2,hfull,show decide ((R:Int)<(R:Int))=false from decide_eq_false (by omega),Z122.j2_eq _ qaf,cond_false]
        refine qax (decide_eq_true (by omega)) (qaj ?_)
        show _=some _
        rw[stay (d+1) c hcd hfull]
      · have htR:(elS p R A c).2.length<R:=by omega
        generalize hS:elS p R A c=S at hB hpl hpc hstep hfull htR
        obtain⟨B0,pv⟩:=S
        simp only at hB hpl hpc hstep hfull htR
        generalize ht:pv.length=top at hpl hpc hfull htR
        -- what lies behind the exchange
        have back:∀ q,top≤q→q<R→B0 q c≠0→elS p R A (c+1)=(elF p c top (qcp top q B0),pv++[c])→∀ det2,∃ det',Ev fun φ=>Z122.j6 (mkR (run E (φ 0))) (φ 0) (φ 1) M p (W:Int) det2 (top:Int) (c:Int) 0 0 0 p (R:Int) (W:Int) (pvL pv) (qaq (qcp top q B0) W R)=G det':=fun q hq1 hqR hq2 e det2=>by
          have hsw:=hB.sw htR hqR
          have hlead:1≤qcp top q B0 top c∧qcp top q B0 top c≤p-1:=by
            have h1:=hsw top c htR hc
            have h2:qcp top q B0 top c=B0 q c:=by simp[qcp]
            rw[← h2] at hq2
            omega
          generalize qcp top q B0=B at hsw hlead e
          obtain⟨det',h'⟩:=ih (c+1) (Int.tmod (w64 (det2*B top c)) p) (by omega)
          rw[e] at h'
          simp only at h'
          rw[qoO,List.length_append,List.length_singleton,ht] at h'
          have hNin:∀ j,0≤elN p c top B j∧elN p c top B j≤p-1:=fun j=>qdh hp.1
          have hinv:=qoT (a:=B top c) (p:=p) hp.1
          have hinvR:=qiJ (B top c) p hp ⟨by omega,hlead.2⟩
          have hidx:∀ i j,i<R→j<W→i*W+j≤4611686018427387904:=fun i j hi hj=>by have:=qeO hi hj;omega
          refine⟨det',?_⟩
          simp only[Z122.j6_eq _ qaf,qfz (hidx top c htR hc),Int.toNat_natCast]
          obtain⟨k1,k2⟩:=qet (A:=B) htR hc hRW
          refine qan k1 (qab k2 (qan (by simp;omega) (qaa hinvR ?_)))
          generalize Int.tmod (w64 (det2*B top c)) p=D at h' ⊢
          -- the loop that scales the row
          let N:Nat→Ent:=fun n i j=>if i=top∧j<n then elN p c top B j else B i j
          have hN0:qaq (N 0) W R=qaq B W R:=qaD fun i j _ _=>by simp[N]
          have hNW:qaq (N W) W R=qaq (elM p c top B) W R:=qaD fun i j _ hj=>by
            simp only[N,elM,hj,and_true]
          rw[← hN0]
          refine Ev.start (p:=fun φ n=>Z122.l7 (mkR (run E (φ 0))) (φ 0) (φ 1) n M p (W:Int) D (top:Int) (c:Int) (qgU (B top c) p) 0 0 0 0 p (R:Int) (W:Int) (pvL pv) (qaq (N 0) W R)=_) 2 ?_ (fun _ _ _ h=>h)
          refine qao 2 (L:=fun φ n j o=>Z122.l7 (mkR (run E (φ 0))) (φ 0) (φ 1) n M p (W:Int) D (top:Int) (c:Int) (qgU (B top c) p) j 0 0 0 p (R:Int) (W:Int) (pvL pv) o) (len:=W) (fun j=>qaq (N j) W R) (fun _ _ _ _ _=>rfl) (fun j r hj ih2=>?_) ?_
          · simp only[Z122.l7_succ _ qaf,qfz (hidx top j htR hj),Int.toNat_natCast]
            obtain⟨k1,k2⟩:=qet (A:=N j) htR hj hRW
            have hNj:N j top j=B top j:=by simp[N]
            rw[hNj] at k2
            have hb:=hsw top j htR hj
            have ev:=qpV (x:=B top j) (y:=qgU (B top c) p) (p:=p) (by omega) (by omega) hp
            have hset:(qaq (N j) W R).set (top*W+j) (B top j*qgU (B top c) p%p)=qaq (N (j+1)) W R:=by
              rw[qcO htR hj]
              refine qaD fun k l _ _=>?_
              simp only[N]
              by_cases h1:k=top
              · subst h1
                by_cases h2:l=j
                · subst h2;simp[elN]
                · simp only[true_and,h2,if_false,and_false]
                  by_cases h3:l<j
                  · rw[if_pos h3,if_pos (by omega)]
                  · rw[if_neg h3,if_neg (by omega)]
              · simp[h1]
            refine qax (decide_eq_true (by omega)) (qan k1 (qab k2 (qan (by simp;omega) (qan k1 ?_))))
            simp only[ev]
            rw[qae (by omega),hset];exact ih2
          · simp only[Z122.l7_succ _ qaf]
            refine qaB (decide_eq_false (by omega)) ?_
            rw[hNW]
            -- the loop over the rows
            let K:Nat→Ent:=fun n i j=>if i<n then elF p c top B i j else elM p c top B i j
            have hK0:qaq (K 0) W R=qaq (elM p c top B) W R:=qaD fun i j _ _=>by simp[K]
            have hKR:qaq (K R) W R=qaq (elF p c top B) W R:=qaD fun i j hi _=>by simp[K,hi]
            rw[← hK0]
            refine Ev.start (p:=fun φ n=>Z122.l8 (mkR (run E (φ 0))) (φ 0) (φ 1) n M p (W:Int) D (top:Int) (c:Int) 0 0 0 0 p (R:Int) (W:Int) (pvL pv) (qaq (K 0) W R)=_) 3 ?_ (fun _ _ _ h=>h)
            refine qao 3 (L:=fun φ n i o=>Z122.l8 (mkR (run E (φ 0))) (φ 0) (φ 1) n M p (W:Int) D (top:Int) (c:Int) i 0 0 0 p (R:Int) (W:Int) (pvL pv) o) (len:=R) (fun i=>qaq (K i) W R) (fun _ _ _ _ _=>rfl) (fun i r hi ih2=>?_) ?_
            · simp only[Z122.l8_succ _ qaf,M2,qfz (hidx i c hi hc),Int.toNat_natCast]
              obtain⟨k1,k2⟩:=qet (A:=K i) hi hc hRW
              refine qax (decide_eq_true (by omega)) (qan k1 (qab k2 ?_))
              by_cases hit:i=top
              · subst hit
                refine qax (by simp) ?_
                simp only[Z122.j9_eq _ qaf,cond_true]
                have hsame:qaq (K (i+1)) W R=qaq (K i) W R:=qaD fun k j _ _=>by
                  simp only[K]
                  by_cases h1:k=i
                  · subst h1;simp[elF,elM]
                  · by_cases h2:k<i
                    · rw[if_pos (by omega),if_pos h2]
                    · rw[if_neg (by omega),if_neg h2]
                rw[hsame] at ih2
                rw[qae (by omega)];exact ih2
              · have hM:∀ j,K i i j=B i j:=fun j=>by simp[K,elM,hit]
                rw[hM]
                have hBi:=hsw i c hi hc
                refine qaB (by simp;omega) ?_
                by_cases hz:B i c=0
                · simp only[hz,beq_self_eq_true,Z122.j9_eq _ qaf,cond_true]
                  have hsame:qaq (K (i+1)) W R=qaq (K i) W R:=qaD fun k j _ _=>by
                    simp only[K]
                    by_cases h1:k=i
                    · subst h1;simp[elF,elM,hit,hz]
                    · by_cases h2:k<i
                      · rw[if_pos (by omega),if_pos h2]
                      · rw[if_neg (by omega),if_neg h2]
                  rw[hsame] at ih2
                  rw[qae (by omega)];exact ih2
                · have hne:(B i c==0)=false:=by simpa using hz
                  simp only[hne,Z122.j9_eq _ qaf,cond_false]
                  let Q:Nat→Ent:=fun n k j=>if k=i∧j<n then elF p c top B i j else K i k j
                  have hQ0:qaq (Q 0) W R=qaq (K i) W R:=qaD fun k j _ _=>by simp[Q]
                  have hQW:qaq (Q W) W R=qaq (K (i+1)) W R:=qaD fun k j _ hj=>by
                    simp only[Q,K,hj,and_true]
                    by_cases h1:k=i
                    · subst h1;simp
                    · by_cases h2:k<i
                      · rw[if_neg h1,if_pos h2,if_pos (by omega)]
                      · rw[if_neg h1,if_neg h2,if_neg (by omega)]
                  rw[← hQ0]
                  refine Ev.start (p:=fun φ n=>Z122.l10 (mkR (run E (φ 0))) (φ 0) (φ 1) (φ 3) n M p (W:Int) D (top:Int) (c:Int) (i:Int) (B i c) 0 0 0 0 p (R:Int) (W:Int) (pvL pv) (qaq (Q 0) W R)=_) 4 ?_ (fun _ _ _ h=>h)
                  refine qao 4 (L:=fun φ n j o=>Z122.l10 (mkR (run E (φ 0))) (φ 0) (φ 1) (φ 3) n M p (W:Int) D (top:Int) (c:Int) (i:Int) (B i c) j 0 0 0 p (R:Int) (W:Int) (pvL pv) o) (len:=W) (fun j=>qaq (Q j) W R) (fun _ _ _ _ _=>rfl) (fun j r2 hj ih3=>?_) ?_
                  · simp only[Z122.l10_succ _ qaf,qfz (hidx i j hi hj),qfz (hidx top j htR hj),Int.toNat_natCast]
                    obtain⟨k1,k2⟩:=qet (A:=Q j) hi hj hRW
                    obtain⟨k3,k4⟩:=qet (A:=Q j) htR hj hRW
                    have q1:Q j i j=B i j:=by simp only[Q,Nat.lt_irrefl,and_false,if_false];exact hM j
                    have q2:Q j top j=elN p c top B j:=by
                      have:¬ top=i:=fun e=>hit e.symm
                      simp[Q,K,this,elF,elM]
                    rw[q1] at k2
                    rw[q2] at k4
                    have hbij:=hsw i j hi hj
                    have hnj:=hNin j
                    have hm:=qeC (x:=B i c) (y:=elN p c top B j) (by omega) (by omega)
                    have e1:w64 (B i c*elN p c top B j)=B i c*elN p c top B j:=qag (by omega) (by omega)
                    have e2:w64 (B i j-B i c*elN p c top B j)=B i j-B i c*elN p c top B j:=qag (by omega) (by omega)
                    have e3:qqS (B i j-B i c*elN p c top B j) p=elF p c top B i j:=by
                      rw[qma hp (by omega)]
                      unfold elF
                      rw[if_neg hit,if_pos hz]
                      have:B i j+(p-B i c)*elN p c top B j=B i j-B i c*elN p c top B j+p*elN p c top B j:=by rw[Int.sub_mul];omega
                      rw[this,Int.add_mul_emod_self_left]
                    have hmod:=qiO (B i j-B i c*elN p c top B j) p hp.1
                    rw[e3] at hmod
                    have hset:(qaq (Q j) W R).set (i*W+j) (elF p c top B i j)=qaq (Q (j+1)) W R:=by
                      rw[qcO hi hj]
                      refine qaD fun k l _ _=>?_
                      simp only[Q]
                      by_cases h1:k=i
                      · subst h1
                        by_cases h2:l=j
                        · subst h2;simp
                        · simp only[true_and,h2,if_false,and_false]
                          by_cases h3:l<j
                          · rw[if_pos h3,if_pos (by omega)]
                          · rw[if_neg h3,if_neg (by omega)]
                      · simp[h1]
                    refine qax (decide_eq_true (by omega)) (qan k1 (qab k2 (qan k3 (qab k4 ?_))))
                    simp only[e1,e2]
                    refine qaa hmod (qan k1 ?_)
                    rw[qae (by omega)]
                    rw[← hset] at ih3
                    exact ih3
                  · simp only[Z122.l10_succ _ qaf]
                    refine qaB (decide_eq_false (by omega)) ?_
                    rw[qae (by omega),hQW];exact ih2
            · simp only[Z122.l8_succ _ qaf,M2]
              refine qaB (decide_eq_false (by omega)) (qan (by simp only[qa8,List.length_cons,List.length_nil,decide_eq_true_eq];omega) ?_)
              rw[qae (by omega),qae (by omega),hKR]
              exact h'
        have hidx:∀ i j,i<R→j<W→i*W+j≤4611686018427387904:=fun i j hi hj=>by have:=qeO hi hj;omega
        -- the search for the row
        have search:∀ rs:Nat→Option Dv,∀ rn:Option Dv,(∀ q,top≤q→q<R→B0 q c≠0→(∀ i,top≤i→i<q→¬ B0 i c≠0)→Ev fun φ=>Z122.j4 (mkR (run E (φ 0))) (φ 0) (φ 1) (φ 2) M p (W:Int) det (top:Int) (c:Int) (q:Int) false 0 0 0 p (R:Int) (W:Int) (pvL pv) (qaq B0 W R)=rs q) →
            ((∀ i,top≤i→i<R→¬ B0 i c≠0)→Ev fun φ=>Z122.j4 (mkR (run E (φ 0))) (φ 0) (φ 1) (φ 2) M p (W:Int) det (top:Int) (c:Int) (R:Int) false 0 0 0 p (R:Int) (W:Int) (pvL pv) (qaq B0 W R)=rn) →
            Ev fun φ=>Z122.l3 (mkR (run E (φ 0))) (φ 0) (φ 1) (φ 0) M p (W:Int) det (top:Int) (c:Int) (top:Int) 0 0 0 p (R:Int) (W:Int) (pvL pv) (qaq B0 W R)=orN rs rn (qaP (fun i=>B0 i c≠0) top (R-top)):=fun rs rn hs hn=>by
          refine Ev.start (p:=fun φ n=>Z122.l3 (mkR (run E (φ 0))) (φ 0) (φ 1) n M p (W:Int) det (top:Int) (c:Int) (top:Int) 0 0 0 p (R:Int) (W:Int) (pvL pv) (qaq B0 W R)=_) 2 ?_ (fun _ _ _ h=>h)
          -- the first one is kept in mind by the number of the round
          have go:∀ d a,top≤a→a+d=R→(∀ i,top≤i→i<a→¬ B0 i c≠0)→Ev fun φ=>Z122.l3 (mkR (run E (φ 0))) (φ 0) (φ 1) (φ 2) M p (W:Int) det (top:Int) (c:Int) (a:Int) 0 0 0 p (R:Int) (W:Int) (pvL pv) (qaq B0 W R)=orN rs rn (qaP (fun i=>B0 i c≠0) a d):=by
            intro d
            induction d with
            | zero =>
              intro a ha hk hno
              obtain rfl:a=R:=by omega
              refine Ev.round 2 (L:=fun φ n=>Z122.l3 (mkR (run E (φ 0))) (φ 0) (φ 1) n M p (W:Int) det (top:Int) (c:Int) (a:Int) 0 0 0 p (a:Int) (W:Int) (pvL pv) (qaq B0 W a)) ?_ (fun _ _ _=>rfl)
              simp only[Z122.l3_succ _ qaf,M2]
              exact qaB (decide_eq_false (by omega)) (hn hno)
            | succ d ih3 =>
              intro a ha hk hno
              have haR:a<R:=by omega
              refine Ev.round 2 (L:=fun φ n=>Z122.l3 (mkR (run E (φ 0))) (φ 0) (φ 1) n M p (W:Int) det (top:Int) (c:Int) (a:Int) 0 0 0 p (R:Int) (W:Int) (pvL pv) (qaq B0 W R)) ?_ (fun _ _ _=>rfl)
              simp only[Z122.l3_succ _ qaf,M2,qfz (hidx a c haR hc),Int.toNat_natCast]
              obtain⟨k1,k2⟩:=qet (A:=B0) haR hc hRW
              refine qax (decide_eq_true (by omega)) (qan k1 (qab k2 ?_))
              rw[qaP]
              by_cases hz:B0 a c=0
              · rw[if_neg (by simpa using hz)]
                simp only[hz,beq_self_eq_true,Z122.j4_eq _ qaf,cond_true]
                rw[qae (by omega)]
                refine ih3 (a+1) (by omega) (by omega) fun i h1 h2=>?_
                by_cases e:i=a
                · subst e;simpa using hz
                · exact hno i h1 (by omega)
              · rw[if_pos hz]
                have hne:(B0 a c==0)=false:=by simpa using hz
                simp only[hne]
                exact hs a ha haR hz hno
          exact go (R-top) top (Nat.le_refl _) (by omega) fun i h1 h2=>by omega
        have enter:∀ r,(Ev fun φ=>Z122.l3 (mkR (run E (φ 0))) (φ 0) (φ 1) (φ 0) M p (W:Int) det (top:Int) (c:Int) (top:Int) 0 0 0 p (R:Int) (W:Int) (pvL pv) (qaq B0 W R)=r)→Ev fun φ=>Z122.l1 (mkR (run E (φ 0))) (φ 0) (φ 1) M p (W:Int) det (top:Int) (c:Int) 0 0 0 p (R:Int) (W:Int) (pvL pv) (qaq B0 W R)=r:=fun r hr=>by
          refine Ev.round 1 (L:=fun φ n=>Z122.l1 (mkR (run E (φ 0))) (φ 0) n M p (W:Int) det (top:Int) (c:Int) 0 0 0 p (R:Int) (W:Int) (pvL pv) (qaq B0 W R)) ?_ (fun _ _ _=>rfl)
          simp only[Z122.l1_succ _ qaf,M2,show decide ((top:Int)<(R:Int))=true from decide_eq_true (by omega),Z122.j2_eq _ qaf,cond_true]
          exact qax (decide_eq_true (by omega)) hr
        cases hf:qaP (fun i=>B0 i c≠0) top (R-top) with
        | none =>
          have e:elS p R A (c+1)=(B0,pv):=by rw[hstep,elP];simp only[ht,hf]
          obtain⟨det',h'⟩:=ih (c+1) det (by omega)
          rw[e] at h'
          simp only[ht] at h'
          refine⟨det',enter _ ?_⟩
          have:=search (fun _=>G det') (G det') (fun q h1 h2 h3 _=>absurd h3 (qcX hf q h1 (by omega))) fun _=>by
            simp only[Z122.j4_eq _ qaf,cond_false,M2]
            refine qax (by simp) ?_
            rw[qae (by omega)];exact h'
          rw[hf] at this
          exact this
        | some q =>
          have hq:=qay hf
          have hqR:q<R:=by omega
          have e:elS p R A (c+1)=(elF p c top (qcp top q B0),pv++[c]):=by rw[hstep,elP];simp only[ht,hf]
          by_cases hqt:q=top
          · subst hqt
            obtain⟨det',h'⟩:=back q (Nat.le_refl _) hqR hq.2.2 e det
            have hself:qaq (qcp q q B0) W R=qaq B0 W R:=qaD fun i j _ _=>by
              unfold qcp
              by_cases h:i=q
              · subst h;simp
              · simp[h]
            rw[hself] at h'
            refine⟨det',enter _ ?_⟩
            have:=search (fun _=>G det') (G det') (fun q' h1 h2 h3 h4=>by
              obtain rfl:q'=q:=Classical.byContradiction fun hne=>h4 q (Nat.le_refl _) (by omega) hq.2.2
              simp only[Z122.j4_eq _ qaf,cond_false,M2]
              exact qaB (by simp;omega) (qaB (by simp) h')) fun hno=>absurd hq.2.2 (hno q (Nat.le_refl _) hqR)
            rw[hf] at this
            exact this
          · obtain⟨det',h'⟩:=back q hq.1 hqR hq.2.2 e (w64 (p-det))
            refine⟨det',enter _ ?_⟩
            have:=search (fun _=>G det') (G det') (fun q' h1 h2 h3 h4=>by
              obtain rfl:q'=q:=by
                rcases Nat.lt_trichotomy q' q with h | h | h
                · exact absurd h3 (qeE hf q' h1 h)
                · exact h
                · exact absurd hq.2.2 (h4 q hq.1 h)
              simp only[Z122.j4_eq _ qaf,cond_false,M2]
              refine qaB (by simp;omega) (qax (by simp;omega) ?_)
              -- the loop that exchanges the rows
              let X:Nat→Ent:=fun n i j=>if j<n then qcp top q' B0 i j else B0 i j
              have hX0:qaq (X 0) W R=qaq B0 W R:=qaD fun i j _ _=>by simp[X]
              have hXW:qaq (X W) W R=qaq (qcp top q' B0) W R:=qaD fun i j _ hj=>by simp[X,hj]
              rw[← hX0]
              refine Ev.start (p:=fun φ n=>Z122.l5 (mkR (run E (φ 0))) (φ 0) (φ 1) n M p (W:Int) (w64 (p-det)) (top:Int) (c:Int) (q':Int) 0 0 0 0 p (R:Int) (W:Int) (pvL pv) (qaq (X 0) W R)=_) 3 ?_ (fun _ _ _ h=>h)
              refine qao 3 (L:=fun φ n j o=>Z122.l5 (mkR (run E (φ 0))) (φ 0) (φ 1) n M p (W:Int) (w64 (p-det)) (top:Int) (c:Int) (q':Int) j 0 0 0 p (R:Int) (W:Int) (pvL pv) o) (len:=W) (fun j=>qaq (X j) W R) (fun _ _ _ _ _=>rfl) (fun j r hj ih3=>?_) ?_
              · simp only[Z122.l5_succ _ qaf,qfz (hidx q' j hqR hj),qfz (hidx top j htR hj),Int.toNat_natCast,List.length_set]
                obtain⟨k1,k2⟩:=qet (A:=X j) hqR hj hRW
                obtain⟨k3,k4⟩:=qet (A:=X j) htR hj hRW
                have x1:X j q' j=B0 q' j:=by simp[X]
                have x2:X j top j=B0 top j:=by simp[X]
                rw[x1] at k2
                rw[x2] at k4
                have hset:((qaq (X j) W R).set (q'*W+j) (B0 top j)).set (top*W+j) (B0 q' j)=qaq (X (j+1)) W R:=by
                  rw[qcO hqR hj,qcO htR hj]
                  refine qaD fun k l _ _=>?_
                  simp only[X]
                  by_cases hl:l=j
                  · subst hl
                    by_cases hk1:k=top
                    · subst hk1;simp[qcp]
                    · by_cases hk2:k=q'
                      · subst hk2;simp[qcp,hk1]
                      · simp[qcp,hk1,hk2]
                  · simp only[hl,and_false,if_false]
                    by_cases h3:l<j
                    · rw[if_pos h3,if_pos (by omega)]
                    · rw[if_neg h3,if_neg (by omega)]
                refine qax (decide_eq_true (by omega)) (qan k1 (qab k2 (qan k3 (qab k4 (qan k1 (qan k3 ?_))))))
                rw[qae (by omega),hset];exact ih3
              · simp only[Z122.l5_succ _ qaf]
                refine qaB (decide_eq_false (by omega)) ?_
                rw[hXW];exact h') fun hno=>absurd hq.2.2 (hno q hq.1 hqR)
            rw[hf] at this
            exact this
  obtain⟨det',h⟩:=key W 0 1 (by omega)
  refine⟨det',qak ?_⟩
  have h0:qaq (elS p R A 0).1 W R=cells:=hfl
  rw[h0] at h
  simp only[run_Z122,Z122.ev,Z122.j0_eq _ qaf,M1,M2,M3,M4]
  have own:=qcL cells (by omega)
  have st:=Ev.start (p:=fun φ n=>Z122.l1 (mkR (run E (φ 0))) (φ 0) n M p (W:Int) 1 0 0 0 0 0 p (R:Int) (W:Int) [] cells=G det') 1 h (fun _ _ _ h=>h)
  exact qcB (qaa own st) (qaa own st)
end VeT
open Go Go.Proofs Ve
namespace VeT
theorem qlv{cells:Sim}{R C i:Nat}(hl:cells.length=R*C)(hi:i<R):(cells.take ((i+1)*C)).drop (i*C)=(List.range C).map (qbL cells C i):=by
 have h:=qkQ (f:=qbL cells C) (C:=C) hi
 rw[qen hl] at h
 exact h
theorem qhP(p:Int)(R C:Nat)(cells:Sim)(hl:cells.length=R*C)(hR:R≤1048576)(hC:C≤1048576)(hRC:R*C≤1048576):Ret E n_Z56 [dI p,dI (R:Int),dI (C:Int),dL cells] ⟨o_Z56,(qaE (qbL cells C) R C,())⟩:=by
 refine qak ?_
 simp only[run_Z56,Z56.ev]
 refine Ev.start (p:=fun φ n=>Z56.l0 (mkR (run E (φ 0))) (φ 0) n (R:Int) 0 p (R:Int) (C:Int) cells []=_) 1 ?_ (fun _ _ _ h=>h)
 refine qao 1 (L:=fun φ n k a=>Z56.l0 (mkR (run E (φ 0))) (φ 0) n (R:Int) k p (R:Int) (C:Int) cells a) (len:=R) (fun k=>qaE (qbL cells C) k C) (fun _ _ _ _ _=>rfl) (fun k r hk ih=>?_) ?_
 ·simp only[Z56.l0_succ _ qaf]
  have hle:(k+1)*C≤R*C:=Nat.mul_le_mul_right _ hk
  have e:qaE (qbL cells C) (k+1) C=qaE (qbL cells C) k C++[(List.range C).map (qbL cells C k)]:=by
   unfold qaE;rw[List.range_succ,List.map_append];rfl
  rw[e,← qlv hl hk] at ih
  refine qax (decide_eq_true (by omega)) (qaa (qe5 p _ C cells k (by omega) (by omega) (by omega)) (qaa (qkz _ (by rw[List.length_drop,List.length_take];omega)) (qan (by simp[qaO];omega) ?_)))
  rw[qae (by omega)];exact ih
 ·simp only[Z56.l0_succ _ qaf]
  exact qaB (decide_eq_false (by omega)) qam
theorem qkL(p n:Int)(rows:List Sim)(h1:rows.length≤1048576)(h2:rows.flatten.length≤1048576):Ret E n_Z47 [dI p,dI n,dLL rows] ⟨o_Z47,(p,(rows.length:Int),n,rows.flatten,())⟩:=by
 refine qak ?_
 simp only[run_Z47,Z47.ev]
 exact qaa (qhV rows) (qaa (qjb rows h1 h2) qam)
theorem qkS{rows:List Sim}{k:Nat}(hk:k<rows.length):(rows.take (k+1)).flatten=(rows.take k).flatten++rows[k]:=by
 rw[List.take_succ_eq_append_getElem hk,List.flatten_append];simp
theorem qhe{rows:List Sim}{k:Nat}:(rows.take k).flatten.length≤rows.flatten.length:=by
 conv=>rhs;rw[← List.take_append_drop k rows,List.flatten_append,List.length_append]
 omega
theorem qlW(p n:Int)(rows:List Sim)(h1:rows.length≤1048576)(h2:rows.flatten.length≤1048576):Ret E n_Z127 [dI p,dI n,dLL rows] ⟨o_Z127,(p,(rows.length:Int),n,rows.flatten,())⟩:=by
 refine qak ?_
 simp only[run_Z127,Z127.ev]
 refine Ev.start (p:=fun φ q=>Z127.l0 (mkR (run E (φ 0))) (φ 0) q rows 0 0 0 0 p (rows.length:Int) n []=_) 1 ?_ (fun _ _ _ h=>h)
 refine qao 1 (L:=fun φ q k o=>Z127.l0 (mkR (run E (φ 0))) (φ 0) q rows k 0 0 0 p (rows.length:Int) n o) (len:=rows.length) (fun k=>(rows.take k).flatten) (fun _ _ _ _ _=>rfl) (fun k r hk ih=>?_) ?_
 ·simp only[Z127.l0_succ _ qaf]
  have hle:=qhe (rows:=rows) (k:=k+1)
  rw[qkS hk] at ih hle
  rw[List.length_append] at hle
  refine qax (decide_eq_true (by omega)) (qab (qai hk) (qan (decide_eq_true (by omega)) ?_))
  rw[qae (by omega)];exact ih
 ·simp only[Z127.l0_succ _ qaf]
  refine qaB (decide_eq_false (by omega)) (qaj ?_)
  rw[List.take_of_length_le (Nat.le_refl _)]
def qrl(p:Int)(pv:List Nat)(F:Ent)(c n:Nat):St:=(List.range n).map fun i=>(pv.getD i 0,(0-F i c)%p)
def qjD(p:Int)(W:Nat)(pv:List Nat)(F:Ent)(c n:Nat):Sim:=qkc (qrl p pv F c n) ((List.replicate W 0).set c 1)
open Classical in
noncomputable def qf0(p:Int)(W:Nat)(pv:List Nat)(F:Ent):Nat→List Sim
 | 0=>[]
 | c+1=>qf0 p W pv F c++if c∈pv then [] else [qjD p W pv F c pv.length]
theorem qdC{p:Int}{W:Nat}{pv:List Nat}{F:Ent}{c n:Nat}:qjD p W pv F c (n+1)=(qjD p W pv F c n).set (pv.getD n 0) ((0-F n c)%p):=by
 unfold qjD qrl
 rw[List.range_succ,List.map_append,qh1];rfl
theorem qbG{p:Int}{W:Nat}{pv:List Nat}{F:Ent}{c n:Nat}:(qjD p W pv F c n).length=W:=by
 unfold qjD;rw[qdW,List.length_set,List.length_replicate]
theorem qdV{p:Int}{W:Nat}{pv:List Nat}{F:Ent}:∀ {n:Nat},(qf0 p W pv F n).length≤n
 | 0=>by simp[qf0]
 | n+1=>by
  have:=qdV (p:=p) (W:=W) (pv:=pv) (F:=F) (n:=n)
  rw[qf0,List.length_append];split<;>simp<;>omega
theorem qg8{p:Int}{W:Nat}{pv:List Nat}{F:Ent}(hp:2≤p):∀ {n:Nat} {x:Sim},x∈qf0 p W pv F n→x.length=W∧qaI x p
 | 0,x,h=>by simp[qf0] at h
 | n+1,x,h=>by
  rw[qf0,List.mem_append] at h
  rcases h with h | h
  ·exact qg8 hp h
  ·split at h
   ·simp at h
   ·rw[List.mem_singleton] at h
    subst h
    refine⟨qbG,qge (fun y hy=>?_) fun q hq=>?_⟩
    ·rcases List.mem_or_eq_of_mem_set hy with hy | rfl
     ·rw[List.mem_replicate] at hy;omega
     ·omega
    ·obtain⟨i,_,rfl⟩:=List.mem_map.1 hq
     exact qdh hp
theorem qjv{l:List Nat}{c:Nat}:(c:Int)∈pvL l↔c∈l:=by
  unfold pvL
  rw[List.mem_map]
  exact ⟨fun ⟨a, h, e⟩ => by obtain rfl : a = c := by omega
                             exact h,fun h=>⟨c,h,rfl⟩⟩
theorem qn8{l:List Nat}{i:Nat}(hi:i<l.length):(pvL l)[i]? = some ((l.getD i 0:Nat):Int):=by
 unfold pvL
 rw[List.getElem?_map,List.getElem?_eq_getElem hi,qad hi];rfl
theorem qfW{l:List Nat}{i:Nat}(hi:i<l.length):l.getD i 0∈l:=by
 rw[qad hi];exact List.getElem_mem hi
noncomputable def qiF(p:Int)(R W:Nat)(cells:Sim):List Sim:=qf0 p W (elS p R (qbL cells W) W).2 (elS p R (qbL cells W) W).1 W
theorem qnq(p:Int)(R W:Nat)(cells:Sim)(hp:2≤p∧p≤251)(hR:R≤1048576)(hW:W≤1048576)(hRW:R*W≤1048576)(hl:cells.length=R*W)(he:qaI cells p) :
  Ret E n_Z46 [dI p,dI (R:Int),dI (W:Int),dL cells] ⟨o_Z46,(qiF p R W cells,())⟩:=by
 have hA:=qcA he hl
 obtain⟨det,hel⟩:=qjL (qbL cells W) R W p hp hR hW hA
 obtain⟨hF,hpl,hpc,hpv⟩:=qgF hp.1 hA W
 refine qak ?_
 simp only[run_Z46,Z46.ev]
 refine qaa (qhP p R W cells hl hR hW hRW) (qaa hel ?_)
 unfold qiF
 generalize elS p R (qbL cells W) W=S at hF hpl hpc hpv
 obtain⟨F,pv⟩:=S
 simp only at hF hpl hpc hpv
 refine Ev.start (p:=fun φ n=>Z46.l0 (mkR (run E (φ 0))) (φ 0) n (pvL pv) (W:Int) 0 p (R:Int) (W:Int) cells [] (qaE F R W)=_) 1 ?_ (fun _ _ _ h=>h)
 refine qao 1 (L:=fun φ n c o=>Z46.l0 (mkR (run E (φ 0))) (φ 0) n (pvL pv) (W:Int) c p (R:Int) (W:Int) cells o (qaE F R W)) (len:=W) (fun c=>qf0 p W pv F c) (fun _ _ _ _ _=>rfl) (fun c r hc ih=>?_) ?_
 ·simp only[Z46.l0_succ _ qaf,Int.toNat_natCast,List.length_replicate]
  rw[qf0] at ih
  refine qax (decide_eq_true (by omega)) (qaa (qeo (pvL pv) (c:Int) (by rw[qa8];omega)) (qb7 (fun h=>?_) fun h=>?_))
  ·rw[if_pos (qjv.1 (qaC.1 h)),List.append_nil] at ih
   rw[qae (by omega)];exact ih
  ·rw[if_neg (mt qjv.2 (qa1.1 h))] at ih
   refine qan (by simp only[Bool.and_eq_true,decide_eq_true_eq];omega) (qan (by simp only[Bool.and_eq_true,decide_eq_true_eq];omega) ?_)
   have hkl:=qdV (p:=p) (W:=W) (pv:=pv) (F:=F) (n:=c)
   generalize qf0 p W pv F c=K at ih hkl ⊢
   refine Ev.start (p:=fun φ n=>Z46.l1 (mkR (run E (φ 0))) (φ 0) (φ 1) n (pvL pv) (c:Int) (W:Int) (c:Int) (pvL pv) ((pvL pv).length:Int) 0 p (R:Int) (W:Int) cells ((List.replicate W 0).set c 1) K (qaE F R W)=_) 2 ?_ (fun _ _ _ h=>h)
   refine qao 2 (L:=fun φ n i x=>Z46.l1 (mkR (run E (φ 0))) (φ 0) (φ 1) n (pvL pv) (c:Int) (W:Int) (c:Int) (pvL pv) ((pvL pv).length:Int) i p (R:Int) (W:Int) cells x K (qaE F R W)) (len:=pv.length) (fun i=>qjD p W pv F c i) (fun _ _ _ _ _=>rfl) (fun i q hi ih2=>?_) ?_
   ·simp only[Z46.l1_succ _ qaf,qa8,qaO,Int.toNat_natCast,qbG]
    have hiR:i<R:=by omega
    have hFi:=hF i c hiR hc
    have hpi:=hpv _ (qfW hi)
    have e0:w64 (0-F i c)=0-F i c:=qag (by omega) (by omega)
    have hred:=qi2 (0-F i c) p hp.1
    rw[qma hp (by omega)] at hred
    rw[qdC] at ih2
    simp only[qa8] at ih2
    refine qax (decide_eq_true (by omega)) (qab (qaZ.trans (qn8 hi)) (qan (by simp only[Bool.and_eq_true,decide_eq_true_eq];omega) (qab (qbH hiR) (qab (qaZ.trans (qgo hc)) ?_))))
    simp only[e0,Int.toNat_natCast]
    refine qaa hred (qan (by simp only[Bool.and_eq_true,decide_eq_true_eq];omega) ?_)
    rw[qae (by omega)];exact ih2
   ·simp only[Z46.l1_succ _ qaf,qa8]
    refine qaB (decide_eq_false (by omega)) (qan (by simp only[List.length_cons,List.length_nil,decide_eq_true_eq];omega) ?_)
    rw[qae (by omega)];exact ih
 ·simp only[Z46.l0_succ _ qaf]
  exact qaB (decide_eq_false (by omega)) qam
theorem qjC(p:Int)(R W:Nat)(cells:Sim)(hp:2≤p∧p≤251)(hR:R≤1048576)(hW:W≤1048576)(hRW:R*W≤1048576)(hl:cells.length=R*W)(he:qaI cells p) :
  Ret E n_Z118 [dM (p,(R:Int),(W:Int),cells,())] ⟨o_Z118,(qiF p R W cells,())⟩:=by
 have hA:=qcA he hl
 obtain⟨det,hel⟩:=qdj p R W cells hp hR hW hRW hl he
 obtain⟨hF,hpl,hpc,hpv⟩:=qgF hp.1 hA W
 refine qak ?_
 simp only[run_Z118,Z118.ev]
 refine qaa hel ?_
 unfold qiF
 generalize elS p R (qbL cells W) W=S at hF hpl hpc hpv
 obtain⟨F,pv⟩:=S
 simp only at hF hpl hpc hpv
 generalize hMt:(p,(R:Int),(W:Int),cells,())=M
 have M1:M.1=p:=by rw[← hMt]
 have M3:M.2.2.1=(W:Int):=by rw[← hMt]
 refine Ev.start (p:=fun φ n=>Z118.l0 (mkR (run E (φ 0))) (φ 0) n M (pvL pv) 0 p (R:Int) (W:Int) (qaq F W R) []=_) 1 ?_ (fun _ _ _ h=>h)
 refine qao 1 (L:=fun φ n c o=>Z118.l0 (mkR (run E (φ 0))) (φ 0) n M (pvL pv) c p (R:Int) (W:Int) (qaq F W R) o) (len:=W) (fun c=>qf0 p W pv F c) (fun _ _ _ _ _=>rfl) (fun c r hc ih=>?_) ?_
 ·simp only[Z118.l0_succ _ qaf,M3,Int.toNat_natCast,List.length_replicate]
  rw[qf0] at ih
  refine qax (decide_eq_true (by omega)) (qaa (qeN (pvL pv) (c:Int) (by rw[qa8];omega)) (qb7 (fun h=>?_) fun h=>?_))
  ·rw[if_pos (qjv.1 (qaC.1 h)),List.append_nil] at ih
   rw[qae (by omega)];exact ih
  ·rw[if_neg (mt qjv.2 (qa1.1 h))] at ih
   refine qan (by simp only[Bool.and_eq_true,decide_eq_true_eq];omega) (qan (by simp only[Bool.and_eq_true,decide_eq_true_eq];omega) ?_)
   have hkl:=qdV (p:=p) (W:=W) (pv:=pv) (F:=F) (n:=c)
   generalize qf0 p W pv F c=K at ih hkl ⊢
   refine Ev.start (p:=fun φ n=>Z118.l1 (mkR (run E (φ 0))) (φ 0) (φ 1) n M (pvL pv) (c:Int) 0 p (R:Int) (W:Int) (qaq F W R) K ((List.replicate W 0).set c 1)=_) 2 ?_ (fun _ _ _ h=>h)
   refine qao 2 (L:=fun φ n i x=>Z118.l1 (mkR (run E (φ 0))) (φ 0) (φ 1) n M (pvL pv) (c:Int) i p (R:Int) (W:Int) (qaq F W R) K x) (len:=pv.length) (fun i=>qjD p W pv F c i) (fun _ _ _ _ _=>rfl) (fun i q hi ih2=>?_) ?_
   ·have hiR:i<R:=by omega
    have hlt:=qeO hiR hc
    simp only[Z118.l1_succ _ qaf,qa8,M1,M3,qfz (show i*W+c≤4611686018427387904 by omega),qbG]
    have hFi:=hF i c hiR hc
    have hpi:=hpv _ (qfW hi)
    have e0:w64 (0-F i c)=0-F i c:=qag (by omega) (by omega)
    have hred:=qiO (0-F i c) p hp.1
    rw[qma hp (by omega)] at hred
    rw[qdC] at ih2
    refine qax (decide_eq_true (by omega)) (qab (qaZ.trans (qn8 hi)) (qab (qaZ.trans (qbu hiR hc)) ?_))
    simp only[e0,Int.toNat_natCast]
    refine qaa hred (qan (by simp only[Bool.and_eq_true,decide_eq_true_eq];omega) ?_)
    rw[qae (by omega)];exact ih2
   ·simp only[Z118.l1_succ _ qaf,qa8]
    refine qaB (decide_eq_false (by omega)) (qan (by simp only[List.length_cons,List.length_nil,decide_eq_true_eq];omega) ?_)
    rw[qae (by omega)];exact ih
 ·simp only[Z118.l0_succ _ qaf,M3]
  exact qaB (decide_eq_false (by omega)) qam
def Rws(p:Int)(W:Nat)(rows:List Sim):Prop:=∀ x∈rows,x.length=W∧qaI x p
theorem Rws.flat{p:Int}{W:Nat}{rows:List Sim}(h:Rws p W rows):rows.flatten.length=rows.length*W∧qaI rows.flatten p:=by
 induction rows with
 | nil=>exact⟨by simp,fun x hx=>by simp at hx⟩
 | cons r rows ih =>
  obtain⟨h1,h2⟩:=ih fun x hx=>h x (List.mem_cons_of_mem _ hx)
  obtain⟨h3,h4⟩:=h r List.mem_cons_self
  refine⟨by rw[List.flatten_cons,List.length_append,h1,h3,List.length_cons,Nat.add_mul];omega,fun x hx=>?_⟩
  rw[List.flatten_cons,List.mem_append] at hx
  rcases hx with hx | hx
  ·exact h4 x hx
  ·exact h2 x hx
noncomputable def qp0(p:Int)(W:Nat)(rows:List Sim):List Sim:=qiF p rows.length W rows.flatten
theorem qkj(p:Int)(W:Nat)(rows:List Sim)(hp:2≤p∧p≤251)(hR:rows.length≤1048576)(hW:W≤1048576)(hRW:rows.length*W≤1048576)(hr:Rws p W rows) :
  Ret E n_Z164 [dI p,dI (W:Int),dLL rows] ⟨o_Z164,(qp0 p W rows,())⟩:=by
 obtain⟨h1,h2⟩:=hr.flat
 refine qak ?_
 simp only[run_Z164,Z164.ev]
 exact qaa (qlW p (W:Int) rows hR (by omega)) (qaa (qjC p rows.length W rows.flatten hp hR hW hRW h1 h2) qam)
theorem qlU(p:Int)(W:Nat)(rows:List Sim)(hp:2≤p∧p≤251)(hR:rows.length≤1048576)(hW:W≤1048576)(hRW:rows.length*W≤1048576)(hr:Rws p W rows) :
  Ret E n_Z46 [dI p,dI (rows.length:Int),dI (W:Int),dL rows.flatten] ⟨o_Z46,(qp0 p W rows,())⟩:=by
 obtain⟨h1,h2⟩:=hr.flat
 exact qnq p rows.length W rows.flatten hp hR hW hRW h1 h2
theorem qqr{p:Int}{R W:Nat}{cells:Sim}(hp:2≤p)(hW:W≤1048576):Sm (.sl (.sl (.int .i64))) (qiF p R W cells):=by
 have hl:=qdV (p:=p) (W:=W) (pv:=(elS p R (qbL cells W) W).2) (F:=(elS p R (qbL cells W) W).1) (n:=W)
 refine⟨by show(qiF p R W cells).length≤_;unfold qiF;omega,fun x hx=>⟨?_,fun _ _=>trivial⟩⟩
 have:=(qg8 hp hx).1
 omega
noncomputable def qqV(x:Shf)(k:Int):List Sim:=qiF x.2.1 (SD x.1 x.2.2.1 (k+1)).toNat (SD x.1 x.2.2.1 k).toNat (qqY x k).2.2.2.1
theorem qpr:Sm (.sl (.sl (.int .i64))) ([]:List Sim):=⟨by show([]:List Sim).length≤1048576;simp,fun x hx=>by simp at hx⟩
open Classical in
noncomputable def qa9(x:Shf):List Sim×Int×Unit:=if ISh x then(qqV x 0,0,()) else([],1,())
theorem qlI{x:Shf}{n:Nat}:qe7 x.1 x.2.1 x.2.2.1 x.2.2.2.1 n=qaE (qbL (qqY x 0).2.2.2.1 (SD x.1 x.2.2.1 0).toNat) n (SD x.1 x.2.2.1 0).toNat:=rfl
theorem qm3{x:Shf}(hs:VS x.1 x.2.1 x.2.2.1 x.2.2.2.1):(qe7 x.1 x.2.1 x.2.2.1 x.2.2.2.1 (SD x.1 x.2.2.1 1).toNat).flatten=(qqY x 0).2.2.2.1:=by
 rw[qlI,qbM,qen]
 exact qhj (c:=x.1) (p:=x.2.1) (st:=x.2.2.1) (ms:=x.2.2.2.1) (k:=0)
theorem qn2{x:Shf}(hs:VS x.1 x.2.1 x.2.2.1 x.2.2.2.1)(n:Nat):Rws x.2.1 (SD x.1 x.2.2.1 0).toNat (qe7 x.1 x.2.1 x.2.2.1 x.2.2.2.1 n):=fun r hr=>by
 unfold qe7 at hr
 obtain⟨i,_,rfl⟩:=List.mem_map.1 hr
 refine⟨qhw,fun y hy=>?_⟩
 unfold qod at hy
 obtain⟨g,_,rfl⟩:=List.mem_map.1 hy
 by_cases hg:i*(SD x.1 x.2.2.1 0).toNat+g<(qmY x.1 x.2.1 x.2.2.1 x.2.2.2.1 0).length
 ·rw[qad hg];exact qjj hs 0 _ (List.getElem_mem hg)
 ·rw[List.getD_eq_getElem?_getD,List.getElem?_eq_none (by omega)]
  have:=hs.2.1.1
  show 0≤(0:Int)∧(0:Int)≤_;omega
theorem qea(x:Shf)(hx:Sm (.st cS) x):Ret E n_Z96 [dLL x.1,dI x.2.1,dL x.2.2.1,dMs x.2.2.2.1] ⟨o_Z96,qa9 x⟩:=by
 refine qak ?_
 simp only[run_Z96,Z96.ev]
 refine qaa (qk8 x hx) (qb7 (fun h=>qaj ?_) fun h=>?_)
 ·rw[qa9,if_neg (qa1.1 (show pb (ISh x)=false by simpa using h))]
 ·have h:=qaC.1 (show pb (ISh x)=true by simpa using h)
  rw[qa9,if_pos h]
  obtain⟨W,eW,bW,tW⟩:=qmO h.1 0
  obtain⟨H,eH,bH,tH⟩:=qmO h.1 1
  have hp:2≤x.2.1∧x.2.1≤251:=⟨h.1.2.1.1,h.1.2.1.2.1⟩
  have hRC:=qdI bH bW
  have all:=qi8 x hx.1 h.1
  rw[eW] at all
  have hrw:=qn2 h.1 (SD x.1 x.2.2.1 1).toNat
  have hfl:=qm3 h.1
  have hcl:(qe7 x.1 x.2.1 x.2.2.1 x.2.2.2.1 (SD x.1 x.2.2.1 1).toNat).length=H:=by rw[qgA,tH]
  rw[tW] at hrw
  have hk:=qkj x.2.1 W _ hp (by rw[hcl];omega) (by omega) (by rw[hcl];omega) hrw
  have eK:qp0 x.2.1 W (qe7 x.1 x.2.1 x.2.2.1 x.2.2.2.1 (SD x.1 x.2.2.1 1).toNat)=qqV x 0:=by
   unfold qp0 qqV
   rw[hfl,hcl,tW,show SD x.1 x.2.2.1 (0+1)=SD x.1 x.2.2.1 1 from rfl,tH]
  rw[eK] at hk
  exact qaa all (qaa (qga x hx.1 h.1) (qaa hk qam))
end VeT
open Go Go.Proofs Ve
namespace VeT
def qrm(A:Ent)(b:Sim)(W:Nat):Ent:=fun i j=>if j=W then b.getD i 0 else A i j
theorem qqi{p:Int}{R W:Nat}{A:Ent}{b:Sim}(hA:EIn p R W A)(hb:qaI b p)(hl:b.length=R):EIn p R (W+1) (qrm A b W):=fun i j hi hj=>by
 unfold qrm
 split
 ·rw[qad (by omega)];exact hb _ (List.getElem_mem _)
 ·exact hA i j hi (by omega)
def qrx(cells b:Sim)(W R:Nat):Sim:=qaq (qrm (qbL cells W) b W) (W+1) R
theorem qbv{f:Ent}{W R i j:Nat}(hi:i<R)(hj:j<W):qbL (qaq f W R) W i j=f i j:=by
 unfold qbL
 rw[List.getD_eq_getElem?_getD,qbu hi hj];rfl
end VeT
open Go Go.Proofs Ve
namespace VeT
theorem qfR{c g h:Nat→Int}:∀ {n:Nat},qaJ c (fun i=>g i+h i) n=qaJ c g n+qaJ c h n
 | 0=>rfl
 | n+1=>by simp only[qaJ];rw[qfR,Int.mul_add];omega
theorem qgj{k:Int}{c g:Nat→Int}:∀ {n:Nat},qaJ c (fun i=>k*g i) n=k*qaJ c g n
 | 0=>by simp[qaJ]
 | n+1=>by simp only[qaJ];rw[qgj,Int.mul_add,← Int.mul_assoc,Int.mul_comm (c n) k,Int.mul_assoc]
theorem qeK{c:Nat→Int}:∀ {n:Nat},qaJ c (fun _=>0) n=0
 | 0=>rfl
 | n+1=>by simp only[qaJ];rw[qeK,Int.mul_zero];rfl
theorem qaU{c g:Nat→Int}:∀ {n:Nat},qaJ c g n=qaJ g c n
 | 0=>rfl
 | n+1=>by simp only[qaJ];rw[qaU,Int.mul_comm]
theorem qfJ{y c:Nat→Int}{A:Ent}{W:Nat}:∀ {R:Nat},qaJ y (fun j=>qaJ c (fun i=>A i j) R) W=qaJ c (fun i=>qaJ y (A i) W) R
 | 0=>qeK
 | R+1=>by
  simp only[qaJ]
  rw[qfR,qfJ,qgj]
theorem qce{p:Int}{c g h:Nat→Int}:∀ {n:Nat},(∀ i,i<n→g i%p=h i%p)→qaJ c g n%p=qaJ c h n%p
 | 0,_=>rfl
 | n+1,hgh=>by
  simp only[qaJ]
  rw[Int.add_emod,qce (n:=n) fun i hi=>hgh i (by omega),Int.mul_emod,hgh n (Nat.lt_succ_self n),← Int.mul_emod,← Int.add_emod]
theorem qaA{c d g h:Nat→Int}:∀ {n:Nat},(∀ i,i<n→c i=d i∧g i=h i)→qaJ c g n=qaJ d h n
 | 0,_=>rfl
 | n+1,e=>by simp only[qaJ];rw[qaA (n:=n) fun i hi=>e i (by omega),(e n (Nat.lt_succ_self n)).1,(e n (Nat.lt_succ_self n)).2]
theorem Spn.orth{p:Int}{R W:Nat}{A:Ent}{x y:Nat→Int}(hy:∀ i,i<R→qaJ y (A i) W%p=0)(hx:Spn p R W A x):qaJ y x W%p=0:=by
 obtain⟨c,hc⟩:=hx
 rw[← qce (p:=p) (c:=y) (g:=fun j=>qaJ c (fun i=>A i j) R) (h:=x) hc,qfJ,qce (p:=p) (h:=fun _=>0) fun i hi=>by rw[hy i hi,Int.zero_emod],qeK,Int.zero_emod]
theorem qmL{y g:Nat→Int}{q:Nat}{v:Int}:∀ {n:Nat},q<n→qaJ (fun j=>if j=q then v else y j) g n=qaJ y g n+(v-y q)*g q
 | n+1,h=>by
  simp only[qaJ]
  by_cases hq:q=n
  ·subst hq
   rw[if_pos rfl,qaA (d:=y) (h:=g) fun i hi=>⟨if_neg (by omega),rfl⟩,Int.sub_mul];omega
  ·rw[qmL (by omega),if_neg (by omega)];omega
theorem qcR{o:Sim}{q j:Nat}{v:Int}(hq:q<o.length):(o.set q v).getD j 0=if j=q then v else o.getD j 0:=by
 by_cases e:q=j
 ·subst e
  rw[if_pos rfl,qad (by rw[List.length_set];exact hq),List.getElem_set_self]
 ·rw[if_neg fun e2=>e e2.symm,List.getD_eq_getElem?_getD,List.getElem?_set_ne e,List.getD_eq_getElem?_getD]
end VeT
open Go Go.Proofs Ve
namespace VeT
theorem qkC{c g:Nat→Int}{t:Nat}:∀ {n:Nat},t≤n→(∀ i,t≤i→i<n→g i=0)→qaJ c g n=qaJ c g t
 | 0,h,_=>by rw[show t=0 by omega]
 | n+1,h,hz=>by
  by_cases ht:t=n+1
  ·rw[ht]
  ·simp only[qaJ]
   rw[qkC (n:=n) (by omega) fun i h1 h2=>hz i h1 (by omega),hz n (by omega) (Nat.lt_succ_self n),Int.mul_zero,Int.add_zero]
def qd3(rows:List Sim):Ent:=fun i j=>(rows.getD i []).getD j 0
theorem qm8{rows:List Sim}{W:Nat}(h:∀ x∈rows,x.length=W):qaE (qd3 rows) rows.length W=rows:=by
 apply List.ext_getElem
 ·rw[qaO]
 ·intro i h1 h2
  have e:=qbH (A:=qd3 rows) (W:=W) h2
  rw[List.getElem?_eq_getElem h1] at e
  rw[Option.some.inj e]
  apply List.ext_getElem
  ·rw[List.length_map,List.length_range];exact(h _ (List.getElem_mem h2)).symm
  ·intro j h3 h4
   rw[List.getElem_map,List.getElem_range]
   unfold qd3
   rw[qad h2,qad h4]
theorem qjs{p:Int}{rows:List Sim}{W:Nat}(h:Rws p W rows):EIn p rows.length W (qd3 rows):=fun i j hi hj=>by
 obtain⟨h1,h2⟩:=h _ (List.getElem_mem hi)
 unfold qd3
 rw[qad hi,qad (by omega)]
 exact h2 _ (List.getElem_mem _)
end VeT
open Go Go.Proofs Ve
namespace VeT
def InR(p:Int)(W:Nat)(rows:List Sim)(x:Sim):Prop:=Spn p rows.length W (qd3 rows) (fun j=>x.getD j 0)
end VeT
open Go Go.Proofs Ve
namespace VeT
theorem InR.mem{p:Int}{W:Nat}{rows:List Sim}{r:Sim}(h:r∈rows):InR p W rows r:=by
 obtain⟨i,hi,e⟩:=List.mem_iff_getElem.1 h
 have:qd3 rows i=fun j=>r.getD j 0:=by funext j;unfold qd3;rw[qad hi,e]
 unfold InR
 rw[← this]
 exact Spn.row hi
theorem InR.trans{p:Int}{W:Nat}{A B:List Sim}{y:Sim}(h:∀ r∈A,InR p W B r)(hy:InR p W A y):InR p W B y :=
 Spn.trans (fun i hi=>by
  have e:qd3 A i=fun j=>(A[i]).getD j 0:=by funext j;unfold qd3;rw[qad hi]
  rw[e]
  exact h _ (List.getElem_mem hi)) hy
def qqX(p:Int)(W:Nat)(A B:List Sim):Prop:=∀ y,InR p W A y↔InR p W B y
theorem qqX.refl{p:Int}{W:Nat}{A:List Sim}:qqX p W A A:=fun _=>Iff.rfl
end VeT
open Go Go.Proofs Ve
namespace VeT
def qrK(p:Int)(W:Nat)(cells:Sim)(h:List Sim):Prop:=(cells.length=W*h.length∧qaI cells p)∧∀ i j,i<W→j<h.length→qbL cells h.length i j=qd3 h j i
theorem qrK.next{p:Int}{W:Nat}{cells:Sim}{h:List Sim}{v:Sim}(hc:qrK p W cells h)(hv:qaI v p)(hl:v.length=W):qrK p W (qrx cells v h.length W) (h++[v]):=by
 have hlen:(h++[v]).length=h.length+1:=by simp
 have hA0:=qcA hc.1.2 hc.1.1
 have hA1:=qqi hA0 hv hl
 refine⟨⟨by rw[hlen];exact qas,fun x hx=>?_⟩,fun i j hi hj=>?_⟩
 ·unfold qrx at hx
  rw[← qbM] at hx
  obtain⟨row,hrow,hx⟩:=List.mem_flatten.1 hx
  obtain⟨i,hi,rfl⟩:=List.mem_map.1 hrow
  obtain⟨j,hj,rfl⟩:=List.mem_map.1 hx
  exact hA1 i j (List.mem_range.1 hi) (List.mem_range.1 hj)
 ·rw[hlen] at hj ⊢
  unfold qrx
  rw[qbv hi hj]
  unfold qrm qd3
  by_cases hjh:j<h.length
  ·rw[if_neg (by omega),hc.2 i j hi hjh,List.getD_eq_getElem?_getD (l:=h++[v]),List.getElem?_append_left hjh,← List.getD_eq_getElem?_getD];rfl
  ·obtain rfl:j=h.length:=by omega
   rw[if_pos rfl,List.getD_eq_getElem?_getD (l:=h++[v]),List.getElem?_append_right (Nat.le_refl _)];simp
end VeT
open Go Go.Proofs Ve
namespace VeT
theorem InR.left{p:Int}{W:Nat}{A B:List Sim}{x:Sim}(h:InR p W A x):InR p W (A++B) x:=InR.trans (fun r hr=>InR.mem (List.mem_append.2 (.inl hr))) h
end VeT
open Go Go.Proofs Ve
namespace VeT
theorem qog{p:Int}{W:Nat}{pv:List Nat}{F:Ent}:∀ {n c:Nat},c<n→c∉pv→qjD p W pv F c pv.length∈qf0 p W pv F n
 | n+1,c,h,hc=>by
  rw[qf0,List.mem_append]
  by_cases e:c=n
  ·subst e
   right;rw[if_neg hc];exact List.mem_singleton.2 rfl
  ·exact .inl (qog (by omega) hc)
theorem qon{p:Int}{R W c:Nat}{pv:List Nat}{F:Ent}(hrf:Rf R W F pv):∀ n,n≤pv.length→∀ i,i<n→(qjD p W pv F c n).getD (pv.getD i 0) 0=(0-F i c)%p
 | 0,_,i,hi=>by omega
 | n+1,hn,i,hi=>by
  have hq:=hrf.lt n (by omega)
  rw[qdC,qcR (by rw[qbG];exact hq)]
  by_cases e:i=n
  ·subst e;rw[if_pos rfl]
  ·have:=hrf.mono i n (by omega) (by omega)
   rw[if_neg (by omega)];exact qon hrf n (by omega) i (by omega)
theorem qev{p:Int}{R W c j:Nat}{pv:List Nat}{F:Ent}(hrf:Rf R W F pv)(hj:j<W)(hjp:j∉pv)(hc:c<W):∀ n,n≤pv.length→(qjD p W pv F c n).getD j 0=if j=c then 1 else 0
 | 0,_=>by
  show((List.replicate W (0:Int)).set c 1).getD j 0=_
  rw[qcR (by simpa using hc)]
  split
  ·rfl
  ·rw[List.getD_eq_getElem?_getD,List.getElem?_replicate,if_pos hj];rfl
 | n+1,hn=>by
  have hq:=hrf.lt n (by omega)
  rw[qdC,qcR (by rw[qbG];exact hq),if_neg fun e=>hjp (by rw[e];exact qfW (by omega))]
  exact qev hrf hj hjp hc n (by omega)
theorem qqZ{pv:List Nat}{j:Nat}(h:j∈pv):∃ i,i<pv.length∧pv.getD i 0=j:=by
 obtain⟨i,hi,e⟩:=List.mem_iff_getElem.1 h
 exact⟨i,hi,by rw[qad hi];exact e⟩
open Classical in
theorem qn6{p:Int}{R W:Nat}{cells x:Sim}(hp:Pr p)(hl:cells.length=R*W)(he:qaI cells p)(h0:∀ i,i<R→qaJ (fun j=>x.getD j 0) (qbL cells W i) W%p=0):InR p W (qiF p R W cells) x:=by
  have hA:=qcA he hl
  obtain⟨hrf,heq⟩:=qgu hp hA W (Nat.le_refl _)
  have hF0:∀ i,i<R→qaJ (fun j=>x.getD j 0) ((elS p R (qbL cells W) W).1 i) W%p=0:=fun i hi=>Spn.orth h0 (heq.1 i hi)
  unfold qiF
  generalize elS p R (qbL cells W) W=S at hrf hF0
  obtain⟨F,pv⟩:=S
  simp only at hrf hF0 ⊢
  let K:Ent:=fun c j=>if c∈pv then 0 else(qjD p W pv F c pv.length).getD j 0
  refine(Spn.sum (c:=fun j=>x.getD j 0) (B:=K) (n:=W) fun c hc=>?_).congr fun j hj=>?_
  · by_cases h:c∈pv
    · rw[show K c=fun _=>0 by funext j;simp[K,h]];exact Spn.zero
    · rw[show K c=fun j=>(qjD p W pv F c pv.length).getD j 0 by funext j;simp[K,h]]
      exact InR.mem (qog hc h)
  · show qaJ (fun j=>x.getD j 0) (fun c=>K c j) W%p=x.getD j 0%p
    by_cases hjp:j∈pv
    · obtain⟨i,hi,rfl⟩:=qqZ hjp
      have hiR:i<R:=Nat.lt_of_lt_of_le hi hrf.len
      have e:qaJ (fun j=>x.getD j 0) (fun c=>F i c+K c (pv.getD i 0)) W%p=qaJ (fun j=>x.getD j 0) (fun c=>if c=pv.getD i 0 then 1 else 0) W%p:=qce fun c hc=>by
        by_cases hcp:c∈pv
        · obtain⟨k,hk,rfl⟩:=qqZ hcp
          have h1:=hrf.one i k hiR hk
          rw[show K (pv.getD k 0) (pv.getD i 0)=0 from if_pos hcp,Int.add_zero,h1]
          by_cases hik:i=k
          · subst hik;simp
          · rw[if_neg hik,if_neg]
            intro e
            rcases Nat.lt_or_gt_of_ne hik with h | h
            · have:=hrf.mono i k h hk;omega
            · have:=hrf.mono k i h hi;omega
        · rw[show K c (pv.getD i 0)=(0-F i c)%p from(if_neg hcp).trans (qon hrf pv.length (Nat.le_refl _) i hi),if_neg fun e=>hcp (by rw[e];exact qfW hi),Int.add_emod,Int.emod_emod_of_dvd _ (Int.dvd_refl p),← Int.add_emod,show F i c+(0-F i c)=0 by omega]
      rw[qfR,Int.add_emod,hF0 i hiR,Int.zero_add,Int.emod_emod_of_dvd _ (Int.dvd_refl p),qaU (g:=fun c=>if c=pv.getD i 0 then 1 else 0),qbU (hrf.lt i hi)] at e
      exact e
    · rw[qaA (d:=fun j=>x.getD j 0) (h:=fun c=>if c=j then 1 else 0) fun c hc=>⟨rfl,by
        by_cases hcp:c∈pv
        · rw[show K c j=0 from if_pos hcp,if_neg fun(e:c=j)=>hjp (by rw[← e];exact hcp)]
        · rw[show K c j=if j=c then 1 else 0 from(if_neg hcp).trans (qev hrf hj hjp hc pv.length (Nat.le_refl _))]
          by_cases e:j=c
          · rw[if_pos e,if_pos e.symm]
          · rw[if_neg e,if_neg fun e2=>e e2.symm]⟩,qaU,qbU hj]
end VeT
open Go Go.Proofs Ve
namespace VeT
end VeT
open Go Go.Proofs Ve
namespace VeT
open Classical in
noncomputable def cnt(f:Nat→Prop):Nat→Nat
 | 0=>0
 | n+1=>cnt f n+if f n then 1 else 0
theorem qg2{f g:Nat→Prop}:∀ {n:Nat},(∀ c,c<n→f c→g c)→cnt f n≤cnt g n
 | 0,_=>Nat.le_refl _
 | n+1,h=>by
  have:=qg2 (n:=n) fun c hc=>h c (by omega)
  unfold cnt
  by_cases hf:f n
  ·rw[if_pos hf,if_pos (h n (by omega) hf)];omega
  ·rw[if_neg hf];omega
theorem qcQ{f g:Nat→Prop}{n:Nat}(h:∀ c,c<n→(f c↔g c)):cnt f n=cnt g n :=
 Nat.le_antisymm (qg2 fun c hc=>(h c hc).1) (qg2 fun c hc=>(h c hc).2)
theorem qml{f:Nat→Prop}:∀ {n:Nat},(∀ c,c<n→¬ f c)→cnt f n=0
 | 0,_=>rfl
 | n+1,h=>by
  unfold cnt
  rw[qml fun c hc=>h c (by omega),if_neg (h n (by omega))]
theorem qlD{f:Nat→Prop}{k:Nat}:∀ {n:Nat},k<n→¬ f k→cnt (fun c=>f c∨c=k) n=cnt f n+1
 | 0,h,_=>by omega
 | n+1,h,hk=>by
  unfold cnt
  by_cases e:k=n
  ·subst e
   have:cnt (fun c=>f c∨c=k) k=cnt f k:=qcQ fun c hc=>⟨fun h=>h.elim id fun e=>by omega,.inl⟩
   rw[this,if_pos (.inr rfl),if_neg hk]
  ·rw[qlD (by omega) hk]
   by_cases hf:f n
   ·rw[if_pos (.inl hf),if_pos hf]
   ·rw[if_neg (fun h=>h.elim hf fun e'=>e e'.symm),if_neg hf]
theorem qhc{W:Nat}:∀ {l:List Nat},l.Nodup→(∀ c∈l,c<W)→cnt (fun c=>c∈l) W=l.length
 | [],_,_=>qml fun c _ h=>by cases h
 | a::l,hn,hl=>by
  obtain⟨h1,h2⟩:=List.nodup_cons.1 hn
  have e:=qhc h2 fun c hc=>hl c (List.mem_cons_of_mem _ hc)
  rw[List.length_cons,← e,← qlD (hl a List.mem_cons_self) h1]
  exact qcQ fun c _=>by rw[List.mem_cons];exact Or.comm
def Ld(p:Int)(W:Nat)(V:(Nat→Int)→Prop)(c:Nat):Prop:=c<W∧∃ x,V x∧(∀ j,j<c→x j%p=0)∧x c%p≠0
noncomputable def rkV(p:Int)(W:Nat)(V:(Nat→Int)→Prop):Nat:=cnt (Ld p W V) W
theorem Ld.mono{p:Int}{W:Nat}{V V':(Nat→Int)→Prop}(h:∀ x,V x→V' x){c:Nat}:Ld p W V c→Ld p W V' c:=fun⟨h1,x,hx,h2⟩=>⟨h1,x,h x hx,h2⟩
theorem qhf{p:Int}{W:Nat}{V V':(Nat→Int)→Prop}(h:∀ x,V x↔V' x):rkV p W V=rkV p W V':=qcQ fun c _=>⟨Ld.mono fun x=>(h x).1,Ld.mono fun x=>(h x).2⟩
theorem qkm{p:Int}{c g:Nat→Int}:∀ {n:Nat},(∀ i,i<n→c i*g i%p=0)→qaJ c g n%p=0
 | 0,_=>by simp[qaJ]
 | n+1,h=>by
  rw[show qaJ c g (n+1)=qaJ c g n+c n*g n from rfl,Int.add_emod,qkm fun i hi=>h i (by omega),h n (by omega)];simp
theorem Rf.nodup{R W:Nat}{F:Ent}{pv:List Nat}(h:Rf R W F pv):pv.Nodup∧∀ c∈pv,c<W:=by
 have hg:∀ i (hi:i<pv.length),pv.getD i 0=pv[i]:=fun i hi=>by rw[List.getD_eq_getElem?_getD,List.getElem?_eq_getElem hi];rfl
 constructor
 ·refine List.pairwise_iff_getElem.2 fun i j hi hj hij=>?_
  have:=h.mono i j hij hj
  rw[hg i hi,hg j hj] at this
  omega
 ·intro c hc
  obtain⟨i,hi,rfl⟩:=List.mem_iff_getElem.1 hc
  have:=h.lt i hi
  rwa [hg i hi] at this
theorem Rf.mem{R W:Nat}{F:Ent}{pv:List Nat}(h:Rf R W F pv){c:Nat}:c∈pv↔∃ i,i<pv.length∧pv.getD i 0=c:=by
 rw[List.mem_iff_getElem]
 constructor
 ·rintro⟨i,hi,rfl⟩;exact⟨i,hi,by rw[List.getD_eq_getElem?_getD,List.getElem?_eq_getElem hi];rfl⟩
 ·rintro⟨i,hi,rfl⟩;exact⟨i,hi,by rw[List.getD_eq_getElem?_getD,List.getElem?_eq_getElem hi];rfl⟩
theorem Rf.coef{p:Int}{R W:Nat}{F:Ent}{pv:List Nat}(h:Rf R W F pv){v:Nat→Int}(hv:Spn p R W F v){j:Nat}(hj:j<W) :
  v j%p=qaJ (fun k=>v (pv.getD k 0)) (fun k=>F k j) pv.length%p:=by
 obtain⟨c,hc⟩:=hv
 have h0:∀ j,j<W→qaJ c (fun i=>F i j) R=qaJ c (fun i=>F i j) pv.length:=fun j hj=>qkC h.len fun i h1 h2=>h.bot i j h1 h2 hj
 have hk:∀ k,k<pv.length→v (pv.getD k 0)%p=c k%p:=fun k hk=>by
  rw[← hc _ (h.lt k hk),h0 _ (h.lt k hk),qaU]
  congr 1
  rw[← qbU (g:=c) hk]
  exact qaA fun i hi=>⟨h.one i k (Nat.lt_of_lt_of_le hi h.len) hk,rfl⟩
 rw[← hc j hj,h0 j hj,qaU,qaU (c:=fun k=>v (pv.getD k 0))]
 exact qce fun i hi=>(hk i hi).symm
theorem Rf.low0{p:Int}{R W:Nat}{F:Ent}{pv:List Nat}(h:Rf R W F pv){v:Nat→Int}(hv:Spn p R W F v){d:Nat}(hd:d<W)(hn:d∉pv)(h0:∀ k,k<pv.length→pv.getD k 0<d→v (pv.getD k 0)%p=0):∀ j,j≤d→v j%p=0:=by
 intro j hj
 rw[h.coef hv (by omega)]
 refine qkm fun k hk=>?_
 rcases Nat.lt_trichotomy (pv.getD k 0) d with e | e | e
 ·rw[Int.mul_emod,h0 k hk e];simp
 ·exact absurd (h.mem.2 ⟨k,hk,e⟩) hn
 ·rw[h.low k j hk (by omega)];simp
theorem qqL{p:Int}{R W:Nat}{F:Ent}{pv:List Nat}(hp:2≤p)(h:Rf R W F pv){c:Nat}:Ld p W (Spn p R W F) c↔c∈pv:=by
 constructor
 ·rintro⟨hc,x,hx,h1,h2⟩
  refine Classical.byContradiction fun hn=>h2 ?_
  exact h.low0 hx hc hn (fun k hk e=>h1 _ e) c (Nat.le_refl _)
 ·intro hm
  obtain⟨i,hi,rfl⟩:=h.mem.1 hm
  have hiR:=Nat.lt_of_lt_of_le hi h.len
  refine⟨h.lt i hi,F i,Spn.row hiR,fun j hj=>by rw[h.low i j hi hj];simp,?_⟩
  rw[h.one i i hiR hi,if_pos rfl,Int.emod_eq_of_lt (by omega) (by omega)]
  omega
theorem qrc{p:Int}{R W:Nat}{F:Ent}{pv:List Nat}(hp:2≤p)(h:Rf R W F pv):rkV p W (Spn p R W F)=pv.length:=by
 rw[← qhc h.nodup.1 h.nodup.2]
 exact qcQ fun c _=>qqL hp h
noncomputable def rk(p:Int)(W:Nat)(rows:List Sim):Nat:=rkV p W (Spn p rows.length W (qd3 rows))
theorem Eqv.spn{p:Int}{R W:Nat}{A B:Ent}(h:Eqv p R W A B){x:Nat→Int}:Spn p R W A x↔Spn p R W B x:=⟨fun hx=>Spn.trans h.2 hx,fun hx=>Spn.trans h.1 hx⟩
theorem qoM{p:Int}{R W:Nat}{A:Ent}(hp:Pr p)(hA:EIn p R W A):(elS p R A W).2.length=rkV p W (Spn p R W A):=by
 obtain⟨h1,h2⟩:=qgu hp hA W (Nat.le_refl _)
 rw[← qrc hp.1 h1]
 exact qhf fun x=>h2.spn.symm
theorem InR.spn{p:Int}{W:Nat}{A B:List Sim}(h:∀ r∈A,InR p W B r){x:Nat→Int}(hx:Spn p A.length W (qd3 A) x):Spn p B.length W (qd3 B) x :=
 Spn.trans (fun i hi=>by
  have e:qd3 A i=fun j=>(A[i]).getD j 0:=by funext j;unfold qd3;rw[qad hi]
  rw[e];exact h _ (List.getElem_mem hi)) hx
theorem qrJ{p:Int}{W:Nat}{A:List Sim}(hp:Pr p)(hA:Rws p W A):rk p W A≤A.length:=by
 have:=qoM hp (qjs hA)
 have h2:=(qgF hp.1 (qjs hA) W).2.1
 unfold rk;omega
theorem qpP{rows:List Sim}{x:Sim}{i:Nat}(hi:i<rows.length):qd3 (rows++[x]) i=qd3 rows i:=by
 have:(rows++[x]).getD i []=rows.getD i []:=by rw[List.getD_eq_getElem?_getD,List.getElem?_append_left hi,← List.getD_eq_getElem?_getD]
 funext j
 unfold qd3
 rw[this]
theorem qoG{rows:List Sim}{x:Sim}:qd3 (rows++[x]) rows.length=fun j=>x.getD j 0:=by
 have:(rows++[x]).getD rows.length []=x:=by rw[List.getD_eq_getElem?_getD,List.getElem?_append_right (Nat.le_refl _),Nat.sub_self];rfl
 funext j
 unfold qd3
 rw[this]
theorem Spn.app{p:Int}{W:Nat}{rows:List Sim}{x:Sim}{z:Nat→Int}(h:Spn p (rows++[x]).length W (qd3 (rows++[x])) z) :
  ∃(a:Int) (v:Nat→Int),Spn p rows.length W (qd3 rows) v∧∀ j,j<W→z j%p=(v j+a*x.getD j 0)%p:=by
 obtain⟨c,hc⟩:=h
 refine⟨c rows.length,fun j=>qaJ c (fun i=>qd3 rows i j) rows.length,⟨c,fun j _=>rfl⟩,fun j hj=>?_⟩
 rw[← hc j hj,List.length_append,List.length_singleton]
 show(qaJ c _ rows.length+c rows.length*qd3 (rows++[x]) rows.length j)%p=_
 rw[qoG,qaA (d:=c) (h:=fun i=>qd3 rows i j) fun i hi=>⟨rfl,by rw[qpP hi]⟩]
theorem qrC{f:Nat→Prop}{n:Nat}(h:∃ j,j<n∧f j):∃ c,c<n∧f c∧∀ j,j<c→¬ f j:=by
 induction n with
 | zero=>obtain⟨j,hj,_⟩:=h;omega
 | succ n ih =>
  by_cases h2:∃ j,j<n∧f j
  ·obtain⟨c,h3,h4⟩:=ih h2;exact⟨c,by omega,h4⟩
  ·obtain⟨j,hj,hf⟩:=h
   have:j=n:=Classical.byContradiction fun e=>h2 ⟨j,by omega,hf⟩
   subst this
   exact⟨j,by omega,hf,fun k hk hf'=>h2 ⟨k,hk,hf'⟩⟩
theorem qrb{p a b:Int}(hp:Pr p)(ha:a%p≠0)(hb:b%p≠0):a*b%p≠0:=by
 intro h
 have hp2:2≤p:=hp.1
 have a1:=Int.emod_nonneg a (show p≠0 by omega)
 have a2:=Int.emod_lt_of_pos a (show 0<p by omega)
 have hi:=ql9 hp (a:=a%p) (by omega) (by omega)
 apply hb
 have e:b%p=(a%p*qgU (a%p) p)%p*b%p:=by rw[hi,Int.one_mul]
 generalize qgU (a%p) p=q at e
 have h1:a%p*q%p*b%p=a*q*b%p:=qcV ((Int.emod_emod_of_dvd _ (Int.dvd_refl p)).trans (qcV (Int.emod_emod_of_dvd _ (Int.dvd_refl p)) rfl)) rfl
 rw[e,h1,show a*q*b=q*(a*b) by rw[Int.mul_comm a q,Int.mul_assoc],qcV (p:=p) (x:=q) (x':=q) rfl (h.trans (Int.zero_emod p).symm)]
 simp
theorem qrd{p:Int}{W:Nat}{rows:List Sim}{x:Sim}(hp:Pr p)(hr:Rws p W rows)(hx:¬ InR p W rows x):rk p W (rows++[x])=rk p W rows+1:=by
 have hp2:2≤p:=hp.1
 obtain⟨hrf,heq⟩:=qgu hp (qjs hr) W (Nat.le_refl _)
 have hrk:=qoM hp (qjs hr)
 generalize elS p rows.length (qd3 rows) W=S at hrf heq hrk
 obtain⟨F,pv⟩:=S
 simp only at hrf heq hrk
 -- what is left of x
 let s:Nat→Int:=fun j=>qaJ (fun k=>-(x.getD (pv.getD k 0) 0)) (fun k=>F k j) pv.length
 let y:Nat→Int:=fun j=>x.getD j 0+s j
 have hs:Spn p rows.length W (qd3 rows) s:=Spn.sum (B:=F) fun i hi=>heq.1 i (Nat.lt_of_lt_of_le hi hrf.len)
 have hyp:∀ k,k<pv.length→y (pv.getD k 0)=0:=fun k hk=>by
  show x.getD (pv.getD k 0) 0+s (pv.getD k 0)=0
  have:s (pv.getD k 0)=-(x.getD (pv.getD k 0) 0):=by
   show qaJ _ _ _=_
   rw[qaU,← qbU (g:=fun k=>-(x.getD (pv.getD k 0) 0)) hk]
   exact qaA fun i hi=>⟨hrf.one i k (Nat.lt_of_lt_of_le hi hrf.len) hk,rfl⟩
  omega
 have hne:∃ j,j<W∧y j%p≠0:=Classical.byContradiction fun hn=>hx <| by
  refine(hs.smul (-1)).congr fun j hj=>?_
  have hy0:y j%p=0:=Classical.byContradiction fun h=>hn ⟨j,hj,h⟩
  have:x.getD j 0=-1*s j+y j:=by show _=_+(_+_);omega
  rw[this,Int.add_emod,hy0,Int.add_zero,Int.emod_emod_of_dvd _ (Int.dvd_refl p)]
 obtain⟨c,hc,hyc,hcl⟩:=qrC hne
 have hcl:∀ j,j<c→y j%p=0:=fun j hj=>Classical.byContradiction (hcl j hj)
 have hcn:c∉pv:=fun hm=>by
  obtain⟨k,hk,rfl⟩:=hrf.mem.1 hm
  exact hyc (by rw[hyp k hk];simp)
 have hxs:Spn p (rows++[x]).length W (qd3 (rows++[x])) (fun j=>x.getD j 0):=InR.mem (List.mem_append.2 (.inr (List.mem_singleton.2 rfl)))
 have hup:∀ z,Spn p rows.length W (qd3 rows) z→Spn p (rows++[x]).length W (qd3 (rows++[x])) z:=fun z hz=>InR.spn (fun r hr=>InR.mem (List.mem_append.2 (.inl hr))) hz
 have hmain:∀ d,d<W→(Ld p W (Spn p (rows++[x]).length W (qd3 (rows++[x]))) d↔d∈pv∨d=c):=fun d hd=>by
  constructor
  ·rintro⟨_,z,hz,z1,z2⟩
   refine Classical.byContradiction fun hn=>?_
   have hdn:d∉pv:=fun h=>hn (.inl h)
   have hdc:d≠c:=fun h=>hn (.inr h)
   obtain⟨a,v0,hv0,hzv⟩:=Spn.app hz
   -- z = v + a y
   let v:Nat→Int:=fun j=>v0 j+(-a)*s j
   have hv:Spn p rows.length W F v:=heq.spn.1 (hv0.add (hs.smul (-a)))
   have hzy:∀ j,j<W→z j%p=(v j+a*y j)%p:=fun j hj=>by
    rw[hzv j hj]
    congr 1
    show _=v0 j+-a*s j+a*(x.getD j 0+s j)
    rw[Int.mul_add,Int.neg_mul];omega
   have hv0':∀ k,k<pv.length→pv.getD k 0<d→v (pv.getD k 0)%p=0:=fun k hk hkd=>by
    have:=hzy _ (hrf.lt k hk)
    rw[hyp k hk,Int.mul_zero,Int.add_zero,z1 _ hkd] at this
    exact this.symm
   have hvl:=hrf.low0 hv hd hdn hv0'
   have hza:∀ j,j≤d→z j%p=a*y j%p:=fun j hj=>by
    rw[hzy j (by omega),Int.add_emod,hvl j hj,Int.zero_add,Int.emod_emod_of_dvd _ (Int.dvd_refl p)]
   have hyd:y d%p≠0:=fun h=>z2 (by rw[hza d (Nat.le_refl _),Int.mul_emod,h];simp)
   have ha:a%p≠0:=fun h=>z2 (by rw[hza d (Nat.le_refl _),Int.mul_emod,h];simp)
   have hcd:c<d:=by
    rcases Nat.lt_trichotomy c d with h | h | h
    ·exact h
    ·exact absurd h.symm hdc
    ·exact absurd (hcl d h) hyd
   have:=z1 c hcd
   rw[hza c (by omega)] at this
   exact qrb hp ha hyc this
  ·rintro(hm | rfl)
   ·obtain⟨h1,z,hz,h2⟩:=(qqL hp2 hrf).2 hm
    exact⟨h1,z,hup z (heq.spn.2 hz),h2⟩
   ·exact⟨hd,y,hxs.add (hup s hs),hcl,hyc⟩
 unfold rk rkV
 rw[qcQ hmain,qlD hc hcn,qhc hrf.nodup.1 hrf.nodup.2,hrk]
 rfl
end VeT
