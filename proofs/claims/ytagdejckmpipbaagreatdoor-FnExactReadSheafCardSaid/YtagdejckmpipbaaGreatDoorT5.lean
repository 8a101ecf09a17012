import Derived.Test.YtagdejckmpipbaaGreatDoorT4
import Derived.Test.YtagdejckmpipbaaGreatDoorV2
import Derived.Lib.ItoaLen
import Derived.Lib.SplitLaws
import Derived.Lib.ParseIntBTie
set_option linter.unusedVariables false
set_option linter.unusedSimpArgs false
open Go Go.Proofs Ve
namespace VeT
def Pr(p:Int):Prop:=2≤p∧p≤251∧∀ k:Nat,2≤k→(k:Int)*k≤p→p%k≠0
theorem qdV(p:Int):Ret E n_Z19 [dI p] ⟨o_Z19,(pb (Pr p),())⟩:=by
  refine qan ?_
  simp only[run_Z19,Z19.ev]
  refine qab (qb5 _ _ _) (qdT (fun h=>qap ?_) fun h=>?_)
  · have h:¬ (2≤p∧p≤251):=qbK.1 (by simpa using h)
    rw[qas fun hp=>h ⟨hp.1,hp.2.1⟩]
  have hr:2≤p∧p≤251:=qaL.1 (by simpa using h)
  refine Ev.start (p:=fun φ n=>Z19.l0 (mkR (run E (φ 0))) (φ 0) n p 2=_) 1 ?_ (fun _ _ _ h=>h)
  refine qeA 1 (σ:=Nat) (L:=fun φ n k=>Z19.l0 (mkR (run E (φ 0))) (φ 0) n p (k:Int)) (fun _ _ _ _=>rfl) (fun k=>2≤k∧k≤17∧∀ j:Nat,2≤j→j<k→(j:Int)*j≤p→p%j≠0) (fun _=>_) (fun k=>17-k) (fun k ⟨h1,h2,h3⟩ ih=>?_) 2 ⟨by omega,by omega,fun j _ _=>by omega⟩
  simp only[Z19.l0_succ _ qah]
  have hkk:0≤(k:Int)*k∧(k:Int)*k≤289:=⟨Int.mul_nonneg (by omega) (by omega),by have:=Nat.mul_le_mul h2 h2;omega⟩
  have e:w64 ((k:Int)*k)=(k:Int)*k:=qat (by omega) (by omega)
  simp only[e]
  refine qew (fun hle=>?_) fun hle=>qap ?_
  · have hk16:k<16:=Classical.byContradiction fun hn=>by
      have:=Nat.mul_le_mul (show 16≤k by omega) (show 16≤k by omega);omega
    refine qaw (by simp;omega) ?_
    rw[Int.tmod_eq_emod_of_nonneg (by omega)]
    refine qdT (fun h0=>qap ?_) fun h0=>?_
    · rw[qas fun hp=>hp.2.2 k h1 hle (by simpa using h0)]
    · rw[qai (by omega)]
      refine ih (k+1) ⟨by omega,by omega,fun j hj1 hj2 hj3=>?_⟩ (by show 17-(k+1)<17-k;omega)
      by_cases hjk:j=k
      · subst hjk;simpa using h0
      · exact h3 j hj1 (by omega) hj3
  · rw[qaB]
    refine⟨hr.1,hr.2,fun j hj1 hj2=>?_⟩
    by_cases hjk:j<k
    · exact h3 j hj1 hjk hj2
    · exfalso
      have:=Nat.mul_le_mul (show k≤j by omega) (show k≤j by omega);omega
theorem qj6(p:Int):Ret E n_Z110 [dI p] ⟨o_Z110,(pb (Pr p),())⟩:=by
  refine qan ?_
  simp only[run_Z110,Z110.ev]
  refine qab (qb9 _ _ _) (qdT (fun h=>qap ?_) fun h=>?_)
  · have h:¬ (2≤p∧p≤251):=qbK.1 (by simpa using h)
    rw[qas fun hp=>h ⟨hp.1,hp.2.1⟩]
  have hr:2≤p∧p≤251:=qaL.1 (by simpa using h)
  refine Ev.start (p:=fun φ n=>Z110.l0 (mkR (run E (φ 0))) (φ 0) n p 2=_) 1 ?_ (fun _ _ _ h=>h)
  refine qeA 1 (σ:=Nat) (L:=fun φ n k=>Z110.l0 (mkR (run E (φ 0))) (φ 0) n p (k:Int)) (fun _ _ _ _=>rfl) (fun k=>2≤k∧k≤17∧∀ j:Nat,2≤j→j<k→(j:Int)*j≤p→p%j≠0) (fun _=>_) (fun k=>17-k) (fun k ⟨h1,h2,h3⟩ ih=>?_) 2 ⟨by omega,by omega,fun j _ _=>by omega⟩
  simp only[Z110.l0_succ _ qah]
  have hkk:0≤(k:Int)*k∧(k:Int)*k≤289:=⟨Int.mul_nonneg (by omega) (by omega),by have:=Nat.mul_le_mul h2 h2;omega⟩
  have e:w64 ((k:Int)*k)=(k:Int)*k:=qat (by omega) (by omega)
  simp only[e]
  refine qew (fun hle=>?_) fun hle=>qap ?_
  · have hk16:k<16:=Classical.byContradiction fun hn=>by
      have:=Nat.mul_le_mul (show 16≤k by omega) (show 16≤k by omega);omega
    refine qaw (by simp;omega) ?_
    rw[Int.tmod_eq_emod_of_nonneg (by omega)]
    refine qdT (fun h0=>qap ?_) fun h0=>?_
    · rw[qas fun hp=>hp.2.2 k h1 hle (by simpa using h0)]
    · rw[qai (by omega)]
      refine ih (k+1) ⟨by omega,by omega,fun j hj1 hj2 hj3=>?_⟩ (by show 17-(k+1)<17-k;omega)
      by_cases hjk:j=k
      · subst hjk;simpa using h0
      · exact h3 j hj1 (by omega) hj3
  · rw[qaB]
    refine⟨hr.1,hr.2,fun j hj1 hj2=>?_⟩
    by_cases hjk:j<k
    · exact h3 j hj1 hjk hj2
    · exfalso
      have:=Nat.mul_le_mul (show k≤j by omega) (show k≤j by omega);omega
theorem qeO(p:Int):Ret E n_Z99 [dI p] ⟨o_Z99,(pb (Pr p),())⟩:=by
 refine qan ?_
 simp only[run_Z99,Z99.ev]
 exact qab (qj6 p) qal
def qgo(v:Sim)(p:Int):Prop:=∀ x∈v,0≤x∧x≤p-1
theorem qiC(a p:Int)(hp:0≤p∧p≤1048576):Ret E n_Z37 [dI a,dI p] ⟨o_Z37,(pb (0≤a∧a≤p-1),())⟩:=by
 refine qan ?_
 simp only[run_Z37,Z37.ev]
 rw[qat (by omega) (by omega)]
 exact qab (qb5 _ _ _) qal
theorem qeT(a p:Int)(hp:0≤p∧p≤1048576):Ret E n_Z24 [dI a,⟨.ptr (.cons (.int .i64) .nil),(p,())⟩] ⟨o_Z24,(!pb (0≤a∧a≤p-1),())⟩:=by
 refine qan ?_
 simp only[run_Z24,Z24.ev]
 exact qab (qiC _ _ hp) qal
theorem qiK{α:Type}{s:List α}{P:α→Prop}:(!pb (∃ x∈s,(!pb (P x))=true))=pb (∀ x∈s,P x):=qiA (by
 simp only[Bool.not_eq_true',qbK]
 exact⟨fun h x hx=>Classical.byContradiction fun hn=>h ⟨x,hx,hn⟩,fun h ⟨x,hx,hn⟩=>hn (h x hx)⟩)
theorem qgQ(v:Sim)(p:Int)(hv:v.length≤1048576)(hp:0≤p∧p≤1048576):Ret E n_Z23 [dL v,dI p] ⟨o_Z23,(pb (qgo v p),())⟩:=by
 refine qan ?_
 simp only[run_Z23,Z23.ev]
 refine qab (qaV v ((p,()),()) _ hv fun x _=>qeT x p hp) (qap ?_)
 simp only[qiK];rfl
theorem qex(v:Sim)(n p:Int)(hv:v.length≤1048576)(hp:0≤p∧p≤1048576):Ret E n_Z111 [dL v,dI n,dI p] ⟨o_Z111,(pb (qgo v p∧(v.length:Int)=n),())⟩:=by
  have e:w64 (p-1)=p-1:=qat (by omega) (by omega)
  refine qan ?_
  simp only[run_Z111,Z111.ev]
  refine Ev.start (p:=fun φ n'=>Z111.l0 (mkR (run E (φ 0))) (φ 0) n' v n p 0=_) 1 ?_ (fun _ _ _ h=>h)
  refine(qd2 1 (L:=fun φ n' k=>Z111.l0 (mkR (run E (φ 0))) (φ 0) n' v n p k) (len:=v.length) 0 (by omega) (fun j=>0≤v.getD j 0∧v.getD j 0≤p-1) (fun b=>some ⟨o_Z111,(b&&((v.length:Int)==n),())⟩) (fun _ _ _ _=>rfl) (fun k h1 h2 hP _=>?_) (fun k r h1 h2 hP _ ih=>?_) (fun _=>?_)).to ?_
  · simp only[Z111.l0_succ _ qah,e]
    rw[qao h2] at hP
    exact qay (decide_eq_true (by omega)) (qae (qam h2) (qab (qb9 _ _ _) (qay (by rw[qas hP];rfl) qal)))
  · simp only[Z111.l0_succ _ qah,e]
    rw[qao h2] at hP
    refine qay (decide_eq_true (by omega)) (qae (qam h2) (qab (qb9 _ _ _) (qaz (by rw[qaB hP];rfl) ?_)))
    rw[qai (by omega)];exact ih
  · simp only[Z111.l0_succ _ qah]
    exact qaz (decide_eq_false (by omega)) (qap (by rw[Bool.true_and]))
  · have:(pb (∀ j,0≤j→j<v.length→0≤v.getD j 0∧v.getD j 0≤p-1)&&((v.length:Int)==n))=pb (qgo v p∧(v.length:Int)=n):=qiA (by
      rw[Bool.and_eq_true,qaL,beq_iff_eq]
      refine and_congr_left' ⟨fun h x hx=>?_,fun h j _ hj=>?_⟩
      · obtain⟨j,hj,rfl⟩:=List.mem_iff_getElem.1 hx
        have:=h j (by omega) hj
        rwa [qao hj] at this
      · rw[qao hj];exact h _ (List.getElem_mem hj))
    rw[this]
theorem qh6(n:Int):Ret E n_Z41 [dI n] ⟨o_Z41,(pb (0≤n∧n≤32),())⟩:=by
 refine qan ?_
 simp only[run_Z41,Z41.ev]
 exact qab (qb5 _ _ _) qal
theorem qkr(s:Sim):Ret E n_Z46 [dL s] ⟨o_Z46,((s.length:Int),())⟩:=by
 refine qan ?_
 simp only[run_Z46,Z46.ev]
 (first | exact qal | exact Ev.of fun _=>trivial)
theorem qjB(s:List Sim):Ret E n_Z45 [dLL s] ⟨o_Z45,((s.length:Int),())⟩:=by
 refine qan ?_
 simp only[run_Z45,Z45.ev]
 (first | exact qal | exact Ev.of fun _=>trivial)
def VM(m:Mat):Prop:=Pr m.1∧(0≤m.2.1∧m.2.1≤32)∧(0≤m.2.2.1∧m.2.2.1≤32)∧(m.2.2.2.1.length:Int)=m.2.1*m.2.2.1∧qgo m.2.2.2.1 m.1
theorem qlR{a b:Int}(ha:0≤a∧a≤32)(hb:0≤b∧b≤32):0≤a*b∧a*b≤1024:=by
 obtain⟨x,rfl⟩:=Int.eq_ofNat_of_zero_le ha.1
 obtain⟨y,rfl⟩:=Int.eq_ofNat_of_zero_le hb.1
 have:=Nat.mul_le_mul (show x≤32 by omega) (show y≤32 by omega)
 have e:(x:Int)*y=((x*y:Nat):Int):=by simp
 show 0≤(x:Int)*y∧(x:Int)*y≤1024
 rw[e];omega
theorem qhm(m:Mat)(hm:Sm (.st cM) m):Ret E n_Z18 [dI m.1,dI m.2.1,dI m.2.2.1,dL m.2.2.2.1] ⟨o_Z18,(pb (VM m),())⟩:=by
 have hl:m.2.2.2.1.length≤1048576:=hm.2.2.2.1.1
 refine qan ?_
 simp only[run_Z18,Z18.ev]
 refine qab (qdV _) (qdT (fun h1=>qab (qh6 _) (qdT (fun h2=>qab (qh6 _) (qdT (fun h3=>qab (qkr _) (qdT (fun h4=>?_) fun h4=>qap ?_)) fun h3=>qap ?_)) fun h2=>qap ?_)) fun h1=>qap ?_)
 ·have h1:=qaL.1 h1;have h2:=qaL.1 h2;have h3:=qaL.1 h3
  have:=qlR h2 h3
  rw[qat (by omega) (by omega)] at h4
  refine qab (qgQ _ _ hl ⟨by have:=h1.1;omega,by have:=h1.2.1;omega⟩) (qap ?_)
  exact congrArg (fun b:Bool=>some (⟨o_Z18,(b,())⟩:Dv)) (qaK ⟨fun h=>⟨h1,h2,h3,by simpa using h4,h⟩,fun h=>h.2.2.2.2⟩)
 ·have h2:=qaL.1 h2;have h3:=qaL.1 h3
  have:=qlR h2 h3
  rw[qat (by omega) (by omega)] at h4
  rw[qas fun h=>by have:=h.2.2.2.1;simp[this] at h4]
 ·rw[qas fun h=>qbK.1 h3 h.2.2.1]
 ·rw[qas fun h=>qbK.1 h2 h.2.1]
 ·rw[qas fun h=>qbK.1 h1 h.1]
def Bt(m:Mat)(p f t:Int):Prop:=VM m∧m.1=p∧m.2.1=t∧m.2.2.1=f
theorem qeE(m:Mat)(p f t:Int)(hm:Sm (.st cM) m):Ret E n_Z36 [dI m.1,dI m.2.1,dI m.2.2.1,dL m.2.2.2.1,dI p,dI f,dI t] ⟨o_Z36,(pb (Bt m p f t),())⟩:=by
 refine qan ?_
 simp only[run_Z36,Z36.ev]
 refine qab (qhm m hm) (qdT (fun h1=>qdT (fun h2=>qdT (fun h3=>qap ?_) fun h3=>qap ?_) fun h2=>qap ?_) fun h1=>qap ?_)
 ·have h1:=qaL.1 h1
  have:(m.2.2.1==f)=pb (Bt m p f t):=qiA (by
   rw[beq_iff_eq];exact⟨fun h=>⟨h1,by simpa using h2,by simpa using h3,h⟩,fun h=>h.2.2.2⟩)
  rw[this]
 ·rw[qas fun h=>by have:=h.2.2.1;simp[this] at h3]
 ·rw[qas fun h=>by have:=h.2.1;simp[this] at h2]
 ·rw[qas fun h=>qbK.1 h1 h.1]
def qbE(c:List Sim)(d:Int)(k:Nat):List Int:=((List.range k).filter fun i=>decide (((c.getD i []).length:Int)=d+1)).map Int.ofNat
theorem qih(c:List Sim)(d:Int)(k:Nat):qbE c d (k+1)=qbE c d k++if ((c.getD k []).length:Int)=d+1 then [(k:Int)] else []:=by
 unfold qbE
 rw[List.range_succ,List.filter_append,List.map_append]
 congr 1
 by_cases h:((c.getD k []).length:Int)=d+1
 ·rw[if_pos h,List.filter_cons_of_pos (by simpa using h)];rfl
 ·rw[if_neg h,List.filter_cons_of_neg (by simpa using h)];rfl
theorem qcn(c:List Sim)(d:Int)(k:Nat):(qbE c d k).length≤k:=by
 unfold qbE
 rw[List.length_map]
 exact Nat.le_trans (List.length_filter_le _ _) (by simp)
theorem qji{c:List Sim}{d:Int}{k:Nat}{x:Int}(h:x∈qbE c d k):∃ i:Nat,x=i∧i<k:=by
 unfold qbE at h
 rw[List.mem_map] at h
 obtain⟨i,hi,rfl⟩:=h
 exact⟨i,rfl,by have:=(List.mem_filter.1 hi).1;simpa using this⟩
theorem qgZ(c:List Sim)(d:Int)(hc:Sm (.sl (.sl (.int .i64))) c)(hd:-1≤d∧d≤1048576):Ret E n_Z44 [dLL c,dI d] ⟨o_Z44,(qbE c d c.length,())⟩:=by
 have hc1:c.length≤1048576:=hc.1
 have hd1:w64 (d+1)=d+1:=qat (by omega) (by omega)
 refine qan ?_
 simp only[run_Z44,Z44.ev]
 refine Ev.start (p:=fun φ n=>Z44.l0 (mkR (run E (φ 0))) (φ 0) n d c (c.length:Int) 0 []=_) 1 ?_ (fun _ _ _ h=>h)
 refine qav 1 (L:=fun φ n k a=>Z44.l0 (mkR (run E (φ 0))) (φ 0) n d c (c.length:Int) k a) (len:=c.length) (fun k=>qbE c d k) (fun _ _ _ _ _=>rfl) (fun k r hk ih=>?_) ?_
 ·simp only[Z44.l0_succ _ qah,hd1]
  rw[qih,qao hk] at ih
  have hlen:=qcn c d k
  refine qay (decide_eq_true (by omega)) (qae (qam hk) (qab (qkr _) ?_))
  rw[qai (by omega)]
  refine qdT (fun he=>qaw (decide_eq_true (by simp only[List.length_cons,List.length_nil];omega)) ?_) fun he=>?_
  ·rw[if_pos (by simpa using he)] at ih;exact ih
  ·rw[if_neg (by simpa using he),List.append_nil] at ih;exact ih
 ·simp only[Z44.l0_succ _ qah]
  exact qaz (decide_eq_false (by omega)) qal
theorem qmZ(c:List Sim)(d:Int)(hc:Sm (.sl (.sl (.int .i64))) c)(hd:-1≤d∧d≤1048576):Ret E n_Z119 [dC (c,()),dI d] ⟨o_Z119,(qbE c d c.length,())⟩:=by
 have hc1:c.length≤1048576:=hc.1
 have hd1:w64 (d+1)=d+1:=qat (by omega) (by omega)
 refine qan ?_
 simp only[run_Z119,Z119.ev]
 refine Ev.start (p:=fun φ n=>Z119.l0 (mkR (run E (φ 0))) (φ 0) n (c,()) d 0 []=_) 1 ?_ (fun _ _ _ h=>h)
 refine qav 1 (L:=fun φ n k a=>Z119.l0 (mkR (run E (φ 0))) (φ 0) n (c,()) d k a) (len:=c.length) (fun k=>qbE c d k) (fun _ _ _ _ _=>rfl) (fun k r hk ih=>?_) ?_
 ·simp only[Z119.l0_succ _ qah,hd1]
  rw[qih,qao hk] at ih
  have hlen:=qcn c d k
  refine qay (decide_eq_true (by omega)) (qae (qam hk) ?_)
  rw[qai (by omega)]
  refine qdT (fun he=>qaw (decide_eq_true (by simp only[List.length_cons,List.length_nil];omega)) ?_) fun he=>?_
  ·rw[if_pos (by simpa using he)] at ih;exact ih
  ·rw[if_neg (by simpa using he),List.append_nil] at ih;exact ih
 ·simp only[Z119.l0_succ _ qah]
  exact qaz (decide_eq_false (by omega)) qal
def qlt(c:List Sim)(st:Sim)(d:Int)(k:Nat):Int:=(((qbE c d c.length).take k).map fun i=>st.getD i.toNat 0).sum
theorem qhj(c:List Sim)(st:Sim)(d:Int)(k:Nat)(h:k<(qbE c d c.length).length):qlt c st d (k+1)=qlt c st d k+st.getD ((qbE c d c.length)[k]).toNat 0:=by
 unfold qlt
 rw[List.take_succ_eq_append_getElem h,List.map_append,List.sum_append]
 simp
theorem qmH{c:List Sim}{st:Sim}(hst:∀ x∈st,0≤x∧x≤3)(d:Int)(k:Nat):0≤qlt c st d k∧qlt c st d k≤3*k:=by
  induction k with
  | zero=>simp[qlt]
  | succ k ih =>
    by_cases h:k<(qbE c d c.length).length
    · rw[qhj _ _ _ _ h]
      have:0≤st.getD ((qbE c d c.length)[k]).toNat 0∧st.getD ((qbE c d c.length)[k]).toNat 0≤3:=by
        by_cases hl:((qbE c d c.length)[k]).toNat<st.length
        · rw[qao hl];exact hst _ (List.getElem_mem hl)
        · rw[List.getD_eq_getElem?_getD,List.getElem?_eq_none (by omega)];simp
      omega
    · have:qlt c st d (k+1)=qlt c st d k:=by
        unfold qlt
        rw[List.take_of_length_le (by omega),List.take_of_length_le (by omega)]
      omega
theorem qfm(c:List Sim)(st:Sim)(d:Int)(p:Int)(ms:List Mat)(hc:Sm (.sl (.sl (.int .i64))) c)(hl:st.length=c.length)(hst:∀ x∈st,0≤x∧x≤3)(hd:-1≤d∧d≤1048576) :
  Ret E n_Z47 [dLL c,dI p,dL st,dMs ms,dI d] ⟨o_Z47,(qlt c st d (qbE c d c.length).length,())⟩:=by
 have hc1:c.length≤1048576:=hc.1
 have hol:=qcn c d c.length
 refine qan ?_
 simp only[run_Z47,Z47.ev]
 refine qab (qgZ c d hc hd) ?_
 refine Ev.start (p:=fun φ n=>Z47.l0 (mkR (run E (φ 0))) (φ 0) n 0 (qbE c d c.length) ((qbE c d c.length).length:Int) 0 c p st ms=_) 1 ?_ (fun _ _ _ h=>h)
 refine qav 1 (L:=fun φ n k a=>Z47.l0 (mkR (run E (φ 0))) (φ 0) n a (qbE c d c.length) ((qbE c d c.length).length:Int) k c p st ms) (len:=(qbE c d c.length).length) (fun k=>qlt c st d k) (fun _ _ _ _ _=>rfl) (fun k r hk ih=>?_) ?_
 ·simp only[Z47.l0_succ _ qah]
  obtain⟨i,hi,hik⟩:=qji (List.getElem_mem hk)
  rw[qhj _ _ _ _ hk,hi,Int.toNat_natCast,qao (by omega)] at ih
  have hb:=qmH hst d k (c:=c)
  have hb2:=hst _ (List.getElem_mem (show i<st.length by omega))
  refine qay (decide_eq_true (by omega)) (qae (qam hk) ?_)
  simp only[hi]
  refine qae (qam (by omega)) ?_
  rw[qai (by omega),qat (by omega) (by omega)]
  exact ih
 ·simp only[Z47.l0_succ _ qah]
  exact qaz (decide_eq_false (by omega)) qal
theorem qhT(c:List Sim)(st:Sim)(d:Int)(hc:Sm (.sl (.sl (.int .i64))) c)(hl:st.length=c.length)(hst:∀ x∈st,0≤x∧x≤3)(hd:-1≤d∧d≤1048576) :
  Ret E n_Z132 [dC (c,()),dL st,dI d] ⟨o_Z132,(qlt c st d (qbE c d c.length).length,())⟩:=by
 have hc1:c.length≤1048576:=hc.1
 have hol:=qcn c d c.length
 refine qan ?_
 simp only[run_Z132,Z132.ev]
 refine qab (qmZ c d hc hd) ?_
 refine Ev.start (p:=fun φ n=>Z132.l0 (mkR (run E (φ 0))) (φ 0) n st (qbE c d c.length) 0 0=_) 1 ?_ (fun _ _ _ h=>h)
 refine qav 1 (L:=fun φ n k a=>Z132.l0 (mkR (run E (φ 0))) (φ 0) n st (qbE c d c.length) a k) (len:=(qbE c d c.length).length) (fun k=>qlt c st d k) (fun _ _ _ _ _=>rfl) (fun k r hk ih=>?_) ?_
 ·simp only[Z132.l0_succ _ qah]
  obtain⟨i,hi,hik⟩:=qji (List.getElem_mem hk)
  rw[qhj _ _ _ _ hk,hi,Int.toNat_natCast,qao (by omega)] at ih
  have hb:=qmH hst d k (c:=c)
  have hb2:=hst _ (List.getElem_mem (show i<st.length by omega))
  refine qay (decide_eq_true (by omega)) (qae (qam hk) ?_)
  simp only[hi]
  refine qae (qam (by omega)) ?_
  rw[qai (by omega),qat (by omega) (by omega)]
  exact ih
 ·simp only[Z132.l0_succ _ qah]
  exact qaz (decide_eq_false (by omega)) qal
end VeT
open Go Go.Proofs Ve
namespace VeT
theorem qno(s:Sim)(v:Int)(hs:s.length≤1048576):Ret E n_Z94 [dL s,dI v] ⟨o_Z94,(qkn (fun x=>pb (x=v)) s,())⟩:=by
  obtain⟨o,h1,h2,h3⟩:=qbs 1 (L:=fun φ n k=>Z94.l0 (mkR (run E (φ 0))) (φ 0) n s v (s.length:Int) k) (len:=s.length) (fun k=>∃ h:k<s.length,pb (s[k]=v)=true) (fun o=>some ⟨o_Z94,(o2i o,())⟩) (fun _ _ _ _=>rfl) (fun k hk hP=>by
      obtain⟨_,hP⟩:=hP
      have hP:=qaL.1 hP
      simp only[Z94.l0_succ _ qah]
      exact qay (decide_eq_true (by omega)) (qae (qam hk) (qay (by simp[hP]) qal))) (fun k q hk hP ih=>by
      simp only[Z94.l0_succ _ qah]
      refine qay (decide_eq_true (by omega)) (qae (qam hk) (qaz (by simp only[beq_eq_false_iff_ne];exact fun e=>hP ⟨hk,qaB e.symm⟩) ?_))
      rw[qai (by omega)];exact ih) (by
      simp only[Z94.l0_succ _ qah]
      exact qaz (decide_eq_false (by omega)) qal)
  rw[qc4 (p:=fun x=>pb (x=v)) h1 h2] at h3
  refine qan ?_
  simp only[run_Z94,Z94.ev]
  exact Ev.start (p:=fun φ n=>Z94.l0 (mkR (run E (φ 0))) (φ 0) n s v (s.length:Int) 0=_) 1 h3 (fun _ _ _ h=>h)
theorem qjF(s:Sim)(v:Int)(hs:s.length≤1048576):Ret E n_Z82 [dL s,dI v] ⟨o_Z82,(pb (v∈s),())⟩:=by
 refine qan ?_
 simp only[run_Z82,Z82.ev]
 refine qab (qno s v hs) (qap ?_)
 have:decide (qkn (fun x=>pb (x=v)) s≥0)=pb (v∈s):=qiA (by
  rw[decide_eq_true_iff,ge_iff_le,qba]
  exact⟨fun⟨x,h,e⟩=>qaL.1 e ▸ h,fun h=>⟨v,h,qaB rfl⟩⟩)
 simp only[this]
theorem qic(s:Sim)(v:Int)(hs:s.length≤1048576):Ret E n_Z100 [dL s,dI v] ⟨o_Z100,(pb (v∈s),())⟩:=by
  obtain⟨o,h1,h2,h3⟩:=qbs 1 (L:=fun φ n k=>Z100.l0 (mkR (run E (φ 0))) (φ 0) n s v k) (len:=s.length) (fun k=>∃ h:k<s.length,s[k]=v) (fun o=>some ⟨o_Z100,(o.isSome,())⟩) (fun _ _ _ _=>rfl) (fun k hk hP=>by
      obtain⟨_,hP⟩:=hP
      simp only[Z100.l0_succ _ qah]
      exact qay (decide_eq_true (by omega)) (qae (qam hk) (qay (by simp[hP]) qal))) (fun k q hk hP ih=>by
      simp only[Z100.l0_succ _ qah]
      refine qay (decide_eq_true (by omega)) (qae (qam hk) (qaz (by simp only[beq_eq_false_iff_ne];exact fun e=>hP ⟨hk,e⟩) ?_))
      rw[qai (by omega)];exact ih) (by
      simp only[Z100.l0_succ _ qah]
      exact qaz (decide_eq_false (by omega)) qal)
  have:o.isSome=pb (v∈s):=qiA (by
    cases o with
    | none =>
      simp only[Option.isSome_none,Bool.false_eq_true,false_iff]
      intro hm
      obtain⟨j,hj,e⟩:=List.mem_iff_getElem.1 hm
      exact h2 rfl j hj ⟨hj,e⟩
    | some k =>
      obtain⟨_,⟨hk,e⟩,_⟩:=h1 k rfl
      simp only[Option.isSome_some,true_iff]
      exact e ▸ List.getElem_mem hk)
  rw[this] at h3
  refine qan ?_
  simp only[run_Z100,Z100.ev]
  exact Ev.start (p:=fun φ n=>Z100.l0 (mkR (run E (φ 0))) (φ 0) n s v 0=_) 1 h3 (fun _ _ _ h=>h)
def qoC(a b:Sim):Prop:=∀ x∈a,x∈b
theorem qjk(x:Int)(b:Sim)(hb:b.length≤1048576):Ret E n_Z39 [dI x,⟨.ptr (.cons (.sl (.int .i64)) .nil),(b,())⟩] ⟨o_Z39,(!pb (x∈b),())⟩:=by
 refine qan ?_
 simp only[run_Z39,Z39.ev]
 exact qab (qjF b x hb) qal
theorem ql1(a b:Sim)(ha:a.length≤1048576)(hb:b.length≤1048576):Ret E n_Z38 [dL a,dL b] ⟨o_Z38,(pb (qoC a b),())⟩:=by
 refine qan ?_
 simp only[run_Z38,Z38.ev]
 refine qab (qbd a ((b,()),()) _ ha fun x _=>qjk x b hb) (qap ?_)
 simp only[qiK];rfl
theorem qlc(a b:Sim)(ha:a.length≤1048576)(hb:b.length≤1048576):Ret E n_Z120 [dL a,dL b] ⟨o_Z120,(pb (qoC a b),())⟩:=by
 refine qan ?_
 simp only[run_Z120,Z120.ev]
 refine Ev.start (p:=fun φ n=>Z120.l0 (mkR (run E (φ 0))) (φ 0) n a b 0=_) 1 ?_ (fun _ _ _ h=>h)
 refine(qd2 1 (L:=fun φ n k=>Z120.l0 (mkR (run E (φ 0))) (φ 0) n a b k) (len:=a.length) 0 (by omega) (fun j=>a.getD j 0∈b) (fun b=>some ⟨o_Z120,(b,())⟩) (fun _ _ _ _=>rfl) (fun k h1 h2 hP _=>?_) (fun k r h1 h2 hP _ ih=>?_) (fun _=>?_)).to ?_
 ·simp only[Z120.l0_succ _ qah]
  rw[qao h2] at hP
  exact qay (decide_eq_true (by omega)) (qae (qam h2) (qab (qic b _ hb) (qay (by rw[qas hP];rfl) qal)))
 ·simp only[Z120.l0_succ _ qah]
  rw[qao h2] at hP
  refine qay (decide_eq_true (by omega)) (qae (qam h2) (qab (qic b _ hb) (qaz (by rw[qaB hP];rfl) ?_)))
  rw[qai (by omega)];exact ih
 ·simp only[Z120.l0_succ _ qah]
  exact qaz (decide_eq_false (by omega)) qal
 ·refine congrArg (fun b:Bool=>some (⟨o_Z120,(b,())⟩:Dv)) (qaK ⟨fun h x hx=>?_,fun h j _ hj=>by rw[qao hj];exact h _ (List.getElem_mem hj)⟩)
  obtain⟨j,hj,rfl⟩:=List.mem_iff_getElem.1 hx
  have:=h j (by omega) hj
  rwa [qao hj] at this
open Classical in
noncomputable def qek(c:List Sim)(s:Sim):Nat→List Int
 | 0=>[]
 | k+1=>qek c s k++if qoC s (c.getD k []) then [(k:Int)] else []
theorem qej{c:List Sim}{s:Sim}:∀ {k:Nat},(qek c s k).length≤k
 | 0=>by simp[qek]
 | k+1=>by
  have:=qej (c:=c) (s:=s) (k:=k)
  rw[qek,List.length_append];split<;>simp<;>omega
theorem qml(c:List Sim)(k:Nat)(hk:k<c.length)(hc:Sm (.sl (.sl (.int .i64))) c):Ret E n_Z48 [dLL c,dI (k:Int)] ⟨o_Z48,(qek c c[k] c.length,())⟩:=by
 have hc1:c.length≤1048576:=hc.1
 refine qan ?_
 simp only[run_Z48,Z48.ev]
 refine Ev.start (p:=fun φ n=>Z48.l0 (mkR (run E (φ 0))) (φ 0) n (k:Int) c (c.length:Int) 0 c []=_) 1 ?_ (fun _ _ _ h=>h)
 refine qav 1 (L:=fun φ n j a=>Z48.l0 (mkR (run E (φ 0))) (φ 0) n (k:Int) c (c.length:Int) j c a) (len:=c.length) (fun j=>qek c c[k] j) (fun _ _ _ _ _=>rfl) (fun j r hj ih=>?_) ?_
 ·simp only[Z48.l0_succ _ qah]
  have hl:=qej (c:=c) (s:=c[k]) (k:=j)
  rw[qek,qao hj] at ih
  rw[qai (by omega)]
  refine qay (decide_eq_true (by omega)) (qae (qam hj) (qae (qam hk) (qab (ql1 _ _ (qbq hc hk).1 (qbq hc hj).1) (qdT (fun h=>qaw (decide_eq_true (by simp only[List.length_cons,List.length_nil];omega)) ?_) fun h=>?_))))
  ·rw[if_pos (qaL.1 h)] at ih;exact ih
  ·rw[if_neg (qbK.1 h),List.append_nil] at ih;exact ih
 ·simp only[Z48.l0_succ _ qah]
  exact qaz (decide_eq_false (by omega)) qal
theorem qlb(c:Cpx)(s:Sim)(hs:s.length≤1048576)(hc:Sm (.sl (.sl (.int .i64))) c.1):Ret E n_Z125 [dC c,dL s] ⟨o_Z125,(qek c.1 s c.1.length,())⟩:=by
 have hc1:c.1.length≤1048576:=hc.1
 refine qan ?_
 simp only[run_Z125,Z125.ev]
 refine Ev.start (p:=fun φ n=>Z125.l0 (mkR (run E (φ 0))) (φ 0) n c s 0 []=_) 1 ?_ (fun _ _ _ h=>h)
 refine qav 1 (L:=fun φ n j a=>Z125.l0 (mkR (run E (φ 0))) (φ 0) n c s j a) (len:=c.1.length) (fun j=>qek c.1 s j) (fun _ _ _ _ _=>rfl) (fun j r hj ih=>?_) ?_
 ·simp only[Z125.l0_succ _ qah]
  have hl:=qej (c:=c.1) (s:=s) (k:=j)
  rw[qek,qao hj] at ih
  rw[qai (by omega)]
  refine qay (decide_eq_true (by omega)) (qae (qam hj) (qab (qlc _ _ hs (qbq hc hj).1) (qdT (fun h=>qaw (decide_eq_true (by simp only[List.length_cons,List.length_nil];omega)) ?_) fun h=>?_)))
  ·rw[if_pos (qaL.1 h)] at ih;exact ih
  ·rw[if_neg (qbK.1 h),List.append_nil] at ih;exact ih
 ·simp only[Z125.l0_succ _ qah]
  exact qaz (decide_eq_false (by omega)) qal
end VeT
open Go Go.Proofs Ve
namespace VeT
abbrev Tx:=List UInt8
abbrev dT(l:ByteArray):Dv:=⟨.str,l⟩
abbrev dTs(l:List ByteArray):Dv:=⟨.sl .str,l⟩
def tx(l:Tx):ByteArray:=⟨l.toArray⟩
theorem qaT(l:Tx):(tx l).size=l.length:=by
 show l.toArray.size=_
 simp
theorem qfu(a b:Tx):tx a++tx b=tx (a++b):=by
 apply ByteArray.ext
 rw[ByteArray.data_append]
 show a.toArray++b.toArray=(a++b).toArray
 simp
theorem qcC(l:Tx):(tx l).data.toList=l:=by
 show l.toArray.toList=l
 simp
theorem qmR(b:ByteArray):tx b.data.toList=b:=rfl
theorem qly(ls:List Tx)(s:Tx):qje (ls.map tx) (tx s)=tx (Go.Lib.join ls s):=by
 unfold qje
 have e:(ls.map tx).map (·.data.toList)=ls:=by
  rw[List.map_map]
  exact(List.map_congr_left fun l _=>qcC l).trans (List.map_id' ls)
 rw[e,qcC];rfl
theorem qiw(n:Nat)(args:List Dv):run E (n+1) n_Z133 args=qpb (mkR (run E n)) args:=rfl
theorem qiD(n:Int)(h1:-9223372036854775808≤n)(h2:n≤9223372036854775807):Ret E n_Z133 [dI n,dI 10] ⟨o_Z133,(tx (Go.Lib.itoa n),())⟩:=by
 refine qan ?_
 simp only[qiw]
 refine qap ?_
 have hc:chk (decide ((10:Int)=(10:Int))&&decide (-9223372036854775808≤n)&&decide (n≤9223372036854775807))=some ():=by rw[decide_eq_true h1,decide_eq_true h2];rfl
 show((chk (decide ((10:Int)=(10:Int))&&decide (-9223372036854775808≤n)&&decide (n≤9223372036854775807))).map fun _=>(⟨.cons .str .nil,(qo1 n,())⟩:Dv))=_
 rw[hc]
 rfl
theorem qnR(n:Nat)(args:List Dv):run E (n+1) n_Z134 args=ql7 (mkR (run E n)) args:=rfl
theorem qin(ls:List Tx)(s:Tx)(h1:(Go.Lib.join ls s).length≤140737488355328)(h2:ls.length≤140737488355328):Ret E n_Z134 [dTs (ls.map tx),dT (tx s)] ⟨o_Z134,(tx (Go.Lib.join ls s),())⟩:=by
 refine qan ?_
 simp only[qnR]
 refine qap ?_
 have hc:chk (decide ((qje (ls.map tx) (tx s)).size≤140737488355328)&&decide ((ls.map tx).length≤140737488355328))=some ():=by
  rw[qly,qaT,List.length_map,decide_eq_true h1,decide_eq_true h2];rfl
 show((some (ls.map tx)).bind fun xs=>(some (tx s)).bind fun sep=>(chk (decide ((qje xs sep).size≤140737488355328)&&decide (List.length xs≤140737488355328))).map fun _=>(⟨.cons .str .nil,(qje xs sep,())⟩:Dv))=_
 simp only[Option.bind_some,hc]
 rw[Option.map_some,qly]
theorem qgV(n:Int)(h1:-9223372036854775808≤n)(h2:n≤9223372036854775807):Ret E n_Z8 [dI n] ⟨o_Z8,(tx (Go.Lib.itoa n),())⟩:=by
 refine qan ?_
 simp only[run_Z8,Z8.ev]
 exact qab (qiD n h1 h2) qal
def qmo(u:Nat):List Nat:=if h:u=0 then [] else u%10::qmo (u / 10)
termination_by u
decreasing_by omega
theorem qcd:qmo 0=[]:=by rw[qmo,dif_pos rfl]
theorem qf7{u:Nat}(h:u≠0):qmo u=u%10::qmo (u / 10):=by rw[qmo,dif_neg h]
theorem qnd:∀(b u:Nat),u≤b→∀ d∈qmo u,d<10
 | 0,u,h,d,hd=>by
  obtain rfl:u=0:=by omega
  rw[qcd] at hd;cases hd
 | b+1,u,h,d,hd=>by
  by_cases h0:u=0
  ·subst h0;rw[qcd] at hd;cases hd
  ·rw[qf7 h0] at hd
   rcases List.mem_cons.1 hd with rfl | hd
   ·exact Nat.mod_lt _ (by omega)
   ·exact qnd b (u / 10) (by omega) d hd
theorem qix:∀(b u:Nat),u≤b→u≠0→((qmo u).map fun d=>UInt8.ofNat (48+d)).reverse=Go.Lib.decDigits u
 | 0,u,h,h0=>by omega
 | b+1,u,h,h0=>by
  rw[qf7 h0,List.map_cons,List.reverse_cons]
  by_cases h1:u<10
  ·rw[show u / 10=0 by omega,qcd,Go.Lib.decDigits_one h1,show u%10=u by omega];rfl
  ·rw[qix b (u / 10) (by omega) (by omega)]
   conv=>rhs;rw[Go.Lib.decDigits,dif_neg h1]
theorem qiV:∀(b u:Nat),u<10 ^ b→(qmo u).length≤b
 | 0,u,h=>by
  obtain rfl:u=0:=by simp at h;exact h
  rw[qcd];exact Nat.le_refl _
 | b+1,u,h=>by
  by_cases h0:u=0
  ·subst h0;rw[qcd];exact Nat.zero_le _
  ·rw[qf7 h0,List.length_cons]
   have:=qiV b (u / 10) (by rw[Nat.pow_succ] at h;omega)
   omega
def dgs(u:Nat):Sim:=(qmo u).map fun d=>((48+d:Nat):Int)
theorem qnY{d:Nat}(h:d<10):IntKind.wrap .u8 (w64 ((48:Int)+(d:Int)))=((48+d:Nat):Int):=by
 have e:w64 ((48:Int)+(d:Int))=((48+d:Nat):Int):=by rw[qat (by omega) (by omega)];omega
 rw[e]
 have:∀ d:Fin 10,IntKind.wrap .u8 ((48+d.val:Nat):Int)=((48+d.val:Nat):Int):=by decide
 exact this ⟨d,h⟩
theorem qny{l:List Nat}(h:∀ d∈l,d<10):(l.map fun d=>((48+d:Nat):Int)).map (fun n=>UInt8.ofNat (Int.toNat n))=l.map fun d=>UInt8.ofNat (48+d):=by
 rw[List.map_map]
 exact List.map_congr_left fun d _=>by
  show UInt8.ofNat (Int.toNat ((48+d:Nat):Int))=_
  rw[Int.toNat_natCast]
theorem qij(o:Sim)(ho:o.length≤1000):Ev fun φ=>Z105.j2 (mkR (run E (φ 0))) (φ 0) o=some ⟨o_Z105,(tx (o.reverse.map fun n=>UInt8.ofNat (Int.toNat n)),())⟩:=by
 simp only[Z105.j2_eq _ qah]
 rw[qat (by omega) (by omega)]
 have key:∀(n:Nat) (acc:Sim),n≤o.length→acc.length+n≤o.length→Ev fun φ=>Z105.l3 (mkR (run E (φ 0))) (φ 0) (φ 1) ((n:Int)-1) o acc=some ⟨o_Z105,(tx ((acc++(o.take n).reverse).map fun n=>UInt8.ofNat (Int.toNat n)),())⟩:=by
  intro n
  induction n with
  | zero =>
   intro acc _ _
   refine Ev.round 1 (L:=fun φ q=>Z105.l3 (mkR (run E (φ 0))) (φ 0) q (((0:Nat):Int)-1) o acc) ?_ (fun _ _ _=>rfl)
   simp only[Z105.l3_succ _ qah]
   refine qaz (decide_eq_false (by omega)) ?_
   rw[List.take_zero,List.reverse_nil,List.append_nil]
   exact qal
  | succ n ih =>
   intro acc hn hacc
   have hlt:n<o.length:=by omega
   have e1:((n+1:Nat):Int)-1=(n:Int):=by omega
   rw[e1]
   refine Ev.round 1 (L:=fun φ q=>Z105.l3 (mkR (run E (φ 0))) (φ 0) q (n:Int) o acc) ?_ (fun _ _ _=>rfl)
   simp only[Z105.l3_succ _ qah]
   refine qay (decide_eq_true (by omega)) (qaw (by rw[decide_eq_true (show(0:Int)≤(n:Int) by omega),decide_eq_true (show(n:Int)<(o.length:Int) by omega)];rfl) (qae (show o[Int.toNat (n:Int)]? = some o[n] by rw[Int.toNat_natCast];exact List.getElem?_eq_getElem hlt) (qaw (decide_eq_true (by simp only[List.length_singleton];omega)) ?_)))
   have h2:=ih (acc++[o[n]]) (by omega) (by simp;omega)
   rw[qat (by omega) (by omega)]
   have e3:acc++(o.take (n+1)).reverse=acc++[o[n]]++(o.take n).reverse:=by
    rw[List.take_succ_eq_append_getElem hlt,List.reverse_append,List.append_assoc];rfl
   rw[e3]
   exact h2
 have h0:=key o.length [] (Nat.le_refl _) (by simp)
 rw[List.take_length,List.nil_append] at h0
 exact Ev.start (p:=fun φ n=>Z105.l3 (mkR (run E (φ 0))) (φ 0) n ((o.length:Int)-1) o []=_) 1 h0 (fun _ _ _ h=>h)
theorem qn0{n:Int}(h0:n≠0):((dgs n.natAbs++if n<0 then [45] else []).reverse.map fun n=>UInt8.ofNat (Int.toNat n))=Go.Lib.itoa n:=by
 have e1:(dgs n.natAbs).reverse.map (fun n=>UInt8.ofNat (Int.toNat n))=Go.Lib.decDigits n.natAbs:=by
  unfold dgs
  rw[List.map_reverse,qny (qnd n.natAbs n.natAbs (Nat.le_refl _))]
  exact qix n.natAbs n.natAbs (Nat.le_refl _) (by omega)
 unfold Go.Lib.itoa
 by_cases h:n<0
 ·rw[if_pos h,if_pos h,List.reverse_append,List.map_append,e1];rfl
 ·rw[if_neg h,if_neg h,List.append_nil,e1,show n.toNat=n.natAbs by omega]
theorem qnH(m:Int):(Int.tdiv m 10).natAbs=m.natAbs / 10∧(0≤m→0≤Int.tdiv m 10)∧(m≤0→Int.tdiv m 10≤0):=by
 refine⟨by rw[Int.natAbs_tdiv];rfl,fun h=>Int.tdiv_nonneg h (by omega),fun h=>?_⟩
 rcases Int.le_total 0 m with h2 | h2
 ·obtain rfl:m=0:=by omega
  simp
 ·obtain⟨k,rfl⟩:∃ k:Nat,m=-(k:Int):=⟨m.natAbs,by omega⟩
  rw[Int.neg_tdiv]
  have:0≤Int.tdiv (k:Int) 10:=Int.tdiv_nonneg (by omega) (by omega)
  omega
theorem qn6(m:Int):(Int.tmod m 10).natAbs=m.natAbs%10:=by rw[Int.natAbs_tmod];rfl
theorem qhL(n:Int)(hn:n.natAbs<10 ^ 18):Ret E n_Z105 [dI n] ⟨o_Z105,(tx (Go.Lib.itoa n),())⟩:=by
 refine qan ?_
 simp only[run_Z105,Z105.ev]
 by_cases h0:n=0
 ·subst h0
  refine qay rfl ?_
  have e:Go.Lib.itoa 0=[48]:=by rw[Go.Lib.itoa,if_neg (by omega),Go.Lib.decDigits_one (by decide)];rfl
  rw[e]
  exact qal
 refine qaz (by rw[beq_eq_false_iff_ne];exact h0) ?_
 rw[← qn0 h0]
 have hfin:∀ o:Sim,o.length≤900→Ev fun φ=>(bif decide (n<(0:Int)) then(Option.bind (chk (decide ((List.length o+List.length [(45:Int)])*1≤70368744177664))) fun _=>Z105.j2 (mkR (run E (φ 0))) (φ 0) (o++[(45:Int)])) else Z105.j2 (mkR (run E (φ 0))) (φ 0) o)=some ⟨o_Z105,(tx ((o++if n<0 then [45] else []).reverse.map fun n=>UInt8.ofNat (Int.toNat n)),())⟩:=by
  intro o ho
  by_cases h:n<0
  ·rw[if_pos h]
   exact qay (decide_eq_true h) (qaw (decide_eq_true (by simp only[List.length_singleton];omega)) (qij _ (by simp;omega)))
  ·rw[if_neg h,List.append_nil]
   exact qaz (decide_eq_false h) (qij _ (by omega))
 have hrl:(dgs n.natAbs).length≤18:=by unfold dgs;rw[List.length_map];exact qiV 18 _ hn
 have key:∀(b:Nat) (m:Int) (o:Sim),m.natAbs≤b→m.natAbs<10 ^ 18→o.length+(dgs m.natAbs).length≤18→Ev fun φ=>Z105.l0 (mkR (run E (φ 0))) (φ 0) (φ 1) n m o=some ⟨o_Z105,(tx ((o++dgs m.natAbs++if n<0 then [45] else []).reverse.map fun n=>UInt8.ofNat (Int.toNat n)),())⟩:=by
  intro b
  induction b with
  | zero =>
   intro m o hb _ hlen
   obtain rfl:m=0:=by omega
   refine Ev.round 1 (L:=fun φ q=>Z105.l0 (mkR (run E (φ 0))) (φ 0) q n 0 o) ?_ (fun _ _ _=>rfl)
   simp only[Z105.l0_succ _ qah]
   have e:dgs (Int.natAbs 0)=[]:=by show(qmo 0).map _=[];rw[qcd];rfl
   rw[e,List.append_nil]
   exact qaz rfl (hfin o (by omega))
  | succ b ih =>
   intro m o hb hm hlen
   refine Ev.round 1 (L:=fun φ q=>Z105.l0 (mkR (run E (φ 0))) (φ 0) q n m o) ?_ (fun _ _ _=>rfl)
   simp only[Z105.l0_succ _ qah]
   by_cases hz:m=0
   ·subst hz
    have e:dgs (Int.natAbs 0)=[]:=by show(qmo 0).map _=[];rw[qcd];rfl
    rw[e,List.append_nil]
    exact qaz rfl (hfin o (by omega))
   ·have hd:dgs m.natAbs=((48+m.natAbs%10:Nat):Int)::dgs (m.natAbs / 10):=by unfold dgs;rw[qf7 (by omega)];rfl
    have hl10:m.natAbs%10<10:=Nat.mod_lt _ (by omega)
    obtain⟨t1,t2,t3⟩:=qnH m
    have t4:=qn6 m
    have go:∀ d:Int,d=((m.natAbs%10:Nat):Int)→Ev fun φ=>Z105.j1 (mkR (run E (φ 0))) (φ 0) (φ 1) n m d o=some ⟨o_Z105,(tx ((o++dgs m.natAbs++if n<0 then [45] else []).reverse.map fun n=>UInt8.ofNat (Int.toNat n)),())⟩:=by
     intro d hdd
     subst hdd
     rw[hd] at hlen ⊢
     rw[List.length_cons] at hlen
     simp only[Z105.j1_eq _ qah]
     refine qaw (decide_eq_true (by simp only[List.length_singleton];omega)) ?_
     rw[qnY hl10,qat (n:=Int.tdiv m 10) (by omega) (by omega)]
     have h2:=ih (Int.tdiv m 10) (o++[((48+m.natAbs%10:Nat):Int)]) (by omega) (by omega) (by rw[t1,List.length_append,List.length_singleton];omega)
     rw[t1] at h2
     rw[show o++((48+m.natAbs%10:Nat):Int)::dgs (m.natAbs / 10)=o++[((48+m.natAbs%10:Nat):Int)]++dgs (m.natAbs / 10) by simp]
     exact h2
    refine qay (by rw[bne_iff_ne];exact hz) (qew (fun h=>?_) fun h=>?_)
    ·refine go _ ?_
     rw[qat (by omega) (by omega)];omega
    ·exact go _ (by omega)
 have h1:=key n.natAbs n [] (Nat.le_refl _) hn (by simpa using hrl)
 rw[List.nil_append] at h1
 exact Ev.start (p:=fun φ q=>Z105.l0 (mkR (run E (φ 0))) (φ 0) q n n []=_) 1 h1 (fun _ _ _ h=>h)
end VeT
open Go Go.Proofs Ve
namespace VeT
def SD(c:List Sim)(st:Sim)(d:Int):Int:=qlt c st d (qbE c d c.length).length
def SK(c:List Sim)(st:Sim):Prop:=st.length=c.length∧(∀ x∈st,0≤x∧x≤3)∧∀ d:Nat,d<4→SD c st (d:Int)≤32
theorem qhl(n:Int):Ret E n_Z26 [dI n] ⟨o_Z26,(!pb (0≤n∧n≤3),())⟩:=by
 refine qan ?_
 simp only[run_Z26,Z26.ev]
 exact qab (qb5 _ _ _) qal
theorem qiO(c:List Sim)(st:Sim)(hc:Sm (.sl (.sl (.int .i64))) c)(hs:st.length≤1048576):Ret E n_Z25 [dLL c,dL st] ⟨o_Z25,(pb (SK c st),())⟩:=by
  refine qan ?_
  simp only[run_Z25,Z25.ev]
  refine qdT (fun h=>?_) fun h=>?_
  · simp only[Z25.j0_eq _ qah,cond_true]
    have h:¬ (st.length:Int)=c.length:=by simpa using h
    rw[qas fun hk=>h (by rw[hk.1])];(first | exact qal | exact Ev.of fun _=>trivial)
  have hl : st.length = c.length := by have : (st.length : Int) = c.length := by simpa using h
                                       omega
  refine qab (qaZ st _ hs fun x _=>qhl x) ?_
  simp only[Z25.j0_eq _ qah]
  have e:=qiK (s:=st) (P:=fun x=>0≤x∧x≤3)
  refine qdT (fun h=>?_) fun h=>?_
  · simp only[h] at e
    rw[qas fun hk=>qbK.1 e.symm hk.2.1];(first | exact qal | exact Ev.of fun _=>trivial)
  · simp only[h] at e
    have hst:∀ x∈st,0≤x∧x≤3:=qaL.1 e.symm
    refine Ev.start (p:=fun φ n=>Z25.l1 (mkR (run E (φ 0))) (φ 0) n st 0 c=_) 1 ?_ (fun _ _ _ h=>h)
    refine(qd2 1 (L:=fun φ n k=>Z25.l1 (mkR (run E (φ 0))) (φ 0) n st k c) (len:=4) 0 (by omega) (fun d=>SD c st (d:Int)≤32) (fun b=>some ⟨o_Z25,(b,())⟩) (fun _ _ _ _=>rfl) (fun k h1 h2 hP _=>?_) (fun k r h1 h2 hP _ ih=>?_) (fun _=>?_)).to ?_
    · simp only[Z25.l1_succ _ qah]
      exact qay (decide_eq_true (by omega)) (qab (qfm c st _ _ _ hc hl hst (by omega)) (qay (decide_eq_true (Int.not_le.1 hP)) qal))
    · simp only[Z25.l1_succ _ qah]
      refine qay (decide_eq_true (by omega)) (qab (qfm c st _ _ _ hc hl hst (by omega)) (qaz (decide_eq_false (Int.not_lt.2 hP)) ?_))
      rw[qai (by omega)];exact ih
    · simp only[Z25.l1_succ _ qah]
      exact qaz (decide_eq_false (by omega)) qal
    · exact congrArg (fun b:Bool=>some (⟨o_Z25,(b,())⟩:Dv)) (qaK ⟨fun h=>⟨hl,hst,fun d hd=>h d (by omega) hd⟩,fun h d _ hd=>h.2.2 d hd⟩)
theorem qiT(c:List Sim)(st:Sim)(hc:Sm (.sl (.sl (.int .i64))) c)(hs:st.length≤1048576):Ret E n_Z131 [dC (c,()),dL st] ⟨o_Z131,(pb (SK c st),())⟩:=by
 refine qan ?_
 simp only[run_Z131,Z131.ev]
 refine qab (qex st _ _ hs (by omega)) (qdT (fun h=>?_) fun h=>?_)
 ·have h:=qbK.1 (show pb (qgo st 4∧(st.length:Int)=c.length)=false by simpa using h)
  rw[qas fun hk=>h ⟨hk.2.1,by rw[hk.1]⟩];(first | exact qal | exact Ev.of fun _=>trivial)
 ·have h:=qaL.1 (show pb (qgo st 4∧(st.length:Int)=c.length)=true by simpa using h)
  have hl:st.length=c.length:=by have:=h.2;omega
  have hst:∀ x∈st,0≤x∧x≤3:=h.1
  refine Ev.start (p:=fun φ n=>Z131.l0 (mkR (run E (φ 0))) (φ 0) n (c,()) st 0=_) 1 ?_ (fun _ _ _ h=>h)
  refine(qd2 1 (L:=fun φ n k=>Z131.l0 (mkR (run E (φ 0))) (φ 0) n (c,()) st k) (len:=4) 0 (by omega) (fun d=>SD c st (d:Int)≤32) (fun b=>some ⟨o_Z131,(b,())⟩) (fun _ _ _ _=>rfl) (fun k h1 h2 hP _=>?_) (fun k r h1 h2 hP _ ih=>?_) (fun _=>?_)).to ?_
  ·simp only[Z131.l0_succ _ qah]
   exact qay (decide_eq_true (by omega)) (qab (qhT c st _ hc hl hst (by omega)) (qay (decide_eq_true (Int.not_le.1 hP)) qal))
  ·simp only[Z131.l0_succ _ qah]
   refine qay (decide_eq_true (by omega)) (qab (qhT c st _ hc hl hst (by omega)) (qaz (decide_eq_false (Int.not_lt.2 hP)) ?_))
   rw[qai (by omega)];exact ih
  ·simp only[Z131.l0_succ _ qah]
   exact qaz (decide_eq_false (by omega)) qal
  ·exact congrArg (fun b:Bool=>some (⟨o_Z131,(b,())⟩:Dv)) (qaK ⟨fun h=>⟨hl,hst,fun d hd=>h d (by omega) hd⟩,fun h d _ hd=>h.2.2 d hd⟩)
noncomputable def qbw(c:List Sim)(k:Nat):List Int:=(qa9 (c.getD k [])).map (qdH c)
theorem qnQ{c:List Sim}{s:Sim}:qdH c s<c.length∧-1≤qdH c s:=by
 unfold qdH qkn
 cases h:c.findIdx? (fun x=>pb (x=s)) with
 | none=>simp only[o2i];omega
 | some k =>
  rw[List.findIdx?_eq_some_iff_getElem] at h
  obtain⟨h,_⟩:=h
  simp only[o2i];omega
theorem qcf{c:List Sim}{k:Nat}:(qbw c k).length=if 1<(c.getD k []).length then(c.getD k []).length else 0:=by
 unfold qbw qa9
 rw[List.length_map]
 split<;>simp
theorem qln{c:List Sim}(h:VC c){k:Nat}(hk:k<c.length){x:Int}(hx:x∈qbw c k):0≤x∧x<c.length:=by
 unfold qbw at hx
 rw[List.mem_map] at hx
 obtain⟨f,hf,rfl⟩:=hx
 exact⟨qbj.2 (h.2.2.2 k hk f hf),qnQ.1⟩
theorem qhh(c:List Sim)(k:Nat)(hk:k<c.length)(hc:Sm (.sl (.sl (.int .i64))) c)(hs:Srt c):Ret E n_Z31 [dLL c,dI (k:Int)] ⟨o_Z31,(qbw c k,())⟩:=by
 have hks:(c[k]).length≤1048576:=(qbq hc hk).1
 have hfl:=qcr (s:=c[k])
 refine qan ?_
 simp only[run_Z31,Z31.ev]
 refine qae (qam hk) (qab (qc3 _ hks) ?_)
 refine Ev.start (p:=fun φ n=>Z31.l0 (mkR (run E (φ 0))) (φ 0) n (qa9 c[k]) ((qa9 c[k]).length:Int) 0 c []=_) 1 ?_ (fun _ _ _ h=>h)
 refine qav 1 (L:=fun φ n j a=>Z31.l0 (mkR (run E (φ 0))) (φ 0) n (qa9 c[k]) ((qa9 c[k]).length:Int) j c a) (len:=(qa9 c[k]).length) (fun j=>((qa9 c[k]).take j).map (qdH c)) (fun _ _ _ _ _=>rfl) (fun j r hj ih=>?_) ?_
 ·simp only[Z31.l0_succ _ qah]
  rw[List.take_succ_eq_append_getElem hj,List.map_append] at ih
  refine qay (decide_eq_true (by omega)) (qae (qam hj) (qab (qhi c _ hc hs) (qaw (by simp;omega) ?_)))
  rw[qai (by omega)];exact ih
 ·simp only[Z31.l0_succ _ qah]
  refine qaz (decide_eq_false (by omega)) (qap ?_)
  rw[List.take_of_length_le (Nat.le_refl _),qbw,qao hk]
theorem qjH(c:List Sim)(k:Nat)(hk:k<c.length)(hc:Sm (.sl (.sl (.int .i64))) c):Ret E n_Z116 [dC (c,()),dI (k:Int)] ⟨o_Z116,(qbw c k,())⟩:=by
 have hks:(c[k]).length≤1048576:=(qbq hc hk).1
 refine qan ?_
 simp only[run_Z116,Z116.ev]
 refine qae (qam hk) ?_
 refine Ev.start (p:=fun φ n=>Z116.l0 (mkR (run E (φ 0))) (φ 0) n (c,()) c[k] 0 []=_) 1 ?_ (fun _ _ _ h=>h)
 by_cases hlen:1<(c[k]).length
 ·refine qav 1 (L:=fun φ n j a=>Z116.l0 (mkR (run E (φ 0))) (φ 0) n (c,()) c[k] j a) (len:=(c[k]).length) (fun j=>(List.range j).map fun i=>qdH c ((c[k]).eraseIdx i)) (fun _ _ _ _ _=>rfl) (fun j r hj ih=>?_) ?_
  ·simp only[Z116.l0_succ _ qah]
   rw[List.range_succ,List.map_append] at ih
   refine qay (decide_eq_true (by omega)) ?_
   simp only[show decide (((c[k]).length:Int)>1)=true from decide_eq_true (by omega),Z116.j1_eq _ qah,cond_true]
   refine qab (qgf _ j hj hks) (qab (qce (c,()) _ hc) (qaw (by simp;omega) ?_))
   rw[qai (by omega)];exact ih
  ·simp only[Z116.l0_succ _ qah]
   refine qaz (decide_eq_false (by omega)) ?_
   simp only[Z116.j1_eq _ qah,cond_false]
   refine qap ?_
   rw[qbw,qao hk,qa9,if_pos hlen,List.map_map];rfl
 ·refine Ev.round 1 (L:=fun φ n=>Z116.l0 (mkR (run E (φ 0))) (φ 0) n (c,()) c[k] 0 []) ?_ (fun _ _ _=>rfl)
  have hj:Ev fun φ=>Z116.j1 (mkR (run E (φ 0))) (φ 0) (φ 1) (c,()) c[k] 0 false []=some ⟨o_Z116,(qbw c k,())⟩:=by
   simp only[Z116.j1_eq _ qah,cond_false]
   refine qap ?_
   rw[qbw,qao hk,qa9,if_neg hlen];rfl
  simp only[Z116.l0_succ _ qah]
  refine qew (fun _=>?_) fun _=>hj
  simp only[show decide (((c[k]).length:Int)>1)=false from decide_eq_false (by omega)]
  exact hj
abbrev Arw:=Int×Int×Int×Unit
noncomputable def qkz(c:List Sim)(k i:Nat):List Arw:=(List.range i).map fun(j:Nat)=>((k:Int),(j:Int),(qbw c k).getD j 0,())
noncomputable def qaJ(c:List Sim):Nat→List Arw
 | 0=>[]
 | k+1=>qaJ c k++qkz c k (qbw c k).length
noncomputable def plc(c:List Sim)(k:Nat):Nat:=(qaJ c k).length
theorem qc9{c:List Sim}{k i:Nat}:(qkz c k i).length=i:=by simp[qkz]
theorem qlr{c:List Sim}{k:Nat}:plc c (k+1)=plc c k+(qbw c k).length:=by
 unfold plc;rw[qaJ,List.length_append,qc9]
theorem VC.len4{c:List Sim}(h:VC c){k:Nat}(hk:k<c.length):(c.getD k []).length≤4:=(h.2.1 k hk).2.1
theorem VC.fIdx4{c:List Sim}(h:VC c){k:Nat}(hk:k<c.length):(qbw c k).length≤4:=by
 have:=h.len4 hk
 rw[qcf];split<;>omega
theorem VC.plc{c:List Sim}(h:VC c):∀ {k:Nat},k≤c.length→plc c k≤4*k
 | 0,_=>by simp[VeT.plc,qaJ]
 | k+1,hk=>by
  have h1:=h.plc (k:=k) (by omega)
  have h2:=h.fIdx4 (k:=k) (by omega)
  rw[qlr];omega
theorem qcv{c:List Sim}:∀ {n k i:Nat},k<n→i<(qbw c k).length→(qaJ c n)[plc c k+i]? = some ((k:Int),(i:Int),(qbw c k).getD i 0,())
 | 0,_,_,h,_=>by omega
 | n+1,k,i,h,hi=>by
  rw[qaJ]
  by_cases hk:k<n
  ·have:=qcv hk hi
   have hl:=(List.getElem?_eq_some_iff.1 this).1
   rw[List.getElem?_append_left hl];exact this
  ·obtain rfl:k=n:=by omega
   rw[List.getElem?_append_right (by unfold plc;omega)]
   rw[show plc c k+i-(qaJ c k).length=i by unfold plc;omega]
   simp[qkz,hi]
theorem qd6{c:List Sim}:∀ {n t:Nat},t<(qaJ c n).length→∃ k i,k<n∧i<(qbw c k).length∧t=plc c k+i
 | 0,_,h=>by simp[qaJ] at h
 | n+1,t,h=>by
  by_cases ht:t<(qaJ c n).length
  ·obtain⟨k,i,h1,h2,h3⟩:=qd6 ht
   exact⟨k,i,by omega,h2,h3⟩
  ·rw[qaJ,List.length_append,qc9] at h
   exact⟨n,t-(qaJ c n).length,by omega,by omega,by unfold plc;omega⟩
theorem qh3(c:List Sim)(hc:Sm (.sl (.sl (.int .i64))) c)(hv:VC c):Ret E n_Z27 [dLL c] ⟨o_Z27,(qaJ c c.length,())⟩:=by
 have hs:=hv.srt
 have h48:=hv.1
 refine qan ?_
 simp only[run_Z27,Z27.ev]
 refine qab (qjB _) ?_
 refine Ev.start (p:=fun φ n=>Z27.l0 (mkR (run E (φ 0))) (φ 0) n (c.length:Int) 0 c []=_) 1 ?_ (fun _ _ _ h=>h)
 refine qav 1 (L:=fun φ n k a=>Z27.l0 (mkR (run E (φ 0))) (φ 0) n (c.length:Int) k c a) (len:=c.length) (fun k=>qaJ c k) (fun _ _ _ _ _=>rfl) (fun k r hk ih=>?_) ?_
 ·simp only[Z27.l0_succ _ qah]
  have hpl:=hv.plc (k:=k) (by omega)
  have hf4:=hv.fIdx4 hk
  refine qay (decide_eq_true (by omega)) (qab (qhh c k hk hc hs) ?_)
  refine Ev.start (p:=fun φ n=>Z27.l1 (mkR (run E (φ 0))) (φ 0) (φ 1) n (k:Int) (c.length:Int) (k:Int) (qbw c k) ((qbw c k).length:Int) 0 c (qaJ c k)=_) 2 ?_ (fun _ _ _ h=>h)
  have:=qav 2 (L:=fun φ n j a=>Z27.l1 (mkR (run E (φ 0))) (φ 0) (φ 1) n (k:Int) (c.length:Int) (k:Int) (qbw c k) ((qbw c k).length:Int) j c a) (len:=(qbw c k).length) (fun j=>qaJ c k++qkz c k j) (r:=r) (fun _ _ _ _ _=>rfl) (fun j r hj ih=>?_) ?_
  ·simpa [qkz] using this
  ·simp only[Z27.l1_succ _ qah]
   refine qay (decide_eq_true (by omega)) (qae (qam hj) (qaw (decide_eq_true ?_) ?_))
   ·rw[List.length_append,qc9];show(_+_+1)*24≤_
    have:(qaJ c k).length=plc c k:=rfl
    omega
   ·rw[qai (by omega)]
    have e:qkz c k (j+1)=qkz c k j++[((k:Int),(j:Int),(qbw c k)[j],())]:=by
     unfold qkz;rw[List.range_succ,List.map_append];simp[List.getD_eq_getElem?_getD,hj]
    rw[e,← List.append_assoc] at ih
    exact ih
  ·simp only[Z27.l1_succ _ qah]
   refine qaz (decide_eq_false (by omega)) ?_
   rw[qai (by omega)];exact ih
 ·simp only[Z27.l0_succ _ qah]
  exact qaz (decide_eq_false (by omega)) qal
theorem qkd(c:List Sim)(k i:Nat)(hk:k≤c.length)(hi:i≤1048576)(hv:VC c):Ret E n_Z129 [dC (c,()),dI (k:Int),dI (i:Int)] ⟨o_Z129,(((plc c k+i:Nat):Int),())⟩:=by
 have h48:=hv.1
 refine qan ?_
 simp only[run_Z129,Z129.ev]
 refine Ev.start (p:=fun φ n=>Z129.l0 (mkR (run E (φ 0))) (φ 0) n (c,()) (k:Int) (i:Int) 0 0=_) 1 ?_ (fun _ _ _ h=>h)
 have:=qav 1 (L:=fun φ n j a=>Z129.l0 (mkR (run E (φ 0))) (φ 0) n (c,()) (k:Int) (i:Int) a j) (len:=k) (fun j=>((plc c j:Nat):Int)) (r:=some ⟨o_Z129,(((plc c k+i:Nat):Int),())⟩) (fun _ _ _ _ _=>rfl) (fun j r hj ih=>?_) ?_
 ·exact this
 ·simp only[Z129.l0_succ _ qah]
  have hjc:j<c.length:=by omega
  have hpl:=hv.plc (k:=j) (by omega)
  have h4:=hv.len4 hjc
  have e:=qlr (c:=c) (k:=j)
  rw[qcf] at e
  rw[qao hjc] at e h4
  refine qay (decide_eq_true (by omega)) (qae (qam hjc) (qew (fun hl=>qae (qam hjc) ?_) fun hl=>?_))
  ·rw[if_pos (by omega)] at e
   rw[qai (by omega),qat (by omega) (by omega)]
   rw[e] at ih
   simpa using ih
  ·rw[if_neg (by omega)] at e
   rw[qai (by omega)]
   rw[e] at ih;exact ih
 ·simp only[Z129.l0_succ _ qah]
  have hpl:=hv.plc hk
  refine qaz (decide_eq_false (by omega)) (qap ?_)
  rw[qat (by omega) (by omega)]
  simp
theorem qjQ(c:List Sim)(hv:VC c):Ret E n_Z127 [dC (c,())] ⟨o_Z127,(((plc c c.length:Nat):Int),())⟩:=by
 refine qan ?_
 simp only[run_Z127,Z127.ev]
 exact qab (qkd c c.length 0 (Nat.le_refl _) (by omega) hv) qal
end VeT
open Go Go.Proofs Ve
namespace VeT
def mz:Mat:=(0,0,0,[],())
def QB(p:Int)(st:Sim)(ms:List Mat)(t k:Nat)(f:Int):Prop:=Bt (ms.getD t mz) p (st.getD f.toNat 0) (st.getD k 0)
def VS(c:List Sim)(p:Int)(st:Sim)(ms:List Mat):Prop:=VC c∧Pr p∧SK c st∧plc c c.length=ms.length∧∀ k,k<c.length→∀ i,i<(qbw c k).length→QB p st ms (plc c k+i) k ((qbw c k).getD i 0)
def az:Arw:=(0,0,0,())
def QA(p:Int)(st:Sim)(ms:List Mat)(t:Nat)(a:Arw):Prop:=t<ms.length∧Bt (ms.getD t mz) p (st.getD a.2.2.1.toNat 0) (st.getD a.1.toNat 0)
theorem qmD{c:List Sim}{p:Int}{st:Sim}{ms:List Mat}(hl:plc c c.length=ms.length) :
  (∀ t,0≤t→t<plc c c.length→QA p st ms t ((qaJ c c.length).getD t az))↔∀ k,k<c.length→∀ i,i<(qbw c k).length→QB p st ms (plc c k+i) k ((qbw c k).getD i 0):=by
 constructor
 ·intro h k hk i hi
  have hg:=qcv hk hi
  have hlt:=(List.getElem?_eq_some_iff.1 hg).1
  have:=h (plc c k+i) (by omega) hlt
  rw[List.getD_eq_getElem?_getD,hg] at this
  exact this.2
 ·intro h t _ ht
  obtain⟨k,i,hk,hi,rfl⟩:=qd6 ht
  have hg:=qcv hk hi
  have:=h k hk i hi
  rw[List.getD_eq_getElem?_getD,hg]
  exact⟨by omega,this⟩
theorem qna{ms:List Mat}(h:Sm (.sl (.st cM)) ms){t:Nat}(ht:t<ms.length):Sm (.st cM) ms[t]:=h.2 _ (List.getElem_mem ht)
theorem qci(c:List Sim)(p:Int)(st:Sim)(ms:List Mat)(hc:Sm (.sl (.sl (.int .i64))) c)(hst:st.length≤1048576)(hm:Sm (.sl (.st cM)) ms) :
    Ret E n_Z20 [dLL c,dI p,dL st,dMs ms] ⟨o_Z20,(pb (VS c p st ms),())⟩:=by
  have hm1:ms.length≤1048576:=hm.1
  refine qan ?_
  simp only[run_Z20,Z20.ev]
  have no:¬ VS c p st ms→Ev fun φ=>Z20.j0 (mkR (run E (φ 0))) (φ 0) true c p st ms=some ⟨o_Z20,(pb (VS c p st ms),())⟩:=fun h=>by
    simp only[Z20.j0_eq _ qah,cond_true]
    rw[qas h];(first | exact qal | exact Ev.of fun _=>trivial)
  refine qab (qdc c hc) (qdT (fun h=>no fun hv=>qbK.1 (show pb (VC c)=false by simpa using h) hv.1) fun h=>?_)
  have hv:VC c:=qaL.1 (by simpa using h)
  refine qab (qdV p) (qdT (fun h=>no fun hv=>qbK.1 (show pb (Pr p)=false by simpa using h) hv.2.1) fun h=>?_)
  have hp:Pr p:=qaL.1 (by simpa using h)
  refine qab (qiO c st hc hst) ?_
  by_cases hk:SK c st
  · simp only[qaB hk,Bool.not_true,Z20.j0_eq _ qah,cond_false]
    refine qab (qh3 c hc hv) ?_
    have hpl:=hv.plc (Nat.le_refl _)
    have h48:=hv.1
    refine Ev.start (p:=fun φ n=>Z20.l1 (mkR (run E (φ 0))) (φ 0) n (qaJ c c.length) (qaJ c c.length) ((qaJ c c.length).length:Int) 0 c p st ms=_) 1 ?_ (fun _ _ _ h=>h)
    have get:∀ t (ht:t<plc c c.length),∃ k i,k<c.length∧i<(qbw c k).length∧(qaJ c c.length)[t]? = some ((k:Int),(i:Int),(qbw c k).getD i 0,())∧((qbw c k).getD i 0).toNat<st.length∧0≤(qbw c k).getD i 0:=fun t ht=>by
      obtain⟨k,i,hk',hi,rfl⟩:=qd6 ht
      have hb:=qln hv hk' (List.getElem_mem hi)
      exact⟨k,i,hk',hi,qcv hk' hi,by rw[qao hi,hk.1];omega,by rw[qao hi];omega⟩
    refine(qd2 1 (L:=fun φ n t=>Z20.l1 (mkR (run E (φ 0))) (φ 0) n (qaJ c c.length) (qaJ c c.length) ((qaJ c c.length).length:Int) t c p st ms) (len:=plc c c.length) 0 (by omega) (fun t=>QA p st ms t ((qaJ c c.length).getD t az)) (fun b=>some ⟨o_Z20,(b&&((plc c c.length:Int)==(ms.length:Int)),())⟩) (fun _ _ _ _=>rfl) (fun t h1 h2 hP _=>?_) (fun t r h1 h2 hP _ ih=>?_) (fun _=>?_)).to ?_
    · simp only[Z20.l1_succ _ qah]
      obtain⟨k,i,hkc,hi,hg,hf,hf0⟩:=get t h2
      have hlt:t<(qaJ c c.length).length:=h2
      have hgt:(qaJ c c.length)[t]=((k:Int),(i:Int),(qbw c k).getD i 0,()):=by
        rw[List.getElem?_eq_getElem hlt] at hg;exact Option.some.inj hg
      refine qay (decide_eq_true (by omega)) (qae (qam hlt) ?_)
      rw[qao hlt] at hP
      rw[hgt] at hP ⊢
      refine qew (fun hge=>?_) fun hge=>?_
      · simp only[Z20.j2_eq _ qah,cond_true];(first | exact qal | exact Ev.of fun _=>trivial)
      · have htm:t<ms.length:=by omega
        refine qae (qam htm) ?_
        simp only
        rw[show(qbw c k).getD i 0=((((qbw c k).getD i 0).toNat:Nat):Int) by omega]
        refine qae (qam hf) (qae (qam (show k<st.length by rw[hk.1];exact hkc)) (qab (qeE _ _ _ _ (qna hm htm)) ?_))
        have:¬ Bt ms[t] p st[((qbw c k).getD i 0).toNat] (st[k]'(by rw[hk.1];exact hkc)):=fun hb=>hP ⟨htm,by
          simp only[Int.toNat_natCast]
          rw[qao htm,qao hf,qao (s:=st) (k:=k) (by rw[hk.1];exact hkc)];exact hb⟩
        simp only[qas this,Bool.not_false,Z20.j2_eq _ qah,cond_true];(first | exact qal | exact Ev.of fun _=>trivial)
    · simp only[Z20.l1_succ _ qah]
      obtain⟨k,i,hkc,hi,hg,hf,hf0⟩:=get t h2
      have hlt:t<(qaJ c c.length).length:=h2
      have hgt:(qaJ c c.length)[t]=((k:Int),(i:Int),(qbw c k).getD i 0,()):=by
        rw[List.getElem?_eq_getElem hlt] at hg;exact Option.some.inj hg
      refine qay (decide_eq_true (by omega)) (qae (qam hlt) ?_)
      rw[qao hlt] at hP
      rw[hgt] at hP ⊢
      obtain⟨htm,hb⟩:=hP
      refine qaz (decide_eq_false (by omega)) (qae (qam htm) ?_)
      simp only
      rw[show(qbw c k).getD i 0=((((qbw c k).getD i 0).toNat:Nat):Int) by omega]
      refine qae (qam hf) (qae (qam (show k<st.length by rw[hk.1];exact hkc)) (qab (qeE _ _ _ _ (qna hm htm)) ?_))
      simp only[Int.toNat_natCast] at hb
      rw[qao htm,qao hf,qao (s:=st) (k:=k) (by rw[hk.1];exact hkc)] at hb
      simp only[qaB hb,Bool.not_true,Z20.j2_eq _ qah,cond_false]
      rw[qai (by omega)];exact ih
    · simp only[Z20.l1_succ _ qah]
      exact qaz (decide_eq_false (by show ¬ ((plc c c.length:Nat):Int)<((plc c c.length:Nat):Int);omega)) (qap (by rw[Bool.true_and];rfl))
    · have:(pb (∀ t,0≤t→t<plc c c.length→QA p st ms t ((qaJ c c.length).getD t az))&&((plc c c.length:Int)==(ms.length:Int)))=pb (VS c p st ms):=qiA (by
        rw[Bool.and_eq_true,qaL,beq_iff_eq]
        constructor
        · rintro⟨h1,h2⟩
          have h2:plc c c.length=ms.length:=by omega
          exact⟨hv,hp,hk,h2,(qmD h2).1 h1⟩
        · rintro⟨_,_,_,h2,h1⟩
          exact⟨(qmD h2).2 h1,by omega⟩)
      rw[this]
  · simp only[qas hk,Bool.not_false]
    exact no fun hv=>hk hv.2.2.1
end VeT
open Go Go.Proofs Ve
namespace VeT
end VeT
open Go Go.Proofs Ve
namespace VeT
theorem qmX(s:Sim)(hs:s.length≤1048576):Ret E n_Z69 [dL s] ⟨o_Z69,(s,())⟩:=by
 refine qan ?_
 simp only[run_Z69,Z69.ev,Z69.j0_eq _ qah,cond_true,cond_false]
 have h:Ev fun φ=>(Option.bind (chk (decide ((List.length ([]:List Int)+List.length s)*8≤70368744177664))) fun _=>some (⟨o_Z69,((([]:List Int)++s),())⟩:Dv))=some ⟨o_Z69,(s,())⟩ :=
  qaw (by simp;omega) (qap rfl)
 cases s with
 | nil=>exact qay rfl (qoB qal h)
 | cons a s=>exact qaz rfl h
end VeT
open Go Go.Proofs Ve
namespace VeT
theorem qgo.get{v:Sim}{p:Int}(h:qgo v p)(hp:2≤p∧p≤251)(i:Nat):0≤v.getD i 0∧v.getD i 0≤250:=by
 by_cases hi:i<v.length
 ·rw[qao hi]
  have:=h _ (List.getElem_mem hi)
  omega
 ·rw[List.getD_eq_getElem?_getD,List.getElem?_eq_none (by omega)];simp
theorem VM.nat{m:Mat}(h:VM m):∃ R K:Nat,m=(m.1,(R:Int),(K:Int),m.2.2.2.1,())∧R≤32∧K≤32∧m.2.2.2.1.length=R*K:=by
 obtain⟨p,r,k,c,⟨⟩⟩:=m
 obtain⟨_,h2,h3,h4,_⟩:=h
 simp only at h2 h3 h4
 obtain⟨R,rfl⟩:=Int.eq_ofNat_of_zero_le h2.1
 obtain⟨K,rfl⟩:=Int.eq_ofNat_of_zero_le h3.1
 refine⟨R,K,rfl,by omega,by omega,?_⟩
 rw[qf1] at h4;simp only;omega
theorem qkQ(p:Int)(R C:Nat)(hR:R≤32)(hC:C≤32):Ret E n_Z112 [dI p,dI (R:Int),dI (C:Int)] ⟨o_Z112,(p,(R:Int),(C:Int),List.replicate (R*C) 0,())⟩:=by
 have h1:=qph hR hC
 have e1:w64 ((R:Int)*(C:Int))=((R*C:Nat):Int):=by rw[qf1];exact qat (by omega) (by omega)
 refine qan ?_
 simp only[run_Z112,Z112.ev,e1,Int.toNat_natCast]
 exact qaw (by simp only[Bool.and_eq_true,decide_eq_true_eq];omega) qal
end VeT
open Go Go.Proofs Ve
namespace VeT
theorem qma(a b:Sim)(ha:a.length≤1048576):Ret E n_Z83 [dL a,dL b] ⟨o_Z83,(pb (a=b),())⟩:=by
 refine qan ?_
 simp only[run_Z83,Z83.ev]
 refine qdT (fun h=>qap ?_) fun h=>?_
 ·have h:(a.length:Int)≠b.length:=by simpa using h
  rw[qas fun e=>h (by rw[e])]
 ·have h:(a.length:Int)=b.length:=by simpa using h
  refine Ev.start (p:=fun φ n=>Z83.l0 (mkR (run E (φ 0))) (φ 0) n a b (a.length:Int) 0=_) 1 ?_ (fun _ _ _ h=>h)
  refine(qd2 1 (L:=fun φ n k=>Z83.l0 (mkR (run E (φ 0))) (φ 0) n a b (a.length:Int) k) (len:=a.length) 0 (by omega) (fun j=>a.getD j 0=b.getD j 0) (fun b=>some ⟨o_Z83,(b,())⟩) (fun _ _ _ _=>rfl) (fun k h1 h2 hP _=>?_) (fun k r h1 h2 hP _ ih=>?_) (fun _=>?_)).to ?_
  ·simp only[Z83.l0_succ _ qah]
   have hb:k<b.length:=by omega
   rw[qao h2,qao hb] at hP
   exact qay (decide_eq_true (by omega)) (qae (qam h2) (qae (qam hb) (qay (by simpa using hP) qal)))
  ·simp only[Z83.l0_succ _ qah]
   have hb:k<b.length:=by omega
   rw[qao h2,qao hb] at hP
   refine qay (decide_eq_true (by omega)) (qae (qam h2) (qae (qam hb) (qaz (by simpa using hP) ?_)))
   rw[qai (by omega)];exact ih
  ·simp only[Z83.l0_succ _ qah]
   exact qaz (decide_eq_false (by omega)) qal
  ·refine congrArg (fun b:Bool=>some (⟨o_Z83,(b,())⟩:Dv)) (qaK ⟨fun hh=>List.ext_getElem (by omega) fun j h1 h2=>?_,fun hh j _ _=>by rw[hh]⟩)
   have:=hh j (by omega) h1
   rwa [qao h1,qao h2] at this
noncomputable def mp(c:List Sim)(ms:List Mat)(k i:Nat):Mat:=ms.getD (plc c k+i) mz
noncomputable def fc(c:List Sim)(k i:Nat):Nat:=((qbw c k).getD i 0).toNat
theorem qmz{c:List Sim}{s:Sim}(h:s∈c):c.getD (qdH c s).toNat []=s:=by
 have h0:=qbj.2 h
 unfold qdH qkn at h0 ⊢
 cases hf:c.findIdx? (fun x=>pb (x=s)) with
 | none=>rw[hf] at h0;simp[o2i] at h0
 | some k =>
  rw[List.findIdx?_eq_some_iff_getElem] at hf
  obtain⟨hk,hp,_⟩:=hf
  simp only[o2i,Int.toNat_natCast]
  rw[qao hk];exact qaL.1 hp
theorem qnb{c:List Sim}(h:VC c){k i:Nat}(hk:k<c.length)(hi:i<(qbw c k).length):idx? (qbw c k) (i:Int)=some ((fc c k i:Nat):Int)∧fc c k i<c.length∧c.getD (fc c k i) []=(c.getD k []).eraseIdx i:=by
 have hm:=qln h hk (List.getElem_mem hi)
 have hl:=qcf (c:=c) (k:=k)
 have h1:1<(c.getD k []).length:=Classical.byContradiction fun hn=>by rw[if_neg hn] at hl;omega
 rw[if_pos h1] at hl
 have hfc:(qbw c k)[i]=qdH c ((c.getD k []).eraseIdx i):=by
  have:(qbw c k)[i]? = some (qdH c ((c.getD k []).eraseIdx i)):=by
   unfold qbw qa9
   rw[if_pos h1,List.map_map,List.getElem?_map,List.getElem?_range (by omega)];rfl
  rw[List.getElem?_eq_getElem hi] at this
  exact Option.some.inj this
 have hin:(c.getD k []).eraseIdx i∈c:=h.2.2.2 k hk _ (qdh.2 ⟨h1,i,by omega,rfl⟩)
 unfold fc
 rw[qao hi]
 refine⟨?_,by omega,?_⟩
 ·rw[qam hi];congr 1;omega
 ·rw[hfc];exact qmz hin
theorem VS.map{c:List Sim}{p:Int}{st:Sim}{ms:List Mat}(h:VS c p st ms){k i:Nat}(hk:k<c.length)(hi:i<(qbw c k).length):plc c k+i<ms.length∧Bt (mp c ms k i) p (st.getD (fc c k i) 0) (st.getD k 0):=by
 have hg:=qcv hk hi
 have hlt:=(List.getElem?_eq_some_iff.1 hg).1
 exact⟨by rw[← h.2.2.2.1];exact hlt,h.2.2.2.2 k hk i hi⟩
structure Sq (c:List Sim) (p:Int) (st:Sim) (ms:List Mat) (k i j:Nat):Prop where
 kl:k<c.length
 n3:3≤(c.getD k []).length
 il:i<(c.getD k []).length
 jl:j+1<(c.getD k []).length
 v:VS c p st ms
theorem Sq.hi{c p st ms k i j}(h:Sq c p st ms k i j):i<(qbw c k).length:=by
 have:=h.n3;have:=h.il
 rw[qcf,if_pos (by omega)];exact this
theorem Sq.fk{c p st ms k i j}(h:Sq c p st ms k i j):fc c k i<c.length:=(qnb h.v.1 h.kl h.hi).2.1
theorem Sq.hj{c p st ms k i j}(h:Sq c p st ms k i j):j<(qbw c (fc c k i)).length:=by
 have h1:=h.n3;have h2:=h.il;have h3:=h.jl
 have e:=(qnb h.v.1 h.kl h.hi).2.2
 rw[qcf,e,List.length_eraseIdx,if_pos h2,if_pos (by omega)];omega
theorem Sq.b1{c p st ms k i j}(h:Sq c p st ms k i j):VM (mp c ms k i):=((h.v.map h.kl h.hi).2).1
theorem Sq.b2{c p st ms k i j}(h:Sq c p st ms k i j):VM (mp c ms (fc c k i) j):=((h.v.map h.fk h.hj).2).1
theorem Sq.sh{c p st ms k i j}(h:Sq c p st ms k i j):(mp c ms k i).2.2.1=(mp c ms (fc c k i) j).2.1:=by
 rw[((h.v.map h.kl h.hi).2).2.2.2,((h.v.map h.fk h.hj).2).2.2.1]
end VeT
open Go Go.Proofs Ve
namespace VeT
def qaF(l:Sim):Tx:=if l=[] then [45] else Go.Lib.join (l.map Go.Lib.itoa) [44]
def qe6(l:Sim):Prop:=l.length≤64∧∀ x∈l,-1000000000000≤x∧x≤1000000000000
open Classical in
noncomputable def qdO(l:Sim):Tx:=if qe6 l then qaF l else []
theorem qcQ{ls:List Tx}{s:Tx}{b:Nat}(h:∀ x∈ls,x.length≤b):(Go.Lib.join ls s).length≤ls.length*(s.length+b):=by
 have key:∀ r:List Tx,(∀ x∈r,x.length≤b)→(Go.Lib.joinTail s r).length≤r.length*(s.length+b):=by
  intro r
  induction r with
  | nil=>intro _;simp[Go.Lib.joinTail]
  | cons y r ih =>
   intro hr
   have h1:=ih fun x hx=>hr x (List.mem_cons_of_mem _ hx)
   have h2:=hr y List.mem_cons_self
   have e:Go.Lib.joinTail s (y::r)=s++y++Go.Lib.joinTail s r:=by simp[Go.Lib.joinTail]
   rw[e,List.length_append,List.length_append,List.length_cons,Nat.succ_mul]
   omega
 cases ls with
 | nil=>rw[Go.Lib.join_nil];simp
 | cons x r =>
  rw[Go.Lib.join_cons,List.length_append,List.length_cons,Nat.succ_mul]
  have h1:=key r fun y hy=>h y (List.mem_cons_of_mem _ hy)
  have h2:=h x List.mem_cons_self
  omega
theorem qjR{ls:List Tx}{s:Tx}{k:Nat}(hk:k<ls.length):Go.Lib.join (ls.take (k+1)) s=if k=0 then ls[k] else Go.Lib.join (ls.take k) s++s++ls[k]:=by
 cases ls with
 | nil=>simp at hk
 | cons x r =>
  cases k with
  | zero=>rw[if_pos rfl];simp[Go.Lib.join_one]
  | succ k =>
   rw[if_neg (by omega),List.take_succ_cons,List.take_succ_cons,Go.Lib.join_cons,Go.Lib.join_cons]
   have hk':k<r.length:=by simpa using hk
   rw[Go.Lib.joinTail_take_succ s r k r[k] (List.getElem?_eq_getElem hk')]
   simp[List.append_assoc]
theorem qoP(n:Int):Go.Lib.itoa n≠[]:=by
 have h:∀ u,Go.Lib.decDigits u≠[]:=fun u e=>by
  have h1:=Go.Lib.decDigits_length u
  have h2:=Go.Lib.nDigits_pos u
  rw[e] at h1
  simp at h1;omega
 unfold Go.Lib.itoa
 split
 ·simp
 ·exact h _
theorem qmM{ls:List Tx}{s:Tx}(h:ls≠[])(h2:∀ x∈ls,x≠[]):Go.Lib.join ls s≠[]:=by
 cases ls with
 | nil=>exact absurd rfl h
 | cons x r =>
  rw[Go.Lib.join_cons]
  have:=h2 x List.mem_cons_self
  intro e
  exact this (List.append_eq_nil_iff.1 e).1
theorem qnz(l:Sim):qaF l≠[]:=by
 unfold qaF
 split
 ·simp
 ·rename_i h
  exact qmM (by simpa using h) fun x hx=>by
   obtain⟨n,_,rfl⟩:=List.mem_map.1 hx
   exact qoP n
theorem qeC{l:Sim}(h:∀ x∈l,-1000000000000≤x∧x≤1000000000000):(qaF l).length≤1+l.length*22:=by
  unfold qaF
  split
  · simp
  · have:=qcQ (ls:=l.map Go.Lib.itoa) (s:=[44]) (b:=21) fun x hx=>by
      obtain⟨n,hn,rfl⟩:=List.mem_map.1 hx
      have:=h n hn
      exact Go.Lib.itoa_length_le n (by omega) (by omega)
    rw[List.length_map,List.length_singleton] at this
    omega
theorem qkS(n:Int):Ret E n_Z42 [dI n] ⟨o_Z42,(pb (-1000000000000≤n∧n≤1000000000000),())⟩:=by
 refine qan ?_
 simp only[run_Z42,Z42.ev]
 exact qab (qb5 n (-1000000000000) 1000000000000) qal
theorem qhE(n:Int):Ret E n_Z10 [dI n] ⟨o_Z10,(!pb (-1000000000000≤n∧n≤1000000000000),())⟩:=by
 refine qan ?_
 simp only[run_Z10,Z10.ev]
 exact qab (qkS n) qal
theorem qcp(l:Sim)(hl:l.length≤1048576):Ret E n_Z9 [dL l] ⟨o_Z9,(tx (qdO l),())⟩:=by
 refine qan ?_
 simp only[run_Z9,Z9.ev]
 have bad:¬ qe6 l→Ev fun φ=>Z9.j0 (mkR (run E (φ 0))) (φ 0) l true=some ⟨o_Z9,(tx (qdO l),())⟩:=fun h=>by
  simp only[Z9.j0_eq _ qah]
  rw[qdO,if_neg h]
  exact qay rfl qal
 refine qew (fun h=>bad fun hf=>?_) fun h=>?_
 ·have:=hf.1;omega
 ·refine qab (qa5 l _ hl fun x _=>qhE x) ?_
  by_cases hx:∃ x∈l,(!pb (-1000000000000≤x∧x≤1000000000000))=true
  ·rw[qaB hx]
   refine bad fun hf=>?_
   obtain⟨x,h1,h2⟩:=hx
   rw[qaB (hf.2 x h1)] at h2;cases h2
  ·rw[qas hx]
   have hf:qe6 l:=⟨by omega,fun x hx2=>Classical.byContradiction fun hn=>hx ⟨x,hx2,by rw[qas hn];rfl⟩⟩
   simp only[Z9.j0_eq _ qah]
   rw[qdO,if_pos hf]
   refine qaz rfl ?_
   by_cases h0:l=[]
   ·subst h0
    exact qay rfl qal
   ·have hl0:0<l.length:=List.length_pos_iff.2 h0
    refine qaz (by rw[beq_eq_false_iff_ne];omega) ?_
    rw[qaF,if_neg h0]
    refine Ev.start (p:=fun φ n=>Z9.l1 (mkR (run E (φ 0))) (φ 0) n l (l.length:Int) 0 []=_) 1 ?_ (fun _ _ _ h=>h)
    refine qav 1 (L:=fun φ n k o=>Z9.l1 (mkR (run E (φ 0))) (φ 0) n l (l.length:Int) k o) (len:=l.length) (fun k=>((l.map Go.Lib.itoa).take k).map tx) (fun _ _ _ _ _=>rfl) (fun k r hk ih=>?_) ?_
    ·simp only[Z9.l1_succ _ qah]
     have hb:=hf.2 l[k] (List.getElem_mem hk)
     have hlk:(((l.map Go.Lib.itoa).take k).map tx).length=k:=by simp;omega
     refine qay (decide_eq_true (by omega)) (qae (qam hk) (qab (qgV l[k] (by omega) (by omega)) (qaw (decide_eq_true (by simp only[hlk,List.length_singleton];have:=hf.1;omega)) ?_)))
     rw[qai (by omega)]
     have e:((l.map Go.Lib.itoa).take (k+1)).map tx=((l.map Go.Lib.itoa).take k).map tx++[tx (Go.Lib.itoa l[k])]:=by
      rw[List.take_succ_eq_append_getElem (by simpa using hk),List.map_append,List.getElem_map];rfl
     rw[e] at ih
     exact ih
    ·simp only[Z9.l1_succ _ qah]
     refine qaz (decide_eq_false (by omega)) ?_
     have e:(l.map Go.Lib.itoa).take l.length=l.map Go.Lib.itoa:=List.take_of_length_le (by simp)
     rw[e]
     have hj:=qcQ (ls:=l.map Go.Lib.itoa) (s:=[44]) (b:=21) fun x hx=>by
      obtain⟨n,hn,rfl⟩:=List.mem_map.1 hx
      have:=hf.2 n hn
      exact Go.Lib.itoa_length_le n (by omega) (by omega)
     rw[List.length_map,List.length_singleton] at hj
     have:=hf.1
     exact qab (qin (l.map Go.Lib.itoa) [44] (by omega) (by simp;omega)) qal
theorem qkJ(l:Sim)(hl:l.length≤1048576)(hb:∀ x∈l,-1000000000000≤x∧x≤1000000000000):Ret E n_Z107 [dL l] ⟨o_Z107,(tx (qaF l),())⟩:=by
 refine qan ?_
 simp only[run_Z107,Z107.ev]
 by_cases h0:l=[]
 ·subst h0
  exact qay rfl qal
 have hl0:0<l.length:=List.length_pos_iff.2 h0
 refine qaz (by rw[beq_eq_false_iff_ne];omega) ?_
 rw[qaF,if_neg h0]
 have hi:∀ k,k<l.length→(Go.Lib.itoa (l.getD k 0)).length≤21:=fun k hk=>by
  rw[qao hk]
  have:=hb l[k] (List.getElem_mem hk)
  exact Go.Lib.itoa_length_le _ (by omega) (by omega)
 have hj:∀ k,k≤l.length→(Go.Lib.join ((l.map Go.Lib.itoa).take k) [44]).length≤k*22:=fun k hk=>by
  have:=qcQ (ls:=(l.map Go.Lib.itoa).take k) (s:=[44]) (b:=21) fun x hx=>by
   obtain⟨n,hn,rfl⟩:=List.mem_map.1 (List.mem_of_mem_take hx)
   have:=hb n hn
   exact Go.Lib.itoa_length_le n (by omega) (by omega)
  rw[List.length_take,List.length_map,List.length_singleton,Nat.min_eq_left hk] at this
  exact this
 refine Ev.start (p:=fun φ n=>Z107.l0 (mkR (run E (φ 0))) (φ 0) n l (tx []) 0=_) 1 ?_ (fun _ _ _ h=>h)
 refine qav 1 (L:=fun φ n k o=>Z107.l0 (mkR (run E (φ 0))) (φ 0) n l o k) (len:=l.length) (fun k=>tx (Go.Lib.join ((l.map Go.Lib.itoa).take k) [44])) (fun _ _ _ _ _=>rfl) (fun k r hk ih=>?_) ?_
 ·simp only[Z107.l0_succ _ qah,Z107.j1_eq _ qah]
  have hbk:=hb l[k] (List.getElem_mem hk)
  have hd:l[k].natAbs<10 ^ 18:=by omega
  have hjk:=hj k (by omega)
  have hik:=hi k hk
  rw[qao hk] at hik
  have hkm:k<(l.map Go.Lib.itoa).length:=by simpa using hk
  rw[qjR hkm] at ih
  rw[List.getElem_map] at ih
  refine qay (decide_eq_true (by omega)) (qew (fun h=>?_) fun h=>?_)
  ·rw[if_neg (show ¬ k=0 by omega)] at ih
   refine qaw (decide_eq_true (by show(tx _).size+(tx [44]).size≤_;rw[qaT,qaT,List.length_singleton];omega)) ?_
   refine qae (qam hk) (qab (qhL l[k] hd) (qaw (decide_eq_true ?_) ?_))
   ·show(tx _++tx [44]).size+(tx _).size≤_
    rw[qfu,qaT,qaT,List.length_append,List.length_singleton];omega
   ·rw[qai (by omega)]
    have e:tx (Go.Lib.join ((l.map Go.Lib.itoa).take k) [44])++tx [44]++tx (Go.Lib.itoa l[k])=tx (Go.Lib.join ((l.map Go.Lib.itoa).take k) [44]++[44]++Go.Lib.itoa l[k]):=by rw[qfu,qfu]
    rw[← e] at ih
    exact ih
  ·obtain rfl:k=0:=by omega
   rw[if_pos rfl] at ih
   refine qae (qam hk) (qab (qhL l[0] hd) (qaw (decide_eq_true ?_) ?_))
   ·show(tx _).size+(tx _).size≤_
    rw[qaT,qaT];omega
   ·rw[qai (by omega)]
    have e:tx (Go.Lib.join ((l.map Go.Lib.itoa).take 0) [44])++tx (Go.Lib.itoa l[0])=tx (Go.Lib.itoa l[0]):=by rw[qfu,List.take_zero,Go.Lib.join_nil,List.nil_append]
    show Ev fun φ=>Z107.l0 (mkR (run E (φ 0))) (φ 0) (φ 1) l (tx (Go.Lib.join ((l.map Go.Lib.itoa).take 0) [44])++tx (Go.Lib.itoa l[0])) ((0+1:Nat):Int)=r
    rw[e]
    exact ih
 ·simp only[Z107.l0_succ _ qah]
  refine qaz (decide_eq_false (by omega)) ?_
  have e:(l.map Go.Lib.itoa).take l.length=l.map Go.Lib.itoa:=List.take_of_length_le (by simp)
  rw[e]
  exact qal
noncomputable def qdd(c:List Sim):Nat→Sim
 | 0=>[]
 | k+1=>if (qek c (c.getD k []) c.length).length=1 then qdd c k++[(k:Int)] else qdd c k
theorem qgc{c:List Sim}:∀ {n:Nat} {x:Int},x∈qdd c n→0≤x∧x<(n:Int)
 | 0,x,h=>by cases h
 | n+1,x,h=>by
  unfold qdd at h
  split at h
  ·rcases List.mem_append.1 h with h | h
   ·have:=qgc h;omega
   ·rw[List.mem_singleton] at h;omega
  ·have:=qgc h;omega
theorem qc2{c:List Sim}:∀ {n:Nat},(qdd c n).length≤n
 | 0=>Nat.le_refl _
 | n+1=>by
  have:=qc2 (c:=c) (n:=n)
  unfold qdd
  split
  ·rw[List.length_append,List.length_singleton];omega
  ·omega
theorem qmb(c:List Sim)(hc:Sm (.sl (.sl (.int .i64))) c):Ret E n_Z33 [dLL c] ⟨o_Z33,(qdd c c.length,())⟩:=by
 have hc1:c.length≤1048576:=hc.1
 refine qan ?_
 simp only[run_Z33,Z33.ev]
 refine qab (qjB c) ?_
 refine Ev.start (p:=fun φ n=>Z33.l0 (mkR (run E (φ 0))) (φ 0) n (c.length:Int) 0 c []=_) 1 ?_ (fun _ _ _ h=>h)
 refine qav 1 (L:=fun φ n k o=>Z33.l0 (mkR (run E (φ 0))) (φ 0) n (c.length:Int) k c o) (len:=c.length) (fun k=>qdd c k) (fun _ _ _ _ _=>rfl) (fun k r hk ih=>?_) ?_
 ·simp only[Z33.l0_succ _ qah]
  have hfl:=qc2 (c:=c) (n:=k)
  refine qay (decide_eq_true (by omega)) (qab (qml c k hk hc) ?_)
  rw[qdd,qao hk] at ih
  by_cases h:(qek c c[k] c.length).length=1
  ·rw[if_pos h] at ih
   refine qay (by show((((qek c c[k] c.length).length:Nat):Int)==1)=true;rw[h];rfl) (qaw (decide_eq_true (by simp only[List.length_singleton];omega)) ?_)
   rw[qai (by omega)];exact ih
  ·rw[if_neg h] at ih
   refine qaz (by show((((qek c c[k] c.length).length:Nat):Int)==1)=false;rw[beq_eq_false_iff_ne];omega) ?_
   rw[qai (by omega)];exact ih
 ·simp only[Z33.l0_succ _ qah]
  exact qaz (decide_eq_false (by omega)) qal
theorem qi5(c:Cpx)(hc:Sm (.sl (.sl (.int .i64))) c.1):Ret E n_Z117 [dC c] ⟨o_Z117,(qdd c.1 c.1.length,())⟩:=by
 have hc1:c.1.length≤1048576:=hc.1
 refine qan ?_
 simp only[run_Z117,Z117.ev]
 refine Ev.start (p:=fun φ n=>Z117.l0 (mkR (run E (φ 0))) (φ 0) n c 0 []=_) 1 ?_ (fun _ _ _ h=>h)
 refine qav 1 (L:=fun φ n k o=>Z117.l0 (mkR (run E (φ 0))) (φ 0) n c k o) (len:=c.1.length) (fun k=>qdd c.1 k) (fun _ _ _ _ _=>rfl) (fun k r hk ih=>?_) ?_
 ·simp only[Z117.l0_succ _ qah]
  have hfl:=qc2 (c:=c.1) (n:=k)
  refine qay (decide_eq_true (by omega)) (qae (qam hk) (qab (qlb c c.1[k] (qbq hc hk).1 hc) ?_))
  rw[qdd,qao hk] at ih
  by_cases h:(qek c.1 c.1[k] c.1.length).length=1
  ·rw[if_pos h] at ih
   refine qay (by show((((qek c.1 c.1[k] c.1.length).length:Nat):Int)==1)=true;rw[h];rfl) (qaw (decide_eq_true (by simp only[List.length_singleton];omega)) ?_)
   rw[qai (by omega)];exact ih
  ·rw[if_neg h] at ih
   refine qaz (by show((((qek c.1 c.1[k] c.1.length).length:Nat):Int)==1)=false;rw[beq_eq_false_iff_ne];omega) ?_
   rw[qai (by omega)];exact ih
 ·simp only[Z117.l0_succ _ qah]
  exact qaz (decide_eq_false (by omega)) qal
noncomputable def qcB(c:List Sim):List Tx:=(qdd c c.length).map fun k=>qaF (c.getD k.toNat [])
noncomputable def qbN(c:List Sim):Tx:=if qdd c c.length=[] then [45] else Go.Lib.join (qcB c) [47]
open Classical in
noncomputable def qof(c:List Sim):Tx:=if VC c then qbN c else []
theorem qgG{s:Sim}(h:Vx s):qe6 s∧s.length≤4:=⟨⟨by have:=h.2.1;omega,fun x hx=>by have:=h.2.2.2 x hx;omega⟩,h.2.1⟩
theorem qiN{c:List Sim}(h:VC c):∀ x∈qcB c,x.length≤89:=fun x hx=>by
 obtain⟨k,hk,rfl⟩:=List.mem_map.1 hx
 have hm:=qgc hk
 obtain⟨h1,h2⟩:=qgG (h.2.1 k.toNat (by omega))
 have:=qeC h1.2
 omega
theorem qoe{c:List Sim}(hv:VC c){k:Nat}(hk:k<(qdd c c.length).length):∃ j:Nat,(qdd c c.length)[k]=(j:Int)∧∃ hj:j<c.length,qe6 c[j]∧c[j].length≤4∧(qcB c)[k]? = some (qaF c[j]):=by
 have hm:=qgc (List.getElem_mem hk)
 obtain⟨j,hj⟩:=Int.eq_ofNat_of_zero_le hm.1
 have hjl:j<c.length:=by omega
 obtain⟨h1,h2⟩:=qgG (hv.2.1 j hjl)
 rw[qao hjl] at h1 h2
 refine⟨j,hj,hjl,h1,h2,?_⟩
 unfold qcB
 rw[List.getElem?_map,List.getElem?_eq_getElem hk,Option.map_some,hj,Int.toNat_natCast,qao hjl]
theorem qdi(c:List Sim)(hc:Sm (.sl (.sl (.int .i64))) c):Ret E n_Z7 [dLL c] ⟨o_Z7,(tx (qof c),())⟩:=by
 refine qan ?_
 simp only[run_Z7,Z7.ev]
 refine qab (qdc c hc) ?_
 by_cases hv:¬ VC c
 ·rw[qof,if_neg hv]
  exact qay (by rw[qas hv];rfl) qal
 replace hv:=Classical.not_not.1 hv
 rw[qof,if_pos hv]
 refine qaz (by rw[qaB hv];rfl) (qab (qmb c hc) ?_)
 have h48:=hv.1
 have hfl:=qc2 (c:=c) (n:=c.length)
 have hftl:(qcB c).length=(qdd c c.length).length:=List.length_map _
 refine Ev.start (p:=fun φ n=>Z7.l0 (mkR (run E (φ 0))) (φ 0) n (qdd c c.length) ((qdd c c.length).length:Int) 0 c []=_) 1 ?_ (fun _ _ _ h=>h)
 refine qav 1 (L:=fun φ n k o=>Z7.l0 (mkR (run E (φ 0))) (φ 0) n (qdd c c.length) ((qdd c c.length).length:Int) k c o) (len:=(qdd c c.length).length) (fun k=>((qcB c).take k).map tx) (fun _ _ _ _ _=>rfl) (fun k r hk ih=>?_) ?_
 ·simp only[Z7.l0_succ _ qah]
  obtain⟨j,e1,hj,hf,h4,e2⟩:=qoe hv hk
  have hlk:(((qcB c).take k).map tx).length=k:=by simp;omega
  refine qay (decide_eq_true (by omega)) (qae (qam hk) ?_)
  rw[e1]
  refine qae (qam hj) (qab (qcp c[j] (by omega)) (qaw (decide_eq_true (by simp only[hlk,List.length_singleton];omega)) ?_))
  rw[qai (by omega)]
  have e:((qcB c).take (k+1)).map tx=((qcB c).take k).map tx++[tx (qdO c[j])]:=by
   have hk2:k<(qcB c).length:=by omega
   rw[List.take_succ_eq_append_getElem hk2,List.map_append]
   rw[List.getElem?_eq_getElem hk2] at e2
   rw[Option.some.inj e2,qdO,if_pos hf];rfl
  rw[e] at ih
  exact ih
 ·simp only[Z7.l0_succ _ qah]
  refine qaz (decide_eq_false (by omega)) ?_
  have e:(qcB c).take (qdd c c.length).length=qcB c:=List.take_of_length_le (by omega)
  rw[e]
  by_cases h0:qdd c c.length=[]
  ·rw[qbN,if_pos h0]
   have:qcB c=[]:=by unfold qcB;rw[h0];rfl
   rw[this]
   exact qay rfl qal
  ·rw[qbN,if_neg h0]
   have hl0:0<(qdd c c.length).length:=List.length_pos_iff.2 h0
   refine qaz (by rw[beq_eq_false_iff_ne,List.length_map];omega) ?_
   have hj:=qcQ (ls:=qcB c) (s:=[47]) (b:=89) (qiN hv)
   rw[hftl,List.length_singleton] at hj
   exact qab (qin (qcB c) [47] (by omega) (by omega)) qal
theorem qli(c:Cpx)(hc:Sm (.sl (.sl (.int .i64))) c.1)(hv:VC c.1):Ret E n_Z126 [dC c] ⟨o_Z126,(tx (qbN c.1),())⟩:=by
 refine qan ?_
 simp only[run_Z126,Z126.ev]
 refine qab (qi5 c hc) ?_
 obtain⟨c,⟨⟩⟩:=c
 have h48:=hv.1
 simp only at hc hv h48
 have hfl:=qc2 (c:=c) (n:=c.length)
 have hftl:(qcB c).length=(qdd c c.length).length:=List.length_map _
 have hj:∀ k,k≤(qcB c).length→(Go.Lib.join ((qcB c).take k) [47]).length≤k*90:=fun k hk=>by
  have:=qcQ (ls:=(qcB c).take k) (s:=[47]) (b:=89) fun x hx=>qiN hv x (List.mem_of_mem_take hx)
  rw[List.length_take,List.length_singleton,Nat.min_eq_left hk] at this
  exact this
 refine Ev.start (p:=fun φ n=>Z126.l0 (mkR (run E (φ 0))) (φ 0) n (c,()) (qdd c c.length) (tx []) 0=_) 1 ?_ (fun _ _ _ h=>h)
 refine qav 1 (L:=fun φ n k o=>Z126.l0 (mkR (run E (φ 0))) (φ 0) n (c,()) (qdd c c.length) o k) (len:=(qdd c c.length).length) (fun k=>tx (Go.Lib.join ((qcB c).take k) [47])) (fun _ _ _ _ _=>rfl) (fun k r hk ih=>?_) ?_
 ·simp only[Z126.l0_succ _ qah,Z126.j1_eq _ qah]
  obtain⟨j,e1,hjl,hf,h4,e2⟩:=qoe hv hk
  have hk2:k<(qcB c).length:=by omega
  have hjk:=hj k (by omega)
  have hlt:=qeC hf.2
  rw[qjR hk2] at ih
  rw[List.getElem?_eq_getElem hk2] at e2
  rw[Option.some.inj e2] at ih
  have hl:=qkJ c[j] (by omega) hf.2
  refine qay (decide_eq_true (by omega)) (qew (fun h=>?_) fun h=>?_)
  ·rw[if_neg (show ¬ k=0 by omega)] at ih
   refine qaw (decide_eq_true (by show(tx _).size+(tx [47]).size≤_;rw[qaT,qaT,List.length_singleton];omega)) (qae (qam hk) ?_)
   rw[e1]
   refine qae (qam hjl) (qab hl (qaw (decide_eq_true ?_) ?_))
   ·show(tx _++tx [47]).size+(tx _).size≤_
    rw[qfu,qaT,qaT,List.length_append,List.length_singleton];omega
   ·rw[qai (by omega)]
    have e:tx (Go.Lib.join ((qcB c).take k) [47])++tx [47]++tx (qaF c[j])=tx (Go.Lib.join ((qcB c).take k) [47]++[47]++qaF c[j]):=by rw[qfu,qfu]
    rw[← e] at ih
    exact ih
  ·obtain rfl:k=0:=by omega
   rw[if_pos rfl] at ih
   refine qae (qam hk) ?_
   rw[e1]
   refine qae (qam hjl) (qab hl (qaw (decide_eq_true ?_) ?_))
   ·show(tx _).size+(tx _).size≤_
    rw[qaT,qaT];omega
   ·rw[qai (by omega)]
    have e:tx (Go.Lib.join ((qcB c).take 0) [47])++tx (qaF c[j])=tx (qaF c[j]):=by rw[qfu,List.take_zero,Go.Lib.join_nil,List.nil_append]
    show Ev fun φ=>Z126.l0 (mkR (run E (φ 0))) (φ 0) (φ 1) (c,()) (qdd c c.length) (tx (Go.Lib.join ((qcB c).take 0) [47])++tx (qaF c[j])) ((0+1:Nat):Int)=r
    rw[e]
    exact ih
 ·simp only[Z126.l0_succ _ qah]
  refine qaz (decide_eq_false (by omega)) ?_
  have e:(qcB c).take (qdd c c.length).length=qcB c:=List.take_of_length_le (by omega)
  rw[e]
  by_cases h0:qdd c c.length=[]
  ·rw[qbN,if_pos h0]
   have:qcB c=[]:=by unfold qcB;rw[h0];rfl
   rw[this]
   exact qay (by rw[beq_iff_eq];rfl) qal
  ·rw[qbN,if_neg h0]
   refine qaz ?_ qal
   have hne:Go.Lib.join (qcB c) [47]≠[]:=qmM (by unfold qcB;simpa using h0) fun x hx=>by
    obtain⟨k,_,rfl⟩:=List.mem_map.1 hx
    exact qnz _
   rw[beq_eq_false_iff_ne]
   intro he
   rw[ByteArray.toList_eq,ByteArray.toList_eq] at he
   exact hne ((qcC _).symm.trans he)
end VeT
open Go Go.Proofs Ve
namespace VeT
def spl(b:UInt8):Tx→List Tx
 | []=>[[]]
 | c::r=>if c=b then []::spl b r else(c::(spl b r).headD [])::(spl b r).tail
theorem qf4(b:UInt8)(l:Tx):∃ x t,spl b l=x::t:=by
 cases l with
 | nil=>exact⟨_,_,rfl⟩
 | cons c r=>unfold spl;split<;>exact⟨_,_,rfl⟩
theorem qot(b:UInt8)(l:Tx):spl b l≠[]:=by
 obtain⟨x,t,h⟩:=qf4 b l
 rw[h];exact List.cons_ne_nil _ _
theorem qgy{b:UInt8}{r:Tx}:spl b (b::r)=[]::spl b r:=by rw[spl,if_pos rfl]
theorem qcU{b c:UInt8}{r x:Tx}{t:List Tx}(h:c≠b)(e:spl b r=x::t):spl b (c::r)=(c::x)::t:=by rw[spl,if_neg h,e];rfl
theorem qcY(x s:Tx)(r:List Tx):Go.Lib.joinTail s (x::r)=s++x++Go.Lib.joinTail s r:=by simp[Go.Lib.joinTail]
theorem qiM(b:UInt8):∀ l:Tx,Go.Lib.join (spl b l) [b]=l
 | []=>Go.Lib.join_one _ _
 | c::r=>by
  have ih:=qiM b r
  obtain⟨x,t,e⟩:=qf4 b r
  rw[e,Go.Lib.join_cons] at ih
  by_cases h:c=b
  ·subst h
   rw[qgy,e,Go.Lib.join_cons,qcY,List.nil_append,List.append_assoc,ih];rfl
  ·rw[qcU h e,Go.Lib.join_cons,List.cons_append,ih]
theorem qgw{b:UInt8}:∀ {x:Tx},b∉x→spl b x=[x]
 | [],_=>rfl
 | c::x,h=>qcU (fun e=>h (e ▸ List.mem_cons_self)) (qgw fun hm=>h (List.mem_cons_of_mem _ hm))
theorem qkw{b:UInt8}:∀ {x r:Tx},b∉x→spl b (x++b::r)=x::spl b r
 | [],r,_=>qgy
 | c::x,r,h=>qcU (fun e=>h (e ▸ List.mem_cons_self)) (qkw fun hm=>h (List.mem_cons_of_mem _ hm))
theorem qc6{b:UInt8}:∀ {ls:List Tx},ls≠[]→(∀ x∈ls,b∉x)→spl b (Go.Lib.join ls [b])=ls
 | [],h,_=>absurd rfl h
 | [x],_,h=>by rw[Go.Lib.join_one];exact qgw (h x List.mem_cons_self)
 | x::y::r,_,h=>by
  have ih:=qc6 (b:=b) (ls:=y::r) (List.cons_ne_nil _ _) fun z hz=>h z (List.mem_cons_of_mem _ hz)
  have e:Go.Lib.join (x::y::r) [b]=x++b::Go.Lib.join (y::r) [b]:=by
   rw[Go.Lib.join_cons,qcY,Go.Lib.join_cons,List.append_assoc];rfl
  rw[e,qkw (h x List.mem_cons_self),ih]
theorem qdw{b:UInt8}:∀ {l:Tx},(spl b l).length≤l.length+1
 | []=>Nat.le_refl _
 | c::r=>by
  have ih:=qdw (b:=b) (l:=r)
  by_cases hc:c=b
  ·subst hc;rw[qgy,List.length_cons,List.length_cons];omega
  ·obtain⟨x,t,e⟩:=qf4 b r
   rw[e] at ih
   rw[qcU hc e,List.length_cons,List.length_cons]
   rw[List.length_cons] at ih
   omega
theorem qii(b:UInt8):∀ l:Tx,Go.Lib.splitK [b] 0 (Go.Lib.count l [b]) l=spl b l
 | []=>by
  rw[Go.Lib.count_miss (by simp[Go.Lib.index])];rfl
 | c::r=>by
  have ih:=qii b r
  by_cases hc:c=b
  ·subst hc
   have hix:Go.Lib.index (c::r) [c]=((0:Nat):Int):=by rw[Go.Lib.index];simp[List.isPrefixOf]
   rw[Go.Lib.count_cons_eq,qgy,← ih,Nat.add_comm,Go.Lib.splitK,hix]
   rfl
  ·have hp:([b]:Tx).isPrefixOf (c::r)=false:=by simp[List.isPrefixOf,Ne.symm hc]
   have hix:Go.Lib.index (c::r) [b]=if Go.Lib.index r [b]==-1 then -1 else Go.Lib.index r [b]+1:=by rw[Go.Lib.index,hp];simp
   rw[Go.Lib.count_cons_ne c b r hc]
   generalize hk:Go.Lib.count r [b]=k at ih ⊢
   cases k with
   | zero=>exact(qcU hc ih.symm).symm
   | succ k =>
    have hm:¬ Go.Lib.index r [b]=-1:=fun hm=>by rw[Go.Lib.count_miss hm] at hk;omega
    have hge:=Go.Lib.index_ge r [b]
    obtain⟨j,hj⟩:∃ j:Nat,Go.Lib.index r [b]=j:=⟨(Go.Lib.index r [b]).toNat,by omega⟩
    have hix':Go.Lib.index (c::r) [b]=((j+1:Nat):Int):=by rw[hix,if_neg (fun e=>hm (beq_iff_eq.1 e)),hj];omega
    rw[Go.Lib.splitK,hj,if_neg (by rw[beq_iff_eq];omega)] at ih
    rw[Go.Lib.splitK,hix',if_neg (by rw[beq_iff_eq];omega)]
    rw[qcU hc ih.symm]
    simp only[Int.toNat_natCast,Nat.add_zero,List.take_succ_cons,List.length_singleton,List.drop_succ_cons]
theorem qpv{xs:List ByteArray}{ls:List Tx}(h:xs.map (·.data.toList)=ls):xs=ls.map tx:=by
 subst h
 rw[List.map_map]
 exact((List.map_congr_left fun x _=>qmR x).trans (List.map_id' xs)).symm
theorem ql2(l:Tx)(b:UInt8):qd0 (tx l) (tx [b])=(spl b l).map tx:=by
 refine qpv ?_
 unfold qd0
 rw[Go.Lib.splitB_data,qcC,qcC]
 have e:Go.Lib.countB (tx l) (tx [b])=Go.Lib.count l [b]:=by
  unfold Go.Lib.countB
  rw[qcC,qcC]
 rw[e]
 exact qii b l
theorem qng(n:Nat)(args:List Dv):run E (n+1) n_Z135 args=qhN (mkR (run E n)) args:=rfl
theorem qg1(l:Tx)(b:UInt8)(hl:l.length<4294967281):Ret E n_Z135 [dT (tx l),dT (tx [b])] ⟨o_Z135,((spl b l).map tx,())⟩:=by
 refine qan ?_
 simp only[qng]
 refine qap ?_
 have hc:chk (decide ((tx l).size<4294967281)&&decide (1≤(tx [b]).size))=some ():=by
  rw[qaT,qaT,decide_eq_true hl];rfl
 show((some (tx l)).bind fun s=>(some (tx [b])).bind fun sep=>(chk (decide (s.size<4294967281)&&decide (1≤sep.size))).map fun _=>(⟨.cons (.sl .str) .nil,(qd0 s sep,())⟩:Dv))=_
 simp only[Option.bind_some,hc]
 rw[Option.map_some,ql2]
theorem qcK(l:Tx):ByteArray.toList (tx l)=l:=by rw[ByteArray.toList_eq,qcC]
theorem qh8(l:Tx)(a b:Nat):(tx l).extract a b=tx ((l.drop a).take (b-a)):=by
 rw[Go.Lib.extract_eq,qcC];rfl
theorem qh4{l:Tx}{a i:Nat}(h1:a≤i)(h2:i<l.length):l.drop a=(l.drop a).take (i-a)++l[i]::l.drop (i+1):=by
 have e:(l.drop a).drop (i-a)=l.drop i:=by rw[List.drop_drop];congr 1;omega
 have h:=(List.take_append_drop (i-a) (l.drop a)).symm
 rw[e,List.drop_eq_getElem_cons h2] at h
 exact h
theorem qdx(l:Tx)(b:UInt8)(hl:l.length≤1048576):Ret E n_Z109 [dT (tx l),⟨.int .u8,(b.toNat:Int)⟩] ⟨o_Z109,((spl b l).map tx,())⟩:=by
 refine qan ?_
 simp only[run_Z109,Z109.ev]
 have key:∀(d i a:Nat) (acc:List Tx),i+d=l.length→a≤i→acc.length≤i→b∉(l.drop a).take (i-a)→Ev fun φ=>Z109.l0 (mkR (run E (φ 0))) (φ 0) (φ 1) (tx l) (b.toNat:Int) (a:Int) (i:Int) (acc.map tx)=some ⟨o_Z109,((acc++spl b (l.drop a)).map tx,())⟩:=by
  intro d
  induction d with
  | zero =>
   intro i a acc hi ha hacc hb
   refine Ev.round 1 (L:=fun φ q=>Z109.l0 (mkR (run E (φ 0))) (φ 0) q (tx l) (b.toNat:Int) (a:Int) (i:Int) (acc.map tx)) ?_ (fun _ _ _=>rfl)
   simp only[Z109.l0_succ _ qah]
   rw[qaT]
   have e1:(l.drop a).take (i-a)=l.drop a:=List.take_of_length_le (by rw[List.length_drop];omega)
   rw[e1] at hb
   refine qaz (decide_eq_false (by omega)) (qaw (by rw[decide_eq_true (show(0:Int)≤(a:Int) by omega),decide_eq_true (show(a:Int)≤(l.length:Int) by omega)];rfl) (qaw (decide_eq_true (by simp only[List.length_map,List.length_singleton];omega)) ?_))
   rw[qgw hb,Int.toNat_natCast,qh8,List.take_of_length_le (show(l.drop a).length≤l.length-a by rw[List.length_drop];omega),List.map_append]
   exact qal
  | succ d ih =>
   intro i a acc hi ha hacc hb
   have hil:i<l.length:=by omega
   refine Ev.round 1 (L:=fun φ q=>Z109.l0 (mkR (run E (φ 0))) (φ 0) q (tx l) (b.toNat:Int) (a:Int) (i:Int) (acc.map tx)) ?_ (fun _ _ _=>rfl)
   simp only[Z109.l0_succ _ qah]
   rw[qaT,qcK]
   refine qay (decide_eq_true (by omega)) (qae (qam hil) ?_)
   by_cases hc:l[i]=b
   ·refine qay (by rw[hc];exact beq_self_eq_true _) (qaw (by rw[decide_eq_true (show(0:Int)≤(a:Int) by omega),decide_eq_true (show(a:Int)≤(i:Int) by omega),decide_eq_true (show(i:Int)≤(l.length:Int) by omega)];rfl) (qaw (decide_eq_true (by simp only[List.length_map,List.length_singleton];omega)) ?_))
    rw[qai (by omega),Int.toNat_natCast,Int.toNat_natCast,qh8]
    have h2:=ih (i+1) (i+1) (acc++[(l.drop a).take (i-a)]) (by omega) (Nat.le_refl _) (by simp;omega) (by simp)
    have e:spl b (l.drop a)=(l.drop a).take (i-a)::spl b (l.drop (i+1)):=by
     have e0:=qh4 ha hil
     rw[hc] at e0
     conv=>lhs;rw[e0]
     exact qkw hb
    have e2:acc++spl b (l.drop a)=acc++[(l.drop a).take (i-a)]++spl b (l.drop (i+1)):=by rw[e];simp
    rw[e2]
    rw[List.map_append] at h2
    exact h2
   ·refine qaz (by rw[beq_eq_false_iff_ne];exact fun h=>hc (UInt8.toNat_inj.1 (by omega))) ?_
    rw[qai (by omega)]
    refine ih (i+1) a acc (by omega) (by omega) (by omega) fun hm=>?_
    have e1:i+1-a=(i-a)+1:=by omega
    have hlt:i-a<(l.drop a).length:=by rw[List.length_drop];omega
    rw[e1,List.take_succ_eq_append_getElem hlt] at hm
    rcases List.mem_append.1 hm with hm | hm
    ·exact hb hm
    ·rw[List.mem_singleton,List.getElem_drop] at hm
     refine hc ?_
     rw[hm]
     congr 1
     omega
 have h0:=key l.length 0 0 [] (by omega) (Nat.le_refl _) (by simp) (by simp)
 rw[List.nil_append,List.drop_zero] at h0
 exact Ev.start (p:=fun φ n=>Z109.l0 (mkR (run E (φ 0))) (φ 0) n (tx l) (b.toNat:Int) 0 0 []=_) 1 h0 (fun _ _ _ h=>h)
end VeT
open Go Go.Proofs Ve
namespace VeT
def Num(l:Tx)(n:Int):Prop:=Go.Lib.itoa n=l∧n.natAbs<10 ^ 18
def dgv(a:Nat):Tx→Option Nat
 | []=>some a
 | c::r=>if 48≤c.toNat∧c.toNat≤57 then dgv (a*10+(c.toNat-48)) r else none
theorem qkY:∀(xs ys:Tx) (a:Nat),dgv a (xs++ys)=(dgv a xs).bind fun b=>dgv b ys
 | [],ys,a=>rfl
 | c::xs,ys,a=>by
  rw[List.cons_append,dgv,dgv]
  split
  ·exact qkY xs ys _
  ·rfl
theorem qiu{d:Nat}(h:d<10):(UInt8.ofNat (48+d)).toNat=48+d:=by
 rw[UInt8.toNat_ofNat'];omega
theorem qkF{a d:Nat}(h:d<10):dgv a [UInt8.ofNat (48+d)]=some (a*10+d):=by
 rw[dgv,qiu h,if_pos (by omega),dgv]
 congr 1;omega
theorem qeq{u:Nat}(h:¬ u<10):Go.Lib.decDigits u=Go.Lib.decDigits (u / 10)++[UInt8.ofNat (48+u%10)]:=by
 conv=>lhs;rw[Go.Lib.decDigits,dif_neg h]
theorem qk4:∀(b u:Nat),u≤b→dgv 0 (Go.Lib.decDigits u)=some u
 | 0,u,h=>by
  obtain rfl:u=0:=by omega
  rw[Go.Lib.decDigits_one (by omega)]
  exact qkF (by omega)
 | b+1,u,h=>by
  by_cases h1:u<10
  ·rw[Go.Lib.decDigits_one h1,qkF h1];congr 1;omega
  ·rw[qeq h1,qkY,qk4 b (u / 10) (by omega),Option.bind_some,qkF (Nat.mod_lt _ (by omega))]
   congr 1;omega
theorem qoh:∀ {xs:Tx} {a u:Nat},dgv a xs=some u→a≤u∧u<(a+1)*10 ^ xs.length
 | [],a,u,h=>by
  obtain rfl:a=u:=Option.some.inj h
  simp
 | c::r,a,u,h=>by
  rw[dgv] at h
  split at h
  ·have h2:=qoh h
   refine⟨by omega,Nat.lt_of_lt_of_le h2.2 ?_⟩
   rw[List.length_cons,Nat.pow_succ',← Nat.mul_assoc]
   exact Nat.mul_le_mul (by omega) (Nat.le_refl _)
  ·cases h
theorem qlQ(u:Nat):Go.Lib.decDigits u≠[]:=by
 by_cases h1:u<10
 ·rw[Go.Lib.decDigits_one h1];simp
 ·rw[qeq h1];simp
theorem qgL:∀(b u:Nat),u≤b→∀ c∈Go.Lib.decDigits u,48≤c.toNat∧c.toNat≤57
 | 0,u,h,c,hc=>by
  obtain rfl:u=0:=by omega
  rw[Go.Lib.decDigits_one (by omega),List.mem_singleton] at hc
  subst hc;decide
 | b+1,u,h,c,hc=>by
  by_cases h1:u<10
  ·rw[Go.Lib.decDigits_one h1,List.mem_singleton] at hc
   subst hc
   rw[qiu h1];omega
  ·rw[qeq h1] at hc
   rcases List.mem_append.1 hc with hc | hc
   ·exact qgL b (u / 10) (by omega) c hc
   ·rw[List.mem_singleton] at hc
    subst hc
    have:=Nat.mod_lt u (show 10>0 by omega)
    rw[qiu this];omega
theorem qlC:∀(b u:Nat),u≤b→u≠0→∃ c r,Go.Lib.decDigits u=c::r∧c.toNat≠48
 | 0,u,h,h0=>by omega
 | b+1,u,h,h0=>by
  by_cases h1:u<10
  ·exact⟨_,_,Go.Lib.decDigits_one h1,by rw[qiu h1];omega⟩
  ·obtain⟨c,r,e,hc⟩:=qlC b (u / 10) (by omega) (by omega)
   exact⟨c,r++[UInt8.ofNat (48+u%10)],by rw[qeq h1,e];rfl,hc⟩
theorem qm3:∀(n:Nat) (xs:Tx) (u:Nat),xs.length=n+1→dgv 0 xs=some u→(n=0∨xs.head?≠some 48)→Go.Lib.decDigits u=xs
 | 0,xs,u,hl,hd,_=>by
  obtain⟨c,rfl⟩:=List.length_eq_one_iff.1 hl
  rw[dgv] at hd
  split at hd
  ·obtain rfl:=Option.some.inj hd
   rw[Go.Lib.decDigits_one (by omega)]
   congr 1
   rw[show 48+(0*10+(c.toNat-48))=c.toNat by omega,UInt8.ofNat_toNat]
  ·cases hd
 | n+1,xs,u,hl,hd,hh=>by
  have hne:xs≠[]:=fun e=>by rw[e] at hl;cases hl
  have hx:=List.dropLast_concat_getLast hne
  generalize hy:xs.dropLast=ys at hx
  generalize xs.getLast hne=c at hx
  have hyl:ys.length=n+1:=by rw[← hy,List.length_dropLast,hl];rfl
  subst hx
  have hh:(ys++[c]).head?≠some 48:=hh.resolve_left (by omega)
  have hhy:ys.head?≠some 48:=by
   cases ys with
   | nil=>simp at hyl
   | cons y ys=>exact hh
  rw[qkY] at hd
  cases hv:dgv 0 ys with
  | none=>rw[hv] at hd;cases hd
  | some v =>
   rw[hv,Option.bind_some,dgv] at hd
   split at hd
   ·have hd:v*10+(c.toNat-48)=u:=Option.some.inj hd
    have ih:=qm3 n ys v hyl hv (.inr hhy)
    have hv0:v≠0:=fun e=>by
     subst e
     rw[Go.Lib.decDigits_one (by omega)] at ih
     rw[← ih] at hhy
     exact hhy rfl
    rw[qeq (by omega),show u / 10=v by omega,ih]
    congr 2
    rw[show 48+u%10=c.toNat by omega,UInt8.ofNat_toNat]
   ·cases hd
theorem qhb{u:Nat}:(Go.Lib.decDigits u).length≤18↔u<10 ^ 18:=by
 rw[Go.Lib.decDigits_length]
 constructor
 ·intro h
  exact Nat.lt_of_lt_of_le (Go.Lib.lt_pow_nDigits u) (Nat.pow_le_pow_right (by omega) h)
 ·intro h
  have hl:=qiV 18 u h
  by_cases h0:u=0
  ·subst h0;rw[Go.Lib.nDigits_small (by omega)];omega
  ·have e:=congrArg List.length (qix u u (Nat.le_refl _) h0)
   rw[List.length_reverse,List.length_map,Go.Lib.decDigits_length] at e
   omega
theorem qfd{n:Int}(h:0≤n):Go.Lib.itoa n=Go.Lib.decDigits n.natAbs:=by
 unfold Go.Lib.itoa
 rw[if_neg (by omega),show n.toNat=n.natAbs by omega]
theorem qhc{n:Int}(h:n<0):Go.Lib.itoa n=45::Go.Lib.decDigits n.natAbs:=by
 unfold Go.Lib.itoa
 rw[if_pos h]
theorem qnK(r:Tx):Go.Lib.trimPrefix (45::r) [45]=r:=by
 have e:Go.Lib.hasPrefix (45::r) [45]=true:=by simp[Go.Lib.hasPrefix,List.isPrefixOf]
 unfold Go.Lib.trimPrefix
 rw[if_pos e];rfl
theorem qnr{l:Tx}(h:l.head?≠some 45):Go.Lib.trimPrefix l [45]=l:=by
 have e:¬ Go.Lib.hasPrefix l [45]=true:=by
  cases l with
  | nil=>simp[Go.Lib.hasPrefix,List.isPrefixOf]
  | cons c r =>
   have:c≠45:=fun e=>h (by rw[e];rfl)
   simp[Go.Lib.hasPrefix,List.isPrefixOf]
   exact fun e=>this e.symm
 unfold Go.Lib.trimPrefix
 rw[if_neg e]
theorem qh0(u:Nat):(Go.Lib.decDigits u).head?≠some 45:=by
 cases h:Go.Lib.decDigits u with
 | nil=>simp
 | cons c r =>
  have:=qgL u u (Nat.le_refl _) c (by rw[h];exact List.mem_cons_self)
  intro e
  obtain rfl:c=45:=Option.some.inj e
  revert this;decide
theorem qjz(n:Int):Go.Lib.trimPrefix (Go.Lib.itoa n) [45]=Go.Lib.decDigits n.natAbs:=by
 by_cases h:n<0
 ·rw[qhc h,qnK]
 ·rw[qfd (by omega),qnr (qh0 _)]
theorem qkH{l:Tx}(h:(rdT l).2=true):Num l (rdT l).1:=by
 unfold rdT at h ⊢
 split at h
 ·cases h
 ·rename_i hl
  rw[if_neg hl]
  split at h
  ·rename_i v hv
   split at h
   ·rename_i hi
    rw[if_pos hi]
    refine⟨hi,qhb.1 ?_⟩
    rw[← qjz,hi]
    omega
   ·cases h
  ·cases h
theorem qni{l:Tx}(h:(rdT l).2=false):rdT l=(0,false):=by
 unfold rdT at h ⊢
 split at h
 ·rename_i hl;rw[if_pos hl]
 ·rename_i hl
  rw[if_neg hl]
  split at h
  ·rename_i v hv
   split at h
   ·cases h
   ·rename_i hi;rw[if_neg hi]
  ·rfl
theorem qh1:∀(xs:Tx) (a u:Nat),dgv a xs=some u→u<10 ^ 18→Go.Lib.parseUintM (2 ^ 64-1) a xs=.ok u
 | [],a,u,h,_=>by
  obtain rfl:a=u:=Option.some.inj h
  rfl
 | c::r,a,u,h,hu=>by
  rw[dgv] at h
  split at h
  ·rename_i hc
   have h2:=(qoh h).1
   rw[Go.Lib.parseUintM,if_pos hc,if_neg (by omega),if_neg (by omega)]
   exact qh1 r _ u h hu
  ·cases h
theorem qh2{u:Nat}(h:u<10 ^ 18):Go.Lib.parseUintB 64 (Go.Lib.decDigits u)=.ok u:=by
 unfold Go.Lib.parseUintB
 rw[if_neg (qlQ u)]
 exact qh1 _ 0 u (qk4 u u (Nat.le_refl _)) h
theorem qkG{n:Int}(h:n.natAbs<10 ^ 18):Go.Lib.parseIntB 64 (Go.Lib.itoa n)=.ok n:=by
 by_cases hn:n<0
 ·rw[qhc hn,Go.Lib.parseIntB_minus,qh2 h]
  show(if 2 ^ (64-1)<n.natAbs then _ else _)=_
  rw[if_neg (by omega)]
  congr 1;omega
 ·rw[qfd (by omega)]
  have hm:=qgL n.natAbs n.natAbs (Nat.le_refl _)
  have hp:=qh2 h
  cases hd:Go.Lib.decDigits n.natAbs with
  | nil=>exact absurd hd (qlQ _)
  | cons c r =>
   rw[hd] at hm hp
   have:=hm c List.mem_cons_self
   rw[Go.Lib.parseIntB_plain 64 c r (by omega) (by omega),hp]
   show(if 2 ^ (64-1)≤n.natAbs then _ else _)=_
   rw[if_neg (by omega)]
   congr 1;omega
theorem qm2{l:Tx}{n:Int}(h:Num l n):rdT l=(n,true):=by
 obtain⟨rfl,h⟩:=h
 have hl:=qhb.2 h
 have hne:=List.length_pos_iff.2 (qlQ n.natAbs)
 unfold rdT
 rw[qjz,if_neg (by omega),qkG h]
 show(if Go.Lib.itoa n=Go.Lib.itoa n then _ else _)=_
 rw[if_pos rfl]
theorem qoi{l:Tx}(h:∀ n,¬ Num l n):rdT l=(0,false):=by
 cases hb:(rdT l).2 with
 | true=>exact absurd (qkH hb) (h _)
 | false=>exact qni hb
theorem qgR(n:Nat)(args:List Dv):run E (n+1) n_Z12 args=qdL (mkR (run E n)) args:=rfl
theorem qdl(l:Tx)(hl:l.length≤281474976710656):Ret E n_Z12 [dT (tx l)] ⟨o_Z12,((rdT l).1,(rdT l).2,())⟩:=by
 refine qan ?_
 simp only[qgR]
 refine qap ?_
 have hc:chk (decide ((tx l).size≤281474976710656))=some ():=by rw[qaT,decide_eq_true hl];rfl
 show((some (tx l)).bind fun s=>(chk (decide (s.size≤281474976710656))).map fun _=>(⟨.cons tI (.cons .bool .nil),((rdT s.data.toList).1,(rdT s.data.toList).2,())⟩:Dv))=_
 rw[Option.bind_some,hc,Option.map_some,qcC]
theorem qjG(c:UInt8):Ret E n_Z106 [⟨.int .u8,(c.toNat:Int)⟩] ⟨o_Z106,(decide (48≤c.toNat∧c.toNat≤57),())⟩:=by
 refine qan ?_
 simp only[run_Z106,Z106.ev]
 by_cases h1:48≤c.toNat
 ·by_cases h2:c.toNat≤57
  ·rw[decide_eq_true (show 48≤c.toNat∧c.toNat≤57 from⟨h1,h2⟩)]
   refine qay (decide_eq_true (by omega)) ?_
   rw[decide_eq_true (show(c.toNat:Int)≤57 by omega)]
   exact qal
  ·rw[decide_eq_false (show ¬ (48≤c.toNat∧c.toNat≤57) from fun h=>h2 h.2)]
   refine qay (decide_eq_true (by omega)) ?_
   rw[decide_eq_false (show ¬ (c.toNat:Int)≤57 by omega)]
   exact qal
 ·rw[decide_eq_false (show ¬ (48≤c.toNat∧c.toNat≤57) from fun h=>h1 h.1)]
  exact qaz (decide_eq_false (by omega)) qal
def qbI(l:Tx):Nat:=if l.head? = some 45 then 1 else 0
def qpE(l:Tx)(u:Nat):Int:=if qbI l=1 then 0-(u:Int) else(u:Int)
theorem qga{l:Tx}{n:Int}(h:Num l n):l.drop (qbI l)=Go.Lib.decDigits n.natAbs∧n=qpE l n.natAbs:=by
 obtain⟨rfl,_⟩:=h
 by_cases hn:n<0
 ·rw[qhc hn]
  refine⟨rfl,?_⟩
  show n=0-(n.natAbs:Int)
  omega
 ·rw[qfd (by omega)]
  have e:qbI (Go.Lib.decDigits n.natAbs)=0:=if_neg (qh0 _)
  unfold qpE
  rw[e]
  exact⟨rfl,by rw[if_neg (by omega)];omega⟩
theorem qps{l:Tx}{u:Nat}(h1:1≤(l.drop (qbI l)).length)(h2:(l.drop (qbI l)).length≤18)(h3:¬ ((l.drop (qbI l)).head? = some 48∧1<l.length))(h4:dgv 0 (l.drop (qbI l))=some u):Num l (qpE l u):=by
 unfold qpE
 unfold qbI at h1 h2 h3 h4 ⊢
 by_cases h:l.head? = some 45
 ·rw[if_pos h] at h1 h2 h3 h4 ⊢
  cases l with
  | nil=>cases h
  | cons c ds =>
   obtain rfl:c=45:=Option.some.inj h
   rw[List.drop_succ_cons,List.drop_zero] at h1 h2 h3 h4
   have hh:ds.head?≠some 48:=fun e=>h3 ⟨e,by rw[List.length_cons];omega⟩
   have e:=qm3 (ds.length-1) ds u (by omega) h4 (.inr hh)
   have hu:u≠0:=fun e0=>by
    subst e0
    rw[Go.Lib.decDigits_one (by omega)] at e
    rw[← e] at hh
    exact hh rfl
   refine⟨?_,?_⟩
   ·rw[if_pos rfl,qhc (by omega),show(0-(u:Int)).natAbs=u by omega,e]
   ·rw[if_pos rfl,show(0-(u:Int)).natAbs=u by omega]
    exact qhb.1 (by rw[e];exact h2)
 ·rw[if_neg h] at h1 h2 h3 h4 ⊢
  rw[List.drop_zero] at h1 h2 h3 h4
  have e:=qm3 (l.length-1) l u (by omega) h4 (by
   by_cases h5:l.length-1=0
   ·exact .inl h5
   ·exact .inr fun e=>h3 ⟨e,by omega⟩)
  rw[if_neg (by omega)]
  refine⟨?_,?_⟩
  ·rw[qfd (by omega),Int.natAbs_natCast,e]
  ·rw[Int.natAbs_natCast]
   exact qhb.1 (by rw[e];exact h2)
theorem qn2{l:Tx}{n:Int}(h:Num l n):¬ ((l.drop (qbI l)).head? = some 48∧1<l.length):=by
 rintro⟨h1,h2⟩
 rw[(qga h).1] at h1
 by_cases h0:n=0
 ·subst h0
  have e:=h.1
  rw[qfd (by omega),show Int.natAbs 0=0 from rfl,Go.Lib.decDigits_one (by omega)] at e
  rw[← e] at h2
  simp at h2
 ·obtain⟨c,r,e,hc⟩:=qlC n.natAbs n.natAbs (Nat.le_refl _) (by omega)
  rw[e] at h1
  obtain rfl:c=48:=Option.some.inj h1
  exact hc rfl
theorem qoG{c:UInt8}(h:48≤c.toNat∧c.toNat≤57):IntKind.wrap .u8 ((c.toNat:Int)-48)=((c.toNat-48:Nat):Int):=by
 have:∀ d:Fin 10,IntKind.wrap .u8 (((48+d.val:Nat):Int)-48)=((48+d.val-48:Nat):Int):=by decide
 have h2:=this ⟨c.toNat-48,by omega⟩
 rw[show 48+(c.toNat-48)=c.toNat by omega] at h2
 exact h2
theorem qnP(l:Tx)(a:Nat)(hl:l.length≤1048576)(ha:a≤l.length)(h18:l.length-a≤18) :
    Ev fun φ=>Z108.l3 (mkR (run E (φ 0))) (φ 0) (φ 0) (tx l) (a:Int) 0 (a:Int)=some ⟨o_Z108,match dgv 0 (l.drop a) with
      | none=>(0,false,())
      | some u=>(if a=1 then 0-(u:Int) else(u:Int),true,())⟩:=by
  have key:∀(d i v:Nat),i+d=l.length→d≤18→v<10 ^ (18-d)→Ev fun φ=>Z108.l3 (mkR (run E (φ 0))) (φ 0) (φ 1) (tx l) (a:Int) (v:Int) (i:Int)=some ⟨o_Z108,match dgv v (l.drop i) with
      | none=>(0,false,())
      | some u=>(if a=1 then 0-(u:Int) else(u:Int),true,())⟩:=by
    intro d
    induction d with
    | zero =>
      intro i v hi hd hv
      refine Ev.round 1 (L:=fun φ q=>Z108.l3 (mkR (run E (φ 0))) (φ 0) q (tx l) (a:Int) (v:Int) (i:Int)) ?_ (fun _ _ _=>rfl)
      simp only[Z108.l3_succ _ qah]
      rw[qaT,List.drop_eq_nil_of_le (show l.length≤i by omega)]
      have hv:v<10 ^ 18:=hv
      refine qaz (decide_eq_false (by omega)) (?_)
      by_cases h:(a:Int)=1
      · refine qay (by rw[h];rfl) ?_
        obtain rfl:a=1:=by omega
        refine qap ?_
        show some _=some _
        rw[qat (by omega) (by omega)]
        rfl
      · refine qaz (beq_eq_false_iff_ne.2 h) (qap ?_)
        show some _=some (⟨o_Z108,(if a=1 then 0-(v:Int) else(v:Int),true,())⟩:Dv)
        rw[if_neg (by omega)]
    | succ d ih =>
      intro i v hi hd hv
      have hil:i<l.length:=by omega
      refine Ev.round 1 (L:=fun φ q=>Z108.l3 (mkR (run E (φ 0))) (φ 0) q (tx l) (a:Int) (v:Int) (i:Int)) ?_ (fun _ _ _=>rfl)
      simp only[Z108.l3_succ _ qah]
      rw[qaT,qcK,List.drop_eq_getElem_cons hil,dgv]
      refine qay (decide_eq_true (by omega)) (qae (qam hil) (qab (qjG l[i]) ?_))
      by_cases hc:48≤l[i].toNat∧l[i].toNat≤57
      · rw[if_pos hc]
        refine qaz (by show(!decide _)=false;rw[decide_eq_true hc];rfl) (qae (qam hil) ?_)
        have hp:(10:Nat) ^ (18-d)=10*10 ^ (18-(d+1)):=by
          rw[show 18-d=(18-(d+1))+1 by omega,Nat.pow_succ']
        have hp2:(10:Nat) ^ (18-d)≤10 ^ 18:=Nat.pow_le_pow_right (by omega) (by omega)
        have hvn:v*10+(l[i].toNat-48)<10 ^ (18-d):=by rw[hp];omega
        have h2:=ih (i+1) (v*10+(l[i].toNat-48)) (by omega) (by omega) hvn
        rw[qoG hc,qat (n:=(((l[i].toNat-48:Nat)):Int)) (by omega) (by omega),qat (n:=(10:Int)*(v:Int)) (by omega) (by omega),qat (by omega) (by omega),qai (by omega)]
        rw[show(10:Int)*(v:Int)+((l[i].toNat-48:Nat):Int)=((v*10+(l[i].toNat-48):Nat):Int) by omega]
        exact h2
      · rw[if_neg hc]
        exact qay (by show(!decide _)=true;rw[decide_eq_false hc];rfl) qal
  have h0:=key (l.length-a) a 0 (by omega) h18 (Nat.pow_pos (by omega))
  exact Ev.start (p:=fun φ n=>Z108.l3 (mkR (run E (φ 0))) (φ 0) n (tx l) (a:Int) ((0:Nat):Int) (a:Int)=_) 1 h0 (fun _ _ _ h=>h)
theorem qeH(l:Tx)(hl:l.length≤1048576):Ret E n_Z108 [dT (tx l)] ⟨o_Z108,((rdT l).1,(rdT l).2,())⟩:=by
 refine qan ?_
 simp only[run_Z108,Z108.ev]
 have hal:qbI l≤l.length:=by
  unfold qbI
  split
  ·cases l with
   | nil=>rename_i h;cases h
   | cons c r=>simp
  ·omega
 have ha1:qbI l≤1:=by unfold qbI;split<;>omega
 have no:(∀ n,¬ Num l n)→Ev fun φ=>some (⟨o_Z108,((0:Int),false,())⟩:Dv)=some ⟨o_Z108,((rdT l).1,(rdT l).2,())⟩:=fun h=>by rw[qoi h];exact qal
 have main:Ev fun φ=>Z108.j1 (mkR (run E (φ 0))) (φ 0) (tx l) (qbI l:Int)=some ⟨o_Z108,((rdT l).1,(rdT l).2,())⟩:=by
  simp only[Z108.j1_eq _ qah,Z108.j2_eq _ qah]
  rw[qaT,qcK]
  by_cases h1:l.length=qbI l
  ·refine qay (by rw[beq_iff_eq];omega) (qay rfl (no fun n hn=>?_))
   have:=congrArg List.length (qga hn).1
   rw[List.length_drop] at this
   have:=List.length_pos_iff.2 (qlQ n.natAbs)
   omega
  refine qaz (by rw[beq_eq_false_iff_ne];omega) ?_
  rw[qat (by omega) (by omega)]
  by_cases h2:l.length-qbI l≤18
  ·refine qaz (decide_eq_false (by omega)) (qae (qam (show qbI l<l.length by omega)) ?_)
   have hd:l.drop (qbI l)=l[qbI l]::l.drop (qbI l+1):=List.drop_eq_getElem_cons (by omega)
   have fin:¬ ((l.drop (qbI l)).head? = some 48∧1<l.length)→Ev fun φ=>Z108.l3 (mkR (run E (φ 0))) (φ 0) (φ 0) (tx l) (qbI l:Int) 0 (qbI l:Int)=some ⟨o_Z108,((rdT l).1,(rdT l).2,())⟩:=fun h3=>by
    have hlp:=qnP l (qbI l) hl hal h2
    cases hv:dgv 0 (l.drop (qbI l)) with
    | none =>
     rw[hv] at hlp
     rw[qoi fun n hn=>by rw[(qga hn).1,qk4 _ _ (Nat.le_refl _)] at hv;cases hv]
     exact hlp
    | some u =>
     rw[hv] at hlp
     rw[qm2 (qps (by rw[List.length_drop];omega) (by rw[List.length_drop];exact h2) h3 hv)]
     exact hlp
   by_cases h48:l[qbI l]=48
   ·refine qay (by rw[h48];rfl) ?_
    by_cases h5:1<l.length
    ·exact qay (decide_eq_true (by omega)) (no fun n hn=>qn2 hn ⟨by rw[hd,h48];rfl,h5⟩)
    ·exact qaz (decide_eq_false (by omega)) (fin fun h=>h5 h.2)
   ·refine qaz (by rw[beq_eq_false_iff_ne];exact fun e=>h48 (UInt8.toNat_inj.1 (by show l[qbI l].toNat=48;omega))) (qaz rfl (fin fun h=>h48 ?_))
    have:=h.1
    rw[hd] at this
    exact Option.some.inj this
  ·refine qay (decide_eq_true (by omega)) (qay rfl (no fun n hn=>?_))
   have:=congrArg List.length (qga hn).1
   rw[List.length_drop] at this
   have:=qhb.2 hn.2
   omega
 simp only[Z108.j0_eq _ qah]
 rw[qaT,qcK]
 cases l with
 | nil=>exact qaz rfl (qaz rfl main)
 | cons c r =>
  refine qay (decide_eq_true (by rw[List.length_cons];omega)) (qae (qam (xs:=c::r) (k:=0) (by simp)) ?_)
  by_cases hc:c=45
  ·subst hc
   exact qay rfl main
  ·have e:qbI (c::r)=0:=if_neg fun e=>hc (Option.some.inj e)
   rw[e] at main
   exact qaz (by rw[beq_eq_false_iff_ne];exact fun e=>hc (UInt8.toNat_inj.1 (by show c.toNat=45;exact Int.ofNat.inj e))) main
end VeT
open Go Go.Proofs Ve
namespace VeT
theorem qlk{n:Int}{c:UInt8}(h:c∈Go.Lib.itoa n):c=45∨(48≤c.toNat∧c.toNat≤57):=by
 by_cases hn:n<0
 ·rw[qhc hn] at h
  rcases List.mem_cons.1 h with h | h
  ·exact .inl h
  ·exact .inr (qgL _ _ (Nat.le_refl _) c h)
 ·rw[qfd (by omega)] at h
  exact .inr (qgL _ _ (Nat.le_refl _) c h)
theorem qlK{ls:List Tx}{s:Tx}{c:UInt8}(h:c∈Go.Lib.join ls s):c∈s∨∃ x∈ls,c∈x:=by
 have tail:∀ r:List Tx,c∈Go.Lib.joinTail s r→c∈s∨∃ x∈r,c∈x:=by
  intro r
  induction r with
  | nil=>intro h;simp[Go.Lib.joinTail] at h
  | cons x r ih =>
   intro h
   rw[qcY] at h
   rcases List.mem_append.1 h with h | h
   ·rcases List.mem_append.1 h with h | h
    ·exact .inl h
    ·exact .inr ⟨x,List.mem_cons_self,h⟩
   ·exact(ih h).imp id fun⟨y,hy,h⟩=>⟨y,List.mem_cons_of_mem _ hy,h⟩
 cases ls with
 | nil=>rw[Go.Lib.join_nil] at h;cases h
 | cons x r =>
  rw[Go.Lib.join_cons] at h
  rcases List.mem_append.1 h with h | h
  ·exact .inr ⟨x,List.mem_cons_self,h⟩
  ·exact(tail r h).imp id fun⟨y,hy,h⟩=>⟨y,List.mem_cons_of_mem _ hy,h⟩
theorem qmY{s:Sim}{c:UInt8}(h:c∈qaF s):c=44∨c=45∨(48≤c.toNat∧c.toNat≤57):=by
 unfold qaF at h
 split at h
 ·exact .inr (.inl (List.mem_singleton.1 h))
 ·rcases qlK h with h | ⟨x,hx,h⟩
  ·exact .inl (List.mem_singleton.1 h)
  ·obtain⟨n,_,rfl⟩:=List.mem_map.1 hx
   exact .inr (qlk h)
theorem qf5{s:Sim}{c:UInt8}(h:c=47∨c=59):c∉qaF s:=fun hm=>by
 rcases qmY hm with rfl | rfl | hm
 ·revert h;decide
 ·revert h;decide
 ·rcases h with rfl | rfl
  ·revert hm;decide
  ·revert hm;decide
theorem qnt{n:Int}{c:UInt8}(h:c=44∨c=47∨c=59):c∉Go.Lib.itoa n:=fun hm=>by
 rcases qlk hm with rfl | hm
 ·revert h;decide
 ·rcases h with rfl | rfl | rfl
  ·revert hm;decide
  ·revert hm;decide
  ·revert hm;decide
theorem qiz{s:Sim}(h:s≠[]):spl 44 (qaF s)=s.map Go.Lib.itoa:=by
 rw[qaF,if_neg h]
 refine qc6 (by simpa using h) fun x hx=>?_
 obtain⟨n,_,rfl⟩:=List.mem_map.1 hx
 exact qnt (.inl rfl)
def qfH(l:Tx):Sim:=(spl 44 l).map fun w=>(rdT w).1
theorem qfY{s:Sim}(h:qe6 s){x:Int}(hx:x∈s):rdT (Go.Lib.itoa x)=(x,true):=qm2 ⟨rfl,by
 have:=h.2 x hx;omega⟩
theorem qg2{s:Sim}(h:qe6 s)(h0:s≠[]):qfH (qaF s)=s:=by
 unfold qfH
 rw[qiz h0,List.map_map]
 exact(List.map_congr_left fun x hx=>by show(rdT (Go.Lib.itoa x)).1=x;rw[qfY h hx]).trans (List.map_id' s)
theorem qgn{s:Sim}(h:qe6 s)(e:qaF s=[45]):s=[]:=Classical.byContradiction fun h0=>by
 have h1:=qiz h0
 rw[e,qgw (by decide)] at h1
 cases s with
 | nil=>exact h0 rfl
 | cons x r =>
  rw[List.map_cons] at h1
  have h2:=qfY h (x:=x) List.mem_cons_self
  rw[← (List.cons.inj h1).1] at h2
  rw[show rdT [45]=(0,false) from rfl] at h2
  cases h2
open Classical in
noncomputable def rdL(l:Tx):Sim×Bool:=if h:∃ s,qe6 s∧qaF s=l then(h.choose,true) else([],false)
theorem qnO{s t:Sim}(hs:qe6 s)(ht:qe6 t)(e:qaF s=qaF t):s=t:=by
 by_cases h0:s=[]
 ·subst h0
  exact(qgn ht e.symm).symm
 by_cases h1:t=[]
 ·subst h1
  exact qgn hs e
 rw[← qg2 hs h0,e,qg2 ht h1]
theorem qeJ{l:Tx}{s:Sim}(h:qe6 s)(e:qaF s=l):rdL l=(s,true):=by
 have hx:∃ s,qe6 s∧qaF s=l:=⟨s,h,e⟩
 unfold rdL
 rw[dif_pos hx,qnO hx.choose_spec.1 h (hx.choose_spec.2.trans e.symm)]
theorem qlx{l:Tx}(h:∀ s,qe6 s→qaF s≠l):rdL l=([],false):=by
 unfold rdL
 rw[dif_neg fun⟨s,h1,h2⟩=>h s h1 h2]
theorem qiy{l:Tx}(h:(rdL l).2=true):qe6 (rdL l).1∧qaF (rdL l).1=l:=by
 by_cases hx:∃ s,qe6 s∧qaF s=l
 ·obtain⟨s,h1,h2⟩:=hx
  rw[qeJ h1 h2]
  exact⟨h1,h2⟩
 ·rw[qlx fun s h1 h2=>hx ⟨s,h1,h2⟩] at h
  cases h
theorem qlq:qe6 []:=⟨Nat.zero_le _,fun x hx=>by cases hx⟩
theorem qdN(l:Tx):qe6 (rdL l).1:=by
 cases h:(rdL l).2 with
 | true=>exact(qiy h).1
 | false =>
  by_cases hx:∃ s,qe6 s∧qaF s=l
  ·obtain⟨s,h1,h2⟩:=hx
   rw[qeJ h1 h2] at h
   cases h
  ·rw[qlx fun s h1 h2=>hx ⟨s,h1,h2⟩]
   exact qlq
theorem qlB:rdL [45]=([],true):=qeJ qlq rfl
theorem qkD{l:Tx}{s:Sim}(hl:l≠[45])(h:qe6 s)(e:qaF s=l):s≠[]∧qfH l=s∧spl 44 l=s.map Go.Lib.itoa:=by
 have h0:s≠[]:=fun h0=>hl (by rw[← e,h0];rfl)
 refine⟨h0,by rw[← e];exact qg2 h h0,by rw[← e];exact qiz h0⟩
theorem qc5{l:Tx}:(qfH l).length=(spl 44 l).length:=List.length_map _
theorem qcR{b:UInt8}:∀ {l w:Tx},w∈spl b l→w.length+(spl b l).length≤l.length+1
 | [],w,h=>by
  obtain rfl:w=[]:=List.mem_singleton.1 h
  exact Nat.le_refl _
 | c::r,w,h=>by
  by_cases hc:c=b
  ·subst hc
   rw[qgy] at h ⊢
   rcases List.mem_cons.1 h with rfl | h
   ·have:=qdw (b:=c) (l:=r)
    simp;omega
   ·have:=qcR h
    simp;omega
  ·obtain⟨x,t,e⟩:=qf4 b r
   have ih:=fun w=>qcR (b:=b) (l:=r) (w:=w)
   rw[qcU hc e] at h ⊢
   rw[e] at ih
   rcases List.mem_cons.1 h with rfl | h
   ·have:=ih x List.mem_cons_self
    simp at this ⊢;omega
   ·have:=ih w (List.mem_cons_of_mem _ h)
    simp at this ⊢;omega
theorem qeM(a b:Tx):(ByteArray.toList (tx a)==ByteArray.toList (tx b))=pb (a=b):=by
 rw[qcK,qcK,Bool.eq_iff_iff,qaL,beq_iff_eq]
theorem qbU(l:Tx)(hl:l.length<1048576):Ret E n_Z13 [dT (tx l)] ⟨o_Z13,((rdL l).1,(rdL l).2,())⟩:=by
 refine qan ?_
 simp only[run_Z13,Z13.ev]
 have ed:ByteArray.mk #[45]=tx [45]:=rfl
 rw[ed,qeM]
 by_cases h0:l=[45]
 ·rw[h0,qlB]
  exact qay (qaB rfl) qal
 refine qaz (qas h0) (qab (qg1 l 44 (by omega)) ?_)
 have hsl:=qdw (b:=44) (l:=l)
 refine Ev.start (p:=fun φ n=>Z13.l0 (mkR (run E (φ 0))) (φ 0) n (tx l) ((spl 44 l).map tx) (((spl 44 l).map tx).length:Int) 0 []=_) 1 ?_ (fun _ _ _ h=>h)
 rw[List.length_map]
 refine qav 1 (L:=fun φ n k o=>Z13.l0 (mkR (run E (φ 0))) (φ 0) n (tx l) ((spl 44 l).map tx) ((spl 44 l).length:Int) k o) (len:=(spl 44 l).length) (fun k=>(qfH l).take k) (fun _ _ _ _ _=>rfl) (fun k r hk ih=>?_) ?_
 ·simp only[Z13.l0_succ _ qah]
  have hkm:k<((spl 44 l).map tx).length:=by rw[List.length_map];exact hk
  have hw:=qcR (List.getElem_mem hk)
  have hkn:k<(qfH l).length:=by rw[qc5];exact hk
  rw[List.take_succ_eq_append_getElem hkn] at ih
  refine qay (decide_eq_true (by omega)) (qae (qam hkm) ?_)
  rw[List.getElem_map]
  refine qab (qdl (spl 44 l)[k] (by omega)) (qaw (decide_eq_true (by rw[List.length_take];simp only[List.length_singleton];omega)) ?_)
  rw[qai (by omega)]
  have e:(qfH l)[k]=(rdT (spl 44 l)[k]).1:=List.getElem_map (fun w=>(rdT w).1)
  rw[e] at ih
  exact ih
 ·simp only[Z13.l0_succ _ qah]
  refine qaz (decide_eq_false (by omega)) ?_
  have e:(qfH l).take (spl 44 l).length=qfH l:=List.take_of_length_le (by rw[qc5];exact Nat.le_refl _)
  rw[e]
  refine qab (qcp (qfH l) (by rw[qc5];omega)) ?_
  show Ev fun φ=>(bif (!(ByteArray.toList (tx (qdO (qfH l)))==ByteArray.toList (tx l))) then _ else _)=_
  rw[qeM]
  by_cases hv:qdO (qfH l)=l
  ·refine qaz (by rw[qaB hv];rfl) ?_
   have hf:qe6 (qfH l):=Classical.byContradiction fun hf=>by
    rw[qdO,if_neg hf] at hv
    rw[← hv] at hf
    exact hf ⟨by decide,by decide⟩
   rw[qdO,if_pos hf] at hv
   rw[qeJ hf hv]
   exact qal
  ·refine qay (by rw[qas hv];rfl) ?_
   rw[qlx fun s h1 h2=>?_]
   ·exact qal
   ·obtain⟨_,h3,_⟩:=qkD h0 h1 h2
    rw[h3,qdO,if_pos h1] at hv
    exact hv h2
theorem qbT(l:Tx)(hl:l.length<1048576):Ret E n_Z97 [dT (tx l)] ⟨o_Z97,((rdL l).1,(rdL l).2,())⟩:=by
  refine qan ?_
  simp only[run_Z97,Z97.ev]
  have ed:ByteArray.mk #[45]=tx [45]:=rfl
  rw[ed,qeM]
  by_cases h0:l=[45]
  · rw[h0,qlB]
    exact qay (qaB rfl) qal
  have no:(∀ s,qe6 s→qaF s≠l)→Ev fun φ=>some (⟨o_Z97,(([]:Sim),false,())⟩:Dv)=some ⟨o_Z97,((rdL l).1,(rdL l).2,())⟩:=fun h=>by rw[qlx h];exact qal
  refine qaz (qas h0) (qab (qdx l 44 (by omega)) ?_)
  show Ev fun φ=>(bif decide ((((spl 44 l).map tx).length:Int)>(64:Int)) then _ else _)=_
  rw[List.length_map]
  by_cases h64:64<(spl 44 l).length
  · refine qay (decide_eq_true (by omega)) (no fun s h1 h2=>?_)
    obtain⟨_,_,h3⟩:=qkD h0 h1 h2
    rw[h3,List.length_map] at h64
    have:=h1.1
    omega
  refine qaz (decide_eq_false (by omega)) ?_
  have key:∀(d i:Nat),i+d=(spl 44 l).length→(∀(j:Nat) (h:j<(spl 44 l).length),j<i→(rdT (spl 44 l)[j]).2=true∧-1000000000000≤(rdT (spl 44 l)[j]).1∧(rdT (spl 44 l)[j]).1≤1000000000000) →
      Ev fun φ=>Z97.l0 (mkR (run E (φ 0))) (φ 0) (φ 1) ((spl 44 l).map tx) (i:Int) ((qfH l).take i)=some ⟨o_Z97,((rdL l).1,(rdL l).2,())⟩:=by
    intro d
    induction d with
    | zero =>
      intro i hi hok
      refine Ev.round 1 (L:=fun φ q=>Z97.l0 (mkR (run E (φ 0))) (φ 0) q ((spl 44 l).map tx) (i:Int) ((qfH l).take i)) ?_ (fun _ _ _=>rfl)
      simp only[Z97.l0_succ _ qah]
      rw[List.length_map]
      refine qaz (decide_eq_false (by omega)) ?_
      have e:(qfH l).take i=qfH l:=List.take_of_length_le (by rw[qc5];omega)
      rw[e]
      have hn0:qfH l≠[]:=fun e=>qot 44 l (List.length_eq_zero_iff.1 (by rw[← qc5,e];rfl))
      have hf:qe6 (qfH l):=⟨by rw[qc5];omega,fun x hx=>by
        unfold qfH at hx
        obtain⟨w,hw,rfl⟩:=List.mem_map.1 hx
        obtain⟨j,hj,rfl⟩:=List.getElem_of_mem hw
        exact(hok j hj (by omega)).2⟩
      have ht:qaF (qfH l)=l:=by
        rw[qaF,if_neg hn0]
        have e2:(qfH l).map Go.Lib.itoa=spl 44 l:=by
          unfold qfH
          rw[List.map_map]
          refine(List.map_congr_left fun w hw=>?_).trans (List.map_id' _)
          obtain⟨j,hj,rfl⟩:=List.getElem_of_mem hw
          exact(qkH (hok j hj (by omega)).1).1
        rw[e2]
        exact qiM 44 l
      rw[qeJ hf ht]
      exact qal
    | succ d ih =>
      intro i hi hok
      have hil:i<(spl 44 l).length:=by omega
      have hkm:i<((spl 44 l).map tx).length:=by rw[List.length_map];exact hil
      have hw:=qcR (List.getElem_mem hil)
      have hkn:i<(qfH l).length:=by rw[qc5];exact hil
      have en:(qfH l)[i]=(rdT (spl 44 l)[i]).1:=List.getElem_map (fun w=>(rdT w).1)
      refine Ev.round 1 (L:=fun φ q=>Z97.l0 (mkR (run E (φ 0))) (φ 0) q ((spl 44 l).map tx) (i:Int) ((qfH l).take i)) ?_ (fun _ _ _=>rfl)
      simp only[Z97.l0_succ _ qah,Z97.j1_eq _ qah]
      refine qay (decide_eq_true (by rw[List.length_map];omega)) (qae (qam hkm) ?_)
      rw[List.getElem_map]
      have hfit:∀ s,qe6 s→qaF s=l→∃ x,x∈s∧(spl 44 l)[i]=Go.Lib.itoa x:=fun s h1 h2=>by
        obtain⟨_,_,h3⟩:=qkD h0 h1 h2
        have hm:=List.getElem_mem hil
        generalize (spl 44 l)[i]=w at hm ⊢
        rw[h3] at hm
        obtain⟨x,hx,e⟩:=List.mem_map.1 hm
        exact⟨x,hx,e.symm⟩
      refine qab (qeH (spl 44 l)[i] (by omega)) ?_
      cases hb:(rdT (spl 44 l)[i]).2 with
      | false =>
        refine qay rfl (qay rfl (no fun s h1 h2=>?_))
        obtain⟨x,hx,e⟩:=hfit s h1 h2
        rw[e,qfY h1 hx] at hb
        cases hb
      | true =>
        refine qaz rfl (qab (qb9 _ _ _) ?_)
        by_cases hr:-1000000000000≤(rdT (spl 44 l)[i]).1∧(rdT (spl 44 l)[i]).1≤1000000000000
        · refine qaz (by show(!(pb _))=false;rw[qaB hr];rfl) (qaw (decide_eq_true (by rw[List.length_take];simp only[List.length_singleton];omega)) ?_)
          have h2:=ih (i+1) (by omega) fun j hj hji=>by
            by_cases e:j=i
            · subst e;exact⟨hb,hr⟩
            · exact hok j hj (by omega)
          rw[List.take_succ_eq_append_getElem hkn,en] at h2
          rw[qai (by omega)]
          exact h2
        · refine qay (by show(!(pb _))=true;rw[qas hr];rfl) (no fun s h1 h2=>?_)
          obtain⟨x,hx,e⟩:=hfit s h1 h2
          rw[e,qfY h1 hx] at hr
          exact hr (h1.2 x hx)
  have h1:=key (spl 44 l).length 0 (by omega) fun j hj h=>by omega
  rw[List.take_zero] at h1
  exact Ev.start (p:=fun φ n=>Z97.l0 (mkR (run E (φ 0))) (φ 0) n ((spl 44 l).map tx) 0 []=_) 1 h1 (fun _ _ _ h=>h)
end VeT
open Go Go.Proofs Ve
namespace VeT
end VeT
open Go Go.Proofs Ve
namespace VeT
end VeT
open Go Go.Proofs Ve
namespace VeT
end VeT
open Go Go.Proofs Ve
namespace VeT
theorem qpw{st:Sim}(hst:∀ x∈st,0≤x∧x≤3)(k:Nat):0≤st.getD k 0∧st.getD k 0≤3:=by
 by_cases hl:k<st.length
 ·rw[qao hl];exact hst _ (List.getElem_mem hl)
 ·rw[List.getD_eq_getElem?_getD,List.getElem?_eq_none (by omega)];simp
end VeT
open Go Go.Proofs Ve
namespace VeT
end VeT
open Go Go.Proofs Ve
namespace VeT
theorem qjA:∀ {a b:Sim},qdz a b=qfT a b
 | [],[]=>rfl
 | [],_::_=>rfl
 | _::_,[]=>rfl
 | x::xs,y::ys=>by rw[qdz,qfT,qjA]
theorem qcE{a b:Sim}:qcI a b=qdg a b:=by
 unfold qcI qdg
 rw[qjA];rfl
theorem qka(n:Nat)(args:List Dv):run E (n+1) n_Z95 args=qfs n_Z29 (mkR (run E n)) args:=rfl
theorem qmk{m:Nat}{R:Run}{xs:List Sim}(h:xs.length≤1048576∧(⟨.fn m .nil,()⟩:Dv)=⟨.fn m .nil,()⟩∧∀ x∈xs,∀ y∈xs,R.r m [⟨tL,x⟩,⟨tL,y⟩]=some ⟨.cons tI .nil,(qdg x y,())⟩) :
  qfs m R [⟨tLL,xs⟩,⟨.fn m .nil,()⟩]=some ⟨.cons tLL .nil,(qdE xs,())⟩:=by
 unfold qfs
 simp only[show(⟨tLL,xs⟩:Dv).to tLL=some xs from rfl,Option.bind_some]
 exact if_pos h
theorem qnp{α:Type}{p:α→Nat→Prop}{l:List α}(h:∀ x∈l,Evt (p x)):Evt fun n=>∀ x∈l,p x n:=by
 induction l with
 | nil=>exact Evt.of fun n x hx=>by cases hx
 | cons a l ih =>
  refine((h a List.mem_cons_self).and (ih fun x hx=>h x (List.mem_cons_of_mem _ hx))).mono fun n ⟨h1,h2⟩ x hx=>?_
  rcases List.mem_cons.1 hx with rfl | hx
  ·exact h1
  ·exact h2 x hx
theorem qjm(xs:List Sim)(hs:Sm (.sl (.sl (.int .i64))) xs):Ret E n_Z95 [dLL xs,⟨.fn n_Z29 .nil,()⟩] ⟨o_Z95,(qdE xs,())⟩:=by
 have hl:xs.length≤1048576:=hs.1
 have hall:Evt fun n=>∀ x∈xs,∀ y∈xs,run E n n_Z29 [dL x,dL y]=some ⟨o_Z29,(qdg x y,())⟩ :=
  qnp fun x hx=>qnp fun y hy=>by
   have:=qaN x y (hs.2 x hx)
   rw[qcE] at this
   exact this
 refine Evt.succ (hall.mono fun n h=>?_)
 rw[qka]
 exact qmk ⟨hl,rfl,h⟩
theorem qdY(rows:List Sim)(hl:rows.length≤1048576)(hs:∀ x∈rows,x.length≤1048576):Ret E n_Z30 [dLL rows] ⟨o_Z30,(rows,())⟩:=by
 refine qan ?_
 simp only[run_Z30,Z30.ev]
 refine Ev.start (p:=fun φ n=>Z30.l0 (mkR (run E (φ 0))) (φ 0) n rows (rows.length:Int) 0 []=_) 1 ?_ (fun _ _ _ h=>h)
 refine qav 1 (L:=fun φ n k o=>Z30.l0 (mkR (run E (φ 0))) (φ 0) n rows (rows.length:Int) k o) (len:=rows.length) (fun k=>rows.take k) (fun _ _ _ _ _=>rfl) (fun k r hk ih=>?_) ?_
 ·simp only[Z30.l0_succ _ qah]
  rw[List.take_succ_eq_append_getElem hk] at ih
  refine qay (decide_eq_true (by omega)) (qae (qam hk) (qab (qmX _ (hs _ (List.getElem_mem hk))) (qaw (by simp only[List.length_take,List.length_singleton,decide_eq_true_eq];omega) ?_)))
  rw[qai (by omega)];exact ih
 ·simp only[Z30.l0_succ _ qah]
  refine qaz (decide_eq_false (by omega)) (qap ?_)
  rw[List.take_of_length_le (Nat.le_refl _)]
theorem qmd(n:Nat)(args:List Dv):run E (n+1) n_Z70 args=qbS n_Z83 (mkR (run E n)) args:=rfl
-- qbS
theorem qfO(xs:List Sim)(hs:Sm (.sl (.sl (.int .i64))) xs) :
  Ret E n_Z70 [dLL xs,⟨.fn n_Z83 .nil,()⟩] ⟨o_Z70,(sel (mC xs xs.length) xs,())⟩:=by
 have hl:xs.length≤1048576:=hs.1
 have hall:Evt fun n=>∀ i,i<xs.length-1→∀(h:i+1<xs.length),run E n n_Z83 [dL xs[i+1],dL xs[i]]=some ⟨o_Z83,(xs[i+1]==xs[i],())⟩ :=
  Evt.lt fun i hi=>by
   have h:i+1<xs.length:=by omega
   have h2:=qma xs[i+1] xs[i] (qbq hs h).1
   rw[show pb (xs[i+1]=xs[i])=(xs[i+1]==xs[i]) by rw[Bool.eq_iff_iff,qaL,beq_iff_eq]] at h2
   exact Evt.mono h2 fun n h3 _=>h3
 refine Evt.succ (hall.mono fun n h=>?_)
 rw[qmd]
 unfold qbS
 simp only[show(⟨tLL,xs⟩:Dv).to tLL=some xs from rfl,Option.bind_some]
 exact if_pos ⟨hl,rfl,fun i hi=>h i (by omega) hi⟩
-- qbS
theorem ql6{l:List Sim}(h:l.Pairwise (fun a b=>qdg a b≤0)):∀ {m:Nat},m≤l.length→(sel (mC l m) l).Pairwise (fun a b=>qdg a b<0)∧(∀ x,x∈sel (mC l m) l↔x∈l.take m):=by
 intro m
 induction m with
 | zero=>intro _;simp[mC,sel]
 | succ m ih =>
  intro hm
  obtain⟨h1,h2⟩:=ih (by omega)
  have hml:m<l.length:=by omega
  rw[mC,qev (by rw[qfx];exact hml)]
  have e:(l[(mC l m).length]'(by rw[qfx];exact hml))=l[m]:=by congr 1;exact qfx
  rw[e,List.take_succ_eq_append_getElem hml]
  by_cases h0:m=0
  ·subst h0
   simp[mC,sel]
  ·obtain⟨q,rfl⟩:∃ q,m=q+1:=⟨m-1,by omega⟩
   have g1:l[q+1]? = some l[q+1]:=List.getElem?_eq_getElem hml
   have g2:l[q+1-1]? = some l[q]:=by rw[Nat.add_sub_cancel];exact List.getElem?_eq_getElem (by omega)
   rw[g1,g2,show(q+1==0)=false from rfl,Bool.false_or]
   have hq:l[q]∈l.take (q+1):=by rw[List.take_succ_eq_append_getElem (show q<l.length by omega)];exact List.mem_append.2 (.inr (List.mem_singleton.2 rfl))
   by_cases he:l[q+1]=l[q]
   ·rw[show(some l[q+1]==some l[q])=true by rw[he];simp]
    simp only[Bool.not_true,cond_false,List.append_nil]
    refine⟨h1,fun x=>?_⟩
    rw[h2,List.mem_append,List.mem_singleton]
    exact⟨.inl,fun hx=>hx.elim id fun e=>by rw[e,he];exact hq⟩
   ·rw[show(some l[q+1]==some l[q])=false from beq_false_of_ne fun e=>he (Option.some.inj e)]
    simp only[Bool.not_false,cond_true]
    have hlt:∀ x∈sel (mC l (q+1)) l,qdg x l[q+1]<0:=fun x hx=>by
     have hx:=(h2 x).1 hx
     have hq1:qdg l[q] l[q+1]≤0:=List.pairwise_iff_getElem.1 h q (q+1) (by omega) hml (by omega)
     have hq2:qdg l[q] l[q+1]<0:=by
      rcases Int.lt_or_eq_of_le hq1 with h | h
      ·exact h
      ·exact absurd (qcG.1 h).symm he
     obtain⟨i,hi,rfl⟩:=List.mem_iff_getElem.1 hx
     rw[List.length_take] at hi
     rw[List.getElem_take]
     by_cases e:i=q
     ·subst e;exact hq2
     ·have h3:qdg l[i] l[q]≤0:=List.pairwise_iff_getElem.1 h i q (by omega) (by omega) (by omega)
      rcases Int.lt_or_eq_of_le h3 with h | h
      ·have:=qdM (by rw[qcE];exact h) (by rw[qcE];exact hq2)
       rwa [qcE] at this
      ·rw[qcG.1 h];exact hq2
    refine⟨List.pairwise_append.2 ⟨h1,List.pairwise_singleton _ _,fun x hx y hy=>?_⟩,fun x=>?_⟩
    ·rw[List.mem_singleton] at hy;subst hy;exact hlt x hx
    ·rw[List.mem_append,List.mem_append,h2]
-- qbS
noncomputable def qoZ(xs:List Sim):List Sim:=sel (mC (qdE xs) (qdE xs).length) (qdE xs)
-- qbS
theorem qmI(xs:List Sim):Srt (qoZ xs)∧(∀ x,x∈qoZ xs↔x∈xs)∧(qoZ xs).length≤xs.length:=by
 have hp:(qdE xs).Pairwise (fun a b=>qdg a b≤0):=(qh9 xs).imp fun h=>by unfold leX at h;exact of_decide_eq_true h
 obtain⟨h1,h2⟩:=ql6 hp (Nat.le_refl _)
 refine⟨fun i j hj hij=>?_,fun x=>?_,?_⟩
 ·rw[qcE];exact List.pairwise_iff_getElem.1 h1 i j (by unfold qoZ at hj;omega) hj hij
 ·unfold qoZ
  rw[h2,List.take_length]
  exact(List.mergeSort_perm xs leX).mem_iff
 ·have:=qld (ms:=mC (qdE xs) (qdE xs).length) (l:=qdE xs)
  exact Nat.le_trans this (Nat.le_of_eq (qdm xs))
-- qbS
theorem qoy:∀ {c d:List Sim},Srt c→Srt d→(∀ x,x∈c↔x∈d)→c=d:=by
 have pw:∀ {c:List Sim},Srt c→c.Pairwise (fun a b=>qcI a b<0):=fun h=>List.pairwise_iff_getElem.2 fun i j hi hj hij=>h i j hj hij
 have main:∀ {c d:List Sim},c.Pairwise (fun a b=>qcI a b<0)→d.Pairwise (fun a b=>qcI a b<0)→(∀ x,x∈c↔x∈d)→c=d:=by
  intro c
  induction c with
  | nil =>
   intro d _ _ h
   cases d with
   | nil=>rfl
   | cons y d=>exact absurd ((h y).2 List.mem_cons_self) (by simp)
  | cons x c ih =>
   intro d hc hd h
   cases d with
   | nil=>exact absurd ((h x).1 List.mem_cons_self) (by simp)
   | cons y d =>
    obtain⟨hc1,hc2⟩:=List.pairwise_cons.1 hc
    obtain⟨hd1,hd2⟩:=List.pairwise_cons.1 hd
    have hxy:x=y:=by
     rcases List.mem_cons.1 ((h x).1 List.mem_cons_self) with e | e
     ·exact e
     ·rcases List.mem_cons.1 ((h y).2 List.mem_cons_self) with e2 | e2
      ·exact e2.symm
      ·have h1:=hd1 x e
       have h2:=hc1 y e2
       have:=qiL (a:=x) (b:=y)
       omega
    subst hxy
    have irr:∀ z,qcI z z=0:=fun z=>qdC.2 rfl
    rw[ih hc2 hd2 fun z=>?_]
    constructor
    ·intro hz
     rcases List.mem_cons.1 ((h z).1 (List.mem_cons_of_mem _ hz)) with e | e
     ·subst e;have:=hc1 z hz;have:=irr z;omega
     ·exact e
    ·intro hz
     rcases List.mem_cons.1 ((h z).2 (List.mem_cons_of_mem _ hz)) with e | e
     ·subst e;have:=hd1 z hz;have:=irr z;omega
     ·exact e
 exact fun {c d} hc hd h=>main (pw hc) (pw hd) h
-- qbS
theorem qjS(c:List Sim)(hc:Sm (.sl (.sl (.int .i64))) c):Ret E n_Z34 [dLL c] ⟨o_Z34,(qoZ c,())⟩:=by
 have h1:=qjm c hc
 have hs:Sm (.sl (.sl (.int .i64))) (qdE c):=⟨by show(qdE c).length≤1048576;rw[qdm];exact hc.1,fun x hx=>hc.2 x ((List.mergeSort_perm c leX).mem_iff.1 hx)⟩
 refine qan ?_
 simp only[run_Z34,Z34.ev]
 exact qab (qdY c hc.1 fun x hx=>(hc.2 x hx).1) (qab h1 (qab (qfO _ hs) qal))
theorem qgv(c:List Sim)(hc:Sm (.sl (.sl (.int .i64))) c)(hv:VC c):Ret E n_Z124 [dC (c,()),dI 3] ⟨o_Z124,(c,())⟩:=by
 have hl:c.length≤1048576:=hc.1
 refine qan ?_
 simp only[run_Z124,Z124.ev]
 refine Ev.start (p:=fun φ n=>Z124.l0 (mkR (run E (φ 0))) (φ 0) n (c,()) 3 0 []=_) 1 ?_ (fun _ _ _ h=>h)
 refine qav 1 (L:=fun φ n k o=>Z124.l0 (mkR (run E (φ 0))) (φ 0) n (c,()) 3 k o) (len:=c.length) (fun k=>c.take k) (fun _ _ _ _ _=>rfl) (fun k r hk ih=>?_) ?_
 ·simp only[Z124.l0_succ _ qah]
  rw[List.take_succ_eq_append_getElem hk] at ih
  have h4:=hv.len4 hk
  rw[qao hk] at h4
  have e4:w64 ((3:Int)+1)=4:=qat (by omega) (by omega)
  refine qay (decide_eq_true (by show(k:Int)<(c.length:Int);omega)) (qae (qam hk) (qay (decide_eq_true (by rw[e4];show(c[k].length:Int)≤4;omega)) (qae (qam hk) (qab (qdK _ (by show c[k].length≤_;omega)) (qaw (by simp only[List.length_take,List.length_singleton,decide_eq_true_eq];omega) ?_)))))
  rw[qai (by omega)];exact ih
 ·simp only[Z124.l0_succ _ qah]
  refine qaz (decide_eq_false (by show ¬ ((c.length:Int)<(c.length:Int));omega)) (qap ?_)
  rw[List.take_of_length_le (Nat.le_refl _)]
def zOf(p:Int)(st:Sim)(a:Arw):Mat:=(p,st.getD a.1.toNat 0,st.getD a.2.2.1.toNat 0,List.replicate ((st.getD a.1.toNat 0).toNat*(st.getD a.2.2.1.toNat 0).toNat) 0,())
theorem qeU{c:List Sim}{st:Sim}(hl:st.length=c.length)(hst:∀ x∈st,0≤x∧x≤3){k:Nat}(hk:k<c.length):∃ n:Nat,n≤3∧st.getD k 0=(n:Int)∧∃ h:k<st.length,st[k]=(n:Int):=by
 have h:k<st.length:=by omega
 obtain⟨h1,h2⟩:=hst _ (List.getElem_mem h)
 exact⟨(st[k]).toNat,by omega,by rw[qao h];omega,h,by omega⟩
theorem qis{c:List Sim}(hs:Srt c)(hv:VC c){k i:Nat}(hk:k<c.length)(hi:i<(qbw c k).length):∃ f:Nat,f<c.length∧(qbw c k)[i]=(f:Int)∧(qbw c k).getD i 0=(f:Int):=by
 obtain⟨h1,h2,_⟩:=qnb hv hk hi
 have e:(qbw c k)[i]=((fc c k i:Nat):Int):=by rw[qam hi] at h1;exact Option.some.inj h1
 exact⟨fc c k i,h2,e,by rw[qao hi,e]⟩
end VeT
open Go Go.Proofs Ve
namespace VeT
def Fa(x s:Sim):Prop:=x≠[]∧x.Sublist s
def Cl(c:List Sim):Prop:=∀ y∈c,∀ x,Fa x y→x∈c
theorem qj8:∀ {x s:Sim},x.Sublist s→x≠s→∃ i,i<s.length∧x.Sublist (s.eraseIdx i)
 | _,_,.slnil,h=>absurd rfl h
 | x,_,.cons a h,_=>⟨0,by simp,by simpa using h⟩
 | _,_,.cons_cons (l₁:=l) (l₂:=l') a h,hn=>by
  obtain⟨i,hi,hs⟩:=qj8 h fun e=>hn (by rw[e])
  exact⟨i+1,by simp;omega,by simpa using hs⟩
theorem qlM{x s:Sim}:Fa x s↔(x=s∧s≠[])∨∃ i,i<s.length∧Fa x (s.eraseIdx i):=by
 constructor
 ·rintro⟨h1,h2⟩
  by_cases e:x=s
  ·exact .inl ⟨e,e ▸ h1⟩
  ·obtain⟨i,hi,hs⟩:=qj8 h2 e
   exact .inr ⟨i,hi,h1,hs⟩
 ·rintro(⟨rfl,h⟩ | ⟨i,hi,h1,h2⟩)
  ·exact⟨h,List.Sublist.refl _⟩
  ·exact⟨h1,h2.trans (List.eraseIdx_sublist _ _)⟩
theorem qf8{x y z:Sim}(h1:Fa x y)(h2:Fa y z):Fa x z:=⟨h1.1,h1.2.trans h2.2⟩
theorem qj1{x s:Sim}(h:Fa x s):x.length≤s.length:=h.2.length_le
theorem VC.cl{c:List Sim}(h:VC c):Cl c:=by
 have main:∀(n:Nat) (y:Sim),y.length=n→y∈c→∀ x,Fa x y→x∈c:=by
  intro n
  induction n with
  | zero =>
   intro y hy hm x hf
   have:=qj1 hf
   exact absurd (List.length_eq_zero_iff.1 (by omega)) hf.1
  | succ n ih =>
   intro y hy hm x hf
   rcases qlM.1 hf with ⟨rfl,_⟩ | ⟨i,hi,hf2⟩
   ·exact hm
   ·have hl:(y.eraseIdx i).length=n:=by rw[List.length_eraseIdx,if_pos hi];omega
    have h1:1<y.length:=by
     have:=qj1 hf2
     have:=List.length_pos_iff.2 hf2.1
     omega
    obtain⟨k,hk,e⟩:=List.mem_iff_getElem.1 hm
    have:=h.2.2.2 k hk (y.eraseIdx i) (by rw[qao hk,e];exact qdh.2 ⟨h1,i,hi,rfl⟩)
    exact ih _ hl this x hf2
 exact fun y hy x hf=>main y.length y rfl hy x hf
def qlE:Nat→Nat
 | 0=>1
 | n+1=>(n+2)*qlE n+1
theorem qpd{o:List Sim}{s:Sim}(hs:Srt o)(hn:s∉o):∃ t,t≤o.length∧(∀ j (h:j<o.length),j<t→qcI o[j] s<0)∧(∀ h:t<o.length,¬ qcI o[t] s<0)∧Srt (o.take t++[s]++o.drop t):=by
 refine⟨bs o s,qpt,fun j h hj=>(qjd hs h).1 hj,fun h hlt=>?_,?_⟩
 ·have:=(qjd hs h).2 hlt;omega
 ·have pw:o.Pairwise (fun a b=>qcI a b<0):=List.pairwise_iff_getElem.2 fun i j hi hj hij=>hs i j hj hij
  have h1:∀ x∈o.take (bs o s),qcI x s<0:=fun x hx=>by
   obtain⟨i,hi,rfl⟩:=List.mem_iff_getElem.1 hx
   rw[List.length_take] at hi
   rw[List.getElem_take]
   exact(qjd hs (by omega)).1 (by omega)
  have h2:∀ x∈o.drop (bs o s),qcI s x<0:=fun x hx=>by
   obtain⟨i,hi,rfl⟩:=List.mem_iff_getElem.1 hx
   rw[List.length_drop] at hi
   rw[List.getElem_drop]
   have h3:¬ qcI o[bs o s+i] s<0:=fun h=>by
    have:=(qjd hs (show bs o s+i<o.length by omega)).2 h;omega
   have h4:qcI o[bs o s+i] s≠0:=fun h=>hn (by rw[← qdC.1 h];exact List.getElem_mem _)
   have:=qiL (a:=o[bs o s+i]) (b:=s)
   omega
  have pwn:(o.take (bs o s)++[s]++o.drop (bs o s)).Pairwise (fun a b=>qcI a b<0):=by
   rw[List.pairwise_append]
   refine⟨?_,pw.sublist (List.drop_sublist _ _),fun x hx y hy=>?_⟩
   ·rw[List.pairwise_append]
    refine⟨pw.sublist (List.take_sublist _ _),List.pairwise_singleton _ _,fun x hx y hy=>?_⟩
    rw[List.mem_singleton] at hy;subst hy;exact h1 x hx
   ·rcases List.mem_append.1 hx with hx | hx
    ·exact qdM (h1 x hx) (h2 y hy)
    ·rw[List.mem_singleton] at hx;subst hx;exact h2 y hy
  exact fun i j hj hij=>List.pairwise_iff_getElem.1 pwn i j (by omega) hj hij
theorem qmu{o:List Sim}{s x:Sim}{t:Nat}:x∈o.take t++[s]++o.drop t↔x∈o∨x=s:=by
 rw[List.mem_append,List.mem_append,List.mem_singleton]
 conv=>rhs;rw[← List.take_append_drop t o]
 rw[List.mem_append]
 constructor
 ·rintro((h | h) | h)
  ·exact .inl (.inl h)
  ·exact .inr h
  ·exact .inl (.inr h)
 ·rintro((h | h) | h)
  ·exact .inl (.inl h)
  ·exact .inr h
  ·exact .inl (.inr h)
theorem qlu(s:Sim)(o:List Sim)(N1:Nat→Nat)(hs1:s.length≤1048576)(ho:Sm (.sl (.sl (.int .i64))) o)(hl:o.length+1≤1048576)(hs:Srt o)(hn:s∉o) :
  ∃ t,t≤o.length∧Srt (o.take t++[s]++o.drop t)∧Ev fun φ=>Z121.l2 (mkR (run E (φ 0))) (φ 0) (φ 2) s 0 o=some ⟨o_Z121,((o.take t++[s]++o.drop t,()),())⟩:=by
 obtain⟨t,ht,h1,h2,h3⟩:=qpd hs hn
 refine⟨t,ht,h3,?_⟩
 have fin:Ev fun φ=>Z121.j3 (mkR (run E (φ 0))) (φ 0) (φ 2) s (t:Int) false o=some ⟨o_Z121,((o.take t++[s]++o.drop t,()),())⟩:=by
  simp only[Z121.j3_eq _ qah]
  refine qaz rfl (qaw (by simp only[Bool.and_eq_true,decide_eq_true_eq];omega) ?_)
  simp only[Int.toNat_natCast,List.nil_append,List.drop_zero,List.take_length]
  refine qaw (by simp only[List.length_nil,List.length_take,decide_eq_true_eq];omega) (qab (qdK s hs1) (qaw (by simp only[List.length_take,List.length_singleton,decide_eq_true_eq];omega) (qaw (by simp only[Bool.and_eq_true,decide_eq_true_eq];omega) (qaw (by simp only[List.length_append,List.length_take,List.length_drop,List.length_singleton,decide_eq_true_eq];omega) qal))))
 have key:∀ d i,i+d=t→Ev fun φ=>Z121.l2 (mkR (run E (φ 0))) (φ 0) (φ 2) s (i:Int) o=some ⟨o_Z121,((o.take t++[s]++o.drop t,()),())⟩:=by
  intro d
  induction d with
  | zero =>
   intro i hi
   obtain rfl:i=t:=by omega
   refine Ev.round 2 (L:=fun φ n=>Z121.l2 (mkR (run E (φ 0))) (φ 0) n s (i:Int) o) ?_ (fun _ _ _=>rfl)
   simp only[Z121.l2_succ _ qah]
   by_cases hlt:i<o.length
   ·refine qay (decide_eq_true (by omega)) (qaw (by simp only[Bool.and_eq_true,decide_eq_true_eq];omega) (qae (by rw[Int.toNat_natCast];exact List.getElem?_eq_getElem hlt) (qab (qeD _ s (qbq ho hlt)) ?_)))
    rw[qas (h2 hlt)]
    exact fin
   ·exact qaz (decide_eq_false (by omega)) fin
  | succ d ih =>
   intro i hi
   have hlt:i<o.length:=by omega
   refine Ev.round 2 (L:=fun φ n=>Z121.l2 (mkR (run E (φ 0))) (φ 0) n s (i:Int) o) ?_ (fun _ _ _=>rfl)
   simp only[Z121.l2_succ _ qah]
   refine qay (decide_eq_true (by omega)) (qaw (by simp only[Bool.and_eq_true,decide_eq_true_eq];omega) (qae (by rw[Int.toNat_natCast];exact List.getElem?_eq_getElem hlt) (qab (qeD _ s (qbq ho hlt)) ?_)))
   rw[qaB (h1 i hlt (by omega))]
   simp only[Z121.j3_eq _ qah]
   refine qay rfl ?_
   rw[qai (by omega)]
   exact ih (i+1) (by omega)
 exact key t 0 (by omega)
theorem qox:∀(n:Nat) (s:Sim) (c:List Sim),s.length=n+1→n≤1048575→c.length+qlE n≤1048576→Sm (.sl (.sl (.int .i64))) c→Srt c→Cl c →
    ∃ c',Ret E n_Z121 [dC (c,()),dL s] ⟨o_Z121,((c',()),())⟩∧Srt c'∧(∀ x,x∈c'↔x∈c∨Fa x s)∧c'.length≤c.length+qlE n:=by
  intro n
  induction n with
  | zero =>
    intro s c hn hb hl hc hs hcl
    have hs1:s.length≤1048576:=by omega
    have hne:s≠[]:=fun e=>by rw[e] at hn;simp at hn
    by_cases hm:s∈c
    · refine⟨c,?_,hs,fun x=>⟨.inl,fun h=>h.elim id fun h=>hcl s hm x h⟩,by omega⟩
      refine qan ?_
      simp only[run_Z121,Z121.ev]
      exact qab (qce (c,()) s hc) (qay (decide_eq_true (qbj.2 hm)) qal)
    · obtain⟨t,ht,h3,h4⟩:=qlu s c id hs1 hc (by unfold qlE at hl;omega) hs hm
      refine⟨_,?_,h3,fun x=>?_,by simp[qlE];omega⟩
      · refine qan ?_
        simp only[run_Z121,Z121.ev]
        refine qab (qce (c,()) s hc) (qaz (decide_eq_false fun h=>hm (qbj.1 h)) ?_)
        have h4:Ev fun φ=>Z121.l2 (mkR (run E (φ 0))) (φ 0) (φ 0) s 0 c=some ⟨o_Z121,((c.take t++[s]++c.drop t,()),())⟩:=Ev.start (p:=fun φ n=>Z121.l2 (mkR (run E (φ 0))) (φ 0) n s 0 c=_) 2 h4 (fun _ _ _ h=>h)
        refine Ev.start (p:=fun φ n=>Z121.l0 (mkR (run E (φ 0))) (φ 0) n s 0 c=_) 1 ?_ (fun _ _ _ h=>h)
        refine Ev.round 1 (L:=fun φ n=>Z121.l0 (mkR (run E (φ 0))) (φ 0) n s 0 c) ?_ (fun _ _ _=>rfl)
        simp only[Z121.l0_succ _ qah,Z121.j1_eq _ qah]
        refine qay (decide_eq_true (by omega)) (qaz (decide_eq_false (by omega)) h4)
      · rw[qmu,qlM]
        constructor
        · rintro(h | h)
          · exact .inl h
          · exact .inr (.inl ⟨h,hne⟩)
        · rintro(h | ⟨h,_⟩ | ⟨i,hi,h1,h2⟩)
          · exact .inl h
          · exact .inr h
          · have:=h2.length_le
            rw[List.length_eraseIdx,if_pos hi] at this
            exact absurd (List.length_eq_zero_iff.1 (by omega)) h1
  | succ n ih =>
    intro s c hn hb hl hc hs hcl
    have hs1:s.length≤1048576:=by omega
    have hne:s≠[]:=fun e=>by rw[e] at hn;simp at hn
    by_cases hm:s∈c
    · refine⟨c,?_,hs,fun x=>⟨.inl,fun h=>h.elim id fun h=>hcl s hm x h⟩,by omega⟩
      refine qan ?_
      simp only[run_Z121,Z121.ev]
      exact qab (qce (c,()) s hc) (qay (decide_eq_true (qbj.2 hm)) qal)
    · have hadd:qlE (n+1)=(n+1+1)*qlE n+1:=rfl
      -- the qa9
      have loop:∀ d i (o:List Sim),i+d=s.length→Sm (.sl (.sl (.int .i64))) o→Srt o→Cl o→(∀ x,x∈o↔x∈c∨∃ j,j<i∧Fa x (s.eraseIdx j))→o.length≤c.length+i*qlE n→s.length*qlE n+1+c.length≤1048576 →
          ∃ c',(Ev fun φ=>Z121.l0 (mkR (run E (φ 0))) (φ 0) (φ 1) s (i:Int) o=some ⟨o_Z121,((c',()),())⟩)∧Srt c'∧(∀ x,x∈c'↔x∈c∨Fa x s)∧c'.length≤c.length+s.length*qlE n+1:=by
        intro d
        induction d with
        | zero =>
          intro i o hi ho1 ho2 ho3 ho4 ho5 hbig
          obtain rfl:i=s.length:=by omega
          have hn2:s∉o:=fun h=>by
            rcases(ho4 s).1 h with h | ⟨j,hj,h⟩
            · exact hm h
            · have:=qj1 h
              rw[List.length_eraseIdx,if_pos hj] at this
              omega
          obtain⟨t,ht,h3,h4⟩:=qlu s o id hs1 ho1 (by omega) ho2 hn2
          refine⟨_,?_,h3,fun x=>?_,by simp;omega⟩
          · have h4:Ev fun φ=>Z121.l2 (mkR (run E (φ 0))) (φ 0) (φ 0) s 0 o=some ⟨o_Z121,((o.take t++[s]++o.drop t,()),())⟩:=Ev.start (p:=fun φ n=>Z121.l2 (mkR (run E (φ 0))) (φ 0) n s 0 o=_) 2 h4 (fun _ _ _ h=>h)
            refine Ev.round 1 (L:=fun φ n=>Z121.l0 (mkR (run E (φ 0))) (φ 0) n s (s.length:Int) o) ?_ (fun _ _ _=>rfl)
            simp only[Z121.l0_succ _ qah,Z121.j1_eq _ qah]
            exact qaz (decide_eq_false (by omega)) (qaz rfl h4)
          · rw[qmu,ho4,qlM]
            constructor
            · rintro((h | ⟨j,hj,h⟩) | h)
              · exact .inl h
              · exact .inr (.inr ⟨j,hj,h⟩)
              · exact .inr (.inl ⟨h,hne⟩)
            · rintro(h | ⟨h,_⟩ | ⟨j,hj,h⟩)
              · exact .inl (.inl h)
              · exact .inr h
              · exact .inl (.inr ⟨j,hj,h⟩)
        | succ d ihd =>
          intro i o hi ho1 ho2 ho3 ho4 ho5 hbig
          have hil:i<s.length:=by omega
          have hel:(s.eraseIdx i).length=n+1:=by rw[List.length_eraseIdx,if_pos hil];omega
          have hmul:(i+1)*qlE n≤s.length*qlE n:=Nat.mul_le_mul_right _ (by omega)
          rw[Nat.add_mul,Nat.one_mul] at hmul
          obtain⟨o',hr,hs',hm',hl'⟩:=ih (s.eraseIdx i) o hel (by omega) (by omega) ho1 ho2 ho3
          obtain⟨c',hc1,hc2⟩:=ihd (i+1) o' (by omega) ⟨by show o'.length≤1048576;omega,fun x hx=>by
              rcases(hm' x).1 hx with h | h
              · exact ho1.2 x h
              · have:=qj1 h
                exact⟨by show x.length≤1048576;omega,fun _ _=>trivial⟩⟩ hs' (fun y hy x hx=>(hm' x).2 (by
              rcases(hm' y).1 hy with h | h
              · exact .inl (ho3 y h x hx)
              · exact .inr (qf8 hx h))) (fun x=>by
              rw[hm',ho4]
              constructor
              · rintro((h | ⟨j,hj,h⟩) | h)
                · exact .inl h
                · exact .inr ⟨j,by omega,h⟩
                · exact .inr ⟨i,by omega,h⟩
              · rintro(h | ⟨j,hj,h⟩)
                · exact .inl (.inl h)
                · by_cases e:j=i
                  · subst e;exact .inr h
                  · exact .inl (.inr ⟨j,by omega,h⟩)) (by rw[Nat.add_mul,Nat.one_mul];omega) hbig
          refine⟨c',?_,hc2⟩
          refine Ev.round 1 (L:=fun φ n=>Z121.l0 (mkR (run E (φ 0))) (φ 0) n s (i:Int) o) ?_ (fun _ _ _=>rfl)
          simp only[Z121.l0_succ _ qah,Z121.j1_eq _ qah]
          refine qay (decide_eq_true (by omega)) (qay (decide_eq_true (by omega)) (qab (qgf s i hil hs1) (qab hr ?_)))
          rw[qai (by omega)]
          exact hc1
      have hbig:s.length*qlE n+1+c.length≤1048576:=by rw[hn];rw[hadd] at hl;omega
      obtain⟨c',h1,h2,h3,h4⟩:=loop s.length 0 c (by omega) hc hs hcl (fun x=>⟨.inl,fun h=>h.elim id fun⟨j,hj,_⟩=>by omega⟩) (by omega) hbig
      refine⟨c',?_,h2,h3,?_⟩
      · refine qan ?_
        simp only[run_Z121,Z121.ev]
        refine qab (qce (c,()) s hc) (qaz (decide_eq_false fun h=>hm (qbj.1 h)) ?_)
        exact Ev.start (p:=fun φ n=>Z121.l0 (mkR (run E (φ 0))) (φ 0) n s 0 c=_) 1 h1 (fun _ _ _ h=>h)
      · rw[hadd,← hn];omega
theorem qgA(l:List Sim)(hl:l.length≤1024)(hx:∀ s∈l,1≤s.length∧s.length≤4) :
    ∃ c',Ret E n_Z114 [dLL l] ⟨o_Z114,(c',())⟩∧Srt c'∧(∀ x,x∈c'↔∃ s∈l,Fa x s)∧c'.length≤41*l.length:=by
  have loop:∀ d i (o:List Sim),i+d=l.length→Srt o→(∀ x,x∈o↔∃ s∈l.take i,Fa x s)→o.length≤41*i →
      ∃ c',(Ev fun φ=>Z114.l0 (mkR (run E (φ 0))) (φ 0) (φ 1) l (i:Int) o=some ⟨o_Z114,(c',())⟩)∧Srt c'∧(∀ x,x∈c'↔∃ s∈l,Fa x s)∧c'.length≤41*l.length:=by
    intro d
    induction d with
    | zero =>
      intro i o hi h1 h2 h3
      obtain rfl:i=l.length:=by omega
      rw[List.take_length] at h2
      refine⟨o,?_,h1,h2,h3⟩
      refine Ev.round 1 (L:=fun φ n=>Z114.l0 (mkR (run E (φ 0))) (φ 0) n l (l.length:Int) o) ?_ (fun _ _ _=>rfl)
      simp only[Z114.l0_succ _ qah]
      exact qaz (decide_eq_false (by omega)) qal
    | succ d ih =>
      intro i o hi h1 h2 h3
      have hil:i<l.length:=by omega
      obtain⟨g1,g2⟩:=hx _ (List.getElem_mem hil)
      have hadd:qlE (l[i].length-1)≤41:=by
        have:l[i].length-1=0∨l[i].length-1=1∨l[i].length-1=2∨l[i].length-1=3:=by omega
        rcases this with e | e | e | e<;>rw[e]<;>decide
      have hlen:∀ x∈o,x.length≤4:=fun x hx'=>by
        obtain⟨s,hs,hf⟩:=(h2 x).1 hx'
        have:=(hx s (List.mem_of_mem_take hs)).2
        have:=qj1 hf
        omega
      obtain⟨o',hr,hs',hm',hl'⟩:=qox (l[i].length-1) l[i] o (by omega) (by omega) (by omega) ⟨by show o.length≤1048576;omega,fun x hx'=>by have:=hlen x hx';exact⟨by show x.length≤1048576;omega,fun _ _=>trivial⟩⟩ h1 (fun y hy x hxy=>by
        obtain⟨s,hs,hf⟩:=(h2 y).1 hy
        exact(h2 x).2 ⟨s,hs,qf8 hxy hf⟩)
      obtain⟨c',hc1,hc2⟩:=ih (i+1) o' (by omega) hs' (fun x=>by
        rw[hm',h2,List.take_succ_eq_append_getElem hil]
        constructor
        · rintro(⟨s,hs,h⟩ | h)
          · exact⟨s,List.mem_append.2 (.inl hs),h⟩
          · exact⟨_,List.mem_append.2 (.inr (List.mem_singleton.2 rfl)),h⟩
        · rintro⟨s,hs,h⟩
          rcases List.mem_append.1 hs with hs | hs
          · exact .inl ⟨s,hs,h⟩
          · rw[List.mem_singleton] at hs;subst hs;exact .inr h) (by omega)
      refine⟨c',?_,hc2⟩
      refine Ev.round 1 (L:=fun φ n=>Z114.l0 (mkR (run E (φ 0))) (φ 0) n l (i:Int) o) ?_ (fun _ _ _=>rfl)
      simp only[Z114.l0_succ _ qah]
      refine qay (decide_eq_true (by omega)) (qae (qam hil) (qab hr ?_))
      rw[qai (by omega)]
      exact hc1
  obtain⟨c',h1,h2⟩:=loop l.length 0 [] (by omega) (fun i j hj=>by simp at hj) (fun x=>by simp) (by simp)
  refine⟨c',?_,h2⟩
  refine qan ?_
  simp only[run_Z114,Z114.ev]
  exact Ev.start (p:=fun φ n=>Z114.l0 (mkR (run E (φ 0))) (φ 0) n l 0 []=_) 1 h1 (fun _ _ _ h=>h)
end VeT
open Go Go.Proofs Ve
namespace VeT
theorem qjh.lt{s:Sim}(h:qjh s):∀ {i j:Nat} (hj:j<s.length) (hij:i<j),s[i]<s[j]:=by
 intro i j
 induction j with
 | zero=>intro _ h;omega
 | succ j ih =>
  intro hj hij
  have:=h (j+1) (by omega) hj
  rw[Nat.add_sub_cancel,qao (by omega),qao hj] at this
  by_cases e:i=j
  ·subst e;exact this
  ·exact Int.lt_trans (ih (by omega) (by omega)) this
theorem qjh.pairwise{s:Sim}(h:qjh s):s.Pairwise (·<·):=by
 rw[List.pairwise_iff_getElem]
 intro i j hi hj hij
 exact h.lt hj hij
end VeT
open Go Go.Proofs Ve
namespace VeT
theorem qmq{c:List Sim}(hs:Srt c)(hv:VC c){t:Nat}(ht:t<(qaJ c c.length).length) :
  ∃ k i f:Nat,k<c.length∧i<(qbw c k).length∧f<c.length∧(qaJ c c.length)[t]=((k:Int),(i:Int),(f:Int),()):=by
 obtain⟨k,i,h1,h2,h3⟩:=qd6 ht
 obtain⟨f,f1,f2,f3⟩:=qis hs hv h1 h2
 refine⟨k,i,f,h1,h2,f1,?_⟩
 have:=qcv h1 h2
 rw[← h3,List.getElem?_eq_getElem ht,f3] at this
 exact Option.some.inj this
theorem qfZ{c:List Sim}(hv:VC c):(qaJ c c.length).length≤192:=by
 have h:=hv.plc (k:=c.length) (Nat.le_refl _)
 have:=hv.1
 unfold plc at h
 omega
theorem qmg(c:List Sim)(p:Int)(st:Sim)(hc:Sm (.sl (.sl (.int .i64))) c)(hv:VC c)(hl:st.length=c.length)(hst:∀ x∈st,0≤x∧x≤3) :
  Ret E n_Z128 [dC (c,()),dI p,dL st] ⟨o_Z128,(c,p,st,(qaJ c c.length).map (zOf p st),())⟩:=by
 have hs:=hv.srt
 have h192:=qfZ hv
 have h48:=hv.1
 refine qan ?_
 simp only[run_Z128,Z128.ev]
 refine qab (qgv c hc hv) (qab (qdK st (by omega)) ?_)
 refine Ev.start (p:=fun φ n=>Z128.l0 (mkR (run E (φ 0))) (φ 0) n (c,()) p st 0 0 p [] c st=_) 1 ?_ (fun _ _ _ h=>h)
 refine qav 1 (L:=fun φ n k o=>Z128.l0 (mkR (run E (φ 0))) (φ 0) n (c,()) p st k 0 p o c st) (len:=c.length) (fun k=>(qaJ c k).map (zOf p st)) (fun _ _ _ _ _=>rfl) (fun k r hk ih=>?_) ?_
 ·simp only[Z128.l0_succ _ qah]
  have hpl:=hv.plc (k:=k) (by omega)
  unfold plc at hpl
  have hf4:=hv.fIdx4 hk
  refine qay (decide_eq_true (by show(k:Int)<(c.length:Int);omega)) (qab (qjH c k hk hc) ?_)
  refine Ev.start (p:=fun φ n=>Z128.l1 (mkR (run E (φ 0))) (φ 0) (φ 1) n (c,()) p st (k:Int) (qbw c k) 0 0 p ((qaJ c k).map (zOf p st)) c st=_) 2 ?_ (fun _ _ _ h=>h)
  have:=qav 2 (L:=fun φ n j o=>Z128.l1 (mkR (run E (φ 0))) (φ 0) (φ 1) n (c,()) p st (k:Int) (qbw c k) j 0 p o c st) (len:=(qbw c k).length) (fun j=>(qaJ c k++qkz c k j).map (zOf p st)) (r:=r) (fun _ _ _ _ _=>rfl) (fun j r hj ih=>?_) ?_
  ·simpa [qkz] using this
  ·simp only[Z128.l1_succ _ qah]
   obtain⟨f,f1,f2,f3⟩:=qis hs hv hk hj
   obtain⟨a,ha,ea,hka,eka⟩:=qeU hl hst hk
   obtain⟨b,hb,eb,hfb,efb⟩:=qeU hl hst f1
   have hz:=qkQ p a b (by omega) (by omega)
   have e2:zOf p st ((k:Int),(j:Int),(qbw c k).getD j 0,())=(p,(a:Int),(b:Int),List.replicate (a*b) 0,()):=by
    unfold zOf
    simp only[Int.toNat_natCast,ea,eb,f3]
   have erow:qkz c k (j+1)=qkz c k j++[((k:Int),(j:Int),(qbw c k).getD j 0,())]:=by
    unfold qkz
    rw[List.range_succ,List.map_append,List.map_singleton]
   rw[erow,← List.append_assoc,List.map_append (l₂:=[_]),List.map_singleton,e2] at ih
   refine qay (decide_eq_true (by omega)) (qae (qam hka) (qae (qam hj) ?_))
   simp only[eka,f2]
   refine qae (qam hfb) ?_
   simp only[efb]
   refine qab hz (qaw (by simp only[List.length_map,List.length_append,qc9,List.length_singleton,decide_eq_true_eq];omega) ?_)
   rw[qai (by omega)];exact ih
  ·simp only[Z128.l1_succ _ qah]
   refine qaz (decide_eq_false (by omega)) ?_
   rw[qai (by omega)]
   have:qaJ c (k+1)=qaJ c k++qkz c k (qbw c k).length:=rfl
   rw[this] at ih
   exact ih
 ·simp only[Z128.l0_succ _ qah]
  exact qaz (decide_eq_false (by show ¬ ((c.length:Int)<(c.length:Int));omega)) qal
end VeT
open Go Go.Proofs Ve
namespace VeT
def mkL(k:Int)(n:Nat):Sim:=(List.range n).map fun(i:Nat)=>k+(i:Int)
theorem qb1{k:Int}{n:Nat}:(mkL k n).length=n:=by simp[mkL]
theorem qoJ{k:Int}{n i:Nat}(h:i<(mkL k n).length):(mkL k n)[i]=k+i:=by simp[mkL]
theorem qcA(s:Sim)(k:Int)(hk:0≤k∧k≤4611686018427387904)(hs:s.length≤1048576):Ret E n_Z63 [dL s,dI k] ⟨o_Z63,(k+s.length,mkL k s.length,())⟩:=by
 refine qan ?_
 simp only[run_Z63,Z63.ev]
 refine Ev.start (p:=fun φ n=>Z63.l0 (mkR (run E (φ 0))) (φ 0) n k 0 s=_) 1 ?_ (fun _ _ _ h=>h)
 have hl:∀ j,j≤s.length→(mkL k j++s.drop j).length=s.length:=fun j hj=>by rw[List.length_append,qb1,List.length_drop];omega
 have:=qav 1 (L:=fun φ n j (a:Int×Sim)=>Z63.l0 (mkR (run E (φ 0))) (φ 0) n a.1 j a.2) (len:=s.length) (fun j=>(k+(j:Int),mkL k j++s.drop j)) (r:=some ⟨o_Z63,(k+s.length,mkL k s.length,())⟩) (fun _ _ _ _ _=>rfl) (fun j r hj ih=>?_) ?_
 ·simpa [mkL] using this
 ·simp only[Z63.l0_succ _ qah,hl j (by omega)]
  refine qay (decide_eq_true (by omega)) (qaw (by simp;omega) ?_)
  rw[qai (by omega),qat (by omega) (by omega),Int.toNat_natCast]
  have e:(mkL k j++s.drop j).set j (k+j)=mkL k (j+1)++s.drop (j+1):=by
   rw[List.drop_eq_getElem_cons hj,List.set_append_right _ _ (by rw[qb1];omega),qb1,Nat.sub_self,List.set_cons_zero]
   unfold mkL
   rw[List.range_succ,List.map_append,List.append_assoc];rfl
  rw[e,show k+(j:Int)+1=k+((j+1:Nat):Int) by omega]
  exact ih
 ·simp only[Z63.l0_succ _ qah,hl s.length (Nat.le_refl _)]
  refine qaz (decide_eq_false (by omega)) (qap ?_)
  simp
theorem qcz(k:Int)(n:Nat)(hk:0≤k∧k≤4611686018427387904)(hn:n≤1048576):Ret E n_Z58 [dL (mkL k n),dI k] ⟨o_Z58,(k+n,())⟩:=by
 refine qan ?_
 simp only[run_Z58,Z58.ev]
 refine Ev.start (p:=fun φ m=>Z58.l0 (mkR (run E (φ 0))) (φ 0) m (mkL k n) k 0=_) 1 ?_ (fun _ _ _ h=>h)
 have:=qav 1 (L:=fun φ m j a=>Z58.l0 (mkR (run E (φ 0))) (φ 0) m (mkL k n) a j) (len:=n) (fun j=>k+(j:Int)) (r:=some ⟨o_Z58,(k+n,())⟩) (fun _ _ _ _ _=>rfl) (fun j r hj ih=>?_) ?_
 ·simpa using this
 ·simp only[Z58.l0_succ _ qah,qb1]
  have hj':j<(mkL k n).length:=by rw[qb1];exact hj
  refine qay (decide_eq_true (by omega)) (qae (qam hj') (qaz (by simp[qoJ hj']) ?_))
  rw[qai (by omega),qat (by omega) (by omega),show k+(j:Int)+1=k+((j+1:Nat):Int) by omega]
  exact ih
 ·simp only[Z58.l0_succ _ qah,qb1]
  exact qaz (decide_eq_false (by omega)) qal
def qkf:List Sim→Int→List Sim
 | [],_=>[]
 | x::xs,k=>mkL k x.length::qkf xs (k+x.length)
def mkN:List Sim→Int→Int
 | [],k=>k
 | x::xs,k=>mkN xs (k+x.length)
theorem qd8:∀ {xs:List Sim} {k:Int},(qkf xs k).length=xs.length
 | [],_=>rfl
 | x::xs,k=>by simp[qkf,qd8]
theorem qkk:∀ {xs:List Sim} {k:Int},(∀ x∈xs,x.length≤1048576)→k≤mkN xs k∧mkN xs k≤k+1048576*xs.length
 | [],k,_=>by simp[mkN]
 | x::xs,k,h=>by
  have h1:=qkk (xs:=xs) (k:=k+x.length) fun y hy=>h y (List.mem_cons_of_mem _ hy)
  have h2:=h x List.mem_cons_self
  simp only[mkN,List.length_cons];omega
theorem qfn:∀(xs:List Sim) (k:Int),0≤k→k+1048576*xs.length≤4611686018427387904→(∀ x∈xs,x.length≤1048576)→Evt fun n=>qbu n_Z63 (mkR (run E n)) xs k=some (mkN xs k,qkf xs k)
 | [],k,_,_,_=>Evt.of fun _=>rfl
 | x::xs,k,h0,hb,hx=>by
  have h2:=hx x List.mem_cons_self
  simp only[List.length_cons] at hb
  have h3:=qfn xs (k+x.length) (by omega) (by omega) fun y hy=>hx y (List.mem_cons_of_mem _ hy)
  have h4:=qcA x k (by omega) h2
  refine(h4.and h3).mono fun n ⟨a,b⟩=>?_
  have a':qdy (mkR (run E n)) n_Z63 oM [⟨tL,x⟩,⟨tI,k⟩]=some (k+x.length,mkL k x.length,()):=qbt a
  simp only[qbu,a',Option.bind_some,b,Option.map_some,mkN,qkf]
theorem qme(n:Nat)(args:List Dv):run E (n+1) n_Z64 args=qfa n_Z63 (mkR (run E n)) args:=rfl
theorem qg9(xs:List Sim)(k:Int)(hk:0≤k∧k≤1125899906842624)(hs:Sm (.sl (.sl (.int .i64))) xs):Ret E n_Z64 [dLL xs,dI k] ⟨o_Z64,(mkN xs k,qkf xs k,())⟩:=by
 have hs1:xs.length≤1048576:=hs.1
 refine Evt.succ ((qfn xs k hk.1 (by omega) fun x hx=>(hs.2 x hx).1).mono fun n h=>?_)
 rw[qme]
 show((qbu n_Z63 (mkR (run E n)) xs k).map fun q=>(⟨.cons tI (.cons (.sl tL) .nil),(q.1,q.2,())⟩:Dv))=_
 rw[h];rfl
theorem qgP(xs:List Sim)(k:Int)(hk:0≤k∧k≤1125899906842624)(hs:Sm (.sl (.sl (.int .i64))) xs):Ret E n_Z59 [dLL (qkf xs k),dI k] ⟨o_Z59,(mkN xs k,())⟩:=by
 have hs1:xs.length≤1048576:=hs.1
 refine qan ?_
 simp only[run_Z59,Z59.ev]
 refine Ev.start (p:=fun φ m=>Z59.l0 (mkR (run E (φ 0))) (φ 0) m (qkf xs k) k 0=_) 1 ?_ (fun _ _ _ h=>h)
 -- the rows that are left
 refine qeA 1 (σ:=Nat×Int) (L:=fun φ m s=>Z59.l0 (mkR (run E (φ 0))) (φ 0) m (qkf xs k) s.2 (s.1:Int)) (fun _ _ _ _=>rfl) (fun s=>s.1≤xs.length∧(qkf xs k).drop s.1=qkf (xs.drop s.1) s.2∧mkN xs k=mkN (xs.drop s.1) s.2∧k≤s.2∧s.2≤k+1048576*s.1) (fun _=>_) (fun s=>xs.length-s.1) (fun s hi ih=>?_) (0,k) ⟨Nat.zero_le _,rfl,rfl,Int.le_refl _,by simp⟩
 obtain⟨j,q⟩:=s
 obtain⟨h1,h2,h3,h4,h5⟩:=hi
 simp only at h1 h2 h3 h4 h5 ih
 simp only[Z59.l0_succ _ qah,qd8]
 refine qew (fun hlt=>?_) fun hlt=>qap ?_
 ·have hj:j<xs.length:=by omega
  have hj':j<(qkf xs k).length:=by rw[qd8];exact hj
  rw[List.drop_eq_getElem_cons hj,List.drop_eq_getElem_cons hj',qkf] at h2
  rw[List.drop_eq_getElem_cons hj,mkN] at h3
  obtain⟨e1,e2⟩:=List.cons.inj h2
  have hx:=(qbq hs hj).1
  have hx:(xs[j]).length≤1048576:=hx
  refine qae (qam hj') ?_
  rw[e1]
  refine qab (qcz q (xs[j]).length (by omega) hx) (qaz (decide_eq_false (Int.not_lt.2 (by show 0≤q+((xs[j]).length:Int);omega))) ?_)
  rw[qai (by omega)]
  exact ih (j+1,q+((xs[j]).length:Int)) ⟨by show j+1≤_;omega,e2,h3,by show k≤q+((xs[j]).length:Int);omega,by show q+((xs[j]).length:Int)≤k+1048576*((j+1:Nat):Int);omega⟩ (by show xs.length-(j+1)<xs.length-j;omega)
 ·have e:j=xs.length:=by omega
  subst e
  rw[List.drop_length,mkN] at h3
  rw[h3]
end VeT
open Go Go.Proofs Ve
namespace VeT
def qkv:List ql8→Int→List ql8
 | [],_=>[]
 | x::xs,k=>(k,k+1,k+1+1,mkL (k+1+1+1) x.2.2.2.1.length,())::qkv xs (k+1+1+1+x.2.2.2.1.length)
def qk3:List ql8→Int→Int
 | [],k=>k
 | x::xs,k=>qk3 xs (k+1+1+1+x.2.2.2.1.length)
theorem qkT:∀ {xs:List ql8} {k:Int},(∀ x∈xs,x.2.2.2.1.length≤1048576)→k≤qk3 xs k∧qk3 xs k≤k+1048579*xs.length
 | [],k,_=>by simp[qk3]
 | x::xs,k,h=>by
  have h1:=qkT (xs:=xs) (k:=k+1+1+1+x.2.2.2.1.length) fun y hy=>h y (List.mem_cons_of_mem _ hy)
  have h2:=h x List.mem_cons_self
  simp only[qk3,List.length_cons];omega
theorem qeG:∀(xs:List ql8) (k:Int),0≤k→k+1048579*xs.length≤4611686018427387904→(∀ x∈xs,x.2.2.2.1.length≤1048576)→Evt fun n=>qa7 n_Z63 (mkR (run E n)) xs k=some (qk3 xs k,qkv xs k)
 | [],k,_,_,_=>Evt.of fun _=>rfl
 | x::xs,k,h0,hb,hx=>by
  have h2:=hx x List.mem_cons_self
  simp only[List.length_cons] at hb
  have h3:=qeG xs (k+1+1+1+x.2.2.2.1.length) (by omega) (by omega) fun y hy=>hx y (List.mem_cons_of_mem _ hy)
  have h4:=qcA x.2.2.2.1 (k+1+1+1) (by omega) h2
  refine(h4.and h3).mono fun n ⟨a,b⟩=>?_
  have a':qdy (mkR (run E n)) n_Z63 oM [⟨tL,x.2.2.2.1⟩,⟨tI,k+1+1+1⟩]=some (k+1+1+1+x.2.2.2.1.length,mkL (k+1+1+1) x.2.2.2.1.length,()):=qbt a
  rw[qa7,if_pos (by omega)]
  simp only[a',Option.bind_some,b,Option.map_some,qk3,qkv]
theorem qmn(n:Nat)(args:List Dv):run E (n+1) n_Z65 args=qfk n_Z63 (mkR (run E n)) args:=rfl
theorem qhg(xs:List ql8)(k:Int)(hk:0≤k∧k≤4398046511104)(hs:Sm (.sl tM) xs):Ret E n_Z65 [⟨.sl tM,xs⟩,⟨.int .i64,k⟩] ⟨o_Z65,(qk3 xs k,qkv xs k,())⟩:=by
 have hs1:xs.length≤1048576:=hs.1
 refine Evt.succ ((qeG xs k hk.1 (by omega) fun x hx=>(hs.2 x hx).2.2.2.1.1).mono fun n h=>?_)
 rw[qmn]
 show((qa7 n_Z63 (mkR (run E n)) xs k).map fun q=>(⟨.cons tI (.cons (.sl tM) .nil),(q.1,q.2,())⟩:Dv))=_
 rw[h];rfl
theorem qfQ(xs:List Sim)(k:Int)(hk:0≤k∧k≤1125899906842624)(hs:Sm (.sl (.sl (.int .i64))) xs):Ret E n_Z62 [dLL xs,dI k] ⟨o_Z62,(mkN xs k,qkf xs k,())⟩:=by
 refine qan ?_
 simp only[run_Z62,Z62.ev]
 exact qab (qg9 xs k hk hs) qal
def qpy(x:Shf)(k:Int):Int:=qk3 x.2.2.2.1 (mkN x.1 k+x.2.2.1.length)
end VeT
open Go Go.Proofs Ve
namespace VeT
end VeT
open Go Go.Proofs Ve
namespace VeT
end VeT
open Go Go.Proofs Ve
namespace VeT
theorem VM.len{m:Mat}(h:VM m):m.2.2.2.1.length≤1024:=by
 obtain⟨R,C,_,hR,hC,hl⟩:=h.nat
 have:=qph hR hC
 omega
end VeT
open Go Go.Proofs Ve
namespace VeT
end VeT
open Go Go.Proofs Ve
namespace VeT
theorem qht(xs:List Mat)(k:Int)(hk:0≤k∧k≤4398046511104)(hs:Sm (.sl (.st cM)) xs):Ret E n_Z60 [dMs (qkv xs k),dI k] ⟨o_Z60,(qk3 xs k,())⟩:=by
 have hs1:xs.length≤1048576:=hs.1
 have hlen:∀ {xs:List Mat} {k:Int},(qkv xs k).length=xs.length:=by
  intro xs
  induction xs with
  | nil=>intro k;rfl
  | cons x xs ih=>intro k;simp[qkv,ih]
 refine qan ?_
 simp only[run_Z60,Z60.ev]
 refine Ev.start (p:=fun φ m=>Z60.l0 (mkR (run E (φ 0))) (φ 0) m (qkv xs k) k 0=_) 1 ?_ (fun _ _ _ h=>h)
 refine qeA 1 (σ:=Nat×Int) (L:=fun φ m s=>Z60.l0 (mkR (run E (φ 0))) (φ 0) m (qkv xs k) s.2 (s.1:Int)) (fun _ _ _ _=>rfl) (fun s=>s.1≤xs.length∧(qkv xs k).drop s.1=qkv (xs.drop s.1) s.2∧qk3 xs k=qk3 (xs.drop s.1) s.2∧k≤s.2∧s.2≤k+1048579*s.1) (fun _=>_) (fun s=>xs.length-s.1) (fun s hi ih=>?_) (0,k) ⟨Nat.zero_le _,rfl,rfl,Int.le_refl _,by simp⟩
 obtain⟨j,q⟩:=s
 obtain⟨h1,h2,h3,h4,h5⟩:=hi
 simp only at h1 h2 h3 h4 h5 ih
 simp only[Z60.l0_succ _ qah,hlen]
 refine qew (fun hlt=>?_) fun hlt=>qap ?_
 ·have hj:j<xs.length:=by omega
  have hj':j<(qkv xs k).length:=by rw[hlen];exact hj
  rw[List.drop_eq_getElem_cons hj,List.drop_eq_getElem_cons hj',qkv] at h2
  rw[List.drop_eq_getElem_cons hj,qk3] at h3
  obtain⟨e1,e2⟩:=List.cons.inj h2
  have hx:=(qna hs hj).2.2.2.1.1
  have hx:(xs[j]).2.2.2.1.length≤1048576:=hx
  have w1:w64 (q+1)=q+1:=qat (by omega) (by omega)
  have w2:w64 (q+1+1)=q+1+1:=qat (by omega) (by omega)
  have w3:w64 (q+1+1+1)=q+1+1+1:=qat (by omega) (by omega)
  have hg:(qkv xs k)[j]? = some (q,q+1,q+1+1,mkL (q+1+1+1) (xs[j]).2.2.2.1.length,()):=by rw[List.getElem?_eq_getElem hj',e1]
  simp only[w1,w2,w3]
  refine qae (qgD.trans hg) (qaz (by simp) (qae (qgD.trans hg) (qaz (by simp) (qae (qgD.trans hg) (qaz (by simp) (qae (qgD.trans hg) (qab (qcz (q+1+1+1) (xs[j]).2.2.2.1.length (by omega) hx) (qaz (decide_eq_false (Int.not_lt.2 (by show 0≤q+1+1+1+((xs[j]).2.2.2.1.length:Int);omega))) ?_))))))))
  rw[qai (by omega)]
  exact ih (j+1,q+1+1+1+((xs[j]).2.2.2.1.length:Int)) ⟨by show j+1≤_;omega,e2,h3,by show k≤q+1+1+1+((xs[j]).2.2.2.1.length:Int);omega,by show q+1+1+1+((xs[j]).2.2.2.1.length:Int)≤k+1048579*((j+1:Nat):Int);omega⟩ (by show xs.length-(j+1)<xs.length-j;omega)
 ·have e:j=xs.length:=by omega
  subst e
  rw[List.drop_length,qk3] at h3
  rw[h3]
end VeT
open Go Go.Proofs Ve
namespace VeT
theorem qhs(xs:List Sim)(k:Int)(hk:0≤k∧k≤1125899906842624)(hs:Sm (.sl (.sl (.int .i64))) xs):Ret E n_Z57 [dLL (qkf xs k),dI k] ⟨o_Z57,(mkN xs k,())⟩:=by
 have h1:xs.length≤1048576:=hs.1
 have g:=qkk (xs:=xs) (k:=k) fun y hy=>(hs.2 y hy).1
 refine qan ?_
 simp only[run_Z57,Z57.ev]
 exact qab (qgP xs k hk hs) (qaz (decide_eq_false (Int.not_lt.2 (by show 0≤mkN xs k;omega))) qal)
theorem qhz(x:Shf)(hx:Sm (.st cS) x):Ret E n_Z66 [dLL x.1,dI x.2.1,dL x.2.2.1,dMs x.2.2.2.1,dI 1] ⟨o_Z66,(qpy x 1,qkf x.1 1,mkL (mkN x.1 1) x.2.2.1.length,qkv x.2.2.2.1 (mkN x.1 1+x.2.2.1.length),())⟩:=by
 have h1:Sm (.sl (.sl (.int .i64))) x.1:=hx.1
 have h2:x.2.2.1.length≤1048576:=hx.2.2.1.1
 have h3:Sm (.sl tM) x.2.2.2.1:=hx.2.2.2.1
 have l1:x.1.length≤1048576:=h1.1
 have l3:x.2.2.2.1.length≤1048576:=h3.1
 have g1:=qkk (xs:=x.1) (k:=1) fun y hy=>(h1.2 y hy).1
 refine qan ?_
 simp only[run_Z66,Z66.ev]
 exact qab (qfQ x.1 1 (by omega) h1) (qab (qcA x.2.2.1 (mkN x.1 1) (by omega) h2) (qab (qhg x.2.2.2.1 (mkN x.1 1+x.2.2.1.length) (by omega) h3) qal))
theorem qiv(x:Shf)(hx:Sm (.st cS) x):Ret E n_Z61 [dLL (qkf x.1 1),dI x.2.1,dL (mkL (mkN x.1 1) x.2.2.1.length),dMs (qkv x.2.2.2.1 (mkN x.1 1+x.2.2.1.length)),dI 1] ⟨o_Z61,(qpy x 1,())⟩:=by
 have h1:Sm (.sl (.sl (.int .i64))) x.1:=hx.1
 have h2:x.2.2.1.length≤1048576:=hx.2.2.1.1
 have h3:Sm (.sl tM) x.2.2.2.1:=hx.2.2.2.1
 have l1:x.1.length≤1048576:=h1.1
 have l3:x.2.2.2.1.length≤1048576:=h3.1
 have g1:=qkk (xs:=x.1) (k:=1) fun y hy=>(h1.2 y hy).1
 have g3:=qkT (xs:=x.2.2.2.1) (k:=mkN x.1 1+x.2.2.1.length) fun y hy=>(h3.2 y hy).2.2.2.1.1
 refine qan ?_
 simp only[run_Z61,Z61.ev]
 refine qab (qhs x.1 1 (by omega) h1) (qaz (decide_eq_false (Int.not_lt.2 (by show 0≤mkN x.1 1;omega))) ?_)
 refine qab (qcz (mkN x.1 1) x.2.2.1.length (by omega) h2) (qaz (decide_eq_false (Int.not_lt.2 (by show 0≤mkN x.1 1+(x.2.2.1.length:Int);omega))) ?_)
 refine qab (qht x.2.2.2.1 (mkN x.1 1+x.2.2.1.length) (by omega) h3) (qaz (decide_eq_false (Int.not_lt.2 (by show 0≤qk3 x.2.2.2.1 (mkN x.1 1+(x.2.2.1.length:Int));omega))) qal)
theorem qow(x:Shf)(hx:Sm (.st cS) x):0≤qpy x 1:=by
 have h1:Sm (.sl (.sl (.int .i64))) x.1:=hx.1
 have h3:Sm (.sl tM) x.2.2.2.1:=hx.2.2.2.1
 have g1:=qkk (xs:=x.1) (k:=1) fun y hy=>(h1.2 y hy).1
 have g3:=qkT (xs:=x.2.2.2.1) (k:=mkN x.1 1+x.2.2.1.length) fun y hy=>(h3.2 y hy).2.2.2.1.1
 unfold qpy
 omega
end VeT
open Go Go.Proofs Ve
namespace VeT
theorem qf9:∀ {a b:Sim},a.Pairwise (·<·)→b.Pairwise (·<·)→(∀ x∈a,x∈b)→a.Sublist b
  | [],b,_,_,_=>List.nil_sublist b
  | x::xs,[],_,_,h=>absurd (h x List.mem_cons_self) (by simp)
  | x::xs,y::ys,ha,hb,h=>by
    have ha':=List.pairwise_cons.1 ha
    have hb':=List.pairwise_cons.1 hb
    by_cases e:x=y
    · subst e
      refine List.Sublist.cons_cons _ (qf9 ha'.2 hb'.2 fun z hz=>?_)
      rcases List.mem_cons.1 (h z (List.mem_cons_of_mem _ hz)) with rfl | hz'
      · have:=ha'.1 z hz;omega
      · exact hz'
    · have hxy:x∈ys:=by
        rcases List.mem_cons.1 (h x List.mem_cons_self) with h1 | h1
        · exact absurd h1 e
        · exact h1
      have hlt:=hb'.1 x hxy
      refine List.Sublist.cons _ (qf9 ha hb'.2 fun z hz=>?_)
      rcases List.mem_cons.1 (h z hz) with rfl | hz'
      · rcases List.mem_cons.1 hz with rfl | hz2
        · exact absurd rfl e
        · have:=ha'.1 z hz2;omega
      · exact hz'
theorem ql5{c:List Sim}(hv:VC c){i k:Nat}(hi:i<c.length)(hk:k<c.length)(h:qoC (c.getD k []) (c.getD i [])):k≤i:=by
 refine Classical.byContradiction fun hn=>?_
 have hs:=hv.srt i k hk (by omega)
 rw[qao hk,qao hi] at h
 have r1:=(hv.2.1 k hk).2.2.1
 have r2:=(hv.2.1 i hi).2.2.1
 rw[qao hk] at r1
 rw[qao hi] at r2
 have sub:=qf9 r1.pairwise r2.pairwise h
 have hl:=sub.length_le
 rcases qgx.1 hs with h1 | ⟨h1,h2⟩
 ·omega
 ·have e:=sub.eq_of_length h1.symm
  rw[e,qcE,qcG.2 rfl] at hs
  omega
theorem qfX{c:List Sim}{s:Sim}:∀ {n:Nat} {x:Int},x∈qek c s n↔∃ i:Nat,x=(i:Int)∧i<n∧qoC s (c.getD i [])
 | 0,x=>by simp[qek]
 | n+1,x=>by
  rw[qek,List.mem_append,qfX]
  constructor
  ·rintro(⟨i,h1,h2,h3⟩ | h)
   ·exact⟨i,h1,by omega,h3⟩
   ·split at h
    ·rename_i hp
     rw[List.mem_singleton] at h
     exact⟨n,h,by omega,hp⟩
    ·simp at h
  ·rintro⟨i,h1,h2,h3⟩
   by_cases e:i=n
   ·subst e
    right
    rw[if_pos h3,h1];simp
   ·exact .inl ⟨i,h1,by omega,h3⟩
theorem qib{c:List Sim}{s:Sim}:∀ {n:Nat},(qek c s n).Pairwise (·<·)
 | 0=>by simp[qek]
 | n+1=>by
  rw[qek,List.pairwise_append]
  refine⟨qib,by split<;>simp,fun x hx y hy=>?_⟩
  obtain⟨i,rfl,hi,_⟩:=qfX.1 hx
  split at hy
  ·rw[List.mem_singleton] at hy;omega
  ·simp at hy
end VeT
open Go Go.Proofs Ve
namespace VeT
def EvQ(A:(Nat→Nat)→Option Dv)(out:Ty)(Q:out.T→Prop):Prop:=∃ x,(Ev fun φ=>A φ=some ⟨out,x⟩)∧Q x
theorem EvQ.round(l:Nat){L:(Nat→Nat)→Nat→Option Dv}{out:Ty}{Q:out.T→Prop}(h:EvQ (fun φ=>L φ (φ l+1)) out Q)(hind:∀ φ n n',L (fup φ l n') n=L φ n):EvQ (fun φ=>L φ (φ l)) out Q :=
 let ⟨z,h1,h2⟩:=h;⟨z,Ev.round l h1 hind,h2⟩
theorem EvQ.start(l:Nat){L:(Nat→Nat)→Nat→Option Dv}{out:Ty}{Q:out.T→Prop}(h:EvQ (fun φ=>L φ (φ l)) out Q)(hind:∀ φ n n',L (fup φ l n') n=L φ n):EvQ (fun φ=>L φ (φ 0)) out Q :=
 let ⟨z,h1,h2⟩:=h;⟨z,Ev.start (p:=fun φ n=>L φ n=_) l h1 (fun φ n n' h=>by rw[hind] at h;exact h),h2⟩
theorem EvQ.loop(l:Nat){σ:Type}{L:(Nat→Nat)→Nat→σ→Option Dv}{out:Ty}{Q:out.T→Prop}(hind:∀ φ n n' s,L (fup φ l n') n s=L φ n s)(Inv:σ→Prop)(μ:σ→Nat)
  (step:∀ s,Inv s→(∀ s',Inv s'→μ s'<μ s→EvQ (fun φ=>L φ (φ l) s') out Q)→EvQ (fun φ=>L φ (φ l+1) s) out Q):∀ s,Inv s→EvQ (fun φ=>L φ (φ l) s) out Q:=by
 have key:∀ d s,μ s<d→Inv s→EvQ (fun φ=>L φ (φ l) s) out Q:=by
  intro d
  induction d with
  | zero=>intro s h;omega
  | succ d ih =>
   intro s hd hi
   exact EvQ.round l (L:=fun φ n=>L φ n s) (step s hi fun s' hi' hl=>ih s' (by omega) hi') (fun φ n n'=>hind φ n n' s)
 exact fun s=>key _ s (Nat.lt_succ_self _)
end VeT
open Go Go.Proofs Ve
namespace VeT
end VeT
open Go Go.Proofs Ve
namespace VeT
end VeT
open Go Go.Proofs Ve
namespace VeT
end VeT
open Go Go.Proofs Ve
namespace VeT
end VeT
open Go Go.Proofs Ve
namespace VeT
end VeT
open Go Go.Proofs Ve
namespace VeT
def qpU(c:List Sim)(w:Sim):Prop:=qjh w∧∀ y∈w,0≤y∧y≤(c.length:Int)-1
theorem qpU.get{c:List Sim}{w:Sim}(h:qpU c w){i:Nat}(hi:i<w.length):∃ n:Nat,w[i]=(n:Int)∧n<c.length:=by
 have:=h.2 _ (List.getElem_mem hi)
 exact⟨(w[i]).toNat,by omega,by omega⟩
end VeT
open Go Go.Proofs Ve
namespace VeT
theorem qnC{s:Sim}(h:s.Pairwise (·<·)):qjh s:=fun j h1 h2=>by
 rw[qao (show j-1<s.length by omega),qao h2]
 exact List.pairwise_iff_getElem.1 h (j-1) j (by omega) h2 (by omega)
end VeT
open Go Go.Proofs Ve
set_option linter.unusedVariables false
set_option linter.unusedSimpArgs false
namespace VeT

end VeT

open Go Go.Proofs Ve
namespace VeT
theorem VC.get{c:List Sim}(h:VC c){s:Sim}(hs:s∈c):Vx s:=by
 obtain⟨k,hk,rfl⟩:=List.mem_iff_getElem.1 hs
 have:=h.2.1 k hk
 rwa [qao hk] at this
end VeT
open Go Go.Proofs Ve
namespace VeT
theorem Vx.fa{x s:Sim}(h:Vx s)(hf:Fa x s):Vx x:=by
 refine⟨List.length_pos_iff.2 hf.1,?_,qnC (h.2.2.1.pairwise.sublist hf.2),fun y hy=>h.2.2.2 y (hf.2.subset hy)⟩
 have:=hf.2.length_le
 have:=h.2.1
 omega
theorem VC.sm{c:List Sim}(h:VC c):Sm (.sl (.sl (.int .i64))) c:=by
 refine⟨by have:=h.1;show c.length≤1048576;omega,fun s hs=>?_⟩
 obtain⟨k,hk,rfl⟩:=List.getElem_of_mem hs
 have:=h.2.1 k hk
 rw[List.getD_eq_getElem?_getD,List.getElem?_eq_getElem hk] at this
 have:=this.2.1
 refine⟨?_,fun _ _=>trivial⟩
 show(c[k]).length≤1048576
 simp at this
 omega
end VeT
open Go Go.Proofs Ve
namespace VeT
def wtN(n:Nat):Nat:=if n≤1 then 1 else if n=2 then 3 else if n=3 then 10 else 41
def wtL(l:List Sim):Nat:=(l.map fun s=>wtN s.length).sum
theorem qom(n:Nat):1≤wtN n∧wtN n≤41:=by
 unfold wtN
 split
 ·omega
 ·split
  ·omega
  ·split<;>omega
theorem qjg(s:Sim)(l:List Sim):wtL (s::l)=wtN s.length+wtL l:=by unfold wtL;rw[List.map_cons,List.sum_cons]
theorem qnm(a b:List Sim):wtL (a++b)=wtL a+wtL b:=by unfold wtL;rw[List.map_append,List.sum_append]
theorem qmV(l:List Sim):l.length≤wtL l∧wtL l≤41*l.length:=by
 induction l with
 | nil=>exact⟨Nat.le_refl _,Nat.le_refl _⟩
 | cons s l ih =>
  have:=qom s.length
  rw[qjg,List.length_cons]
  omega
theorem qo8{l:List Sim}{m:Nat}(h:∀ s∈l,wtN s.length=m):wtL l=l.length*m:=by
 induction l with
 | nil=>rw[List.length_nil,Nat.zero_mul];rfl
 | cons s l ih =>
  rw[qjg,h s List.mem_cons_self,ih fun x hx=>h x (List.mem_cons_of_mem _ hx),List.length_cons,Nat.succ_mul]
  omega
theorem qmS{s:Sim}(h:s.length≤4):wtL (qa9 s)+1≤wtN s.length:=by
 by_cases h1:1<s.length
 ·have hl:=qcr (s:=s)
  have e:=qo8 (l:=qa9 s) (m:=wtN (s.length-1)) fun f hf=>by
   have:=qgU hf
   rw[show f.length=s.length-1 by omega]
  rw[e]
  have h3:s.length=2∨s.length=3∨s.length=4:=by omega
  rcases h3 with h3 | h3 | h3
  ·rw[h3];show(qa9 s).length*1+1≤3;omega
  ·rw[h3];show(qa9 s).length*3+1≤10;omega
  ·rw[h3];show(qa9 s).length*10+1≤41;omega
 ·have e:qa9 s=[]:=by unfold qa9;rw[if_neg h1]
  rw[e]
  exact(qom _).1
def qhx(l c:List Sim):Prop:=Srt c∧∀ x,x∈c↔∃ s∈l,Fa x s
theorem qkI{s f:Sim}(h:f∈qa9 s):Fa f s∧1≤f.length∧f.length+1=s.length:=by
 have hl:=qgU h
 obtain⟨h1,i,hi,rfl⟩:=qdh.1 h
 exact⟨⟨fun e=>by rw[e] at hl;simp at hl;omega,List.eraseIdx_sublist _ _⟩,by omega,hl⟩
theorem qpi{o:List Sim}(h:∀ x∈o,∀ f∈qa9 x,f∈o):∀(n:Nat) (s x:Sim),s.length=n→s∈o→Fa x s→x∈o
 | 0,s,x,hn,hs,hx=>absurd (List.length_eq_zero_iff.1 hn ▸ hx.2) fun h2=>hx.1 (List.sublist_nil.1 h2)
 | n+1,s,x,hn,hs,hx=>by
  rcases qlM.1 hx with ⟨rfl,_⟩ | ⟨i,hi,hf⟩
  ·exact hs
  ·have hl:(s.eraseIdx i).length=n:=by rw[List.length_eraseIdx_of_lt hi,hn];rfl
   have h1:1<s.length:=Classical.byContradiction fun h1=>hf.1 (List.sublist_nil.1 (List.length_eq_zero_iff.1 (show(s.eraseIdx i).length=0 by omega) ▸ hf.2))
   exact qpi h n (s.eraseIdx i) x hl (h s hs _ (qdh.2 ⟨h1,i,hi,rfl⟩)) hf
-- qbS
theorem qjT(l:List Sim)(hl:l.length≤1024):∀(w k:Nat) (o:List Sim),wtL (o.drop k)≤w→k≤o.length→k+wtL (o.drop k)≤41*l.length→(∀ s∈o,1≤s.length∧s.length≤4)→(∀ x∈o.take k,∀ f∈qa9 x,f∈o)→(∀ x∈o,∃ s∈l,Fa x s)→(∀ s∈l,s∈o) →
    ∃ c,(Ev fun φ=>Z28.l0 (mkR (run E (φ 0))) (φ 0) (φ 1) (k:Int) o=some ⟨o_Z28,(c,())⟩)∧qhx l c:=by
  intro w
  have fin:∀(k:Nat) (o:List Sim),k=o.length→o.length≤41*l.length→(∀ s∈o,1≤s.length∧s.length≤4)→(∀ x∈o.take k,∀ f∈qa9 x,f∈o)→(∀ x∈o,∃ s∈l,Fa x s)→(∀ s∈l,s∈o) →
      ∃ c,(Ev fun φ=>Z28.l0 (mkR (run E (φ 0))) (φ 0) (φ 1) (k:Int) o=some ⟨o_Z28,(c,())⟩)∧qhx l c:=by
    intro k o hk hol h4 hf h2 h3
    subst hk
    rw[List.take_length] at hf
    obtain⟨g1,g2,_⟩:=qmI o
    refine⟨qoZ o,?_,g1,fun x=>?_⟩
    · refine Ev.round 1 (L:=fun φ n=>Z28.l0 (mkR (run E (φ 0))) (φ 0) n (o.length:Int) o) ?_ (fun _ _ _=>rfl)
      simp only[Z28.l0_succ _ qah]
      exact qaz (decide_eq_false (by omega)) (qab (qjS o ⟨by show o.length≤1048576;omega,fun x hx=>⟨by have:=(h4 x hx).2;show x.length≤1048576;omega,fun _ _=>trivial⟩⟩) qal)
    · rw[g2]
      exact⟨h2 x,fun⟨s,hs,hx⟩=>qpi hf s.length s x rfl (h3 s hs) hx⟩
  induction w with
  | zero =>
    intro k o hw hk hT h4 hf h2 h3
    have:=(qmV (o.drop k)).1
    rw[List.length_drop] at this
    exact fin k o (by omega) (by omega) h4 hf h2 h3
  | succ w ih =>
    intro k o hw hk hT h4 hf h2 h3
    have hge:=(qmV (o.drop k)).1
    rw[List.length_drop] at hge
    by_cases hkl:k<o.length
    · have hs4:=h4 _ (List.getElem_mem hkl)
      have hwf:=qmS hs4.2
      have hfl:=qcr (s:=o[k])
      rw[List.drop_eq_getElem_cons hkl,qjg] at hw hT hge
      have hd:(o++qa9 o[k]).drop (k+1)=o.drop (k+1)++qa9 o[k]:=List.drop_append_of_le_length (by omega)
      have ht:(o++qa9 o[k]).take (k+1)=o.take k++[o[k]]:=by rw[List.take_append_of_le_length (by omega),List.take_succ_eq_append_getElem hkl]
      obtain⟨c,hc1,hc2⟩:=ih (k+1) (o++qa9 o[k]) (by rw[hd,qnm];omega) (by rw[List.length_append];omega) (by rw[hd,qnm];omega)
        (fun s hs=>by
          rcases List.mem_append.1 hs with hs | hs
          · exact h4 s hs
          · have:=qkI hs;omega)
        (fun x hx f hfx=>by
          rw[ht] at hx
          rcases List.mem_append.1 hx with hx | hx
          · exact List.mem_append.2 (.inl (hf x hx f hfx))
          · rw[List.mem_singleton] at hx
            subst hx
            exact List.mem_append.2 (.inr hfx))
        (fun x hx=>by
          rcases List.mem_append.1 hx with hx | hx
          · exact h2 x hx
          · obtain⟨s,hs,h⟩:=h2 _ (List.getElem_mem hkl)
            exact⟨s,hs,qf8 (qkI hx).1 h⟩)
        (fun s hs=>List.mem_append.2 (.inl (h3 s hs)))
      refine⟨c,?_,hc2⟩
      refine Ev.round 1 (L:=fun φ n=>Z28.l0 (mkR (run E (φ 0))) (φ 0) n (k:Int) o) ?_ (fun _ _ _=>rfl)
      simp only[Z28.l0_succ _ qah]
      refine qay (decide_eq_true (by omega)) (qaw (by rw[decide_eq_true (show(0:Int)≤(k:Int) by omega),decide_eq_true (show(k:Int)<(o.length:Int) by omega)];rfl) (qae (show o[Int.toNat (k:Int)]? = some o[k] by rw[Int.toNat_natCast];exact List.getElem?_eq_getElem hkl) (qab (qc3 o[k] (by omega)) (qaw (decide_eq_true (by simp only[];omega)) ?_))))
      rw[qai (by omega)]
      exact hc1
    · exact fin k o (by omega) (by omega) h4 hf h2 h3
-- qbS
theorem qgu(l:List Sim)(hl:l.length≤1024)(hx:∀ s∈l,1≤s.length∧s.length≤4):∃ c,Ret E n_Z28 [dLL l] ⟨o_Z28,(c,())⟩∧qhx l c:=by
 have hw:=qmV l
 obtain⟨c,h1,h2⟩:=qjT l hl (wtL l) 0 l (by rw[List.drop_zero];exact Nat.le_refl _) (by omega) (by rw[List.drop_zero];omega) hx (fun x hx=>by rw[List.take_zero] at hx;cases hx) (fun x hx'=>⟨x,hx',fun e=>by have:=(hx x hx').1;rw[e] at this;simp at this,List.Sublist.refl _⟩) (fun _ h=>h)
 refine⟨c,?_,h2⟩
 refine qan ?_
 simp only[run_Z28,Z28.ev]
 exact qab (qdY l (by omega) fun x h=>by have:=(hx x h).2;omega) (Ev.start (p:=fun φ n=>Z28.l0 (mkR (run E (φ 0))) (φ 0) n 0 l=_) 1 h1 (fun _ _ _ h=>h))
theorem qoL{l c d:List Sim}(h1:qhx l c)(h2:qhx l d):c=d:=qoy h1.1 h2.1 fun x=>(h1.2 x).trans (h2.2 x).symm
open Classical in
noncomputable def qpC(l:List Sim):List Sim:=if h:∃ c,qhx l c then h.choose else []
theorem qiG{l c:List Sim}(h:qhx l c):qpC l=c:=by
 unfold qpC
 rw[dif_pos ⟨c,h⟩]
 exact qoL (Exists.choose_spec (⟨c,h⟩:∃ c,qhx l c)) h
open Classical in
noncomputable def qfU(l:List Sim):List Sim×Int:=if ¬ ∀ s∈l,Vx s then([],1) else if 48<l.length then([],5) else if 48<(qpC l).length then([],5) else(qpC l,0)
theorem qpq{l c:List Sim}(hx:∀ s∈l,Vx s)(h:qhx l c)(h48:c.length≤48):VC c:=by
 obtain⟨h2,h3⟩:=h
 have hv:∀ x∈c,Vx x:=fun x hx'=>by
  obtain⟨s,hs,hf⟩:=(h3 x).1 hx'
  exact(hx s hs).fa hf
 have hg:∀ k,k<c.length→c.getD k []∈c:=fun k hk=>by
  rw[List.getD_eq_getElem?_getD,List.getElem?_eq_getElem hk];exact List.getElem_mem hk
 refine⟨h48,fun k hk=>hv _ (hg k hk),fun k hk1 (hk:k<c.length)=>?_,fun k (hk:k<c.length) f hf=>?_⟩
 ·have:=h2 (k-1) k hk (by omega)
  rw[List.getD_eq_getElem?_getD,List.getD_eq_getElem?_getD,List.getElem?_eq_getElem hk,List.getElem?_eq_getElem (show k-1<c.length by omega)]
  exact this
 ·obtain⟨s,hs,hfa⟩:=(h3 _).1 (hg k hk)
  exact(h3 _).2 ⟨s,hs,qf8 (qkI hf).1 hfa⟩
theorem qhn(s:Sim)(hs:Sm (.sl (.int .i64)) s):Ret E n_Z6 [dL s] ⟨o_Z6,(pb (¬ Vx s),())⟩:=by
 refine qan ?_
 simp only[run_Z6,Z6.ev]
 refine qab (qbV s hs) (qap ?_)
 by_cases h:Vx s
 ·rw[qaB h,qas (fun h2=>h2 h)];rfl
 ·rw[qas h,qaB h];rfl
-- qbS
theorem qe8(l:List Sim)(hl:Sm (.sl (.sl (.int .i64))) l):Ret E n_Z5 [dLL l] ⟨o_Z5,((qfU l).1,(qfU l).2,())⟩:=by
 have hl1:l.length≤1048576:=hl.1
 refine qan ?_
 simp only[run_Z5,Z5.ev]
 refine qab (qaU l _ hl1 fun x hx=>qhn x (hl.2 x hx)) ?_
 by_cases hv:∀ s∈l,Vx s
 ·have e:¬ ∃ x∈l,pb (¬ Vx x)=true:=fun⟨x,hx,h⟩=>qaL.1 h (hv x hx)
  refine qaz (qas e) ?_
  unfold qfU
  rw[if_neg (fun h=>h hv)]
  by_cases h48:48<l.length
  ·rw[if_pos h48]
   exact qay (decide_eq_true (by omega)) qal
  ·rw[if_neg h48]
   obtain⟨c,hc,hok⟩:=qgu l (by omega) fun s hs=>⟨(hv s hs).1,(hv s hs).2.1⟩
   rw[qiG hok]
   refine qaz (decide_eq_false (by omega)) (qab hc ?_)
   by_cases hc48:48<c.length
   ·rw[if_pos hc48]
    exact qay (decide_eq_true (by show(c.length:Int)>48;omega)) qal
   ·rw[if_neg hc48]
    exact qaz (decide_eq_false (by show ¬ (c.length:Int)>48;omega)) qal
 ·have e:∃ x∈l,pb (¬ Vx x)=true:=Classical.byContradiction fun h=>hv fun s hs=>Classical.byContradiction fun h2=>h ⟨s,hs,qaB h2⟩
  refine qay (qaB e) ?_
  unfold qfU
  rw[if_pos hv]
  exact qal
theorem qfb(l:List Sim)(hl:Sm (.sl (.sl (.int .i64))) l):Ret E n_Z96 [dLL l] ⟨o_Z96,((qfU l).1,(qfU l).2,())⟩:=by
 have hl1:l.length≤1048576:=hl.1
 refine qan ?_
 simp only[run_Z96,Z96.ev]
 have key:∀(d i:Nat),i+d=l.length→(∀ s∈l.take i,Vx s)→Ev fun φ=>Z96.l0 (mkR (run E (φ 0))) (φ 0) (φ 1) l (i:Int)=some ⟨o_Z96,((qfU l).1,(qfU l).2,())⟩:=by
  intro d
  induction d with
  | zero =>
   intro i hi hv
   refine Ev.round 1 (L:=fun φ q=>Z96.l0 (mkR (run E (φ 0))) (φ 0) q l (i:Int)) ?_ (fun _ _ _=>rfl)
   simp only[Z96.l0_succ _ qah]
   rw[List.take_of_length_le (by omega)] at hv
   refine qaz (decide_eq_false (by omega)) ?_
   unfold qfU
   rw[if_neg (fun h=>h hv)]
   by_cases h48:48<l.length
   ·rw[if_pos h48]
    exact qay (decide_eq_true (by omega)) qal
   ·rw[if_neg h48]
    obtain⟨c,hc,hc1,hc2,_⟩:=qgA l (by omega) fun s hs=>⟨(hv s hs).1,(hv s hs).2.1⟩
    rw[qiG ⟨hc1,hc2⟩]
    refine qaz (decide_eq_false (by omega)) (qab hc ?_)
    by_cases hc48:48<c.length
    ·rw[if_pos hc48]
     exact qay (decide_eq_true (by show(c.length:Int)>48;omega)) qal
    ·rw[if_neg hc48]
     exact qaz (decide_eq_false (by show ¬ (c.length:Int)>48;omega)) qal
  | succ d ih =>
   intro i hi hv
   have hil:i<l.length:=by omega
   refine Ev.round 1 (L:=fun φ q=>Z96.l0 (mkR (run E (φ 0))) (φ 0) q l (i:Int)) ?_ (fun _ _ _=>rfl)
   simp only[Z96.l0_succ _ qah]
   refine qay (decide_eq_true (by omega)) (qae (qam hil) (qab (qhy l[i] (qbq hl hil)) ?_))
   by_cases hx:Vx l[i]
   ·refine qaz (by show(!pb _)=false;rw[qaB hx];rfl) ?_
    rw[qai (by omega)]
    refine ih (i+1) (by omega) fun s hs=>?_
    rw[List.take_succ_eq_append_getElem hil] at hs
    rcases List.mem_append.1 hs with hs | hs
    ·exact hv s hs
    ·rw[List.mem_singleton] at hs;subst hs;exact hx
   ·refine qay (by show(!pb _)=true;rw[qas hx];rfl) ?_
    unfold qfU
    rw[if_pos fun h=>hx (h _ (List.getElem_mem hil))]
    exact qal
 have h1:=key l.length 0 (by omega) fun s hs=>by rw[List.take_zero] at hs;cases hs
 exact Ev.start (p:=fun φ n=>Z96.l0 (mkR (run E (φ 0))) (φ 0) n l 0=_) 1 h1 (fun _ _ _ h=>h)
end VeT
open Go Go.Proofs Ve
namespace VeT
theorem VS.fits{c:List Sim}{p:Int}{st:Sim}{ms:List Mat}(h:VS c p st ms){t:Nat}(ht:t<ms.length):(ms[t]).2.2.2.1.length≤9∧qe6 (ms[t]).2.2.2.1:=by
 have hlen:plc c c.length=ms.length:=h.2.2.2.1
 obtain⟨k,i,hk,hi,rfl⟩:=qd6 (c:=c) (n:=c.length) (t:=t) (by show t<plc c c.length;omega)
 obtain⟨_,hb⟩:=h.map hk hi
 have e:mp c ms k i=ms[plc c k+i]:=by
  show ms.getD (plc c k+i) mz=_
  rw[List.getD_eq_getElem?_getD,List.getElem?_eq_getElem ht];rfl
 rw[e] at hb
 obtain⟨hm,e1,e2,e3⟩:=hb
 have hst:=h.2.2.1.2.1
 have s1:=qpw hst k
 have s2:0≤st.getD (fc c k i) 0∧st.getD (fc c k i) 0≤3:=qpw hst (fc c k i)
 have hl:=hm.2.2.2.1
 rw[e2,e3] at hl
 have hle:st.getD k 0*st.getD (fc c k i) 0≤9:=by
  obtain⟨a,ha⟩:=Int.eq_ofNat_of_zero_le s1.1
  obtain⟨b,hb⟩:=Int.eq_ofNat_of_zero_le s2.1
  rw[ha,hb,qf1]
  have:a*b≤3*3:=Nat.mul_le_mul (by omega) (by omega)
  omega
 refine⟨by omega,by omega,fun x hx=>?_⟩
 have h1:=hm.2.2.2.2 x hx
 have h2:=hm.1.2.1
 omega
def qbv(ms:List Mat):List Tx:=ms.map fun m=>qaF m.2.2.2.1
noncomputable def qhd(x:Shf):Tx:=Go.Lib.join (qbN x.1::Go.Lib.itoa x.2.1::qaF x.2.2.1::qbv x.2.2.2.1) [59]
open Classical in
noncomputable def qdI(x:Shf):ByteArray:=if VS x.1 x.2.1 x.2.2.1 x.2.2.2.1 then tx (qhd x) else tx []
theorem qnL{c:List Sim}(h:VC c):(qbN c).length≤48*90+1:=by
 unfold qbN
 split
 ·simp
 ·have:=qcQ (ls:=qcB c) (s:=[47]) (b:=89) (qiN h)
  have h2:(qcB c).length≤c.length:=by unfold qcB;rw[List.length_map];exact qc2
  have h3:=h.1
  rw[List.length_singleton] at this
  have:(qcB c).length*(1+89)≤48*90:=Nat.mul_le_mul (by omega) (by omega)
  omega
theorem qkC{c:List Sim}{st:Sim}(h:VC c)(hs:SK c st):qe6 st:=⟨by rw[hs.1];have:=h.1;omega,fun x hx=>by have:=hs.2.1 x hx;omega⟩
theorem VS.num{c:List Sim}{p:Int}{st:Sim}{ms:List Mat}(h:VS c p st ms):ms.length≤192:=by
 have h1:plc c c.length=ms.length:=h.2.2.2.1
 have h2:=h.1.plc (Nat.le_refl c.length)
 have h3:=h.1.1
 omega
theorem qnc{c:List Sim}{p:Int}{st:Sim}{ms:List Mat}(h:VS c p st ms):∀ x∈qbv ms,x.length≤199:=fun x hx=>by
 obtain⟨m,hm,rfl⟩:=List.mem_map.1 hx
 obtain⟨t,ht,rfl⟩:=List.getElem_of_mem hm
 obtain⟨h1,h2⟩:=h.fits ht
 have:=qeC h2.2
 omega
theorem qmO{x:Shf}(h:VS x.1 x.2.1 x.2.2.1 x.2.2.2.1):∀ y∈qbN x.1::Go.Lib.itoa x.2.1::qaF x.2.2.1::qbv x.2.2.2.1,y.length≤4321:=fun y hy=>by
 rcases List.mem_cons.1 hy with rfl | hy
 ·exact qnL h.1
 ·rcases List.mem_cons.1 hy with rfl | hy
  ·have h2:=h.2.1
   have:=Go.Lib.itoa_length_le x.2.1 (by have:=h2.1;omega) (by have:=h2.2.1;omega)
   omega
  ·rcases List.mem_cons.1 hy with rfl | hy
   ·have hf:=qkC h.1 h.2.2.1
    have:=qeC hf.2
    have:=hf.1
    omega
   ·have:=qnc h y hy;omega
theorem qfg(x:Shf)(hx:Sm (.st cS) x):Ret E n_Z15 [dLL x.1,dI x.2.1,dL x.2.2.1,dMs x.2.2.2.1] ⟨o_Z15,(qdI x,())⟩:=by
 obtain⟨c,p,st,ms,⟨⟩⟩:=x
 refine qan ?_
 simp only[run_Z15,Z15.ev]
 refine qab (qci c p st ms hx.1 hx.2.2.1.1 hx.2.2.2.1) ?_
 by_cases hv:¬ VS c p st ms
 ·rw[qdI,if_neg hv]
  exact qay (by rw[qas hv];rfl) qal
 replace hv:=Classical.not_not.1 hv
 have hv':VS ((c,p,st,ms,()):Shf).1 ((c,p,st,ms,()):Shf).2.1 ((c,p,st,ms,()):Shf).2.2.1 ((c,p,st,ms,()):Shf).2.2.2.1:=hv
 rw[qdI,if_pos hv']
 have hf:=qkC hv.1 hv.2.2.1
 have hn:=hv.num
 have hp:=hv.2.1
 have hwl:=qmO hv'
 refine qaz (by rw[qaB hv];rfl) (qab (qdi c hx.1) (qab (qgV p (by have:=hp.1;omega) (by have:=hp.2.1;omega)) (qab (qcp st hx.2.2.1.1) ?_)))
 have e0:[tx (qof c),tx (Go.Lib.itoa p),tx (qdO st)]=[tx (qbN c),tx (Go.Lib.itoa p),tx (qaF st)]:=by rw[qof,if_pos hv.1,qdO,if_pos hf]
 show Ev fun φ=>Z15.l0 (mkR (run E (φ 0))) (φ 0) (φ 0) ms (ms.length:Int) 0 [tx (qof c),tx (Go.Lib.itoa p),tx (qdO st)]=_
 rw[e0]
 have hml:(qbv ms).length=ms.length:=List.length_map _
 refine Ev.start (p:=fun φ n=>Z15.l0 (mkR (run E (φ 0))) (φ 0) n ms (ms.length:Int) 0 [tx (qbN c),tx (Go.Lib.itoa p),tx (qaF st)]=_) 1 ?_ (fun _ _ _ h=>h)
 refine qav 1 (L:=fun φ n k o=>Z15.l0 (mkR (run E (φ 0))) (φ 0) n ms (ms.length:Int) k o) (len:=ms.length) (fun k=>(qbN c::Go.Lib.itoa p::qaF st::(qbv ms).take k).map tx) (fun _ _ _ _ _=>rfl) (fun k r hk ih=>?_) ?_
 ·simp only[Z15.l0_succ _ qah]
  obtain⟨h9,hft⟩:=hv.fits hk
  have hk2:k<(qbv ms).length:=by omega
  have hlk:((qbN c::Go.Lib.itoa p::qaF st::(qbv ms).take k).map tx).length=k+3:=by simp;omega
  refine qay (decide_eq_true (by omega)) (qae (qam hk) (qab (qcp (ms[k]).2.2.2.1 (by omega)) (qaw (decide_eq_true (by simp only[hlk,List.length_singleton];omega)) ?_)))
  rw[qai (by omega)]
  have e:(qbN c::Go.Lib.itoa p::qaF st::(qbv ms).take (k+1)).map tx=(qbN c::Go.Lib.itoa p::qaF st::(qbv ms).take k).map tx++[tx (qdO (ms[k]).2.2.2.1)]:=by
   rw[List.take_succ_eq_append_getElem hk2,qdO,if_pos hft]
   simp[qbv]
  rw[e] at ih
  exact ih
 ·simp only[Z15.l0_succ _ qah]
  refine qaz (decide_eq_false (by omega)) ?_
  have e:(qbv ms).take ms.length=qbv ms:=List.take_of_length_le (by omega)
  rw[e]
  have hj:=qcQ (ls:=qbN c::Go.Lib.itoa p::qaF st::qbv ms) (s:=[59]) (b:=4321) hwl
  have hl3:(qbN c::Go.Lib.itoa p::qaF st::qbv ms).length=ms.length+3:=by simp[qbv]
  rw[hl3,List.length_singleton] at hj
  have:(ms.length+3)*(1+4321)≤195*4322:=Nat.mul_le_mul (by omega) (by omega)
  exact qab (qin (qbN c::Go.Lib.itoa p::qaF st::qbv ms) [59] (by omega) (by omega)) qal
end VeT
open Go Go.Proofs Ve
namespace VeT
noncomputable def qnv(c:List Sim):List Sim:=(qdd c c.length).map fun k=>c.getD k.toNat []
theorem qf6{c:List Sim}:∀ {n:Nat} {x:Int},x∈qdd c n↔∃ k:Nat,x=(k:Int)∧k<n∧(qek c (c.getD k []) c.length).length=1
 | 0,x=>⟨fun h=>(by cases h),fun⟨k,_,h,_⟩=>(by omega)⟩
 | n+1,x=>by
  have ih:=qf6 (c:=c) (n:=n) (x:=x)
  unfold qdd
  split
  ·rename_i h1
   rw[List.mem_append,List.mem_singleton,ih]
   constructor
   ·rintro(⟨k,h,hk,h2⟩ | h)
    ·exact⟨k,h,by omega,h2⟩
    ·exact⟨n,h,by omega,h1⟩
   ·rintro⟨k,h,hk,h2⟩
    by_cases e:k=n
    ·subst e;exact .inr h
    ·exact .inl ⟨k,h,by omega,h2⟩
  ·rename_i h1
   rw[ih]
   constructor
   ·rintro⟨k,h,hk,h2⟩
    exact⟨k,h,by omega,h2⟩
   ·rintro⟨k,h,hk,h2⟩
    by_cases e:k=n
    ·subst e;exact absurd h2 h1
    ·exact⟨k,h,by omega,h2⟩
theorem qpp{c:List Sim}(hv:VC c):∀(d k:Nat),k+d=c.length→k<c.length→∃ j,j<c.length∧qoC (c.getD k []) (c.getD j [])∧(qek c (c.getD j []) c.length).length=1
  | 0,k,h,hk=>by omega
  | d+1,k,h,hk=>by
    have hm:(k:Int)∈qek c (c.getD k []) c.length:=qfX.2 ⟨k,rfl,hk,fun _ h=>h⟩
    have hr:=qib (c:=c) (s:=c.getD k []) (n:=c.length)
    by_cases h1:(qek c (c.getD k []) c.length).length=1
    · exact⟨k,hk,fun _ h=>h,h1⟩
    · have hx:∃ x∈qek c (c.getD k []) c.length,x≠(k:Int):=by
        generalize qek c (c.getD k []) c.length=l at hm hr h1
        match l,h1 with
        | [],_=>cases hm
        | [a],h1=>exact absurd rfl h1
        | a::b::r,_ =>
          have hab:a<b:=(List.pairwise_cons.1 hr).1 b List.mem_cons_self
          by_cases e:a=(k:Int)
          · exact⟨b,by simp,by omega⟩
          · exact⟨a,by simp,e⟩
      obtain⟨x,hx,hne⟩:=hx
      obtain⟨i,rfl,hi,hp⟩:=qfX.1 hx
      have hki:=ql5 hv hi hk hp
      obtain⟨e,he⟩:∃ e,c.length=i+e:=⟨c.length-i,by omega⟩
      have ih:∀ d',d'≤d→∀ k',k'+d'=c.length→k'<c.length→∃ j,j<c.length∧qoC (c.getD k' []) (c.getD j [])∧(qek c (c.getD j []) c.length).length=1:=fun d' hd' k' h' hk'=>qpp hv d' k' h' hk'
      obtain⟨j,hj,hp2,h2⟩:=ih (c.length-i) (by omega) i (by omega) hi
      exact⟨j,hj,fun v hv=>hp2 v (hp v hv),h2⟩
termination_by d=>d
theorem qnA{c:List Sim}(hv:VC c):qhx (qnv c) c:=by
 refine⟨hv.srt,fun x=>⟨fun hx=>?_,?_⟩⟩
 ·obtain⟨k,hk,rfl⟩:=List.getElem_of_mem hx
  obtain⟨j,hj,hp,h1⟩:=qpp hv (c.length-k) k (by omega) hk
  refine⟨c.getD j [],List.mem_map.2 ⟨(j:Int),qf6.2 ⟨j,rfl,hj,h1⟩,by rw[Int.toNat_natCast]⟩,?_⟩
  have v1:=hv.2.1 k hk
  have v2:=hv.2.1 j hj
  rw[qao hk] at hp v1
  refine⟨fun e=>?_,qf9 v1.2.2.1.pairwise v2.2.2.1.pairwise hp⟩
  have:=v1.1
  rw[e] at this
  simp at this
 ·rintro⟨s,hs,hf⟩
  obtain⟨y,hy,rfl⟩:=List.mem_map.1 hs
  obtain⟨k,rfl,hk,_⟩:=qf6.1 hy
  rw[Int.toNat_natCast,qao hk] at hf
  exact hv.cl _ (List.getElem_mem hk) x hf
theorem qiW{c:List Sim}(hv:VC c):∀ s∈qnv c,Vx s:=fun s hs=>by
 obtain⟨y,hy,rfl⟩:=List.mem_map.1 hs
 obtain⟨k,rfl,hk,_⟩:=qf6.1 hy
 rw[Int.toNat_natCast]
 exact hv.2.1 k hk
theorem qn8{c:List Sim}(hv:VC c):(qnv c).length≤48:=by
 have:=qc2 (c:=c) (n:=c.length)
 have:=hv.1
 unfold qnv
 rw[List.length_map]
 omega
theorem qge{c:List Sim}:qcB c=(qnv c).map qaF:=by
 unfold qcB qnv
 rw[List.map_map];rfl
noncomputable def qe7(l:Tx):List Sim:=if l=[45] then [] else(spl 47 l).map fun w=>(rdL w).1
theorem qpP{s:Sim}(h:Vx s):s≠[]:=fun e=>by
 have:=h.1
 rw[e] at this
 simp at this
theorem qm1{c:List Sim}(hv:VC c)(h0:qdd c c.length≠[]):spl 47 (qbN c)=qcB c∧qbN c≠[45]:=by
 have hne:qcB c≠[]:=by unfold qcB;simpa using h0
 have h1:spl 47 (qbN c)=qcB c:=by
  rw[qbN,if_neg h0]
  refine qc6 hne fun x hx=>?_
  rw[qge] at hx
  obtain⟨s,_,rfl⟩:=List.mem_map.1 hx
  exact qf5 (.inl rfl)
 refine⟨h1,fun e=>?_⟩
 rw[e,qgw (by decide),qge] at h1
 cases hf:qnv c with
 | nil=>rw[hf] at h1;cases h1
 | cons s r =>
  rw[hf,List.map_cons] at h1
  have hx:=qiW hv s (by rw[hf];exact List.mem_cons_self)
  exact qpP hx (qgn (qgG hx).1 (List.cons.inj h1).1.symm)
theorem qo9{c:List Sim}(hv:VC c):∀ w∈qcB c,(rdL w).2=true:=fun w hw=>by
 rw[qge] at hw
 obtain⟨s,hs,rfl⟩:=List.mem_map.1 hw
 rw[qeJ (qgG (qiW hv s hs)).1 rfl]
theorem qn9{c:List Sim}(hv:VC c):qe7 (qbN c)=qnv c:=by
 by_cases h0:qdd c c.length=[]
 ·have e:qbN c=[45]:=by rw[qbN,if_pos h0]
  rw[e,qe7,if_pos rfl,qnv,h0];rfl
 ·obtain⟨h1,h2⟩:=qm1 hv h0
  rw[qe7,if_neg h2,h1,qge,List.map_map]
  exact(List.map_congr_left fun s hs=>by show(rdL (qaF s)).1=s;rw[qeJ (qgG (qiW hv s hs)).1 rfl]).trans (List.map_id' _)
theorem qnU{c:List Sim}(hv:VC c):qfU (qnv c)=(c,0):=by
 have h1:=qn8 hv
 have h2:=hv.1
 unfold qfU
 rw[if_neg (fun h=>h (qiW hv)),if_neg (by omega),qiG (qnA hv),if_neg (by omega)]
open Classical in
noncomputable def rdC(l:Tx):List Sim×Bool:=if h:∃ c,VC c∧qbN c=l then(h.choose,true) else([],false)
theorem qe4{l:Tx}{c:List Sim}(hv:VC c)(e:qbN c=l):qfU (qe7 l)=(c,0):=by
 rw[← e,qn9 hv,qnU hv]
theorem qkm{l:Tx}{c:List Sim}(hv:VC c)(e:qbN c=l):rdC l=(c,true):=by
 have hx:∃ c,VC c∧qbN c=l:=⟨c,hv,e⟩
 have h1:=qe4 hx.choose_spec.1 hx.choose_spec.2
 rw[qe4 hv e] at h1
 unfold rdC
 rw[dif_pos hx,← (Prod.mk.inj h1).1]
theorem qjK{l:Tx}(h:∀ c,VC c→qbN c≠l):rdC l=([],false):=by
 unfold rdC
 rw[dif_neg fun⟨s,h1,h2⟩=>h s h1 h2]
theorem qpx:VC []:=⟨Nat.zero_le _,fun k h=>absurd h (Nat.not_lt_zero _),fun k _ h=>absurd h (Nat.not_lt_zero _),fun k h=>absurd h (Nat.not_lt_zero _)⟩
theorem qnT{l:Tx}(h:(rdC l).2=true):VC (rdC l).1∧qbN (rdC l).1=l:=by
 by_cases hx:∃ c,VC c∧qbN c=l
 ·obtain⟨c,h1,h2⟩:=hx
  rw[qkm h1 h2]
  exact⟨h1,h2⟩
 ·rw[qjK fun s h1 h2=>hx ⟨s,h1,h2⟩] at h
  cases h
theorem qmt(l:Tx):VC (rdC l).1:=by
 by_cases hx:∃ c,VC c∧qbN c=l
 ·obtain⟨c,h1,h2⟩:=hx
  rw[qkm h1 h2]
  exact h1
 ·rw[qjK fun s h1 h2=>hx ⟨s,h1,h2⟩]
  exact qpx
theorem qmJ{l:List Sim}(h:(qfU l).2=0):VC (qfU l).1:=by
 unfold qfU at h ⊢
 split at h
 ·cases h
 ·rename_i hv
  rw[if_neg hv]
  have hv:∀ s∈l,Vx s:=Classical.not_not.1 hv
  split at h
  ·cases h
  ·rename_i h48
   rw[if_neg h48]
   split at h
   ·cases h
   ·rename_i hc
    rw[if_neg hc]
    obtain⟨c,_,hc1,hc2,_⟩:=qgA l (by omega) fun s hs=>⟨(hv s hs).1,(hv s hs).2.1⟩
    rw[qiG ⟨hc1,hc2⟩] at hc ⊢
    exact qpq hv ⟨hc1,hc2⟩ (Nat.not_lt.1 hc)
theorem qnq{l:List Sim}(hl:l.length≤1048576)(h:∀ s∈l,qe6 s):Sm (.sl (.sl (.int .i64))) l:=⟨hl,fun s hs=>⟨by have:=(h s hs).1;show s.length≤1048576;omega,fun _ _=>trivial⟩⟩
theorem qm9{l:Tx}(hl:l.length<1048576):Sm (.sl (.sl (.int .i64))) (qe7 l):=by
 have:=qdw (b:=47) (l:=l)
 unfold qe7
 split
 ·exact qnq (by simp) fun s hs=>by cases hs
 ·refine qnq (by rw[List.length_map];omega) fun s hs=>?_
  obtain⟨w,_,rfl⟩:=List.mem_map.1 hs
  exact qdN w
-- qbS
theorem qec(l:Tx)(hl:l.length<1048576):Ret E n_Z11 [dT (tx l)] ⟨o_Z11,((rdC l).1,(rdC l).2,())⟩:=by
 refine qan ?_
 simp only[run_Z11,Z11.ev]
 have ed:ByteArray.mk #[45]=tx [45]:=rfl
 rw[ed,qeM]
 have main:Ev fun φ=>Z11.j1 (mkR (run E (φ 0))) (φ 0) (tx l) (qe7 l)=some ⟨o_Z11,((rdC l).1,(rdC l).2,())⟩:=by
  simp only[Z11.j1_eq _ qah,Z11.j2_eq _ qah]
  refine qab (qe8 (qe7 l) (qm9 hl)) ?_
  by_cases h0:(qfU (qe7 l)).2=0
  ·have hv:=qmJ h0
   refine qaz (by show((qfU (qe7 l)).2 != 0)=false;rw[h0];rfl) (qab (qdi _ hv.sm) ?_)
   show Ev fun φ=>(bif (!(ByteArray.toList (tx (qof (qfU (qe7 l)).1))==ByteArray.toList (tx l))) then _ else _)=_
   rw[qeM,qof,if_pos hv]
   by_cases he:qbN (qfU (qe7 l)).1=l
   ·refine qaz (by rw[qaB he];rfl) ?_
    rw[qkm hv he]
    exact qal
   ·refine qay (by rw[qas he];rfl) ?_
    rw[qjK fun c h1 h2=>he (by rw[qe4 h1 h2];exact h2)]
    exact qal
  ·refine qay (by rw[bne_iff_ne];exact h0) (qay rfl ?_)
   rw[qjK fun c h1 h2=>h0 (by rw[qe4 h1 h2])]
   exact qal
 by_cases hd:l=[45]
 ·have e:qe7 l=[]:=by rw[qe7,if_pos hd]
  rw[e] at main
  exact qaz (by rw[qaB hd];rfl) main
 have e:qe7 l=(spl 47 l).map fun w=>(rdL w).1:=by rw[qe7,if_neg hd]
 have hsl:=qdw (b:=47) (l:=l)
 refine qay (by rw[qas hd];rfl) (qab (qg1 l 47 (by omega)) ?_)
 refine Ev.start (p:=fun φ n=>Z11.l0 (mkR (run E (φ 0))) (φ 0) n (tx l) ((spl 47 l).map tx) (((spl 47 l).map tx).length:Int) 0 []=_) 1 ?_ (fun _ _ _ h=>h)
 rw[List.length_map]
 refine qav 1 (L:=fun φ n k o=>Z11.l0 (mkR (run E (φ 0))) (φ 0) n (tx l) ((spl 47 l).map tx) ((spl 47 l).length:Int) k o) (len:=(spl 47 l).length) (fun k=>((spl 47 l).map fun w=>(rdL w).1).take k) (fun _ _ _ _ _=>rfl) (fun k r hk ih=>?_) ?_
 ·simp only[Z11.l0_succ _ qah]
  have hkm:k<((spl 47 l).map tx).length:=by rw[List.length_map];exact hk
  have hw:=qcR (List.getElem_mem hk)
  have hkn:k<((spl 47 l).map fun w=>(rdL w).1).length:=by rw[List.length_map];exact hk
  rw[List.take_succ_eq_append_getElem hkn,List.getElem_map] at ih
  refine qay (decide_eq_true (by omega)) (qae (qam hkm) ?_)
  rw[List.getElem_map]
  refine qab (qbU (spl 47 l)[k] (by omega)) (qaw (decide_eq_true (by rw[List.length_take];simp only[List.length_singleton];omega)) ?_)
  rw[qai (by omega)]
  exact ih
 ·simp only[Z11.l0_succ _ qah]
  refine qaz (decide_eq_false (by omega)) ?_
  rw[List.take_of_length_le (by rw[List.length_map];exact Nat.le_refl _),← e]
  exact main
theorem qkO(l:Tx)(hl:l.length<1048576):Ret E n_Z122 [dT (tx l)] ⟨o_Z122,((rdC l).1,(rdC l).2,())⟩:=by
 refine qan ?_
 simp only[run_Z122,Z122.ev]
 have ed:ByteArray.mk #[45]=tx [45]:=rfl
 have hsl:=qdw (b:=47) (l:=l)
 refine qab (qdx l 47 (by omega)) ?_
 have no:(∀ c,VC c→qbN c≠l)→Ev fun φ=>some (⟨o_Z122,(([]:List Sim),false,())⟩:Dv)=some ⟨o_Z122,((rdC l).1,(rdC l).2,())⟩:=fun h=>by rw[qjK h];exact qal
 have main:∀(i:Nat),Ev fun φ=>Z122.j1 (mkR (run E (φ 0))) (φ 0) (φ 1) (tx l) ((spl 47 l).map tx) (i:Int) false (qe7 l)=some ⟨o_Z122,((rdC l).1,(rdC l).2,())⟩:=by
  intro i
  simp only[Z122.j1_eq _ qah,Z122.j2_eq _ qah]
  refine qaz rfl (qab (qfb (qe7 l) (qm9 hl)) ?_)
  by_cases h0:(qfU (qe7 l)).2=0
  ·have hv:=qmJ h0
   refine qaz (by show((qfU (qe7 l)).2 != 0)=false;rw[h0];rfl) (qab (qli ((qfU (qe7 l)).1,()) hv.sm hv) ?_)
   show Ev fun φ=>(bif (!(ByteArray.toList (tx (qbN (qfU (qe7 l)).1))==ByteArray.toList (tx l))) then _ else _)=_
   rw[qeM]
   by_cases he:qbN (qfU (qe7 l)).1=l
   ·refine qaz (by rw[qaB he];rfl) ?_
    rw[qkm hv he]
    exact qal
   ·exact qay (by rw[qas he];rfl) (no fun c h1 h2=>he (by rw[qe4 h1 h2];exact h2))
  ·exact qay (by rw[bne_iff_ne];exact h0) (qay rfl (no fun c h1 h2=>h0 (by rw[qe4 h1 h2])))
 by_cases hd:l=[45]
 ·have e:qe7 l=[]:=by rw[qe7,if_pos hd]
  have main:=main 0
  rw[e] at main
  refine Ev.start (p:=fun φ n=>Z122.l0 (mkR (run E (φ 0))) (φ 0) n (tx l) ((spl 47 l).map tx) 0 []=_) 1 ?_ (fun _ _ _ h=>h)
  refine Ev.round 1 (L:=fun φ q=>Z122.l0 (mkR (run E (φ 0))) (φ 0) q (tx l) ((spl 47 l).map tx) 0 []) ?_ (fun _ _ _=>rfl)
  simp only[Z122.l0_succ _ qah]
  rw[ed,qeM,qaB hd]
  have hp:=List.length_pos_iff.2 (qot 47 l)
  exact qay (decide_eq_true (by rw[List.length_map];omega)) main
 have e:qe7 l=(spl 47 l).map fun w=>(rdL w).1:=by rw[qe7,if_neg hd]
 have key:∀(d i:Nat),i+d=(spl 47 l).length→Ev fun φ=>Z122.l0 (mkR (run E (φ 0))) (φ 0) (φ 1) (tx l) ((spl 47 l).map tx) (i:Int) (((spl 47 l).map fun w=>(rdL w).1).take i)=some ⟨o_Z122,((rdC l).1,(rdC l).2,())⟩:=by
  intro d
  induction d with
  | zero =>
   intro i hi
   refine Ev.round 1 (L:=fun φ q=>Z122.l0 (mkR (run E (φ 0))) (φ 0) q (tx l) ((spl 47 l).map tx) (i:Int) (((spl 47 l).map fun w=>(rdL w).1).take i)) ?_ (fun _ _ _=>rfl)
   simp only[Z122.l0_succ _ qah]
   refine qaz (decide_eq_false (by rw[List.length_map];omega)) ?_
   rw[List.take_of_length_le (by rw[List.length_map];omega),← e]
   exact main i
  | succ d ih =>
   intro i hi
   have hil:i<(spl 47 l).length:=by omega
   have hkm:i<((spl 47 l).map tx).length:=by rw[List.length_map];exact hil
   have hkn:i<((spl 47 l).map fun w=>(rdL w).1).length:=by rw[List.length_map];exact hil
   have hw:=qcR (List.getElem_mem hil)
   refine Ev.round 1 (L:=fun φ q=>Z122.l0 (mkR (run E (φ 0))) (φ 0) q (tx l) ((spl 47 l).map tx) (i:Int) (((spl 47 l).map fun w=>(rdL w).1).take i)) ?_ (fun _ _ _=>rfl)
   simp only[Z122.l0_succ _ qah,Z122.j1_eq _ qah]
   rw[ed,qeM,qas hd]
   refine qay (decide_eq_true (by rw[List.length_map];omega)) (qay rfl (qae (qam hkm) ?_))
   rw[List.getElem_map]
   refine qab (qbT (spl 47 l)[i] (by omega)) ?_
   cases hb:(rdL (spl 47 l)[i]).2 with
   | false =>
    refine qay rfl (no fun c h1 h2=>?_)
    have h0:qdd c c.length≠[]:=fun h0=>hd (by rw[← h2,qbN,if_pos h0])
    have h3:=(qm1 h1 h0).1
    have hm:=List.getElem_mem hil
    generalize (spl 47 l)[i]=w at hm hb
    rw[← h2,h3] at hm
    rw[qo9 h1 w hm] at hb
    cases hb
   | true =>
    refine qaz rfl (qaw (decide_eq_true (by rw[List.length_take];simp only[List.length_singleton];omega)) ?_)
    have h2:=ih (i+1) (by omega)
    rw[List.take_succ_eq_append_getElem hkn,List.getElem_map] at h2
    rw[qai (by omega)]
    exact h2
 have h1:=key (spl 47 l).length 0 (by omega)
 rw[List.take_zero] at h1
 exact Ev.start (p:=fun φ n=>Z122.l0 (mkR (run E (φ 0))) (φ 0) n (tx l) ((spl 47 l).map tx) 0 []=_) 1 h1 (fun _ _ _ h=>h)
end VeT
open Go Go.Proofs Ve
namespace VeT
theorem qo7(c:List Sim):(59:UInt8)∉qbN c:=fun hm=>by
 unfold qbN at hm
 split at hm
 ·revert hm;decide
 ·rcases qlK hm with h | ⟨x,hx,h⟩
  ·revert h;decide
  ·rw[qge] at hx
   obtain⟨s,_,rfl⟩:=List.mem_map.1 hx
   exact qf5 (.inr rfl) h
theorem qnk(x:Shf):spl 59 (qhd x)=qbN x.1::Go.Lib.itoa x.2.1::qaF x.2.2.1::qbv x.2.2.2.1:=by
 unfold qhd
 refine qc6 (List.cons_ne_nil _ _) fun y hy=>?_
 rcases List.mem_cons.1 hy with rfl | hy
 ·exact qo7 _
 ·rcases List.mem_cons.1 hy with rfl | hy
  ·exact qnt (.inr (.inr rfl))
  ·rcases List.mem_cons.1 hy with rfl | hy
   ·exact qf5 (.inr rfl)
   ·obtain⟨m,_,rfl⟩:=List.mem_map.1 hy
    exact qf5 (.inr rfl)
def mA(p:Int)(st:Sim)(a:Arw)(cells:Sim):Mat:=(p,st.getD a.1.toNat 0,st.getD a.2.2.1.toNat 0,cells,())
noncomputable def msN(c:List Sim)(p:Int)(st:Sim)(ps:List Tx)(n:Nat):List Mat:=(List.range n).map fun t=>mA p st ((qaJ c c.length).getD t az) (rdL (ps.getD (3+t) [])).1
theorem qlG{c:List Sim}{p:Int}{st:Sim}{ps:List Tx}{n:Nat}:msN c p st ps (n+1)=msN c p st ps n++[mA p st ((qaJ c c.length).getD n az) (rdL (ps.getD (3+n) [])).1]:=by
 unfold msN
 rw[List.range_succ,List.map_append];rfl
theorem qei{c:List Sim}{p:Int}{st:Sim}{ps:List Tx}{n:Nat}:(msN c p st ps n).length=n:=by simp[msN]
theorem qlJ{c:List Sim}{p:Int}{st:Sim}{ps:List Tx}{n t:Nat}(h:t<n):(msN c p st ps n)[t]? = some (mA p st ((qaJ c c.length).getD t az) (rdL (ps.getD (3+t) [])).1):=by
 unfold msN
 rw[List.getElem?_map,List.getElem?_range h];rfl
def RS(l:Tx)(x:Shf):Prop:=VS x.1 x.2.1 x.2.2.1 x.2.2.2.1∧qhd x=l
noncomputable def pC(ps:List Tx):List Sim:=(rdC (ps.getD 0 [])).1
def pP(ps:List Tx):Int:=(rdT (ps.getD 1 [])).1
noncomputable def pS(ps:List Tx):Sim:=(rdL (ps.getD 2 [])).1
noncomputable def pX(ps:List Tx):Shf:=(pC ps,pP ps,pS ps,msN (pC ps) (pP ps) (pS ps) ps (qaJ (pC ps) (pC ps).length).length,())
structure Fix (ps:List Tx) (x:Shf):Prop where
 len:ps.length=3+(qaJ (pC ps) (pC ps).length).length
 c1:(rdC (ps.getD 0 [])).2=true
 p1:(rdT (ps.getD 1 [])).2=true
 s1:(rdL (ps.getD 2 [])).2=true
 m1:∀ t,t<(qaJ (pC ps) (pC ps).length).length→(rdL (ps.getD (3+t) [])).2=true
 eq:x=pX ps
theorem qoM(m:Mat):m=(m.1,m.2.1,m.2.2.1,m.2.2.2.1,()):=rfl
theorem qls{l:Tx}{x:Shf}(h:RS l x):Fix (spl 59 l) x:=by
 obtain⟨hv,rfl⟩:=h
 rw[qnk]
 obtain⟨c,p,st,ms,⟨⟩⟩:=x
 have hv:VS c p st ms:=hv
 show Fix (qbN c::Go.Lib.itoa p::qaF st::qbv ms) (c,p,st,ms,())
 have hf:=qkC hv.1 hv.2.2.1
 have e0:rdC (qbN c)=(c,true):=qkm hv.1 rfl
 have e1:rdT (Go.Lib.itoa p)=(p,true):=qm2 ⟨rfl,by have h1:=hv.2.1.1;have h2:=hv.2.1.2.1;omega⟩
 have e2:rdL (qaF st)=(st,true):=qeJ hf rfl
 have hc:pC (qbN c::Go.Lib.itoa p::qaF st::qbv ms)=c:=by show(rdC (qbN c)).1=c;rw[e0]
 have hp:pP (qbN c::Go.Lib.itoa p::qaF st::qbv ms)=p:=by show(rdT (Go.Lib.itoa p)).1=p;rw[e1]
 have hs:pS (qbN c::Go.Lib.itoa p::qaF st::qbv ms)=st:=by show(rdL (qaF st)).1=st;rw[e2]
 have hl:(qaJ c c.length).length=ms.length:=hv.2.2.2.1
 have hm:∀ t (h:t<ms.length),rdL ((qbN c::Go.Lib.itoa p::qaF st::qbv ms).getD (3+t) [])=((ms[t]).2.2.2.1,true):=fun t ht=>by
  have e:(qbN c::Go.Lib.itoa p::qaF st::qbv ms).getD (3+t) []=qaF (ms[t]).2.2.2.1:=by
   rw[Nat.add_comm,List.getD_cons_succ,List.getD_cons_succ,List.getD_cons_succ,List.getD_eq_getElem?_getD]
   unfold qbv
   rw[List.getElem?_map,List.getElem?_eq_getElem ht];rfl
  rw[e,qeJ (hv.fits ht).2 rfl]
 refine { len:=?_,c1:=?_,p1:=?_,s1:=?_,m1:=?_,eq:=?_ }
 ·rw[hc,hl]
  simp[qbv]
  omega
 ·show(rdC (qbN c)).2=true;rw[e0]
 ·show(rdT (Go.Lib.itoa p)).2=true;rw[e1]
 ·show(rdL (qaF st)).2=true;rw[e2]
 ·rw[hc,hl]
  intro t ht
  rw[hm t ht]
 ·unfold pX
  rw[hc,hp,hs]
  refine congrArg (fun q:List Mat=>((c,p,st,q,()):Shf)) ?_
  rw[hl]
  refine List.ext_getElem (by rw[qei]) fun t h1 h2=>?_
  obtain⟨k,i,hk,hi,e⟩:=qd6 (c:=c) (n:=c.length) (t:=t) (by omega)
  obtain⟨_,hb⟩:=hv.map hk hi
  have ea:(qaJ c c.length).getD t az=((k:Int),(i:Int),(qbw c k).getD i 0,()):=by
   rw[List.getD_eq_getElem?_getD,e,qcv hk hi];rfl
  have em:mp c ms k i=ms[t]:=by
   subst e
   show ms.getD (plc c k+i) mz=_
   rw[List.getD_eq_getElem?_getD,List.getElem?_eq_getElem h1];rfl
  rw[em] at hb
  have eg:=qlJ (c:=c) (p:=p) (st:=st) (ps:=qbN c::Go.Lib.itoa p::qaF st::qbv ms) (n:=ms.length) (t:=t) h1
  rw[List.getElem?_eq_getElem h2,hm t h1,ea] at eg
  rw[Option.some.inj eg]
  obtain⟨_,b1,b2,b3⟩:=hb
  conv=>lhs;rw[qoM ms[t],b1,b2,b3]
  rfl
theorem qpA{l:Tx}{x:Shf}(h:RS l x):x=pX (spl 59 l):=(qls h).eq
open Classical in
noncomputable def rdS(l:Tx):Shf×Bool:=if h:∃ x,RS l x then(h.choose,true) else(([],0,[],[],()),false)
theorem qpl{l:Tx}{x:Shf}(h:RS l x):rdS l=(x,true):=by
 have hx:∃ x,RS l x:=⟨x,h⟩
 unfold rdS
 rw[dif_pos hx,qpA hx.choose_spec,qpA h]
theorem qpu{l:Tx}(h:∀ x,¬ RS l x):rdS l=(([],0,[],[],()),false):=by
 unfold rdS
 rw[dif_neg fun⟨x,hx⟩=>h x hx]
noncomputable def qkq(l:Tx):List Sim×Int×Sim×List Mat×Bool×Unit:=((rdS l).1.1,(rdS l).1.2.1,(rdS l).1.2.2.1,(rdS l).1.2.2.2.1,(rdS l).2,())
theorem qlh{l:Tx}{c:List Sim}{p:Int}{st:Sim}{ms:List Mat}(h:RS l (c,p,st,ms,())):qkq l=(c,p,st,ms,true,()):=by
 unfold qkq
 rw[qpl h]
theorem qk0{l:Tx}(h:∀ x,¬ RS l x):qkq l=([],0,[],[],false,()):=by
 unfold qkq
 rw[qpu h]
theorem qos{c:List Sim}{p:Int}{st:Sim}{ps:List Tx}{n:Nat}(hn:n≤1048576):Sm (.sl (.st cM)) (msN c p st ps n):=⟨by show(msN c p st ps n).length≤_;rw[qei];exact hn,fun m hm=>by
 obtain⟨t,_,rfl⟩:=List.mem_map.1 hm
 have:=(qdN (ps.getD (3+t) [])).1
 exact⟨trivial,trivial,trivial,⟨by show(rdL (ps.getD (3+t) [])).1.length≤1048576;omega,fun _ _=>trivial⟩,trivial⟩⟩
theorem qpX{l w:Tx}(hl:l.length≤1048576)(h3:3≤(spl 59 l).length)(hw:w∈spl 59 l):w.length<1048576:=by
 have:=qcR hw
 omega
theorem qlI{ps:List Tx}{i:Nat}(h:i<ps.length):ps.getD i []∈ps:=by
 rw[List.getD_eq_getElem?_getD,List.getElem?_eq_getElem h]
 exact List.getElem_mem h
theorem qfz{ps:List Tx}{i:Nat}(h:i<ps.length):idx? (ps.map tx) (i:Int)=some (tx (ps.getD i [])):=by
 have h2:i<(ps.map tx).length:=by rw[List.length_map];exact h
 rw[qam h2,List.getElem_map,List.getD_eq_getElem?_getD,List.getElem?_eq_getElem h]
 rfl
-- qbS
theorem qeZ(l:Tx)(hl:l.length≤1048576):Ret E n_Z14 [dT (tx l)] ⟨o_Z14,qkq l⟩:=by
 refine qan ?_
 simp only[run_Z14,Z14.ev]
 have no:(∀ x,¬ RS l x)→Ev fun φ=>some (⟨o_Z14,(([]:List Sim),(0:Int),([]:Sim),([]:List Mat),false,())⟩:Dv)=some ⟨o_Z14,qkq l⟩:=fun h=>by rw[qk0 h];exact qal
 have hfx:∀ x,RS l x→Fix (spl 59 l) x:=fun x h=>qls h
 have hsl:=qdw (b:=59) (l:=l)
 refine qab (qg1 l 59 (by omega)) ?_
 have hwl:3≤(spl 59 l).length→∀ i,i<(spl 59 l).length→((spl 59 l).getD i []).length<1048576:=fun h3 i hi=>qpX hl h3 (qlI hi)
 generalize spl 59 l=ps at hfx hsl hwl
 show Ev fun φ=>(bif decide (((ps.map tx).length:Int)<(3:Int)) then _ else _)=_
 rw[List.length_map]
 by_cases h3:ps.length<3
 ·refine qay (decide_eq_true (by omega)) (no fun x hx=>?_)
  have:=(hfx x hx).len
  omega
 have hwl:=hwl (by omega)
 have hv:VC (pC ps):=qmt _
 have hal:=qfZ hv
 refine qaz (decide_eq_false (by omega)) (qae (qfz (i:=0) (by omega)) (qab (qec _ (hwl 0 (by omega))) (qae (qfz (i:=1) (by omega)) (qab (qdl _ (by have:=hwl 1 (by omega);omega)) (qae (qfz (i:=2) (by omega)) (qab (qbU _ (hwl 2 (by omega))) (qab (qh3 (pC ps) hv.sm hv) ?_)))))))
 show Ev fun φ=>(bif (!(rdC (ps.getD 0 [])).2) then(Z14.j0 (mkR (run E (φ 0))) (φ 0) (tx l) (ps.map tx) (qaJ (pC ps) (pC ps).length) true 0 (pP ps) (pC ps) (pS ps)) else(bif ((w64 ((ps.length:Int)-(3:Int))) != ((qaJ (pC ps) (pC ps).length).length:Int)) then(Z14.j0 (mkR (run E (φ 0))) (φ 0) (tx l) (ps.map tx) (qaJ (pC ps) (pC ps).length) true 0 (pP ps) (pC ps) (pS ps)) else(Z14.j0 (mkR (run E (φ 0))) (φ 0) (tx l) (ps.map tx) (qaJ (pC ps) (pC ps).length) (((pS ps).length:Int) != ((pC ps).length:Int)) 0 (pP ps) (pC ps) (pS ps))))=_
 have bad:(∀ x,¬ RS l x)→Ev fun φ=>Z14.j0 (mkR (run E (φ 0))) (φ 0) (tx l) (ps.map tx) (qaJ (pC ps) (pC ps).length) true 0 (pP ps) (pC ps) (pS ps)=some ⟨o_Z14,qkq l⟩:=fun h=>by
  simp only[Z14.j0_eq _ qah]
  exact qay rfl (no h)
 cases hc1:(rdC (ps.getD 0 [])).2 with
 | false =>
  refine qay rfl (bad fun x hx=>?_)
  have:=(hfx x hx).c1
  rw[hc1] at this
  cases this
 | true =>
 refine qaz rfl ?_
 rw[qat (by omega) (by omega)]
 by_cases hlen:ps.length=3+(qaJ (pC ps) (pC ps).length).length
 case neg =>
  refine qay (by rw[bne_iff_ne];omega) (bad fun x hx=>hlen (hfx x hx).len)
 refine qaz (by rw[bne_eq_false_iff_eq];omega) ?_
 by_cases hsc:(pS ps).length=(pC ps).length
 case neg =>
  have e:(((pS ps).length:Int) != ((pC ps).length:Int))=true:=by rw[bne_iff_ne];omega
  rw[e]
  refine bad fun x hx=>hsc ?_
  have h1:=hx.1.2.2.1.1
  rw[(hfx x hx).eq] at h1
  exact h1
 have e:(((pS ps).length:Int) != ((pC ps).length:Int))=false:=by rw[bne_eq_false_iff_eq];omega
 rw[e]
 simp only[Z14.j0_eq _ qah]
 refine qaz rfl ?_
 have hst:(pS ps).length≤64:=(qdN _).1
 refine Ev.start (p:=fun φ n=>Z14.l1 (mkR (run E (φ 0))) (φ 0) n (tx l) (ps.map tx) (qaJ (pC ps) (pC ps).length) ((qaJ (pC ps) (pC ps).length).length:Int) 0 0 (pP ps) [] (pC ps) (pS ps)=_) 1 ?_ (fun _ _ _ h=>h)
 refine qav 1 (L:=fun φ n k o=>Z14.l1 (mkR (run E (φ 0))) (φ 0) n (tx l) (ps.map tx) (qaJ (pC ps) (pC ps).length) ((qaJ (pC ps) (pC ps).length).length:Int) k 0 (pP ps) o (pC ps) (pS ps)) (len:=(qaJ (pC ps) (pC ps).length).length) (fun k=>msN (pC ps) (pP ps) (pS ps) ps k) (fun _ _ _ _ _=>rfl) (fun t r ht ih=>?_) ?_
 ·simp only[Z14.l1_succ _ qah]
  obtain⟨k,i,f,hk,hi,hf,ea⟩:=qmq hv.srt hv ht
  have hml:=qei (c:=pC ps) (p:=pP ps) (st:=pS ps) (ps:=ps) (n:=t)
  have hks:k<(pS ps).length:=by omega
  have hfs:f<(pS ps).length:=by omega
  have e4:w64 ((t:Int)+3)=((3+t:Nat):Int):=by rw[qat (by omega) (by omega)];omega
  rw[e4]
  rw[qlG,qao ht,ea] at ih
  refine qay (decide_eq_true (by omega)) (qae (qam ht) ?_)
  rw[ea]
  refine qae (qfz (i:=3+t) (by omega)) (qab (qbU _ (hwl (3+t) (by omega))) ?_)
  refine qaw (by rw[decide_eq_true (show(0:Int)≤(k:Int) by omega),decide_eq_true (show(k:Int)<((pS ps).length:Int) by omega)];rfl) (qae (show(pS ps)[Int.toNat (k:Int)]? = some (pS ps)[k] by rw[Int.toNat_natCast];exact List.getElem?_eq_getElem hks) ?_)
  refine qaw (by rw[decide_eq_true (show(0:Int)≤(f:Int) by omega),decide_eq_true (show(f:Int)<((pS ps).length:Int) by omega)];rfl) (qae (show(pS ps)[Int.toNat (f:Int)]? = some (pS ps)[f] by rw[Int.toNat_natCast];exact List.getElem?_eq_getElem hfs) ?_)
  refine qaw (decide_eq_true (by rw[hml];simp only[List.length_singleton];omega)) ?_
  rw[qai (by omega)]
  have em:mA (pP ps) (pS ps) ((k:Int),(i:Int),(f:Int),()) (rdL (ps.getD (3+t) [])).1=(pP ps,(pS ps)[k],(pS ps)[f],(rdL (ps.getD (3+t) [])).1,()):=by
   unfold mA
   simp only[Int.toNat_natCast]
   rw[qao hks,qao hfs]
  rw[em] at ih
  exact ih
 ·simp only[Z14.l1_succ _ qah,Z14.j2_eq _ qah]
  refine qaz (decide_eq_false (by omega)) ?_
  have hms:Sm (.sl (.st cM)) (msN (pC ps) (pP ps) (pS ps) ps (qaJ (pC ps) (pC ps).length).length):=qos (by omega)
  refine qab (qci (pC ps) (pP ps) (pS ps) _ hv.sm (by omega) hms) ?_
  by_cases hvs:VS (pC ps) (pP ps) (pS ps) (msN (pC ps) (pP ps) (pS ps) ps (qaJ (pC ps) (pC ps).length).length)
  ·have hx:Sm (.st cS) (pX ps):=⟨hv.sm,trivial,⟨by show(pS ps).length≤1048576;omega,fun _ _=>trivial⟩,hms,trivial⟩
   refine qaz (by show(!pb _)=false;rw[qaB hvs];rfl) (qab (qfg (pX ps) hx) ?_)
   have hvs':VS (pX ps).1 (pX ps).2.1 (pX ps).2.2.1 (pX ps).2.2.2.1:=hvs
   rw[qdI,if_pos hvs']
   show Ev fun φ=>(bif (!(ByteArray.toList (tx (qhd (pX ps)))==ByteArray.toList (tx l))) then _ else _)=_
   rw[qeM]
   by_cases he:qhd (pX ps)=l
   ·refine qaz (by rw[qaB he];rfl) ?_
    have hr:RS l (pC ps,pP ps,pS ps,msN (pC ps) (pP ps) (pS ps) ps (qaJ (pC ps) (pC ps).length).length,()):=⟨hvs,he⟩
    rw[qlh hr]
    exact qal
   ·refine qay (by rw[qas he];rfl) (no fun x hx=>he ?_)
    rw[← (hfx x hx).eq]
    exact hx.2
  ·refine qay (by show(!pb _)=true;rw[qas hvs];rfl) (qay rfl (no fun x hx=>hvs ?_))
   have h1:=hx.1
   rw[(hfx x hx).eq] at h1
   exact h1
end VeT
