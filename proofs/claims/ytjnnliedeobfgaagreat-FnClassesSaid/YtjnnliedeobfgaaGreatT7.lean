import Derived.Test.YtjnnliedeobfgaaGreatT6
import Derived.Test.YtjnnliedeobfgaaGreatT5
set_option linter.unusedVariables false
set_option linter.unusedSimpArgs false
open Go Go.Proofs Ve
namespace VeT
theorem qic{c g h:Nat→Int}:∀ {n:Nat},qaB c (fun i=>g i+h i) n=qaB c g n+qaB c h n
 | 0=>rfl
 | n+1=>by simp only[qaB];rw[qic,Int.mul_add];omega
theorem qi2{k:Int}{c g:Nat→Int}:∀ {n:Nat},qaB c (fun i=>k*g i) n=k*qaB c g n
 | 0=>by simp[qaB]
 | n+1=>by simp only[qaB];rw[qi2,Int.mul_add,← Int.mul_assoc,Int.mul_comm (c n) k,Int.mul_assoc]
theorem qcd{c:Nat→Int}:∀ {n:Nat},qaB c (fun _=>0) n=0
 | 0=>rfl
 | n+1=>by simp only[qaB];rw[qcd,Int.mul_zero];rfl
theorem qaE{c g:Nat→Int}:∀ {n:Nat},qaB c g n=qaB g c n
 | 0=>rfl
 | n+1=>by simp only[qaB];rw[qaE,Int.mul_comm]
theorem qeH{y c:Nat→Int}{A:Ent}{W:Nat}:∀ {R:Nat},qaB y (fun j=>qaB c (fun i=>A i j) R) W=qaB c (fun i=>qaB y (A i) W) R
 | 0=>qcd
 | R+1=>by
  simp only[qaB]
  rw[qic,qeH,qi2]
theorem qbH{p:Int}{c g h:Nat→Int}:∀ {n:Nat},(∀ i,i<n→g i%p=h i%p)→qaB c g n%p=qaB c h n%p
 | 0,_=>rfl
 | n+1,hgh=>by
  simp only[qaB]
  rw[Int.add_emod,qbH (n:=n) fun i hi=>hgh i (by omega),Int.mul_emod,hgh n (Nat.lt_succ_self n),← Int.mul_emod,← Int.add_emod]
theorem qaw{c d g h:Nat→Int}:∀ {n:Nat},(∀ i,i<n→c i=d i∧g i=h i)→qaB c g n=qaB d h n
 | 0,_=>rfl
 | n+1,e=>by simp only[qaB];rw[qaw (n:=n) fun i hi=>e i (by omega),(e n (Nat.lt_succ_self n)).1,(e n (Nat.lt_succ_self n)).2]
theorem Spn.orth{p:Int}{R W:Nat}{A:Ent}{x y:Nat→Int}(hy:∀ i,i<R→qaB y (A i) W%p=0)(hx:Spn p R W A x):qaB y x W%p=0:=by
 obtain⟨c,hc⟩:=hx
 rw[← qbH (p:=p) (c:=y) (g:=fun j=>qaB c (fun i=>A i j) R) (h:=x) hc,qeH,qbH (p:=p) (h:=fun _=>0) fun i hi=>by rw[hy i hi,Int.zero_emod],qcd,Int.zero_emod]
theorem qjX{y g:Nat→Int}{q:Nat}{v:Int}:∀ {n:Nat},q<n→qaB (fun j=>if j=q then v else y j) g n=qaB y g n+(v-y q)*g q
 | n+1,h=>by
  simp only[qaB]
  by_cases hq:q=n
  ·subst hq
   rw[if_pos rfl,qaw (d:=y) (h:=g) fun i hi=>⟨if_neg (by omega),rfl⟩,Int.sub_mul];omega
  ·rw[qjX (by omega),if_neg (by omega)];omega
def Slv(p:Int)(R W:Nat)(A:Ent)(b:Nat→Int):Prop:=∃ y:Nat→Int,∀ i,i<R→qaB y (A i) W%p=b i%p
theorem qib{F:Ent}{W:Nat}:∀ {qs:List Nat} {i:Nat} {o:Sim},ql6 F W qs i o=none↔W∈qs
 | [],i,o=>by simp[ql6]
 | q::qs,i,o=>by
  unfold ql6
  split
  ·rename_i h;simp[h]
  ·rename_i h
   rw[qib,List.mem_cons]
   exact⟨.inr,fun h'=>h'.resolve_left (fun e=>h e.symm)⟩
theorem qcI{o:Sim}{q j:Nat}{v:Int}(hq:q<o.length):(o.set q v).getD j 0=if j=q then v else o.getD j 0:=by
 by_cases e:q=j
 ·subst e
  rw[if_pos rfl,qag (by rw[List.length_set];exact hq),List.getElem_set_self]
 ·rw[if_neg fun e2=>e e2.symm,List.getD_eq_getElem?_getD,List.getElem?_set_ne e,List.getD_eq_getElem?_getD]
theorem qqu{F:Ent}{W R:Nat}{pv:List Nat}(h1:∀ j,j<pv.length→pv.getD j 0<W)(hm:∀ i j,i<j→j<pv.length→pv.getD i 0<pv.getD j 0)(ho:∀ i j,i<R→j<pv.length→F i (pv.getD j 0)=if i=j then 1 else 0) :
  ∀ d n o y,n+d=pv.length→o.length=W→(∀ k,n≤k→k<pv.length→o.getD (pv.getD k 0) 0=0)→(∀ i,i<R→qaB (fun j=>o.getD j 0) (F i) W=if i<n then F i W else 0) →
   ql6 F W (pv.drop n) n o=some y→∀ i,i<R→qaB (fun j=>y.getD j 0) (F i) W=if i<pv.length then F i W else 0:=by
 intro d
 induction d with
 | zero =>
  intro n o y hn ho2 _ hd h i hi
  rw[List.drop_of_length_le (by omega)] at h
  obtain rfl:=Option.some.inj h
  rw[show pv.length=n by omega];exact hd i hi
 | succ d ih =>
  intro n o y hn ho2 hz hd h i hi
  have hnl:n<pv.length:=by omega
  have hdrop:pv.drop n=pv.getD n 0::pv.drop (n+1):=by rw[List.drop_eq_getElem_cons hnl,qag hnl]
  have hq:=h1 n hnl
  have hget:∀(v:Int) (j:Nat),(o.set (pv.getD n 0) v).getD j 0=if j=pv.getD n 0 then v else o.getD j 0:=fun v j=>qcI (by omega)
  rw[hdrop,ql6,if_neg (by omega)] at h
  refine ih (n+1) _ y (by omega) (by rw[List.length_set];exact ho2) (fun k hk hkl=>?_) (fun i hi=>?_) h i hi
  ·have:=hm n k (by omega) hkl
   rw[hget,if_neg (by omega)];exact hz k (by omega) hkl
  ·rw[qaw (d:=fun j=>if j=pv.getD n 0 then F n W else o.getD j 0) (h:=F i) fun j _=>⟨hget _ j,rfl⟩,qjX hq,hd i hi,hz n (Nat.le_refl _) hnl,ho i n hi hnl]
   by_cases e:i=n
   ·subst e;simp
   ·rw[if_neg e,Int.mul_zero,Int.add_zero]
    by_cases e2:i<n
    ·rw[if_pos e2,if_pos (by omega)]
    ·rw[if_neg e2,if_neg (by omega)]
theorem qng{p:Int}{R W:Nat}{cells b:Sim}(hp:Pr p)(hl:cells.length=R*W)(he:qax cells p)(hbl:b.length=R)(hb:qax b p) :
    (qo6 p R W cells b≠none↔Slv p R W (qbJ cells W) (fun i=>b.getD i 0))∧∀ y,qo6 p R W cells b=some y→∀ i,i<R→qaB (fun j=>y.getD j 0) (qbJ cells W i) W%p=b.getD i 0%p:=by
  have hA0:=qcu he hl
  have hA1:=qko hA0 hb hbl
  have hA:EIn p R (W+1) (qbJ (qkH cells b W R) (W+1)):=fun i j hi hj=>by
    unfold qkH;rw[qaW hi hj];exact hA1 i j hi hj
  have hent:∀ i j,i<R→j<W+1→qbJ (qkH cells b W R) (W+1) i j=qnP (qbJ cells W) b W i j:=fun i j hi hj=>by unfold qkH;exact qaW hi hj
  obtain⟨hrf,heq⟩:=qgN hp hA (W+1) (Nat.le_refl _)
  unfold qo6
  generalize elS p R (qbJ (qkH cells b W R) (W+1)) (W+1)=S at hrf heq
  obtain⟨F,pv⟩:=S
  simp only at hrf heq ⊢
  -- a solution beside -1 is what is orthogonal to the rows
  have aug:∀(y:Nat→Int) (G:Ent),∀ i,qaB (fun j=>if j=W then -1 else y j) (G i) (W+1)=qaB y (G i) W-G i W:=fun y G i=>by
    simp only[qaB]
    rw[if_pos trivial,qaw (d:=y) (h:=G i) fun j hj=>⟨if_neg (by omega),rfl⟩];omega
  have key:∀ y:Nat→Int,(∀ i,i<R→qaB y (qbJ cells W i) W%p=b.getD i 0%p)↔∀ i,i<R→(qaB y (F i) W-F i W)%p=0:=by
    intro y
    have e1:∀ i,i<R→(qaB (fun j=>if j=W then -1 else y j) (qbJ (qkH cells b W R) (W+1) i) (W+1)=qaB y (qbJ cells W i) W-b.getD i 0):=fun i hi=>by
      rw[aug,qaw (d:=y) (h:=qbJ cells W i) fun j hj=>⟨rfl,by rw[hent i j hi (by omega)];unfold qnP;rw[if_neg (by omega)]⟩,hent i W hi (by omega)]
      unfold qnP;rw[if_pos rfl]
    constructor
    · intro h i hi
      rw[← aug]
      exact Spn.orth (fun k hk=>by rw[e1 k hk];exact Int.emod_eq_emod_iff_emod_sub_eq_zero.1 (h k hk)) (heq.1 i hi)
    · intro h i hi
      refine Int.emod_eq_emod_iff_emod_sub_eq_zero.2 ?_
      rw[← e1 i hi]
      exact Spn.orth (fun k hk=>by rw[aug];exact h k hk) (heq.2 i hi)
  have good:∀ y,ql6 F W pv 0 (List.replicate W 0)=some y→∀ i,i<R→qaB (fun j=>y.getD j 0) (qbJ cells W i) W%p=b.getD i 0%p:=by
    intro y hy
    have hW:W∉pv:=fun h=>by rw[qib.2 h] at hy;cases hy
    refine(key _).2 fun i hi=>?_
    have hz0:∀ j,(List.replicate W (0:Int)).getD j 0=0:=fun j=>by
      rw[List.getD_eq_getElem?_getD,List.getElem?_replicate];split<;>rfl
    have hd:=qqu (F:=F) (W:=W) (R:=R) (pv:=pv) (fun j hj=>by
        have h1:=hrf.lt j hj
        have h2:pv.getD j 0≠W:=fun e=>hW (by rw[← e];exact qeQ hj)
        omega) hrf.mono hrf.one pv.length 0 (List.replicate W 0) y (by omega) (by simp) (fun k _ _=>hz0 _) (fun i _=>by
        rw[qaw (d:=fun _=>0) (h:=F i) fun j _=>⟨hz0 j,rfl⟩,qaE,qcd,if_neg (by omega)]) (by rw[List.drop_zero];exact hy) i hi
    rw[hd]
    split
    · rw[Int.sub_self,Int.zero_emod]
    · rename_i h;rw[hrf.bot i W (by omega) hi (by omega)];rfl
  refine⟨⟨fun h=>?_,fun⟨y,hy⟩ h=>?_⟩,good⟩
  · cases hs:ql6 F W pv 0 (List.replicate W 0) with
    | none=>exact absurd hs h
    | some y=>exact⟨fun j=>y.getD j 0,good y hs⟩
  · obtain⟨k,hk,hkW⟩:=List.mem_iff_getElem.1 (qib.1 h)
    have hkd:pv.getD k 0=W:=by rw[qag hk];exact hkW
    have hkR:k<R:=Nat.lt_of_lt_of_le hk hrf.len
    have h1:=(key y).1 hy k hkR
    have h2:=hrf.one k k hkR hk
    rw[hkd,if_pos rfl] at h2
    rw[qaw (d:=y) (h:=fun _=>0) fun j hj=>⟨rfl,hrf.low k j hk (by omega)⟩,qcd,h2] at h1
    have hp2:=hp.1
    have:(0-1:Int)%p=p-1:=by
      rw[show(0-1:Int)=(p-1)+p*(-1) by omega,Int.add_mul_emod_self_left]
      exact Int.emod_eq_of_lt (by omega) (by omega)
    omega
end VeT
open Go Go.Proofs Ve
namespace VeT
def cX(p:Int)(x:Nat→Int)(pv:List Nat)(k:Nat):Int:=(p-x (pv.getD k 0))%p
def qg6(p:Int)(F:Ent)(pv:List Nat)(x:Nat→Int):Nat→Nat→Int
 | 0=>x
 | k+1=>fun j=>(qg6 p F pv x k j+cX p x pv k*F k j)%p
theorem qkq{p:Int}{F:Ent}{pv:List Nat}{x:Nat→Int}{j:Nat}:∀ k,qg6 p F pv x k j%p=(x j+qaB (cX p x pv) (fun i=>F i j) k)%p
 | 0=>by simp[qg6,qaB]
 | k+1=>by
  simp only[qg6,qaB]
  rw[Int.emod_emod_of_dvd _ (Int.dvd_refl p),Int.add_emod,qkq k,← Int.add_emod,Int.add_assoc]
theorem qfP{c g:Nat→Int}{t:Nat}:∀ {n:Nat},t≤n→(∀ i,t≤i→i<n→g i=0)→qaB c g n=qaB c g t
 | 0,h,_=>by rw[show t=0 by omega]
 | n+1,h,hz=>by
  by_cases ht:t=n+1
  ·rw[ht]
  ·simp only[qaB]
   rw[qfP (n:=n) (by omega) fun i h1 h2=>hz i h1 (by omega),hz n (by omega) (Nat.lt_succ_self n),Int.mul_zero,Int.add_zero]
theorem qqg{p:Int}{R W:Nat}{F:Ent}{pv:List Nat}{x:Nat→Int}(hp:2≤p)(hrf:Rf R W F pv)(hx:∀ j,j<W→0≤x j∧x j≤p-1) :
  (∀ j,j<W→qg6 p F pv x pv.length j=0)↔Spn p R W F x:=by
 constructor
 ·intro h
  refine(Spn.sum (c:=fun i=>(-1)*cX p x pv i) (B:=F) (n:=pv.length) fun i hi=>Spn.row (Nat.lt_of_lt_of_le hi hrf.len)).congr fun j hj=>?_
  rw[qeN]
  have e:=qkq (p:=p) (F:=F) (pv:=pv) (x:=x) (j:=j) pv.length
  rw[h j hj,Int.zero_emod] at e
  refine(Int.emod_eq_emod_iff_emod_sub_eq_zero.2 ?_).symm
  rw[show x j - -1*qaB (cX p x pv) (fun i=>F i j) pv.length=x j+qaB (cX p x pv) (fun i=>F i j) pv.length by omega]
  exact e.symm
 ·rintro⟨c,hc⟩ j hj
  have hck:∀ k,k<pv.length→x (pv.getD k 0)%p=c k%p:=fun k hk=>by
   rw[← hc _ (hrf.lt k hk),qaw (d:=c) (h:=fun i=>if i=k then 1 else 0) fun i hi=>⟨rfl,hrf.one i k hi hk⟩,qaE,qcQ (Nat.lt_of_lt_of_le hk hrf.len)]
  have e0:qaB c (fun i=>F i j) R=qaB c (fun i=>F i j) pv.length:=qfP hrf.len fun i h1 h2=>hrf.bot i j h1 h2 hj
  have e1:qaB (cX p x pv) (fun i=>F i j) pv.length%p=qaB (fun i=>(-1)*c i) (fun i=>F i j) pv.length%p:=by
   rw[qaE,qaE (c:=fun i=>(-1)*c i)]
   refine qbH fun i hi=>?_
   unfold cX
   rw[Int.emod_emod_of_dvd _ (Int.dvd_refl p)]
   refine Int.emod_eq_emod_iff_emod_sub_eq_zero.2 ?_
   have:=Int.emod_eq_emod_iff_emod_sub_eq_zero.1 (hck i hi).symm
   rw[show p-x (pv.getD i 0) - -1*c i=(c i-x (pv.getD i 0))+p*1 by omega,Int.add_mul_emod_self_left]
   exact this
  have e2:qg6 p F pv x pv.length j%p=0:=by
   rw[qkq,Int.add_emod,e1,← Int.add_emod,qeN,← e0,Int.add_emod,← hc j hj,← Int.add_emod,show qaB c (fun i=>F i j) R+-1*qaB c (fun i=>F i j) R=0 by omega,Int.zero_emod]
  have hin:0≤qg6 p F pv x pv.length j∧qg6 p F pv x pv.length j≤p-1:=by
   cases hn:pv.length with
   | zero=>exact hx j hj
   | succ n=>exact qbQ hp
  rw[Int.emod_eq_of_lt hin.1 (by omega)] at e2
  exact e2
def qbC(rows:List Sim):Ent:=fun i j=>(rows.getD i []).getD j 0
theorem qnK{rows:List Sim}{W:Nat}(h:∀ x∈rows,x.length=W):qaz (qbC rows) rows.length W=rows:=by
 apply List.ext_getElem
 ·rw[qaA]
 ·intro i h1 h2
  have e:=qbd (A:=qbC rows) (W:=W) h2
  rw[List.getElem?_eq_getElem h1] at e
  rw[Option.some.inj e]
  apply List.ext_getElem
  ·rw[List.length_map,List.length_range];exact(h _ (List.getElem_mem h2)).symm
  ·intro j h3 h4
   rw[List.getElem_map,List.getElem_range]
   unfold qbC
   rw[qag h2,qag h4]
theorem qh3{p:Int}{rows:List Sim}{W:Nat}(h:Rws p W rows):EIn p rows.length W (qbC rows):=fun i j hi hj=>by
 obtain⟨h1,h2⟩:=h _ (List.getElem_mem hi)
 unfold qbC
 rw[qag hi,qag (by omega)]
 exact h2 _ (List.getElem_mem _)
noncomputable def qrv(p:Int)(W:Nat)(rows:List Sim):Ent×List Nat:=elS p rows.length (qbC rows) W
noncomputable def bas(p:Int)(W:Nat)(rows:List Sim):List Sim:=qaz (qrv p W rows).1 (qrv p W rows).2.length W
theorem qn3{A:Ent}{R W t:Nat}(h:t≤R):(qaz A R W).take t=qaz A t W:=by
 unfold qaz
 rw[← List.map_take,List.take_range,Nat.min_eq_left h]
end VeT
open Go Go.Proofs Ve
namespace VeT
theorem qd4(rows:List Sim)(hl:rows.length≤1048576)(hs:∀ x∈rows,x.length≤1048576):Ret E n_Z38 [dLL rows] ⟨o_Z38,(rows,())⟩:=by
 refine qaj ?_
 simp only[run_Z38,Z38.ev]
 refine Ev.start (p:=fun φ n=>Z38.l0 (mkR (run E (φ 0))) (φ 0) n rows (rows.length:Int) 0 []=_) 1 ?_ (fun _ _ _ h=>h)
 refine qan 1 (L:=fun φ n k o=>Z38.l0 (mkR (run E (φ 0))) (φ 0) n rows (rows.length:Int) k o) (len:=rows.length) (fun k=>rows.take k) (fun _ _ _ _ _=>rfl) (fun k r hk ih=>?_) ?_
 ·simp only[Z38.l0_succ _ qae]
  rw[List.take_succ_eq_append_getElem hk] at ih
  refine qaC (decide_eq_true (by omega)) (qac (qak hk) (qaa (qh1 _ (hs _ (List.getElem_mem hk))) (qao (by simp only[List.length_take,List.length_singleton,decide_eq_true_eq];omega) ?_)))
  rw[qad (by omega)];exact ih
 ·simp only[Z38.l0_succ _ qae]
  refine qaI (decide_eq_false (by omega)) (qah ?_)
  rw[List.take_of_length_le (Nat.le_refl _)]
theorem qfy(p:Int)(W:Nat)(rows:List Sim)(hp:2≤p∧p≤251)(hR:rows.length≤1048576)(hW:W≤1048576)(hr:Rws p W rows) :
  Ret E n_Z79 [dI p,dI (W:Int),dLL rows] ⟨o_Z79,(p,(W:Int),bas p W rows,())⟩:=by
 have hA:=qh3 hr
 obtain⟨det,hel⟩:=qdZ (qbC rows) rows.length W p hp hR hW hA
 rw[qnK fun x hx=>(hr x hx).1] at hel
 have hlen:=(qew hp.1 hA W).2.1
 refine qaj ?_
 simp only[run_Z79,Z79.ev]
 unfold bas qrv
 generalize elS p rows.length (qbC rows) W=S at hel hlen
 obtain⟨F,pv⟩:=S
 simp only at hel hlen ⊢
 refine qaa (qd4 rows hR fun x hx=>by rw[(hr x hx).1];exact hW) (qaa hel (qao (by simp only[qaX,qaA,Bool.and_eq_true,decide_eq_true_eq];omega) ?_))
 simp only[qaX,Int.toNat_natCast,List.drop_zero]
 rw[qn3 hlen]
 exact qaa (qd4 (qaz F pv.length W) (by rw[qaA];omega) fun x hx=>by
  obtain⟨i,_,rfl⟩:=List.mem_map.1 hx
  rw[List.length_map,List.length_range];exact hW) qal
theorem qiE(x:Int):Ret E n_Z68 [dI x] ⟨o_Z68,(x != 0,())⟩:=by
 refine qaj ?_
 simp only[run_Z68,Z68.ev]
 exact Ev.of fun _=>trivial
theorem qq1{f:Nat→Int}{W q:Nat}(hq:q<W)(h1:f q≠0)(h0:∀ j,j<q→f j=0):qjH (fun x:Int=>x != 0) ((List.range W).map f)=(q:Int):=by
 have:=qdd (p:=fun x:Int=>x != 0) (s:=(List.range W).map f) (o:=some q) (fun k hk=>by
  obtain rfl:=Option.some.inj hk
  refine⟨by simpa using hq,⟨by simpa using hq,by simpa using h1⟩,fun j hj=>?_⟩
  rintro⟨hjl,hne⟩
  simp[h0 j hj] at hne) (fun h=>by cases h)
 exact this.symm
theorem qlw{R W:Nat}{F:Ent}{pv:List Nat}(p:Int)(hW:W≤1048576)(hR:R≤1048576)(hrf:Rf R W F pv) :
  Ret E n_Z67 [dI p,dI (W:Int),dLL (qaz F pv.length W)] ⟨o_Z67,(pvL pv,())⟩:=by
 have hlen:=hrf.len
 refine qaj ?_
 simp only[run_Z67,Z67.ev,qaA]
 refine Ev.start (p:=fun φ n=>Z67.l0 (mkR (run E (φ 0))) (φ 0) n (qaz F pv.length W) (pv.length:Int) 0 []=_) 1 ?_ (fun _ _ _ h=>h)
 refine qan 1 (L:=fun φ n k o=>Z67.l0 (mkR (run E (φ 0))) (φ 0) n (qaz F pv.length W) (pv.length:Int) k o) (len:=pv.length) (fun k=>pvL (pv.take k)) (fun _ _ _ _ _=>rfl) (fun k r hk ih=>?_) ?_
 ·simp only[Z67.l0_succ _ qae]
  have hone:=hrf.one k k (by omega) hk
  rw[if_pos rfl] at hone
  have hix:=qq1 (f:=F k) (hrf.lt k hk) (by rw[hone];exact Int.one_ne_zero) fun j hj=>hrf.low k j hk hj
  have hcall:=qbA ((List.range W).map (F k)) (fun x=>x != 0) (by rw[List.length_map,List.length_range];exact hW) fun x _=>qiE x
  rw[hix] at hcall
  rw[List.take_succ_eq_append_getElem hk,ql8,← qag (d:=0) hk] at ih
  refine qaC (decide_eq_true (by omega)) (qac (qbh.trans (qbd hk)) (qaa hcall (qao (by simp only[qaX,List.length_take,List.length_singleton,decide_eq_true_eq];omega) ?_)))
  rw[qad (by omega)];exact ih
 ·simp only[Z67.l0_succ _ qae]
  refine qaI (decide_eq_false (by omega)) (qah ?_)
  rw[List.take_of_length_le (Nat.le_refl _)]
def qe0(p:Int)(F:Ent)(pv:List Nat)(x:Nat→Int)(W k:Nat):Sim:=(List.range W).map (qg6 p F pv x k)
theorem qiA{R W:Nat}{F:Ent}{pv:List Nat}(p:Int)(x:Sim)(hp:2≤p∧p≤251)(hW:W≤1048576)(hR:R≤1048576)(hF:EIn p R W F)(hrf:Rf R W F pv)(hx:qax x p)(hxl:x.length=W) :
  ∃ l:Sim,Ret E n_Z37 [dI p,dI (W:Int),dLL (qaz F pv.length W),dL x] ⟨o_Z37,(l,pb (Zs (qe0 p F pv (fun j=>x.getD j 0) W pv.length)),())⟩:=by
 have hlen:=hrf.len
 have hx0:x=qe0 p F pv (fun j=>x.getD j 0) W 0:=by
  show x=(List.range W).map fun j=>x.getD j 0
  apply List.ext_getElem
  ·rw[List.length_map,List.length_range,hxl]
  ·intro j h1 h2
   rw[List.getElem_map,List.getElem_range,qag h1]
 refine⟨(pv.map fun q=>x.getD q 0),qaj ?_⟩
 simp only[run_Z37,Z37.ev]
 refine qaa (qlw p hW hR hrf) ?_
 simp only[qaX]
 have hin:∀ j,j<W→0≤x.getD j 0∧x.getD j 0≤p-1:=fun j hj=>by rw[qag (by omega)];exact hx _ (List.getElem_mem _)
 have hrin:∀ k j,j<W→0≤qg6 p F pv (fun j=>x.getD j 0) k j∧qg6 p F pv (fun j=>x.getD j 0) k j≤p-1:=fun k j hj=>by
  cases k with
  | zero=>exact hin j hj
  | succ k=>exact qbQ hp.1
 suffices h:Ev fun φ=>Z37.l0 (mkR (run E (φ 0))) (φ 0) (φ 0) x (qe0 p F pv (fun j=>x.getD j 0) W 0) (pvL pv) (pv.length:Int) 0 p (W:Int) (qaz F pv.length W) []=some ⟨o_Z37,(pv.map fun q=>x.getD q 0,pb (Zs (qe0 p F pv (fun j=>x.getD j 0) W pv.length)),())⟩ by
  rw[← hx0] at h;exact h
 refine Ev.start (p:=fun φ n=>Z37.l0 (mkR (run E (φ 0))) (φ 0) n x (qe0 p F pv (fun j=>x.getD j 0) W 0) (pvL pv) (pv.length:Int) 0 p (W:Int) (qaz F pv.length W) []=_) 1 ?_ (fun _ _ _ h=>h)
 refine qan 1 (L:=fun φ n k (o:Sim×Sim)=>Z37.l0 (mkR (run E (φ 0))) (φ 0) n x o.1 (pvL pv) (pv.length:Int) k p (W:Int) (qaz F pv.length W) o.2) (len:=pv.length) (fun k=>(qe0 p F pv (fun j=>x.getD j 0) W k,(pv.take k).map fun q=>x.getD q 0)) (fun _ _ _ _ _=>rfl) (fun k r hk ih=>?_) ?_
 ·simp only[Z37.l0_succ _ qae] at ih ⊢
  have hq:=hrf.lt k hk
  have hxq:x[pv.getD k 0]? = some (x.getD (pv.getD k 0) 0):=by rw[qag (show pv.getD k 0<x.length by omega)];exact List.getElem?_eq_getElem _
  have hv:=hin _ hq
  have hc:Int.tmod (w64 (p-x.getD (pv.getD k 0) 0)) p=cX p (fun j=>x.getD j 0) pv k:=by
   rw[qaf (by omega) (by omega),Int.tmod_eq_emod_of_nonneg (by omega)];rfl
  have hcin:0≤cX p (fun j=>x.getD j 0) pv k∧cX p (fun j=>x.getD j 0) pv k≤p-1:=qbQ hp.1
  have hadd:=qdw (qe0 p F pv (fun j=>x.getD j 0) W k) ((List.range W).map (F k)) (cX p (fun j=>x.getD j 0) pv k) p hp (by omega) (by simp[qe0]) (by simp[qe0];omega) (qkQ hp.2 (hrin k)) (qkQ hp.2 fun j hj=>hF k j (by omega) hj)
  rw[show qnx (qe0 p F pv (fun j=>x.getD j 0) W k) ((List.range W).map (F k)) (cX p (fun j=>x.getD j 0) pv k) p=qe0 p F pv (fun j=>x.getD j 0) W (k+1) from qj8] at hadd
  have hp0:(p != 0)=true:=by simp;omega
  rw[List.take_succ_eq_append_getElem hk,List.map_append,List.map_singleton,← qag (d:=0) hk] at ih
  refine qaC (decide_eq_true (by omega)) (qac (qbh.trans (qmx hk)) (qac (qbh.trans hxq) (qao (by simp only[List.length_map,List.length_take,List.length_singleton,decide_eq_true_eq];omega) (qac (qbh.trans (qbd hk)) (qac (qbh.trans hxq) (qao hp0 ?_))))))
  simp only[hc]
  refine qaa hadd ?_
  rw[qad (by omega)];exact ih
 ·simp only[Z37.l0_succ _ qae]
  refine qaI (decide_eq_false (by omega)) (qaa (qjh _ (by simp[qe0];omega)) (qah ?_))
  rw[List.take_of_length_le (Nat.le_refl _)]
theorem qp2{p:Int}{F:Ent}{pv:List Nat}{x:Nat→Int}{W k:Nat}:Zs (qe0 p F pv x W k)↔∀ j,j<W→qg6 p F pv x k j=0:=by
 unfold Zs qe0
 constructor
 ·intro h j hj;exact h _ (List.mem_map.2 ⟨j,List.mem_range.2 hj,rfl⟩)
 ·intro h y hy
  obtain⟨j,hj,rfl⟩:=List.mem_map.1 hy
  exact h j (List.mem_range.1 hj)
def InR(p:Int)(W:Nat)(rows:List Sim)(x:Sim):Prop:=Spn p rows.length W (qbC rows) (fun j=>x.getD j 0)
theorem qli(p:Int)(W:Nat)(rows:List Sim)(x:Sim)(hp:Pr p)(hW:W≤1048576)(hR:rows.length≤1048576)(hr:Rws p W rows)(hx:qax x p)(hxl:x.length=W) :
  Ret E n_Z36 [dI p,dI (W:Int),dLL (bas p W rows),dL x] ⟨o_Z36,(pb (InR p W rows x),())⟩:=by
 have hA:=qh3 hr
 obtain⟨hrf,heq⟩:=qgN hp hA W (Nat.le_refl _)
 have hF:=(qew hp.1 hA W).1
 have hin:∀ j,j<W→0≤x.getD j 0∧x.getD j 0≤p-1:=fun j hj=>by rw[qag (by omega)];exact hx _ (List.getElem_mem _)
 unfold bas qrv
 have e:∀ F pv,Rf rows.length W F pv→Eqv p rows.length W (qbC rows) F→(Zs (qe0 p F pv (fun j=>x.getD j 0) W pv.length)↔InR p W rows x):=fun F pv h1 h2=>by
  rw[qp2,qqg hp.1 h1 hin]
  exact⟨fun h=>Spn.trans h2.1 h,fun h=>Spn.trans h2.2 h⟩
 have e:=e _ _ hrf heq
 generalize elS p rows.length (qbC rows) W=S at hrf heq hF e
 obtain⟨F,pv⟩:=S
 simp only at hrf heq hF e ⊢
 obtain⟨l,hl⟩:=qiA p x ⟨hp.1,hp.2.1⟩ hW hR hF hrf hx hxl
 rw[show pb (Zs (qe0 p F pv (fun j=>x.getD j 0) W pv.length))=pb (InR p W rows x) from qaN e] at hl
 refine qaj ?_
 simp only[run_Z36,Z36.ev]
 exact qaa hl qal
end VeT
open Go Go.Proofs Ve
namespace VeT
theorem InR.mem{p:Int}{W:Nat}{rows:List Sim}{r:Sim}(h:r∈rows):InR p W rows r:=by
 obtain⟨i,hi,e⟩:=List.mem_iff_getElem.1 h
 have:qbC rows i=fun j=>r.getD j 0:=by funext j;unfold qbC;rw[qag hi,e]
 unfold InR
 rw[← this]
 exact Spn.row hi
theorem InR.trans{p:Int}{W:Nat}{A B:List Sim}{y:Sim}(h:∀ r∈A,InR p W B r)(hy:InR p W A y):InR p W B y :=
 Spn.trans (fun i hi=>by
  have e:qbC A i=fun j=>(A[i]).getD j 0:=by funext j;unfold qbC;rw[qag hi]
  rw[e]
  exact h _ (List.getElem_mem hi)) hy
def qir(p:Int)(W:Nat)(A B:List Sim):Prop:=∀ y,InR p W A y↔InR p W B y
theorem qir.refl{p:Int}{W:Nat}{A:List Sim}:qir p W A A:=fun _=>Iff.rfl
theorem qir.append{p:Int}{W:Nat}{A B:List Sim}{x:Sim}(h:qir p W A B):qir p W (A++[x]) (B++[x]):=by
 have key:∀ A B:List Sim,qir p W A B→∀ y,InR p W (A++[x]) y→InR p W (B++[x]) y:=fun A B h y hy=>InR.trans (fun r hr=>by
  rcases List.mem_append.1 hr with hr | hr
  ·exact InR.trans (fun r hr=>InR.mem (List.mem_append.2 (.inl hr))) ((h r).1 (InR.mem hr))
  ·exact InR.mem (List.mem_append.2 (.inr hr))) hy
 exact fun y=>⟨key A B h y,key B A (fun y=>(h y).symm) y⟩
theorem qoZ{p:Int}{W:Nat}{rows:List Sim}(hp:2≤p)(hr:Rws p W rows):Rws p W (bas p W rows)∧(bas p W rows).length≤W:=by
 have hA:=qh3 hr
 obtain⟨hF,h1,h2,h3⟩:=qew hp hA W
 unfold bas qrv
 refine⟨fun x hx=>?_,by rw[qaA];exact h2⟩
 obtain⟨i,hi,rfl⟩:=List.mem_map.1 hx
 have hi:=List.mem_range.1 hi
 refine⟨by simp,fun y hy=>?_⟩
 obtain⟨j,hj,rfl⟩:=List.mem_map.1 hy
 exact hF i j (by omega) (List.mem_range.1 hj)
theorem qkp{p:Int}{W:Nat}{rows:List Sim}(hp:Pr p)(hr:Rws p W rows):qir p W (bas p W rows) rows:=by
 have hA:=qh3 hr
 obtain⟨hrf,heq⟩:=qgN hp hA W (Nat.le_refl _)
 unfold bas qrv
 generalize elS p rows.length (qbC rows) W=S at hrf heq
 obtain⟨F,pv⟩:=S
 simp only at hrf heq ⊢
 have hent:∀ i j,i<pv.length→j<W→qbC (qaz F pv.length W) i j=F i j:=fun i j hi hj=>by
  unfold qbC
  have e1:(qaz F pv.length W).getD i []=(List.range W).map (F i):=by rw[List.getD_eq_getElem?_getD,qbd hi];rfl
  rw[e1,List.getD_eq_getElem?_getD,qfu hj];rfl
 refine fun y=>⟨fun h=>?_,fun h=>?_⟩
 ·refine Spn.trans (fun i hi=>?_) h
  rw[qaA] at hi
  exact(heq.1 i (Nat.lt_of_lt_of_le hi hrf.len)).congr fun j hj=>by rw[hent i j hi hj]
 ·obtain⟨c,hc⟩:=Spn.trans heq.2 h
  refine⟨c,fun j hj=>?_⟩
  rw[qaA,← hc j hj,qfP hrf.len fun i h1 h2=>hrf.bot i j h1 h2 hj,qaw (d:=c) (h:=fun i=>F i j) fun i hi=>⟨rfl,hent i j hi hj⟩]
open Classical in
noncomputable def qeV(p:Int)(W:Nat):List Sim→List Sim→List Sim
 | _,[]=>[]
 | h,x::xs=>if InR p W h x then qeV p W h xs else x::qeV p W (h++[x]) xs
theorem qhd{p:Int}{W:Nat}:∀ {l h:List Sim} {x:Sim},x∈qeV p W h l→x∈l
 | [],h,x,hx=>by simp[qeV] at hx
 | y::l,h,x,hx=>by
  unfold qeV at hx
  split at hx
  ·exact List.mem_cons_of_mem _ (qhd hx)
  ·rcases List.mem_cons.1 hx with rfl | hx
   ·exact List.mem_cons_self
   ·exact List.mem_cons_of_mem _ (qhd hx)
theorem qea{p:Int}{W:Nat}:∀ {l h:List Sim},(qeV p W h l).length≤l.length
 | [],h=>by simp[qeV]
 | y::l,h=>by
  unfold qeV
  split
  ·have:=qea (p:=p) (W:=W) (l:=l) (h:=h);simp;omega
  ·have:=qea (p:=p) (W:=W) (l:=l) (h:=h++[y]);simp;omega
open Classical in
noncomputable def msk(p:Int)(W:Nat):List Sim→List Sim→List Bool
 | _,[]=>[]
 | h,x::xs=>if InR p W h x then false::msk p W h xs else true::msk p W (h++[x]) xs
theorem qnQ(n:Nat)(args:List Dv):run E (n+1) n_Z52 args=qgG n_Z36 n_Z38 n_Z79 (mkR (run E n)) args:=rfl
theorem qmz{p:Int}{W:Nat}(qgG:Unit):∀ {l h:List Sim},sel (msk p W h l) l=qeV p W h l
 | [],h=>rfl
 | x::xs,h=>by
  unfold msk qeV
  split
  ·exact qmz ()
  ·simp only[sel];rw[qmz ()]
theorem qjW{f:Nat}{out:Ty}{args:List Dv}{x:out.T}(h:Ret E f args ⟨out,x⟩):Ev fun φ=>qdj (mkR (run E (φ 0))) f out args=some x:=by
 have h1:=qaa (E:=E) (K:=fun _ y=>some (⟨out,y⟩:Dv)) (r:=some ⟨out,x⟩) h qal
 refine h1.mono fun φ h2=>?_
 cases e:qdj (mkR (run E (φ 0))) f out args with
 | none=>rw[e] at h2;cases h2
 | some y =>
  rw[e] at h2
  have h3:=Option.some.inj h2
  exact congrArg some (eq_of_heq (Dv.mk.inj h3).2)
-- qgG
theorem qra(p:Int)(W:Nat)(hp:Pr p)(hW:W≤1048575):∀(l g h:List Sim),Rws p W l→Rws p W g→g.length≤1048576→qir p W g h →
  Ev fun φ=>qpB n_Z36 n_Z38 n_Z79 (mkR (run E (φ 0))) p (W:Int) (bas p W g) l=some (msk p W h l):=by
 have hp2:2≤p∧p≤251:=⟨hp.1,hp.2.1⟩
 intro l
 induction l with
 | nil=>exact fun g h _ _ _ _=>Ev.of fun _=>rfl
 | cons x l ih =>
  intro g h hl hg hgl hs
  obtain⟨hx1,hx2⟩:=hl x List.mem_cons_self
  have hl':Rws p W l:=fun r hr=>hl r (List.mem_cons_of_mem _ hr)
  have hc:=qjW (qli p W g x hp (by omega) hgl hg hx2 hx1)
  by_cases hin:InR p W g x
  ·rw[qaP hin] at hc
   refine(hc.and (ih g h hl' hg hgl hs)).mono fun φ ⟨h1,h2⟩=>?_
   unfold qpB msk
   rw[if_pos ((hs x).1 hin)]
   refine(congrArg (Option.bind · _) h1).trans ?_
   simp only[Option.bind_some,cond_true]
   rw[h2];rfl
  ·rw[qat hin] at hc
   obtain⟨b1,b2⟩:=qoZ hp.1 hg
   have hg2:Rws p W (bas p W g++[x]):=fun r hr=>by
    rcases List.mem_append.1 hr with hr | hr
    ·exact b1 r hr
    ·rw[List.mem_singleton] at hr;subst hr;exact⟨hx1,hx2⟩
   have hs2:qir p W (bas p W g++[x]) (h++[x]):=qir.append fun y=>(qkp hp hg y).trans (hs y)
   have hsp:=qjW (qfy p W (bas p W g++[x]) hp2 (by rw[List.length_append,List.length_singleton];omega) (by omega) hg2)
   have hcl:=qjW (qd4 (bas p W g) (by omega) fun x hx=>by rw[(b1 x hx).1];omega)
   have hih:=ih (bas p W g++[x]) (h++[x]) hl' hg2 (by rw[List.length_append,List.length_singleton];omega) hs2
   refine((hc.and hcl).and (hsp.and hih)).mono fun φ ⟨⟨h1,h2⟩,h3,h4⟩=>?_
   unfold qpB msk
   rw[if_neg fun e=>hin ((hs x).2 e)]
   refine(congrArg (Option.bind · _) h1).trans ?_
   simp only[Option.bind_some,cond_false]
   refine(congrArg (Option.bind · _) h2).trans ?_
   simp only[Option.bind_some]
   have hk:chk (decide (((bas p W g).length+1)*24≤70368744177664))=some ():=by unfold chk;rw[decide_eq_true (by omega)];rfl
   rw[hk,Option.bind_some]
   refine(congrArg (Option.bind · _) h3).trans ?_
   simp only[Option.bind_some]
   rw[h4];rfl
-- qgG
theorem qhP(p:Int)(W:Nat)(rows list:List Sim)(hp:Pr p)(hW:W≤1048575)(hR:rows.length≤1048576)(hr:Rws p W rows)(hl:list.length≤1048576)(hls:Rws p W list) :
    Ret E n_Z52 [dI p,dI (W:Int),dLL (bas p W rows),dLL list] ⟨o_Z52,(qeV p W rows list,())⟩:=by
  refine qaj ?_
  refine(qra p W hp hW list rows rows hls hr hR qir.refl).mono fun φ h=>?_
  rw[qnQ]
  show((some p).bind fun p=>(some (W:Int)).bind fun W=>(some (bas p W.toNat rows)).bind fun B=>(some list).bind fun xs =>
      if xs.length≤1048576 then(qpB n_Z36 n_Z38 n_Z79 (mkR (run E (φ 0))) p W B xs).map fun ms=>(⟨.cons tLL .nil,(sel ms xs,())⟩:Dv) else none)=_
  simp only[Option.bind_some,Int.toNat_natCast,if_pos hl]
  rw[h,Option.map_some,qmz ()]
end VeT
open Go Go.Proofs Ve
namespace VeT
def qqv(p:Int)(W:Nat)(cells:Sim)(h:List Sim):Prop:=(cells.length=W*h.length∧qax cells p)∧∀ i j,i<W→j<h.length→qbJ cells h.length i j=qbC h j i
theorem qqv.slv{p:Int}{W:Nat}{cells:Sim}{h:List Sim}{v:Sim}(hc:qqv p W cells h):Slv p W h.length (qbJ cells h.length) (fun i=>v.getD i 0)↔InR p W h v:=by
 have e:∀(y:Nat→Int) i,i<W→qaB y (qbJ cells h.length i) h.length=qaB y (fun j=>qbC h j i) h.length:=fun y i hi=>qaw fun j hj=>⟨rfl,hc.2 i j hi hj⟩
 exact⟨fun⟨y,hy⟩=>⟨y,fun i hi=>by rw[← e y i hi];exact hy i hi⟩,fun⟨y,hy⟩=>⟨y,fun i hi=>by rw[e y i hi];exact hy i hi⟩⟩
theorem qqv.next{p:Int}{W:Nat}{cells:Sim}{h:List Sim}{v:Sim}(hc:qqv p W cells h)(hv:qax v p)(hl:v.length=W):qqv p W (qkH cells v h.length W) (h++[v]):=by
 have hlen:(h++[v]).length=h.length+1:=by simp
 have hA0:=qcu hc.1.2 hc.1.1
 have hA1:=qko hA0 hv hl
 refine⟨⟨by rw[hlen];exact qaq,fun x hx=>?_⟩,fun i j hi hj=>?_⟩
 ·unfold qkH at hx
  rw[← qci] at hx
  obtain⟨row,hrow,hx⟩:=List.mem_flatten.1 hx
  obtain⟨i,hi,rfl⟩:=List.mem_map.1 hrow
  obtain⟨j,hj,rfl⟩:=List.mem_map.1 hx
  exact hA1 i j (List.mem_range.1 hi) (List.mem_range.1 hj)
 ·rw[hlen] at hj ⊢
  unfold qkH
  rw[qaW hi hj]
  unfold qnP qbC
  by_cases hjh:j<h.length
  ·rw[if_neg (by omega),hc.2 i j hi hjh,List.getD_eq_getElem?_getD (l:=h++[v]),List.getElem?_append_left hjh,← List.getD_eq_getElem?_getD];rfl
  ·obtain rfl:j=h.length:=by omega
   rw[if_pos rfl,List.getD_eq_getElem?_getD (l:=h++[v]),List.getElem?_append_right (Nat.le_refl _)];simp
theorem qdC{p:Int}{W C:Nat}{cells:Sim}(hl:cells.length=W*C)(he:qax cells p):qqv p W cells (qck W C cells)∧(qck W C cells).length=C∧Rws p W (qck W C cells):=by
 have hlen:(qck W C cells).length=C:=by simp[qck]
 have hA:=qcu he hl
 refine⟨⟨⟨by rw[hlen];exact hl,he⟩,fun i j hi hj=>?_⟩,hlen,fun x hx=>?_⟩
 ·rw[hlen] at hj ⊢
  have e:(qck W C cells).getD j []=(List.range W).map fun i=>cells.getD (i*C+j) 0:=by
   unfold qck
   rw[List.getD_eq_getElem?_getD,List.getElem?_map,List.getElem?_range hj];rfl
  unfold qbC
  rw[e,List.getD_eq_getElem?_getD,List.getElem?_map,List.getElem?_range hi];rfl
 ·obtain⟨i,hi,rfl⟩:=List.mem_map.1 hx
  refine⟨by simp,fun y hy=>?_⟩
  obtain⟨j,hj,rfl⟩:=List.mem_map.1 hy
  exact hA j i (List.mem_range.1 hj) (List.mem_range.1 hi)
noncomputable def qeT(x:Shf)(k:Int):List Sim:=qeV x.2.1 (SD x.1 x.2.2.1 k).toNat (qck (SD x.1 x.2.2.1 k).toNat (SD x.1 x.2.2.1 (k-1)).toNat (qcg x (k-1)).2.2.2.1) (qmr x k)
theorem qhg{x:Shf}{k:Int}(hs:VS x.1 x.2.1 x.2.2.1 x.2.2.2.1):Rws x.2.1 (SD x.1 x.2.2.1 k).toNat (qmr x k)∧(qmr x k).length≤(SD x.1 x.2.2.1 k).toNat :=
 ⟨fun r hr=>qm3 hs.2.1.1 hr,qfl⟩
end VeT
open Go Go.Proofs Ve
namespace VeT
theorem InR.left{p:Int}{W:Nat}{A B:List Sim}{x:Sim}(h:InR p W A x):InR p W (A++B) x:=InR.trans (fun r hr=>InR.mem (List.mem_append.2 (.inl hr))) h
theorem qhs{p:Int}{W:Nat}:∀ {l h:List Sim} {x:Sim},x∈l→InR p W (h++qeV p W h l) x
 | [],h,x,hx=>by simp at hx
 | y::l,h,x,hx=>by
  unfold qeV
  split
  ·rename_i hy
   rcases List.mem_cons.1 hx with rfl | hx
   ·exact hy.left
   ·exact qhs hx
  ·rcases List.mem_cons.1 hx with rfl | hx
   ·exact InR.mem (List.mem_append.2 (.inr List.mem_cons_self))
   ·have:=qhs (p:=p) (W:=W) (h:=h++[y]) hx
    rwa [List.append_assoc,List.singleton_append] at this
theorem qk3{c g:Nat→Int}:∀ {n:Nat},qaB c g (n+1)=c 0*g 0+qaB (fun i=>c (i+1)) (fun i=>g (i+1)) n
 | 0=>by simp[qaB]
 | n+1=>by
  have:=qk3 (c:=c) (g:=g) (n:=n)
  rw[show qaB c g (n+1+1)=qaB c g (n+1)+c (n+1)*g (n+1) from rfl,this]
  simp only[qaB];omega
theorem Spn.unmul{p:Int}{R W:Nat}{A:Ent}{x:Nat→Int}{k:Int}(hp:Pr p)(hk:k%p≠0)(h:Spn p R W A (fun j=>k*x j)):Spn p R W A x:=by
 have hin:=qbQ (x:=k) hp.1
 have hinv:=qma hp (a:=k%p) (by omega) hin.2
 refine(h.smul (qgT (k%p) p)).congr fun j _=>?_
 show qgT (k%p) p*(k*x j)%p=x j%p
 rw[← Int.mul_assoc,Int.mul_emod,show qgT (k%p) p*k%p=1 by rw[Int.mul_comm,Int.mul_emod,← hinv];conv=>rhs;rw[Int.mul_emod,Int.emod_emod_of_dvd _ (Int.dvd_refl p)],Int.one_mul,Int.emod_emod_of_dvd _ (Int.dvd_refl p)]
theorem qhR{p:Int}{W:Nat}(hp:Pr p):∀ {l h:List Sim} {c:Nat→Int},Spn p h.length W (qbC h) (fun j=>qaB c (fun i=>qbC (qeV p W h l) i j) (qeV p W h l).length) →
  ∀ i,i<(qeV p W h l).length→c i%p=0
 | [],h,c,_,i,hi=>by simp[qeV] at hi
 | y::l,h,c,hs,i,hi=>by
  unfold qeV at hs hi
  split at hs
  ·rename_i hy
   rw[if_pos hy] at hi
   exact qhR hp hs i hi
  ·rename_i hy
   rw[if_neg hy] at hi
   rw[List.length_cons] at hi
   generalize hB:qeV p W (h++[y]) l=B at hs hi
   have e1:∀ j,qaB c (fun i=>qbC (y::B) i j) (y::B).length=c 0*y.getD j 0+qaB (fun i=>c (i+1)) (fun i=>qbC B i j) B.length:=fun j=>by
    rw[List.length_cons,qk3];rfl
   have big:∀ {x:Nat→Int},Spn p h.length W (qbC h) x→Spn p (h++[y]).length W (qbC (h++[y])) x:=fun {x} hx=>Spn.trans (fun i hi=>by
    have e:qbC h i=fun j=>(h[i]).getD j 0:=by funext j;unfold qbC;rw[qag hi]
    rw[e]
    exact InR.mem (List.mem_append.2 (.inl (List.getElem_mem hi)))) hx
   have hyy:Spn p (h++[y]).length W (qbC (h++[y])) (fun j=>y.getD j 0):=InR.mem (List.mem_append.2 (.inr List.mem_cons_self))
   have rest:Spn p (h++[y]).length W (qbC (h++[y])) (fun j=>qaB (fun i=>c (i+1)) (fun i=>qbC B i j) B.length) :=
    ((big hs).add (hyy.smul (-1*c 0))).congr fun j _=>by
     rw[e1,show c 0*y.getD j 0+qaB (fun i=>c (i+1)) (fun i=>qbC B i j) B.length+-1*c 0*y.getD j 0=qaB (fun i=>c (i+1)) (fun i=>qbC B i j) B.length by rw[Int.mul_assoc];omega]
   have tail:∀ i,i<B.length→c (i+1)%p=0:=fun i hi=>by
    subst hB
    exact qhR hp (c:=fun i=>c (i+1)) rest i hi
   cases i with
   | succ i=>exact tail i (by omega)
   | zero =>
    refine Classical.byContradiction fun hc=>hy ?_
    refine Spn.unmul hp hc (hs.congr fun j _=>?_)
    have hz:qaB (fun i=>c (i+1)) (fun i=>qbC B i j) B.length%p=0:=by
     rw[qaE,qbH (p:=p) (h:=fun _=>0) fun i hi=>by rw[tail i hi,Int.zero_emod],qcd,Int.zero_emod]
    rw[e1,Int.add_emod,hz,Int.add_zero,Int.emod_emod_of_dvd _ (Int.dvd_refl p)]
end VeT
open Go Go.Proofs Ve
namespace VeT
theorem qo8{p:Int}{W:Nat}{pv:List Nat}{F:Ent}:∀ {n c:Nat},c<n→c∉pv→qkO p W pv F c pv.length∈qlW p W pv F n
 | n+1,c,h,hc=>by
  rw[qlW,List.mem_append]
  by_cases e:c=n
  ·subst e
   right;rw[if_neg hc];exact List.mem_singleton.2 rfl
  ·exact .inl (qo8 (by omega) hc)
theorem qoJ{p:Int}{R W c:Nat}{pv:List Nat}{F:Ent}(hrf:Rf R W F pv):∀ n,n≤pv.length→∀ i,i<n→(qkO p W pv F c n).getD (pv.getD i 0) 0=(0-F i c)%p
 | 0,_,i,hi=>by omega
 | n+1,hn,i,hi=>by
  have hq:=hrf.lt n (by omega)
  rw[qeC,qcI (by rw[qcz];exact hq)]
  by_cases e:i=n
  ·subst e;rw[if_pos rfl]
  ·have:=hrf.mono i n (by omega) (by omega)
   rw[if_neg (by omega)];exact qoJ hrf n (by omega) i (by omega)
theorem qkF{p:Int}{R W c j:Nat}{pv:List Nat}{F:Ent}(hrf:Rf R W F pv)(hj:j<W)(hjp:j∉pv)(hc:c<W):∀ n,n≤pv.length→(qkO p W pv F c n).getD j 0=if j=c then 1 else 0
 | 0,_=>by
  show((List.replicate W (0:Int)).set c 1).getD j 0=_
  rw[qcI (by simpa using hc)]
  split
  ·rfl
  ·rw[List.getD_eq_getElem?_getD,List.getElem?_replicate,if_pos hj];rfl
 | n+1,hn=>by
  have hq:=hrf.lt n (by omega)
  rw[qeC,qcI (by rw[qcz];exact hq),if_neg fun e=>hjp (by rw[e];exact qeQ (by omega))]
  exact qkF hrf hj hjp hc n (by omega)
theorem qrG{pv:List Nat}{j:Nat}(h:j∈pv):∃ i,i<pv.length∧pv.getD i 0=j:=by
 obtain⟨i,hi,e⟩:=List.mem_iff_getElem.1 h
 exact⟨i,hi,by rw[qag hi];exact e⟩
open Classical in
theorem qph{p:Int}{R W:Nat}{cells x:Sim}(hp:Pr p)(hl:cells.length=R*W)(he:qax cells p)(h0:∀ i,i<R→qaB (fun j=>x.getD j 0) (qbJ cells W i) W%p=0):InR p W (qrr p R W cells) x:=by
  have hA:=qcu he hl
  obtain⟨hrf,heq⟩:=qgN hp hA W (Nat.le_refl _)
  have hF0:∀ i,i<R→qaB (fun j=>x.getD j 0) ((elS p R (qbJ cells W) W).1 i) W%p=0:=fun i hi=>Spn.orth h0 (heq.1 i hi)
  unfold qrr
  generalize elS p R (qbJ cells W) W=S at hrf hF0
  obtain⟨F,pv⟩:=S
  simp only at hrf hF0 ⊢
  let K:Ent:=fun c j=>if c∈pv then 0 else(qkO p W pv F c pv.length).getD j 0
  refine(Spn.sum (c:=fun j=>x.getD j 0) (B:=K) (n:=W) fun c hc=>?_).congr fun j hj=>?_
  · by_cases h:c∈pv
    · rw[show K c=fun _=>0 by funext j;simp[K,h]];exact Spn.zero
    · rw[show K c=fun j=>(qkO p W pv F c pv.length).getD j 0 by funext j;simp[K,h]]
      exact InR.mem (qo8 hc h)
  · show qaB (fun j=>x.getD j 0) (fun c=>K c j) W%p=x.getD j 0%p
    by_cases hjp:j∈pv
    · obtain⟨i,hi,rfl⟩:=qrG hjp
      have hiR:i<R:=Nat.lt_of_lt_of_le hi hrf.len
      have e:qaB (fun j=>x.getD j 0) (fun c=>F i c+K c (pv.getD i 0)) W%p=qaB (fun j=>x.getD j 0) (fun c=>if c=pv.getD i 0 then 1 else 0) W%p:=qbH fun c hc=>by
        by_cases hcp:c∈pv
        · obtain⟨k,hk,rfl⟩:=qrG hcp
          have h1:=hrf.one i k hiR hk
          rw[show K (pv.getD k 0) (pv.getD i 0)=0 from if_pos hcp,Int.add_zero,h1]
          by_cases hik:i=k
          · subst hik;simp
          · rw[if_neg hik,if_neg]
            intro e
            rcases Nat.lt_or_gt_of_ne hik with h | h
            · have:=hrf.mono i k h hk;omega
            · have:=hrf.mono k i h hi;omega
        · rw[show K c (pv.getD i 0)=(0-F i c)%p from(if_neg hcp).trans (qoJ hrf pv.length (Nat.le_refl _) i hi),if_neg fun e=>hcp (by rw[e];exact qeQ hi),Int.add_emod,Int.emod_emod_of_dvd _ (Int.dvd_refl p),← Int.add_emod,show F i c+(0-F i c)=0 by omega]
      rw[qic,Int.add_emod,hF0 i hiR,Int.zero_add,Int.emod_emod_of_dvd _ (Int.dvd_refl p),qaE (g:=fun c=>if c=pv.getD i 0 then 1 else 0),qcQ (hrf.lt i hi)] at e
      exact e
    · rw[qaw (d:=fun j=>x.getD j 0) (h:=fun c=>if c=j then 1 else 0) fun c hc=>⟨rfl,by
        by_cases hcp:c∈pv
        · rw[show K c j=0 from if_pos hcp,if_neg fun(e:c=j)=>hjp (by rw[← e];exact hcp)]
        · rw[show K c j=if j=c then 1 else 0 from(if_neg hcp).trans (qkF hrf hj hjp hc pv.length (Nat.le_refl _))]
          by_cases e:j=c
          · rw[if_pos e,if_pos e.symm]
          · rw[if_neg e,if_neg fun e2=>e e2.symm]⟩,qaE,qcQ hj]
end VeT
open Go Go.Proofs Ve
namespace VeT
theorem qnp(n:Nat)(args:List Dv):run E (n+1) n_Z107 args=qiK (.sl (.int .i64)) (mkR (run E n)) args:=rfl
theorem qn4(s:List Sim)(n:Int)(h0:0≤n)(h1:n≤1048576)(hs:s.length≤1048576):Ret E n_Z107 [dLL s,dI n] ⟨o_Z107,(s,())⟩:=by
 refine qaj ?_
 simp only[qnp]
 refine qah ((if_pos (show 0≤n∧((List.length s:Int)+n)*(64*(Ty.size (Ty.sl (.int .i64)):Int))≤70368744177664 from⟨h0,?_⟩)).trans rfl)
 have:(Ty.size (Ty.sl (.int .i64)))=1:=rfl
 rw[this];omega
theorem qk1(ll:List (List Sim))(hl:ll.length≤1048576)(hf:ll.flatten.length≤1048576):Ret E n_Z96 [⟨.sl (.sl (.sl (.int .i64))),ll⟩] ⟨o_Z96,(ll.flatten,())⟩:=by
 have hle:∀ k,(ll.take k).flatten.length≤ll.flatten.length:=fun k=>by
  have:=congrArg List.length (congrArg List.flatten (List.take_append_drop k ll))
  rw[List.flatten_append,List.length_append] at this;omega
 have hst:∀ k (h:k<ll.length),(ll.take (k+1)).flatten=(ll.take k).flatten++ll[k]:=fun k h=>by
  rw[List.take_succ_eq_append_getElem h,List.flatten_append];simp
 refine qaj ?_
 simp only[run_Z96,Z96.ev]
 refine Ev.start (p:=fun φ n=>Z96.l0 (mkR (run E (φ 0))) (φ 0) n ll 0 ll (ll.length:Int) 0=_) 1 ?_ (fun _ _ _ h=>h)
 refine qan 1 (L:=fun φ n k a=>Z96.l0 (mkR (run E (φ 0))) (φ 0) n ll a ll (ll.length:Int) k) (len:=ll.length) (fun k=>(((ll.take k).flatten.length:Nat):Int)) (fun _ _ _ _ _=>rfl) (fun k r hk ih=>?_) ?_
 ·simp only[Z96.l0_succ _ qae]
  have:=hle (k+1)
  have e:=hst k hk
  have e2:w64 (((ll.take k).flatten.length:Nat)+(List.length (ll[k]):Int))=(((ll.take (k+1)).flatten.length:Nat):Int):=by
   rw[qaf (by omega) (by rw[e,List.length_append] at this;omega),e,List.length_append];omega
  refine qaC (decide_eq_true (by omega)) (qac (qak hk) ?_)
  show Ev fun φ=>(bif decide (w64 (((ll.take k).flatten.length:Nat)+(List.length (ll[k]):Int))<0) then none else Z96.l0 (mkR (run E (φ 0))) (φ 0) (φ 1) ll (w64 (((ll.take k).flatten.length:Nat)+(List.length (ll[k]):Int))) ll (ll.length:Int) (w64 ((k:Int)+1)))=r
  rw[e2,qad (by omega)]
  exact qaI (decide_eq_false (by omega)) ih
 ·simp only[Z96.l0_succ _ qae]
  refine qaI (decide_eq_false (by omega)) (qaa (qn4 [] _ (by omega) (by have:=hle ll.length;omega) (by simp)) ?_)
  refine Ev.start (p:=fun φ n=>Z96.l1 (mkR (run E (φ 0))) (φ 0) n ll (ll.length:Int) 0 []=_) 2 ?_ (fun _ _ _ h=>h)
  refine qan 2 (L:=fun φ n k a=>Z96.l1 (mkR (run E (φ 0))) (φ 0) n ll (ll.length:Int) k a) (len:=ll.length) (fun k=>(ll.take k).flatten) (fun _ _ _ _ _=>rfl) (fun k r hk ih=>?_) ?_
  ·simp only[Z96.l1_succ _ qae]
   have:=hle (k+1)
   have e:=hst k hk
   rw[e] at ih this
   rw[List.length_append] at this
   refine qaC (decide_eq_true (by omega)) (qac (qak hk) (qao (decide_eq_true (by show(_+List.length ll[k])*24≤_;omega)) ?_))
   rw[qad (by omega)]
   exact ih
  ·simp only[Z96.l1_succ _ qae]
   refine qaI (decide_eq_false (by omega)) (qah ?_)
   rw[List.take_of_length_le (Nat.le_refl _)]
theorem qiO(q:Int)(K C:Nat)(cb:Sim)(hl:cb.length=K*C)(hK:K≤4096)(hC:C≤64):Ret E n_Z81 [dI q,dI (K:Int),dI (C:Int),dL cb] ⟨o_Z81,(q,(C:Int),(K:Int),qar (fun i j=>cb.getD (j*C+i) 0) K C,())⟩:=by
 have h1:K*C≤4096*64:=Nat.mul_le_mul hK hC
 have h2:C*K≤64*4096:=Nat.mul_le_mul hC hK
 refine qaj ?_
 simp only[run_Z81,Z81.ev]
 refine qaa (qbM q C K ((q,(K:Int),(C:Int),cb,()),()) (fun i j=>cb.getD (j*C+i) 0) (by omega) (by omega) (by omega) fun i j hi hj=>?_) qal
 exact qeL (q,(K:Int),(C:Int),cb,()) C i j rfl (by show _<cb.length;rw[hl];exact qe4 hj hi) (by show cb.length≤_;omega)
theorem qgU{W:Nat}:∀ {rows:List Sim},(∀ x∈rows,x.length=W)→∀ {j i:Nat},j<rows.length→i<W→rows.flatten.getD (j*W+i) 0=qbC rows j i
 | [],_,j,i,hj,_=>by simp at hj
 | r::rows,h,j,i,hj,hi=>by
  have hr:r.length=W:=h r List.mem_cons_self
  rw[List.flatten_cons,List.getD_eq_getElem?_getD]
  cases j with
  | zero =>
   rw[List.getElem?_append_left (by omega),← List.getD_eq_getElem?_getD]
   unfold qbC
   rw[Nat.zero_mul,Nat.zero_add];rfl
  | succ j =>
   have e:(j+1)*W+i=W+(j*W+i):=by rw[Nat.add_mul];omega
   rw[e,List.getElem?_append_right (by omega),hr,Nat.add_sub_cancel_left,← List.getD_eq_getElem?_getD,qgU (fun x hx=>h x (List.mem_cons_of_mem _ hx)) (by simpa using hj) hi]
   rfl
theorem qeq{p:Int}{W:Nat}{rows:List Sim}(h:Rws p W rows):qqv p W (qar (fun i j=>rows.flatten.getD (j*W+i) 0) rows.length W) rows:=by
 have hent:∀ i j,i<W→j<rows.length→rows.flatten.getD (j*W+i) 0=qbC rows j i:=fun i j hi hj=>qgU (fun x hx=>(h x hx).1) hj hi
 have hin:=qh3 h
 refine⟨⟨qaq,fun x hx=>?_⟩,fun i j hi hj=>?_⟩
 ·rw[← qci] at hx
  obtain⟨row,hrow,hx⟩:=List.mem_flatten.1 hx
  obtain⟨i,hi,rfl⟩:=List.mem_map.1 hrow
  obtain⟨j,hj,rfl⟩:=List.mem_map.1 hx
  show 0≤rows.flatten.getD (j*W+i) 0∧rows.flatten.getD (j*W+i) 0≤p-1
  rw[hent i j (List.mem_range.1 hi) (List.mem_range.1 hj)]
  exact hin j i (List.mem_range.1 hj) (List.mem_range.1 hi)
 ·rw[qaW hi hj,hent i j hi hj]
theorem qiY{c g:Nat→Int}{m:Nat}:∀ {n:Nat},qaB c g (m+n)=qaB c g m+qaB (fun i=>c (m+i)) (fun i=>g (m+i)) n
 | 0=>by simp[qaB]
 | n+1=>by
  rw[← Nat.add_assoc]
  simp only[qaB]
  rw[qiY (n:=n)];omega
theorem qmp{A B:List Sim}{i:Nat}(h:i<A.length):qbC (A++B) i=qbC A i:=by
 funext j
 unfold qbC
 rw[List.getD_eq_getElem?_getD (l:=A++B),List.getElem?_append_left h,← List.getD_eq_getElem?_getD]
theorem qlX{A B:List Sim}{i:Nat}:qbC (A++B) (A.length+i)=qbC B i:=by
 funext j
 unfold qbC
 rw[List.getD_eq_getElem?_getD (l:=A++B),List.getElem?_append_right (by omega),Nat.add_sub_cancel_left,← List.getD_eq_getElem?_getD]
theorem qpT{A B:List Sim}{y:Nat→Int}{j:Nat}:qaB y (fun i=>qbC (A++B) i j) (A++B).length=qaB y (fun i=>qbC A i j) A.length+qaB (fun i=>y (A.length+i)) (fun i=>qbC B i j) B.length:=by
 rw[List.length_append,qiY]
 congr 1
 ·exact qaw fun i hi=>⟨rfl,by rw[qmp hi]⟩
 ·exact qaw fun i hi=>⟨rfl,by rw[qlX]⟩
def qiM(p:Int)(W:Nat)(h cls:List Sim)(x l:Sim):Prop :=
 (l.length=cls.length∧qax l p)∧Spn p h.length W (qbC h) (fun j=>x.getD j 0-qaB (fun i=>l.getD i 0) (fun i=>qbC cls i j) cls.length)
theorem qiM.unique{p:Int}{W:Nat}(hp:Pr p){h list:List Sim}{x l m:Sim}(hl:qiM p W h (qeV p W h list) x l)(hm:qiM p W h (qeV p W h list) x m):l=m:=by
 obtain⟨⟨l1,l2⟩,l3⟩:=hl
 obtain⟨⟨m1,m2⟩,m3⟩:=hm
 have hd:Spn p h.length W (qbC h) (fun j=>qaB (fun i=>m.getD i 0+-1*l.getD i 0) (fun i=>qbC (qeV p W h list) i j) (qeV p W h list).length) :=
  (l3.add (m3.smul (-1))).congr fun j _=>by
   rw[qhc,qeN]
   congr 1;omega
 have hz:=qhR hp hd
 apply List.ext_getElem (by omega)
 intro i h1 h2
 have:=hz i (by omega)
 rw[qag h1,qag h2] at this
 have a1:=l2 _ (List.getElem_mem h1)
 have a2:=m2 _ (List.getElem_mem h2)
 have hpp:=hp.1
 have e:m[i]%p=l[i]%p:=Int.emod_eq_emod_iff_emod_sub_eq_zero.2 (by rw[show m[i]-l[i]=m[i]+-1*l[i] by omega];exact this)
 rw[Int.emod_eq_of_lt a1.1 (by omega),Int.emod_eq_of_lt a2.1 (by omega)] at e
 exact e.symm
theorem Spn.sub{p:Int}{W:Nat}{A B:List Sim}{x:Nat→Int}(h:∀ r∈A,InR p W B r)(hx:Spn p A.length W (qbC A) x):Spn p B.length W (qbC B) x :=
 Spn.trans (fun i hi=>by
  have e:qbC A i=fun j=>(A[i]).getD j 0:=by funext j;unfold qbC;rw[qag hi]
  rw[e];exact h _ (List.getElem_mem hi)) hx
theorem qqi{p:Int}{W:Nat}{h cls bs:List Sim}{x y:Sim}(hb:∀ r∈bs,InR p W h r)(hy:qax y p)(hl:y.length=(cls++bs).length)(hs:∀ j,j<W→qaB (fun i=>y.getD i 0) (fun i=>qbC (cls++bs) i j) (cls++bs).length%p=x.getD j 0%p) :
  qiM p W h cls x (y.take cls.length):=by
 have hl':=hl
 rw[List.length_append] at hl'
 refine⟨⟨by rw[List.length_take];omega,fun z hz=>hy z (List.mem_of_mem_take hz)⟩,Spn.sub hb ⟨fun i=>y.getD (cls.length+i) 0,fun j hj=>?_⟩⟩
 have:=hs j hj
 rw[qpT] at this
 have e:qaB (fun i=>(y.take cls.length).getD i 0) (fun i=>qbC cls i j) cls.length=qaB (fun i=>y.getD i 0) (fun i=>qbC cls i j) cls.length:=qaw fun i hi=>⟨by
  rw[List.getD_eq_getElem?_getD,List.getElem?_take,if_pos hi,← List.getD_eq_getElem?_getD],rfl⟩
 show qaB (fun i=>y.getD (cls.length+i) 0) (fun i=>qbC bs i j) bs.length%p=(x.getD j 0-qaB (fun i=>(y.take cls.length).getD i 0) (fun i=>qbC cls i j) cls.length)%p
 rw[e]
 have h2:=Int.emod_eq_emod_iff_emod_sub_eq_zero.1 this
 refine Int.emod_eq_emod_iff_emod_sub_eq_zero.2 (Eq.trans ?_ h2)
 congr 1;omega
theorem qja{p:Int}{F:Ent}{W:Nat}:∀ {qs:List Nat} {i:Nat} {o y:Sim},(∀ k,i≤k→k<i+qs.length→0≤F k W∧F k W≤p-1)→qax o p→ql6 F W qs i o=some y→qax y p
 | [],i,o,y,_,ho,h=>by obtain rfl:=Option.some.inj h;exact ho
 | q::qs,i,o,y,hF,ho,h=>by
  unfold ql6 at h
  split at h
  ·cases h
  ·refine qja (fun k h1 h2=>hF k (by omega) (by simp;omega)) (fun z hz=>?_) h
   rcases List.mem_or_eq_of_mem_set hz with hz | rfl
   ·exact ho z hz
   ·exact hF i (Nat.le_refl _) (by simp)
theorem qjw{p:Int}{R W:Nat}{cells b y:Sim}(hp:Pr p)(hl:cells.length=R*W)(he:qax cells p)(hbl:b.length=R)(hb:qax b p)(h:qo6 p R W cells b=some y):y.length=W∧qax y p:=by
 have hA0:=qcu he hl
 have hA1:=qko hA0 hb hbl
 have hA:EIn p R (W+1) (qbJ (qkH cells b W R) (W+1)):=fun i j hi hj=>by
  unfold qkH;rw[qaW hi hj];exact hA1 i j hi hj
 obtain⟨hF,h1,h2,h3⟩:=qew hp.1 hA (W+1)
 have hpp:=hp.1
 unfold qo6 at h
 refine⟨by rw[qho h,List.length_replicate],qja (fun k _ hk=>hF k W (by omega) (by omega)) (fun z hz=>?_) h⟩
 have:z=0:=(List.mem_replicate.1 hz).2
 subst this
 omega
theorem qpY{p:Int}{W:Nat}{cells:Sim}{all:List Sim}{x:Sim}(hp:Pr p)(hc:qqv p W cells all)(hx:qax x p)(hxl:x.length=W)(hin:InR p W all x) :
  ∃ y,qo6 p W all.length cells x=some y∧y.length=all.length∧qax y p∧∀ j,j<W→qaB (fun i=>y.getD i 0) (fun i=>qbC all i j) all.length%p=x.getD j 0%p:=by
 have hi:=qng hp hc.1.1 hc.1.2 hxl hx
 have hne:=hi.1.2 (hc.slv.2 hin)
 cases hq:qo6 p W all.length cells x with
 | none=>exact absurd hq hne
 | some y =>
  obtain⟨e1,e2⟩:=qjw hp hc.1.1 hc.1.2 hxl hx hq
  refine⟨y,rfl,e1,e2,fun j hj=>?_⟩
  rw[← hi.2 y hq j hj]
  congr 1
  exact qaw fun i hi=>⟨rfl,(hc.2 j i hj hi).symm⟩
theorem qiu(p:Int)(W:Nat)(h cls bs:List Sim)(x:Sim)(hp:Pr p)(hW:W≤64)(hn:(cls++bs).length≤4000)(hcls:Rws p W cls)(hbs:Rws p W bs)(hb:∀ r∈bs,InR p W h r)(hx:qax x p)(hxl:x.length=W)(hin:InR p W (cls++bs) x) :
  ∃ l,qiM p W h cls x l∧Ret E n_Z34 [dLL cls,dI p,dI (W:Int),dLL bs,dL x] ⟨o_Z34,(l,())⟩:=by
 have hall:Rws p W (cls++bs):=fun r hr=>(List.mem_append.1 hr).elim (hcls r) (hbs r)
 obtain⟨y,y1,y2,y3,y4⟩:=qpY hp (qeq hall) hx hxl hin
 have hfl:=hall.flat
 have hnW:(cls++bs).length*W≤4000*64:=Nat.mul_le_mul hn hW
 have hWn:W*(cls++bs).length≤64*4000:=Nat.mul_le_mul hW hn
 have hcr:=(qeq hall).1
 have hs:=qkM p W (cls++bs).length _ x ⟨hp.1,hp.2.1⟩ (by omega) (by omega) (by omega) hcr.1 hcr.2 hxl hx
 rw[y1] at hs
 refine⟨y.take cls.length,qqi hb y3 y2 y4,qaj ?_⟩
 simp only[run_Z34,Z34.ev]
 have hcc:=qk1 [cls,bs] (by simp) (by simpa using Nat.le_trans hn (by omega))
 rw[show [cls,bs].flatten=cls++bs by simp] at hcc
 refine qaa hcc (qaa (qla p (W:Int) (cls++bs) (by omega) (by rw[hfl.1];omega)) (qaa (qiO p (cls++bs).length W _ hfl.1 (by omega) hW) (qaa hs (qao ?_ (qah ?_)))))
 ·have:cls.length≤y.length:=by rw[y2,List.length_append];omega
  simp only[qrq,Bool.and_eq_true]
  exact⟨decide_eq_true (Int.natCast_nonneg _),decide_eq_true (Int.ofNat_le.2 this)⟩
 ·simp only[qrq,Int.toNat_natCast,List.drop_zero]
end VeT
open Go Go.Proofs Ve
namespace VeT
open Classical in
noncomputable def cnt(f:Nat→Prop):Nat→Nat
 | 0=>0
 | n+1=>cnt f n+if f n then 1 else 0
theorem qhj{f g:Nat→Prop}:∀ {n:Nat},(∀ c,c<n→f c→g c)→cnt f n≤cnt g n
 | 0,_=>Nat.le_refl _
 | n+1,h=>by
  have:=qhj (n:=n) fun c hc=>h c (by omega)
  unfold cnt
  by_cases hf:f n
  ·rw[if_pos hf,if_pos (h n (by omega) hf)];omega
  ·rw[if_neg hf];omega
theorem qf8{f g:Nat→Prop}{n:Nat}(h:∀ c,c<n→(f c↔g c)):cnt f n=cnt g n :=
 Nat.le_antisymm (qhj fun c hc=>(h c hc).1) (qhj fun c hc=>(h c hc).2)
theorem qm8{f:Nat→Prop}:∀ {n:Nat},(∀ c,c<n→¬ f c)→cnt f n=0
 | 0,_=>rfl
 | n+1,h=>by
  unfold cnt
  rw[qm8 fun c hc=>h c (by omega),if_neg (h n (by omega))]
theorem qpc{f:Nat→Prop}{k:Nat}:∀ {n:Nat},k<n→¬ f k→cnt (fun c=>f c∨c=k) n=cnt f n+1
 | 0,h,_=>by omega
 | n+1,h,hk=>by
  unfold cnt
  by_cases e:k=n
  ·subst e
   have:cnt (fun c=>f c∨c=k) k=cnt f k:=qf8 fun c hc=>⟨fun h=>h.elim id fun e=>by omega,.inl⟩
   rw[this,if_pos (.inr rfl),if_neg hk]
  ·rw[qpc (by omega) hk]
   by_cases hf:f n
   ·rw[if_pos (.inl hf),if_pos hf]
   ·rw[if_neg (fun h=>h.elim hf fun e'=>e e'.symm),if_neg hf]
theorem qmM{W:Nat}:∀ {l:List Nat},l.Nodup→(∀ c∈l,c<W)→cnt (fun c=>c∈l) W=l.length
 | [],_,_=>qm8 fun c _ h=>by cases h
 | a::l,hn,hl=>by
  obtain⟨h1,h2⟩:=List.nodup_cons.1 hn
  have e:=qmM h2 fun c hc=>hl c (List.mem_cons_of_mem _ hc)
  rw[List.length_cons,← e,← qpc (hl a List.mem_cons_self) h1]
  exact qf8 fun c _=>by rw[List.mem_cons];exact Or.comm
def Ld(p:Int)(W:Nat)(V:(Nat→Int)→Prop)(c:Nat):Prop:=c<W∧∃ x,V x∧(∀ j,j<c→x j%p=0)∧x c%p≠0
noncomputable def rkV(p:Int)(W:Nat)(V:(Nat→Int)→Prop):Nat:=cnt (Ld p W V) W
theorem Ld.mono{p:Int}{W:Nat}{V V':(Nat→Int)→Prop}(h:∀ x,V x→V' x){c:Nat}:Ld p W V c→Ld p W V' c:=fun⟨h1,x,hx,h2⟩=>⟨h1,x,h x hx,h2⟩
theorem qoE{p:Int}{W:Nat}{V V':(Nat→Int)→Prop}(h:∀ x,V x↔V' x):rkV p W V=rkV p W V':=qf8 fun c _=>⟨Ld.mono fun x=>(h x).1,Ld.mono fun x=>(h x).2⟩
theorem qmO{p:Int}{c g:Nat→Int}:∀ {n:Nat},(∀ i,i<n→c i*g i%p=0)→qaB c g n%p=0
 | 0,_=>by simp[qaB]
 | n+1,h=>by
  rw[show qaB c g (n+1)=qaB c g n+c n*g n from rfl,Int.add_emod,qmO fun i hi=>h i (by omega),h n (by omega)];simp
theorem Rf.nodup{R W:Nat}{F:Ent}{pv:List Nat}(h:Rf R W F pv):pv.Nodup∧∀ c∈pv,c<W:=by
 have hg:∀ i (hi:i<pv.length),pv.getD i 0=pv[i]:=fun i hi=>by rw[List.getD_eq_getElem?_getD,List.getElem?_eq_getElem hi];rfl
 constructor
 ·refine List.pairwise_iff_getElem.2 fun i j hi hj hij=>?_
  have:=h.mono i j hij hj
  rw[hg i hi,hg j hj] at this
  omega
 ·intro c hc
  obtain⟨i,hi,rfl⟩:=List.mem_iff_getElem.1 hc
  have:=h.lt i hi
  rwa [hg i hi] at this
theorem Rf.mem{R W:Nat}{F:Ent}{pv:List Nat}(h:Rf R W F pv){c:Nat}:c∈pv↔∃ i,i<pv.length∧pv.getD i 0=c:=by
 rw[List.mem_iff_getElem]
 constructor
 ·rintro⟨i,hi,rfl⟩;exact⟨i,hi,by rw[List.getD_eq_getElem?_getD,List.getElem?_eq_getElem hi];rfl⟩
 ·rintro⟨i,hi,rfl⟩;exact⟨i,hi,by rw[List.getD_eq_getElem?_getD,List.getElem?_eq_getElem hi];rfl⟩
theorem Rf.coef{p:Int}{R W:Nat}{F:Ent}{pv:List Nat}(h:Rf R W F pv){v:Nat→Int}(hv:Spn p R W F v){j:Nat}(hj:j<W) :
  v j%p=qaB (fun k=>v (pv.getD k 0)) (fun k=>F k j) pv.length%p:=by
 obtain⟨c,hc⟩:=hv
 have h0:∀ j,j<W→qaB c (fun i=>F i j) R=qaB c (fun i=>F i j) pv.length:=fun j hj=>qfP h.len fun i h1 h2=>h.bot i j h1 h2 hj
 have hk:∀ k,k<pv.length→v (pv.getD k 0)%p=c k%p:=fun k hk=>by
  rw[← hc _ (h.lt k hk),h0 _ (h.lt k hk),qaE]
  congr 1
  rw[← qcQ (g:=c) hk]
  exact qaw fun i hi=>⟨h.one i k (Nat.lt_of_lt_of_le hi h.len) hk,rfl⟩
 rw[← hc j hj,h0 j hj,qaE,qaE (c:=fun k=>v (pv.getD k 0))]
 exact qbH fun i hi=>(hk i hi).symm
theorem Rf.low0{p:Int}{R W:Nat}{F:Ent}{pv:List Nat}(h:Rf R W F pv){v:Nat→Int}(hv:Spn p R W F v){d:Nat}(hd:d<W)(hn:d∉pv)(h0:∀ k,k<pv.length→pv.getD k 0<d→v (pv.getD k 0)%p=0):∀ j,j≤d→v j%p=0:=by
 intro j hj
 rw[h.coef hv (by omega)]
 refine qmO fun k hk=>?_
 rcases Nat.lt_trichotomy (pv.getD k 0) d with e | e | e
 ·rw[Int.mul_emod,h0 k hk e];simp
 ·exact absurd (h.mem.2 ⟨k,hk,e⟩) hn
 ·rw[h.low k j hk (by omega)];simp
theorem qrN{p:Int}{R W:Nat}{F:Ent}{pv:List Nat}(hp:2≤p)(h:Rf R W F pv){c:Nat}:Ld p W (Spn p R W F) c↔c∈pv:=by
 constructor
 ·rintro⟨hc,x,hx,h1,h2⟩
  refine Classical.byContradiction fun hn=>h2 ?_
  exact h.low0 hx hc hn (fun k hk e=>h1 _ e) c (Nat.le_refl _)
 ·intro hm
  obtain⟨i,hi,rfl⟩:=h.mem.1 hm
  have hiR:=Nat.lt_of_lt_of_le hi h.len
  refine⟨h.lt i hi,F i,Spn.row hiR,fun j hj=>by rw[h.low i j hi hj];simp,?_⟩
  rw[h.one i i hiR hi,if_pos rfl,Int.emod_eq_of_lt (by omega) (by omega)]
  omega
theorem qrI{p:Int}{R W:Nat}{F:Ent}{pv:List Nat}(hp:2≤p)(h:Rf R W F pv):rkV p W (Spn p R W F)=pv.length:=by
 rw[← qmM h.nodup.1 h.nodup.2]
 exact qf8 fun c _=>qrN hp h
theorem Eqv.spn{p:Int}{R W:Nat}{A B:Ent}(h:Eqv p R W A B){x:Nat→Int}:Spn p R W A x↔Spn p R W B x:=⟨fun hx=>Spn.trans h.2 hx,fun hx=>Spn.trans h.1 hx⟩
theorem qrA{p:Int}{R W:Nat}{A:Ent}(hp:Pr p)(hA:EIn p R W A):(elS p R A W).2.length=rkV p W (Spn p R W A):=by
 obtain⟨h1,h2⟩:=qgN hp hA W (Nat.le_refl _)
 rw[← qrI hp.1 h1]
 exact qoE fun x=>h2.spn.symm
theorem InR.spn{p:Int}{W:Nat}{A B:List Sim}(h:∀ r∈A,InR p W B r){x:Nat→Int}(hx:Spn p A.length W (qbC A) x):Spn p B.length W (qbC B) x :=
 Spn.trans (fun i hi=>by
  have e:qbC A i=fun j=>(A[i]).getD j 0:=by funext j;unfold qbC;rw[qag hi]
  rw[e];exact h _ (List.getElem_mem hi)) hx
end VeT
open Go Go.Proofs Ve
namespace VeT
noncomputable def rkM(p:Int)(R W:Nat)(cells:Sim):Nat:=(elS p R (qbJ cells W) W).2.length
end VeT
open Go Go.Proofs Ve
namespace VeT
def sN(f:Nat→Int):Nat→Int
 | 0=>0
 | n+1=>sN f n+f n
theorem qmB{c g:Nat→Int}:∀ {n:Nat},qaB c g n=sN (fun i=>c i*g i) n
 | 0=>rfl
 | n+1=>by show qaB c g n+c n*g n=_;rw[qmB];rfl
theorem qf5{f g:Nat→Int}:∀ {n:Nat},(∀ i,i<n→f i=g i)→sN f n=sN g n
 | 0,_=>rfl
 | n+1,h=>by unfold sN;rw[qf5 fun i hi=>h i (by omega),h n (by omega)]
theorem qex{f:Nat→Int}:∀ {n:Nat},(∀ i,i<n→f i=0)→sN f n=0
 | 0,_=>rfl
 | n+1,h=>by unfold sN;rw[qex fun i hi=>h i (by omega),h n (by omega)];rfl
theorem qqO{f g:Nat→Int}:∀ {n:Nat},sN (fun i=>f i+g i) n=sN f n+sN g n
 | 0=>rfl
 | n+1=>by unfold sN;rw[qqO];omega
theorem qku{f:Nat→Int}{m:Nat}:∀ {n:Nat},sN f (m+n)=sN f m+sN (fun i=>f (m+i)) n
 | 0=>by simp[sN]
 | n+1=>by
  show sN f (m+n)+f (m+n)=sN f m+(sN (fun i=>f (m+i)) n+f (m+n))
  rw[qku];omega
theorem qn9{f:Nat→Nat→Int}{W:Nat}:∀ {N:Nat},sN (fun a=>sN (fun t=>f a t) N) W=sN (fun t=>sN (fun a=>f a t) W) N
 | 0=>qex fun _ _=>rfl
 | N+1=>by
  have:sN (fun a=>sN (fun t=>f a t) (N+1)) W=sN (fun a=>sN (fun t=>f a t) N+f a N) W:=rfl
  rw[this,qqO,qn9];rfl
theorem qpi{p:Int}{f g:Nat→Int}:∀ {n:Nat},(∀ i,i<n→f i%p=g i%p)→sN f n%p=sN g n%p
 | 0,_=>rfl
 | n+1,h=>by unfold sN;rw[Int.add_emod,qpi fun i hi=>h i (by omega),h n (by omega),← Int.add_emod]
theorem qqI{f:Nat→Int}{k:Int}:∀ {n:Nat},sN (fun i=>k*f i) n=k*sN f n
 | 0=>by simp[sN]
 | n+1=>by unfold sN;rw[qqI,Int.mul_add]
theorem qqj{f:Nat→Int}{L n W:Nat}(hW:L+n≤W)(h:∀ i,i<W→¬ (L≤i∧i<L+n)→f i=0):sN f W=sN (fun b=>f (L+b)) n:=by
 obtain⟨r,rfl⟩:∃ r,W=L+n+r:=⟨W-(L+n),by omega⟩
 rw[qku,qku,qex (n:=L) fun i hi=>h i (by omega) (by omega),qex (n:=r) fun i hi=>h _ (by omega) (by omega)]
 omega
theorem qoQ{P:Nat→Prop}[DecidablePred P]{v:Int}{u:Nat}:∀ {N:Nat},u<N→P u→(∀ t,t<N→P t→t=u)→sN (fun t=>if P t then v else 0) N=v
 | 0,hu,_,_=>by omega
 | N+1,hu,hp,h=>by
  show sN (fun t=>if P t then v else 0) N+(if P N then v else 0)=v
  by_cases hN:u=N
  ·subst hN
   rw[if_pos hp,qex fun t ht=>if_neg fun hpt=>by have:=h t (by omega) hpt;omega];omega
  ·rw[qoQ (u:=u) (by omega) hp fun t ht=>h t (by omega),if_neg fun hpt=>hN (h N (by omega) hpt).symm];omega
theorem qqe{f:Nat→Int}{L n:Nat→Nat}{N W:Nat}(hW:∀ t,t<N→L t+n t≤W)(hd:∀ t u i,t<N→u<N→L t≤i→i<L t+n t→L u≤i→i<L u+n u→t=u)
  (h0:∀ i,i<W→(∀ t,t<N→¬ (L t≤i∧i<L t+n t))→f i=0):sN f W=sN (fun t=>sN (fun b=>f (L t+b)) (n t)) N:=by
 classical
 have e:sN f W=sN (fun a=>sN (fun t=>if L t≤a∧a<L t+n t then f a else 0) N) W:=qf5 fun a ha=>by
  by_cases he:∃ t,t<N∧(L t≤a∧a<L t+n t)
  ·obtain⟨u,hu,hau⟩:=he
   exact(qoQ hu hau fun t ht hat=>hd t u a ht hu hat.1 hat.2 hau.1 hau.2).symm
  ·rw[h0 a ha fun t ht h=>he ⟨t,ht,h⟩]
   exact(qex fun t ht=>by split<;>rfl).symm
 rw[e,qn9]
 refine qf5 fun t ht=>?_
 rw[qqj (hW t ht) fun i _ h=>if_neg h]
 exact qf5 fun b hb=>if_pos ⟨by omega,by omega⟩
theorem qoz{c:List Sim}{st:Sim}(hst:∀ x∈st,0≤x∧x≤3){d:Int}{r:Nat}:∀ {n:Nat},r<(SDn c st d n).toNat→∃ s,s<n∧((c.getD s []).length:Int)=d+1∧∃ i,i<(st.getD s 0).toNat∧r=(FC c st s).toNat+i
 | 0,h=>by simp[SDn,qav] at h
 | n+1,h=>by
  have h1:=qiV (c:=c) (d:=d) hst (n:=n)
  have h2:=qjV hst n
  by_cases hr:r<(SDn c st d n).toNat
  ·obtain⟨s,hs,h3⟩:=qoz hst hr;exact⟨s,by omega,h3⟩
  ·rw[qeO] at h
   split at h
   ·rename_i hd
    have e:FC c st n=SDn c st d n:=by unfold FC;rw[show((c.getD n []).length:Int)-1=d by omega]
    exact⟨n,by omega,hd,r-(SDn c st d n).toNat,by omega,by rw[e];omega⟩
   ·omega
theorem qmt{c:List Sim}(h:VC c){a b:Nat}(ha:a<c.length)(hb:b<c.length)(e:c.getD a []=c.getD b []):a=b:=by
 have key:∀ {a b:Nat},a<b→b<c.length→c.getD a []=c.getD b []→False:=fun {a b} hab hb e=>by
  have:=h.srt a b hb hab
  rw[qag (by omega),qag hb] at e
  rw[e,qdJ.2 rfl] at this
  omega
 rcases Nat.lt_trichotomy a b with h | h | h
 ·exact absurd e fun e=>key h hb e
 ·exact h
 ·exact absurd e.symm fun e=>key h ha e
theorem qse{c:List Sim}{p:Int}{st:Sim}{ms:List Mat}{k i j:Nat}(hij:i<j)(h1:Sq c p st ms k i (j-1))(h2:Sq c p st ms k j i):fc c (fc c k i) (j-1)=fc c (fc c k j) i:=by
 have a:=qbk h1.v.1 h1.fk h1.hj
 have b:=qbk h2.v.1 h2.fk h2.hj
 refine qmt h1.v.1 a.2.1 b.2.1 ?_
 rw[a.2.2,b.2.2,(qbk h1.v.1 h1.kl h1.hi).2.2,(qbk h2.v.1 h2.kl h2.hi).2.2]
 exact(qfj hij).symm
noncomputable def qmE(c:List Sim)(p:Int)(st:Sim)(ms:List Mat)(s i g t u:Nat):Int :=
 if (FC c st (fc c (fc c s t) u)).toNat≤g∧g<(FC c st (fc c (fc c s t) u)).toNat+(st.getD (fc c (fc c s t) u) 0).toNat then
  sgn p t*sgn p u*qaB (fun b=>(mp c ms s t).2.2.2.1.getD (i*(mp c ms s t).2.2.1.toNat+b) 0) (fun b=>(mp c ms (fc c s t) u).2.2.2.1.getD (b*(mp c ms (fc c s t) u).2.2.1.toNat+(g-(FC c st (fc c (fc c s t) u)).toNat)) 0) (mp c ms s t).2.2.1.toNat
 else 0
theorem qpW{x a y b p:Int}:(x*a%p)*(y*b%p)%p=b*a*(y*x)%p:=by
 rw[← Int.mul_emod]
 congr 1
 rw[Int.mul_assoc,Int.mul_comm b a,Int.mul_assoc,Int.mul_left_comm]
 congr 1
 rw[Int.mul_comm y b,Int.mul_left_comm x b,Int.mul_comm x y]
theorem qn2{c:List Sim}{ms:List Mat}(h:qbX c ms=none){k i j:Nat}(hk:k<c.length)(h3:3≤(c.getD k []).length)(hij:i<j)(hj:j<(c.getD k []).length):two c ms k i (j-1)=two c ms k j i:=Classical.byContradiction fun hne=>by
 have hpi:Pi c ms k i:=⟨j,by omega,by omega,hne⟩
 have hpk:Pk c ms k:=⟨h3,i,by omega,by omega,hpi⟩
 have:=qfi h (fun _ _ _=>some ⟨.nil,()⟩) none
 obtain⟨k',h1⟩:=qcE (P:=Pk c ms) (a:=0) (d:=c.length) ⟨k,by omega,by omega,hpk⟩
 unfold qbX at h
 rw[h1] at h
 simp only[Option.bind_some] at h
 obtain⟨i',h2⟩:=qcE (qaM h1).2.2.2
 rw[h2] at h
 simp only[Option.bind_some] at h
 obtain⟨j',h3⟩:=qcE (qaM h2).2.2
 rw[h3] at h
 cases h
theorem qp3{c:List Sim}{p:Int}{st:Sim}{ms:List Mat}(h:VS c p st ms)(hw:qbX c ms=none){s i g a b:Nat}(hs:s<c.length)(h3:3≤(c.getD s []).length)(hi:i<(st.getD s 0).toNat)(hab:a<b)(hb:b<(c.getD s []).length) :
  (qmE c p st ms s i g a (b-1)+qmE c p st ms s i g b a)%p=0:=by
 have s1:Sq c p st ms s a (b-1):=⟨hs,h3,by omega,by omega,h⟩
 have s2:Sq c p st ms s b a:=⟨hs,h3,by omega,by omega,h⟩
 have e:=qse hab s1 s2
 have ht:=qn2 hw hs h3 hab hb
 have hp:2≤p:=h.2.1.1
 unfold qmE
 rw[e]
 split
 ·rename_i hg
  obtain⟨R1,K1,em1,hR1,hK1,_⟩:=s1.b1.nat
  have m1:=(h.map s1.kl s1.hi).2
  have m2:=(h.map s2.kl s2.hi).2
  have n1:=(h.map s1.fk s1.hj).2
  have n2:=(h.map s2.fk s2.hj).2
  rw[e] at n1
  have hc:=congrArg (fun m:Mat=>m.2.2.2.1) ht
  unfold two qfE at hc
  simp only at hc
  rw[m1.2.1,m2.2.1,n1.2.2.2,n2.2.2.2,m1.2.2.1,m2.2.2.1] at hc
  generalize hG:g-(FC c st (fc c (fc c s b) a)).toNat=g' at *
  have hg':g'<(st.getD (fc c (fc c s b) a) 0).toNat:=by omega
  have b1:=s1.b1.2.1
  rw[m1.2.2.1] at b1
  have b2:=s1.b2.2.2.1
  rw[n1.2.2.2] at b2
  have hRC:=qcN (R:=(st.getD s 0).toNat) (C:=(st.getD (fc c (fc c s b) a) 0).toNat) (by omega) (by omega)
  have f1:=(qdx (A:=qig p (mp c ms s a).2.2.2.1 (mp c ms (fc c s a) (b-1)).2.2.2.1 (mp c ms s a).2.2.1.toNat (st.getD (fc c (fc c s b) a) 0).toNat) hi hg' (by omega)).2
  have f2:=(qdx (A:=qig p (mp c ms s b).2.2.2.1 (mp c ms (fc c s b) a).2.2.2.1 (mp c ms s b).2.2.1.toNat (st.getD (fc c (fc c s b) a) 0).toNat) hi hg' (by omega)).2
  rw[hc,f2] at f1
  have f1:=Option.some.inj f1
  unfold qig at f1
  rw[n1.2.2.2,n2.2.2.2]
  generalize qaB (fun l=>(mp c ms s a).2.2.2.1.getD (i*(mp c ms s a).2.2.1.toNat+l) 0) _ _=S1 at f1 ⊢
  generalize qaB (fun l=>(mp c ms s b).2.2.2.1.getD (i*(mp c ms s b).2.2.1.toNat+l) 0) _ _=S2 at f1 ⊢
  have hx:sgn p a*sgn p (b-1)*S1+sgn p b*sgn p a*S2=sgn p a*(sgn p (b-1)*S1+sgn p b*S2):=by
   rw[Int.mul_add,Int.mul_assoc,Int.mul_comm (sgn p b) (sgn p a),Int.mul_assoc]
  rw[hx,Int.mul_emod]
  have hz:(sgn p (b-1)*S1+sgn p b*S2)%p=0:=by
   unfold sgn
   by_cases hpar:b%2=0
   ·rw[if_neg (by omega),if_pos hpar,Int.one_mul,Int.sub_mul,Int.one_mul]
    rw[show p*S1-S1+S2=p*S1+(S2-S1) by omega,Int.mul_add_emod_self_left]
    rw[Int.sub_emod,f1];simp
   ·rw[if_pos (by omega),if_neg hpar,Int.one_mul,Int.sub_mul,Int.one_mul]
    rw[show S1+(p*S2-S2)=p*S2+(S1-S2) by omega,Int.mul_add_emod_self_left]
    rw[Int.sub_emod,f1];simp
  rw[hz];simp
 ·simp
theorem qqR{a b p:Int}(ha:a%p=0)(hb:b%p=0):(a+b)%p=0:=by rw[Int.add_emod,ha,hb];simp
theorem qqt{c:List Sim}{p:Int}{st:Sim}{ms:List Mat}(h:VS c p st ms){k:Int}(hk:1≤k){s i g t:Nat}(hs:s<c.length)(hd:((c.getD s []).length:Int)=k+2)(ht:t<(qaH c s).length)
    (hi:i<(st.getD s 0).toNat) (hg:g<(SD c st (k-1)).toNat) :
    sN (fun b=>(qek c p st ms (k-1)).getD (((FC c st (fc c s t)).toNat+b)*(SD c st (k-1)).toNat+g) 0*(qek c p st ms k).getD (((FC c st s).toNat+i)*(SD c st k).toNat+((FC c st (fc c s t)).toNat+b)) 0) (st.getD (fc c s t) 0).toNat%p
      = sN (qmE c p st ms s i g t) (qaH c (fc c s t)).length%p:=by
  have hst:=h.2.2.1.2.1
  obtain⟨g1,g2,g3,g4,g5,g6,g7⟩:=qc7 h hs hd ht
  have hdf:((c.getD (fc c s t) []).length:Int)=(k-1)+2:=by omega
  have hck:∀ b,b<(st.getD (fc c s t) 0).toNat→(qek c p st ms k).getD (((FC c st s).toNat+i)*(SD c st k).toNat+((FC c st (fc c s t)).toNat+b)) 0=(mp c ms s t).2.2.2.1.getD (i*(mp c ms s t).2.2.1.toNat+b) 0*sgn p t%p:=fun b hb=>qpf h (by omega) hs hd ht hi hb
  by_cases he:∃ u,u<(qaH c (fc c s t)).length∧((FC c st (fc c (fc c s t) u)).toNat≤g∧g<(FC c st (fc c (fc c s t) u)).toNat+(st.getD (fc c (fc c s t) u) 0).toNat)
  · obtain⟨u,hu,hgu⟩:=he
    have huniq:∀ v,v<(qaH c (fc c s t)).length→((FC c st (fc c (fc c s t) v)).toNat≤g∧g<(FC c st (fc c (fc c s t) v)).toNat+(st.getD (fc c (fc c s t) v) 0).toNat)→v=u:=fun v hv hgv=>by
      obtain⟨_,_,w3,w4,_⟩:=qc7 h g3 hdf hv
      obtain⟨_,_,z3,z4,_⟩:=qc7 h g3 hdf hu
      obtain⟨e,_⟩:=qix (c:=c) (s:=fc c (fc c s t) v) (s':=fc c (fc c s t) u) (i:=g-(FC c st (fc c (fc c s t) v)).toNat) (i':=g-(FC c st (fc c (fc c s t) u)).toNat) hst (by omega) (by omega) (by omega) (by omega)
      exact qpl h.1 g3 hv hu e
    have hR:sN (qmE c p st ms s i g t) (qaH c (fc c s t)).length=qmE c p st ms s i g t u:=by
      classical
      have:sN (qmE c p st ms s i g t) (qaH c (fc c s t)).length=sN (fun v=>if v=u then qmE c p st ms s i g t u else 0) (qaH c (fc c s t)).length:=qf5 fun v hv=>by
        by_cases e:v=u
        · subst e;rw[if_pos rfl]
        · rw[if_neg e]
          unfold qmE
          exact if_neg fun hgv=>e (huniq v hv hgv)
      rw[this];exact qoQ hu rfl fun t _ e=>e
    rw[hR]
    unfold qmE
    rw[if_pos hgu,g2,qmB,← qqI]
    refine qpi fun b hb=>?_
    have hcb:=qpf h (k:=k-1) (by omega) g3 hdf hu (i:=b) (j:=g-(FC c st (fc c (fc c s t) u)).toNat) hb (by omega)
    rw[show(FC c st (fc c (fc c s t) u)).toNat+(g-(FC c st (fc c (fc c s t) u)).toNat)=g by omega] at hcb
    rw[hcb,hck b hb,qpW]
    rw[g2]
  · have h1:sN (qmE c p st ms s i g t) (qaH c (fc c s t)).length=0:=qex fun u hu=>by
      unfold qmE
      exact if_neg fun hgu=>he ⟨u,hu,hgu⟩
    rw[h1]
    rw[qex fun b hb=>by
      rw[qmZ h (k:=k-1) g3 hdf hb hg fun u hu hgu=>he ⟨u,hu,hgu⟩,Int.zero_mul]]
theorem qrf{c:List Sim}{p:Int}{st:Sim}{ms:List Mat}(h:VS c p st ms)(hw:qbX c ms=none){k:Int}(hk:1≤k){r g:Nat}(hr:r<(SD c st (k+1)).toNat)(hg:g<(SD c st (k-1)).toNat) :
    qaB (fun a=>(qek c p st ms (k-1)).getD (a*(SD c st (k-1)).toNat+g) 0) (fun a=>(qek c p st ms k).getD (r*(SD c st k).toNat+a) 0) (SD c st k).toNat%p=0:=by
  have hst:=h.2.2.1.2.1
  rw[qoH] at hr
  obtain⟨s,hs,hd,i,hi,rfl⟩:=qoz hst hr
  have hd:((c.getD s []).length:Int)=k+2:=by omega
  have hfl:=qaF (c:=c) (k:=s)
  rw[if_pos (by omega)] at hfl
  have h4:=h.1.len4 hs
  rw[qmB,qqe (L:=fun t=>(FC c st (fc c s t)).toNat) (n:=fun t=>(st.getD (fc c s t) 0).toNat) (N:=(qaH c s).length) (fun t ht=>by
      obtain⟨g1,g2,g3,g4,g5,g6,g7⟩:=qc7 h hs hd ht
      show(FC c st (fc c s t)).toNat+(st.getD (fc c s t) 0).toNat≤_
      have:=qjV hst (fc c s t)
      omega) (fun t u a ht hu h1 h2 h3 h4=>by
      obtain⟨_,_,w3,w4,_⟩:=qc7 h hs hd ht
      obtain⟨_,_,z3,z4,_⟩:=qc7 h hs hd hu
      obtain⟨e,_⟩:=qix (c:=c) (s:=fc c s t) (s':=fc c s u) (i:=a-(FC c st (fc c s t)).toNat) (i':=a-(FC c st (fc c s u)).toNat) hst (by omega) (by omega) (by omega) (by omega)
      exact qpl h.1 hs ht hu e) (fun a ha hno=>by
      rw[qmZ h hs hd hi ha hno,Int.mul_zero])]
  have e1:sN (fun t=>sN (fun b=>(qek c p st ms (k-1)).getD (((FC c st (fc c s t)).toNat+b)*(SD c st (k-1)).toNat+g) 0*(qek c p st ms k).getD (((FC c st s).toNat+i)*(SD c st k).toNat+((FC c st (fc c s t)).toNat+b)) 0) (st.getD (fc c s t) 0).toNat) (qaH c s).length%p
      = sN (fun t=>sN (qmE c p st ms s i g t) ((c.getD s []).length-1)) (qaH c s).length%p:=qpi fun t ht=>by
    rw[qqt h hk hs hd ht hi hg]
    obtain⟨g1,g2,g3,g4,g5,g6,g7⟩:=qc7 h hs hd ht
    have hfl2:=qaF (c:=c) (k:=fc c s t)
    rw[if_pos (by omega)] at hfl2
    rw[hfl2,show(c.getD (fc c s t) []).length=(c.getD s []).length-1 by omega]
  refine e1.trans ?_
  rw[hfl]
  have pr:∀ a b,a<b→b<(c.getD s []).length→(qmE c p st ms s i g a (b-1)+qmE c p st ms s i g b a)%p=0:=fun a b hab hb=>qp3 h hw hs (by omega) hi hab hb
  rcases(show(c.getD s []).length=3∨(c.getD s []).length=4 by omega) with e | e
  · rw[e] at pr ⊢
    have p1:=pr 0 1 (by omega) (by omega)
    have p2:=pr 0 2 (by omega) (by omega)
    have p3:=pr 1 2 (by omega) (by omega)
    simp only[show(1:Nat)-1=0 from rfl,show(2:Nat)-1=1 from rfl,show(3:Nat)-1=2 from rfl] at p1 p2 p3 ⊢
    refine Eq.trans (congrArg (·%p) ?_) (qqR (qqR p1 p2) p3)
    simp only[sN]
    omega
  · rw[e] at pr ⊢
    have p1:=pr 0 1 (by omega) (by omega)
    have p2:=pr 0 2 (by omega) (by omega)
    have p3:=pr 1 2 (by omega) (by omega)
    have p4:=pr 0 3 (by omega) (by omega)
    have p5:=pr 1 3 (by omega) (by omega)
    have p6:=pr 2 3 (by omega) (by omega)
    simp only[show(1:Nat)-1=0 from rfl,show(2:Nat)-1=1 from rfl,show(3:Nat)-1=2 from rfl,show(4:Nat)-1=3 from rfl] at p1 p2 p3 p4 p5 p6 ⊢
    refine Eq.trans (congrArg (·%p) ?_) (qqR (qqR (qqR p1 p2) (qqR p3 p4)) (qqR p5 p6))
    simp only[sN]
    omega
end VeT
open Go Go.Proofs Ve
namespace VeT
def mE(m:Mat):Ent:=qbJ m.2.2.2.1 m.2.2.1.toNat
theorem VM.pos{m:Mat}(h:VM m):2≤m.1:=h.1.1
theorem VM.num{m:Mat}(h:VM m):m.2.2.2.1.length=m.2.1.toNat*m.2.2.1.toNat:=by
 obtain⟨R,K,e,_,_,hl⟩:=h.nat
 rw[e] at hl ⊢
 simpa using hl
theorem qr0{m:Mat}(h:VM m){i j:Nat}(hi:i<m.2.1.toNat)(hj:j<m.2.2.1.toNat):0≤mE m i j∧mE m i j≤m.1-1:=qcu h.2.2.2.2 h.num i j hi hj
theorem qry{m:Mat}(h:VM m){i j:Nat}(hi:i<m.2.1.toNat)(hj:j<m.2.2.1.toNat):mE m i j%m.1=mE m i j:=by
 have:=qr0 h hi hj
 have:=h.pos
 exact Int.emod_eq_of_lt (by omega) (by omega)
theorem qmi{a b:Mat}(ha:VM a)(hb:VM b)(h1:a.1=b.1)(h2:a.2.1=b.2.1)(h3:a.2.2.1=b.2.2.1)(h:∀ i j,i<a.2.1.toNat→j<a.2.2.1.toNat→mE a i j=mE b i j):a=b:=by
 refine qef.2 ⟨h1,h2,h3,?_⟩
 have ea:=qfV ha.num
 have eb:=qfV hb.num
 rw[← h2,← h3] at eb
 rw[← ea,← eb]
 refine qaJ fun i j hi hj=>?_
 have:=h i j hi hj
 unfold mE at this
 rwa [← h3] at this
theorem qjf{a b:Mat}{i j:Nat}(hi:i<a.2.1.toNat)(hj:j<b.2.2.1.toNat):mE (qfE a b) i j=qaB (mE a i) (fun l=>mE b l j) a.2.2.1.toNat%a.1:=by
 show qbJ (qar (qig a.1 a.2.2.2.1 b.2.2.2.1 a.2.2.1.toNat b.2.2.1.toNat) b.2.2.1.toNat a.2.1.toNat) b.2.2.1.toNat i j=_
 rw[qaW hi hj];rfl
theorem qpm{p:Int}{n i j:Nat}(hi:i<n)(hj:j<n):mE (qb3 p n) i j=if i=j then 1 else 0:=by
 show qbJ (qar qbK n n) ((n:Int)).toNat i j=_
 rw[Int.toNat_natCast,qaW hi hj];rfl
theorem qp9{p:Int}{n i j:Nat}(hi:i<n)(hj:j<n):mE (qb3 p n) i j=if j=i then 1 else 0:=by
 rw[qpm hi hj]
 by_cases e:i=j
 ·rw[if_pos e,if_pos e.symm]
 ·rw[if_neg e,if_neg fun h=>e h.symm]
theorem qlC{p:Int}{c g h:Nat→Int}{n:Nat}(H:∀ i,i<n→c i%p=g i%p):qaB c h n%p=qaB g h n%p:=by
 rw[qaE,qaE (c:=g)];exact qbH H
theorem qi8{a b d:Mat}(ha:VM a)(hb:VM b)(hd:VM d)(h1:a.2.2.1=b.2.1)(h2:b.2.2.1=d.2.1)(e1:a.1=b.1):qfE (qfE a b) d=qfE a (qfE b d):=by
 refine qmi (qep (qep ha hb) hd) (qep ha (qep hb hd)) rfl rfl rfl fun i j hi hj=>?_
 have hi':i<a.2.1.toNat:=hi
 have hj':j<d.2.2.1.toNat:=hj
 rw[qjf (a:=qfE a b) (b:=d) hi hj',qjf (a:=a) (b:=qfE b d) hi' hj']
 show qaB (mE (qfE a b) i) (fun l=>mE d l j) b.2.2.1.toNat%a.1=qaB (mE a i) (fun l=>mE (qfE b d) l j) a.2.2.1.toNat%a.1
 have l1:qaB (mE (qfE a b) i) (fun l=>mE d l j) b.2.2.1.toNat%a.1=qaB (fun l=>qaB (mE a i) (fun m=>mE b m l) a.2.2.1.toNat) (fun l=>mE d l j) b.2.2.1.toNat%a.1 :=
  qlC fun l hl=>by rw[qjf hi' hl];exact Int.emod_emod_of_dvd _ (Int.dvd_refl _)
 have l2:qaB (mE a i) (fun l=>mE (qfE b d) l j) a.2.2.1.toNat%a.1=qaB (mE a i) (fun m=>qaB (mE b m) (fun l=>mE d l j) b.2.2.1.toNat) a.2.2.1.toNat%a.1 :=
  qbH fun m hm=>by rw[qjf (by rw[← h1];exact hm) hj',e1];exact Int.emod_emod_of_dvd _ (Int.dvd_refl _)
 rw[l1,l2]
 congr 1
 have:=qeH (y:=fun l=>mE d l j) (c:=mE a i) (A:=mE b) (W:=b.2.2.1.toNat) (R:=a.2.2.1.toNat)
 rw[qaE,this]
 exact qaw fun m hm=>⟨rfl,qaE⟩
theorem qnC{m:Mat}{p:Int}{n:Nat}(h:VM m)(hp:m.1=p)(hn:m.2.1=(n:Int)):qfE (qb3 p n) m=m:=by
 have h32:=h.2.1.2
 refine qmi (qep (qj4 (hp ▸ h.1) (by omega)) h) h hp.symm hn.symm rfl fun i j hi hj=>?_
 have hi':i<n:=by simpa [qfE,qb3] using hi
 have hj':j<m.2.2.1.toNat:=hj
 rw[qjf (a:=qb3 p n) (b:=m) (show i<((n:Int)).toNat by rw[Int.toNat_natCast];exact hi') hj']
 show qaB (mE (qb3 p n) i) (fun l=>mE m l j) ((n:Int)).toNat%p=_
 rw[Int.toNat_natCast,qaw (d:=fun l=>if l=i then 1 else 0) (h:=fun l=>mE m l j) fun l hl=>⟨qp9 hi' hl,rfl⟩,qcQ hi',← hp]
 exact qry h (by omega) hj'
theorem qon{m:Mat}{v:Sim}{n i:Nat}(hi:i<n):(qi4 m v n).getD i 0=qaB (mE m i) (fun l=>v.getD l 0) m.2.2.1.toNat%m.1:=by
 rw[List.getD_eq_getElem?_getD]
 unfold qi4
 rw[List.getElem?_map,List.getElem?_range hi];rfl
end VeT
open Go Go.Proofs Ve
namespace VeT
theorem qiv(c:List Sim)(hc:Sm (.sl (.sl (.int .i64))) c)(hv:VC c):Ret E n_Z160 [dC (c,()),dI 3] ⟨o_Z160,(c,())⟩:=by
 have hl:c.length≤1048576:=hc.1
 refine qaj ?_
 simp only[run_Z160,Z160.ev]
 refine Ev.start (p:=fun φ n=>Z160.l0 (mkR (run E (φ 0))) (φ 0) n (c,()) 3 0 []=_) 1 ?_ (fun _ _ _ h=>h)
 refine qan 1 (L:=fun φ n k o=>Z160.l0 (mkR (run E (φ 0))) (φ 0) n (c,()) 3 k o) (len:=c.length) (fun k=>c.take k) (fun _ _ _ _ _=>rfl) (fun k r hk ih=>?_) ?_
 ·simp only[Z160.l0_succ _ qae]
  rw[List.take_succ_eq_append_getElem hk] at ih
  have h4:=hv.len4 hk
  rw[qag hk] at h4
  have e4:w64 ((3:Int)+1)=4:=qaf (by omega) (by omega)
  refine qaC (decide_eq_true (by show(k:Int)<(c.length:Int);omega)) (qac (qak hk) (qaC (decide_eq_true (by rw[e4];show(c[k].length:Int)≤4;omega)) (qac (qak hk) (qaa (qc1 _ (by show c[k].length≤_;omega)) (qao (by simp only[List.length_take,List.length_singleton,decide_eq_true_eq];omega) ?_)))))
  rw[qad (by omega)];exact ih
 ·simp only[Z160.l0_succ _ qae]
  refine qaI (decide_eq_false (by show ¬ ((c.length:Int)<(c.length:Int));omega)) (qah ?_)
  rw[List.take_of_length_le (Nat.le_refl _)]
def zOf(p:Int)(st:Sim)(a:Arw):Mat:=(p,st.getD a.1.toNat 0,st.getD a.2.2.1.toNat 0,List.replicate ((st.getD a.1.toNat 0).toNat*(st.getD a.2.2.1.toNat 0).toNat) 0,())
theorem qgD{c:List Sim}{st:Sim}(hl:st.length=c.length)(hst:∀ x∈st,0≤x∧x≤3){k:Nat}(hk:k<c.length):∃ n:Nat,n≤3∧st.getD k 0=(n:Int)∧∃ h:k<st.length,st[k]=(n:Int):=by
 have h:k<st.length:=by omega
 obtain⟨h1,h2⟩:=hst _ (List.getElem_mem h)
 exact⟨(st[k]).toNat,by omega,by rw[qag h];omega,h,by omega⟩
theorem qeW{c:List Sim}(hs:Srt c)(hv:VC c){k i:Nat}(hk:k<c.length)(hi:i<(qaH c k).length):∃ f:Nat,f<c.length∧(qaH c k)[i]=(f:Int)∧(qaH c k).getD i 0=(f:Int):=by
 obtain⟨h1,h2,_⟩:=qbk hv hk hi
 have e:(qaH c k)[i]=((fc c k i:Nat):Int):=by rw[qak hi] at h1;exact Option.some.inj h1
 exact⟨fc c k i,h2,e,by rw[qag hi,e]⟩
end VeT
open Go Go.Proofs Ve
namespace VeT
def Fa(x s:Sim):Prop:=x≠[]∧x.Sublist s
def Cl(c:List Sim):Prop:=∀ y∈c,∀ x,Fa x y→x∈c
theorem qkB:∀ {x s:Sim},x.Sublist s→x≠s→∃ i,i<s.length∧x.Sublist (s.eraseIdx i)
 | _,_,.slnil,h=>absurd rfl h
 | x,_,.cons a h,_=>⟨0,by simp,by simpa using h⟩
 | _,_,.cons_cons (l₁:=l) (l₂:=l') a h,hn=>by
  obtain⟨i,hi,hs⟩:=qkB h fun e=>hn (by rw[e])
  exact⟨i+1,by simp;omega,by simpa using hs⟩
theorem qqP{x s:Sim}:Fa x s↔(x=s∧s≠[])∨∃ i,i<s.length∧Fa x (s.eraseIdx i):=by
 constructor
 ·rintro⟨h1,h2⟩
  by_cases e:x=s
  ·exact .inl ⟨e,e ▸ h1⟩
  ·obtain⟨i,hi,hs⟩:=qkB h2 e
   exact .inr ⟨i,hi,h1,hs⟩
 ·rintro(⟨rfl,h⟩ | ⟨i,hi,h1,h2⟩)
  ·exact⟨h,List.Sublist.refl _⟩
  ·exact⟨h1,h2.trans (List.eraseIdx_sublist _ _)⟩
theorem qjQ{x y z:Sim}(h1:Fa x y)(h2:Fa y z):Fa x z:=⟨h1.1,h1.2.trans h2.2⟩
theorem qpu{x s:Sim}(h:Fa x s):x.length≤s.length:=h.2.length_le
def qm1:Nat→Nat
 | 0=>1
 | n+1=>(n+2)*qm1 n+1
theorem qrR{o:List Sim}{s:Sim}(hs:Srt o)(hn:s∉o):∃ t,t≤o.length∧(∀ j (h:j<o.length),j<t→qdP o[j] s<0)∧(∀ h:t<o.length,¬ qdP o[t] s<0)∧Srt (o.take t++[s]++o.drop t):=by
 refine⟨bs o s,qrK,fun j h hj=>(qjK hs h).1 hj,fun h hlt=>?_,?_⟩
 ·have:=(qjK hs h).2 hlt;omega
 ·have pw:o.Pairwise (fun a b=>qdP a b<0):=List.pairwise_iff_getElem.2 fun i j hi hj hij=>hs i j hj hij
  have h1:∀ x∈o.take (bs o s),qdP x s<0:=fun x hx=>by
   obtain⟨i,hi,rfl⟩:=List.mem_iff_getElem.1 hx
   rw[List.length_take] at hi
   rw[List.getElem_take]
   exact(qjK hs (by omega)).1 (by omega)
  have h2:∀ x∈o.drop (bs o s),qdP s x<0:=fun x hx=>by
   obtain⟨i,hi,rfl⟩:=List.mem_iff_getElem.1 hx
   rw[List.length_drop] at hi
   rw[List.getElem_drop]
   have h3:¬ qdP o[bs o s+i] s<0:=fun h=>by
    have:=(qjK hs (show bs o s+i<o.length by omega)).2 h;omega
   have h4:qdP o[bs o s+i] s≠0:=fun h=>hn (by rw[← qdJ.1 h];exact List.getElem_mem _)
   have:=qmJ (a:=o[bs o s+i]) (b:=s)
   omega
  have pwn:(o.take (bs o s)++[s]++o.drop (bs o s)).Pairwise (fun a b=>qdP a b<0):=by
   rw[List.pairwise_append]
   refine⟨?_,pw.sublist (List.drop_sublist _ _),fun x hx y hy=>?_⟩
   ·rw[List.pairwise_append]
    refine⟨pw.sublist (List.take_sublist _ _),List.pairwise_singleton _ _,fun x hx y hy=>?_⟩
    rw[List.mem_singleton] at hy;subst hy;exact h1 x hx
   ·rcases List.mem_append.1 hx with hx | hx
    ·exact qgx (h1 x hx) (h2 y hy)
    ·rw[List.mem_singleton] at hx;subst hx;exact h2 y hy
  exact fun i j hj hij=>List.pairwise_iff_getElem.1 pwn i j (by omega) hj hij
theorem qpk{o:List Sim}{s x:Sim}{t:Nat}:x∈o.take t++[s]++o.drop t↔x∈o∨x=s:=by
 rw[List.mem_append,List.mem_append,List.mem_singleton]
 conv=>rhs;rw[← List.take_append_drop t o]
 rw[List.mem_append]
 constructor
 ·rintro((h | h) | h)
  ·exact .inl (.inl h)
  ·exact .inr h
  ·exact .inl (.inr h)
 ·rintro((h | h) | h)
  ·exact .inl (.inl h)
  ·exact .inr h
  ·exact .inl (.inr h)
theorem qnc(s:Sim)(o:List Sim)(N1:Nat→Nat)(hs1:s.length≤1048576)(ho:Sm (.sl (.sl (.int .i64))) o)(hl:o.length+1≤1048576)(hs:Srt o)(hn:s∉o) :
  ∃ t,t≤o.length∧Srt (o.take t++[s]++o.drop t)∧Ev fun φ=>Z158.l2 (mkR (run E (φ 0))) (φ 0) (φ 2) s 0 o=some ⟨o_Z158,((o.take t++[s]++o.drop t,()),())⟩:=by
 obtain⟨t,ht,h1,h2,h3⟩:=qrR hs hn
 refine⟨t,ht,h3,?_⟩
 have fin:Ev fun φ=>Z158.j3 (mkR (run E (φ 0))) (φ 0) (φ 2) s (t:Int) false o=some ⟨o_Z158,((o.take t++[s]++o.drop t,()),())⟩:=by
  simp only[Z158.j3_eq _ qae]
  refine qaI rfl (qao (by simp only[Bool.and_eq_true,decide_eq_true_eq];omega) ?_)
  simp only[Int.toNat_natCast,List.nil_append]
  refine qao (by simp only[List.length_nil,List.length_take,decide_eq_true_eq];omega) (qaa (qc1 s hs1) (qao (by simp only[List.length_take,List.length_singleton,decide_eq_true_eq];omega) (qao (by simp only[Bool.and_eq_true,decide_eq_true_eq];omega) (qao (by simp only[List.length_append,List.length_take,List.length_drop,List.length_singleton,decide_eq_true_eq];omega) qal))))
 have key:∀ d i,i+d=t→Ev fun φ=>Z158.l2 (mkR (run E (φ 0))) (φ 0) (φ 2) s (i:Int) o=some ⟨o_Z158,((o.take t++[s]++o.drop t,()),())⟩:=by
  intro d
  induction d with
  | zero =>
   intro i hi
   obtain rfl:i=t:=by omega
   refine Ev.round 2 (L:=fun φ n=>Z158.l2 (mkR (run E (φ 0))) (φ 0) n s (i:Int) o) ?_ (fun _ _ _=>rfl)
   simp only[Z158.l2_succ _ qae]
   by_cases hlt:i<o.length
   ·refine qaC (decide_eq_true (by omega)) (qac (qak hlt) (qaa (qcS _ s (qb2 ho hlt)) ?_))
    rw[qat (h2 hlt)]
    exact fin
   ·exact qaI (decide_eq_false (by omega)) fin
  | succ d ih =>
   intro i hi
   have hlt:i<o.length:=by omega
   refine Ev.round 2 (L:=fun φ n=>Z158.l2 (mkR (run E (φ 0))) (φ 0) n s (i:Int) o) ?_ (fun _ _ _=>rfl)
   simp only[Z158.l2_succ _ qae]
   refine qaC (decide_eq_true (by omega)) (qac (qak hlt) (qaa (qcS _ s (qb2 ho hlt)) ?_))
   rw[qaP (h1 i hlt (by omega))]
   simp only[Z158.j3_eq _ qae]
   refine qaC rfl ?_
   rw[qad (by omega)]
   exact ih (i+1) (by omega)
 exact key t 0 (by omega)
theorem qq8:∀(n:Nat) (s:Sim) (c:List Sim),s.length=n+1→n≤1048575→c.length+qm1 n≤1048576→Sm (.sl (.sl (.int .i64))) c→Srt c→Cl c →
    ∃ c',Ret E n_Z158 [dC (c,()),dL s] ⟨o_Z158,((c',()),())⟩∧Srt c'∧(∀ x,x∈c'↔x∈c∨Fa x s)∧c'.length≤c.length+qm1 n:=by
  intro n
  induction n with
  | zero =>
    intro s c hn hb hl hc hs hcl
    have hs1:s.length≤1048576:=by omega
    have hne:s≠[]:=fun e=>by rw[e] at hn;simp at hn
    by_cases hm:s∈c
    · refine⟨c,?_,hs,fun x=>⟨.inl,fun h=>h.elim id fun h=>hcl s hm x h⟩,by omega⟩
      refine qaj ?_
      simp only[run_Z158,Z158.ev]
      exact qaa (qb7 (c,()) s hc) (qaC (decide_eq_true (qba.2 hm)) qal)
    · obtain⟨t,ht,h3,h4⟩:=qnc s c id hs1 hc (by unfold qm1 at hl;omega) hs hm
      refine⟨_,?_,h3,fun x=>?_,by simp[qm1];omega⟩
      · refine qaj ?_
        simp only[run_Z158,Z158.ev]
        refine qaa (qb7 (c,()) s hc) (qaI (decide_eq_false fun h=>hm (qba.1 h)) ?_)
        have h4:Ev fun φ=>Z158.l2 (mkR (run E (φ 0))) (φ 0) (φ 0) s 0 c=some ⟨o_Z158,((c.take t++[s]++c.drop t,()),())⟩:=Ev.start (p:=fun φ n=>Z158.l2 (mkR (run E (φ 0))) (φ 0) n s 0 c=_) 2 h4 (fun _ _ _ h=>h)
        refine Ev.start (p:=fun φ n=>Z158.l0 (mkR (run E (φ 0))) (φ 0) n s 0 c=_) 1 ?_ (fun _ _ _ h=>h)
        refine Ev.round 1 (L:=fun φ n=>Z158.l0 (mkR (run E (φ 0))) (φ 0) n s 0 c) ?_ (fun _ _ _=>rfl)
        simp only[Z158.l0_succ _ qae,Z158.j1_eq _ qae]
        refine qaC (decide_eq_true (by omega)) (qaI (decide_eq_false (by omega)) h4)
      · rw[qpk,qqP]
        constructor
        · rintro(h | h)
          · exact .inl h
          · exact .inr (.inl ⟨h,hne⟩)
        · rintro(h | ⟨h,_⟩ | ⟨i,hi,h1,h2⟩)
          · exact .inl h
          · exact .inr h
          · have:=h2.length_le
            rw[List.length_eraseIdx,if_pos hi] at this
            exact absurd (List.length_eq_zero_iff.1 (by omega)) h1
  | succ n ih =>
    intro s c hn hb hl hc hs hcl
    have hs1:s.length≤1048576:=by omega
    have hne:s≠[]:=fun e=>by rw[e] at hn;simp at hn
    by_cases hm:s∈c
    · refine⟨c,?_,hs,fun x=>⟨.inl,fun h=>h.elim id fun h=>hcl s hm x h⟩,by omega⟩
      refine qaj ?_
      simp only[run_Z158,Z158.ev]
      exact qaa (qb7 (c,()) s hc) (qaC (decide_eq_true (qba.2 hm)) qal)
    · have hadd:qm1 (n+1)=(n+1+1)*qm1 n+1:=rfl
      -- the qcp
      have loop:∀ d i (o:List Sim),i+d=s.length→Sm (.sl (.sl (.int .i64))) o→Srt o→Cl o→(∀ x,x∈o↔x∈c∨∃ j,j<i∧Fa x (s.eraseIdx j))→o.length≤c.length+i*qm1 n→s.length*qm1 n+1+c.length≤1048576 →
          ∃ c',(Ev fun φ=>Z158.l0 (mkR (run E (φ 0))) (φ 0) (φ 1) s (i:Int) o=some ⟨o_Z158,((c',()),())⟩)∧Srt c'∧(∀ x,x∈c'↔x∈c∨Fa x s)∧c'.length≤c.length+s.length*qm1 n+1:=by
        intro d
        induction d with
        | zero =>
          intro i o hi ho1 ho2 ho3 ho4 ho5 hbig
          obtain rfl:i=s.length:=by omega
          have hn2:s∉o:=fun h=>by
            rcases(ho4 s).1 h with h | ⟨j,hj,h⟩
            · exact hm h
            · have:=qpu h
              rw[List.length_eraseIdx,if_pos hj] at this
              omega
          obtain⟨t,ht,h3,h4⟩:=qnc s o id hs1 ho1 (by omega) ho2 hn2
          refine⟨_,?_,h3,fun x=>?_,by simp;omega⟩
          · have h4:Ev fun φ=>Z158.l2 (mkR (run E (φ 0))) (φ 0) (φ 0) s 0 o=some ⟨o_Z158,((o.take t++[s]++o.drop t,()),())⟩:=Ev.start (p:=fun φ n=>Z158.l2 (mkR (run E (φ 0))) (φ 0) n s 0 o=_) 2 h4 (fun _ _ _ h=>h)
            refine Ev.round 1 (L:=fun φ n=>Z158.l0 (mkR (run E (φ 0))) (φ 0) n s (s.length:Int) o) ?_ (fun _ _ _=>rfl)
            simp only[Z158.l0_succ _ qae,Z158.j1_eq _ qae]
            exact qaI (decide_eq_false (by omega)) (qaI rfl h4)
          · rw[qpk,ho4,qqP]
            constructor
            · rintro((h | ⟨j,hj,h⟩) | h)
              · exact .inl h
              · exact .inr (.inr ⟨j,hj,h⟩)
              · exact .inr (.inl ⟨h,hne⟩)
            · rintro(h | ⟨h,_⟩ | ⟨j,hj,h⟩)
              · exact .inl (.inl h)
              · exact .inr h
              · exact .inl (.inr ⟨j,hj,h⟩)
        | succ d ihd =>
          intro i o hi ho1 ho2 ho3 ho4 ho5 hbig
          have hil:i<s.length:=by omega
          have hel:(s.eraseIdx i).length=n+1:=by rw[List.length_eraseIdx,if_pos hil];omega
          have hmul:(i+1)*qm1 n≤s.length*qm1 n:=Nat.mul_le_mul_right _ (by omega)
          rw[Nat.add_mul,Nat.one_mul] at hmul
          obtain⟨o',hr,hs',hm',hl'⟩:=ih (s.eraseIdx i) o hel (by omega) (by omega) ho1 ho2 ho3
          obtain⟨c',hc1,hc2⟩:=ihd (i+1) o' (by omega) ⟨by show o'.length≤1048576;omega,fun x hx=>by
              rcases(hm' x).1 hx with h | h
              · exact ho1.2 x h
              · have:=qpu h
                exact⟨by show x.length≤1048576;omega,fun _ _=>trivial⟩⟩ hs' (fun y hy x hx=>(hm' x).2 (by
              rcases(hm' y).1 hy with h | h
              · exact .inl (ho3 y h x hx)
              · exact .inr (qjQ hx h))) (fun x=>by
              rw[hm',ho4]
              constructor
              · rintro((h | ⟨j,hj,h⟩) | h)
                · exact .inl h
                · exact .inr ⟨j,by omega,h⟩
                · exact .inr ⟨i,by omega,h⟩
              · rintro(h | ⟨j,hj,h⟩)
                · exact .inl (.inl h)
                · by_cases e:j=i
                  · subst e;exact .inr h
                  · exact .inl (.inr ⟨j,by omega,h⟩)) (by rw[Nat.add_mul,Nat.one_mul];omega) hbig
          refine⟨c',?_,hc2⟩
          refine Ev.round 1 (L:=fun φ n=>Z158.l0 (mkR (run E (φ 0))) (φ 0) n s (i:Int) o) ?_ (fun _ _ _=>rfl)
          simp only[Z158.l0_succ _ qae,Z158.j1_eq _ qae]
          refine qaC (decide_eq_true (by omega)) (qaC (decide_eq_true (by omega)) (qaa (qdO s i hil hs1) (qaa hr ?_)))
          rw[qad (by omega)]
          exact hc1
      have hbig:s.length*qm1 n+1+c.length≤1048576:=by rw[hn];rw[hadd] at hl;omega
      obtain⟨c',h1,h2,h3,h4⟩:=loop s.length 0 c (by omega) hc hs hcl (fun x=>⟨.inl,fun h=>h.elim id fun⟨j,hj,_⟩=>by omega⟩) (by omega) hbig
      refine⟨c',?_,h2,h3,?_⟩
      · refine qaj ?_
        simp only[run_Z158,Z158.ev]
        refine qaa (qb7 (c,()) s hc) (qaI (decide_eq_false fun h=>hm (qba.1 h)) ?_)
        exact Ev.start (p:=fun φ n=>Z158.l0 (mkR (run E (φ 0))) (φ 0) n s 0 c=_) 1 h1 (fun _ _ _ h=>h)
      · rw[hadd,← hn];omega
theorem qmC(l:List Sim)(hl:l.length≤1024)(hx:∀ s∈l,1≤s.length∧s.length≤4) :
    ∃ c',Ret E n_Z150 [dLL l] ⟨o_Z150,(c',())⟩∧Srt c'∧(∀ x,x∈c'↔∃ s∈l,Fa x s)∧c'.length≤41*l.length:=by
  have loop:∀ d i (o:List Sim),i+d=l.length→Srt o→(∀ x,x∈o↔∃ s∈l.take i,Fa x s)→o.length≤41*i →
      ∃ c',(Ev fun φ=>Z150.l0 (mkR (run E (φ 0))) (φ 0) (φ 1) l (i:Int) o=some ⟨o_Z150,(c',())⟩)∧Srt c'∧(∀ x,x∈c'↔∃ s∈l,Fa x s)∧c'.length≤41*l.length:=by
    intro d
    induction d with
    | zero =>
      intro i o hi h1 h2 h3
      obtain rfl:i=l.length:=by omega
      rw[List.take_length] at h2
      refine⟨o,?_,h1,h2,h3⟩
      refine Ev.round 1 (L:=fun φ n=>Z150.l0 (mkR (run E (φ 0))) (φ 0) n l (l.length:Int) o) ?_ (fun _ _ _=>rfl)
      simp only[Z150.l0_succ _ qae]
      exact qaI (decide_eq_false (by omega)) qal
    | succ d ih =>
      intro i o hi h1 h2 h3
      have hil:i<l.length:=by omega
      obtain⟨g1,g2⟩:=hx _ (List.getElem_mem hil)
      have hadd:qm1 (l[i].length-1)≤41:=by
        have:l[i].length-1=0∨l[i].length-1=1∨l[i].length-1=2∨l[i].length-1=3:=by omega
        rcases this with e | e | e | e<;>rw[e]<;>decide
      have hlen:∀ x∈o,x.length≤4:=fun x hx'=>by
        obtain⟨s,hs,hf⟩:=(h2 x).1 hx'
        have:=(hx s (List.mem_of_mem_take hs)).2
        have:=qpu hf
        omega
      obtain⟨o',hr,hs',hm',hl'⟩:=qq8 (l[i].length-1) l[i] o (by omega) (by omega) (by omega) ⟨by show o.length≤1048576;omega,fun x hx'=>by have:=hlen x hx';exact⟨by show x.length≤1048576;omega,fun _ _=>trivial⟩⟩ h1 (fun y hy x hxy=>by
        obtain⟨s,hs,hf⟩:=(h2 y).1 hy
        exact(h2 x).2 ⟨s,hs,qjQ hxy hf⟩)
      obtain⟨c',hc1,hc2⟩:=ih (i+1) o' (by omega) hs' (fun x=>by
        rw[hm',h2,List.take_succ_eq_append_getElem hil]
        constructor
        · rintro(⟨s,hs,h⟩ | h)
          · exact⟨s,List.mem_append.2 (.inl hs),h⟩
          · exact⟨_,List.mem_append.2 (.inr (List.mem_singleton.2 rfl)),h⟩
        · rintro⟨s,hs,h⟩
          rcases List.mem_append.1 hs with hs | hs
          · exact .inl ⟨s,hs,h⟩
          · rw[List.mem_singleton] at hs;subst hs;exact .inr h) (by omega)
      refine⟨c',?_,hc2⟩
      refine Ev.round 1 (L:=fun φ n=>Z150.l0 (mkR (run E (φ 0))) (φ 0) n l (i:Int) o) ?_ (fun _ _ _=>rfl)
      simp only[Z150.l0_succ _ qae]
      refine qaC (decide_eq_true (by omega)) (qac (qak hil) (qaa hr ?_))
      rw[qad (by omega)]
      exact hc1
  obtain⟨c',h1,h2⟩:=loop l.length 0 [] (by omega) (fun i j hj=>by simp at hj) (fun x=>by simp) (by simp)
  refine⟨c',?_,h2⟩
  refine qaj ?_
  simp only[run_Z150,Z150.ev]
  exact Ev.start (p:=fun φ n=>Z150.l0 (mkR (run E (φ 0))) (φ 0) n l 0 []=_) 1 h1 (fun _ _ _ h=>h)
end VeT
open Go Go.Proofs Ve
namespace VeT
def EvQ(A:(Nat→Nat)→Option Dv)(out:Ty)(Q:out.T→Prop):Prop:=∃ x,(Ev fun φ=>A φ=some ⟨out,x⟩)∧Q x
def qi1(f:Nat)(args:List Dv)(out:Ty)(Q:out.T→Prop):Prop:=∃ x,Ret E f args ⟨out,x⟩∧Q x
theorem qbZ{f:Nat}{args:List Dv}{out:Ty}{Q:out.T→Prop}(h:EvQ (fun φ=>run E (φ 0+1) f args) out Q):qi1 f args out Q:=let ⟨x,h1,h2⟩:=h;⟨x,qaj h1,h2⟩
theorem qaU{out:Ty}{Q:out.T→Prop}{x:out.T}(h:Q x):EvQ (fun _=>some ⟨out,x⟩) out Q:=⟨x,qal,h⟩
theorem qaD{f:Nat}{o:Ty}{args:List Dv}{x:o.T}{out:Ty}{Q:out.T→Prop}{K:(Nat→Nat)→o.T→Option Dv}(h:Ret E f args ⟨o,x⟩)(k:EvQ (fun φ=>K φ x) out Q) :
  EvQ (fun φ=>(Option.bind (qdj (mkR (run E (φ 0))) f o args) fun y=>K φ y)) out Q:=let ⟨z,h1,h2⟩:=k;⟨z,qaa h h1,h2⟩
theorem qbw{f:Nat}{o:Ty}{args:List Dv}{P:o.T→Prop}{out:Ty}{Q:out.T→Prop}{K:(Nat→Nat)→o.T→Option Dv}(h:qi1 f args o P)(k:∀ x,P x→EvQ (fun φ=>K φ x) out Q) :
  EvQ (fun φ=>(Option.bind (qdj (mkR (run E (φ 0))) f o args) fun y=>K φ y)) out Q:=let ⟨x,h1,h2⟩:=h;qaD h1 (k x h2)
theorem qa9{α:Type}{c:Option α}{x:α}{K:(Nat→Nat)→α→Option Dv}{out:Ty}{Q:out.T→Prop}(h:c=some x)(k:EvQ (fun φ=>K φ x) out Q) :
  EvQ (fun φ=>(Option.bind c fun y=>K φ y)) out Q:=let ⟨z,h1,h2⟩:=k;⟨z,qac h h1,h2⟩
theorem qaQ{b:Bool}{K:(Nat→Nat)→Unit→Option Dv}{out:Ty}{Q:out.T→Prop}(h:b=true)(k:EvQ (fun φ=>K φ ()) out Q) :
  EvQ (fun φ=>(Option.bind (chk b) fun y=>K φ y)) out Q:=let ⟨z,h1,h2⟩:=k;⟨z,qao h h1,h2⟩
theorem qlc{b:Bool}{A B:(Nat→Nat)→Option Dv}{out:Ty}{Q:out.T→Prop}(h:b=true)(k:EvQ A out Q):EvQ (fun φ=>bif b then A φ else B φ) out Q:=by subst h;exact k
theorem qiG{b:Bool}{A B:(Nat→Nat)→Option Dv}{out:Ty}{Q:out.T→Prop}(h:b=false)(k:EvQ B out Q):EvQ (fun φ=>bif b then A φ else B φ) out Q:=by subst h;exact k
theorem qg3{b:Bool}{A B:(Nat→Nat)→Option Dv}{out:Ty}{Q:out.T→Prop}(t:b=true→EvQ A out Q)(f:b=false→EvQ B out Q):EvQ (fun φ=>bif b then A φ else B φ) out Q:=by
 cases b
 ·exact f rfl
 ·exact t rfl
theorem qcJ{p:Prop}[Decidable p]{A B:(Nat→Nat)→Option Dv}{out:Ty}{Q:out.T→Prop}(t:p→EvQ A out Q)(f:¬ p→EvQ B out Q):EvQ (fun φ=>bif decide p then A φ else B φ) out Q :=
 qg3 (fun h=>t (of_decide_eq_true h)) fun h=>f (of_decide_eq_false h)
theorem EvQ.round(l:Nat){L:(Nat→Nat)→Nat→Option Dv}{out:Ty}{Q:out.T→Prop}(h:EvQ (fun φ=>L φ (φ l+1)) out Q)(hind:∀ φ n n',L (fup φ l n') n=L φ n):EvQ (fun φ=>L φ (φ l)) out Q :=
 let ⟨z,h1,h2⟩:=h;⟨z,Ev.round l h1 hind,h2⟩
theorem EvQ.start(l:Nat){L:(Nat→Nat)→Nat→Option Dv}{out:Ty}{Q:out.T→Prop}(h:EvQ (fun φ=>L φ (φ l)) out Q)(hind:∀ φ n n',L (fup φ l n') n=L φ n):EvQ (fun φ=>L φ (φ 0)) out Q :=
 let ⟨z,h1,h2⟩:=h;⟨z,Ev.start (p:=fun φ n=>L φ n=_) l h1 (fun φ n n' h=>by rw[hind] at h;exact h),h2⟩
theorem EvQ.loop(l:Nat){σ:Type}{L:(Nat→Nat)→Nat→σ→Option Dv}{out:Ty}{Q:out.T→Prop}(hind:∀ φ n n' s,L (fup φ l n') n s=L φ n s)(Inv:σ→Prop)(μ:σ→Nat)
  (step:∀ s,Inv s→(∀ s',Inv s'→μ s'<μ s→EvQ (fun φ=>L φ (φ l) s') out Q)→EvQ (fun φ=>L φ (φ l+1) s) out Q):∀ s,Inv s→EvQ (fun φ=>L φ (φ l) s) out Q:=by
 have key:∀ d s,μ s<d→Inv s→EvQ (fun φ=>L φ (φ l) s) out Q:=by
  intro d
  induction d with
  | zero=>intro s h;omega
  | succ d ih =>
   intro s hd hi
   exact EvQ.round l (L:=fun φ n=>L φ n s) (step s hi fun s' hi' hl=>ih s' (by omega) hi') (fun φ n n'=>hind φ n n' s)
 exact fun s=>key _ s (Nat.lt_succ_self _)
abbrev Src:=List Int×Int×Int×Unit
abbrev cR:Ty:=.cons (.sl (.int .u8)) (.cons (.int .i64) (.cons (.int .u64) .nil))
abbrev dR(s:Src):Dv:=⟨.ptr cR,s⟩
abbrev dB(s:List Int):Dv:=⟨.sl (.int .u8),s⟩
def SO(n:Nat)(s:Src):Prop:=(∀ b∈s.1,0≤b∧b≤255)∧0≤s.2.1∧s.2.1≤(n:Int)
theorem SO.le{n m:Nat}{s:Src}(h:SO n s)(hm:n≤m):SO m s:=⟨h.1,h.2.1,by have:=h.2.2;omega⟩
theorem qiC(c:List Int):Ret E n_Z125 [dB c] ⟨o_Z125,((c,0,0,()),())⟩:=by
 refine qaj ?_
 simp only[run_Z125,Z125.ev]
 exact Ev.of fun _=>trivial
theorem qqz(x:BitVec (IntKind.bits .u64)):0≤w64 (IntKind.wrap .u64 (BitVec.toNat (x &&& BitVec.ofInt (IntKind.bits .u64) (255:Int))))∧w64 (IntKind.wrap .u64 (BitVec.toNat (x &&& BitVec.ofInt (IntKind.bits .u64) (255:Int))))≤255:=by
 have h:(x &&& BitVec.ofInt (IntKind.bits .u64) (255:Int)).toNat≤255:=by
  rw[BitVec.toNat_and]
  have:(BitVec.ofInt (IntKind.bits .u64) (255:Int)).toNat=255:=by decide
  rw[this]
  exact Nat.and_le_right
 rw[qlv (by omega) (by omega),qaf (by omega) (by omega)]
 omega
theorem qm2(n:Nat)(s:Src)(hn:n≤1152921504606846976)(hs:SO n s):qi1 n_Z132 [dR s] o_Z132 fun(r:Int×Src×Unit)=>0≤r.1∧r.1≤255∧SO (n+1) r.2.1:=by
 obtain⟨c,a,g,⟨⟩⟩:=s
 obtain⟨h1,h2,h3⟩:=hs
 simp only at h1 h2 h3
 have ha:w64 (a+1)=a+1:=qaf (by omega) (by omega)
 have hj:∀ b:Int,0≤b→b≤255→EvQ (fun φ=>Z132.j0 (mkR (run E (φ 0))) (φ 0) b c a g) o_Z132 fun(r:Int×Src×Unit)=>0≤r.1∧r.1≤255∧SO (n+1) r.2.1:=by
  intro b hb1 hb2
  simp only[Z132.j0_eq _ qae,ha]
  refine qcJ (fun h=>qaU ⟨hb1,hb2,h1,?_,?_⟩) fun h=>?_
  ·show 0≤a+1;omega
  ·show a+1≤((n+1:Nat):Int);omega
  ·refine qaQ (by decide) (qaU ⟨?_,?_,h1,?_,?_⟩)
   ·exact(qqz _).1
   ·exact(qqz _).2
   ·show 0≤a+1;omega
   ·show a+1≤((n+1:Nat):Int);omega
 refine qbZ ?_
 simp only[run_Z132,Z132.ev]
 refine qcJ (fun h=>?_) fun h=>hj 0 (by omega) (by omega)
 obtain⟨k,rfl⟩:∃ k:Nat,a=(k:Int):=⟨a.toNat,by omega⟩
 have hk:k<c.length:=by omega
 have hb:=h1 _ (List.getElem_mem hk)
 refine qa9 (qak hk) ?_
 have e:w64 c[k]=c[k]:=qaf (by omega) (by omega)
 have:=hj _ hb.1 hb.2
 rw[← e] at this
 exact this
theorem qbc(n:Nat)(s:Src)(k:Int)(hn:n≤1000000000000)(hs:SO n s):qi1 n_Z134 [dR s,dI k] o_Z134 fun(r:Int×Src×Unit)=>0≤r.1∧(r.1<k∨r.1=0)∧r.1≤65535∧SO (n+2) r.2.1:=by
 obtain⟨c,a,g,⟨⟩⟩:=s
 refine qbZ ?_
 simp only[run_Z134,Z134.ev]
 refine qcJ (fun h=>qaU ⟨Int.le_refl _,.inr rfl,(by show(0:Int)≤65535;decide),hs.le (by omega)⟩) fun h=>?_
 have hk:0<k:=by omega
 have tm:∀ x:Int,0≤x→0≤Int.tmod x k∧Int.tmod x k<k∧Int.tmod x k≤x:=fun x hx=>by
  rw[Int.tmod_eq_emod_of_nonneg hx]
  have h1:=Int.mul_ediv_add_emod x k
  have h2:0≤k*(x / k):=Int.mul_nonneg (by omega) (Int.ediv_nonneg hx (by omega))
  generalize k*(x / k)=y at h1 h2
  exact⟨Int.emod_nonneg _ (by omega),Int.emod_lt_of_pos _ hk,by omega⟩
 have hne:(k != 0)=true:=by simp;omega
 refine qbw (qm2 n _ (by omega) hs) fun(r:Int×Src×Unit) ⟨r1,r2,r3⟩=>?_
 refine qcJ (fun h2=>?_) fun h2=>?_
 ·refine qbw (qm2 (n+1) _ (by omega) r3) fun(q:Int×Src×Unit) ⟨q1,q2,q3⟩=>?_
  refine qaQ hne (qaU ?_)
  have e1:w64 (r.1*256)=r.1*256:=qaf (by omega) (by omega)
  have e2:w64 (r.1*256+q.1)=r.1*256+q.1:=qaf (by omega) (by omega)
  have:=tm (r.1*256+q.1) (by omega)
  refine⟨?_,.inl ?_,?_,q3⟩
  ·show 0≤Int.tmod _ _;rw[e1,e2];exact this.1
  ·show Int.tmod _ _<_;rw[e1,e2];exact this.2.1
  ·show Int.tmod _ _≤_;rw[e1,e2];omega
 ·have:=tm r.1 r1
  exact qaQ hne (qaU ⟨this.1,.inl this.2.1,(by show Int.tmod _ _≤_;omega),r3.le (by omega)⟩)
theorem qrc(n:Nat)(s:Src)(k:Int)(hn:n≤1000000000000)(hs:SO n s):qi1 n_Z133 [dR s,dI k] o_Z133 fun(r:Bool×Src×Unit)=>SO (n+2) r.2.1:=by
 obtain⟨c,a,g,⟨⟩⟩:=s
 refine qbZ ?_
 simp only[run_Z133,Z133.ev]
 exact qbw (qbc n _ k hn hs) fun(r:Int×Src×Unit) ⟨r1,r2,r3,r4⟩=>qaU r4
theorem qoO(n:Nat)(s:Src)(l:List Int)(hl:l≠[])(hn:n≤1000000000000)(hs:SO n s):qi1 n_Z131 [dR s,dL l] o_Z131 fun(r:Int×Src×Unit)=>r.1∈l∧SO (n+2) r.2.1:=by
 obtain⟨c,a,g,⟨⟩⟩:=s
 have:0<l.length:=List.length_pos_iff.2 hl
 refine qbZ ?_
 simp only[run_Z131,Z131.ev]
 refine qbw (qbc n _ _ hn hs) fun(r:Int×Src×Unit) ⟨r1,r2,r3,r4⟩=>?_
 obtain⟨k,hk⟩:∃ k:Nat,r.1=(k:Int):=⟨r.1.toNat,by omega⟩
 have hkl:k<l.length:=by omega
 rw[hk]
 exact qa9 (qak hkl) (qaU ⟨List.getElem_mem hkl,r4⟩)
end VeT
open Go Go.Proofs Ve
namespace VeT
theorem qeR{c:List Sim}(hv:VC c):(qb4 c c.length).length≤192:=by
 have h:=hv.plc (k:=c.length) (Nat.le_refl _)
 have:=hv.1
 unfold plc at h
 omega
theorem qgC(c:List Sim)(p:Int)(st:Sim)(hc:Sm (.sl (.sl (.int .i64))) c)(hv:VC c)(hl:st.length=c.length)(hst:∀ x∈st,0≤x∧x≤3) :
  Ret E n_Z171 [dC (c,()),dI p,dL st] ⟨o_Z171,(c,p,st,(qb4 c c.length).map (zOf p st),())⟩:=by
 have hs:=hv.srt
 have h192:=qeR hv
 have h48:=hv.1
 refine qaj ?_
 simp only[run_Z171,Z171.ev]
 refine qaa (qiv c hc hv) (qaa (qc1 st (by omega)) ?_)
 refine Ev.start (p:=fun φ n=>Z171.l0 (mkR (run E (φ 0))) (φ 0) n (c,()) p st 0 0 p [] c st=_) 1 ?_ (fun _ _ _ h=>h)
 refine qan 1 (L:=fun φ n k o=>Z171.l0 (mkR (run E (φ 0))) (φ 0) n (c,()) p st k 0 p o c st) (len:=c.length) (fun k=>(qb4 c k).map (zOf p st)) (fun _ _ _ _ _=>rfl) (fun k r hk ih=>?_) ?_
 ·simp only[Z171.l0_succ _ qae]
  have hpl:=hv.plc (k:=k) (by omega)
  unfold plc at hpl
  have hf4:=hv.fIdx4 hk
  refine qaC (decide_eq_true (by show(k:Int)<(c.length:Int);omega)) (qaa (qcG c k hk hc) ?_)
  refine Ev.start (p:=fun φ n=>Z171.l1 (mkR (run E (φ 0))) (φ 0) (φ 1) n (c,()) p st (k:Int) (qaH c k) 0 0 p ((qb4 c k).map (zOf p st)) c st=_) 2 ?_ (fun _ _ _ h=>h)
  have:=qan 2 (L:=fun φ n j o=>Z171.l1 (mkR (run E (φ 0))) (φ 0) (φ 1) n (c,()) p st (k:Int) (qaH c k) j 0 p o c st) (len:=(qaH c k).length) (fun j=>(qb4 c k++qmD c k j).map (zOf p st)) (r:=r) (fun _ _ _ _ _=>rfl) (fun j r hj ih=>?_) ?_
  ·simpa [qmD] using this
  ·simp only[Z171.l1_succ _ qae]
   obtain⟨f,f1,f2,f3⟩:=qeW hs hv hk hj
   obtain⟨a,ha,ea,hka,eka⟩:=qgD hl hst hk
   obtain⟨b,hb,eb,hfb,efb⟩:=qgD hl hst f1
   have hz:=qb9 p a b (by omega) (by omega)
   have e2:zOf p st ((k:Int),(j:Int),(qaH c k).getD j 0,())=(p,(a:Int),(b:Int),List.replicate (a*b) 0,()):=by
    unfold zOf
    simp only[Int.toNat_natCast,ea,eb,f3]
   have erow:qmD c k (j+1)=qmD c k j++[((k:Int),(j:Int),(qaH c k).getD j 0,())]:=by
    unfold qmD
    rw[List.range_succ,List.map_append,List.map_singleton]
   rw[erow,← List.append_assoc,List.map_append (l₂:=[_]),List.map_singleton,e2] at ih
   refine qaC (decide_eq_true (by omega)) (qac (qak hka) (qac (qak hj) ?_))
   simp only[eka,f2]
   refine qac (qak hfb) ?_
   simp only[efb]
   refine qaa hz (qao (by simp only[List.length_map,List.length_append,qdY,List.length_singleton,decide_eq_true_eq];omega) ?_)
   rw[qad (by omega)];exact ih
  ·simp only[Z171.l1_succ _ qae]
   refine qaI (decide_eq_false (by omega)) ?_
   rw[qad (by omega)]
   have:qb4 c (k+1)=qb4 c k++qmD c k (qaH c k).length:=rfl
   rw[this] at ih
   exact ih
 ·simp only[Z171.l0_succ _ qae]
  exact qaI (decide_eq_false (by show ¬ ((c.length:Int)<(c.length:Int));omega)) qal
theorem qeA(c:List Sim)(p:Int)(n:Nat)(hn:n≤3)(hc:Sm (.sl (.sl (.int .i64))) c)(hv:VC c) :
  Ret E n_Z163 [dC (c,()),dI p,dI (n:Int)] ⟨o_Z163,(c,p,List.replicate c.length (n:Int),List.replicate (qb4 c c.length).length (qb3 p n),())⟩:=by
 have h192:=qeR hv
 have h48:=hv.1
 refine qaj ?_
 simp only[run_Z163,Z163.ev]
 refine Ev.start (p:=fun φ q=>Z163.l0 (mkR (run E (φ 0))) (φ 0) q (c,()) p (n:Int) 0 0 []=_) 1 ?_ (fun _ _ _ h=>h)
 refine qan 1 (L:=fun φ q k o=>Z163.l0 (mkR (run E (φ 0))) (φ 0) q (c,()) p (n:Int) k 0 o) (len:=c.length) (fun k=>List.replicate k (n:Int)) (fun _ _ _ _ _=>rfl) (fun k r hk ih=>?_) ?_
 ·simp only[Z163.l0_succ _ qae]
  rw[List.replicate_succ'] at ih
  refine qaC (decide_eq_true (by show(k:Int)<(c.length:Int);omega)) (qao (by simp only[List.length_replicate,List.length_singleton,decide_eq_true_eq];omega) ?_)
  rw[qad (by omega)];exact ih
 ·simp only[Z163.l0_succ _ qae]
  have hnew:=qgC c p (List.replicate c.length (n:Int)) hc hv (by simp) fun x hx=>by
   rw[List.eq_of_mem_replicate hx];omega
  refine qaI (decide_eq_false (by show ¬ ((c.length:Int)<(c.length:Int));omega)) (qaa hnew ?_)
  obtain⟨M,hM⟩:∃ M,M=(qb4 c c.length).map (zOf p (List.replicate c.length (n:Int))):=⟨_,rfl⟩
  rw[← hM]
  have hMl:M.length=(qb4 c c.length).length:=by rw[hM,List.length_map]
  rw[← hMl] at h192 ⊢
  refine Ev.start (p:=fun φ q=>Z163.l1 (mkR (run E (φ 0))) (φ 0) q p (n:Int) 0 0 p M c (List.replicate c.length (n:Int))=_) 1 ?_ (fun _ _ _ h=>h)
  have:=qan 1 (L:=fun φ q k o=>Z163.l1 (mkR (run E (φ 0))) (φ 0) q p (n:Int) k 0 p o c (List.replicate c.length (n:Int))) (len:=M.length) (fun k=>List.replicate k (qb3 p n)++M.drop k) (r:=some ⟨o_Z163,(c,p,List.replicate c.length (n:Int),List.replicate M.length (qb3 p n),())⟩) (fun _ _ _ _ _=>rfl) (fun k r hk ih=>?_) ?_
  ·simpa using this
  ·simp only[Z163.l1_succ _ qae]
   have hlen:(List.replicate k (qb3 p n)++M.drop k).length=M.length:=by simp;omega
   have hset:(List.replicate k (qb3 p n)++M.drop k).set k (qb3 p n)=List.replicate (k+1) (qb3 p n)++M.drop (k+1):=by
    rw[List.set_append_right _ _ (by simp),List.length_replicate,Nat.sub_self,List.drop_eq_getElem_cons hk,List.set_cons_zero,List.replicate_succ',List.append_assoc,List.singleton_append]
   refine qaC (decide_eq_true (by rw[hlen];omega)) (qaa (qfh p n (by omega)) (qao (by simp only[hlen,Bool.and_eq_true,decide_eq_true_eq];omega) ?_))
   rw[qad (by omega),Int.toNat_natCast]
   have e:((qb3 p n).1,(qb3 p n).2.1,(qb3 p n).2.2.1,(qb3 p n).2.2.2.1,())=qb3 p n:=rfl
   show Ev fun φ=>Z163.l1 (mkR (run E (φ 0))) (φ 0) (φ 1) p (n:Int) ((k+1:Nat):Int) 0 p (List.set (List.replicate k (qb3 p n)++M.drop k) k (qb3 p n)) c (List.replicate c.length (n:Int))=r
   rw[hset]
   exact ih
  ·simp only[Z163.l1_succ _ qae]
   refine qaI (decide_eq_false (by simp)) (qah ?_)
   simp
end VeT
open Go Go.Proofs Ve
namespace VeT
def qhi:List Int→Int→List Int
 | [],n=>[n]
 | x::r,n=>if x<n then x::qhi r n else if n<x then n::x::r else x::r
theorem qhf:∀ {l:List Int} {n y:Int},y∈qhi l n↔y=n∨y∈l
 | [],n,y=>by simp[qhi]
 | x::r,n,y=>by
  unfold qhi
  split
  ·rw[List.mem_cons,qhf,List.mem_cons]
   constructor
   ·rintro(h | h | h)
    ·exact .inr (.inl h)
    ·exact .inl h
    ·exact .inr (.inr h)
   ·rintro(h | h | h)
    ·exact .inr (.inl h)
    ·exact .inl h
    ·exact .inr (.inr h)
  ·split
   ·rw[List.mem_cons]
   ·have:x=n:=by omega
    subst this
    rw[List.mem_cons]
    exact⟨fun h=>.inr h,fun h=>h.elim (fun h=>.inl h) id⟩
theorem qlt:∀ {l:List Int} {n:Int},l.Pairwise (·<·)→(qhi l n).Pairwise (·<·)
 | [],n,_=>by simp[qhi]
 | x::r,n,h=>by
  rw[List.pairwise_cons] at h
  unfold qhi
  split
  ·rw[List.pairwise_cons]
   refine⟨fun y hy=>?_,qlt h.2⟩
   rcases qhf.1 hy with rfl | hy
   ·assumption
   ·exact h.1 y hy
  ·split
   ·rw[List.pairwise_cons]
    refine⟨fun y hy=>?_,List.pairwise_cons.2 h⟩
    rcases List.mem_cons.1 hy with rfl | hy
    ·assumption
    ·have:=h.1 y hy;omega
   ·exact List.pairwise_cons.2 h
theorem qhy:∀ {l:List Int} {n:Int},(qhi l n).length≤l.length+1
 | [],n=>by simp[qhi]
 | x::r,n=>by
  unfold qhi
  split
  ·have:=qhy (l:=r) (n:=n);simp;exact this
  ·split<;>simp
theorem VC.get{c:List Sim}(h:VC c){s:Sim}(hs:s∈c):Vx s:=by
 obtain⟨k,hk,rfl⟩:=List.mem_iff_getElem.1 hs
 have:=h.2.1 k hk
 rwa [qag hk] at this
noncomputable def qss(vs im:List Int)(v:Int):Int:=match vs.findIdx? (fun x=>pb (x=v)) with
 | some i=>im.getD i (-1)
 | none=>-1
theorem qns(l:Sim)(n:Int)(hl:l.length≤1048576):Ret E n_Z128 [dL l,dI n] ⟨o_Z128,(qhi l n,())⟩:=by
  refine qaj ?_
  simp only[run_Z128,Z128.ev]
  refine Ev.start (p:=fun φ N=>Z128.l0 (mkR (run E (φ 0))) (φ 0) N l n false 0 []=_) 1 ?_ (fun _ _ _ h=>h)
  refine(qe2 1 (σ:=Bool×Nat×List Int) (L:=fun φ N st=>Z128.l0 (mkR (run E (φ 0))) (φ 0) N l n st.1 (st.2.1:Int) st.2.2) (fun _ _ _ _=>rfl) (fun st=>st.2.1≤l.length∧st.2.2.length≤st.2.1+(bif st.1 then 1 else 0))
    (fun st=>some ⟨o_Z128,(st.2.2++(bif st.1 then l.drop st.2.1 else qhi (l.drop st.2.1) n),())⟩) (fun st=>l.length-st.2.1) (fun st hi ih=>?_) (false,0,[]) ⟨Nat.zero_le _,Nat.zero_le _⟩).to (by simp only[List.nil_append,cond_false,List.drop_zero])
  obtain⟨d,i,o⟩:=st
  obtain⟨h1,h2⟩:=hi
  simp only at h1 h2 ih ⊢
  by_cases hlt:i<l.length
  · have ol:o.length≤i+1:=by cases d<;>simp at h2<;>omega
    have hd:l.drop i=l[i]::l.drop (i+1):=List.drop_eq_getElem_cons hlt
    -- what follows
    have step:∀(d':Bool) (o' X:List Int),o'.length≤i+(bif d' then 1 else 0)→(o'++[l[i]])++(bif d' then l.drop (i+1) else qhi (l.drop (i+1)) n)=X →
        Ev fun φ=>Z128.j2 (mkR (run E (φ 0))) (φ 0) (φ 1) l n d' (i:Int) o'=some ⟨o_Z128,(X,())⟩:=fun d' o' X hol hX=>by
      have ho2:o'.length≤i+1:=by cases d'<;>simp at hol<;>omega
      have:=ih (d',i+1,o'++[l[i]]) ⟨by show i+1≤_;omega,by
        simp only[List.length_append,List.length_singleton]
        cases d'<;>simp at hol ⊢<;>omega⟩ (by simp only;omega)
      simp only at this
      rw[hX] at this
      simp only[Z128.j2_eq _ qae]
      rw[qad (by omega)]
      exact qac (qak hlt) (qao (by simp;omega) this)
    simp only[Z128.l0_succ _ qae]
    refine qaC (decide_eq_true (by omega)) ?_
    cases d with
    | true =>
      refine qaI rfl ?_
      have e:o++List.drop i l=(o++[l[i]])++l.drop (i+1):=by rw[hd];simp
      simp only[cond_true] at h2 ⊢
      rw[e]
      simp only[Z128.j1_eq _ qae]
      refine qaI rfl ?_
      exact step true o _ h2 (by simp only[cond_true])
    | false =>
      refine qaC rfl (qac (qak hlt) ?_)
      simp only[cond_false,Nat.add_zero] at h2 ⊢
      simp only[Z128.j1_eq _ qae]
      refine qee (fun hge=>?_) fun hge=>?_
      · have hge:l[i]≥n:=hge
        refine qac (qak hlt) (qee (fun hgt=>?_) fun hgt=>?_)
        · have e:o++qhi (List.drop i l) n=((o++[n])++[l[i]])++l.drop (i+1):=by
            rw[hd,qhi,if_neg (by omega),if_pos (show n<l[i] from hgt)];simp
          rw[e]
          exact qao (by simp;omega) (step true (o++[n]) _ (by simp;omega) (by simp only[cond_true]))
        · have hgt:¬ l[i]>n:=hgt
          have e:o++qhi (List.drop i l) n=(o++[l[i]])++l.drop (i+1):=by
            rw[hd,qhi,if_neg (by omega),if_neg (by omega)];simp
          rw[e]
          exact step true o _ (by simp;omega) (by simp only[cond_true])
      · have hge:¬ l[i]≥n:=hge
        have e:o++qhi (List.drop i l) n=(o++[l[i]])++qhi (l.drop (i+1)) n:=by
          rw[hd,qhi,if_pos (by omega)];simp
        rw[e]
        exact step false o _ (by simp;omega) (by simp only[cond_false])
  · have hi:i=l.length:=by omega
    subst hi
    simp only[Z128.l0_succ _ qae,List.drop_length]
    refine qaI (decide_eq_false (by omega)) ?_
    cases d with
    | true=>exact qaI rfl (qah (by simp only[cond_true,List.append_nil]))
    | false =>
      simp only[cond_false,Nat.add_zero] at h2 ⊢
      exact qaC rfl (qao (by simp;omega) qal)
end VeT
open Go Go.Proofs Ve
namespace VeT
def qpz:Sim→List Sim
 | []=>[[]]
 | a::s=>qpz s++(qpz s).map (a::·)
theorem qhU:∀ {s:Sim},(qpz s).length=2 ^ s.length
 | []=>rfl
 | a::s=>by rw[qpz,List.length_append,List.length_map,qhU,List.length_cons,Nat.pow_succ];omega
theorem qhk:∀ {x s:Sim},x.Sublist s→x∈qpz s
 | _,_,.slnil=>by simp[qpz]
 | _,_,.cons a h=>by rw[qpz];exact List.mem_append.2 (.inl (qhk h))
 | _,_,.cons_cons a h=>by rw[qpz];exact List.mem_append.2 (.inr (List.mem_map.2 ⟨_,qhk h,rfl⟩))
theorem qhL{α:Type}[DecidableEq α]:∀ {c d:List α},c.Nodup→(∀ x∈c,x∈d)→c.length≤d.length
 | [],d,_,_=>Nat.zero_le _
 | x::c,d,h,hs=>by
  obtain⟨h1,h2⟩:=List.nodup_cons.1 h
  have hx:=hs x List.mem_cons_self
  have:=qhL h2 (d:=d.erase x) fun y hy=>(List.mem_erase_of_ne (fun e=>h1 (by rw[← e];exact hy))).2 (hs y (List.mem_cons_of_mem _ hy))
  rw[List.length_erase_of_mem hx] at this
  have:=List.length_pos_of_mem hx
  rw[List.length_cons];omega
theorem Srt.nodup{c:List Sim}(h:Srt c):c.Nodup:=by
 rw[List.nodup_iff_pairwise_ne,List.pairwise_iff_getElem]
 intro i j hi hj hij e
 have:=h i j hj hij
 rw[e,qdJ.2 rfl] at this
 omega
theorem Vx.fa{x s:Sim}(h:Vx s)(hf:Fa x s):Vx x:=by
 refine⟨List.length_pos_iff.2 hf.1,?_,qhe (h.2.2.1.pairwise.sublist hf.2),fun y hy=>h.2.2.2 y (hf.2.subset hy)⟩
 have:=hf.2.length_le
 have:=h.2.1
 omega
theorem qmn{l c:List Sim}(hs:Srt c)(hm:∀ x,x∈c↔∃ s∈l,Fa x s):c.length≤(l.map fun s=>2 ^ s.length).sum:=by
 have h:=qhL hs.nodup (d:=l.flatMap qpz) fun x hx=>by
  obtain⟨s,hs,hf⟩:=(hm x).1 hx
  exact List.mem_flatMap.2 ⟨s,hs,qhk hf.2⟩
 rw[List.length_flatMap] at h
 simp only[qhU] at h
 exact h
theorem qnr(l:List Sim)(hl:l.length≤1024)(hx:∀ s∈l,Vx s)(hn:∀ c:List Sim,Srt c→(∀ x,x∈c↔∃ s∈l,Fa x s)→c.length≤48) :
  qi1 n_Z150 [dLL l] o_Z150 fun(r:List Sim×Unit)=>VC r.1∧∀ x,x∈r.1↔∃ s∈l,Fa x s:=by
 obtain⟨c',h1,h2,h3,_⟩:=qmC l hl fun s hs=>⟨(hx s hs).1,(hx s hs).2.1⟩
 have hv:∀ x∈c',Vx x:=fun x hx'=>by
  obtain⟨s,hs,hf⟩:=(h3 x).1 hx'
  exact(hx s hs).fa hf
 have hg:∀ k,k<c'.length→c'.getD k []∈c':=fun k hk=>by
  rw[List.getD_eq_getElem?_getD,List.getElem?_eq_getElem hk];exact List.getElem_mem hk
 refine⟨(c',()),h1,⟨hn c' h2 h3, fun k hk=>hv _ (hg k hk),fun k hk1 (hk:k<c'.length)=>?_,fun k (hk:k<c'.length) f hf=>?_⟩,h3⟩
 ·have:=h2 (k-1) k hk (by omega)
  rw[List.getD_eq_getElem?_getD,List.getD_eq_getElem?_getD,List.getElem?_eq_getElem hk,List.getElem?_eq_getElem (show k-1<c'.length by omega)]
  exact this
 ·obtain⟨s,hs,hfa⟩:=(h3 _).1 (hg k hk)
  obtain⟨h1,i,hi,rfl⟩:=qda.1 hf
  refine(h3 _).2 ⟨s,hs,qjQ ⟨fun e=>?_,List.eraseIdx_sublist _ _⟩ hfa⟩
  have:=congrArg List.length e
  rw[List.length_eraseIdx_of_lt hi] at this
  rw[List.length_nil] at this
  omega
theorem VC.sm{c:List Sim}(h:VC c):Sm (.sl (.sl (.int .i64))) c:=by
 refine⟨by have:=h.1;show c.length≤1048576;omega,fun s hs=>?_⟩
 obtain⟨k,hk,rfl⟩:=List.getElem_of_mem hs
 have:=h.2.1 k hk
 rw[List.getD_eq_getElem?_getD,List.getElem?_eq_getElem hk] at this
 have:=this.2.1
 refine⟨?_,fun _ _=>trivial⟩
 show(c[k]).length≤1048576
 simp at this
 omega
theorem qhw(n:Nat)(s:Src)(v most:Int)(hn:n≤100000000000)(hs:SO n s)(hm:1≤most∧most≤4)(hv:1≤v∧v≤10) :
  qi1 n_Z152 [dR s,dI v,dI most] o_Z152 fun(r:Sim×Src×Unit)=>Vx r.1∧(r.1.length:Int)≤most∧(∀ x∈r.1,x<v)∧SO (n+12) r.2.1:=by
 obtain⟨c,a,g,⟨⟩⟩:=s
 refine qbZ ?_
 simp only[run_Z152,Z152.ev]
 refine qbw (qbc n _ most (by omega) hs) fun(r:Int×Src×Unit) ⟨r1,r2,r3,r4⟩=>?_
 obtain⟨k0,hk0⟩:∃ k:Nat,(r.1:Int)=(k:Int):=⟨Int.toNat r.1,(Int.toNat_of_nonneg r1).symm⟩
 have e0:w64 (1+r.1)=((k0+1:Nat):Int):=by rw[hk0,qaf (by omega) (by omega)];omega
 refine EvQ.start 1 (L:=fun φ N=>Z152.l0 (mkR (run E (φ 0))) (φ 0) N v [] (w64 (1+r.1)) r.2.1.1 r.2.1.2.1 r.2.1.2.2.1) ?_ (fun _ _ _=>rfl)
 rw[e0]
 refine EvQ.loop 1 (σ:=Sim×Nat×Src) (L:=fun φ N st=>Z152.l0 (mkR (run E (φ 0))) (φ 0) N v st.1 (st.2.1:Int) st.2.2.1 st.2.2.2.1 st.2.2.2.2.1) (fun _ _ _ _=>rfl)
  (fun st=>st.1.Pairwise (·<·)∧(∀ x∈st.1,0≤x∧x<v)∧((st.1.length+st.2.1:Nat):Int)≤most∧1≤st.1.length+st.2.1∧SO (n+10-2*st.2.1) st.2.2) (fun st=>st.2.1) (fun st hi ih=>?_) ([],k0+1,r.2.1) ⟨List.Pairwise.nil,fun x hx=>by simp at hx,?_,?_,?_⟩
 ·obtain⟨o,k,s1⟩:=st
  obtain⟨i1,i2,i3,i4,i5⟩:=hi
  simp only at i1 i2 i3 i4 i5 ih ⊢
  simp only[Z152.l0_succ _ qae]
  refine qcJ (fun h=>?_) fun h=>?_
  ·refine qbw (qbc _ s1 v (by omega) i5) fun(q:Int×Src×Unit) ⟨q1,q2,q3,q4⟩=>?_
   refine qaD (qns o q.1 (by omega)) ?_
   rw[show w64 ((k:Int)-1)=((k-1:Nat):Int) by rw[qaf (by omega) (by omega)];omega]
   refine ih (qhi o q.1,k-1,q.2.1) ⟨qlt i1,fun x hx=>?_,?_,?_,?_⟩ (by show k-1<k;omega)
   ·rcases qhf.1 hx with rfl | hx
    ·omega
    ·exact i2 x hx
   ·have:=qhy (l:=o) (n:=q.1)
    show((((qhi o q.1).length+(k-1):Nat)):Int)≤most
    omega
   ·have:1≤(qhi o q.1).length:=List.length_pos_of_mem (qhf.2 (.inl rfl))
    show 1≤(qhi o q.1).length+(k-1)
    omega
   ·exact q4.le (by show n+10-2*k+2≤n+10-2*(k-1);omega)
  ·refine qaU ⟨⟨by show 1≤o.length;omega,by show o.length≤4;omega,qhe i1,fun x hx=>⟨(i2 x hx).1,by have:=(i2 x hx).2;omega⟩⟩,by show(o.length:Int)≤most;omega,fun x hx=>(i2 x hx).2,i5.le (by omega)⟩
 ·show((([]:Sim).length+(k0+1):Nat):Int)≤most
  simp;omega
 ·show 1≤([]:Sim).length+(k0+1)
  simp
 ·exact r4.le (by show n+2≤n+10-2*(k0+1);omega)
def S5(c:List Sim):Prop:=∀ x∈c,x.length≤3∧∀ v∈x,v<5
theorem qkU(n:Nat)(s:Src)(hn:n≤10000000000)(hs:SO n s) :
    qi1 n_Z165 [dR s] o_Z165 fun(r:List Sim×Src×Unit)=>VC r.1∧S5 r.1∧SO (n+50) r.2.1:=by
  obtain⟨c,a,g,⟨⟩⟩:=s
  have fixed:∀(l:List Sim),l.length≤1024→(∀ s∈l,Vx s)→(l.map fun s=>2 ^ s.length).sum≤48→(∀ s∈l,s.length≤3∧∀ v∈s,v<5) →
      qi1 n_Z150 [dLL l] o_Z150 fun(r:List Sim×Unit)=>VC r.1∧S5 r.1:=fun l h1 h2 h3 h5=>by
    obtain⟨r,g1,g2,g3⟩:=qnr l h1 h2 fun c hs hm=>Nat.le_trans (qmn hs hm) h3
    refine⟨r,g1,g2,fun x hx=>?_⟩
    obtain⟨s,hs,hf⟩:=(g3 x).1 hx
    have:=hf.2.length_le
    have:=(h5 s hs).1
    exact⟨by omega,fun v hv=>(h5 s hs).2 v (hf.2.subset hv)⟩
  have vx2:∀ a b:Int,0≤a→a<b→b≤9→Vx [a,b]:=fun a b h1 h2 h3=>⟨by simp,by simp,qhe (by simp;exact h2),fun x hx=>by simp at hx;rcases hx with rfl | rfl<;>omega⟩
  have vx3:∀ a b c:Int,0≤a→a<b→b<c→c≤9→Vx [a,b,c]:=fun a b c h1 h2 h3 h4=>⟨by simp,by simp,qhe (by simp;omega),fun x hx=>by simp at hx;rcases hx with rfl | rfl | rfl<;>omega⟩
  refine qbZ ?_
  simp only[run_Z165,Z165.ev]
  refine qbw (qbc n _ 6 (by omega) hs) fun(r:Int×Src×Unit) ⟨r1,r2,r3,r4⟩=>?_
  refine qg3 (fun _=>qbw (fixed _ (by decide) (fun s hs=>?_) (by decide) (by decide)) fun(q:List Sim×Unit) ⟨q1,q2⟩=>qaU ⟨q1,q2,r4.le (by omega)⟩) fun _=>?_
  · simp at hs;rcases hs with rfl | rfl | rfl<;>exact vx2 _ _ (by decide) (by decide) (by decide)
  refine qg3 (fun _=>qbw (fixed _ (by decide) (fun s hs=>?_) (by decide) (by decide)) fun(q:List Sim×Unit) ⟨q1,q2⟩=>qaU ⟨q1,q2,r4.le (by omega)⟩) fun _=>?_
  · simp at hs;rcases hs with rfl | rfl<;>exact vx3 _ _ _ (by decide) (by decide) (by decide) (by decide)
  refine qg3 (fun _=>qbw (fixed _ (by decide) (fun s hs=>?_) (by decide) (by decide)) fun(q:List Sim×Unit) ⟨q1,q2⟩=>qaU ⟨q1,q2,r4.le (by omega)⟩) fun _=>?_
  · simp at hs;rcases hs with rfl | rfl | rfl | rfl<;>exact vx3 _ _ _ (by decide) (by decide) (by decide) (by decide)
  refine qg3 (fun _=>qbw (fixed _ (by decide) (fun s hs=>?_) (by decide) (by decide)) fun(q:List Sim×Unit) ⟨q1,q2⟩=>qaU ⟨q1,q2,r4.le (by omega)⟩) fun _=>?_
  · simp at hs;rcases hs with rfl | rfl | rfl | rfl | rfl<;>exact vx2 _ _ (by decide) (by decide) (by decide)
  refine qbw (qbc (n+2) _ 4 (by omega) r4) fun(q:Int×Src×Unit) ⟨q1,q2,q3,q4⟩=>?_
  obtain⟨k0,hk0⟩:∃ k:Nat,(q.1:Int)=(k:Int):=⟨Int.toNat q.1,(Int.toNat_of_nonneg q1).symm⟩
  refine EvQ.start 1 (L:=fun φ N=>Z165.l0 (mkR (run E (φ 0))) (φ 0) N q.1 [] q.2.1.1 q.2.1.2.1 q.2.1.2.2.1) ?_ (fun _ _ _=>rfl)
  rw[hk0]
  refine EvQ.loop 1 (σ:=Nat×List Sim×Src) (L:=fun φ N st=>Z165.l0 (mkR (run E (φ 0))) (φ 0) N (st.1:Int) st.2.1 st.2.2.1 st.2.2.2.1 st.2.2.2.2.1) (fun _ _ _ _=>rfl)
    (fun st=>(∀ x∈st.2.1,Vx x∧x.length≤3∧∀ v∈x,v<5)∧st.2.1.length+st.1≤3∧SO (n+40-12*st.1) st.2.2) (fun st=>st.1) (fun st hi ih=>?_) (k0,[],q.2.1) ⟨fun x hx=>by simp at hx,by simp;omega,q4.le (by show n+2+2≤n+40-12*k0;omega)⟩
  obtain⟨k,o,s1⟩:=st
  obtain⟨i1,i2,i3⟩:=hi
  simp only at i1 i2 i3 ih ⊢
  simp only[Z165.l0_succ _ qae]
  refine qcJ (fun h=>?_) fun h=>?_
  · refine qbw (qhw _ s1 5 3 (by omega) i3 (by decide) (by decide)) fun(t:Sim×Src×Unit) ⟨t1,t2,t3,t4⟩=>?_
    refine qaQ (decide_eq_true (by simp;omega)) ?_
    rw[show w64 ((k:Int)-1)=((k-1:Nat):Int) by rw[qaf (by omega) (by omega)];omega]
    refine ih (k-1,o++[t.1],t.2.1) ⟨fun x hx=>?_,?_,?_⟩ (by show k-1<k;omega)
    · rcases List.mem_append.1 hx with hx | hx
      · exact i1 x hx
      · rw[List.mem_singleton] at hx;subst hx;exact⟨t1,by omega,t3⟩
    · show(o++[t.1]).length+(k-1)≤3
      simp;omega
    · exact t4.le (by show n+40-12*k+12≤n+40-12*(k-1);omega)
  · refine qbw (fixed o (by omega) (fun s hs=>(i1 s hs).1) ?_ fun s hs=>(i1 s hs).2) fun(q:List Sim×Unit) ⟨q1,q2⟩=>qaU ⟨q1,q2,i3.le (by omega)⟩
    have:∀(l:List Sim),(∀ x∈l,x.length≤3)→(l.map fun s=>2 ^ s.length).sum≤8*l.length:=by
      intro l
      induction l with
      | nil=>intro _;simp
      | cons x l ih =>
        intro h
        have h1:=h x List.mem_cons_self
        have h2:=ih fun y hy=>h y (List.mem_cons_of_mem _ hy)
        have h3:2 ^ x.length≤2 ^ 3:=Nat.pow_le_pow_right (by decide) h1
        simp only[List.map_cons,List.sum_cons,List.length_cons]
        omega
    have:=this o fun x hx=>(i1 x hx).2.1
    omega
end VeT
open Go Go.Proofs Ve
namespace VeT
end VeT
open Go Go.Proofs Ve
namespace VeT
theorem qoX{x:Shf}(k:Int)(hs:VS x.1 x.2.1 x.2.2.1 x.2.2.2.1):Ret E n_Z65 [dI (qcg x k).1,dI (qcg x k).2.1,dI (qcg x k).2.2.1,dL (qcg x k).2.2.2.1] ⟨o_Z65,(qmr x k,())⟩:=by
 obtain⟨H,eH,bH,tH⟩:=qcb hs (k+1)
 obtain⟨W,eW,bW,tW⟩:=qcb hs k
 have hp:2≤x.2.1∧x.2.1≤251:=⟨hs.2.1.1,hs.2.1.2.1⟩
 have hRC:=qcN bH bW
 have hl:(qcg x k).2.2.2.1.length=H*W:=by show(qek _ _ _ _ k).length=_;rw[qbg,tH,tW]
 have he:qax (qcg x k).2.2.2.1 x.2.1:=qbD hs k
 have k1:=qnR x.2.1 H W (qcg x k).2.2.2.1 hp (by omega) (by omega) (by omega) hl he
 have eK:qmr x k=qrr x.2.1 H W (qcg x k).2.2.2.1:=by unfold qmr;rw[tH,tW]
 have e1:(qcg x k).2.1=(H:Int):=eH
 have e2:(qcg x k).2.2.1=(W:Int):=eW
 rw[eK,e1,e2]
 exact k1
theorem qlT(x:Shf)(k:Int)(hx:Sm (.st cS) x)(hk:0≤k∧k≤3)(hs:VS x.1 x.2.1 x.2.2.1 x.2.2.2.1) :
  Ret E n_Z32 [dLL x.1,dI x.2.1,dL x.2.2.1,dMs x.2.2.2.1,dI k] ⟨o_Z32,(qeT x k,())⟩:=by
 obtain⟨W,eW,bW,tW⟩:=qcb hs k
 obtain⟨C,eC,bC,tC⟩:=qcb hs (k-1)
 have hl:(qcg x (k-1)).2.2.2.1.length=W*C:=by show(qek _ _ _ _ (k-1)).length=_;rw[qbg,tC,show k-1+1=k by omega,tW]
 have he:qax (qcg x (k-1)).2.2.2.1 x.2.1:=qbD hs (k-1)
 obtain⟨hcr,hcl,hcw⟩:=qdC hl he
 obtain⟨hkr,hkl⟩:=qhg (k:=k) hs
 have e1:(qcg x (k-1)).2.1=(W:Int):=by show SD x.1 x.2.2.1 (k-1+1)=_;rw[show k-1+1=k by omega,eW]
 have e2:(qcg x (k-1)).2.2.1=(C:Int):=eC
 have hp2:2≤x.2.1∧x.2.1≤251:=⟨hs.2.1.1,hs.2.1.2.1⟩
 unfold qeT
 rw[tW,tC]
 rw[tW] at hkr hkl
 have hi:=qhP x.2.1 W (qck W C (qcg x (k-1)).2.2.2.1) (qmr x k) hs.2.1 (by omega) (by omega) hcw (by omega) hkr
 have hcob:Ret E n_Z30 [dLL x.1,dI x.2.1,dL x.2.2.1,dMs x.2.2.2.1,dI k] ⟨o_Z30,(x.2.1,(W:Int),bas x.2.1 W (qck W C (qcg x (k-1)).2.2.2.1),())⟩:=by
  have hm:=qaV x.1 x.2.1 x.2.2.1 x.2.2.2.1 (k-1) (by omega) hx.1 hs
  have hcc:=qd0 (qcg x (k-1)).1 W C (qcg x (k-1)).2.2.2.1 hl bW bC
  have hso:=qfy x.2.1 W (qck W C (qcg x (k-1)).2.2.2.1) hp2 (by omega) (by omega) hcw
  rw[← e1] at hcc hso
  rw[← e2] at hcc
  refine qaj ?_
  simp only[run_Z30,Z30.ev,qaf (n:=k-1) (by omega) (by omega)]
  refine qaa hm (qaa hcc (qaa hso (qah ?_)))
  rw[e1]
 refine qaj ?_
 simp only[run_Z32,Z32.ev]
 exact qaa hcob (qaa (qaV x.1 x.2.1 x.2.2.1 x.2.2.2.1 k (by omega) hx.1 hs) (qaa (qoX k hs) (qaa hi qal)))
theorem qhB(p:Int)(R W:Nat)(cells:Sim)(hp:2≤p∧p≤251)(hR:R≤1048576)(hW:W≤1048576)(hRW:R*W≤1048576)(hl:cells.length=R*W)(he:qax cells p) :
  Ret E n_Z143 [dM (p,(R:Int),(W:Int),cells,())] ⟨o_Z143,((rkM p R W cells:Int),())⟩:=by
 obtain⟨det,h⟩:=qff p R W cells hp hR hW hRW hl he
 refine qaj ?_
 simp only[run_Z143,Z143.ev]
 refine qaa h (qah ?_)
 simp only[qaX]
 rfl
end VeT
open Go Go.Proofs Ve
namespace VeT
theorem qax.set{l:Sim}{p x:Int}(h:qax l p)(hx:0≤x∧x≤p-1)(i:Nat):qax (l.set i x) p:=fun y hy=>by
 rcases List.mem_or_eq_of_mem_set hy with hy | rfl
 ·exact h y hy
 ·exact hx
theorem qax.zeros{p:Int}(hp:2≤p)(n:Nat):qax (List.replicate n 0) p:=fun x hx=>by
 rw[(List.mem_replicate.1 hx).2];omega
theorem qmW(n:Nat)(s:Src)(p:Int)(R C:Nat)(hn:n≤10000000000)(hs:SO n s)(hp:2≤p∧p≤251)(hR:R≤4)(hC:C≤4) :
  qi1 n_Z138 [dR s,dI p,dI (R:Int),dI (C:Int)] o_Z138 fun(r:Int×Int×Int×Sim×Src×Unit)=>∃ cells s',r=(p,(R:Int),(C:Int),cells,s',())∧cells.length=R*C∧qax cells p∧SO (n+70) s':=by
 obtain⟨c,a,g,⟨⟩⟩:=s
 have hRC:R*C≤16:=Nat.mul_le_mul hR hC
 refine qbZ ?_
 simp only[run_Z138,Z138.ev]
 refine qaD (qb9 p R C (by omega) (by omega)) ?_
 have fin:∀(cells:Sim) (s1:Src) (m:Nat),cells.length=R*C→qax cells p→m≤n+70→SO m s1→EvQ (fun φ=>Z138.j3 (mkR (run E (φ 0))) (φ 0) 0 0 0 p (R:Int) (C:Int) s1.1 s1.2.1 s1.2.2.1 cells) o_Z138 fun(r:Int×Int×Int×Sim×Src×Unit)=>∃ cells s',r=(p,(R:Int),(C:Int),cells,s',())∧cells.length=R*C∧qax cells p∧SO (n+70) s':=by
  intro cells s1 m h1 h2 h3 h4
  simp only[Z138.j3_eq _ qae]
  exact qaU ⟨cells,s1,rfl,h1,h2,h4.le h3⟩
 have fold2:∀(cells:Sim) (s1:Src) (m:Nat) (b:Bool),cells.length=R*C→qax cells p→m≤n+70→SO m s1→(b=true→1<R)→EvQ (fun φ=>Z138.j1 (mkR (run E (φ 0))) (φ 0) p (R:Int) (C:Int) b 0 0 0 p (R:Int) (C:Int) s1.1 s1.2.1 s1.2.2.1 cells) o_Z138 fun(r:Int×Int×Int×Sim×Src×Unit)=>∃ cells s',r=(p,(R:Int),(C:Int),cells,s',())∧cells.length=R*C∧qax cells p∧SO (n+70) s':=by
  intro cells s1 m b h1 h2 h3 h4 h5
  simp only[Z138.j1_eq _ qae]
  refine qg3 (fun hb=>?_) fun _=>fin cells s1 m h1 h2 h3 h4
  have hR1:=h5 hb
  refine EvQ.start 1 (L:=fun φ N=>Z138.l2 (mkR (run E (φ 0))) (φ 0) N p (R:Int) (C:Int) 0 0 0 0 p (R:Int) (C:Int) s1.1 s1.2.1 s1.2.2.1 cells) ?_ (fun _ _ _=>rfl)
  refine EvQ.loop 1 (σ:=Nat×Sim) (L:=fun φ N st=>Z138.l2 (mkR (run E (φ 0))) (φ 0) N p (R:Int) (C:Int) (st.1:Int) 0 0 0 p (R:Int) (C:Int) s1.1 s1.2.1 s1.2.2.1 st.2) (fun _ _ _ _=>rfl)
   (fun st=>st.1≤C∧st.2.length=R*C∧qax st.2 p) (fun st=>C-st.1) (fun st hi ih=>?_) (0,cells) ⟨Nat.zero_le _,h1,h2⟩
  obtain⟨k,o⟩:=st
  obtain⟨i1,i2,i3⟩:=hi
  simp only at i1 i2 i3 ih ⊢
  simp only[Z138.l2_succ _ qae]
  refine qcJ (fun h=>?_) fun h=>fin o s1 m i2 i3 h3 h4
  have hk:k<C:=by omega
  have hCR:C≤R*C:=by have:=Nat.mul_le_mul_right C (show 1≤R by omega);omega
  have hix:=qe4 (R:=R) (C:=C) (show R-1<R by omega) hk
  have e1:w64 ((R:Int)-1)=((R-1:Nat):Int):=by rw[qaf (by omega) (by omega)];omega
  have e2:w64 (w64 (((R-1:Nat):Int)*(C:Int))+(k:Int))=(((R-1)*C+k:Nat):Int):=qgq (by omega)
  have hkl:k<o.length:=by omega
  have ho:=i3 _ (List.getElem_mem hkl)
  rw[e1,e2,Int.toNat_natCast,Int.toNat_natCast]
  refine qaQ (by simp only[Bool.and_eq_true,decide_eq_true_eq];omega) (qa9 (List.getElem?_eq_getElem hkl) (qaQ (by simp;omega) (qaQ (by simp only[Bool.and_eq_true,decide_eq_true_eq];omega) ?_)))
  rw[qad (by omega)]
  refine ih (k+1,_) ⟨by show k+1≤C;omega,by rw[List.length_set];exact i2,i3.set ?_ _⟩ (by show C-(k+1)<C-k;omega)
  have e3:w64 (o[k]*2)=o[k]*2:=qaf (by omega) (by omega)
  rw[e3,Int.tmod_eq_emod_of_nonneg (by omega)]
  exact qbQ hp.1
 refine EvQ.start 1 (L:=fun φ N=>Z138.l0 (mkR (run E (φ 0))) (φ 0) N p (R:Int) (C:Int) 0 0 0 0 p (R:Int) (C:Int) c a g (List.replicate (R*C) 0)) ?_ (fun _ _ _=>rfl)
 refine EvQ.loop 1 (σ:=Nat×Src×Sim) (L:=fun φ N st=>Z138.l0 (mkR (run E (φ 0))) (φ 0) N p (R:Int) (C:Int) (st.1:Int) 0 0 0 p (R:Int) (C:Int) st.2.1.1 st.2.1.2.1 st.2.1.2.2.1 st.2.2) (fun _ _ _ _=>rfl)
  (fun st=>st.1≤R*C∧SO (n+4*st.1) st.2.1∧st.2.2.length=R*C∧qax st.2.2 p) (fun st=>R*C-st.1) (fun st hi ih=>?_) (0,(c,a,g,()),List.replicate (R*C) 0) ⟨Nat.zero_le _,hs,by simp,qax.zeros hp.1 _⟩
 obtain⟨i,s1,o⟩:=st
 obtain⟨i1,i2,i3,i4⟩:=hi
 simp only at i1 i2 i3 i4 ih ⊢
 simp only[Z138.l0_succ _ qae]
 refine qcJ (fun h=>?_) fun h=>?_
 ·have hi:i<R*C:=by omega
  refine qbw (qbc _ s1 3 (by omega) i2) fun(r:Int×Src×Unit) ⟨r1,r2,r3,r4⟩=>?_
  rw[qad (by omega),Int.toNat_natCast]
  refine qcJ (fun h2=>?_) fun h2=>?_
  ·refine qbw (qbc _ r.2.1 p (by omega) r4) fun(q:Int×Src×Unit) ⟨q1,q2,q3,q4⟩=>?_
   refine qaQ (by simp only[Bool.and_eq_true,decide_eq_true_eq];omega) ?_
   exact ih (i+1,q.2.1,o.set i q.1) ⟨by show i+1≤R*C;omega,q4.le (by show n+4*i+2+2≤n+4*(i+1);omega),by rw[List.length_set];exact i3,i4.set (by omega) _⟩ (by show R*C-(i+1)<R*C-i;omega)
  ·exact ih (i+1,r.2.1,o) ⟨by show i+1≤R*C;omega,r4.le (by show n+4*i+2≤n+4*(i+1);omega),i3,i4⟩ (by show R*C-(i+1)<R*C-i;omega)
 ·refine qcJ (fun h2=>?_) fun h2=>?_
  ·exact qbw (qrc _ s1 3 (by omega) i2) fun(r:Bool×Src×Unit) r4=>fold2 o r.2.1 _ r.1 i3 i4 (by omega) r4 fun _=>by omega
  ·exact fold2 o s1 _ false i3 i4 (by omega) i2 fun h=>by cases h
end VeT
open Go Go.Proofs Ve
namespace VeT
def qkt(a b:Sim)(W V:Nat):Ent:=fun i j=>if j<W then qbJ a W i j else qbJ b V i (j-W)
def qfz(a b:Sim)(W V R:Nat):Sim:=qar (qkt a b W V) (W+V) R
theorem qol{a b:Sim}{W V i:Nat}:(List.range (W+V)).map (qkt a b W V i)=(List.range W).map (qbJ a W i)++(List.range V).map (qbJ b V i):=by
 rw[List.range_add,List.map_append,List.map_map]
 congr 1
 ·refine List.map_congr_left fun j hj=>?_
  have:=List.mem_range.1 hj
  simp[qkt,this]
 ·refine List.map_congr_left fun j hj=>?_
  show(if W+j<W then qbJ a W i (W+j) else qbJ b V i (W+j-W))=_
  rw[if_neg (by omega),Nat.add_sub_cancel_left]
theorem qow(p:Int)(R W V:Nat)(cells b:Sim)(hR:R≤32)(hW:W≤32)(hV:V≤32)(hl:cells.length=R*W)(hbl:b.length=R*V) :
  Ret E n_Z140 [dM (p,(R:Int),(W:Int),cells,()),dM (p,(R:Int),(V:Int),b,())] ⟨o_Z140,(p,(R:Int),((W+V:Nat):Int),qfz cells b W V R,())⟩:=by
 have hRW:=qcN hR hW
 have hRV:=qcN hR hV
 refine qaj ?_
 simp only[run_Z140,Z140.ev,Z140.j0_eq _ qae]
 rw[show w64 ((W:Int)+(V:Int))=((W+V:Nat):Int) by rw[qaf (by omega) (by omega)];omega]
 generalize hMt:(p,(R:Int),(W:Int),cells,())=M
 generalize hNt:(p,(R:Int),(V:Int),b,())=N
 have M2:M.2.1=(R:Int):=by rw[← hMt]
 have M3:M.2.2.1=(W:Int):=by rw[← hMt]
 have M4:M.2.2.2.1=cells:=by rw[← hMt]
 have N3:N.2.2.1=(V:Int):=by rw[← hNt]
 have N4:N.2.2.2.1=b:=by rw[← hNt]
 have one:Ev fun φ=>Z140.l1 (mkR (run E (φ 0))) (φ 0) (φ 0) M N 0 0 0 0 p (R:Int) ((W+V:Nat):Int) []=some ⟨o_Z140,(p,(R:Int),((W+V:Nat):Int),qfz cells b W V R,())⟩:=by
  refine Ev.start (p:=fun φ n=>Z140.l1 (mkR (run E (φ 0))) (φ 0) n M N 0 0 0 0 p (R:Int) ((W+V:Nat):Int) []=_) 1 ?_ (fun _ _ _ h=>h)
  refine qan 1 (L:=fun φ n i o=>Z140.l1 (mkR (run E (φ 0))) (φ 0) n M N i 0 0 0 p (R:Int) ((W+V:Nat):Int) o) (len:=R) (fun i=>qar (qkt cells b W V) (W+V) i) (fun _ _ _ _ _=>rfl) (fun i r hi ih=>?_) ?_
  ·have hle:(i+1)*W≤R*W:=Nat.mul_le_mul_right _ hi
   have hle2:(i+1)*V≤R*V:=Nat.mul_le_mul_right _ hi
   have e1:(i+1)*W=i*W+W:=Nat.succ_mul _ _
   have e2:(i+1)*V=i*V+V:=Nat.succ_mul _ _
   have c1:w64 ((i:Int)*(W:Int))=((i*W:Nat):Int):=by rw[qa0];exact qaf (by omega) (by omega)
   have c2:w64 (((i+1:Nat):Int)*(W:Int))=(((i+1)*W:Nat):Int):=by rw[qa0];exact qaf (by omega) (by omega)
   have c3:w64 ((i:Int)*(V:Int))=((i*V:Nat):Int):=by rw[qa0];exact qaf (by omega) (by omega)
   have c4:w64 (((i+1:Nat):Int)*(V:Int))=(((i+1)*V:Nat):Int):=by rw[qa0];exact qaf (by omega) (by omega)
   have hr1:=qlY hl hi
   have hr2:=qlY hbl hi
   have hfl:=qaq (f:=qkt cells b W V) (C:=W+V) (n:=i)
   have hfl2:i*(W+V)≤32*64:=Nat.mul_le_mul (by omega) (by omega)
   simp only[Z140.l1_succ _ qae,M2,M3,M4,N3,N4,qad (k:=i) (by omega),c1,c2,c3,c4,Int.toNat_natCast,hr1,hr2]
   rw[qar,qol,← List.append_assoc] at ih
   refine qaC (decide_eq_true (by omega)) (qao (by simp only[Bool.and_eq_true,decide_eq_true_eq];omega) (qao (by simp only[List.length_map,List.length_range,decide_eq_true_eq];omega) (qao (by simp only[Bool.and_eq_true,decide_eq_true_eq];omega) (qao (by simp only[List.length_append,List.length_map,List.length_range,decide_eq_true_eq];omega) ih))))
  ·simp only[Z140.l1_succ _ qae,M2]
   exact qaI (decide_eq_false (by omega)) qal
 exact qbF one one
def Tri(n:Nat)(A:Ent):Prop:=(∀ i j,j<i→i<n→A i j=0)∧∀ i,i<n→A i i≠0
theorem qoS{p:Int}{n:Nat}{A:Ent}(h:Tri n A):∀ c,c≤n→(elS p n A c).2=List.range c∧∀ i j,c≤i→i<n→(elS p n A c).1 i j=A i j
 | 0,_=>⟨rfl,fun _ _ _ _=>rfl⟩
 | c+1,hc=>by
  obtain⟨h1,h2⟩:=qoS h c (by omega)
  rw[elS,elP]
  generalize elS p n A c=S at h1 h2
  have hl:S.2.length=c:=by rw[h1,List.length_range]
  have hf:qa2 (fun i=>S.1 i c≠0) S.2.length (n-S.2.length)=some c:=by
   rw[hl]
   obtain⟨k,hk⟩:=qcE (P:=fun i=>S.1 i c≠0) (d:=n-c) (a:=c) ⟨c,Nat.le_refl _,by omega,by rw[h2 c c (Nat.le_refl _) (by omega)];exact h.2 c (by omega)⟩
   have h3:=qaM hk
   have h4:=qeX hk c (Nat.le_refl _)
   have:k=c:=by
    rcases Nat.lt_or_ge c k with hlt | hge
    ·exact absurd (by rw[h2 c c (Nat.le_refl _) (by omega)];exact h.2 c (by omega)) (h4 hlt)
    ·omega
   rw[hk,this]
  rw[hf]
  simp only
  rw[hl]
  refine⟨by rw[h1,List.range_succ],fun i j hi hin=>?_⟩
  have hsw:∀ k,qcA c c S.1 k=S.1 k:=fun k=>by
   unfold qcA
   by_cases e:k=c
   ·rw[if_pos e,e]
   ·rw[if_neg e,if_neg e]
  unfold elF
  rw[if_neg (by omega),hsw i]
  rw[if_neg (by rw[h2 i c (by omega) hin,h.1 i c (by omega) hin];exact fun h=>h rfl)]
  exact h2 i j (by omega) hin
theorem qp0{p:Int}{n:Nat}{A:Ent}(h:Tri n A):rkM p n n (qar A n n)=n:=by
 have h':Tri n (qbJ (qar A n n) n):=⟨fun i j hji hi=>by rw[qaW hi (by omega)];exact h.1 i j hji hi,fun i hi=>by rw[qaW hi hi];exact h.2 i hi⟩
 unfold rkM
 rw[(qoS h' n (Nat.le_refl _)).1,List.length_range]
theorem qax.flat{A:Ent}{R C:Nat}{p:Int}(h:EIn p R C A):qax (qar A C R) p:=fun x hx=>by
 rw[← qci] at hx
 obtain⟨row,hrow,hx⟩:=List.mem_flatten.1 hx
 obtain⟨i,hi,rfl⟩:=List.mem_map.1 hrow
 obtain⟨j,hj,rfl⟩:=List.mem_map.1 hx
 exact h i j (List.mem_range.1 hi) (List.mem_range.1 hj)
theorem qiP(n:Nat)(s:Src)(p:Int)(d:Nat)(hn:n≤1000000000)(hs:SO n s)(hp:2≤p∧p≤251)(hd:d≤4) :
    qi1 n_Z168 [dR s,dI p,dI (d:Int)] o_Z168 fun(r:Int×Int×Int×Sim×Src×Unit)=>∃ cells s',r=(p,(d:Int),(d:Int),cells,s',())∧cells.length=d*d∧qax cells p∧rkM p d d cells=d∧SO (n+150) s':=by
  obtain⟨c,a,g,⟨⟩⟩:=s
  have hdd:d*d≤16:=Nat.mul_le_mul hd hd
  refine qbZ ?_
  simp only[run_Z168,Z168.ev]
  refine qbw (qmW n _ p d d (by omega) hs hp hd hd) fun r ⟨cells,s1,e,h1,h2,h3⟩=>?_
  subst e
  refine qaD (qhB p d d cells hp (by omega) (by omega) (by omega) h1 h2) ?_
  refine qg3 (fun h=>qaU ⟨cells,s1,rfl,h1,h2,?_,h3.le (by omega)⟩) fun _=>?_
  · have:((rkM p d d cells:Nat):Int)=(d:Int):=by simpa using h
    omega
  refine qaD (qfh p d (by omega)) ?_
  refine EvQ.start 1 (L:=fun φ N=>Z168.l0 (mkR (run E (φ 0))) (φ 0) N p (d:Int) 0 0 0 0 p (d:Int) (d:Int) s1.1 s1.2.1 s1.2.2.1 (qar qbK d d)) ?_ (fun _ _ _=>rfl)
  refine EvQ.loop 1 (σ:=Nat×Src×Ent) (L:=fun φ N st=>Z168.l0 (mkR (run E (φ 0))) (φ 0) N p (d:Int) (st.1:Int) 0 0 0 p (d:Int) (d:Int) st.2.1.1 st.2.1.2.1 st.2.1.2.2.1 (qar st.2.2 d d)) (fun _ _ _ _=>rfl)
    (fun st=>st.1≤d∧SO (n+70+10*st.1) st.2.1∧EIn p d d st.2.2∧Tri d st.2.2) (fun st=>d-st.1) (fun st hi ih=>?_) (0,s1,qbK) ⟨Nat.zero_le _,h3,fun i j _ _=>by show 0≤qbK i j∧qbK i j≤p-1;unfold qbK;split<;>omega,fun i j hj _=>by show qbK i j=0;unfold qbK;rw[if_neg (by omega)],fun i _=>by show qbK i i≠0;simp[qbK]⟩
  obtain⟨i,s2,A⟩:=st
  obtain⟨i1,i2,i3,i4⟩:=hi
  simp only at i1 i2 i3 i4 ih ⊢
  simp only[Z168.l0_succ _ qae]
  refine qcJ (fun h=>?_) fun h=>qaU ⟨qar A d d,s2,rfl,qaq,qax.flat i3,qp0 i4,i2.le (by omega)⟩
  have hid:i<d:=by omega
  have hp1:w64 (p-1)=p-1:=qaf (by omega) (by omega)
  rw[hp1]
  refine qbw (qbc _ s2 (p-1) (by omega) i2) fun(q:Int×Src×Unit) ⟨q1,q2,q3,q4⟩=>?_
  have hx:=qe4 hid hid
  have e1:w64 (1+q.1)=1+q.1:=qaf (by omega) (by omega)
  have hfl:=qaq (f:=A) (C:=d) (n:=d)
  rw[qgq (by omega),e1,Int.toNat_natCast,qad (by omega),qdf hid hid]
  refine qaQ (by simp only[Bool.and_eq_true,decide_eq_true_eq];omega) ?_
  have hA1:EIn p d d (fun k l=>if k=i∧l=i then 1+q.1 else A k l):=fun k l hk hl=>by
    show 0≤(if k=i∧l=i then 1+q.1 else A k l)∧(if k=i∧l=i then 1+q.1 else A k l)≤p-1
    split
    · omega
    · exact i3 k l hk hl
  have hA2:Tri d (fun k l=>if k=i∧l=i then 1+q.1 else A k l):=⟨fun k l hlk hk=>by
      show(if k=i∧l=i then 1+q.1 else A k l)=0
      rw[if_neg (by omega)];exact i4.1 k l hlk hk,fun k hk=>by
      show(if k=i∧k=i then 1+q.1 else A k k)≠0
      split
      · omega
      · exact i4.2 k hk⟩
  generalize (fun k l=>if k=i∧l=i then 1+q.1 else A k l)=A1 at hA1 hA2
  refine EvQ.start 2 (L:=fun φ N=>Z168.l1 (mkR (run E (φ 0))) (φ 0) (φ 1) N p (d:Int) (i:Int) ((i+1:Nat):Int) 0 0 0 p (d:Int) (d:Int) q.2.1.1 q.2.1.2.1 q.2.1.2.2.1 (qar A1 d d)) ?_ (fun _ _ _=>rfl)
  refine EvQ.loop 2 (σ:=Nat×Src×Ent) (L:=fun φ N st=>Z168.l1 (mkR (run E (φ 0))) (φ 0) (φ 1) N p (d:Int) (i:Int) (st.1:Int) 0 0 0 p (d:Int) (d:Int) st.2.1.1 st.2.1.2.1 st.2.1.2.2.1 (qar st.2.2 d d)) (fun _ _ _ _=>rfl)
    (fun st=>i+1≤st.1∧st.1≤d∧SO (n+70+10*i+2*st.1) st.2.1∧EIn p d d st.2.2∧Tri d st.2.2) (fun st=>d-st.1) (fun st hi ih2=>?_) (i+1,q.2.1,A1) ⟨Nat.le_refl _,hid,q4.le (by show n+70+10*i+2≤n+70+10*i+2*(i+1);omega),hA1,hA2⟩
  obtain⟨k,s3,B⟩:=st
  obtain⟨k0,k1,k2,k3,k4⟩:=hi
  simp only at k0 k1 k2 k3 k4 ih2 ⊢
  simp only[Z168.l1_succ _ qae]
  refine qcJ (fun h=>?_) fun h=>?_
  · have hkd:k<d:=by omega
    refine qbw (qbc _ s3 p (by omega) k2) fun(t:Int×Src×Unit) ⟨t1,t2,t3,t4⟩=>?_
    have hx:=qe4 hid hkd
    have hfl:=qaq (f:=B) (C:=d) (n:=d)
    rw[qgq (by omega),Int.toNat_natCast,qad (by omega),qdf hid hkd]
    refine qaQ (by simp only[Bool.and_eq_true,decide_eq_true_eq];omega) ?_
    refine ih2 (k+1,t.2.1,_) ⟨by show i+1≤k+1;omega,by show k+1≤d;omega,t4.le (by show n+70+10*i+2*k+2≤n+70+10*i+2*(k+1);omega),fun x l hx' hl=>?_,fun x l hlx hx'=>?_,fun x hx'=>?_⟩ (by show d-(k+1)<d-k;omega)
    · show 0≤(if x=i∧l=k then t.1 else B x l)∧(if x=i∧l=k then t.1 else B x l)≤p-1
      split
      · omega
      · exact k3 x l hx' hl
    · show(if x=i∧l=k then t.1 else B x l)=0
      rw[if_neg (by omega)];exact k4.1 x l hlx hx'
    · show(if x=i∧x=k then t.1 else B x x)≠0
      rw[if_neg (by omega)];exact k4.2 x hx'
  · have:k=d:=by omega
    rw[qad (by omega)]
    exact ih (i+1,s3,B) ⟨hid,k2.le (by show n+70+10*i+2*k≤n+70+10*(i+1);omega),k3,k4⟩ (by show d-(i+1)<d-i;omega)
end VeT
open Go Go.Proofs Ve
namespace VeT
noncomputable def qgA(p:Int)(d:Nat)(cells:Sim):Ent:=(elS p d (qbJ (qfz cells (qar qbK d d) d d d) (d+d)) (d+d)).1
noncomputable def qqE(p:Int)(d:Nat)(cells:Sim):Sim:=qar (fun i k=>qgA p d cells i (d+k)) d d
theorem qmP{p:Int}{a b:Sim}{W V R:Nat}(ha:qax a p)(hb:qax b p)(hl:a.length=R*W)(hbl:b.length=R*V):EIn p R (W+V) (qkt a b W V):=fun i j hi hj=>by
 unfold qkt
 split
 ·exact qcu ha hl i j hi (by omega)
 ·exact qcu hb hbl i (j-W) hi (by omega)
theorem qm9{p:Int}(hp:2≤p){d:Nat}:EIn p d d qbK:=fun i j _ _=>by
 show 0≤qbK i j∧qbK i j≤p-1
 unfold qbK;split<;>omega
theorem qoN{p:Int}(hp:2≤p){d:Nat}{cells:Sim}(hl:cells.length=d*d)(he:qax cells p):EIn p d (d+d) (qbJ (qfz cells (qar qbK d d) d d d) (d+d)):=fun i j hi hj=>by
 unfold qfz;rw[qaW hi hj]
 exact qmP he (qax.flat (qm9 hp)) hl qaq i j hi hj
theorem qoR{p:Int}(hp:2≤p){d:Nat}{cells:Sim}(hl:cells.length=d*d)(he:qax cells p):qax (qqE p d cells) p∧(qqE p d cells).length=d*d:=by
 refine⟨qax.flat fun i j hi hj=>?_,qaq⟩
 exact(qew hp (qoN hp hl he) (d+d)).1 i (d+j) hi (by omega)
theorem qgg(p:Int)(d:Nat)(cells:Sim)(hp:Pr p)(hd:d≤4)(hl:cells.length=d*d)(he:qax cells p)(hr:rkM p d d cells=d) :
  qi1 n_Z120 [dI p,dI (d:Int),dI (d:Int),dL cells] o_Z120 fun(r:Int×Int×Int×Sim×Int×Unit)=>r=(p,(d:Int),(d:Int),qqE p d cells,0,()):=by
 have hp2:2≤p∧p≤251:=⟨hp.1,hp.2.1⟩
 have hdd:d*d≤16:=Nat.mul_le_mul hd hd
 have hd2:d*(d+d)≤32:=Nat.mul_le_mul hd (show d+d≤8 by omega)
 have hVM:VM (p,(d:Int),(d:Int),cells,()):=⟨hp,⟨by show(0:Int)≤d;omega,by show(d:Int)≤32;omega⟩,⟨by show(0:Int)≤d;omega,by show(d:Int)≤32;omega⟩,by show(cells.length:Int)=d*d;rw[hl];simp,he⟩
 have hSm:Sm (.st cM) (p,(d:Int),(d:Int),cells,()):=⟨trivial,trivial,trivial,⟨by show cells.length≤1048576;omega,fun _ _=>trivial⟩,trivial⟩
 refine qbZ ?_
 simp only[run_Z120,Z120.ev]
 refine qaD (qlK _ hSm) (qiG (by simp[qaP hVM]) (qiG (by simp) ?_))
 refine qaD (qhB p d d cells hp2 (by omega) (by omega) (by omega) hl he) (qiG (by simp[hr]) ?_)
 refine qaD (qfh p d (by omega)) ?_
 refine qaD (qow p d d d cells (qar qbK d d) (by omega) (by omega) (by omega) hl qaq) ?_
 have hJ:qax (qfz cells (qar qbK d d) d d d) p:=qax.flat (qmP he (qax.flat (qm9 hp2.1)) hl qaq)
 obtain⟨det,hred⟩:=qff p d (d+d) (qfz cells (qar qbK d d) d d d) hp2 (by omega) (by omega) (by omega) qaq hJ
 refine qaD hred ?_
 refine qaD (qb9 p d d (by omega) (by omega)) ?_
 have hF:(elS p d (qbJ (qfz cells (qar qbK d d) d d d) (d+d)) (d+d)).1=qgA p d cells:=rfl
 simp only[hF]
 have hz:List.replicate (d*d) (0:Int)=qar (fun _ _=>0) d d:=by
  refine(List.eq_replicate_iff.2 ⟨qaq,fun x hx=>?_⟩).symm
  rw[← qci] at hx
  obtain⟨row,hrow,hx⟩:=List.mem_flatten.1 hx
  obtain⟨i,hi,rfl⟩:=List.mem_map.1 hrow
  obtain⟨j,hj,rfl⟩:=List.mem_map.1 hx
  rfl
 rw[hz]
 have hFl:=qaq (f:=qgA p d cells) (C:=d+d) (n:=d)
 refine EvQ.start 1 (L:=fun φ N=>Z120.l0 (mkR (run E (φ 0))) (φ 0) N 0 p (d:Int) (d:Int) cells 0 0 0 p (d:Int) ((d+d:Nat):Int) (qfz cells (qar qbK d d) d d d) p (d:Int) ((d+d:Nat):Int) (qar (qgA p d cells) (d+d) d) p (d:Int) (d:Int) (qar (fun _ _=>0) d d)) ?_ (fun _ _ _=>rfl)
 refine EvQ.loop 1 (σ:=Nat×Ent) (L:=fun φ N st=>Z120.l0 (mkR (run E (φ 0))) (φ 0) N (st.1:Int) p (d:Int) (d:Int) cells 0 0 0 p (d:Int) ((d+d:Nat):Int) (qfz cells (qar qbK d d) d d d) p (d:Int) ((d+d:Nat):Int) (qar (qgA p d cells) (d+d) d) p (d:Int) (d:Int) (qar st.2 d d)) (fun _ _ _ _=>rfl)
  (fun st=>st.1≤d∧∀ i j,i<st.1→j<d→st.2 i j=qgA p d cells i (d+j)) (fun st=>d-st.1) (fun st hi ih=>?_) (0,fun _ _=>0) ⟨Nat.zero_le _,fun i j h=>by omega⟩
 obtain⟨i,B⟩:=st
 obtain⟨i1,i2⟩:=hi
 simp only at i1 i2 ih ⊢
 simp only[Z120.l0_succ _ qae]
 refine qcJ (fun h=>?_) fun h=>qaU ?_
 ·have hid:i<d:=by omega
  refine EvQ.start 2 (L:=fun φ N=>Z120.l1 (mkR (run E (φ 0))) (φ 0) (φ 1) N (i:Int) 0 p (d:Int) (d:Int) cells 0 0 0 p (d:Int) ((d+d:Nat):Int) (qfz cells (qar qbK d d) d d d) p (d:Int) ((d+d:Nat):Int) (qar (qgA p d cells) (d+d) d) p (d:Int) (d:Int) (qar B d d)) ?_ (fun _ _ _=>rfl)
  refine EvQ.loop 2 (σ:=Nat×Ent) (L:=fun φ N st=>Z120.l1 (mkR (run E (φ 0))) (φ 0) (φ 1) N (i:Int) (st.1:Int) p (d:Int) (d:Int) cells 0 0 0 p (d:Int) ((d+d:Nat):Int) (qfz cells (qar qbK d d) d d d) p (d:Int) ((d+d:Nat):Int) (qar (qgA p d cells) (d+d) d) p (d:Int) (d:Int) (qar st.2 d d)) (fun _ _ _ _=>rfl)
   (fun st=>st.1≤d∧(∀ i' j,i'<i→j<d→st.2 i' j=qgA p d cells i' (d+j))∧∀ j,j<st.1→st.2 i j=qgA p d cells i (d+j)) (fun st=>d-st.1) (fun st hk ih2=>?_) (0,B) ⟨Nat.zero_le _,i2,fun j h=>by omega⟩
  obtain⟨k,D⟩:=st
  obtain⟨k1,k2,k3⟩:=hk
  simp only at k1 k2 k3 ih2 ⊢
  simp only[Z120.l1_succ _ qae]
  refine qcJ (fun h=>?_) fun h=>?_
  ·have hkd:k<d:=by omega
   have hx:=qe4 hid hkd
   have hx2:=qe4 (R:=d) (C:=d+d) hid (show d+k<d+d by omega)
   have hDl:=qaq (f:=D) (C:=d) (n:=d)
   have e1:w64 (w64 (w64 ((i:Int)*((d+d:Nat):Int))+(d:Int))+(k:Int))=((i*(d+d)+(d+k):Nat):Int):=by
    rw[qgq (by omega),qaf (by omega) (by omega)];omega
   rw[e1,qgq (by omega),Int.toNat_natCast,qad (by omega)]
   refine qa9 (qbh.trans (qce hid (show d+k<d+d by omega))) (qaQ (by simp only[Bool.and_eq_true,decide_eq_true_eq];omega) ?_)
   rw[qdf hid hkd]
   refine ih2 (k+1,_) ⟨hkd,fun i' j hi' hj=>?_,fun j hj=>?_⟩ (by show d-(k+1)<d-k;omega)
   ·show(if i'=i∧j=k then _ else D i' j)=_
    rw[if_neg (by omega)];exact k2 i' j hi' hj
   ·show(if i=i∧j=k then qgA p d cells i (d+k) else D i j)=_
    by_cases e:j=k
    ·rw[if_pos ⟨rfl,e⟩,e]
    ·rw[if_neg (by omega)];exact k3 j (by have:j<k+1:=hj;omega)
  ·have:k=d:=by omega
   subst this
   rw[qad (by omega)]
   refine ih (i+1,D) ⟨hid,fun i' j hi' hj=>?_⟩ (by show k-(i+1)<k-i;omega)
   by_cases e:i'=i
   ·subst e;exact k3 j hj
   ·exact k2 i' j (by have:i'<i+1:=hi';omega) hj
 ·have:i=d:=by omega
  subst this
  show(p,(i:Int),(i:Int),qar B i i,(0:Int),())=_
  rw[qaJ fun i' j hi' hj=>i2 i' j hi' hj]
  rfl
end VeT
open Go Go.Proofs Ve
namespace VeT
def BOk(p:Int)(d:Nat)(m:Mat):Prop:=∃ cells,m=(p,(d:Int),(d:Int),cells,())∧cells.length=d*d∧qax cells p∧rkM p d d cells=d
noncomputable def qn7(p:Int)(d:Nat)(m:Mat):Mat:=(p,(d:Int),(d:Int),qqE p d m.2.2.2.1,())
theorem qrL{p:Int}{d:Nat}{cells:Sim}(hp:Pr p)(hd:d≤4)(hl:cells.length=d*d)(he:qax cells p):VM (p,(d:Int),(d:Int),cells,()) :=
 ⟨hp,⟨by show(0:Int)≤d;omega,by show(d:Int)≤32;omega⟩,⟨by show(0:Int)≤d;omega,by show(d:Int)≤32;omega⟩,by show(cells.length:Int)=d*d;rw[hl];simp,he⟩
theorem BOk.vm{p:Int}{d:Nat}{m:Mat}(hp:Pr p)(hd:d≤4)(h:BOk p d m):VM m∧VM (qn7 p d m):=by
 obtain⟨cells,rfl,h1,h2,h3⟩:=h
 exact⟨qrL hp hd h1 h2,qrL hp hd (qoR hp.1 h1 h2).2 (qoR hp.1 h1 h2).1⟩
theorem qmK{c:List Sim}{a b:Nat}(h:a≤b):plc c a≤plc c b:=by
  induction b with
  | zero => obtain rfl : a = 0 := by omega
            exact Nat.le_refl _
  | succ b ih =>
    rcases Nat.lt_or_ge b a with h1 | h1
    · obtain rfl:a=b+1:=by omega
      exact Nat.le_refl _
    · rw[qeP];exact Nat.le_trans (ih h1) (Nat.le_add_right _ _)
noncomputable def chM(c:List Sim)(p:Int)(d:Nat)(bs:List Mat)(k i:Nat):Mat:=qfE (bs.getD k mz) (qn7 p d (bs.getD ((qaH c k).getD i 0).toNat mz))
theorem qmk(n:Nat)(s:Src)(c:List Sim)(p:Int)(d:Nat)(hn:n≤100000000)(hs:SO n s)(hv:VC c)(hp:Pr p)(hd:d≤3) :
    qi1 n_Z162 [dR s,dC (c,()),dI p,dI (d:Int)] o_Z162 fun(r:List Sim×Int×Sim×List Mat×Src×Unit)=>∃ ms s' bs,r=(c,p,List.replicate c.length (d:Int),ms,s',())∧ms.length=plc c c.length ∧
      bs.length=c.length∧(∀ m∈bs,BOk p d m)∧(∀ k i,k<c.length→i<(qaH c k).length→ms.getD (plc c k+i) mz=chM c p d bs k i)∧SO (n+7300) s':=by
  obtain⟨c0,a,g,⟨⟩⟩:=s
  have hp2:2≤p∧p≤251:=⟨hp.1,hp.2.1⟩
  have h48:=hv.1
  have hsr:=hv.srt
  have h192:=qeR hv
  refine qbZ ?_
  simp only[run_Z162,Z162.ev]
  refine qaD (qeA c p d hd hv.sm hv) ?_
  -- the bases
  refine EvQ.start 1 (L:=fun φ N=>Z162.l0 (mkR (run E (φ 0))) (φ 0) N (c,()) p (d:Int) 0 0 p [] c0 a g (List.replicate (qb4 c c.length).length (qb3 p d)) c (List.replicate c.length (d:Int))) ?_ (fun _ _ _=>rfl)
  refine EvQ.loop 1 (σ:=Nat×List Mat×Src) (L:=fun φ N st=>Z162.l0 (mkR (run E (φ 0))) (φ 0) N (c,()) p (d:Int) (st.1:Int) 0 p st.2.1 st.2.2.1 st.2.2.2.1 st.2.2.2.2.1 (List.replicate (qb4 c c.length).length (qb3 p d)) c (List.replicate c.length (d:Int))) (fun _ _ _ _=>rfl)
    (fun st=>st.1≤c.length∧st.2.1.length=st.1∧(∀ m∈st.2.1,BOk p d m)∧SO (n+150*st.1) st.2.2) (fun st=>c.length-st.1) (fun st hi ih=>?_) (0,[],(c0,a,g,())) ⟨Nat.zero_le _,rfl,fun m hm=>by simp at hm,hs⟩
  obtain⟨k,bs,s1⟩:=st
  obtain⟨i1,i2,i3,i4⟩:=hi
  simp only at i1 i2 i3 i4 ih ⊢
  simp only[Z162.l0_succ _ qae]
  refine qcJ (fun h=>?_) fun h=>?_
  · have hk : k < c.length := by have h : (k : Int) < (c.length : Int) := h
                                 omega
    refine qbw (qiP _ s1 p d (by omega) i4 hp2 (by omega)) fun r ⟨cells,s2,e,h1,h2,h3,h4⟩=>?_
    subst e
    refine qaQ (decide_eq_true (by simp;omega)) ?_
    rw[qad (by omega)]
    exact ih (k+1,bs++[(p,(d:Int),(d:Int),cells,())],s2) ⟨hk,by simp[i2],fun m hm=>by
      rcases List.mem_append.1 hm with hm | hm
      · exact i3 m hm
      · rw[List.mem_singleton] at hm;exact⟨cells,hm,h1,h2,h3⟩,h4.le (by show n+150*k+150≤n+150*(k+1);omega)⟩ (by show c.length-(k+1)<c.length-k;omega)
  have hkl : k = c.length := by have h : ¬ (k : Int) < (c.length : Int) := h
                                omega
  subst hkl
  clear ih
  have hbs:∀ f,f<c.length→bs[f]? = some (bs.getD f mz)∧BOk p d (bs.getD f mz):=fun f hf=>by
    have:f<bs.length:=by omega
    rw[List.getD_eq_getElem?_getD,List.getElem?_eq_getElem this]
    exact⟨rfl,i3 _ (List.getElem_mem this)⟩
  -- the maps
  have hpl:plc c c.length=(qb4 c c.length).length:=rfl
  refine EvQ.start 1 (L:=fun φ N=>Z162.l1 (mkR (run E (φ 0))) (φ 0) N (c,()) 0 0 p bs s1.1 s1.2.1 s1.2.2.1 (List.replicate (qb4 c c.length).length (qb3 p d)) c (List.replicate c.length (d:Int))) ?_ (fun _ _ _=>rfl)
  refine EvQ.loop 1 (σ:=Nat×List Mat) (L:=fun φ N st=>Z162.l1 (mkR (run E (φ 0))) (φ 0) N (c,()) (st.1:Int) 0 p bs s1.1 s1.2.1 s1.2.2.1 st.2 c (List.replicate c.length (d:Int))) (fun _ _ _ _=>rfl)
    (fun st=>st.1≤c.length∧st.2.length=plc c c.length∧∀ k i,k<st.1→i<(qaH c k).length→st.2.getD (plc c k+i) mz=chM c p d bs k i) (fun st=>c.length-st.1) (fun st hi ih=>?_) (0,List.replicate (qb4 c c.length).length (qb3 p d)) ⟨Nat.zero_le _,by rw[hpl];simp,fun k i h=>by omega⟩
  obtain⟨k,ms⟩:=st
  obtain⟨j1,j2,j3⟩:=hi
  simp only at j1 j2 j3 ih ⊢
  simp only[Z162.l1_succ _ qae]
  refine qcJ (fun h=>?_) fun h=>?_
  · have hk : k < c.length := by have h : (k : Int) < (c.length : Int) := h
                                 omega
    have hf4:=hv.fIdx4 hk
    refine qaD (qcG c k hk hv.sm) ?_
    refine EvQ.start 2 (L:=fun φ N=>Z162.l2 (mkR (run E (φ 0))) (φ 0) (φ 1) N (c,()) (k:Int) (qaH c k) 0 0 p bs s1.1 s1.2.1 s1.2.2.1 ms c (List.replicate c.length (d:Int))) ?_ (fun _ _ _=>rfl)
    refine EvQ.loop 2 (σ:=Nat×List Mat) (L:=fun φ N st=>Z162.l2 (mkR (run E (φ 0))) (φ 0) (φ 1) N (c,()) (k:Int) (qaH c k) (st.1:Int) 0 p bs s1.1 s1.2.1 s1.2.2.1 st.2 c (List.replicate c.length (d:Int))) (fun _ _ _ _=>rfl)
      (fun st=>st.1≤(qaH c k).length∧st.2.length=plc c c.length∧(∀ k' i,k'<k→i<(qaH c k').length→st.2.getD (plc c k'+i) mz=chM c p d bs k' i)∧∀ i,i<st.1→st.2.getD (plc c k+i) mz=chM c p d bs k i) (fun st=>(qaH c k).length-st.1) (fun st hi ih2=>?_) (0,ms) ⟨Nat.zero_le _,j2,j3,fun i h=>by omega⟩
    obtain⟨i,o⟩:=st
    obtain⟨l1,l2,l3,l4⟩:=hi
    simp only at l1 l2 l3 l4 ih2 ⊢
    simp only[Z162.l2_succ _ qae]
    refine qcJ (fun h=>?_) fun h=>?_
    · have hi:i<(qaH c k).length:=by omega
      obtain⟨f,f1,f2,f3⟩:=qeW hsr hv hk hi
      have f3':((qaH c k).getD i 0).toNat=f:=by first | exact f3 | (rw[f3];rfl)
      obtain⟨b1,cells,b2,b3,b4,b5⟩:=hbs f f1
      obtain⟨b6,cells2,b7,b8,b9,b10⟩:=hbs k hk
      obtain⟨v1,v2⟩:=BOk.vm hp (by omega) (hbs f f1).2
      obtain⟨v3,_⟩:=BOk.vm hp (by omega) (hbs k hk).2
      have hplt:plc c k+i<plc c c.length:=by
        have:=qmK (c:=c) (show k+1≤c.length from hk)
        rw[qeP] at this;omega
      have hple:=hv.plc (k:=c.length) (Nat.le_refl _)
      refine qa9 (qak hi) ?_
      simp only[f2,Int.toNat_natCast]
      refine qaQ (by simp only[Bool.and_eq_true,decide_eq_true_eq];omega) (qa9 b1 ?_)
      rw[b2]
      refine qbw (qgg p d cells hp (by omega) b3 b4 b5) fun r hr=>?_
      subst hr
      refine qaQ (by simp only[Bool.and_eq_true,decide_eq_true_eq];omega) ?_
      refine qaD (qdv c k i (by omega) (by omega) hv) ?_
      have e1:List.getD bs k (qqm cM)=bs.getD k mz:=by
        rw[List.getD_eq_getElem?_getD,List.getD_eq_getElem?_getD,b6];rfl
      have e2:qn7 p d (bs.getD f mz)=(p,(d:Int),(d:Int),qqE p d cells,()):=by rw[b2];rfl
      have hT:=qgM (bs.getD k mz) (qn7 p d (bs.getD f mz)) v3 v2 (by rw[b7];rfl)
      rw[e2] at hT
      rw[e1]
      refine qaD hT (qaQ (show(decide ((0:Int)≤((plc c k+i:Nat):Int))&&decide (((plc c k+i:Nat):Int)<(o.length:Int)))=true by rw[l2];simp only[Bool.and_eq_true,decide_eq_true_eq];omega) ?_)
      rw[qad (by omega),Int.toNat_natCast]
      have e3:qfE (bs.getD k mz) (p,(d:Int),(d:Int),qqE p d cells,())=chM c p d bs k i:=by
        unfold chM;rw[f3',e2]
      rw[e3]
      refine ih2 (i+1,o.set (plc c k+i) (chM c p d bs k i)) ⟨hi,by rw[List.length_set];exact l2,fun k' i' hk' hi'=>?_,fun i' hi'=>?_⟩ (by show(qaH c k).length-(i+1)<(qaH c k).length-i;omega)
      · have:=qmK (c:=c) (show k'+1≤k from hk')
        rw[qeP] at this
        rw[List.getD_eq_getElem?_getD,List.getElem?_set_ne (by omega),← List.getD_eq_getElem?_getD]
        exact l3 k' i' hk' hi'
      · rw[List.getD_eq_getElem?_getD]
        by_cases e:i'=i
        · subst e
          rw[List.getElem?_set_self (by rw[l2];exact hplt)];rfl
        · rw[List.getElem?_set_ne (by omega),← List.getD_eq_getElem?_getD]
          exact l4 i' (by have:i'<i+1:=hi';omega)
    · have:i=(qaH c k).length:=by omega
      subst this
      rw[qad (by omega)]
      refine ih (k+1,o) ⟨hk,l2,fun k' i' hk' hi'=>?_⟩ (by show c.length-(k+1)<c.length-k;omega)
      by_cases e:k'=k
      · subst e;exact l4 i' hi'
      · exact l3 k' i' (by have:k'<k+1:=hk';omega) hi'
  · have hkl : k = c.length := by have h : ¬ (k : Int) < (c.length : Int) := h
                                  omega
    subst hkl
    exact qaU ⟨ms,s1,bs,rfl,j2,i2,i3,fun k' i' hk' hi'=>j3 k' i' hk' hi',i4.le (by omega)⟩
end VeT
open Go Go.Proofs Ve
namespace VeT
theorem qkj:∀ {l x:Sim},x.Pairwise (·<·)→l.Pairwise (·<·)→(∀ v∈x,v∈l)→x.Sublist l
 | [],x,_,_,h=>by
  cases x with
  | nil=>exact .slnil
  | cons y x=>exact absurd (h y List.mem_cons_self) (by simp)
 | a::l,[],_,_,_=>List.nil_sublist _
 | a::l,y::x,hx,hl,h=>by
  obtain⟨x1,x2⟩:=List.pairwise_cons.1 hx
  obtain⟨l1,l2⟩:=List.pairwise_cons.1 hl
  by_cases e:y=a
  ·subst e
   refine .cons_cons _ (qkj x2 l2 fun v hv=>?_)
   have:=x1 v hv
   rcases List.mem_cons.1 (h v (List.mem_cons_of_mem _ hv)) with h1 | h1
   ·omega
   ·exact h1
  ·have hy:y∈l:=(List.mem_cons.1 (h y List.mem_cons_self)).resolve_left e
   have hya:=l1 y hy
   refine .cons _ (qkj hx l2 fun v hv=>?_)
   rcases List.mem_cons.1 (h v hv) with h1 | h1
   ·rcases List.mem_cons.1 hv with h2 | h2
    ·omega
    ·have:=x1 v h2;omega
   ·exact h1
theorem qgL{c:List Sim}{d:Nat}:∀ {k:Nat},k≤c.length→(qav c (d:Int) k).length=((c.take k).filter fun x=>x.length==d+1).length
 | 0,_=>by simp[qav]
 | k+1,hk=>by
  rw[qc4,List.length_append,qgL (by omega),List.take_succ_eq_append_getElem (by omega),List.filter_append,List.length_append]
  congr 1
  have e:c.getD k []=c[k]:=by rw[List.getD_eq_getElem?_getD,List.getElem?_eq_getElem (by omega)];rfl
  rw[e]
  by_cases h:(c[k]).length=d+1
  ·rw[if_pos (by omega),List.filter_cons_of_pos (by simp[h])];rfl
  ·rw[if_neg (by omega),List.filter_cons_of_neg (by simp[h])];rfl
theorem qhF{c:List Sim}{st:Sim}{d:Int}(hst:∀ x∈st,0≤x∧x≤3):∀ {n:Nat},SDn c st d n≤3*((qav c d n).length:Int)
 | 0=>by simp[SDn,qav]
 | n+1=>by
  have h:=qhF hst (c:=c) (d:=d) (n:=n)
  have h2:=qjV hst n
  rw[qeO,qc4,List.length_append]
  split
  ·simp only[List.length_singleton];omega
  ·simp only[List.length_nil];omega
theorem qm5{c:List Sim}(hv:VC c)(h5:S5 c){d:Nat}(hd:d<4):(qav c (d:Int) c.length).length≤10:=by
 rw[qgL (Nat.le_refl _),List.take_length]
 refine Nat.le_trans (qhL (d:=(qpz [0,1,2,3,4]).filter fun x=>x.length==d+1) (hv.srt.nodup.filter _) fun x hx=>?_) ?_
 ·obtain⟨h1,h2⟩:=List.mem_filter.1 hx
  refine List.mem_filter.2 ⟨qhk (qkj ?_ (by decide) fun v hvx=>?_),h2⟩
  ·obtain⟨k,hk,rfl⟩:=List.getElem_of_mem h1
   have:=hv.2.1 k hk
   rw[List.getD_eq_getElem?_getD,List.getElem?_eq_getElem hk] at this
   exact this.2.2.1.pairwise
  ·obtain⟨k,hk,rfl⟩:=List.getElem_of_mem h1
   have:=hv.2.1 k hk
   rw[List.getD_eq_getElem?_getD,List.getElem?_eq_getElem hk] at this
   have a1:=(this.2.2.2 v hvx).1
   have a2:=(h5 _ h1).2 v hvx
   simp only[List.mem_cons,List.not_mem_nil,or_false]
   omega
 ·have:d=0∨d=1∨d=2∨d=3:=by omega
  rcases this with rfl | rfl | rfl | rfl<;>decide
theorem qr8{c:List Sim}(hv:VC c)(h5:S5 c){st:Sim}(hl:st.length=c.length)(hst:∀ x∈st,0≤x∧x≤3):SK c st:=by
 refine⟨hl,hst,fun d hd=>?_⟩
 have h1:=qm5 hv h5 hd
 have h2:=qhF hst (c:=c) (d:=(d:Int)) (n:=c.length)
 rw[qoH]
 omega
theorem qrb{c:List Sim}{p:Int}{st:Sim}{ms:List Mat}(hv:VC c)(h5:S5 c)(hp:Pr p)(hl:st.length=c.length)(hst:∀ x∈st,0≤x∧x≤3)(hm:ms.length=plc c c.length)
  (hq:∀ k,k<c.length→∀ i,i<(qaH c k).length→Bt (ms.getD (plc c k+i) mz) p (st.getD ((qaH c k).getD i 0).toNat 0) (st.getD k 0)):VS c p st ms :=
 ⟨hv,hp,qr8 hv h5 hl hst,hm.symm,hq⟩
end VeT
open Go Go.Proofs Ve
namespace VeT
theorem qmN{p:Int}{a b:Nat}{cells:Sim}(hp:Pr p)(ha:a≤32)(hb:b≤32)(hl:cells.length=a*b)(he:qax cells p):VM (p,(a:Int),(b:Int),cells,()) :=
 ⟨hp,⟨by show(0:Int)≤a;omega,by show(a:Int)≤32;omega⟩,⟨by show(0:Int)≤b;omega,by show(b:Int)≤32;omega⟩,by show(cells.length:Int)=a*b;rw[hl];simp,he⟩
theorem qpj{c:List Sim}{p:Int}{st:Sim}(hv:VC c)(hp:Pr p)(hl:st.length=c.length)(hst:∀ x∈st,0≤x∧x≤3){k i:Nat}(hk:k<c.length)(hi:i<(qaH c k).length) :
  Bt (((qb4 c c.length).map (zOf p st)).getD (plc c k+i) mz) p (st.getD ((qaH c k).getD i 0).toNat 0) (st.getD k 0):=by
 have hg:=qcB (n:=c.length) hk hi
 obtain⟨f,f1,f2,f3⟩:=qeW hv.srt hv hk hi
 obtain⟨a,ha,ea,hka,eka⟩:=qgD hl hst hk
 obtain⟨b,hb,eb,hfb,efb⟩:=qgD hl hst f1
 rw[List.getD_eq_getElem?_getD,List.getElem?_map,hg]
 show Bt (zOf p st ((k:Int),(i:Int),(qaH c k).getD i 0,())) p _ _
 unfold zOf
 simp only[f3,Int.toNat_natCast,ea,eb]
 exact⟨qmN hp (by omega) (by omega) (by simp) (qax.zeros hp.1 _),rfl,rfl,rfl⟩
theorem qn6{c:List Sim}{p:Int}{d:Nat}{bs:List Mat}(hv:VC c)(hp:Pr p)(hd:d≤4)(hbl:bs.length=c.length)(hb:∀ m∈bs,BOk p d m){k i:Nat}(hk:k<c.length)(hi:i<(qaH c k).length) :
  Bt (chM c p d bs k i) p ((List.replicate c.length (d:Int)).getD ((qaH c k).getD i 0).toNat 0) ((List.replicate c.length (d:Int)).getD k 0):=by
 obtain⟨f,f1,f2,f3⟩:=qeW hv.srt hv hk hi
 have hbs:∀ f,f<c.length→BOk p d (bs.getD f mz):=fun f hf=>by
  have:f<bs.length:=by omega
  rw[List.getD_eq_getElem?_getD,List.getElem?_eq_getElem this]
  exact hb _ (List.getElem_mem this)
 have hr:∀ f,f<c.length→(List.replicate c.length (d:Int)).getD f 0=(d:Int):=fun f hf=>by
  rw[List.getD_eq_getElem?_getD,List.getElem?_replicate,if_pos hf];rfl
 rw[f3,Int.toNat_natCast,hr f f1,hr k hk]
 unfold chM
 rw[f3,Int.toNat_natCast]
 obtain⟨v1,v2⟩:=BOk.vm hp hd (hbs f f1)
 obtain⟨v3,_⟩:=BOk.vm hp hd (hbs k hk)
 obtain⟨cells,e,_⟩:=hbs k hk
 refine⟨qep v3 v2,?_,?_,rfl⟩
 ·rw[e];rfl
 ·rw[e];rfl
end VeT
open Go Go.Proofs Ve
namespace VeT
def sk1(c:List Sim):List Sim:=c.filter fun x=>decide (x.length≤2)
theorem qot(c:List Sim)(hv:VC c):Ret E n_Z160 [dC (c,()),dI 1] ⟨o_Z160,(sk1 c,())⟩:=by
 have hl:=hv.1
 refine qaj ?_
 simp only[run_Z160,Z160.ev]
 refine Ev.start (p:=fun φ n=>Z160.l0 (mkR (run E (φ 0))) (φ 0) n (c,()) 1 0 []=_) 1 ?_ (fun _ _ _ h=>h)
 refine qan 1 (L:=fun φ n k o=>Z160.l0 (mkR (run E (φ 0))) (φ 0) n (c,()) 1 k o) (len:=c.length) (fun k=>sk1 (c.take k)) (fun _ _ _ _ _=>rfl) (fun k r hk ih=>?_) ?_
 ·simp only[Z160.l0_succ _ qae]
  have h4:=hv.len4 hk
  rw[qag hk] at h4
  have e4:w64 ((1:Int)+1)=2:=qaf (by omega) (by omega)
  have hlen:(sk1 (c.take k)).length≤c.length:=Nat.le_trans (List.length_filter_le _ _) (by rw[List.length_take];omega)
  have e:sk1 (c.take (k+1))=sk1 (c.take k)++if c[k].length≤2 then [c[k]] else []:=by
   unfold sk1
   rw[List.take_succ_eq_append_getElem hk,List.filter_append]
   congr 1
   by_cases h:c[k].length≤2
   ·rw[if_pos h,List.filter_cons_of_pos (by simp[h])];rfl
   ·rw[if_neg h,List.filter_cons_of_neg (by simp[h])];rfl
  rw[e] at ih
  refine qaC (decide_eq_true (by show(k:Int)<(c.length:Int);omega)) (qac (qak hk) ?_)
  by_cases h:c[k].length≤2
  ·rw[if_pos h] at ih
   refine qaC (decide_eq_true (by rw[e4];show(c[k].length:Int)≤2;omega)) (qac (qak hk) (qaa (qc1 _ (by show c[k].length≤_;omega)) (qao (by simp only[List.length_singleton,decide_eq_true_eq];omega) ?_)))
   rw[qad (by omega)];exact ih
  ·rw[if_neg h,List.append_nil] at ih
   refine qaI (decide_eq_false (by rw[e4];show ¬ (c[k].length:Int)≤2;omega)) ?_
   rw[qad (by omega)];exact ih
 ·simp only[Z160.l0_succ _ qae]
  refine qaI (decide_eq_false (by show ¬ ((c.length:Int)<(c.length:Int));omega)) (qah ?_)
  rw[List.take_of_length_le (Nat.le_refl _)]
end VeT
open Go Go.Proofs Ve
namespace VeT
theorem qop{f:Nat→Prop}:∀ {n:Nat},cnt f n=n→∀ c,c<n→f c
 | 0,_,c,h=>by omega
 | n+1,h,c,hc=>by
  have hle:cnt f n≤n:=by
   have h1:cnt f n≤cnt (fun _=>True) n:=qhj fun _ _ _=>trivial
   have h2:∀ n,cnt (fun _=>True) n≤n:=by
    intro n
    induction n with
    | zero=>exact Nat.le_refl _
    | succ n ih=>unfold cnt;split<;>omega
   exact Nat.le_trans h1 (h2 n)
  unfold cnt at h
  by_cases hf:f n
  ·rw[if_pos hf] at h
   by_cases e:c=n
   ·subst e;exact hf
   ·exact qop (n:=n) (by omega) c (by omega)
  ·rw[if_neg hf] at h;omega
theorem qq5{R W d:Nat}{F:Ent}{pv:List Nat}(h:Rf R W F pv)(hall:∀ c,c<d→c∈pv):∀ i,i<d→i<pv.length∧pv.getD i 0=i:=by
 intro i
 induction i using Nat.strongRecOn with
 | ind i ih =>
  intro hi
  obtain⟨k,hk,e⟩:=h.mem.1 (hall i hi)
  rcases Nat.lt_trichotomy k i with hlt | rfl | hgt
  ·have:=(ih k hlt (by omega)).2;omega
  ·exact⟨hk,e⟩
  ·refine⟨by omega,?_⟩
   have hm:=h.mono i k hgt hk
   rw[e] at hm
   -- pv i < i, so it is one of the earlier places
   have h2:=(ih (pv.getD i 0) hm (by omega)).2
   have h3:=(ih (pv.getD i 0) hm (by omega)).1
   have h4:=h.mono (pv.getD i 0) i hm (by omega)
   omega
theorem qoY{p:Int}{d:Nat}{m:Mat}(hp:Pr p)(hd:d≤4)(h:BOk p d m):qfE (qn7 p d m) m=qb3 p d:=by
 obtain⟨v1,v2⟩:=h.vm hp hd
 obtain⟨cells,e,hl,he,hr⟩:=h
 have hin:=qoN hp.1 hl he
 have hun:=qj4 hp (show d≤32 by omega)
 subst e
 refine qmi (qep v2 v1) hun rfl rfl rfl fun i j hi hj=>?_
 have hi':i<d:=by simpa [qfE,qn7] using hi
 have hj':j<d:=by simpa [qfE,qn7] using hj
 rw[qjf (a:=qn7 p d (p,(d:Int),(d:Int),cells,())) (b:=(p,(d:Int),(d:Int),cells,())) hi hj,qpm hi' hj']
 generalize hA:qbJ (qfz cells (qar qbK d d) d d d) (d+d)=A at hin
 obtain⟨hrf,heq⟩:=qgN hp hin (d+d) (Nat.le_refl _)
 have hF:qgA p d cells=(elS p d A (d+d)).1:=by unfold qgA;rw[hA]
 have hAl:∀ i j,i<d→j<d→A i j=qbJ cells d i j:=fun i j hi hj=>by
  rw[← hA];unfold qfz
  rw[qaW hi (by omega)];unfold qkt;rw[if_pos hj]
 have hAr:∀ i j,i<d→j<d→A i (d+j)=if i=j then 1 else 0:=fun i j hi hj=>by
  rw[← hA];unfold qfz
  rw[qaW hi (by omega)];unfold qkt;rw[if_neg (by omega),Nat.add_sub_cancel_left,qaW hi hj];rfl
 -- all of the first places are pivots
 have hrk:rkV p d (Spn p d d (qbJ cells d))=d:=by
  rw[← qrA hp (qcu he hl)];exact hr
 have hall:∀ c,c<d→c∈(elS p d A (d+d)).2:=fun c hc=>by
  obtain⟨_,x,⟨co,hco⟩,x1,x2⟩:=qop hrk c hc
  rw[← qrN hp.1 hrf]
  have hag:∀ j,j<d→qaB co (fun l=>A l j) d%p=x j%p:=fun j hj=>by
   rw[← hco j hj,qaw (d:=co) (h:=fun l=>qbJ cells d l j) fun l hl=>⟨rfl,hAl l j hl hj⟩]
  refine⟨by omega,fun j=>qaB co (fun l=>A l j) d,heq.spn.1 ⟨co,fun j _=>rfl⟩,fun j hj=>?_,?_⟩
  ·show qaB co (fun l=>A l j) d%p=0
   rw[hag j (by omega)];exact x1 j hj
  ·show qaB co (fun l=>A l c) d%p≠0
   rw[hag c hc];exact x2
 have hpv:=qq5 hrf hall
 generalize (elS p d A (d+d)).1=F at hF hrf heq
 generalize (elS p d A (d+d)).2=pv at hrf hall hpv
 obtain⟨co,hco⟩:=heq.1 i hi'
 have hFe:∀ k,k<d→F i (d+k)%p=co k%p:=fun k hk=>by
  rw[← hco (d+k) (by omega),qaE]
  rw[qaw (d:=fun l=>if l=k then 1 else 0) (h:=co) fun l hl=>⟨hAr l k hl hk,rfl⟩,qcQ hk]
 have hFj:F i j=if i=j then 1 else 0:=by
  have:=hrf.one i j hi' (hpv j hj').1
  rwa [(hpv j hj').2] at this
 show qaB (mE (qn7 p d (p,(d:Int),(d:Int),cells,())) i) (fun l=>qbJ cells ((d:Int)).toNat l j) ((d:Int)).toNat%p=_
 rw[Int.toNat_natCast]
 have e1:∀ l,l<d→mE (qn7 p d (p,(d:Int),(d:Int),cells,())) i l=F i (d+l):=fun l hl=>by
  show qbJ (qqE p d cells) ((d:Int)).toNat i l=_
  rw[Int.toNat_natCast];unfold qqE
  rw[qaW hi' hl,hF]
 rw[qlC (g:=co) fun l hl=>by rw[e1 l hl];exact hFe l hl]
 have:=hco j (by omega)
 rw[qaw (d:=co) (h:=fun l=>qbJ cells d l j) fun l hl=>⟨rfl,hAl l j hl hj'⟩,hFj] at this
 rw[this]
 have:=hp.1
 split
 ·exact Int.emod_eq_of_lt (by omega) (by omega)
 ·exact Int.zero_emod _
theorem qeS{c:List Sim}{ms:List Mat}(h:∀ k i j,k<c.length→3≤(c.getD k []).length→i<j→j<(c.getD k []).length→two c ms k i (j-1)=two c ms k j i):qbX c ms=none:=by
 cases e:qbX c ms with
 | none=>rfl
 | some t =>
  obtain⟨k,i,j⟩:=t
  obtain⟨h1,h2,h3,h4,_⟩:=qfp e
  unfold qbX at e
  obtain⟨k',hk,e⟩:=Option.bind_eq_some_iff.1 e
  obtain⟨i',hi,e⟩:=Option.bind_eq_some_iff.1 e
  obtain⟨j',hj,e⟩:=Option.map_eq_some_iff.1 e
  simp only[Prod.mk.injEq] at e
  obtain⟨rfl,rfl,rfl⟩:=e
  exact absurd (h _ _ _ h1 h2 h3 h4) (qaM hj).2.2
theorem qnw{c:List Sim}{ms:List Mat}{m:Mat}(hv:VC c)(h:∀ k i,k<c.length→i<(qaH c k).length→mp c ms k i=m):qbX c ms=none:=qeS fun k i j hk h3 hij hj=>by
 have hl:=qaF (c:=c) (k:=k)
 rw[if_pos (by omega)] at hl
 obtain⟨_,a2,a3⟩:=qbk hv hk (show i<(qaH c k).length by omega)
 obtain⟨_,b2,b3⟩:=qbk hv hk (show j<(qaH c k).length by omega)
 have la:=qaF (c:=c) (k:=fc c k i)
 have lb:=qaF (c:=c) (k:=fc c k j)
 rw[a3,List.length_eraseIdx_of_lt (by omega),if_pos (by omega)] at la
 rw[b3,List.length_eraseIdx_of_lt (by omega),if_pos (by omega)] at lb
 unfold two
 rw[h k i hk (by omega),h k j hk (by omega),h _ (j-1) a2 (by omega),h _ i b2 (by omega)]
theorem qn5{c:List Sim}{ms:List Mat}(h:∀ x∈c,x.length≤2):qbX c ms=none:=qeS fun k i j hk h3 _ _=>by
 rw[qag hk] at h3
 have:=h _ (List.getElem_mem hk)
 omega
theorem qjY{c:List Sim}{p:Int}{d:Nat}{bs ms:List Mat}(hv:VC c)(hp:Pr p)(hd:d≤4)(hbl:bs.length=c.length)(hb:∀ m∈bs,BOk p d m)
  (hm:∀ k i,k<c.length→i<(qaH c k).length→ms.getD (plc c k+i) mz=chM c p d bs k i):qbX c ms=none:=by
 have hbs:∀ f,f<c.length→BOk p d (bs.getD f mz):=fun f hf=>by
  have:f<bs.length:=by omega
  rw[List.getD_eq_getElem?_getD,List.getElem?_eq_getElem this]
  exact hb _ (List.getElem_mem this)
 have hmp:∀ k i,k<c.length→i<(qaH c k).length→mp c ms k i=qfE (bs.getD k mz) (qn7 p d (bs.getD (fc c k i) mz)):=fun k i hk hi=>hm k i hk hi
 have key:∀ k i j,k<c.length→i<(qaH c k).length→j<(qaH c (fc c k i)).length→two c ms k i j=qfE (bs.getD k mz) (qn7 p d (bs.getD (fc c (fc c k i) j) mz)):=fun k i j hk hi hj=>by
  obtain⟨_,a2,a3⟩:=qbk hv hk hi
  obtain⟨_,b2,b3⟩:=qbk hv a2 hj
  unfold two
  rw[hmp k i hk hi,hmp _ j a2 hj]
  have B1:=hbs k hk
  have B2:=hbs _ a2
  have B3:=hbs _ b2
  generalize fc c (fc c k i) j=g at *
  generalize fc c k i=f at *
  obtain⟨v1,w1⟩:=B1.vm hp hd
  obtain⟨v2,w2⟩:=B2.vm hp hd
  obtain⟨v3,w3⟩:=B3.vm hp hd
  obtain⟨_,e1,_⟩:=B1
  have B2':=B2
  obtain⟨_,e2,_⟩:=B2
  obtain⟨_,e3,_⟩:=B3
  have s1:(bs.getD k mz).1=p∧(bs.getD k mz).2.1=(d:Int)∧(bs.getD k mz).2.2.1=(d:Int):=by rw[e1];exact⟨rfl,rfl,rfl⟩
  have s2:(bs.getD f mz).1=p∧(bs.getD f mz).2.1=(d:Int)∧(bs.getD f mz).2.2.1=(d:Int):=by rw[e2];exact⟨rfl,rfl,rfl⟩
  rw[qi8 v1 w2 (qep v2 w3) s1.2.2 s2.2.1.symm s1.1,← qi8 w2 v2 w3 s2.2.1.symm s2.2.2 s2.1.symm,qoY hp hd B2',qnC (p:=p) (n:=d) w3 rfl rfl]
 refine qeS fun k i j hk h3 hij hj=>?_
 have hl:=qaF (c:=c) (k:=k)
 rw[if_pos (by omega)] at hl
 obtain⟨_,a2,a3⟩:=qbk hv hk (show i<(qaH c k).length by omega)
 obtain⟨_,b2,b3⟩:=qbk hv hk (show j<(qaH c k).length by omega)
 have la:=qaF (c:=c) (k:=fc c k i)
 have lb:=qaF (c:=c) (k:=fc c k j)
 rw[a3,List.length_eraseIdx_of_lt (by omega),if_pos (by omega)] at la
 rw[b3,List.length_eraseIdx_of_lt (by omega),if_pos (by omega)] at lb
 rw[key k i (j-1) hk (by omega) (by omega),key k j i hk (by omega) (by omega)]
 have:fc c (fc c k i) (j-1)=fc c (fc c k j) i:=by
  obtain⟨_,u2,u3⟩:=qbk hv a2 (show j-1<(qaH c (fc c k i)).length by omega)
  obtain⟨_,w2,w3⟩:=qbk hv b2 (show i<(qaH c (fc c k j)).length by omega)
  refine qmt hv u2 w2 ?_
  rw[u3,w3,a3,b3]
  exact(qfj hij).symm
 rw[this]
def zm(p:Int)(a b:Nat):Mat:=(p,(a:Int),(b:Int),List.replicate (a*b) 0,())
theorem qjk{g:Nat→Int}:∀ {n:Nat},qaB (fun _=>0) g n=0
 | 0=>rfl
 | n+1=>by show qaB (fun _=>0) g n+0*g n=0;rw[qjk];simp
theorem qq3{p:Int}{a b d:Nat}{m:Mat}(hm:m.2.2.1=(d:Int)):qfE (zm p a b) m=zm p a d:=by
 refine qef.2 ⟨rfl,rfl,hm,?_⟩
 show qar (qig p (List.replicate (a*b) 0) m.2.2.2.1 ((b:Int)).toNat m.2.2.1.toNat) m.2.2.1.toNat ((a:Int)).toNat=List.replicate (a*d) 0
 rw[hm,Int.toNat_natCast,Int.toNat_natCast,Int.toNat_natCast]
 refine Eq.trans (qaJ fun i j hi hj=>(?_:_=(0:Int))) qgr
 unfold qig
 rw[qaw (d:=fun _=>0) (h:=fun l=>m.2.2.2.1.getD (l*d+j) 0) fun l hl=>⟨by rw[List.getD_eq_getElem?_getD,List.getElem?_replicate];split<;>rfl,rfl⟩,qjk,Int.zero_emod]
theorem qqx{c:List Sim}{p:Int}{st:Sim}(hv:VC c)(hl:st.length=c.length)(hst:∀ x∈st,0≤x∧x≤3){k i:Nat}(hk:k<c.length)(hi:i<(qaH c k).length) :
  mp c ((qb4 c c.length).map (zOf p st)) k i=zm p (st.getD k 0).toNat (st.getD (fc c k i) 0).toNat:=by
 have hg:=qcB (n:=c.length) hk hi
 obtain⟨f,f1,f2,f3⟩:=qeW hv.srt hv hk hi
 obtain⟨a,ha,ea,hka,eka⟩:=qgD hl hst hk
 obtain⟨b,hb,eb,hfb,efb⟩:=qgD hl hst f1
 unfold mp fc
 rw[List.getD_eq_getElem?_getD,List.getElem?_map,hg]
 show zOf p st ((k:Int),(i:Int),(qaH c k).getD i 0,())=_
 unfold zOf zm
 simp only[f3,Int.toNat_natCast,ea,eb]
theorem qo0{c:List Sim}{p:Int}{st:Sim}(hv:VC c)(hl:st.length=c.length)(hst:∀ x∈st,0≤x∧x≤3):qbX c ((qb4 c c.length).map (zOf p st))=none:=by
 have key:∀ k i j,k<c.length→i<(qaH c k).length→j<(qaH c (fc c k i)).length→two c ((qb4 c c.length).map (zOf p st)) k i j=zm p (st.getD k 0).toNat (st.getD (fc c (fc c k i) j) 0).toNat:=fun k i j hk hi hj=>by
  obtain⟨_,a2,a3⟩:=qbk hv hk hi
  unfold two
  rw[qqx hv hl hst hk hi,qqx hv hl hst a2 hj]
  exact qq3 rfl
 refine qeS fun k i j hk h3 hij hj=>?_
 have hl:=qaF (c:=c) (k:=k)
 rw[if_pos (by omega)] at hl
 obtain⟨_,a2,a3⟩:=qbk hv hk (show i<(qaH c k).length by omega)
 obtain⟨_,b2,b3⟩:=qbk hv hk (show j<(qaH c k).length by omega)
 have la:=qaF (c:=c) (k:=fc c k i)
 have lb:=qaF (c:=c) (k:=fc c k j)
 rw[a3,List.length_eraseIdx_of_lt (by omega),if_pos (by omega)] at la
 rw[b3,List.length_eraseIdx_of_lt (by omega),if_pos (by omega)] at lb
 rw[key k i (j-1) hk (by omega) (by omega),key k j i hk (by omega) (by omega)]
 have:fc c (fc c k i) (j-1)=fc c (fc c k j) i:=by
  obtain⟨_,u2,u3⟩:=qbk hv a2 (show j-1<(qaH c (fc c k i)).length by omega)
  obtain⟨_,w2,w3⟩:=qbk hv b2 (show i<(qaH c (fc c k j)).length by omega)
  refine qmt hv u2 w2 ?_
  rw[u3,w3,a3,b3]
  exact(qfj hij).symm
 rw[this]
theorem qhM{c:List Sim}{x:Sim}:x∈sk1 c↔x∈c∧x.length≤2:=by
 unfold sk1
 rw[List.mem_filter]
 simp
theorem qrD{c:List Sim}(hv:VC c):VC (sk1 c):=by
 have hsub:(sk1 c).Sublist c:=List.filter_sublist
 have hg:∀ k,k<(sk1 c).length→(sk1 c).getD k []∈sk1 c:=fun k hk=>by rw[qag hk];exact List.getElem_mem hk
 have hvx:∀ x∈c,Vx x:=fun x hx=>by
  obtain⟨k,hk,rfl⟩:=List.getElem_of_mem hx
  have:=hv.2.1 k hk
  rwa [qag hk] at this
 have hpw:c.Pairwise fun a b=>qdP a b<0:=List.pairwise_iff_getElem.2 fun i j hi hj hij=>hv.srt i j hj hij
 have hpw2:=hpw.sublist hsub
 refine⟨Nat.le_trans hsub.length_le hv.1,fun k hk=>hvx _ (qhM.1 (hg k hk)).1,fun k h1 (hk:k<(sk1 c).length)=>?_,fun k (hk:k<(sk1 c).length) f hf=>?_⟩
 ·rw[qag (show k-1<(sk1 c).length by omega),qag hk]
  exact List.pairwise_iff_getElem.1 hpw2 (k-1) k (by omega) hk (by omega)
 ·obtain⟨h1,h2⟩:=qhM.1 (hg k hk)
  obtain⟨q,hq,e⟩:=List.getElem_of_mem h1
  refine qhM.2 ⟨hv.2.2.2 q hq f (by rw[qag hq,e];exact hf),?_⟩
  obtain⟨h3,i,hi,rfl⟩:=qda.1 hf
  rw[List.length_eraseIdx_of_lt hi];omega
theorem qrF{c:List Sim}(h:S5 c):S5 (sk1 c):=fun x hx=>h x (qhM.1 hx).1
end VeT
open Go Go.Proofs Ve
namespace VeT
theorem qr2{p:Int}(h:2≤p∧p≤251∧∀ k∈List.range 16,2≤k→(k:Int)*k≤p→p%k≠0):Pr p:=⟨h.1,h.2.1,fun k h1 h2=>by
 by_cases hk:k<16
 ·exact h.2.2 k (List.mem_range.2 hk) h1 h2
 ·have:16*16≤k*k:=Nat.mul_le_mul (by omega) (by omega)
  have e:(k:Int)*k=((k*k:Nat):Int):=(qa0 ..).symm
  rw[e] at h2
  have:=h.2.1
  omega⟩
theorem pr5{p:Int}(h:p∈([2,3,5,7,251]:List Int)):Pr p:=by
 simp only[List.mem_cons,List.not_mem_nil,or_false] at h
 rcases h with rfl | rfl | rfl | rfl | rfl<;>exact qr2 (by decide)
theorem VS.at{c:List Sim}{p:Int}{st:Sim}{ms:List Mat}(h:VS c p st ms){t:Nat}(ht:t<ms.length):∃ a b:Nat,a≤3∧b≤3∧VM (ms.getD t mz)∧(ms.getD t mz).1=p∧(ms.getD t mz).2.1=(a:Int)∧(ms.getD t mz).2.2.1=(b:Int):=by
 have hl:=h.2.2.2.1
 have ht':t<(qb4 c c.length).length:=by unfold plc at hl;omega
 obtain⟨k,i,h1,h2,h3⟩:=qhp ht'
 have hb:=(h.map h1 h2).2
 unfold mp at hb
 rw[← h3] at hb
 obtain⟨a1,a2⟩:=qjV h.2.2.1.2.1 k
 obtain⟨b1,b2⟩:=qjV h.2.2.1.2.1 (fc c k i)
 exact⟨(st.getD k 0).toNat,(st.getD (fc c k i) 0).toNat,by omega,by omega,hb.1,hb.2.1,by rw[hb.2.2.1];omega,by rw[hb.2.2.2];omega⟩
theorem qcC{l:Sim}(h:l.length≤1048576):Sm (.sl (.int .i64)) l:=⟨h,fun _ _=>trivial⟩
theorem qqS{ms:List Mat}(h:ms.length≤1048576)(h2:∀ m∈ms,m.2.2.2.1.length≤1048576):Sm (.sl (.st cM)) ms:=⟨h,fun m hm=>⟨trivial,trivial,trivial,qcC (h2 m hm),trivial⟩⟩
theorem VS.plc_le{c:List Sim}{p:Int}{st:Sim}{ms:List Mat}(h:VS c p st ms):ms.length≤192:=by
 rw[← h.2.2.2.1];exact qeR h.1
theorem VS.cells{c:List Sim}{p:Int}{st:Sim}{ms:List Mat}(h:VS c p st ms):∀ m∈ms,m.2.2.2.1.length≤9:=fun m hm=>by
 obtain⟨t,ht,rfl⟩:=List.getElem_of_mem hm
 obtain⟨a,b,ha,hb,hv,_,e1,e2⟩:=h.at ht
 rw[qag ht] at hv e1 e2
 have:=hv.num
 rw[e1,e2,Int.toNat_natCast,Int.toNat_natCast] at this
 have:=Nat.mul_le_mul ha hb
 omega
theorem VS.sm{c:List Sim}{p:Int}{st:Sim}{ms:List Mat}(h:VS c p st ms):Sm (.st cS) (c,p,st,ms,()):=by
 have h48:=h.1.1
 have hl:=h.2.2.1.1
 have h192:=h.plc_le
 exact⟨h.1.sm,trivial,qcC (by show st.length≤_;omega),qqS (by show ms.length≤_;omega) fun m hm=>by have:=h.cells m hm;omega,trivial⟩
abbrev Drw:=List Sim×Int×Sim×List Mat×Src×Unit
def qrO(n:Nat)(r:Drw):Prop:=ISh (r.1,r.2.1,r.2.2.1,r.2.2.2.1,())∧S5 r.1∧SO n r.2.2.2.2.1
theorem qq4{p:Int}{d:Nat}(hp:Pr p)(hd:d≤3):Bt (qb3 p d) p (d:Int) (d:Int):=⟨qj4 hp (by omega),rfl,rfl,rfl⟩
theorem qfQ{α:Type}{n i:Nat}{a d:α}(h:i<n):(List.replicate n a).getD i d=a:=by
 rw[List.getD_eq_getElem?_getD,List.getElem?_replicate,if_pos h];rfl
theorem qqp{c:List Sim}{p:Int}{d:Nat}(hv:VC c)(h5:∀ k:Nat,k<4→SD c (List.replicate c.length (d:Int)) k≤32)(hp:Pr p)(hd:d≤3):ISh (c,p,List.replicate c.length (d:Int),List.replicate (qb4 c c.length).length (qb3 p d),()):=by
 have hpl:∀ k i,k<c.length→i<(qaH c k).length→plc c k+i<(qb4 c c.length).length:=fun k i hk hi=>by
  have:=qcB (n:=c.length) hk hi
  rcases Nat.lt_or_ge (plc c k+i) (qb4 c c.length).length with h | h
  ·exact h
  ·rw[List.getElem?_eq_none h] at this;cases this
 refine⟨⟨hv,hp,⟨by simp,fun x hx=>by rw[(List.mem_replicate.1 hx).2];omega,fun k hk=>h5 k hk⟩,?_,fun k hk i hi=>?_⟩,?_⟩
 ·show(qb4 c c.length).length=(List.replicate _ _).length
  simp
 ·obtain⟨f,f1,f2,f3⟩:=qeW hv.srt hv hk hi
  show Bt ((List.replicate _ _).getD (plc c k+i) mz) p ((List.replicate _ _).getD ((qaH c k).getD i 0).toNat 0) ((List.replicate _ _).getD k 0)
  rw[f3,Int.toNat_natCast,qfQ (hpl k i hk hi),qfQ f1,qfQ hk]
  exact qq4 hp hd
 ·exact qnw (m:=qb3 p d) hv fun k i hk hi=>qfQ (hpl k i hk hi)
theorem qr3{c:List Sim}(hv:VC c)(h5:S5 c){st:Sim}(hst:∀ x∈st,0≤x∧x≤3):∀ k:Nat,k<4→SD c st k≤32:=fun k hk=>by
 have h1:=qm5 hv h5 hk
 have h2:=qhF hst (c:=c) (d:=(k:Int)) (n:=c.length)
 rw[qoH];omega
theorem qnz(n:Nat)(s:Src)(hn:n≤10000000)(hs:SO n s):qi1 n_Z166 [dR s] o_Z166 fun(r:Drw)=>qrO (n+20000) r:=by
  obtain⟨c0,a,g,⟨⟩⟩:=s
  refine qbZ ?_
  simp only[run_Z166,Z166.ev]
  refine qbw (qkU n _ (by omega) hs) fun(r:List Sim×Src×Unit) ⟨b1,b2,b3⟩=>?_
  obtain⟨c,s1,⟨⟩⟩:=r
  simp only at b1 b2 b3
  dsimp only
  have h48:=b1.1
  have h192:=qeR b1
  refine qbw (qoO (n+50) _ _ (by simp) (by omega) b3) fun(r:Int×Src×Unit) ⟨p1,p2⟩=>?_
  obtain⟨p,s2,⟨⟩⟩:=r
  simp only at p1 p2
  have hp:=pr5 p1
  refine qbw (qbc (n+52) _ 5 (by omega) p2) fun(r:Int×Src×Unit) ⟨q1,q2,q3,q4⟩=>?_
  obtain⟨w,s3,⟨⟩⟩:=r
  simp only at q1 q2 q3 q4
  dsimp only
  -- the constant sheaf
  refine qg3 (fun _=>?_) fun _=>?_
  · refine qbw (qbc (n+54) _ 2 (by omega) q4) fun(r:Int×Src×Unit) ⟨r1,r2,r3,r4⟩=>?_
    obtain⟨d0,s4,⟨⟩⟩:=r
    simp only at r1 r2 r3 r4
    have ed:w64 (1+d0)=((d0.toNat+1:Nat):Int):=by rw[qaf (by omega) (by omega)];omega
    rw[ed]
    refine qaD (qeA c p (d0.toNat+1) (by omega) b1.sm b1) (qaU ⟨?_,b2,r4.le (by omega)⟩)
    exact qqp b1 (qr3 b1 b2 fun x hx=>by rw[(List.mem_replicate.1 hx).2];omega) hp (by omega)
  -- in other bases
  refine qg3 (fun _=>?_) fun _=>?_
  · refine qbw (qbc (n+54) _ 2 (by omega) q4) fun(r:Int×Src×Unit) ⟨r1,r2,r3,r4⟩=>?_
    obtain⟨d0,s4,⟨⟩⟩:=r
    simp only at r1 r2 r3 r4
    have ed:w64 (1+d0)=((d0.toNat+1:Nat):Int):=by rw[qaf (by omega) (by omega)];omega
    rw[ed]
    refine qbw (qmk (n+56) s4 c p (d0.toNat+1) (by omega) (by exact r4) b1 hp (by omega)) fun r ⟨ms,s5,bs,e,m1,m2,m3,m4,m5⟩=>?_
    subst e
    refine qaU ⟨⟨qrb b1 b2 hp (by simp) (fun x hx=>by rw[(List.mem_replicate.1 hx).2];omega) m1 fun k hk i hi=>?_,?_⟩,b2,m5.le (by omega)⟩
    · show Bt (ms.getD (plc c k+i) mz) p ((List.replicate _ _).getD ((qaH c k).getD i 0).toNat 0) ((List.replicate _ _).getD k 0)
      rw[m4 k i hk hi]
      exact qn6 b1 hp (by omega) m2 m3 hk hi
    · exact qjY b1 hp (d:=d0.toNat+1) (by omega) m2 m3 fun k i hk hi=>m4 k i hk hi
  -- at one place
  refine qg3 (fun _=>?_) fun _=>?_
  · have hj:∀(st:Sim) (s5:Src) (m:Nat),st.length=c.length→(∀ x∈st,0≤x∧x≤3)→m≤n+20000→SO m s5→EvQ (fun φ=>Z166.j0 (mkR (run E (φ 0))) (φ 0) p 0 c st s5.1 s5.2.1 s5.2.2.1) o_Z166 fun(r:Drw)=>qrO (n+20000) r:=fun st s5 m hl hst hm h5=>by
      simp only[Z166.j0_eq _ qae]
      refine qaD (qgC c p st b1.sm b1 hl hst) (qaU ⟨⟨qrb b1 b2 hp hl hst (by show((qb4 c c.length).map _).length=_;rw[List.length_map];rfl) fun k hk i hi=>qpj b1 hp hl hst hk hi,qo0 b1 hl hst⟩,b2,h5.le hm⟩)
    rw[Int.toNat_natCast]
    refine qaQ (by simp only[Bool.and_eq_true,decide_eq_true_eq];omega) ?_
    have hrl:(List.replicate c.length (0:Int)).length=c.length:=List.length_replicate
    refine qcJ (fun h=>?_) fun h=>hj _ s3 (n+54) (by simp) (fun x hx=>by rw[(List.mem_replicate.1 hx).2];omega) (by omega) q4
    refine qbw (qbc (n+54) s3 _ (by omega) q4) fun(r:Int×Src×Unit) ⟨r1,r2,r3,r4⟩=>?_
    obtain⟨k0,s4,⟨⟩⟩:=r
    simp only at r1 r2 r3 r4
    refine qbw (qbc (n+56) s4 3 (by omega) r4) fun(r:Int×Src×Unit) ⟨t1,t2,t3,t4⟩=>?_
    obtain⟨d0,s5,⟨⟩⟩:=r
    simp only at t1 t2 t3 t4
    rw[hrl] at r2 h
    have hk:k0<(c.length:Int):=by omega
    refine qaQ (show(decide ((0:Int)≤k0)&&decide (k0<((List.replicate c.length (0:Int)).length:Int)))=true by rw[hrl];simp only[Bool.and_eq_true,decide_eq_true_eq];omega) ?_
    refine hj _ s5 (n+58) (by simp) (fun x hx=>?_) (by omega) t4
    rcases List.mem_or_eq_of_mem_set hx with hx | rfl
    · rw[(List.mem_replicate.1 hx).2];omega
    · rw[qaf (by omega) (by omega)];omega
  -- of dimension 1
  refine qaD (qot c b1) ?_
  have v1:=qrD b1
  have f1:=qrF b2
  have k48:=v1.1
  have k192:=qeR v1
  have hfl:∀ x∈sk1 c,x.length≤2:=fun x hx=>(qhM.1 hx).2
  generalize sk1 c=c1 at v1 f1 k48 k192 hfl ⊢
  refine EvQ.start 1 (L:=fun φ N=>Z166.l1 (mkR (run E (φ 0))) (φ 0) N p 0 0 c1 [] s3.1 s3.2.1 s3.2.2.1) ?_ (fun _ _ _=>rfl)
  refine EvQ.loop 1 (σ:=Nat×Sim×Src) (L:=fun φ N st=>Z166.l1 (mkR (run E (φ 0))) (φ 0) N p (st.1:Int) 0 c1 st.2.1 st.2.2.1 st.2.2.2.1 st.2.2.2.2.1) (fun _ _ _ _=>rfl)
    (fun st=>st.1≤c1.length∧st.2.1.length=st.1∧(∀ x∈st.2.1,0≤x∧x≤3)∧SO (n+60+2*st.1) st.2.2) (fun st=>c1.length-st.1) (fun st hi ih=>?_) (0,[],s3) ⟨Nat.zero_le _,rfl,fun x hx=>by simp at hx,q4.le (by show n+52+2≤n+60+2*0;omega)⟩
  obtain⟨k,st,s4⟩:=st
  obtain⟨i1,i2,i3,i4⟩:=hi
  simp only at i1 i2 i3 i4 ih ⊢
  simp only[Z166.l1_succ _ qae]
  refine qcJ (fun h=>?_) fun h=>?_
  · refine qbw (qbc _ s4 4 (by omega) i4) fun(r:Int×Src×Unit) ⟨r1,r2,r3,r4⟩=>?_
    obtain⟨y,s5,⟨⟩⟩:=r
    simp only at r1 r2 r3 r4
    refine qaQ (decide_eq_true (by simp;omega)) ?_
    rw[qad (by omega)]
    refine ih (k+1,st++[y],s5) ⟨by show k+1≤c1.length;omega,by simp[i2],fun x hx=>?_,r4.le (by show n+60+2*k+2≤n+60+2*(k+1);omega)⟩ (by show c1.length-(k+1)<c1.length-k;omega)
    rcases List.mem_append.1 hx with hx | hx
    · exact i3 x hx
    · rw[List.mem_singleton] at hx;subst hx;omega
  have hk:k=c1.length:=by omega
  subst hk
  clear ih
  refine qaD (qgC c1 p st v1.sm v1 i2 i3) ?_
  have hol:((qb4 c1 c1.length).map (zOf p st)).length=(qb4 c1 c1.length).length:=by rw[List.length_map]
  have horig:∀ t,t<(qb4 c1 c1.length).length→∃ a b:Nat,a≤3∧b≤3∧VM (((qb4 c1 c1.length).map (zOf p st)).getD t mz)∧(((qb4 c1 c1.length).map (zOf p st)).getD t mz).2.1=(a:Int)∧(((qb4 c1 c1.length).map (zOf p st)).getD t mz).2.2.1=(b:Int):=fun t ht=>by
    obtain⟨k,i,h1,h2,h3⟩:=qhp ht
    have hb:=qpj v1 hp i2 i3 h1 h2
    rw[← h3] at hb
    obtain⟨a1,a2⟩:=qjV i3 k
    obtain⟨b1,b2⟩:=qjV i3 ((qaH c1 k).getD i 0).toNat
    exact⟨(st.getD k 0).toNat,(st.getD ((qaH c1 k).getD i 0).toNat 0).toNat,by omega,by omega,hb.1,by rw[hb.2.2.1];omega,by rw[hb.2.2.2];omega⟩
  have hbt:=fun k (hk:k<c1.length) i (hi:i<(qaH c1 k).length)=>qpj v1 hp i2 i3 hk hi
  generalize (qb4 c1 c1.length).map (zOf p st)=og at hol horig hbt ⊢
  refine EvQ.start 1 (L:=fun φ N=>Z166.l2 (mkR (run E (φ 0))) (φ 0) N p 0 0 p s4.1 s4.2.1 s4.2.2.1 og c1 st) ?_ (fun _ _ _=>rfl)
  refine EvQ.loop 1 (σ:=Nat×List Mat×Src) (L:=fun φ N x=>Z166.l2 (mkR (run E (φ 0))) (φ 0) N p (x.1:Int) 0 p x.2.2.1 x.2.2.2.1 x.2.2.2.2.1 x.2.1 c1 st) (fun _ _ _ _=>rfl)
    (fun x=>x.1≤og.length∧x.2.1.length=og.length∧(∀ t,t<og.length→VM (x.2.1.getD t mz)∧((x.2.1.getD t mz).1=(og.getD t mz).1∨(x.2.1.getD t mz).1=p)∧(x.2.1.getD t mz).2.1=(og.getD t mz).2.1∧(x.2.1.getD t mz).2.2.1=(og.getD t mz).2.2.1)∧SO (n+200+70*x.1) x.2.2) (fun x=>og.length-x.1) (fun x hi ih=>?_) (0,og,s4)
    ⟨Nat.zero_le _,rfl,fun t ht=>⟨by obtain⟨_,_,_,_,hv,_⟩:=horig t (by omega);exact hv,.inl rfl,rfl,rfl⟩,i4.le (by show n+60+2*c1.length≤n+200+70*0;omega)⟩
  obtain⟨k,ms,s5⟩:=x
  obtain⟨j1,j2,j3,j4⟩:=hi
  simp only at j1 j2 j3 j4 ih ⊢
  simp only[Z166.l2_succ _ qae]
  refine qcJ (fun h=>?_) fun h=>?_
  · have hk:k<og.length:=by omega
    have hkm:k<ms.length:=by omega
    obtain⟨ra,rb,ha,hb,hv,ea,eb⟩:=horig k (by omega)
    obtain⟨u1,u2,u3,u4⟩:=j3 k hk
    have eg:ms[k]=ms.getD k mz:=(qag hkm).symm
    rw[Int.toNat_natCast]
    have hc:(decide ((0:Int)≤(k:Int))&&decide ((k:Int)<(ms.length:Int)))=true:=by simp only[Bool.and_eq_true,decide_eq_true_eq];omega
    refine qaQ hc (qa9 (List.getElem?_eq_getElem hkm) (qaQ hc (qa9 (List.getElem?_eq_getElem hkm) ?_)))
    rw[eg,u3,u4,ea,eb]
    refine qbw (qmW _ s5 p ra rb (by omega) j4 ⟨hp.1,hp.2.1⟩ (by omega) (by omega)) fun r ⟨cells,s6,e,c1',c2,c3⟩=>?_
    subst e
    refine qaQ hc ?_
    rw[qad (by omega)]
    refine ih (k+1,ms.set k (p,(ra:Int),(rb:Int),cells,()),s6) ⟨hk,by rw[List.length_set];exact j2,fun t ht=>?_,c3.le (by show n+200+70*k+70≤n+200+70*(k+1);omega)⟩ (by show og.length-(k+1)<og.length-k;omega)
    show VM ((ms.set k (p,(ra:Int),(rb:Int),cells,())).getD t mz)∧_
    by_cases e:t=k
    · subst e
      rw[List.getD_eq_getElem?_getD,List.getElem?_set_self hkm]
      exact⟨qmN hp (by omega) (by omega) c1' c2,.inr rfl,by rw[ea];rfl,by rw[eb];rfl⟩
    · rw[List.getD_eq_getElem?_getD,List.getElem?_set_ne (fun h=>e h.symm),← List.getD_eq_getElem?_getD]
      exact j3 t ht
  · refine qaU ⟨⟨qrb v1 f1 hp i2 i3 (by show ms.length=(qb4 c1 c1.length).length;omega) fun k hk i hi=>?_,qn5 hfl⟩,f1,j4.le (by show n+200+70*k≤n+20000;omega)⟩
    have hb:=hbt k hk i hi
    have hlt:plc c1 k+i<og.length:=by
      rw[hol]
      have:=qcB (n:=c1.length) hk hi
      rcases Nat.lt_or_ge (plc c1 k+i) (qb4 c1 c1.length).length with h | h
      · exact h
      · rw[List.getElem?_eq_none h] at this;cases this
    obtain⟨u1,u2,u3,u4⟩:=j3 _ hlt
    exact⟨u1,by rcases u2 with u2 | u2<;>rw[u2];exact hb.2.1,by rw[u3];exact hb.2.2.1,by rw[u4];exact hb.2.2.2⟩
end VeT
open Go Go.Proofs Ve
namespace VeT
theorem qpQ{f:Nat}{args:List Dv}(h:qi1 f args (.cons .bool .nil) fun(r:Bool×Unit)=>r.1=true):Ret E f args ⟨.cons .bool .nil,(true,())⟩:=by
 obtain⟨⟨b,⟨⟩⟩,h1,h2⟩:=h
 have h2:b=true:=h2
 subst h2
 exact h1
theorem qks{b:Bool}(h:b=true):EvQ (fun _=>some ⟨.cons .bool .nil,(b,())⟩) (.cons .bool .nil) fun(r:Bool×Unit)=>r.1=true:=qaU h
theorem qre{c:List Int}(h:Wf (.sl (.int .u8)) c):SO 0 (c,0,0,()):=⟨fun b hb=>by
 have:=h.2 b hb
 simp only[Wf,Lit.wf,IntKind.min,IntKind.max,IntKind.signed,IntKind.bits,Bool.and_eq_true,decide_eq_true_eq] at this
 simp at this
 omega,by show(0:Int)≤0;omega,by show(0:Int)≤((0:Nat):Int);omega⟩
end VeT
open Go Go.Proofs Ve
namespace VeT
open Classical in
noncomputable def qoe(p:Int)(W:Nat)(h cls:List Sim)(x:Sim):Sim:=if e:∃ l,qiM p W h cls x l then Classical.choose e else []
theorem qkX{p:Int}{W:Nat}(hp:Pr p){h list:List Sim}{x l:Sim}(hl:qiM p W h (qeV p W h list) x l):qoe p W h (qeV p W h list) x=l:=by
 have e:∃ l,qiM p W h (qeV p W h list) x l:=⟨l,hl⟩
 unfold qoe
 rw[dif_pos e]
 exact qiM.unique hp (Classical.choose_spec e) hl
theorem qpK{p:Int}{W:Nat}{h ker:List Sim}{x:Sim}(hx:InR p W ker x):InR p W (h++qeV p W h ker) x:=InR.trans (fun r hr=>qhs hr) hx
theorem qkR{p:Int}{W:Nat}{h ker:List Sim}{x:Sim}(hp:Pr p)(hh:Rws p W h)(hx:InR p W ker x):InR p W (qeV p W h ker++bas p W h) x :=
 InR.trans (fun r hr=>by
  rcases List.mem_append.1 hr with hr | hr
  ·exact InR.trans (fun r hr=>InR.mem (List.mem_append.2 (.inr hr))) ((qkp hp hh r).2 (InR.mem hr))
  ·exact InR.mem (List.mem_append.2 (.inl hr))) (qpK hx)
noncomputable abbrev qct(x:Shf)(k:Int):List Sim:=qck (SD x.1 x.2.2.1 k).toNat (SD x.1 x.2.2.1 (k-1)).toNat (qcg x (k-1)).2.2.2.1
theorem qnu{x:Shf}{k:Int}{v:Sim}(hh:(ISh x∧0≤k∧k≤3)∧qfo x k v)(hz:Zs (qc2 x k v)):InR x.2.1 (SD x.1 x.2.2.1 k).toNat (qmr x k) v:=by
 have hs:=hh.1.1.1
 have hl:(qcg x k).2.2.2.1.length=(SD x.1 x.2.2.1 (k+1)).toNat*(SD x.1 x.2.2.1 k).toNat:=qbg
 refine qph hs.2.1 hl (qbD hs k) fun i hi=>?_
 have:=hz _ (List.mem_map.2 ⟨i,List.mem_range.2 hi,rfl⟩)
 rw[qaE] at this
 exact this
theorem qgY(x:Shf)(k:Int)(hx:Sm (.st cS) x)(hk:0≤k∧k≤3)(hs:VS x.1 x.2.1 x.2.2.1 x.2.2.2.1) :
  Ret E n_Z30 [dLL x.1,dI x.2.1,dL x.2.2.1,dMs x.2.2.2.1,dI k] ⟨o_Z30,(x.2.1,SD x.1 x.2.2.1 k,bas x.2.1 (SD x.1 x.2.2.1 k).toNat (qct x k),())⟩:=by
 obtain⟨W,eW,bW,tW⟩:=qcb hs k
 obtain⟨C,eC,bC,tC⟩:=qcb hs (k-1)
 have hl:(qcg x (k-1)).2.2.2.1.length=W*C:=by show(qek _ _ _ _ (k-1)).length=_;rw[qbg,tC,show k-1+1=k by omega,tW]
 have he:qax (qcg x (k-1)).2.2.2.1 x.2.1:=qbD hs (k-1)
 obtain⟨hcr,hcl,hcw⟩:=qdC hl he
 have e1:(qcg x (k-1)).2.1=(W:Int):=by show SD x.1 x.2.2.1 (k-1+1)=_;rw[show k-1+1=k by omega,eW]
 have e2:(qcg x (k-1)).2.2.1=(C:Int):=eC
 have hp2:2≤x.2.1∧x.2.1≤251:=⟨hs.2.1.1,hs.2.1.2.1⟩
 unfold qct
 rw[tW,tC,eW]
 have hm:=qaV x.1 x.2.1 x.2.2.1 x.2.2.2.1 (k-1) (by omega) hx.1 hs
 have hcc:=qd0 (qcg x (k-1)).1 W C (qcg x (k-1)).2.2.2.1 hl bW bC
 have hso:=qfy x.2.1 W (qck W C (qcg x (k-1)).2.2.2.1) hp2 (by omega) (by omega) hcw
 rw[← e1] at hcc hso
 rw[← e2] at hcc
 refine qaj ?_
 simp only[run_Z30,Z30.ev,qaf (n:=k-1) (by omega) (by omega)]
 refine qaa hm (qaa hcc (qaa hso (qah ?_)))
 rw[e1]
noncomputable def qna(x:Shf)(k:Int)(v:Sim):Sim:=qoe x.2.1 (SD x.1 x.2.2.1 k).toNat (qct x k) (qeT x k) v
theorem qnZ(x:Shf)(k:Int)(v:Sim)(hx:Sm (.st cS) x)(hh:(ISh x∧0≤k∧k≤3)∧qfo x k v)(hz:Zs (qc2 x k v)) :
  Ret E n_Z34 [dLL (qeT x k),dI x.2.1,dI (SD x.1 x.2.2.1 k),dLL (bas x.2.1 (SD x.1 x.2.2.1 k).toNat (qct x k)),dL v] ⟨o_Z34,(qna x k v,())⟩:=by
 have hs:=hh.1.1.1
 obtain⟨W,eW,bW,tW⟩:=qcb hs k
 obtain⟨C,eC,bC,tC⟩:=qcb hs (k-1)
 have hl:(qcg x (k-1)).2.2.2.1.length=W*C:=by show(qek _ _ _ _ (k-1)).length=_;rw[qbg,tC,show k-1+1=k by omega,tW]
 have he:qax (qcg x (k-1)).2.2.2.1 x.2.1:=qbD hs (k-1)
 obtain⟨hcr,hcl,hcw⟩:=qdC hl he
 obtain⟨hkr,hkl⟩:=qhg (k:=k) hs
 have hin:=qnu hh hz
 have hvl:v.length=W:=by have:=hh.2.2;omega
 have hve:=hh.2.1
 unfold qna qeT qct
 rw[tW] at hin hkr hkl
 rw[tW,tC,eW]
 have hp:=hs.2.1
 generalize hH:qck W C (qcg x (k-1)).2.2.2.1=H at hcr hcl hcw
 have hbr:=qoZ hp.1 hcw
 have hcls:Rws x.2.1 W (qeV x.2.1 W H (qmr x k)):=fun r hr=>hkr r (qhd hr)
 have hcll:=qea (p:=x.2.1) (W:=W) (l:=qmr x k) (h:=H)
 obtain⟨l,l1,l2⟩:=qiu x.2.1 W H (qeV x.2.1 W H (qmr x k)) (bas x.2.1 W H) v hp (by omega) (by rw[List.length_append];omega) hcls hbr.1 (fun r hr=>(qkp hp hcw r).1 (InR.mem hr)) hve hvl (qkR hp hcw hin)
 rw[qkX hp l1]
 exact l2
open Classical in
noncomputable def qbv(x:Shf)(k:Int)(v:Sim):Sim×Int×Unit :=
 if CC x k v=0 then(if Zs (qc2 x k v) then(qna x k v,0,()) else([],6,())) else([],CC x k v,())
theorem qcP(x:Shf)(k:Int)(v:Sim)(hx:Sm (.st cS) x)(hv:Sm (.sl (.int .i64)) v):Ret E n_Z6 [dLL x.1,dI x.2.1,dL x.2.2.1,dMs x.2.2.2.1,dI k,dL v] ⟨o_Z6,qbv x k v⟩:=by
 refine qaj ?_
 simp only[run_Z6,Z6.ev]
 unfold qbv
 refine qaa (qbN x k v hx hv) ?_
 by_cases h:CC x k v=0
 ·have hh:=qcO.1 h
  rw[if_pos h]
  refine qaI (by simp[h]) (qaa (qdR x k v hx hh) ?_)
  by_cases hz:Zs (qc2 x k v)
  ·rw[if_pos hz]
   exact qaI (by rw[qaP hz];rfl) (qaa (qlT x k hx hh.1.2 hh.1.1.1) (qaa (qgY x k hx hh.1.2 hh.1.1.1) (qaa (qnZ x k v hx hh hz) qal)))
  ·rw[if_neg hz]
   exact qaC (by rw[qat hz];rfl) qal
 ·rw[if_neg h]
  exact qaC (by simpa using h) qal
end VeT
open Go Go.Proofs Ve
namespace VeT
end VeT
open Go Go.Proofs Ve
namespace VeT
noncomputable def bdJ(c:List Sim)(k p:Int)(s j:Nat)(cells:List Int):Nat→List Int
 | 0=>cells
 | i+1=>(bdJ c k p s j cells i).set (((qaH c s).getD i 0-(qav c (k-1) c.length).getD 0 0).toNat*(qav c k c.length).length+j) (sgn p i)
noncomputable def bdC(c:List Sim)(k p:Int):Nat→List Int
 | 0=>List.replicate ((qav c (k-1) c.length).length*(qav c k c.length).length) 0
 | j+1=>bdJ c k p ((qav c k c.length).getD j 0).toNat j (bdC c k p j) (qaH c ((qav c k c.length).getD j 0).toNat).length
theorem qjs{c:List Sim}{k p:Int}{s j:Nat}{cells:List Int}:∀ {i:Nat},(bdJ c k p s j cells i).length=cells.length
 | 0=>rfl
 | i+1=>by unfold bdJ;rw[List.length_set,qjs]
theorem qjt{c:List Sim}{k p:Int}:∀ {j:Nat},(bdC c k p j).length=(qav c (k-1) c.length).length*(qav c k c.length).length
 | 0=>by simp[bdC]
 | j+1=>by unfold bdC;rw[qjs,qjt]
theorem qkW{c:List Sim}{k p:Int}(hp:2≤p∧p≤251){s j:Nat}{cells:List Int}(h:qax cells p):∀ {i:Nat},qax (bdJ c k p s j cells i) p
 | 0=>h
 | i+1=>fun x hx=>by
  unfold bdJ at hx
  rcases List.mem_or_eq_of_mem_set hx with hx | rfl
  ·exact qkW hp h x hx
  ·exact qod hp i
theorem qlk{c:List Sim}{k p:Int}(hp:2≤p∧p≤251):∀ {j:Nat},qax (bdC c k p j) p
 | 0=>qih hp.1
 | j+1=>by unfold bdC;exact qkW hp (qlk hp)
noncomputable def bdM(c:List Sim)(k p:Int):Mat:=(p,((qav c (k-1) c.length).length:Int),((qav c k c.length).length:Int),bdC c k p (qav c k c.length).length,())
structure BdF (c:List Sim) (k p:Int):Prop where
 sc:Sm (.sl (.sl (.int .i64))) c
 vc:VC c
 pr:Pr p
 hk:0≤k∧k≤4
 lu:(qav c k c.length).length≤32
 ll:(qav c (k-1) c.length).length≤32
theorem BdF.hp{c:List Sim}{k p:Int}(F:BdF c k p):2≤p∧p≤251:=⟨F.pr.1,F.pr.2.1⟩
theorem BdF.vm{c:List Sim}{k p:Int}(F:BdF c k p):VM (bdM c k p):=by
 have:=F.lu
 have:=F.ll
 refine⟨F.pr,⟨by show(0:Int)≤((qav c (k-1) c.length).length:Int);omega,by show((qav c (k-1) c.length).length:Int)≤32;omega⟩,⟨by show(0:Int)≤((qav c k c.length).length:Int);omega,by show((qav c k c.length).length:Int)≤32;omega⟩,?_,qlk F.hp⟩
 show((bdC c k p (qav c k c.length).length).length:Int)=((qav c (k-1) c.length).length:Int)*((qav c k c.length).length:Int)
 rw[qjt,Int.natCast_mul]
end VeT
open Go Go.Proofs Ve
namespace VeT
end VeT
open Go Go.Proofs Ve
namespace VeT
noncomputable def qb5(x:Shf)(k:Int):List Sim×Int×Unit:=if GC x k=0 then(qeT x k,0,()) else([],GC x k,())
theorem qd7(x:Shf)(k:Int)(hx:Sm (.st cS) x):Ret E n_Z7 [dLL x.1,dI x.2.1,dL x.2.2.1,dMs x.2.2.2.1,dI k] ⟨o_Z7,qb5 x k⟩:=by
 refine qaj ?_
 simp only[run_Z7,Z7.ev]
 unfold qb5
 refine qaa (qjq x k hx) ?_
 by_cases h:GC x k=0
 ·obtain⟨h1,h2⟩:=qhq.1 h
  rw[if_pos h]
  exact qaI (by simp[h]) (qaa (qlT x k hx h2 h1.1) qal)
 ·rw[if_neg h]
  exact qaC (by simpa using h) qal
end VeT
open Go Go.Proofs Ve
namespace VeT
def qme(p:Int)(R W:Nat)(A:Ent)(x:Nat→Int):Prop:=∀ i,i<R→qaB x (A i) W%p=0
theorem qoI{p:Int}{W:Nat}{pv:List Nat}{F:Ent}:∀ {n:Nat} {x:Sim},x∈qlW p W pv F n→∃ c,c<n∧c∉pv∧x=qkO p W pv F c pv.length
 | 0,x,h=>by simp[qlW] at h
 | n+1,x,h=>by
  rw[qlW,List.mem_append] at h
  rcases h with h | h
  ·obtain⟨c,h1,h2⟩:=qoI h;exact⟨c,by omega,h2⟩
  ·by_cases e:n∈pv
   ·rw[if_pos e] at h;simp at h
   ·rw[if_neg e,List.mem_singleton] at h;exact⟨n,by omega,e,h⟩
theorem qmG{p:Int}{R W c:Nat}{pv:List Nat}{F:Ent}(hrf:Rf R W F pv)(hc:c<W)(hcp:c∉pv):∀ n,n≤pv.length→∀ m,n≤m→m<pv.length→(qkO p W pv F c n).getD (pv.getD m 0) 0=0
 | 0,_,m,_,hm=>by
  show((List.replicate W (0:Int)).set c 1).getD (pv.getD m 0) 0=_
  rw[qcI (by simpa using hc),if_neg fun e=>hcp (by rw[← e];exact qeQ hm),List.getD_eq_getElem?_getD,List.getElem?_replicate]
  split<;>rfl
 | n+1,hn,m,h1,hm=>by
  have hq:=hrf.lt n (by omega)
  have:=hrf.mono n m (by omega) hm
  rw[qeC,qcI (by rw[qcz];exact hq),if_neg (by omega)]
  exact qmG hrf hc hcp n (by omega) m (by omega) hm
theorem qmQ{p:Int}{R W c i:Nat}{pv:List Nat}{F:Ent}(hrf:Rf R W F pv)(hc:c<W)(hcp:c∉pv)(hi:i<R):∀ n,n≤pv.length →
  qaB (fun j=>(qkO p W pv F c n).getD j 0) (F i) W%p=(F i c+if i<n then 0-F i c else 0)%p
 | 0,_=>by
  rw[if_neg (by omega),Int.add_zero]
  congr 1
  rw[qaw (d:=fun j=>if j=c then 1 else 0) (h:=F i) fun j hj=>⟨by
   show((List.replicate W (0:Int)).set c 1).getD j 0=_
   rw[qcI (by simpa using hc),List.getD_eq_getElem?_getD,List.getElem?_replicate,if_pos hj];rfl,rfl⟩,qcQ hc]
 | n+1,hn=>by
  have hq:=hrf.lt n (by omega)
  have hn':n<pv.length:=by omega
  rw[qaw (d:=fun j=>if j=pv.getD n 0 then(0-F n c)%p else(qkO p W pv F c n).getD j 0) (h:=F i) fun j hj=>⟨by
   rw[qeC,qcI (by rw[qcz];exact hq)],rfl⟩,qjX hq,qmG hrf hc hcp n (by omega) n (Nat.le_refl _) hn',hrf.one i n hi hn',Int.add_emod,qmQ hrf hc hcp hi n (by omega),← Int.add_emod,Int.sub_zero]
  by_cases e:i=n
  ·subst e
   rw[if_neg (by omega),if_pos (by omega),if_pos (show i<i+1 by omega),Int.mul_one,Int.add_zero,Int.add_emod_emod]
  ·rw[if_neg e,Int.mul_zero,Int.add_zero]
   by_cases h:i<n
   ·rw[if_pos h,if_pos (by omega)]
   ·rw[if_neg h,if_neg (by omega)]
theorem qqb{p:Int}{R W c:Nat}{pv:List Nat}{F:Ent}(hrf:Rf R W F pv)(hc:c<W)(hcp:c∉pv):qme p R W F fun j=>(qkO p W pv F c pv.length).getD j 0:=fun i hi=>by
 rw[qmQ hrf hc hcp hi pv.length (Nat.le_refl _)]
 by_cases h:i<pv.length
 ·rw[if_pos h,show F i c+(0-F i c)=0 by omega,Int.zero_emod]
 ·rw[if_neg h,hrf.bot i c (by omega) hi hc];simp
theorem qp6{p:Int}{R W:Nat}{cells:Sim}(hp:Pr p)(hl:cells.length=R*W)(he:qax cells p){x:Sim}(hx:x∈qrr p R W cells):qme p R W (qbJ cells W) fun j=>x.getD j 0:=fun i hi=>by
 obtain⟨hrf,heq⟩:=qgN hp (qcu he hl) W (Nat.le_refl _)
 obtain⟨c,h1,h2,rfl⟩:=qoI hx
 exact Spn.orth (qqb hrf h1 h2) (heq.2 i hi)
end VeT
open Go Go.Proofs Ve
namespace VeT
noncomputable def qnF(x:Shf)(k:Int)(v:Sim):Option Sim:=qo6 x.2.1 (SD x.1 x.2.2.1 k).toNat (SD x.1 x.2.2.1 (k-1)).toNat (qcg x (k-1)).2.2.2.1 v
theorem qpZ{x:Shf}(k:Int)(v:Sim)(hs:VS x.1 x.2.1 x.2.2.1 x.2.2.2.1)(hv:qfo x k v) :
  Ret E n_Z78 [dI (qcg x (k-1)).1,dI (qcg x (k-1)).2.1,dI (qcg x (k-1)).2.2.1,dL (qcg x (k-1)).2.2.2.1,dL v] ⟨o_Z78,qrq (qnF x k v)⟩:=by
 obtain⟨H,eH,bH,tH⟩:=qcb hs k
 obtain⟨W,eW,bW,tW⟩:=qcb hs (k-1)
 have hp:2≤x.2.1∧x.2.1≤251:=⟨hs.2.1.1,hs.2.1.2.1⟩
 have hRC:=qcN bH bW
 have hRW:H*(W+1)=H*W+H:=Nat.mul_succ _ _
 have hl:(qcg x (k-1)).2.2.2.1.length=H*W:=by show(qek _ _ _ _ (k-1)).length=_;rw[qbg,tW,show k-1+1=k by omega,tH]
 have he:qax (qcg x (k-1)).2.2.2.1 x.2.1:=qbD hs (k-1)
 have hM:qcg x (k-1)=(x.2.1,(H:Int),(W:Int),(qcg x (k-1)).2.2.2.1,()):=by
  show(_,SD x.1 x.2.2.1 (k-1+1),SD x.1 x.2.2.1 (k-1),_,_)=_
  rw[show k-1+1=k by omega,eH,eW];rfl
 have hvl:v.length=H:=by have:=hv.2;omega
 have k1:=qkM x.2.1 H W (qcg x (k-1)).2.2.2.1 v hp (by omega) (by omega) (by omega) hl he hvl hv.1
 have eK:qnF x k v=qo6 x.2.1 H W (qcg x (k-1)).2.2.2.1 v:=by unfold qnF;rw[tH,tW]
 rw[eK]
 have e1:(qcg x (k-1)).2.1=(H:Int):=by rw[hM]
 have e2:(qcg x (k-1)).2.2.1=(W:Int):=by rw[hM]
 rw[e1,e2]
 exact k1
theorem qfX(x:Shf)(k:Int)(v:Sim)(hx:Sm (.st cS) x)(hk:0≤k∧k≤3)(hs:VS x.1 x.2.1 x.2.2.1 x.2.2.2.1)(hv:qfo x k v) :
  Ret E n_Z70 [dLL x.1,dI x.2.1,dL x.2.2.1,dMs x.2.2.2.1,dI k,dL v] ⟨o_Z70,qrq (qnF x k v)⟩:=by
 refine qaj ?_
 simp only[run_Z70,Z70.ev,qaf (n:=k-1) (by omega) (by omega)]
 exact qaa (qaV x.1 x.2.1 x.2.2.1 x.2.2.2.1 (k-1) (by omega) hx.1 hs) (qaa (qpZ k v hs hv) qal)
noncomputable def qbR(x:Shf)(k:Int)(v:Sim):Sim×Int×Unit:=if CC x k v=0 then(match qnF x k v with | some y=>(y,0,()) | none=>([],3,())) else([],CC x k v,())
theorem qc6(x:Shf)(k:Int)(v:Sim)(hx:Sm (.st cS) x)(hv:Sm (.sl (.int .i64)) v):Ret E n_Z12 [dLL x.1,dI x.2.1,dL x.2.2.1,dMs x.2.2.2.1,dI k,dL v] ⟨o_Z12,qbR x k v⟩:=by
 refine qaj ?_
 simp only[run_Z12,Z12.ev]
 refine qaa (qbN x k v hx hv) (qbL (fun h=>qah ?_) fun h=>?_)
 ·have h:¬ CC x k v=0:=by simpa using h
  rw[qbR,if_neg h]
 ·have h:CC x k v=0:=by simpa using h
  have hh:=qcO.1 h
  rw[qbR,if_pos h]
  refine qaa (qfX x k v hx hh.1.2 hh.1.1.1 hh.2) ?_
  cases qnF x k v with
  | none=>exact qaC rfl qal
  | some y=>exact qaI rfl qal
noncomputable def qd9(x:Shf)(k:Int)(v:Sim):Bool×Unit:=((qbR x k v).2.1==0,())
theorem qeY(x:Shf)(k:Int)(v:Sim)(hx:Sm (.st cS) x)(hv:Sm (.sl (.int .i64)) v):Ret E n_Z8 [dLL x.1,dI x.2.1,dL x.2.2.1,dMs x.2.2.2.1,dI k,dL v] ⟨o_Z8,qd9 x k v⟩:=by
 refine qaj ?_
 simp only[run_Z8,Z8.ev]
 exact qaa (qc6 x k v hx hv) qal
theorem qqW{p a b:Int}:(a+(p-1)*b)%p=(a-b)%p:=by
 rw[show a+(p-1)*b=(a-b)+p*b by rw[Int.sub_mul,Int.one_mul];omega,Int.add_mul_emod_self_left]
def qrC(x:Shf)(k:Int)(a b:Sim):Prop:=CC x k a=0∧CC x k b=0∧Zs (qc2 x k a)∧Zs (qc2 x k b)
open Classical in
noncomputable def qcv(x:Shf)(k:Int)(a b:Sim):Bool×Unit :=
 if qrC x k a b then((qrq (qnF x k (qnx a b (x.2.1-1) x.2.1))).2.1,()) else(false,())
theorem qlA{x:Shf}{k:Int}{a b:Sim}(hp:2≤x.2.1)(ha:qfo x k a):qfo x k (qnx a b (x.2.1-1) x.2.1):=by
 refine⟨fun y hy=>?_,by rw[qmh];exact ha.2⟩
 obtain⟨i,_,rfl⟩:=List.mem_map.1 hy
 exact qbQ hp
theorem qgs(x:Shf)(k:Int)(a b:Sim)(hx:Sm (.st cS) x)(ha:Sm (.sl (.int .i64)) a)(hb:Sm (.sl (.int .i64)) b) :
  Ret E n_Z13 [dLL x.1,dI x.2.1,dL x.2.2.1,dMs x.2.2.2.1,dI k,dL a,dL b] ⟨o_Z13,qcv x k a b⟩:=by
 refine qaj ?_
 simp only[run_Z13,Z13.ev,Z13.j0_eq _ qae]
 have no:¬ qrC x k a b→some (⟨o_Z13,(false,())⟩:Dv)=some ⟨o_Z13,qcv x k a b⟩:=fun h=>by rw[qcv,if_neg h]
 refine qaa (qbN x k a hx ha) (qbL (fun h=>qaC rfl (qah (no fun hh=>?_))) fun h=>?_)
 ·have h:¬ CC x k a=0:=by simpa using h
  exact h hh.1
 ·have h1:CC x k a=0:=by simpa using h
  have k1:=qcO.1 h1
  refine qaa (qbN x k b hx hb) (qbL (fun h=>qaC rfl (qah (no fun hh=>?_))) fun h=>?_)
  ·have h:¬ CC x k b=0:=by simpa using h
   exact h hh.2.1
  ·have h2:CC x k b=0:=by simpa using h
   have k2:=qcO.1 h2
   refine qaa (qdR x k a hx k1) (qbL (fun h=>qaC rfl (qah (no fun hh=>?_))) fun h=>?_)
   ·exact qaY.1 (show pb (Zs (qc2 x k a))=false by simpa using h) hh.2.2.1
   ·have h3:=qaG.1 (show pb (Zs (qc2 x k a))=true by simpa using h)
    refine qaa (qdR x k b hx k2) (qbL (fun h=>qah (no fun hh=>?_)) fun h=>?_)
    ·exact qaY.1 (show pb (Zs (qc2 x k b))=false by simpa using h) hh.2.2.2
    ·have h4:=qaG.1 (show pb (Zs (qc2 x k b))=true by simpa using h)
     have hp:2≤x.2.1∧x.2.1≤251:=⟨k1.1.1.1.2.1.1,k1.1.1.1.2.1.2.1⟩
     have hal:a.length≤1048576:=ha.1
     have hab:a.length≤b.length:=by have:=k1.2.2;have:=k2.2.2;omega
     rw[qcv,if_pos ⟨h1,h2,h3,h4⟩,qaf (n:=x.2.1-1) (by omega) (by omega)]
     exact qaa (qdw a b (x.2.1-1) x.2.1 hp (by omega) hab hal (fun y hy=>by have:=k1.2.1 y hy;omega) (fun y hy=>by have:=k2.2.1 y hy;omega))
      (qaa (qfX x k (qnx a b (x.2.1-1) x.2.1) hx k1.1.2 k1.1.1.1 (qlA hp.1 k1.2)) qal)
end VeT
open Go Go.Proofs Ve
namespace VeT
noncomputable abbrev qmL(x:Shf)(k:Int):Ent:=qbJ (qcg x k).2.2.2.1 (SD x.1 x.2.2.1 k).toNat
theorem qfR{x:Shf}{k:Int}{v:Sim}{r:Nat}(hr:r<(SD x.1 x.2.2.1 (k+1)).toNat):(qc2 x k v).getD r 0=qaB (qmL x k r) (fun g=>v.getD g 0) (SD x.1 x.2.2.1 k).toNat%x.2.1:=qon (m:=qcg x k) hr
theorem qgc{x:Shf}{k:Int}{v:Sim}:(qc2 x k v).length=(SD x.1 x.2.2.1 (k+1)).toNat:=by unfold qc2;exact qdW
theorem qqc{x:Shf}(h:VS x.1 x.2.1 x.2.2.1 x.2.2.2.1)(k:Int):0≤SD x.1 x.2.2.1 k:=by
 obtain⟨n,e,_⟩:=qcb h k
 omega
theorem qkZ{x:Shf}{k:Int}{v:Sim}(h:VS x.1 x.2.1 x.2.2.1 x.2.2.2.1):qfo x (k+1) (qc2 x k v) :=
 ⟨qnn (m:=qcg x k) h.2.1.1,by rw[qgc];have:=qqc h (k+1);omega⟩
theorem qjx{x:Shf}{k:Int}{v:Sim}:Zs (qc2 x k v)↔qme x.2.1 (SD x.1 x.2.2.1 (k+1)).toNat (SD x.1 x.2.2.1 k).toNat (qmL x k) fun g=>v.getD g 0:=by
 constructor
 ·intro h i hi
  have:=h ((qc2 x k v).getD i 0) (by rw[qag (by rw[qgc];exact hi)];exact List.getElem_mem _)
  rw[qfR hi,qaE] at this
  exact this
 ·intro h y hy
  obtain⟨r,hr,rfl⟩:=List.getElem_of_mem hy
  have hr':=hr
  rw[qgc] at hr'
  rw[← qag hr,qfR hr',qaE]
  exact h r hr'
theorem qme.add{p:Int}{R W:Nat}{A:Ent}{x y:Nat→Int}(hx:qme p R W A x)(hy:qme p R W A y):qme p R W A fun j=>x j+y j:=fun i hi=>by
 rw[qhc,Int.add_emod,hx i hi,hy i hi];simp
theorem qme.congr{p:Int}{R W:Nat}{A:Ent}{x y:Nat→Int}(h:∀ j,j<W→x j%p=y j%p)(hx:qme p R W A x):qme p R W A y:=fun i hi=>by
 rw[← hx i hi,qaE,qaE (c:=x)]
 exact(qbH fun j hj=>h j hj).symm
theorem qqX{x:Shf}{k:Int}{y:Sim}(hs:ISh x)(hk:1≤k):qme x.2.1 (SD x.1 x.2.2.1 (k+1)).toNat (SD x.1 x.2.2.1 k).toNat (qmL x k) fun g=>(qc2 x (k-1) y).getD g 0:=fun r hr=>by
 have e:qaB (fun g=>(qc2 x (k-1) y).getD g 0) (qmL x k r) (SD x.1 x.2.2.1 k).toNat%x.2.1=qaB (qmL x k r) (fun a=>qaB (qmL x (k-1) a) (fun g=>y.getD g 0) (SD x.1 x.2.2.1 (k-1)).toNat) (SD x.1 x.2.2.1 k).toNat%x.2.1:=by
  rw[qaE]
  exact qbH fun a ha=>by
   rw[qfR (by rw[show k-1+1=k by omega];exact ha),Int.emod_emod_of_dvd _ (Int.dvd_refl _)]
 rw[e]
 have s:=qeH (y:=fun g=>y.getD g 0) (c:=qmL x k r) (A:=qmL x (k-1)) (W:=(SD x.1 x.2.2.1 (k-1)).toNat) (R:=(SD x.1 x.2.2.1 k).toNat)
 have e2:qaB (qmL x k r) (fun a=>qaB (qmL x (k-1) a) (fun g=>y.getD g 0) (SD x.1 x.2.2.1 (k-1)).toNat) (SD x.1 x.2.2.1 k).toNat=qaB (qmL x k r) (fun a=>qaB (fun g=>y.getD g 0) (qmL x (k-1) a) (SD x.1 x.2.2.1 (k-1)).toNat) (SD x.1 x.2.2.1 k).toNat :=
  qaw fun a ha=>⟨rfl,qaE⟩
 rw[e2,← s]
 refine(qbH (h:=fun _=>0) fun g hg=>?_).trans (by rw[qcd];simp)
 have:=qrf hs.1 hs.2 hk hr hg
 rw[qaE] at this
 rw[Int.zero_emod]
 exact this
theorem qrT{x:Shf}{k:Int}{y:Sim}(hs:ISh x)(hk:1≤k):Zs (qc2 x k (qc2 x (k-1) y)):=qjx.2 (qqX hs hk)
theorem qmv{x:Shf}{k:Int}{v:Sim}(hs:VS x.1 x.2.1 x.2.2.1 x.2.2.2.1)(hv:qfo x k v):(qnF x k v≠none↔InR x.2.1 (SD x.1 x.2.2.1 k).toNat (qct x k) v) ∧
  ∀ y,qnF x k v=some y→qfo x (k-1) y∧qc2 x (k-1) y=v:=by
 have hl:(qcg x (k-1)).2.2.2.1.length=(SD x.1 x.2.2.1 k).toNat*(SD x.1 x.2.2.1 (k-1)).toNat:=by
  show(qek _ _ _ _ (k-1)).length=_;rw[qbg,show k-1+1=k by omega]
 have he:qax (qcg x (k-1)).2.2.2.1 x.2.1:=qbD hs (k-1)
 have hvl:v.length=(SD x.1 x.2.2.1 k).toNat:=by have:=hv.2;omega
 obtain⟨hc1,hc2,hc3⟩:=qdC hl he
 obtain⟨i1,i2⟩:=qng hs.2.1 hl he hvl hv.1
 have hslv:=hc1.slv (v:=v)
 rw[hc2] at hslv
 refine⟨i1.trans hslv,fun y hy=>?_⟩
 obtain⟨y1,y2⟩:=qjw hs.2.1 hl he hvl hv.1 hy
 refine⟨⟨y2,by have:=qqc hs (k-1);omega⟩,?_⟩
 refine qfF (by rw[qgc,hvl,show k-1+1=k by omega]) fun i hi=>?_
 rw[qgc] at hi
 have hi':i<(SD x.1 x.2.2.1 k).toNat:=by rw[show k-1+1=k by omega] at hi;exact hi
 rw[qfR hi,qaE]
 refine(i2 y hy i hi').trans ?_
 rw[qag (by omega)]
 have:=hv.1 _ (List.getElem_mem (show i<v.length by omega))
 have:=hs.2.1.1
 exact Int.emod_eq_of_lt (by omega) (by omega)
theorem qqw{x:Shf}{k:Int}{y:Sim}(hs:VS x.1 x.2.1 x.2.2.1 x.2.2.2.1):InR x.2.1 (SD x.1 x.2.2.1 k).toNat (qct x k) (qc2 x (k-1) y):=by
 have hl:(qcg x (k-1)).2.2.2.1.length=(SD x.1 x.2.2.1 k).toNat*(SD x.1 x.2.2.1 (k-1)).toNat:=by
  show(qek _ _ _ _ (k-1)).length=_;rw[qbg,show k-1+1=k by omega]
 obtain⟨hc1,hc2,hc3⟩:=qdC hl (qbD hs (k-1))
 have hslv:=hc1.slv (v:=qc2 x (k-1) y)
 rw[hc2] at hslv
 refine hslv.1 ⟨fun g=>y.getD g 0,fun i hi=>?_⟩
 show _=(qc2 x (k-1) y).getD i 0%x.2.1
 rw[qfR (by rw[show k-1+1=k by omega];exact hi),Int.emod_emod_of_dvd _ (Int.dvd_refl _),qaE]
theorem qjR{p:Int}{W:Nat}:∀ {l h:List Sim} {x:Sim},x∈qeV p W h l→¬ InR p W h x
 | [],h,x,hx=>by simp[qeV] at hx
 | y::l,h,x,hx=>by
  unfold qeV at hx
  split at hx
  ·exact qjR hx
  ·rename_i hy
   rcases List.mem_cons.1 hx with rfl | hx
   ·exact hy
   ·exact fun hh=>qjR hx hh.left
theorem qj2{x:Shf}{k:Int}{v:Sim}(hs:VS x.1 x.2.1 x.2.2.1 x.2.2.2.1)(hv:v∈qeT x k):qfo x k v∧qme x.2.1 (SD x.1 x.2.2.1 (k+1)).toNat (SD x.1 x.2.2.1 k).toNat (qmL x k) (fun g=>v.getD g 0)∧¬ InR x.2.1 (SD x.1 x.2.2.1 k).toNat (qct x k) v:=by
 have hk:v∈qmr x k:=qhd hv
 have h1:=(qhg (k:=k) hs).1 v hk
 refine⟨⟨h1.2,by have:=qqc hs k;omega⟩,qp6 hs.2.1 qbg (qbD hs k) hk,qjR hv⟩
theorem qrl{x:Shf}{k:Int}{v:Sim}(hs:VS x.1 x.2.1 x.2.2.1 x.2.2.2.1)(hv:v∈qeT x k):qd9 x k v=(false,()):=by
 obtain⟨h1,h2,h3⟩:=qj2 hs hv
 have hp:qnF x k v=none:=Classical.byContradiction fun hn=>h3 ((qmv hs h1).1.1 hn)
 unfold qd9 qbR
 rw[hp]
 by_cases hc:CC x k v=0
 ·rw[if_pos hc];rfl
 ·rw[if_neg hc];simp[hc]
def qge(p:Int)(W:Nat)(bs:List Sim)(want:Sim)(n:Nat):Sim:=(List.range W).map fun j=>qaB (fun i=>want.getD i 0) (fun i=>qbC bs i j) n%p
theorem qcy{p:Int}{W:Nat}{bs:List Sim}{want:Sim}{n:Nat}:(qge p W bs want n).length=W:=by simp[qge]
theorem qeU{p:Int}{W:Nat}{bs:List Sim}{want:Sim}{n j:Nat}(hj:j<W):(qge p W bs want n).getD j 0=qaB (fun i=>want.getD i 0) (fun i=>qbC bs i j) n%p:=by
 unfold qge
 rw[List.getD_eq_getElem?_getD,List.getElem?_map,List.getElem?_range hj];rfl
theorem qiW{p:Int}{W:Nat}{bs:List Sim}{want:Sim}{n:Nat}(hp:2≤p):qax (qge p W bs want n) p:=fun y hy=>by
 obtain⟨j,_,rfl⟩:=List.mem_map.1 hy
 exact qbQ hp
theorem qpO{p:Int}{R W:Nat}{A:Ent}{bs:List Sim}{want:Sim}{n:Nat}(h:∀ i,i<n→qme p R W A (qbC bs i)):qme p R W A fun j=>(qge p W bs want n).getD j 0:=fun r hr=>by
 rw[qaE]
 refine(qbH (h:=fun j=>qaB (fun i=>want.getD i 0) (fun i=>qbC bs i j) n) fun j hj=>by rw[qeU hj,Int.emod_emod_of_dvd _ (Int.dvd_refl _)]).trans ?_
 rw[qeH]
 refine(qbH (h:=fun _=>0) fun i hi=>?_).trans (by rw[qcd];simp)
 rw[Int.zero_emod,qaE]
 exact h i hi r hr
theorem qmS{rows:List Sim}{i:Nat}(hi:i<rows.length):qbC rows i=fun j=>(rows[i]).getD j 0:=by
 funext j;unfold qbC
 rw[List.getD_eq_getElem?_getD (l:=rows),List.getElem?_eq_getElem hi];rfl
theorem qoW{x:Shf}{k:Int}{want:Sim}(hs:VS x.1 x.2.1 x.2.2.1 x.2.2.2.1):qme x.2.1 (SD x.1 x.2.2.1 (k+1)).toNat (SD x.1 x.2.2.1 k).toNat (qmL x k) fun j=>(qge x.2.1 (SD x.1 x.2.2.1 k).toNat (qeT x k) want (qeT x k).length).getD j 0 :=
 qpO fun i hi=>by rw[qmS hi];exact(qj2 hs (List.getElem_mem hi)).2.1
theorem qnh{x:Shf}{k:Int}{want:Sim}{n:Nat}(hs:VS x.1 x.2.1 x.2.2.1 x.2.2.2.1):qfo x k (qge x.2.1 (SD x.1 x.2.2.1 k).toNat (qeT x k) want n):=⟨qiW hs.2.1.1,by rw[qcy];have:=qqc hs k;omega⟩
theorem qm0{x:Shf}{k:Int}{want z:Sim}(hs:ISh x)(hk:0≤k∧k≤3)(hl:want.length=(qeT x k).length)(he:qax want x.2.1)(hz:qfo x k z)(hzs:Zs (qc2 x k z)){d:Nat→Int}
  (hd:Spn x.2.1 (qct x k).length (SD x.1 x.2.2.1 k).toNat (qbC (qct x k)) d)
  (h:∀ j,j<(SD x.1 x.2.2.1 k).toNat→z.getD j 0%x.2.1=(qaB (fun i=>want.getD i 0) (fun i=>qbC (qeT x k) i j) (qeT x k).length+d j)%x.2.1):qbv x k z=(want,0,()):=by
 have hc:CC x k z=0:=qcO.2 ⟨⟨hs,hk⟩,hz⟩
 have hcls:qiM x.2.1 (SD x.1 x.2.2.1 k).toNat (qct x k) (qeT x k) z want:=⟨⟨hl,he⟩,hd.congr fun j hj=>by
  have:=h j hj
  rw[Int.sub_emod,this,← Int.sub_emod]
  congr 1;omega⟩
 unfold qbv qna
 rw[if_pos hc,if_pos hzs]
 unfold qeT at hcls ⊢
 rw[qkX hs.1.2.1 hcls]
theorem qoA{x:Shf}{k:Int}{want:Sim}(hs:ISh x)(hk:0≤k∧k≤3)(hl:want.length=(qeT x k).length)(he:qax want x.2.1) :
  qbv x k (qge x.2.1 (SD x.1 x.2.2.1 k).toNat (qeT x k) want (qeT x k).length)=(want,0,()) :=
 qm0 hs hk hl he (qnh hs.1) (qjx.2 (qoW hs.1)) (Spn.zero (A:=qbC (qct x k))) fun j hj=>by
  rw[qeU hj,Int.emod_emod_of_dvd _ (Int.dvd_refl _),Int.add_zero]
def qdK(p:Int)(a b:Sim):Sim:=(List.range a.length).map fun j=>(a.getD j 0+b.getD j 0)%p
theorem qeM{p:Int}{a b:Sim}:(qdK p a b).length=a.length:=by simp[qdK]
theorem qfJ{p:Int}{a b:Sim}{j:Nat}(hj:j<a.length):(qdK p a b).getD j 0=(a.getD j 0+b.getD j 0)%p:=by
 unfold qdK
 rw[List.getD_eq_getElem?_getD,List.getElem?_map,List.getElem?_range hj];rfl
theorem qpp{x:Shf}{k:Int}{a b:Sim}(hp:2≤x.2.1)(ha:qfo x k a):qfo x k (qdK x.2.1 a b):=⟨fun y hy=>by
 obtain⟨j,_,rfl⟩:=List.mem_map.1 hy
 exact qbQ hp,by rw[qeM];exact ha.2⟩
theorem qrg{x:Shf}{k:Int}{a b:Sim}(hs:VS x.1 x.2.1 x.2.2.1 x.2.2.2.1)(hca:qfo x k a)(ha:Zs (qc2 x k a))(hb:Zs (qc2 x k b)):Zs (qc2 x k (qdK x.2.1 a b)) :=
 qjx.2 (((qjx.1 ha).add (qjx.1 hb)).congr fun j hj=>by
  rw[qfJ (by have:=hca.2;omega),Int.emod_emod_of_dvd _ (Int.dvd_refl _)])
theorem qny{x:Shf}{k:Int}{want y:Sim}(hs:ISh x)(hk:1≤k∧k≤3)(hl:want.length=(qeT x k).length)(he:qax want x.2.1) :
  qbv x k (qdK x.2.1 (qge x.2.1 (SD x.1 x.2.2.1 k).toNat (qeT x k) want (qeT x k).length) (qc2 x (k-1) y))=(want,0,()) ∧
  qcv x k (qge x.2.1 (SD x.1 x.2.2.1 k).toNat (qeT x k) want (qeT x k).length) (qdK x.2.1 (qge x.2.1 (SD x.1 x.2.2.1 k).toNat (qeT x k) want (qeT x k).length) (qc2 x (k-1) y))=(true,()):=by
 have hp:=hs.1.2.1.1
 have h1:=qnh (k:=k) (want:=want) (n:=(qeT x k).length) hs.1
 have h2:=qjx.2 (qoW (k:=k) (want:=want) hs.1)
 have h3:=qrT (y:=y) hs hk.1
 have hin:=qqw (k:=k) (y:=y) hs.1
 have hpc:=qpp (b:=qc2 x (k-1) y) hp h1
 have hpz:=qrg hs.1 h1 h2 h3
 refine⟨qm0 hs ⟨by omega,hk.2⟩ hl he hpc hpz (d:=fun j=>(qc2 x (k-1) y).getD j 0) hin fun j hj=>?_,?_⟩
 ·rw[qfJ (by rw[qcy];exact hj),Int.emod_emod_of_dvd _ (Int.dvd_refl _),qeU hj,Int.emod_add_emod]
 ·generalize qge x.2.1 (SD x.1 x.2.2.1 k).toNat (qeT x k) want (qeT x k).length=s at h1 h2 hpc hpz ⊢
  unfold qcv
  rw[if_pos ⟨qcO.2 ⟨⟨hs,by omega,hk.2⟩,h1⟩,qcO.2 ⟨⟨hs,by omega,hk.2⟩,hpc⟩,h2,hpz⟩]
  have hac:=qlA (b:=qdK x.2.1 s (qc2 x (k-1) y)) hp h1
  have hn:qnF x k (qnx s (qdK x.2.1 s (qc2 x (k-1) y)) (x.2.1-1) x.2.1)≠none:=(qmv hs.1 hac).1.2 ((hin.smul (-1)).congr fun j hj=>by
   have hjl:j<s.length:=by have:=h1.2;omega
   rw[qpH hjl,Int.emod_emod_of_dvd _ (Int.dvd_refl _),qqW,qfJ hjl,Int.sub_emod,Int.emod_emod_of_dvd _ (Int.dvd_refl _),← Int.sub_emod]
   congr 1;omega)
  cases e:qnF x k (qnx s (qdK x.2.1 s (qc2 x (k-1) y)) (x.2.1-1) x.2.1) with
  | none=>exact absurd e hn
  | some y=>rfl
theorem qpX{x:Shf}{k:Int}{y:Sim}(hs:ISh x)(hk:1≤k∧k≤3):∃ b,qbR x k (qc2 x (k-1) y)=(b,0,())∧qfo x (k-1) b∧qaZ x (k-1) b=(qc2 x (k-1) y,0,()):=by
 have hc:=qkZ (k:=k-1) (v:=y) hs.1
 rw[show k-1+1=k by omega] at hc
 obtain⟨i1,i2⟩:=qmv hs.1 hc
 cases e:qnF x k (qc2 x (k-1) y) with
 | none=>exact absurd e (i1.2 (qqw hs.1))
 | some b =>
  obtain⟨b1,b2⟩:=i2 b e
  refine⟨b,?_,b1,?_⟩
  ·unfold qbR
   rw[if_pos (qcO.2 ⟨⟨hs,by omega,hk.2⟩,hc⟩),e]
  ·unfold qaZ
   rw[if_pos (qcO.2 ⟨⟨hs,by omega,by omega⟩,b1⟩),b2]
end VeT
