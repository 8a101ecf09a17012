import Derived.Test.YtagdejckmpipbaaGreatDoorT6
import Derived.Test.YtagdejckmpipbaaGreatDoorT5
set_option linter.unusedVariables false
set_option linter.unusedSimpArgs false
open Go Go.Proofs Ve
namespace VeT
theorem qpH{cells:Sim}{R C i:Nat}(hl:cells.length=R*C)(hi:i<R):(cells.take ((i+1)*C)).drop (i*C)=(List.range C).map (qea cells C i):=by
 have h:=qlH (f:=qea cells C) (C:=C) hi
 rw[qfD hl] at h
 exact h
def Rws(p:Int)(W:Nat)(rows:List Sim):Prop:=∀ x∈rows,x.length=W∧qaT x p
theorem Rws.flat{p:Int}{W:Nat}{rows:List Sim}(h:Rws p W rows):rows.flatten.length=rows.length*W∧qaT rows.flatten p:=by
 induction rows with
 | nil=>exact⟨by simp,fun x hx=>by simp at hx⟩
 | cons r rows ih =>
  obtain⟨h1,h2⟩:=ih fun x hx=>h x (List.mem_cons_of_mem _ hx)
  obtain⟨h3,h4⟩:=h r List.mem_cons_self
  refine⟨by rw[List.flatten_cons,List.length_append,h1,h3,List.length_cons,Nat.add_mul];omega,fun x hx=>?_⟩
  rw[List.flatten_cons,List.mem_append] at hx
  rcases hx with hx | hx
  ·exact h4 x hx
  ·exact h2 x hx
end VeT
open Go Go.Proofs Ve
namespace VeT
def qsE(A:Ent)(b:Sim)(W:Nat):Ent:=fun i j=>if j=W then b.getD i 0 else A i j
theorem qrG{p:Int}{R W:Nat}{A:Ent}{b:Sim}(hA:EIn p R W A)(hb:qaT b p)(hl:b.length=R):EIn p R (W+1) (qsE A b W):=fun i j hi hj=>by
 unfold qsE
 split
 ·rw[qaf (by omega)];exact hb _ (List.getElem_mem _)
 ·exact hA i j hi (by omega)
def qsQ(cells b:Sim)(W R:Nat):Sim:=qat (qsE (qea cells W) b W) (W+1) R
theorem qbH{f:Ent}{W R i j:Nat}(hi:i<R)(hj:j<W):qea (qat f W R) W i j=f i j:=by
 unfold qea
 rw[List.getD_eq_getElem?_getD,qb1 hi hj];rfl
end VeT
open Go Go.Proofs Ve
namespace VeT
theorem qlz{c g h:Nat→Int}:∀ {n:Nat},qa5 c (fun i=>g i+h i) n=qa5 c g n+qa5 c h n
 | 0=>rfl
 | n+1=>by simp only[qa5];rw[qlz,Int.mul_add];omega
theorem qiZ{k:Int}{c g:Nat→Int}:∀ {n:Nat},qa5 c (fun i=>k*g i) n=k*qa5 c g n
 | 0=>by simp[qa5]
 | n+1=>by simp only[qa5];rw[qiZ,Int.mul_add,← Int.mul_assoc,Int.mul_comm (c n) k,Int.mul_assoc]
theorem qjB{c:Nat→Int}:∀ {n:Nat},qa5 c (fun _=>0) n=0
 | 0=>rfl
 | n+1=>by simp only[qa5];rw[qjB,Int.mul_zero];rfl
theorem qbG{c g:Nat→Int}:∀ {n:Nat},qa5 c g n=qa5 g c n
 | 0=>rfl
 | n+1=>by simp only[qa5];rw[qbG,Int.mul_comm]
theorem qk7{y c:Nat→Int}{A:Ent}{W:Nat}:∀ {R:Nat},qa5 y (fun j=>qa5 c (fun i=>A i j) R) W=qa5 c (fun i=>qa5 y (A i) W) R
 | 0=>qjB
 | R+1=>by
  simp only[qa5]
  rw[qlz,qk7,qiZ]
theorem qfg{p:Int}{c g h:Nat→Int}:∀ {n:Nat},(∀ i,i<n→g i%p=h i%p)→qa5 c g n%p=qa5 c h n%p
 | 0,_=>rfl
 | n+1,hgh=>by
  simp only[qa5]
  rw[Int.add_emod,qfg (n:=n) fun i hi=>hgh i (by omega),Int.mul_emod,hgh n (Nat.lt_succ_self n),← Int.mul_emod,← Int.add_emod]
theorem qba{c d g h:Nat→Int}:∀ {n:Nat},(∀ i,i<n→c i=d i∧g i=h i)→qa5 c g n=qa5 d h n
 | 0,_=>rfl
 | n+1,e=>by simp only[qa5];rw[qba (n:=n) fun i hi=>e i (by omega),(e n (Nat.lt_succ_self n)).1,(e n (Nat.lt_succ_self n)).2]
end VeT
open Go Go.Proofs Ve
namespace VeT
theorem qlV{c g:Nat→Int}{t:Nat}:∀ {n:Nat},t≤n→(∀ i,t≤i→i<n→g i=0)→qa5 c g n=qa5 c g t
 | 0,h,_=>by rw[show t=0 by omega]
 | n+1,h,hz=>by
  by_cases ht:t=n+1
  ·rw[ht]
  ·simp only[qa5]
   rw[qlV (n:=n) (by omega) fun i h1 h2=>hz i h1 (by omega),hz n (by omega) (Nat.lt_succ_self n),Int.mul_zero,Int.add_zero]
def ql5(rows:List Sim):Ent:=fun i j=>(rows.getD i []).getD j 0
end VeT
open Go Go.Proofs Ve
namespace VeT
def InR(p:Int)(W:Nat)(rows:List Sim)(x:Sim):Prop:=Spn p rows.length W (ql5 rows) (fun j=>x.getD j 0)
end VeT
open Go Go.Proofs Ve
namespace VeT
theorem InR.mem{p:Int}{W:Nat}{rows:List Sim}{r:Sim}(h:r∈rows):InR p W rows r:=by
 obtain⟨i,hi,e⟩:=List.mem_iff_getElem.1 h
 have:ql5 rows i=fun j=>r.getD j 0:=by funext j;unfold ql5;rw[qaf hi,e]
 unfold InR
 rw[← this]
 exact Spn.row hi
theorem InR.trans{p:Int}{W:Nat}{A B:List Sim}{y:Sim}(h:∀ r∈A,InR p W B r)(hy:InR p W A y):InR p W B y :=
 Spn.trans (fun i hi=>by
  have e:ql5 A i=fun j=>(A[i]).getD j 0:=by funext j;unfold ql5;rw[qaf hi]
  rw[e]
  exact h _ (List.getElem_mem hi)) hy
def qsh(p:Int)(W:Nat)(A B:List Sim):Prop:=∀ y,InR p W A y↔InR p W B y
theorem qsh.refl{p:Int}{W:Nat}{A:List Sim}:qsh p W A A:=fun _=>Iff.rfl
end VeT
open Go Go.Proofs Ve
namespace VeT
def qsX(p:Int)(W:Nat)(cells:Sim)(h:List Sim):Prop:=(cells.length=W*h.length∧qaT cells p)∧∀ i j,i<W→j<h.length→qea cells h.length i j=ql5 h j i
theorem qsX.next{p:Int}{W:Nat}{cells:Sim}{h:List Sim}{v:Sim}(hc:qsX p W cells h)(hv:qaT v p)(hl:v.length=W):qsX p W (qsQ cells v h.length W) (h++[v]):=by
 have hlen:(h++[v]).length=h.length+1:=by simp
 have hA0:=qf6 hc.1.2 hc.1.1
 have hA1:=qrG hA0 hv hl
 refine⟨⟨by rw[hlen];exact qas,fun x hx=>?_⟩,fun i j hi hj=>?_⟩
 ·unfold qsQ at hx
  rw[← qcz] at hx
  obtain⟨row,hrow,hx⟩:=List.mem_flatten.1 hx
  obtain⟨i,hi,rfl⟩:=List.mem_map.1 hrow
  obtain⟨j,hj,rfl⟩:=List.mem_map.1 hx
  exact hA1 i j (List.mem_range.1 hi) (List.mem_range.1 hj)
 ·rw[hlen] at hj ⊢
  unfold qsQ
  rw[qbH hi hj]
  unfold qsE ql5
  by_cases hjh:j<h.length
  ·rw[if_neg (by omega),hc.2 i j hi hjh,List.getD_eq_getElem?_getD (l:=h++[v]),List.getElem?_append_left hjh,← List.getD_eq_getElem?_getD];rfl
  ·obtain rfl:j=h.length:=by omega
   rw[if_pos rfl,List.getD_eq_getElem?_getD (l:=h++[v]),List.getElem?_append_right (Nat.le_refl _)];simp
end VeT
open Go Go.Proofs Ve
namespace VeT
theorem InR.left{p:Int}{W:Nat}{A B:List Sim}{x:Sim}(h:InR p W A x):InR p W (A++B) x:=InR.trans (fun r hr=>InR.mem (List.mem_append.2 (.inl hr))) h
end VeT
open Go Go.Proofs Ve
namespace VeT
end VeT
open Go Go.Proofs Ve
namespace VeT
theorem Spn.sub{p:Int}{W:Nat}{A B:List Sim}{x:Nat→Int}(h:∀ r∈A,InR p W B r)(hx:Spn p A.length W (ql5 A) x):Spn p B.length W (ql5 B) x :=
 Spn.trans (fun i hi=>by
  have e:ql5 A i=fun j=>(A[i]).getD j 0:=by funext j;unfold ql5;rw[qaf hi]
  rw[e];exact h _ (List.getElem_mem hi)) hx
end VeT
open Go Go.Proofs Ve
namespace VeT
open Classical in
noncomputable def cnt(f:Nat→Prop):Nat→Nat
 | 0=>0
 | n+1=>cnt f n+if f n then 1 else 0
theorem qg4{f g:Nat→Prop}:∀ {n:Nat},(∀ c,c<n→f c→g c)→cnt f n≤cnt g n
 | 0,_=>Nat.le_refl _
 | n+1,h=>by
  have:=qg4 (n:=n) fun c hc=>h c (by omega)
  unfold cnt
  by_cases hf:f n
  ·rw[if_pos hf,if_pos (h n (by omega) hf)];omega
  ·rw[if_neg hf];omega
theorem qfx{f g:Nat→Prop}{n:Nat}(h:∀ c,c<n→(f c↔g c)):cnt f n=cnt g n :=
 Nat.le_antisymm (qg4 fun c hc=>(h c hc).1) (qg4 fun c hc=>(h c hc).2)
theorem qm9{f:Nat→Prop}:∀ {n:Nat},(∀ c,c<n→¬ f c)→cnt f n=0
 | 0,_=>rfl
 | n+1,h=>by
  unfold cnt
  rw[qm9 fun c hc=>h c (by omega),if_neg (h n (by omega))]
theorem qo1{f:Nat→Prop}{k:Nat}:∀ {n:Nat},k<n→¬ f k→cnt (fun c=>f c∨c=k) n=cnt f n+1
 | 0,h,_=>by omega
 | n+1,h,hk=>by
  unfold cnt
  by_cases e:k=n
  ·subst e
   have:cnt (fun c=>f c∨c=k) k=cnt f k:=qfx fun c hc=>⟨fun h=>h.elim id fun e=>by omega,.inl⟩
   rw[this,if_pos (.inr rfl),if_neg hk]
  ·rw[qo1 (by omega) hk]
   by_cases hf:f n
   ·rw[if_pos (.inl hf),if_pos hf]
   ·rw[if_neg (fun h=>h.elim hf fun e'=>e e'.symm),if_neg hf]
theorem qnb{W:Nat}:∀ {l:List Nat},l.Nodup→(∀ c∈l,c<W)→cnt (fun c=>c∈l) W=l.length
 | [],_,_=>qm9 fun c _ h=>by cases h
 | a::l,hn,hl=>by
  obtain⟨h1,h2⟩:=List.nodup_cons.1 hn
  have e:=qnb h2 fun c hc=>hl c (List.mem_cons_of_mem _ hc)
  rw[List.length_cons,← e,← qo1 (hl a List.mem_cons_self) h1]
  exact qfx fun c _=>by rw[List.mem_cons];exact Or.comm
def Ld(p:Int)(W:Nat)(V:(Nat→Int)→Prop)(c:Nat):Prop:=c<W∧∃ x,V x∧(∀ j,j<c→x j%p=0)∧x c%p≠0
noncomputable def rkV(p:Int)(W:Nat)(V:(Nat→Int)→Prop):Nat:=cnt (Ld p W V) W
theorem Ld.mono{p:Int}{W:Nat}{V V':(Nat→Int)→Prop}(h:∀ x,V x→V' x){c:Nat}:Ld p W V c→Ld p W V' c:=fun⟨h1,x,hx,h2⟩=>⟨h1,x,h x hx,h2⟩
theorem qos{p:Int}{W:Nat}{V V':(Nat→Int)→Prop}(h:∀ x,V x↔V' x):rkV p W V=rkV p W V':=qfx fun c _=>⟨Ld.mono fun x=>(h x).1,Ld.mono fun x=>(h x).2⟩
theorem qnB{p:Int}{c g:Nat→Int}:∀ {n:Nat},(∀ i,i<n→c i*g i%p=0)→qa5 c g n%p=0
 | 0,_=>by simp[qa5]
 | n+1,h=>by
  rw[show qa5 c g (n+1)=qa5 c g n+c n*g n from rfl,Int.add_emod,qnB fun i hi=>h i (by omega),h n (by omega)];simp
theorem Rf.nodup{R W:Nat}{F:Ent}{pv:List Nat}(h:Rf R W F pv):pv.Nodup∧∀ c∈pv,c<W:=by
 have hg:∀ i (hi:i<pv.length),pv.getD i 0=pv[i]:=fun i hi=>by rw[List.getD_eq_getElem?_getD,List.getElem?_eq_getElem hi];rfl
 constructor
 ·refine List.pairwise_iff_getElem.2 fun i j hi hj hij=>?_
  have:=h.mono i j hij hj
  rw[hg i hi,hg j hj] at this
  omega
 ·intro c hc
  obtain⟨i,hi,rfl⟩:=List.mem_iff_getElem.1 hc
  have:=h.lt i hi
  rwa [hg i hi] at this
theorem Rf.mem{R W:Nat}{F:Ent}{pv:List Nat}(h:Rf R W F pv){c:Nat}:c∈pv↔∃ i,i<pv.length∧pv.getD i 0=c:=by
 rw[List.mem_iff_getElem]
 constructor
 ·rintro⟨i,hi,rfl⟩;exact⟨i,hi,by rw[List.getD_eq_getElem?_getD,List.getElem?_eq_getElem hi];rfl⟩
 ·rintro⟨i,hi,rfl⟩;exact⟨i,hi,by rw[List.getD_eq_getElem?_getD,List.getElem?_eq_getElem hi];rfl⟩
theorem Rf.coef{p:Int}{R W:Nat}{F:Ent}{pv:List Nat}(h:Rf R W F pv){v:Nat→Int}(hv:Spn p R W F v){j:Nat}(hj:j<W) :
  v j%p=qa5 (fun k=>v (pv.getD k 0)) (fun k=>F k j) pv.length%p:=by
 obtain⟨c,hc⟩:=hv
 have h0:∀ j,j<W→qa5 c (fun i=>F i j) R=qa5 c (fun i=>F i j) pv.length:=fun j hj=>qlV h.len fun i h1 h2=>h.bot i j h1 h2 hj
 have hk:∀ k,k<pv.length→v (pv.getD k 0)%p=c k%p:=fun k hk=>by
  rw[← hc _ (h.lt k hk),h0 _ (h.lt k hk),qbG]
  congr 1
  rw[← qeu (g:=c) hk]
  exact qba fun i hi=>⟨h.one i k (Nat.lt_of_lt_of_le hi h.len) hk,rfl⟩
 rw[← hc j hj,h0 j hj,qbG,qbG (c:=fun k=>v (pv.getD k 0))]
 exact qfg fun i hi=>(hk i hi).symm
theorem Rf.low0{p:Int}{R W:Nat}{F:Ent}{pv:List Nat}(h:Rf R W F pv){v:Nat→Int}(hv:Spn p R W F v){d:Nat}(hd:d<W)(hn:d∉pv)(h0:∀ k,k<pv.length→pv.getD k 0<d→v (pv.getD k 0)%p=0):∀ j,j≤d→v j%p=0:=by
 intro j hj
 rw[h.coef hv (by omega)]
 refine qnB fun k hk=>?_
 rcases Nat.lt_trichotomy (pv.getD k 0) d with e | e | e
 ·rw[Int.mul_emod,h0 k hk e];simp
 ·exact absurd (h.mem.2 ⟨k,hk,e⟩) hn
 ·rw[h.low k j hk (by omega)];simp
theorem qsl{p:Int}{R W:Nat}{F:Ent}{pv:List Nat}(hp:2≤p)(h:Rf R W F pv){c:Nat}:Ld p W (Spn p R W F) c↔c∈pv:=by
 constructor
 ·rintro⟨hc,x,hx,h1,h2⟩
  refine Classical.byContradiction fun hn=>h2 ?_
  exact h.low0 hx hc hn (fun k hk e=>h1 _ e) c (Nat.le_refl _)
 ·intro hm
  obtain⟨i,hi,rfl⟩:=h.mem.1 hm
  have hiR:=Nat.lt_of_lt_of_le hi h.len
  refine⟨h.lt i hi,F i,Spn.row hiR,fun j hj=>by rw[h.low i j hi hj];simp,?_⟩
  rw[h.one i i hiR hi,if_pos rfl,Int.emod_eq_of_lt (by omega) (by omega)]
  omega
theorem qsx{p:Int}{R W:Nat}{F:Ent}{pv:List Nat}(hp:2≤p)(h:Rf R W F pv):rkV p W (Spn p R W F)=pv.length:=by
 rw[← qnb h.nodup.1 h.nodup.2]
 exact qfx fun c _=>qsl hp h
theorem Eqv.spn{p:Int}{R W:Nat}{A B:Ent}(h:Eqv p R W A B){x:Nat→Int}:Spn p R W A x↔Spn p R W B x:=⟨fun hx=>Spn.trans h.2 hx,fun hx=>Spn.trans h.1 hx⟩
theorem qsB{p:Int}{R W:Nat}{A:Ent}(hp:Pr p)(hA:EIn p R W A):(elS p R A W).2.length=rkV p W (Spn p R W A):=by
 obtain⟨h1,h2⟩:=qoK hp hA W (Nat.le_refl _)
 rw[← qsx hp.1 h1]
 exact qos fun x=>h2.spn.symm
theorem InR.spn{p:Int}{W:Nat}{A B:List Sim}(h:∀ r∈A,InR p W B r){x:Nat→Int}(hx:Spn p A.length W (ql5 A) x):Spn p B.length W (ql5 B) x :=
 Spn.trans (fun i hi=>by
  have e:ql5 A i=fun j=>(A[i]).getD j 0:=by funext j;unfold ql5;rw[qaf hi]
  rw[e];exact h _ (List.getElem_mem hi)) hx
end VeT
open Go Go.Proofs Ve
namespace VeT
noncomputable def rkM(p:Int)(R W:Nat)(cells:Sim):Nat:=(elS p R (qea cells W) W).2.length
end VeT
open Go Go.Proofs Ve
namespace VeT
theorem qmH{c:List Sim}(h:VC c){a b:Nat}(ha:a<c.length)(hb:b<c.length)(e:c.getD a []=c.getD b []):a=b:=by
 have key:∀ {a b:Nat},a<b→b<c.length→c.getD a []=c.getD b []→False:=fun {a b} hab hb e=>by
  have:=h.srt a b hb hab
  rw[qaf (by omega),qaf hb] at e
  rw[e,qcc.2 rfl] at this
  omega
 rcases Nat.lt_trichotomy a b with h | h | h
 ·exact absurd e fun e=>key h hb e
 ·exact h
 ·exact absurd e.symm fun e=>key h ha e
theorem qsU{c:List Sim}{p:Int}{st:Sim}{ms:List Mat}{k i j:Nat}(hij:i<j)(h1:Sq c p st ms k i (j-1))(h2:Sq c p st ms k j i):fc c (fc c k i) (j-1)=fc c (fc c k j) i:=by
 have a:=qa4 h1.v.1 h1.fk h1.hj
 have b:=qa4 h2.v.1 h2.fk h2.hj
 refine qmH h1.v.1 a.2.1 b.2.1 ?_
 rw[a.2.2,b.2.2,(qa4 h1.v.1 h1.kl h1.hi).2.2,(qa4 h2.v.1 h2.kl h2.hi).2.2]
 exact(qfa hij).symm
theorem qnW{c:List Sim}{ms:List Mat}(h:qbV c ms=none){k i j:Nat}(hk:k<c.length)(h3:3≤(c.getD k []).length)(hij:i<j)(hj:j<(c.getD k []).length):two c ms k i (j-1)=two c ms k j i:=Classical.byContradiction fun hne=>by
 have hpi:Pi c ms k i:=⟨j,by omega,by omega,hne⟩
 have hpk:Pk c ms k:=⟨h3,i,by omega,by omega,hpi⟩
 have:=qik h (fun _ _ _=>some ⟨.nil,()⟩) none
 obtain⟨k',h1⟩:=qcp (P:=Pk c ms) (a:=0) (d:=c.length) ⟨k,by omega,by omega,hpk⟩
 unfold qbV at h
 rw[h1] at h
 simp only[Option.bind_some] at h
 obtain⟨i',h2⟩:=qcp (qaN h1).2.2.2
 rw[h2] at h
 simp only[Option.bind_some] at h
 obtain⟨j',h3⟩:=qcp (qaN h2).2.2
 rw[h3] at h
 cases h
end VeT
open Go Go.Proofs Ve
namespace VeT
def mE(m:Mat):Ent:=qea m.2.2.2.1 m.2.2.1.toNat
theorem VM.pos{m:Mat}(h:VM m):2≤m.1:=h.1.1
theorem VM.num{m:Mat}(h:VM m):m.2.2.2.1.length=m.2.1.toNat*m.2.2.1.toNat:=by
 obtain⟨R,K,e,_,_,hl⟩:=h.nat
 rw[e] at hl ⊢
 simpa using hl
theorem qs2{m:Mat}(h:VM m){i j:Nat}(hi:i<m.2.1.toNat)(hj:j<m.2.2.1.toNat):0≤mE m i j∧mE m i j≤m.1-1:=qf6 h.2.2.2.2 h.num i j hi hj
theorem qq1{m:Mat}(h:VM m){i j:Nat}(hi:i<m.2.1.toNat)(hj:j<m.2.2.1.toNat):mE m i j%m.1=mE m i j:=by
 have:=qs2 h hi hj
 have:=h.pos
 exact Int.emod_eq_of_lt (by omega) (by omega)
theorem qjT{a b:Mat}(ha:VM a)(hb:VM b)(h1:a.1=b.1)(h2:a.2.1=b.2.1)(h3:a.2.2.1=b.2.2.1)(h:∀ i j,i<a.2.1.toNat→j<a.2.2.1.toNat→mE a i j=mE b i j):a=b:=by
 refine qdN.2 ⟨h1,h2,h3,?_⟩
 have ea:=qfD ha.num
 have eb:=qfD hb.num
 rw[← h2,← h3] at eb
 rw[← ea,← eb]
 refine qaE fun i j hi hj=>?_
 have:=h i j hi hj
 unfold mE at this
 rwa [← h3] at this
theorem qhn{a b:Mat}{i j:Nat}(hi:i<a.2.1.toNat)(hj:j<b.2.2.1.toNat):mE (qcY a b) i j=qa5 (mE a i) (fun l=>mE b l j) a.2.2.1.toNat%a.1:=by
 show qea (qat (qi1 a.1 a.2.2.2.1 b.2.2.2.1 a.2.2.1.toNat b.2.2.1.toNat) b.2.2.1.toNat a.2.1.toNat) b.2.2.1.toNat i j=_
 rw[qbH hi hj];rfl
theorem qmy{p:Int}{n i j:Nat}(hi:i<n)(hj:j<n):mE (qbj p n) i j=if i=j then 1 else 0:=by
 show qea (qat qbw n n) ((n:Int)).toNat i j=_
 rw[Int.toNat_natCast,qbH hi hj];rfl
theorem qqj{p:Int}{n i j:Nat}(hi:i<n)(hj:j<n):mE (qbj p n) i j=if j=i then 1 else 0:=by
 rw[qmy hi hj]
 by_cases e:i=j
 ·rw[if_pos e,if_pos e.symm]
 ·rw[if_neg e,if_neg fun h=>e h.symm]
theorem qlL{p:Int}{c g h:Nat→Int}{n:Nat}(H:∀ i,i<n→c i%p=g i%p):qa5 c h n%p=qa5 g h n%p:=by
 rw[qbG,qbG (c:=g)];exact qfg H
theorem qdq{a b d:Mat}(ha:VM a)(hb:VM b)(hd:VM d)(h1:a.2.2.1=b.2.1)(h2:b.2.2.1=d.2.1)(e1:a.1=b.1):qcY (qcY a b) d=qcY a (qcY b d):=by
 refine qjT (qcN (qcN ha hb) hd) (qcN ha (qcN hb hd)) rfl rfl rfl fun i j hi hj=>?_
 have hi':i<a.2.1.toNat:=hi
 have hj':j<d.2.2.1.toNat:=hj
 rw[qhn (a:=qcY a b) (b:=d) hi hj',qhn (a:=a) (b:=qcY b d) hi' hj']
 show qa5 (mE (qcY a b) i) (fun l=>mE d l j) b.2.2.1.toNat%a.1=qa5 (mE a i) (fun l=>mE (qcY b d) l j) a.2.2.1.toNat%a.1
 have l1:qa5 (mE (qcY a b) i) (fun l=>mE d l j) b.2.2.1.toNat%a.1=qa5 (fun l=>qa5 (mE a i) (fun m=>mE b m l) a.2.2.1.toNat) (fun l=>mE d l j) b.2.2.1.toNat%a.1 :=
  qlL fun l hl=>by rw[qhn hi' hl];exact Int.emod_emod_of_dvd _ (Int.dvd_refl _)
 have l2:qa5 (mE a i) (fun l=>mE (qcY b d) l j) a.2.2.1.toNat%a.1=qa5 (mE a i) (fun m=>qa5 (mE b m) (fun l=>mE d l j) b.2.2.1.toNat) a.2.2.1.toNat%a.1 :=
  qfg fun m hm=>by rw[qhn (by rw[← h1];exact hm) hj',e1];exact Int.emod_emod_of_dvd _ (Int.dvd_refl _)
 rw[l1,l2]
 congr 1
 have:=qk7 (y:=fun l=>mE d l j) (c:=mE a i) (A:=mE b) (W:=b.2.2.1.toNat) (R:=a.2.2.1.toNat)
 rw[qbG,this]
 exact qba fun m hm=>⟨rfl,qbG⟩
theorem qjb{m:Mat}{p:Int}{n:Nat}(h:VM m)(hp:m.1=p)(hn:m.2.1=(n:Int)):qcY (qbj p n) m=m:=by
 have h32:=h.2.1.2
 refine qjT (qcN (qew (hp ▸ h.1) (by omega)) h) h hp.symm hn.symm rfl fun i j hi hj=>?_
 have hi':i<n:=by simpa [qcY,qbj] using hi
 have hj':j<m.2.2.1.toNat:=hj
 rw[qhn (a:=qbj p n) (b:=m) (show i<((n:Int)).toNat by rw[Int.toNat_natCast];exact hi') hj']
 show qa5 (mE (qbj p n) i) (fun l=>mE m l j) ((n:Int)).toNat%p=_
 rw[Int.toNat_natCast,qba (d:=fun l=>if l=i then 1 else 0) (h:=fun l=>mE m l j) fun l hl=>⟨qqj hi' hl,rfl⟩,qeu hi',← hp]
 exact qq1 h (by omega) hj'
theorem qnJ{m:Mat}{p:Int}{n:Nat}(h:VM m)(hn:m.2.2.1=(n:Int)):qcY m (qbj p n)=m:=by
 have h32:=h.2.2.1.2
 have hsh:(qcY m (qbj p n)).2.2.1=(n:Int):=rfl
 have hV:VM (qcY m (qbj m.1 n)):=qcN h (qew h.1 (by omega))
 have e:qcY m (qbj p n)=qcY m (qbj m.1 n):=rfl
 rw[e]
 refine qjT hV h rfl rfl hn.symm fun i j hi hj=>?_
 have hi':i<m.2.1.toNat:=hi
 have hj':j<n:=by simpa [qcY,qbj] using hj
 rw[qhn (a:=m) (b:=qbj m.1 n) hi' (show j<((n:Int)).toNat by rw[Int.toNat_natCast];exact hj'),qbG]
 have hk:m.2.2.1.toNat=n:=by omega
 rw[hk,qba (d:=fun l=>if l=j then 1 else 0) (h:=fun l=>mE m i l) fun l hl=>⟨qmy hl hj',rfl⟩,qeu hj']
 exact qq1 h hi' (by omega)
theorem qih{c:List Sim}{p:Int}{st:Sim}{ms:List Mat}(h:VS c p st ms){f:Nat}(hf:f<c.length):∀(d k:Nat),k<c.length→(c.getD k []).length≤d→qeL (c.getD f []) (c.getD k []) →
  VM (qdQ c p st ms f d k)∧(qdQ c p st ms f d k).1=p∧(qdQ c p st ms f d k).2.1=st.getD k 0∧(qdQ c p st ms f d k).2.2.1=st.getD f 0
 | 0,k,hk,hd,hp=>by have:=(h.1.2.1 k hk).1;omega
 | d+1,k,hk,hd,hp=>by
  obtain⟨_,n,_,hn,en,en2⟩:=qqB h f hf
  rw[qdQ]
  by_cases e:f=k
  ·subst e
   rw[if_pos rfl,en,en2]
   exact⟨qew h.2.1 (by omega),rfl,rfl,rfl⟩
  ·rw[if_neg e]
   have D:Down c p st ms f k:=⟨h,hf,hk,e,hp⟩
   obtain⟨_,f2,_,_,f5,f6,f7⟩:=D.facts
   obtain⟨r1,r2,r3,r4⟩:=qih h hf d (fc c k (fv c f k)) f7 (by omega) f5
   obtain⟨m1,m2,m3,m4⟩:=(h.map hk f2).2
   exact⟨qcN m1 r1,m2,m3,r4⟩
theorem qcG{x:Shf}(h:VS x.1 x.2.1 x.2.2.1 x.2.2.2.1){f k:Nat}(hf:f<x.1.length)(hk:k<x.1.length)(hp:qeL (x.1.getD f []) (x.1.getD k [])) :
  VM (qcK x f k)∧(qcK x f k).1=x.2.1∧(qcK x f k).2.1=x.2.2.1.getD k 0∧(qcK x f k).2.2.1=x.2.2.1.getD f 0 :=
 qih h hf _ k hk (Nat.le_refl _) hp
theorem qi4{x:Shf}(h:VS x.1 x.2.1 x.2.2.1 x.2.2.2.1){f:Nat}(hf:f<x.1.length):qcK x f f=qbj x.2.1 (x.2.2.1.getD f 0).toNat:=by
 unfold qcK
 have:=(h.1.2.1 f hf).1
 obtain⟨n,hn⟩:∃ n,(x.1.getD f []).length=n+1:=⟨_,(Nat.sub_add_cancel this).symm⟩
 rw[hn,qdQ,if_pos rfl]
theorem qi5{x:Shf}(h:VS x.1 x.2.1 x.2.2.1 x.2.2.2.1){f k:Nat}(hf:f<x.1.length)(hk:k<x.1.length)(hp:qeL (x.1.getD f []) (x.1.getD k []))(hne:f≠k) :
  qcK x f k=qcY (mp x.1 x.2.2.2.1 k (fv x.1 f k)) (qcK x f (fc x.1 k (fv x.1 f k))):=by
 have D:Down x.1 x.2.1 x.2.2.1 x.2.2.2.1 f k:=⟨h,hf,hk,hne,hp⟩
 obtain⟨f1,f2,_,_,f5,f6,f7⟩:=D.facts
 have hlen:(x.1.getD (fc x.1 k (fv x.1 f k)) []).length=(x.1.getD k []).length-1:=by
  rw[(qa4 h.1 hk f2).2.2,List.length_eraseIdx,if_pos f1]
 have:=(h.1.2.1 k hk).1
 obtain⟨n,hn⟩:∃ n,(x.1.getD k []).length=n+1:=⟨_,(Nat.sub_add_cancel this).symm⟩
 unfold qcK
 rw[hlen,hn,qdQ,if_neg hne,Nat.add_sub_cancel]
theorem qfp{x:Shf}(hs:ISh x):∀(d:Nat) {f k i:Nat},(x.1.getD k []).length≤d→f<x.1.length→k<x.1.length→qeL (x.1.getD f []) (x.1.getD k [])→(hi:i<(x.1.getD k []).length)→(x.1.getD k [])[i]∉x.1.getD f [] →
  i<(qaI x.1 k).length∧qcK x f k=qcY (mp x.1 x.2.2.2.1 k i) (qcK x f (fc x.1 k i))
 | 0,f,k,i,hd,hf,hk,hp,hi,hn=>by omega
 | d+1,f,k,i,hd,hf,hk,hp,hi,hn=>by
  have h:=hs.1
  have hne:f≠k:=fun e=>hn (by subst e;exact List.getElem_mem hi)
  have D:Down x.1 x.2.1 x.2.2.1 x.2.2.2.1 f k:=⟨h,hf,hk,hne,hp⟩
  obtain⟨f1,f2,f3,f4,f5,f6,f7⟩:=D.facts
  have h2:(qaI x.1 k).length=(x.1.getD k []).length:=by
   have:=qaF (c:=x.1) (k:=k)
   by_cases e:1<(x.1.getD k []).length
   ·rw[if_pos e] at this;exact this
   ·rw[if_neg e] at this;omega
  have hi2:i<(qaI x.1 k).length:=by omega
  refine⟨hi2,?_⟩
  rw[qi5 h hf hk hp hne]
  by_cases ei:fv x.1 f k=i
  ·rw[ei]
  generalize fv x.1 f k=j at f1 f2 f3 f4 f5 f6 f7 ei ⊢
  have hji:j<i:=by
   rcases Nat.lt_or_ge i j with hlt | hge
   ·exact absurd (f3 i hlt hi) hn
   ·omega
  have g1:=qa4 h.1 hk f2
  have g2:=qa4 h.1 hk hi2
  have hpi:qeL (x.1.getD f []) (x.1.getD (fc x.1 k i) []):=by rw[g2.2.2];exact qgj hp hi hn
  have n3:3≤(x.1.getD k []).length:=by
   have h0:=(h.1.2.1 f hf).1
   have hm:∃ q,∃ hq:q<(x.1.getD k []).length,(x.1.getD k [])[q]∈x.1.getD f []:=by
    have hm:=hp _ (List.getElem_mem (show 0<(x.1.getD f []).length from h0))
    obtain⟨q,hq,e⟩:=List.mem_iff_getElem.1 hm
    exact⟨q,hq,e ▸ List.getElem_mem _⟩
   obtain⟨q,hq,hqm⟩:=hm
   have:q≠i:=fun e=>hn (by subst e;exact hqm)
   have:q≠j:=fun e=>f4 f1 (by subst e;exact hqm)
   omega
  have s1:Sq x.1 x.2.1 x.2.2.1 x.2.2.2.1 k j (i-1):=⟨hk,n3,f1,by omega,h⟩
  have s2:Sq x.1 x.2.1 x.2.2.1 x.2.2.2.1 k i j:=⟨hk,n3,hi,by omega,h⟩
  have lj:(x.1.getD (fc x.1 k j) []).length=(x.1.getD k []).length-1:=by rw[g1.2.2,List.length_eraseIdx,if_pos f1]
  have li:(x.1.getD (fc x.1 k i) []).length=(x.1.getD k []).length-1:=by rw[g2.2.2,List.length_eraseIdx,if_pos hi]
  have e1:(x.1.getD (fc x.1 k j) []).getD (i-1) 0=(x.1.getD k []).getD i 0:=by
   rw[g1.2.2,List.getD_eq_getElem?_getD,List.getElem?_eraseIdx,if_neg (by omega),Nat.sub_add_cancel (by omega),← List.getD_eq_getElem?_getD]
  have e2:(x.1.getD (fc x.1 k i) []).getD j 0=(x.1.getD k []).getD j 0:=by
   rw[g2.2.2,List.getD_eq_getElem?_getD,List.getElem?_eraseIdx,if_pos (by omega),← List.getD_eq_getElem?_getD]
  have a1:=qfp hs d (f:=f) (k:=fc x.1 k j) (i:=i-1) (by omega) hf g1.2.1 f5 (by omega) (by
   rw[← qaf (by omega),e1,qaf hi];exact hn)
  have a2:=qfp hs d (f:=f) (k:=fc x.1 k i) (i:=j) (by omega) hf g2.2.1 hpi (by omega) (by
   rw[← qaf (by omega),e2,qaf f1];exact f4 f1)
  rw[a1.2,a2.2]
  have ht:=qnW hs.2 hk n3 hji hi
  have hff:=qsU hji s1 s2
  unfold two at ht
  rw[hff]
  obtain⟨_,v2,v3⟩:=qa4 h.1 g2.2.1 a2.1
  have hpf:qeL (x.1.getD f []) (x.1.getD (fc x.1 (fc x.1 k i) j) []):=by
   rw[v3];exact qgj hpi (by omega) (by rw[← qaf (by omega),e2,qaf f1];exact f4 f1)
  obtain⟨r1,r2,r3,r4⟩:=qcG h hf v2 hpf
  have b1:=(h.map hk f2).2
  have b2:=(h.map hk hi2).2
  have b3:=(h.map g1.2.1 a1.1).2
  have b4:=(h.map g2.2.1 a2.1).2
  rw[hff] at b3
  rw[← qdq b1.1 b3.1 r1 (by rw[b1.2.2.2,b3.2.2.1]) (by rw[b3.2.2.2,r3]) (by rw[b1.2.1,b3.2.1]),← qdq b2.1 b4.1 r1 (by rw[b2.2.2.2,b4.2.2.1]) (by rw[b4.2.2.2,r3]) (by rw[b2.2.1,b4.2.1]),ht]
theorem qjz{x:Shf}(hs:ISh x):∀(d:Nat) {f g k:Nat},(x.1.getD k []).length≤d→f<x.1.length→g<x.1.length→k<x.1.length→qeL (x.1.getD f []) (x.1.getD g [])→qeL (x.1.getD g []) (x.1.getD k []) →
  qcK x f k=qcY (qcK x g k) (qcK x f g)
 | 0,f,g,k,hd,hf,hg,hk,h1,h2=>by have:=(hs.1.1.2.1 k hk).1;omega
 | d+1,f,g,k,hd,hf,hg,hk,h1,h2=>by
  have h:=hs.1
  obtain⟨r1,r2,r3,r4⟩:=qcG h hf hg h1
  by_cases e:g=k
  ·subst e
   rw[qi4 h hg]
   obtain⟨_,n,_,hn,en,en2⟩:=qqB h g hg
   exact(qjb r1 r2 (by rw[r3,en2,Int.toNat_natCast])).symm
  ·have D:Down x.1 x.2.1 x.2.2.1 x.2.2.2.1 g k:=⟨h,hg,hk,e,h2⟩
   obtain⟨f1,f2,f3,f4,f5,f6,f7⟩:=D.facts
   have hp:qeL (x.1.getD f []) (x.1.getD k []):=fun y hy=>h2 y (h1 y hy)
   have a:=(qfp hs _ (Nat.le_refl _) hf hk hp f1 fun hm=>f4 f1 (h1 _ hm)).2
   rw[a,qi5 h hg hk h2 e,qjz hs d (k:=fc x.1 k (fv x.1 g k)) (by omega) hf hg f7 h1 f5]
   obtain⟨q1,q2,q3,q4⟩:=qcG h hg f7 f5
   have b:=(h.map hk f2).2
   exact(qdq b.1 q1 r1 (by rw[b.2.2.2,q3]) (by rw[q4,r3]) (by rw[b.2.1,q2])).symm
end VeT
open Go Go.Proofs Ve
namespace VeT
end VeT
open Go Go.Proofs Ve
namespace VeT
def Mp(a b:List Sim)(im:Sim):Prop:=im.length=(vxs a).length∧∀ s∈a,img (vxs a) im s∈b
theorem qrC{vs im:List Int}(hr:vs.Pairwise (·<·))(hl:im.length=vs.length){i:Nat}(hi:i<vs.length):qrZ vs im vs[i]=im[i]'(by omega):=by
 obtain⟨j,h1,h2,h3,h4,h5,_⟩:=qrh (im:=im) (List.getElem_mem hi) hl
 rw[List.pairwise_iff_getElem] at hr
 have:j=i:=by
  rcases Nat.lt_trichotomy j i with h | h | h
  ·have:=hr j i h1 hi h;omega
  ·exact h
  ·have:=hr i j hi h1 h;omega
 subst this
 exact h5
theorem qri{vs im:List Int}{v:Int}:img vs im [v]=[qrZ vs im v]:=rfl
theorem Mp.vert{a b:List Sim}{im:Sim}(ha:VC a)(h:Mp a b im):∀ x∈im,[x]∈b:=by
 intro x hx
 obtain⟨i,hi,rfl⟩:=List.mem_iff_getElem.1 hx
 have hi':i<(vxs a).length:=by rw[← h.1];exact hi
 have hv:=qon.1 (List.getElem_mem hi')
 have:=h.2 _ hv
 rw[qri,qrC (qni ha.srt (Nat.le_refl _)) h.1 hi'] at this
 exact this
theorem Mp.range{a b:List Sim}{im:Sim}(ha:VC a)(hb:VC b)(h:Mp a b im):∀ x∈im,0≤x∧x≤9:=fun x hx =>
 (hb.get (h.vert ha x hx)).2.2.2 x (List.mem_singleton_self _)
open Classical in
noncomputable def MC(a b:List Sim)(im:Sim):Int:=if VC a∧VC b then(if Mp a b im then 0 else 7) else 1
end VeT
open Go Go.Proofs Ve
namespace VeT
def qs6(f:Nat→Int)(v:Int):Nat→Nat
 | 0=>0
 | x+1=>qs6 f v x+if v<f x then 1 else 0
def qs8(f:Nat→Int):Nat→Nat
 | 0=>0
 | k+1=>qs8 f k+qs6 f (f k) k
noncomputable abbrev qsN(c:List Sim)(im s:Sim):Nat→Int:=fun x=>qrZ (vxs c) im (s.getD x 0)
open Classical in
noncomputable def chC(a b:List Sim)(im:Sim)(k p:Int):Nat→List Int
 | 0=>List.replicate ((qaG b k b.length).length*(qaG a k a.length).length) 0
 | j+1 =>
  let s:=a.getD ((qaG a k a.length).getD j 0).toNat []
  if (img (vxs a) im s).length=s.length then(chC a b im k p j).set ((qdP b (img (vxs a) im s)-(qaG b k b.length).getD 0 0).toNat*(qaG a k a.length).length+j) (sgn p (qs8 (qsN a im s) s.length)) else chC a b im k p j
theorem qi0{a b:List Sim}{im:Sim}{k p:Int}:∀ {j:Nat},(chC a b im k p j).length=(qaG b k b.length).length*(qaG a k a.length).length
 | 0=>by simp[chC]
 | j+1=>by
  have:=qi0 (a:=a) (b:=b) (im:=im) (k:=k) (p:=p) (j:=j)
  unfold chC
  simp only
  split
  ·rw[List.length_set,this]
  ·exact this
noncomputable def qtg(a b:List Sim)(im:Sim)(k p:Int):Mat:=(p,((qaG b k b.length).length:Int),((qaG a k a.length).length:Int),chC a b im k p (qaG a k a.length).length,())
structure ChF (a b:List Sim) (im:Sim) (k p:Int):Prop where
 sa:Sm (.sl (.sl (.int .i64))) a
 sb:Sm (.sl (.sl (.int .i64))) b
 mc:MC a b im=0
 hk:0≤k∧k≤3
 hp:2≤p∧p≤251
 la:(qaG a k a.length).length≤32
 lb:(qaG b k b.length).length≤32
def qrH(a b:List Sim)(k:Int)(ar:Nat):Prop:=∀ t:Nat,0≤t→t<2*ar+1→(qaG a (k-ar+t) a.length).length≤32∧(qaG b (k-ar+t) b.length).length≤32
open Classical in
noncomputable def ChC(a b:List Sim)(im:Sim)(k p:Int)(ar:Nat):Int :=
 if Pr p then(if MC a b im=0 then(if 0≤k∧k≤3 then(if qrH a b k ar then 0 else 5) else 2) else MC a b im) else 1
theorem qqx{a b:List Sim}{im:Sim}{k p:Int}{ar:Nat}(h:ChC a b im k p ar=0):Pr p∧MC a b im=0∧(0≤k∧k≤3)∧qrH a b k ar:=by
 unfold ChC at h
 by_cases h1:Pr p
 ·rw[if_pos h1] at h
  by_cases h2:MC a b im=0
  ·rw[if_pos h2] at h
   by_cases h3:0≤k∧k≤3
   ·rw[if_pos h3] at h
    by_cases h4:qrH a b k ar
    ·exact⟨h1,h2,h3,h4⟩
    ·rw[if_neg h4] at h;exact absurd h (by decide)
   ·rw[if_neg h3] at h;exact absurd h (by decide)
  ·rw[if_neg h2] at h;exact absurd h h2
 ·rw[if_neg h1] at h;exact absurd h (by decide)
theorem ChF.of{a b:Cpx}{im:Sim}{k p:Int}{ar:Nat}(sa:Sm (.st cC) a)(sb:Sm (.st cC) b)(h:ChC a.1 b.1 im k p ar=0):ChF a.1 b.1 im k p:=by
 obtain⟨h1,h2,h3,h4⟩:=qqx h
 have:=h4 ar (by omega) (by omega)
 rw[show k-(ar:Int)+(ar:Int)=k by omega] at this
 exact⟨sa.1,sb.1,h2,h3,⟨h1.1,h1.2.1⟩,this.1,this.2⟩
end VeT
open Go Go.Proofs Ve
namespace VeT
end VeT
open Go Go.Proofs Ve
namespace VeT
def qry(p:Int)(R W:Nat)(A:Ent)(x:Nat→Int):Prop:=∀ i,i<R→qa5 x (A i) W%p=0
end VeT
open Go Go.Proofs Ve
namespace VeT
end VeT
open Go Go.Proofs Ve
namespace VeT
theorem qiw(p:Int)(R W:Nat)(cells:Sim)(hp:2≤p∧p≤251)(hR:R≤1048576)(hW:W≤1048576)(hRW:R*W≤1048576)(hl:cells.length=R*W)(he:qaT cells p) :
  Ret E n_Z143 [dM (p,(R:Int),(W:Int),cells,())] ⟨o_Z143,((rkM p R W cells:Int),())⟩:=by
 obtain⟨det,h⟩:=qeN p R W cells hp hR hW hRW hl he
 refine qak ?_
 simp only[run_Z143,Z143.ev]
 refine qaa h (qal ?_)
 simp only[qjJ]
 rfl
end VeT
open Go Go.Proofs Ve
namespace VeT
end VeT
open Go Go.Proofs Ve
namespace VeT
end VeT
open Go Go.Proofs Ve
namespace VeT
theorem qry.add{p:Int}{R W:Nat}{A:Ent}{x y:Nat→Int}(hx:qry p R W A x)(hy:qry p R W A y):qry p R W A fun j=>x j+y j:=fun i hi=>by
 rw[qkK,Int.add_emod,hx i hi,hy i hi];simp
theorem qry.congr{p:Int}{R W:Nat}{A:Ent}{x y:Nat→Int}(h:∀ j,j<W→x j%p=y j%p)(hx:qry p R W A x):qry p R W A y:=fun i hi=>by
 rw[← hx i hi,qbG,qbG (c:=x)]
 exact(qfg fun j hj=>h j hj).symm
end VeT
open Go Go.Proofs Ve
namespace VeT
end VeT
open Go Go.Proofs Ve
namespace VeT
noncomputable def bdJ(c:List Sim)(k p:Int)(s j:Nat)(cells:List Int):Nat→List Int
 | 0=>cells
 | i+1=>(bdJ c k p s j cells i).set (((qaI c s).getD i 0-(qaG c (k-1) c.length).getD 0 0).toNat*(qaG c k c.length).length+j) (sgn p i)
noncomputable def bdC(c:List Sim)(k p:Int):Nat→List Int
 | 0=>List.replicate ((qaG c (k-1) c.length).length*(qaG c k c.length).length) 0
 | j+1=>bdJ c k p ((qaG c k c.length).getD j 0).toNat j (bdC c k p j) (qaI c ((qaG c k c.length).getD j 0).toNat).length
theorem qi2{c:List Sim}{k p:Int}{s j:Nat}{cells:List Int}:∀ {i:Nat},(bdJ c k p s j cells i).length=cells.length
 | 0=>rfl
 | i+1=>by unfold bdJ;rw[List.length_set,qi2]
theorem qjt{c:List Sim}{k p:Int}:∀ {j:Nat},(bdC c k p j).length=(qaG c (k-1) c.length).length*(qaG c k c.length).length
 | 0=>by simp[bdC]
 | j+1=>by unfold bdC;rw[qi2,qjt]
theorem qlB{c:List Sim}{k p:Int}(hp:2≤p∧p≤251){s j:Nat}{cells:List Int}(h:qaT cells p):∀ {i:Nat},qaT (bdJ c k p s j cells i) p
 | 0=>h
 | i+1=>fun x hx=>by
  unfold bdJ at hx
  rcases List.mem_or_eq_of_mem_set hx with hx | rfl
  ·exact qlB hp h x hx
  ·exact qqM hp i
theorem qle{c:List Sim}{k p:Int}(hp:2≤p∧p≤251):∀ {j:Nat},qaT (bdC c k p j) p
 | 0=>qkR hp.1
 | j+1=>by unfold bdC;exact qlB hp (qle hp)
noncomputable def bdM(c:List Sim)(k p:Int):Mat:=(p,((qaG c (k-1) c.length).length:Int),((qaG c k c.length).length:Int),bdC c k p (qaG c k c.length).length,())
structure BdF (c:List Sim) (k p:Int):Prop where
 sc:Sm (.sl (.sl (.int .i64))) c
 vc:VC c
 pr:Pr p
 hk:0≤k∧k≤4
 lu:(qaG c k c.length).length≤32
 ll:(qaG c (k-1) c.length).length≤32
theorem BdF.hp{c:List Sim}{k p:Int}(F:BdF c k p):2≤p∧p≤251:=⟨F.pr.1,F.pr.2.1⟩
theorem BdF.vm{c:List Sim}{k p:Int}(F:BdF c k p):VM (bdM c k p):=by
 have:=F.lu
 have:=F.ll
 refine⟨F.pr,⟨by show(0:Int)≤((qaG c (k-1) c.length).length:Int);omega,by show((qaG c (k-1) c.length).length:Int)≤32;omega⟩,⟨by show(0:Int)≤((qaG c k c.length).length:Int);omega,by show((qaG c k c.length).length:Int)≤32;omega⟩,?_,qle F.hp⟩
 show((bdC c k p (qaG c k c.length).length).length:Int)=((qaG c (k-1) c.length).length:Int)*((qaG c k c.length).length:Int)
 rw[qjt,Int.natCast_mul]
end VeT
open Go Go.Proofs Ve
namespace VeT
theorem qaT.set{l:Sim}{p x:Int}(h:qaT l p)(hx:0≤x∧x≤p-1)(i:Nat):qaT (l.set i x) p:=fun y hy=>by
 rcases List.mem_or_eq_of_mem_set hy with hy | rfl
 ·exact h y hy
 ·exact hx
theorem qaT.zeros{p:Int}(hp:2≤p)(n:Nat):qaT (List.replicate n 0) p:=fun x hx=>by
 rw[(List.mem_replicate.1 hx).2];omega
theorem qm6(n:Nat)(s:Src)(p:Int)(R C:Nat)(hn:n≤10000000000)(hs:SO n s)(hp:2≤p∧p≤251)(hR:R≤4)(hC:C≤4) :
  qke n_Z138 [dR s,dI p,dI (R:Int),dI (C:Int)] o_Z138 fun(r:Int×Int×Int×Sim×Src×Unit)=>∃ cells s',r=(p,(R:Int),(C:Int),cells,s',())∧cells.length=R*C∧qaT cells p∧SO (n+70) s':=by
 obtain⟨c,a,g,⟨⟩⟩:=s
 have hRC:R*C≤16:=Nat.mul_le_mul hR hC
 refine qbX ?_
 simp only[run_Z138,Z138.ev]
 refine qaA (qch p R C (by omega) (by omega)) ?_
 have fin:∀(cells:Sim) (s1:Src) (m:Nat),cells.length=R*C→qaT cells p→m≤n+70→SO m s1→EvQ (fun φ=>Z138.j3 (mkR (run E (φ 0))) (φ 0) 0 0 0 p (R:Int) (C:Int) s1.1 s1.2.1 s1.2.2.1 cells) o_Z138 fun(r:Int×Int×Int×Sim×Src×Unit)=>∃ cells s',r=(p,(R:Int),(C:Int),cells,s',())∧cells.length=R*C∧qaT cells p∧SO (n+70) s':=by
  intro cells s1 m h1 h2 h3 h4
  simp only[Z138.j3_eq _ qag]
  exact qaS ⟨cells,s1,rfl,h1,h2,h4.le h3⟩
 have fold2:∀(cells:Sim) (s1:Src) (m:Nat) (b:Bool),cells.length=R*C→qaT cells p→m≤n+70→SO m s1→(b=true→1<R)→EvQ (fun φ=>Z138.j1 (mkR (run E (φ 0))) (φ 0) p (R:Int) (C:Int) b 0 0 0 p (R:Int) (C:Int) s1.1 s1.2.1 s1.2.2.1 cells) o_Z138 fun(r:Int×Int×Int×Sim×Src×Unit)=>∃ cells s',r=(p,(R:Int),(C:Int),cells,s',())∧cells.length=R*C∧qaT cells p∧SO (n+70) s':=by
  intro cells s1 m b h1 h2 h3 h4 h5
  simp only[Z138.j1_eq _ qag]
  refine qhH (fun hb=>?_) fun _=>fin cells s1 m h1 h2 h3 h4
  have hR1:=h5 hb
  refine EvQ.start 1 (L:=fun φ N=>Z138.l2 (mkR (run E (φ 0))) (φ 0) N p (R:Int) (C:Int) 0 0 0 0 p (R:Int) (C:Int) s1.1 s1.2.1 s1.2.2.1 cells) ?_ (fun _ _ _=>rfl)
  refine EvQ.loop 1 (σ:=Nat×Sim) (L:=fun φ N st=>Z138.l2 (mkR (run E (φ 0))) (φ 0) N p (R:Int) (C:Int) (st.1:Int) 0 0 0 p (R:Int) (C:Int) s1.1 s1.2.1 s1.2.2.1 st.2) (fun _ _ _ _=>rfl)
   (fun st=>st.1≤C∧st.2.length=R*C∧qaT st.2 p) (fun st=>C-st.1) (fun st hi ih=>?_) (0,cells) ⟨Nat.zero_le _,h1,h2⟩
  obtain⟨k,o⟩:=st
  obtain⟨i1,i2,i3⟩:=hi
  simp only at i1 i2 i3 ih ⊢
  simp only[Z138.l2_succ _ qag]
  refine qcH (fun h=>?_) fun h=>fin o s1 m i2 i3 h3 h4
  have hk:k<C:=by omega
  have hCR:C≤R*C:=by have:=Nat.mul_le_mul_right C (show 1≤R by omega);omega
  have hix:=qhP (R:=R) (C:=C) (show R-1<R by omega) hk
  have e1:w64 ((R:Int)-1)=((R-1:Nat):Int):=by rw[qai (by omega) (by omega)];omega
  have e2:w64 (w64 (((R-1:Nat):Int)*(C:Int))+(k:Int))=(((R-1)*C+k:Nat):Int):=qgk (by omega)
  have hkl:k<o.length:=by omega
  have ho:=i3 _ (List.getElem_mem hkl)
  rw[e1,e2,Int.toNat_natCast,Int.toNat_natCast]
  refine qa9 (by simp only[Bool.and_eq_true,decide_eq_true_eq];omega) (qbW (List.getElem?_eq_getElem hkl) (qa9 (by simp;omega) (qa9 (by simp only[Bool.and_eq_true,decide_eq_true_eq];omega) ?_)))
  rw[qah (by omega)]
  refine ih (k+1,_) ⟨by show k+1≤C;omega,by rw[List.length_set];exact i2,i3.set ?_ _⟩ (by show C-(k+1)<C-k;omega)
  have e3:w64 (o[k]*2)=o[k]*2:=qai (by omega) (by omega)
  rw[e3,Int.tmod_eq_emod_of_nonneg (by omega)]
  exact qhT hp.1
 refine EvQ.start 1 (L:=fun φ N=>Z138.l0 (mkR (run E (φ 0))) (φ 0) N p (R:Int) (C:Int) 0 0 0 0 p (R:Int) (C:Int) c a g (List.replicate (R*C) 0)) ?_ (fun _ _ _=>rfl)
 refine EvQ.loop 1 (σ:=Nat×Src×Sim) (L:=fun φ N st=>Z138.l0 (mkR (run E (φ 0))) (φ 0) N p (R:Int) (C:Int) (st.1:Int) 0 0 0 p (R:Int) (C:Int) st.2.1.1 st.2.1.2.1 st.2.1.2.2.1 st.2.2) (fun _ _ _ _=>rfl)
  (fun st=>st.1≤R*C∧SO (n+4*st.1) st.2.1∧st.2.2.length=R*C∧qaT st.2.2 p) (fun st=>R*C-st.1) (fun st hi ih=>?_) (0,(c,a,g,()),List.replicate (R*C) 0) ⟨Nat.zero_le _,hs,by simp,qaT.zeros hp.1 _⟩
 obtain⟨i,s1,o⟩:=st
 obtain⟨i1,i2,i3,i4⟩:=hi
 simp only at i1 i2 i3 i4 ih ⊢
 simp only[Z138.l0_succ _ qag]
 refine qcH (fun h=>?_) fun h=>?_
 ·have hi:i<R*C:=by omega
  refine qbB (qbo _ s1 3 (by omega) i2) fun(r:Int×Src×Unit) ⟨r1,r2,r3,r4⟩=>?_
  rw[qah (by omega),Int.toNat_natCast]
  refine qcH (fun h2=>?_) fun h2=>?_
  ·refine qbB (qbo _ r.2.1 p (by omega) r4) fun(q:Int×Src×Unit) ⟨q1,q2,q3,q4⟩=>?_
   refine qa9 (by simp only[Bool.and_eq_true,decide_eq_true_eq];omega) ?_
   exact ih (i+1,q.2.1,o.set i q.1) ⟨by show i+1≤R*C;omega,q4.le (by show n+4*i+2+2≤n+4*(i+1);omega),by rw[List.length_set];exact i3,i4.set (by omega) _⟩ (by show R*C-(i+1)<R*C-i;omega)
  ·exact ih (i+1,r.2.1,o) ⟨by show i+1≤R*C;omega,r4.le (by show n+4*i+2≤n+4*(i+1);omega),i3,i4⟩ (by show R*C-(i+1)<R*C-i;omega)
 ·refine qcH (fun h2=>?_) fun h2=>?_
  ·exact qbB (qrz _ s1 3 (by omega) i2) fun(r:Bool×Src×Unit) r4=>fold2 o r.2.1 _ r.1 i3 i4 (by omega) r4 fun _=>by omega
  ·exact fold2 o s1 _ false i3 i4 (by omega) i2 fun h=>by cases h
end VeT
open Go Go.Proofs Ve
namespace VeT
def qkn(a b:Sim)(W V:Nat):Ent:=fun i j=>if j<W then qea a W i j else qea b V i (j-W)
def qeX(a b:Sim)(W V R:Nat):Sim:=qat (qkn a b W V) (W+V) R
theorem qoC{a b:Sim}{W V i:Nat}:(List.range (W+V)).map (qkn a b W V i)=(List.range W).map (qea a W i)++(List.range V).map (qea b V i):=by
 rw[List.range_add,List.map_append,List.map_map]
 congr 1
 ·refine List.map_congr_left fun j hj=>?_
  have:=List.mem_range.1 hj
  simp[qkn,this]
 ·refine List.map_congr_left fun j hj=>?_
  show(if W+j<W then qea a W i (W+j) else qea b V i (W+j-W))=_
  rw[if_neg (by omega),Nat.add_sub_cancel_left]
theorem qo6(p:Int)(R W V:Nat)(cells b:Sim)(hR:R≤32)(hW:W≤32)(hV:V≤32)(hl:cells.length=R*W)(hbl:b.length=R*V) :
  Ret E n_Z140 [dM (p,(R:Int),(W:Int),cells,()),dM (p,(R:Int),(V:Int),b,())] ⟨o_Z140,(p,(R:Int),((W+V:Nat):Int),qeX cells b W V R,())⟩:=by
 have hRW:=qeB hR hW
 have hRV:=qeB hR hV
 refine qak ?_
 simp only[run_Z140,Z140.ev,Z140.j0_eq _ qag]
 rw[show w64 ((W:Int)+(V:Int))=((W+V:Nat):Int) by rw[qai (by omega) (by omega)];omega]
 generalize hMt:(p,(R:Int),(W:Int),cells,())=M
 generalize hNt:(p,(R:Int),(V:Int),b,())=N
 have M2:M.2.1=(R:Int):=by rw[← hMt]
 have M3:M.2.2.1=(W:Int):=by rw[← hMt]
 have M4:M.2.2.2.1=cells:=by rw[← hMt]
 have N3:N.2.2.1=(V:Int):=by rw[← hNt]
 have N4:N.2.2.2.1=b:=by rw[← hNt]
 have one:Ev fun φ=>Z140.l1 (mkR (run E (φ 0))) (φ 0) (φ 0) M N 0 0 0 0 p (R:Int) ((W+V:Nat):Int) []=some ⟨o_Z140,(p,(R:Int),((W+V:Nat):Int),qeX cells b W V R,())⟩:=by
  refine Ev.start (p:=fun φ n=>Z140.l1 (mkR (run E (φ 0))) (φ 0) n M N 0 0 0 0 p (R:Int) ((W+V:Nat):Int) []=_) 1 ?_ (fun _ _ _ h=>h)
  refine qaw 1 (L:=fun φ n i o=>Z140.l1 (mkR (run E (φ 0))) (φ 0) n M N i 0 0 0 p (R:Int) ((W+V:Nat):Int) o) (len:=R) (fun i=>qat (qkn cells b W V) (W+V) i) (fun _ _ _ _ _=>rfl) (fun i r hi ih=>?_) ?_
  ·have hle:(i+1)*W≤R*W:=Nat.mul_le_mul_right _ hi
   have hle2:(i+1)*V≤R*V:=Nat.mul_le_mul_right _ hi
   have e1:(i+1)*W=i*W+W:=Nat.succ_mul _ _
   have e2:(i+1)*V=i*V+V:=Nat.succ_mul _ _
   have c1:w64 ((i:Int)*(W:Int))=((i*W:Nat):Int):=by rw[qa3];exact qai (by omega) (by omega)
   have c2:w64 (((i+1:Nat):Int)*(W:Int))=(((i+1)*W:Nat):Int):=by rw[qa3];exact qai (by omega) (by omega)
   have c3:w64 ((i:Int)*(V:Int))=((i*V:Nat):Int):=by rw[qa3];exact qai (by omega) (by omega)
   have c4:w64 (((i+1:Nat):Int)*(V:Int))=(((i+1)*V:Nat):Int):=by rw[qa3];exact qai (by omega) (by omega)
   have hr1:=qpH hl hi
   have hr2:=qpH hbl hi
   have hfl:=qas (f:=qkn cells b W V) (C:=W+V) (n:=i)
   have hfl2:i*(W+V)≤32*64:=Nat.mul_le_mul (by omega) (by omega)
   simp only[Z140.l1_succ _ qag,M2,M3,M4,N3,N4,qah (k:=i) (by omega),c1,c2,c3,c4,Int.toNat_natCast,hr1,hr2]
   rw[qat,qoC,← List.append_assoc] at ih
   refine qaB (decide_eq_true (by omega)) (qax (by simp only[Bool.and_eq_true,decide_eq_true_eq];omega) (qax (by simp only[List.length_map,List.length_range,decide_eq_true_eq];omega) (qax (by simp only[Bool.and_eq_true,decide_eq_true_eq];omega) (qax (by simp only[List.length_append,List.length_map,List.length_range,decide_eq_true_eq];omega) ih))))
  ·simp only[Z140.l1_succ _ qag,M2]
   exact qaD (decide_eq_false (by omega)) qan
 exact qdc one one
def Tri(n:Nat)(A:Ent):Prop:=(∀ i j,j<i→i<n→A i j=0)∧∀ i,i<n→A i i≠0
theorem qoo{p:Int}{n:Nat}{A:Ent}(h:Tri n A):∀ c,c≤n→(elS p n A c).2=List.range c∧∀ i j,c≤i→i<n→(elS p n A c).1 i j=A i j
 | 0,_=>⟨rfl,fun _ _ _ _=>rfl⟩
 | c+1,hc=>by
  obtain⟨h1,h2⟩:=qoo h c (by omega)
  rw[elS,elP]
  generalize elS p n A c=S at h1 h2
  have hl:S.2.length=c:=by rw[h1,List.length_range]
  have hf:qa2 (fun i=>S.1 i c≠0) S.2.length (n-S.2.length)=some c:=by
   rw[hl]
   obtain⟨k,hk⟩:=qcp (P:=fun i=>S.1 i c≠0) (d:=n-c) (a:=c) ⟨c,Nat.le_refl _,by omega,by rw[h2 c c (Nat.le_refl _) (by omega)];exact h.2 c (by omega)⟩
   have h3:=qaN hk
   have h4:=qfQ hk c (Nat.le_refl _)
   have:k=c:=by
    rcases Nat.lt_or_ge c k with hlt | hge
    ·exact absurd (by rw[h2 c c (Nat.le_refl _) (by omega)];exact h.2 c (by omega)) (h4 hlt)
    ·omega
   rw[hk,this]
  rw[hf]
  simp only
  rw[hl]
  refine⟨by rw[h1,List.range_succ],fun i j hi hin=>?_⟩
  have hsw:∀ k,qdf c c S.1 k=S.1 k:=fun k=>by
   unfold qdf
   by_cases e:k=c
   ·rw[if_pos e,e]
   ·rw[if_neg e,if_neg e]
  unfold elF
  rw[if_neg (by omega),hsw i]
  rw[if_neg (by rw[h2 i c (by omega) hin,h.1 i c (by omega) hin];exact fun h=>h rfl)]
  exact h2 i j (by omega) hin
theorem qqi{p:Int}{n:Nat}{A:Ent}(h:Tri n A):rkM p n n (qat A n n)=n:=by
 have h':Tri n (qea (qat A n n) n):=⟨fun i j hji hi=>by rw[qbH hi (by omega)];exact h.1 i j hji hi,fun i hi=>by rw[qbH hi hi];exact h.2 i hi⟩
 unfold rkM
 rw[(qoo h' n (Nat.le_refl _)).1,List.length_range]
theorem qaT.flat{A:Ent}{R C:Nat}{p:Int}(h:EIn p R C A):qaT (qat A C R) p:=fun x hx=>by
 rw[← qcz] at hx
 obtain⟨row,hrow,hx⟩:=List.mem_flatten.1 hx
 obtain⟨i,hi,rfl⟩:=List.mem_map.1 hrow
 obtain⟨j,hj,rfl⟩:=List.mem_map.1 hx
 exact h i j (List.mem_range.1 hi) (List.mem_range.1 hj)
theorem qiM(n:Nat)(s:Src)(p:Int)(d:Nat)(hn:n≤1000000000)(hs:SO n s)(hp:2≤p∧p≤251)(hd:d≤4) :
    qke n_Z167 [dR s,dI p,dI (d:Int)] o_Z167 fun(r:Int×Int×Int×Sim×Src×Unit)=>∃ cells s',r=(p,(d:Int),(d:Int),cells,s',())∧cells.length=d*d∧qaT cells p∧rkM p d d cells=d∧SO (n+150) s':=by
  obtain⟨c,a,g,⟨⟩⟩:=s
  have hdd:d*d≤16:=Nat.mul_le_mul hd hd
  refine qbX ?_
  simp only[run_Z167,Z167.ev]
  refine qbB (qm6 n _ p d d (by omega) hs hp hd hd) fun r ⟨cells,s1,e,h1,h2,h3⟩=>?_
  subst e
  refine qaA (qiw p d d cells hp (by omega) (by omega) (by omega) h1 h2) ?_
  refine qhH (fun h=>qaS ⟨cells,s1,rfl,h1,h2,?_,h3.le (by omega)⟩) fun _=>?_
  · have:((rkM p d d cells:Nat):Int)=(d:Int):=by simpa using h
    omega
  refine qaA (qeY p d (by omega)) ?_
  refine EvQ.start 1 (L:=fun φ N=>Z167.l0 (mkR (run E (φ 0))) (φ 0) N p (d:Int) 0 0 0 0 p (d:Int) (d:Int) s1.1 s1.2.1 s1.2.2.1 (qat qbw d d)) ?_ (fun _ _ _=>rfl)
  refine EvQ.loop 1 (σ:=Nat×Src×Ent) (L:=fun φ N st=>Z167.l0 (mkR (run E (φ 0))) (φ 0) N p (d:Int) (st.1:Int) 0 0 0 p (d:Int) (d:Int) st.2.1.1 st.2.1.2.1 st.2.1.2.2.1 (qat st.2.2 d d)) (fun _ _ _ _=>rfl)
    (fun st=>st.1≤d∧SO (n+70+10*st.1) st.2.1∧EIn p d d st.2.2∧Tri d st.2.2) (fun st=>d-st.1) (fun st hi ih=>?_) (0,s1,qbw) ⟨Nat.zero_le _,h3,fun i j _ _=>by show 0≤qbw i j∧qbw i j≤p-1;unfold qbw;split<;>omega,fun i j hj _=>by show qbw i j=0;unfold qbw;rw[if_neg (by omega)],fun i _=>by show qbw i i≠0;simp[qbw]⟩
  obtain⟨i,s2,A⟩:=st
  obtain⟨i1,i2,i3,i4⟩:=hi
  simp only at i1 i2 i3 i4 ih ⊢
  simp only[Z167.l0_succ _ qag]
  refine qcH (fun h=>?_) fun h=>qaS ⟨qat A d d,s2,rfl,qas,qaT.flat i3,qqi i4,i2.le (by omega)⟩
  have hid:i<d:=by omega
  have hp1:w64 (p-1)=p-1:=qai (by omega) (by omega)
  rw[hp1]
  refine qbB (qbo _ s2 (p-1) (by omega) i2) fun(q:Int×Src×Unit) ⟨q1,q2,q3,q4⟩=>?_
  have hx:=qhP hid hid
  have e1:w64 (1+q.1)=1+q.1:=qai (by omega) (by omega)
  have hfl:=qas (f:=A) (C:=d) (n:=d)
  rw[qgk (by omega),e1,Int.toNat_natCast,qah (by omega),qcJ hid hid]
  refine qa9 (by simp only[Bool.and_eq_true,decide_eq_true_eq];omega) ?_
  have hA1:EIn p d d (fun k l=>if k=i∧l=i then 1+q.1 else A k l):=fun k l hk hl=>by
    show 0≤(if k=i∧l=i then 1+q.1 else A k l)∧(if k=i∧l=i then 1+q.1 else A k l)≤p-1
    split
    · omega
    · exact i3 k l hk hl
  have hA2:Tri d (fun k l=>if k=i∧l=i then 1+q.1 else A k l):=⟨fun k l hlk hk=>by
      show(if k=i∧l=i then 1+q.1 else A k l)=0
      rw[if_neg (by omega)];exact i4.1 k l hlk hk,fun k hk=>by
      show(if k=i∧k=i then 1+q.1 else A k k)≠0
      split
      · omega
      · exact i4.2 k hk⟩
  generalize (fun k l=>if k=i∧l=i then 1+q.1 else A k l)=A1 at hA1 hA2
  refine EvQ.start 2 (L:=fun φ N=>Z167.l1 (mkR (run E (φ 0))) (φ 0) (φ 1) N p (d:Int) (i:Int) ((i+1:Nat):Int) 0 0 0 p (d:Int) (d:Int) q.2.1.1 q.2.1.2.1 q.2.1.2.2.1 (qat A1 d d)) ?_ (fun _ _ _=>rfl)
  refine EvQ.loop 2 (σ:=Nat×Src×Ent) (L:=fun φ N st=>Z167.l1 (mkR (run E (φ 0))) (φ 0) (φ 1) N p (d:Int) (i:Int) (st.1:Int) 0 0 0 p (d:Int) (d:Int) st.2.1.1 st.2.1.2.1 st.2.1.2.2.1 (qat st.2.2 d d)) (fun _ _ _ _=>rfl)
    (fun st=>i+1≤st.1∧st.1≤d∧SO (n+70+10*i+2*st.1) st.2.1∧EIn p d d st.2.2∧Tri d st.2.2) (fun st=>d-st.1) (fun st hi ih2=>?_) (i+1,q.2.1,A1) ⟨Nat.le_refl _,hid,q4.le (by show n+70+10*i+2≤n+70+10*i+2*(i+1);omega),hA1,hA2⟩
  obtain⟨k,s3,B⟩:=st
  obtain⟨k0,k1,k2,k3,k4⟩:=hi
  simp only at k0 k1 k2 k3 k4 ih2 ⊢
  simp only[Z167.l1_succ _ qag]
  refine qcH (fun h=>?_) fun h=>?_
  · have hkd:k<d:=by omega
    refine qbB (qbo _ s3 p (by omega) k2) fun(t:Int×Src×Unit) ⟨t1,t2,t3,t4⟩=>?_
    have hx:=qhP hid hkd
    have hfl:=qas (f:=B) (C:=d) (n:=d)
    rw[qgk (by omega),Int.toNat_natCast,qah (by omega),qcJ hid hkd]
    refine qa9 (by simp only[Bool.and_eq_true,decide_eq_true_eq];omega) ?_
    refine ih2 (k+1,t.2.1,_) ⟨by show i+1≤k+1;omega,by show k+1≤d;omega,t4.le (by show n+70+10*i+2*k+2≤n+70+10*i+2*(k+1);omega),fun x l hx' hl=>?_,fun x l hlx hx'=>?_,fun x hx'=>?_⟩ (by show d-(k+1)<d-k;omega)
    · show 0≤(if x=i∧l=k then t.1 else B x l)∧(if x=i∧l=k then t.1 else B x l)≤p-1
      split
      · omega
      · exact k3 x l hx' hl
    · show(if x=i∧l=k then t.1 else B x l)=0
      rw[if_neg (by omega)];exact k4.1 x l hlx hx'
    · show(if x=i∧x=k then t.1 else B x x)≠0
      rw[if_neg (by omega)];exact k4.2 x hx'
  · have:k=d:=by omega
    rw[qah (by omega)]
    exact ih (i+1,s3,B) ⟨hid,k2.le (by show n+70+10*i+2*k≤n+70+10*(i+1);omega),k3,k4⟩ (by show d-(i+1)<d-i;omega)
end VeT
open Go Go.Proofs Ve
namespace VeT
noncomputable def qgd(p:Int)(d:Nat)(cells:Sim):Ent:=(elS p d (qea (qeX cells (qat qbw d d) d d d) (d+d)) (d+d)).1
noncomputable def qqQ(p:Int)(d:Nat)(cells:Sim):Sim:=qat (fun i k=>qgd p d cells i (d+k)) d d
theorem qm8{p:Int}{a b:Sim}{W V R:Nat}(ha:qaT a p)(hb:qaT b p)(hl:a.length=R*W)(hbl:b.length=R*V):EIn p R (W+V) (qkn a b W V):=fun i j hi hj=>by
 unfold qkn
 split
 ·exact qf6 ha hl i j hi (by omega)
 ·exact qf6 hb hbl i (j-W) hi (by omega)
theorem qnv{p:Int}(hp:2≤p){d:Nat}:EIn p d d qbw:=fun i j _ _=>by
 show 0≤qbw i j∧qbw i j≤p-1
 unfold qbw;split<;>omega
theorem qpr{p:Int}(hp:2≤p){d:Nat}{cells:Sim}(hl:cells.length=d*d)(he:qaT cells p):EIn p d (d+d) (qea (qeX cells (qat qbw d d) d d d) (d+d)):=fun i j hi hj=>by
 unfold qeX;rw[qbH hi hj]
 exact qm8 he (qaT.flat (qnv hp)) hl qas i j hi hj
theorem qo8{p:Int}(hp:2≤p){d:Nat}{cells:Sim}(hl:cells.length=d*d)(he:qaT cells p):qaT (qqQ p d cells) p∧(qqQ p d cells).length=d*d:=by
 refine⟨qaT.flat fun i j hi hj=>?_,qas⟩
 exact(qnl hp (qpr hp hl he) (d+d)).1 i (d+j) hi (by omega)
theorem qgh(p:Int)(d:Nat)(cells:Sim)(hp:Pr p)(hd:d≤4)(hl:cells.length=d*d)(he:qaT cells p)(hr:rkM p d d cells=d) :
  qke n_Z117 [dI p,dI (d:Int),dI (d:Int),dL cells] o_Z117 fun(r:Int×Int×Int×Sim×Int×Unit)=>r=(p,(d:Int),(d:Int),qqQ p d cells,0,()):=by
 have hp2:2≤p∧p≤251:=⟨hp.1,hp.2.1⟩
 have hdd:d*d≤16:=Nat.mul_le_mul hd hd
 have hd2:d*(d+d)≤32:=Nat.mul_le_mul hd (show d+d≤8 by omega)
 have hVM:VM (p,(d:Int),(d:Int),cells,()):=⟨hp,⟨by show(0:Int)≤d;omega,by show(d:Int)≤32;omega⟩,⟨by show(0:Int)≤d;omega,by show(d:Int)≤32;omega⟩,by show(cells.length:Int)=d*d;rw[hl];simp,he⟩
 have hSm:Sm (.st cM) (p,(d:Int),(d:Int),cells,()):=⟨trivial,trivial,trivial,⟨by show cells.length≤1048576;omega,fun _ _=>trivial⟩,trivial⟩
 refine qbX ?_
 simp only[run_Z117,Z117.ev]
 refine qaA (qid _ hSm) (qdT (by simp[qay hVM]) (qdT (by simp) ?_))
 refine qaA (qiw p d d cells hp2 (by omega) (by omega) (by omega) hl he) (qdT (by simp[hr]) ?_)
 refine qaA (qeY p d (by omega)) ?_
 refine qaA (qo6 p d d d cells (qat qbw d d) (by omega) (by omega) (by omega) hl qas) ?_
 have hJ:qaT (qeX cells (qat qbw d d) d d d) p:=qaT.flat (qm8 he (qaT.flat (qnv hp2.1)) hl qas)
 obtain⟨det,hred⟩:=qeN p d (d+d) (qeX cells (qat qbw d d) d d d) hp2 (by omega) (by omega) (by omega) qas hJ
 refine qaA hred ?_
 refine qaA (qch p d d (by omega) (by omega)) ?_
 have hF:(elS p d (qea (qeX cells (qat qbw d d) d d d) (d+d)) (d+d)).1=qgd p d cells:=rfl
 simp only[hF]
 have hz:List.replicate (d*d) (0:Int)=qat (fun _ _=>0) d d:=by
  refine(List.eq_replicate_iff.2 ⟨qas,fun x hx=>?_⟩).symm
  rw[← qcz] at hx
  obtain⟨row,hrow,hx⟩:=List.mem_flatten.1 hx
  obtain⟨i,hi,rfl⟩:=List.mem_map.1 hrow
  obtain⟨j,hj,rfl⟩:=List.mem_map.1 hx
  rfl
 rw[hz]
 have hFl:=qas (f:=qgd p d cells) (C:=d+d) (n:=d)
 refine EvQ.start 1 (L:=fun φ N=>Z117.l0 (mkR (run E (φ 0))) (φ 0) N 0 p (d:Int) (d:Int) cells 0 0 0 p (d:Int) ((d+d:Nat):Int) (qeX cells (qat qbw d d) d d d) p (d:Int) ((d+d:Nat):Int) (qat (qgd p d cells) (d+d) d) p (d:Int) (d:Int) (qat (fun _ _=>0) d d)) ?_ (fun _ _ _=>rfl)
 refine EvQ.loop 1 (σ:=Nat×Ent) (L:=fun φ N st=>Z117.l0 (mkR (run E (φ 0))) (φ 0) N (st.1:Int) p (d:Int) (d:Int) cells 0 0 0 p (d:Int) ((d+d:Nat):Int) (qeX cells (qat qbw d d) d d d) p (d:Int) ((d+d:Nat):Int) (qat (qgd p d cells) (d+d) d) p (d:Int) (d:Int) (qat st.2 d d)) (fun _ _ _ _=>rfl)
  (fun st=>st.1≤d∧∀ i j,i<st.1→j<d→st.2 i j=qgd p d cells i (d+j)) (fun st=>d-st.1) (fun st hi ih=>?_) (0,fun _ _=>0) ⟨Nat.zero_le _,fun i j h=>by omega⟩
 obtain⟨i,B⟩:=st
 obtain⟨i1,i2⟩:=hi
 simp only at i1 i2 ih ⊢
 simp only[Z117.l0_succ _ qag]
 refine qcH (fun h=>?_) fun h=>qaS ?_
 ·have hid:i<d:=by omega
  refine EvQ.start 2 (L:=fun φ N=>Z117.l1 (mkR (run E (φ 0))) (φ 0) (φ 1) N (i:Int) 0 p (d:Int) (d:Int) cells 0 0 0 p (d:Int) ((d+d:Nat):Int) (qeX cells (qat qbw d d) d d d) p (d:Int) ((d+d:Nat):Int) (qat (qgd p d cells) (d+d) d) p (d:Int) (d:Int) (qat B d d)) ?_ (fun _ _ _=>rfl)
  refine EvQ.loop 2 (σ:=Nat×Ent) (L:=fun φ N st=>Z117.l1 (mkR (run E (φ 0))) (φ 0) (φ 1) N (i:Int) (st.1:Int) p (d:Int) (d:Int) cells 0 0 0 p (d:Int) ((d+d:Nat):Int) (qeX cells (qat qbw d d) d d d) p (d:Int) ((d+d:Nat):Int) (qat (qgd p d cells) (d+d) d) p (d:Int) (d:Int) (qat st.2 d d)) (fun _ _ _ _=>rfl)
   (fun st=>st.1≤d∧(∀ i' j,i'<i→j<d→st.2 i' j=qgd p d cells i' (d+j))∧∀ j,j<st.1→st.2 i j=qgd p d cells i (d+j)) (fun st=>d-st.1) (fun st hk ih2=>?_) (0,B) ⟨Nat.zero_le _,i2,fun j h=>by omega⟩
  obtain⟨k,D⟩:=st
  obtain⟨k1,k2,k3⟩:=hk
  simp only at k1 k2 k3 ih2 ⊢
  simp only[Z117.l1_succ _ qag]
  refine qcH (fun h=>?_) fun h=>?_
  ·have hkd:k<d:=by omega
   have hx:=qhP hid hkd
   have hx2:=qhP (R:=d) (C:=d+d) hid (show d+k<d+d by omega)
   have hDl:=qas (f:=D) (C:=d) (n:=d)
   have e1:w64 (w64 (w64 ((i:Int)*((d+d:Nat):Int))+(d:Int))+(k:Int))=((i*(d+d)+(d+k):Nat):Int):=by
    rw[qgk (by omega),qai (by omega) (by omega)];omega
   rw[e1,qgk (by omega),Int.toNat_natCast,qah (by omega)]
   refine qbW (qoR.trans (qb1 hid (show d+k<d+d by omega))) (qa9 (by simp only[Bool.and_eq_true,decide_eq_true_eq];omega) ?_)
   rw[qcJ hid hkd]
   refine ih2 (k+1,_) ⟨hkd,fun i' j hi' hj=>?_,fun j hj=>?_⟩ (by show d-(k+1)<d-k;omega)
   ·show(if i'=i∧j=k then _ else D i' j)=_
    rw[if_neg (by omega)];exact k2 i' j hi' hj
   ·show(if i=i∧j=k then qgd p d cells i (d+k) else D i j)=_
    by_cases e:j=k
    ·rw[if_pos ⟨rfl,e⟩,e]
    ·rw[if_neg (by omega)];exact k3 j (by have:j<k+1:=hj;omega)
  ·have:k=d:=by omega
   subst this
   rw[qah (by omega)]
   refine ih (i+1,D) ⟨hid,fun i' j hi' hj=>?_⟩ (by show k-(i+1)<k-i;omega)
   by_cases e:i'=i
   ·subst e;exact k3 j hj
   ·exact k2 i' j (by have:i'<i+1:=hi';omega) hj
 ·have:i=d:=by omega
  subst this
  show(p,(i:Int),(i:Int),qat B i i,(0:Int),())=_
  rw[qaE fun i' j hi' hj=>i2 i' j hi' hj]
  rfl
end VeT
open Go Go.Proofs Ve
namespace VeT
def BOk(p:Int)(d:Nat)(m:Mat):Prop:=∃ cells,m=(p,(d:Int),(d:Int),cells,())∧cells.length=d*d∧qaT cells p∧rkM p d d cells=d
noncomputable def qol(p:Int)(d:Nat)(m:Mat):Mat:=(p,(d:Int),(d:Int),qqQ p d m.2.2.2.1,())
theorem qso{p:Int}{d:Nat}{cells:Sim}(hp:Pr p)(hd:d≤4)(hl:cells.length=d*d)(he:qaT cells p):VM (p,(d:Int),(d:Int),cells,()) :=
 ⟨hp,⟨by show(0:Int)≤d;omega,by show(d:Int)≤32;omega⟩,⟨by show(0:Int)≤d;omega,by show(d:Int)≤32;omega⟩,by show(cells.length:Int)=d*d;rw[hl];simp,he⟩
theorem BOk.vm{p:Int}{d:Nat}{m:Mat}(hp:Pr p)(hd:d≤4)(h:BOk p d m):VM m∧VM (qol p d m):=by
 obtain⟨cells,rfl,h1,h2,h3⟩:=h
 exact⟨qso hp hd h1 h2,qso hp hd (qo8 hp.1 h1 h2).2 (qo8 hp.1 h1 h2).1⟩
theorem qnk{c:List Sim}{a b:Nat}(h:a≤b):plc c a≤plc c b:=by
  induction b with
  | zero => obtain rfl : a = 0 := by omega
            exact Nat.le_refl _
  | succ b ih =>
    rcases Nat.lt_or_ge b a with h1 | h1
    · obtain rfl:a=b+1:=by omega
      exact Nat.le_refl _
    · rw[qey];exact Nat.le_trans (ih h1) (Nat.le_add_right _ _)
noncomputable def chM(c:List Sim)(p:Int)(d:Nat)(bs:List Mat)(k i:Nat):Mat:=qcY (bs.getD k mz) (qol p d (bs.getD ((qaI c k).getD i 0).toNat mz))
theorem qmp(n:Nat)(s:Src)(c:List Sim)(p:Int)(d:Nat)(hn:n≤100000000)(hs:SO n s)(hv:VC c)(hp:Pr p)(hd:d≤3) :
    qke n_Z163 [dR s,dC (c,()),dI p,dI (d:Int)] o_Z163 fun(r:List Sim×Int×Sim×List Mat×Src×Unit)=>∃ ms s' bs,r=(c,p,List.replicate c.length (d:Int),ms,s',())∧ms.length=plc c c.length ∧
      bs.length=c.length∧(∀ m∈bs,BOk p d m)∧(∀ k i,k<c.length→i<(qaI c k).length→ms.getD (plc c k+i) mz=chM c p d bs k i)∧SO (n+7300) s':=by
  obtain⟨c0,a,g,⟨⟩⟩:=s
  have hp2:2≤p∧p≤251:=⟨hp.1,hp.2.1⟩
  have h48:=hv.1
  have hsr:=hv.srt
  have h192:=qcU hv
  refine qbX ?_
  simp only[run_Z163,Z163.ev]
  refine qaA (qec c p d hd hv.sm hv) ?_
  -- the bases
  refine EvQ.start 1 (L:=fun φ N=>Z163.l0 (mkR (run E (φ 0))) (φ 0) N (c,()) p (d:Int) 0 0 p [] c0 a g (List.replicate (qaY c c.length).length (qbj p d)) c (List.replicate c.length (d:Int))) ?_ (fun _ _ _=>rfl)
  refine EvQ.loop 1 (σ:=Nat×List Mat×Src) (L:=fun φ N st=>Z163.l0 (mkR (run E (φ 0))) (φ 0) N (c,()) p (d:Int) (st.1:Int) 0 p st.2.1 st.2.2.1 st.2.2.2.1 st.2.2.2.2.1 (List.replicate (qaY c c.length).length (qbj p d)) c (List.replicate c.length (d:Int))) (fun _ _ _ _=>rfl)
    (fun st=>st.1≤c.length∧st.2.1.length=st.1∧(∀ m∈st.2.1,BOk p d m)∧SO (n+150*st.1) st.2.2) (fun st=>c.length-st.1) (fun st hi ih=>?_) (0,[],(c0,a,g,())) ⟨Nat.zero_le _,rfl,fun m hm=>by simp at hm,hs⟩
  obtain⟨k,bs,s1⟩:=st
  obtain⟨i1,i2,i3,i4⟩:=hi
  simp only at i1 i2 i3 i4 ih ⊢
  simp only[Z163.l0_succ _ qag]
  refine qcH (fun h=>?_) fun h=>?_
  · have hk : k < c.length := by have h : (k : Int) < (c.length : Int) := h
                                 omega
    refine qbB (qiM _ s1 p d (by omega) i4 hp2 (by omega)) fun r ⟨cells,s2,e,h1,h2,h3,h4⟩=>?_
    subst e
    refine qa9 (decide_eq_true (by simp;omega)) ?_
    rw[qah (by omega)]
    exact ih (k+1,bs++[(p,(d:Int),(d:Int),cells,())],s2) ⟨hk,by simp[i2],fun m hm=>by
      rcases List.mem_append.1 hm with hm | hm
      · exact i3 m hm
      · rw[List.mem_singleton] at hm;exact⟨cells,hm,h1,h2,h3⟩,h4.le (by show n+150*k+150≤n+150*(k+1);omega)⟩ (by show c.length-(k+1)<c.length-k;omega)
  have hkl : k = c.length := by have h : ¬ (k : Int) < (c.length : Int) := h
                                omega
  subst hkl
  clear ih
  have hbs:∀ f,f<c.length→bs[f]? = some (bs.getD f mz)∧BOk p d (bs.getD f mz):=fun f hf=>by
    have:f<bs.length:=by omega
    rw[List.getD_eq_getElem?_getD,List.getElem?_eq_getElem this]
    exact⟨rfl,i3 _ (List.getElem_mem this)⟩
  -- the maps
  have hpl:plc c c.length=(qaY c c.length).length:=rfl
  refine EvQ.start 1 (L:=fun φ N=>Z163.l1 (mkR (run E (φ 0))) (φ 0) N (c,()) 0 0 p bs s1.1 s1.2.1 s1.2.2.1 (List.replicate (qaY c c.length).length (qbj p d)) c (List.replicate c.length (d:Int))) ?_ (fun _ _ _=>rfl)
  refine EvQ.loop 1 (σ:=Nat×List Mat) (L:=fun φ N st=>Z163.l1 (mkR (run E (φ 0))) (φ 0) N (c,()) (st.1:Int) 0 p bs s1.1 s1.2.1 s1.2.2.1 st.2 c (List.replicate c.length (d:Int))) (fun _ _ _ _=>rfl)
    (fun st=>st.1≤c.length∧st.2.length=plc c c.length∧∀ k i,k<st.1→i<(qaI c k).length→st.2.getD (plc c k+i) mz=chM c p d bs k i) (fun st=>c.length-st.1) (fun st hi ih=>?_) (0,List.replicate (qaY c c.length).length (qbj p d)) ⟨Nat.zero_le _,by rw[hpl];simp,fun k i h=>by omega⟩
  obtain⟨k,ms⟩:=st
  obtain⟨j1,j2,j3⟩:=hi
  simp only at j1 j2 j3 ih ⊢
  simp only[Z163.l1_succ _ qag]
  refine qcH (fun h=>?_) fun h=>?_
  · have hk : k < c.length := by have h : (k : Int) < (c.length : Int) := h
                                 omega
    have hf4:=hv.fIdx4 hk
    refine qaA (qdZ c k hk hv.sm) ?_
    refine EvQ.start 2 (L:=fun φ N=>Z163.l2 (mkR (run E (φ 0))) (φ 0) (φ 1) N (c,()) (k:Int) (qaI c k) 0 0 p bs s1.1 s1.2.1 s1.2.2.1 ms c (List.replicate c.length (d:Int))) ?_ (fun _ _ _=>rfl)
    refine EvQ.loop 2 (σ:=Nat×List Mat) (L:=fun φ N st=>Z163.l2 (mkR (run E (φ 0))) (φ 0) (φ 1) N (c,()) (k:Int) (qaI c k) (st.1:Int) 0 p bs s1.1 s1.2.1 s1.2.2.1 st.2 c (List.replicate c.length (d:Int))) (fun _ _ _ _=>rfl)
      (fun st=>st.1≤(qaI c k).length∧st.2.length=plc c c.length∧(∀ k' i,k'<k→i<(qaI c k').length→st.2.getD (plc c k'+i) mz=chM c p d bs k' i)∧∀ i,i<st.1→st.2.getD (plc c k+i) mz=chM c p d bs k i) (fun st=>(qaI c k).length-st.1) (fun st hi ih2=>?_) (0,ms) ⟨Nat.zero_le _,j2,j3,fun i h=>by omega⟩
    obtain⟨i,o⟩:=st
    obtain⟨l1,l2,l3,l4⟩:=hi
    simp only at l1 l2 l3 l4 ih2 ⊢
    simp only[Z163.l2_succ _ qag]
    refine qcH (fun h=>?_) fun h=>?_
    · have hi:i<(qaI c k).length:=by omega
      obtain⟨f,f1,f2,f3⟩:=qdz hsr hv hk hi
      have f3':((qaI c k).getD i 0).toNat=f:=by first | exact f3 | (rw[f3];rfl)
      obtain⟨b1,cells,b2,b3,b4,b5⟩:=hbs f f1
      obtain⟨b6,cells2,b7,b8,b9,b10⟩:=hbs k hk
      obtain⟨v1,v2⟩:=BOk.vm hp (by omega) (hbs f f1).2
      obtain⟨v3,_⟩:=BOk.vm hp (by omega) (hbs k hk).2
      have hplt:plc c k+i<plc c c.length:=by
        have:=qnk (c:=c) (show k+1≤c.length from hk)
        rw[qey] at this;omega
      have hple:=hv.plc (k:=c.length) (Nat.le_refl _)
      refine qbW (qao hi) ?_
      simp only[f2,Int.toNat_natCast]
      refine qa9 (by simp only[Bool.and_eq_true,decide_eq_true_eq];omega) (qbW b1 ?_)
      rw[b2]
      refine qbB (qgh p d cells hp (by omega) b3 b4 b5) fun r hr=>?_
      subst hr
      refine qa9 (by simp only[Bool.and_eq_true,decide_eq_true_eq];omega) ?_
      refine qaA (qk6 c k i (by omega) (by omega) hv) ?_
      have e1:List.getD bs k (qql cM)=bs.getD k mz:=by
        rw[List.getD_eq_getElem?_getD,List.getD_eq_getElem?_getD,b6];rfl
      have e2:qol p d (bs.getD f mz)=(p,(d:Int),(d:Int),qqQ p d cells,()):=by rw[b2];rfl
      have hT:=qgG (bs.getD k mz) (qol p d (bs.getD f mz)) v3 v2 (by rw[b7];rfl)
      rw[e2] at hT
      rw[e1]
      refine qaA hT (qa9 (show(decide ((0:Int)≤((plc c k+i:Nat):Int))&&decide (((plc c k+i:Nat):Int)<(o.length:Int)))=true by rw[l2];simp only[Bool.and_eq_true,decide_eq_true_eq];omega) ?_)
      rw[qah (by omega),Int.toNat_natCast]
      have e3:qcY (bs.getD k mz) (p,(d:Int),(d:Int),qqQ p d cells,())=chM c p d bs k i:=by
        unfold chM;rw[f3',e2]
      rw[e3]
      refine ih2 (i+1,o.set (plc c k+i) (chM c p d bs k i)) ⟨hi,by rw[List.length_set];exact l2,fun k' i' hk' hi'=>?_,fun i' hi'=>?_⟩ (by show(qaI c k).length-(i+1)<(qaI c k).length-i;omega)
      · have:=qnk (c:=c) (show k'+1≤k from hk')
        rw[qey] at this
        rw[List.getD_eq_getElem?_getD,List.getElem?_set_ne (by omega),← List.getD_eq_getElem?_getD]
        exact l3 k' i' hk' hi'
      · rw[List.getD_eq_getElem?_getD]
        by_cases e:i'=i
        · subst e
          rw[List.getElem?_set_self (by rw[l2];exact hplt)];rfl
        · rw[List.getElem?_set_ne (by omega),← List.getD_eq_getElem?_getD]
          exact l4 i' (by have:i'<i+1:=hi';omega)
    · have:i=(qaI c k).length:=by omega
      subst this
      rw[qah (by omega)]
      refine ih (k+1,o) ⟨hk,l2,fun k' i' hk' hi'=>?_⟩ (by show c.length-(k+1)<c.length-k;omega)
      by_cases e:k'=k
      · subst e;exact l4 i' hi'
      · exact l3 k' i' (by have:k'<k+1:=hk';omega) hi'
  · have hkl : k = c.length := by have h : ¬ (k : Int) < (c.length : Int) := h
                                  omega
    subst hkl
    exact qaS ⟨ms,s1,bs,rfl,j2,i2,i3,fun k' i' hk' hi'=>j3 k' i' hk' hi',i4.le (by omega)⟩
end VeT
open Go Go.Proofs Ve
namespace VeT
theorem qkz:∀ {l x:Sim},x.Pairwise (·<·)→l.Pairwise (·<·)→(∀ v∈x,v∈l)→x.Sublist l
 | [],x,_,_,h=>by
  cases x with
  | nil=>exact .slnil
  | cons y x=>exact absurd (h y List.mem_cons_self) (by simp)
 | a::l,[],_,_,_=>List.nil_sublist _
 | a::l,y::x,hx,hl,h=>by
  obtain⟨x1,x2⟩:=List.pairwise_cons.1 hx
  obtain⟨l1,l2⟩:=List.pairwise_cons.1 hl
  by_cases e:y=a
  ·subst e
   refine .cons_cons _ (qkz x2 l2 fun v hv=>?_)
   have:=x1 v hv
   rcases List.mem_cons.1 (h v (List.mem_cons_of_mem _ hv)) with h1 | h1
   ·omega
   ·exact h1
  ·have hy:y∈l:=(List.mem_cons.1 (h y List.mem_cons_self)).resolve_left e
   have hya:=l1 y hy
   refine .cons _ (qkz hx l2 fun v hv=>?_)
   rcases List.mem_cons.1 (h v hv) with h1 | h1
   ·rcases List.mem_cons.1 hv with h2 | h2
    ·omega
    ·have:=x1 v h2;omega
   ·exact h1
theorem qgH{c:List Sim}{d:Nat}:∀ {k:Nat},k≤c.length→(qaG c (d:Int) k).length=((c.take k).filter fun x=>x.length==d+1).length
 | 0,_=>by simp[qaG]
 | k+1,hk=>by
  rw[qeA,List.length_append,qgH (by omega),List.take_succ_eq_append_getElem (by omega),List.filter_append,List.length_append]
  congr 1
  have e:c.getD k []=c[k]:=by rw[List.getD_eq_getElem?_getD,List.getElem?_eq_getElem (by omega)];rfl
  rw[e]
  by_cases h:(c[k]).length=d+1
  ·rw[if_pos (by omega),List.filter_cons_of_pos (by simp[h])];rfl
  ·rw[if_neg (by omega),List.filter_cons_of_neg (by simp[h])];rfl
theorem qhl{c:List Sim}{st:Sim}{d:Int}(hst:∀ x∈st,0≤x∧x≤3):∀ {n:Nat},SDn c st d n≤3*((qaG c d n).length:Int)
 | 0=>by simp[SDn,qaG]
 | n+1=>by
  have h:=qhl hst (c:=c) (d:=d) (n:=n)
  have h2:=qmC hst n
  rw[qpU,qeA,List.length_append]
  split
  ·simp only[List.length_singleton];omega
  ·simp only[List.length_nil];omega
theorem qnp{c:List Sim}(hv:VC c)(h5:S5 c){d:Nat}(hd:d<4):(qaG c (d:Int) c.length).length≤10:=by
 rw[qgH (Nat.le_refl _),List.take_length]
 refine Nat.le_trans (qhj (d:=(qpS [0,1,2,3,4]).filter fun x=>x.length==d+1) (hv.srt.nodup.filter _) fun x hx=>?_) ?_
 ·obtain⟨h1,h2⟩:=List.mem_filter.1 hx
  refine List.mem_filter.2 ⟨qhd (qkz ?_ (by decide) fun v hvx=>?_),h2⟩
  ·obtain⟨k,hk,rfl⟩:=List.getElem_of_mem h1
   have:=hv.2.1 k hk
   rw[List.getD_eq_getElem?_getD,List.getElem?_eq_getElem hk] at this
   exact this.2.2.1.pairwise
  ·obtain⟨k,hk,rfl⟩:=List.getElem_of_mem h1
   have:=hv.2.1 k hk
   rw[List.getD_eq_getElem?_getD,List.getElem?_eq_getElem hk] at this
   have a1:=(this.2.2.2 v hvx).1
   have a2:=(h5 _ h1).2 v hvx
   simp only[List.mem_cons,List.not_mem_nil,or_false]
   omega
 ·have:d=0∨d=1∨d=2∨d=3:=by omega
  rcases this with rfl | rfl | rfl | rfl<;>decide
theorem qsM{c:List Sim}(hv:VC c)(h5:S5 c){st:Sim}(hl:st.length=c.length)(hst:∀ x∈st,0≤x∧x≤3):SK c st:=by
 refine⟨hl,hst,fun d hd=>?_⟩
 have h1:=qnp hv h5 hd
 have h2:=qhl hst (c:=c) (d:=(d:Int)) (n:=c.length)
 rw[qrg]
 omega
theorem qq6{c:List Sim}{p:Int}{st:Sim}{ms:List Mat}(hv:VC c)(h5:S5 c)(hp:Pr p)(hl:st.length=c.length)(hst:∀ x∈st,0≤x∧x≤3)(hm:ms.length=plc c c.length)
  (hq:∀ k,k<c.length→∀ i,i<(qaI c k).length→Bt (ms.getD (plc c k+i) mz) p (st.getD ((qaI c k).getD i 0).toNat 0) (st.getD k 0)):VS c p st ms :=
 ⟨hv,hp,qsM hv h5 hl hst,hm.symm,hq⟩
end VeT
open Go Go.Proofs Ve
namespace VeT
theorem qmZ{p:Int}{a b:Nat}{cells:Sim}(hp:Pr p)(ha:a≤32)(hb:b≤32)(hl:cells.length=a*b)(he:qaT cells p):VM (p,(a:Int),(b:Int),cells,()) :=
 ⟨hp,⟨by show(0:Int)≤a;omega,by show(a:Int)≤32;omega⟩,⟨by show(0:Int)≤b;omega,by show(b:Int)≤32;omega⟩,by show(cells.length:Int)=a*b;rw[hl];simp,he⟩
theorem qoG{c:List Sim}{p:Int}{st:Sim}(hv:VC c)(hp:Pr p)(hl:st.length=c.length)(hst:∀ x∈st,0≤x∧x≤3){k i:Nat}(hk:k<c.length)(hi:i<(qaI c k).length) :
  Bt (((qaY c c.length).map (zOf p st)).getD (plc c k+i) mz) p (st.getD ((qaI c k).getD i 0).toNat 0) (st.getD k 0):=by
 have hg:=qbD (n:=c.length) hk hi
 obtain⟨f,f1,f2,f3⟩:=qdz hv.srt hv hk hi
 obtain⟨a,ha,ea,hka,eka⟩:=qgb hl hst hk
 obtain⟨b,hb,eb,hfb,efb⟩:=qgb hl hst f1
 rw[List.getD_eq_getElem?_getD,List.getElem?_map,hg]
 show Bt (zOf p st ((k:Int),(i:Int),(qaI c k).getD i 0,())) p _ _
 unfold zOf
 simp only[f3,Int.toNat_natCast,ea,eb]
 exact⟨qmZ hp (by omega) (by omega) (by simp) (qaT.zeros hp.1 _),rfl,rfl,rfl⟩
theorem qn6{c:List Sim}{p:Int}{d:Nat}{bs:List Mat}(hv:VC c)(hp:Pr p)(hd:d≤4)(hbl:bs.length=c.length)(hb:∀ m∈bs,BOk p d m){k i:Nat}(hk:k<c.length)(hi:i<(qaI c k).length) :
  Bt (chM c p d bs k i) p ((List.replicate c.length (d:Int)).getD ((qaI c k).getD i 0).toNat 0) ((List.replicate c.length (d:Int)).getD k 0):=by
 obtain⟨f,f1,f2,f3⟩:=qdz hv.srt hv hk hi
 have hbs:∀ f,f<c.length→BOk p d (bs.getD f mz):=fun f hf=>by
  have:f<bs.length:=by omega
  rw[List.getD_eq_getElem?_getD,List.getElem?_eq_getElem this]
  exact hb _ (List.getElem_mem this)
 have hr:∀ f,f<c.length→(List.replicate c.length (d:Int)).getD f 0=(d:Int):=fun f hf=>by
  rw[List.getD_eq_getElem?_getD,List.getElem?_replicate,if_pos hf];rfl
 rw[f3,Int.toNat_natCast,hr f f1,hr k hk]
 unfold chM
 rw[f3,Int.toNat_natCast]
 obtain⟨v1,v2⟩:=BOk.vm hp hd (hbs f f1)
 obtain⟨v3,_⟩:=BOk.vm hp hd (hbs k hk)
 obtain⟨cells,e,_⟩:=hbs k hk
 refine⟨qcN v3 v2,?_,?_,rfl⟩
 ·rw[e];rfl
 ·rw[e];rfl
end VeT
open Go Go.Proofs Ve
namespace VeT
def sk1(c:List Sim):List Sim:=c.filter fun x=>decide (x.length≤2)
theorem qop(c:List Sim)(hv:VC c):Ret E n_Z161 [dC (c,()),dI 1] ⟨o_Z161,(sk1 c,())⟩:=by
 have hl:=hv.1
 refine qak ?_
 simp only[run_Z161,Z161.ev]
 refine Ev.start (p:=fun φ n=>Z161.l0 (mkR (run E (φ 0))) (φ 0) n (c,()) 1 0 []=_) 1 ?_ (fun _ _ _ h=>h)
 refine qaw 1 (L:=fun φ n k o=>Z161.l0 (mkR (run E (φ 0))) (φ 0) n (c,()) 1 k o) (len:=c.length) (fun k=>sk1 (c.take k)) (fun _ _ _ _ _=>rfl) (fun k r hk ih=>?_) ?_
 ·simp only[Z161.l0_succ _ qag]
  have h4:=hv.len4 hk
  rw[qaf hk] at h4
  have e4:w64 ((1:Int)+1)=2:=qai (by omega) (by omega)
  have hlen:(sk1 (c.take k)).length≤c.length:=Nat.le_trans (List.length_filter_le _ _) (by rw[List.length_take];omega)
  have e:sk1 (c.take (k+1))=sk1 (c.take k)++if c[k].length≤2 then [c[k]] else []:=by
   unfold sk1
   rw[List.take_succ_eq_append_getElem hk,List.filter_append]
   congr 1
   by_cases h:c[k].length≤2
   ·rw[if_pos h,List.filter_cons_of_pos (by simp[h])];rfl
   ·rw[if_neg h,List.filter_cons_of_neg (by simp[h])];rfl
  rw[e] at ih
  refine qaB (decide_eq_true (by show(k:Int)<(c.length:Int);omega)) (qae (qao hk) ?_)
  by_cases h:c[k].length≤2
  ·rw[if_pos h] at ih
   refine qaB (decide_eq_true (by rw[e4];show(c[k].length:Int)≤2;omega)) (qae (qao hk) (qaa (qcE _ (by show c[k].length≤_;omega)) (qax (by simp only[List.length_singleton,decide_eq_true_eq];omega) ?_)))
   rw[qah (by omega)];exact ih
  ·rw[if_neg h,List.append_nil] at ih
   refine qaD (decide_eq_false (by rw[e4];show ¬ (c[k].length:Int)≤2;omega)) ?_
   rw[qah (by omega)];exact ih
 ·simp only[Z161.l0_succ _ qag]
  refine qaD (decide_eq_false (by show ¬ ((c.length:Int)<(c.length:Int));omega)) (qal ?_)
  rw[List.take_of_length_le (Nat.le_refl _)]
end VeT
open Go Go.Proofs Ve
namespace VeT
theorem qpg{f:Nat→Prop}:∀ {n:Nat},cnt f n=n→∀ c,c<n→f c
 | 0,_,c,h=>by omega
 | n+1,h,c,hc=>by
  have hle:cnt f n≤n:=by
   have h1:cnt f n≤cnt (fun _=>True) n:=qg4 fun _ _ _=>trivial
   have h2:∀ n,cnt (fun _=>True) n≤n:=by
    intro n
    induction n with
    | zero=>exact Nat.le_refl _
    | succ n ih=>unfold cnt;split<;>omega
   exact Nat.le_trans h1 (h2 n)
  unfold cnt at h
  by_cases hf:f n
  ·rw[if_pos hf] at h
   by_cases e:c=n
   ·subst e;exact hf
   ·exact qpg (n:=n) (by omega) c (by omega)
  ·rw[if_neg hf] at h;omega
theorem qrD{R W d:Nat}{F:Ent}{pv:List Nat}(h:Rf R W F pv)(hall:∀ c,c<d→c∈pv):∀ i,i<d→i<pv.length∧pv.getD i 0=i:=by
 intro i
 induction i using Nat.strongRecOn with
 | ind i ih =>
  intro hi
  obtain⟨k,hk,e⟩:=h.mem.1 (hall i hi)
  rcases Nat.lt_trichotomy k i with hlt | rfl | hgt
  ·have:=(ih k hlt (by omega)).2;omega
  ·exact⟨hk,e⟩
  ·refine⟨by omega,?_⟩
   have hm:=h.mono i k hgt hk
   rw[e] at hm
   -- pv i < i, so it is one of the earlier places
   have h2:=(ih (pv.getD i 0) hm (by omega)).2
   have h3:=(ih (pv.getD i 0) hm (by omega)).1
   have h4:=h.mono (pv.getD i 0) i hm (by omega)
   omega
theorem qph{p:Int}{d:Nat}{m:Mat}(hp:Pr p)(hd:d≤4)(h:BOk p d m):qcY (qol p d m) m=qbj p d:=by
 obtain⟨v1,v2⟩:=h.vm hp hd
 obtain⟨cells,e,hl,he,hr⟩:=h
 have hin:=qpr hp.1 hl he
 have hun:=qew hp (show d≤32 by omega)
 subst e
 refine qjT (qcN v2 v1) hun rfl rfl rfl fun i j hi hj=>?_
 have hi':i<d:=by simpa [qcY,qol] using hi
 have hj':j<d:=by simpa [qcY,qol] using hj
 rw[qhn (a:=qol p d (p,(d:Int),(d:Int),cells,())) (b:=(p,(d:Int),(d:Int),cells,())) hi hj,qmy hi' hj']
 generalize hA:qea (qeX cells (qat qbw d d) d d d) (d+d)=A at hin
 obtain⟨hrf,heq⟩:=qoK hp hin (d+d) (Nat.le_refl _)
 have hF:qgd p d cells=(elS p d A (d+d)).1:=by unfold qgd;rw[hA]
 have hAl:∀ i j,i<d→j<d→A i j=qea cells d i j:=fun i j hi hj=>by
  rw[← hA];unfold qeX
  rw[qbH hi (by omega)];unfold qkn;rw[if_pos hj]
 have hAr:∀ i j,i<d→j<d→A i (d+j)=if i=j then 1 else 0:=fun i j hi hj=>by
  rw[← hA];unfold qeX
  rw[qbH hi (by omega)];unfold qkn;rw[if_neg (by omega),Nat.add_sub_cancel_left,qbH hi hj];rfl
 -- all of the first places are pivots
 have hrk:rkV p d (Spn p d d (qea cells d))=d:=by
  rw[← qsB hp (qf6 he hl)];exact hr
 have hall:∀ c,c<d→c∈(elS p d A (d+d)).2:=fun c hc=>by
  obtain⟨_,x,⟨co,hco⟩,x1,x2⟩:=qpg hrk c hc
  rw[← qsl hp.1 hrf]
  have hag:∀ j,j<d→qa5 co (fun l=>A l j) d%p=x j%p:=fun j hj=>by
   rw[← hco j hj,qba (d:=co) (h:=fun l=>qea cells d l j) fun l hl=>⟨rfl,hAl l j hl hj⟩]
  refine⟨by omega,fun j=>qa5 co (fun l=>A l j) d,heq.spn.1 ⟨co,fun j _=>rfl⟩,fun j hj=>?_,?_⟩
  ·show qa5 co (fun l=>A l j) d%p=0
   rw[hag j (by omega)];exact x1 j hj
  ·show qa5 co (fun l=>A l c) d%p≠0
   rw[hag c hc];exact x2
 have hpv:=qrD hrf hall
 generalize (elS p d A (d+d)).1=F at hF hrf heq
 generalize (elS p d A (d+d)).2=pv at hrf hall hpv
 obtain⟨co,hco⟩:=heq.1 i hi'
 have hFe:∀ k,k<d→F i (d+k)%p=co k%p:=fun k hk=>by
  rw[← hco (d+k) (by omega),qbG]
  rw[qba (d:=fun l=>if l=k then 1 else 0) (h:=co) fun l hl=>⟨hAr l k hl hk,rfl⟩,qeu hk]
 have hFj:F i j=if i=j then 1 else 0:=by
  have:=hrf.one i j hi' (hpv j hj').1
  rwa [(hpv j hj').2] at this
 show qa5 (mE (qol p d (p,(d:Int),(d:Int),cells,())) i) (fun l=>qea cells ((d:Int)).toNat l j) ((d:Int)).toNat%p=_
 rw[Int.toNat_natCast]
 have e1:∀ l,l<d→mE (qol p d (p,(d:Int),(d:Int),cells,())) i l=F i (d+l):=fun l hl=>by
  show qea (qqQ p d cells) ((d:Int)).toNat i l=_
  rw[Int.toNat_natCast];unfold qqQ
  rw[qbH hi' hl,hF]
 rw[qlL (g:=co) fun l hl=>by rw[e1 l hl];exact hFe l hl]
 have:=hco j (by omega)
 rw[qba (d:=co) (h:=fun l=>qea cells d l j) fun l hl=>⟨rfl,hAl l j hl hj'⟩,hFj] at this
 rw[this]
 have:=hp.1
 split
 ·exact Int.emod_eq_of_lt (by omega) (by omega)
 ·exact Int.zero_emod _
theorem qet{c:List Sim}{ms:List Mat}(h:∀ k i j,k<c.length→3≤(c.getD k []).length→i<j→j<(c.getD k []).length→two c ms k i (j-1)=two c ms k j i):qbV c ms=none:=by
 cases e:qbV c ms with
 | none=>rfl
 | some t =>
  obtain⟨k,i,j⟩:=t
  obtain⟨h1,h2,h3,h4,_⟩:=qhv e
  unfold qbV at e
  obtain⟨k',hk,e⟩:=Option.bind_eq_some_iff.1 e
  obtain⟨i',hi,e⟩:=Option.bind_eq_some_iff.1 e
  obtain⟨j',hj,e⟩:=Option.map_eq_some_iff.1 e
  simp only[Prod.mk.injEq] at e
  obtain⟨rfl,rfl,rfl⟩:=e
  exact absurd (h _ _ _ h1 h2 h3 h4) (qaN hj).2.2
theorem qok{c:List Sim}{ms:List Mat}{m:Mat}(hv:VC c)(h:∀ k i,k<c.length→i<(qaI c k).length→mp c ms k i=m):qbV c ms=none:=qet fun k i j hk h3 hij hj=>by
 have hl:=qaF (c:=c) (k:=k)
 rw[if_pos (by omega)] at hl
 obtain⟨_,a2,a3⟩:=qa4 hv hk (show i<(qaI c k).length by omega)
 obtain⟨_,b2,b3⟩:=qa4 hv hk (show j<(qaI c k).length by omega)
 have la:=qaF (c:=c) (k:=fc c k i)
 have lb:=qaF (c:=c) (k:=fc c k j)
 rw[a3,List.length_eraseIdx_of_lt (by omega),if_pos (by omega)] at la
 rw[b3,List.length_eraseIdx_of_lt (by omega),if_pos (by omega)] at lb
 unfold two
 rw[h k i hk (by omega),h k j hk (by omega),h _ (j-1) a2 (by omega),h _ i b2 (by omega)]
theorem qnK{c:List Sim}{ms:List Mat}(h:∀ x∈c,x.length≤2):qbV c ms=none:=qet fun k i j hk h3 _ _=>by
 rw[qaf hk] at h3
 have:=h _ (List.getElem_mem hk)
 omega
theorem qkB{c:List Sim}{p:Int}{d:Nat}{bs ms:List Mat}(hv:VC c)(hp:Pr p)(hd:d≤4)(hbl:bs.length=c.length)(hb:∀ m∈bs,BOk p d m)
  (hm:∀ k i,k<c.length→i<(qaI c k).length→ms.getD (plc c k+i) mz=chM c p d bs k i):qbV c ms=none:=by
 have hbs:∀ f,f<c.length→BOk p d (bs.getD f mz):=fun f hf=>by
  have:f<bs.length:=by omega
  rw[List.getD_eq_getElem?_getD,List.getElem?_eq_getElem this]
  exact hb _ (List.getElem_mem this)
 have hmp:∀ k i,k<c.length→i<(qaI c k).length→mp c ms k i=qcY (bs.getD k mz) (qol p d (bs.getD (fc c k i) mz)):=fun k i hk hi=>hm k i hk hi
 have key:∀ k i j,k<c.length→i<(qaI c k).length→j<(qaI c (fc c k i)).length→two c ms k i j=qcY (bs.getD k mz) (qol p d (bs.getD (fc c (fc c k i) j) mz)):=fun k i j hk hi hj=>by
  obtain⟨_,a2,a3⟩:=qa4 hv hk hi
  obtain⟨_,b2,b3⟩:=qa4 hv a2 hj
  unfold two
  rw[hmp k i hk hi,hmp _ j a2 hj]
  have B1:=hbs k hk
  have B2:=hbs _ a2
  have B3:=hbs _ b2
  generalize fc c (fc c k i) j=g at *
  generalize fc c k i=f at *
  obtain⟨v1,w1⟩:=B1.vm hp hd
  obtain⟨v2,w2⟩:=B2.vm hp hd
  obtain⟨v3,w3⟩:=B3.vm hp hd
  obtain⟨_,e1,_⟩:=B1
  have B2':=B2
  obtain⟨_,e2,_⟩:=B2
  obtain⟨_,e3,_⟩:=B3
  have s1:(bs.getD k mz).1=p∧(bs.getD k mz).2.1=(d:Int)∧(bs.getD k mz).2.2.1=(d:Int):=by rw[e1];exact⟨rfl,rfl,rfl⟩
  have s2:(bs.getD f mz).1=p∧(bs.getD f mz).2.1=(d:Int)∧(bs.getD f mz).2.2.1=(d:Int):=by rw[e2];exact⟨rfl,rfl,rfl⟩
  rw[qdq v1 w2 (qcN v2 w3) s1.2.2 s2.2.1.symm s1.1,← qdq w2 v2 w3 s2.2.1.symm s2.2.2 s2.1.symm,qph hp hd B2',qjb (p:=p) (n:=d) w3 rfl rfl]
 refine qet fun k i j hk h3 hij hj=>?_
 have hl:=qaF (c:=c) (k:=k)
 rw[if_pos (by omega)] at hl
 obtain⟨_,a2,a3⟩:=qa4 hv hk (show i<(qaI c k).length by omega)
 obtain⟨_,b2,b3⟩:=qa4 hv hk (show j<(qaI c k).length by omega)
 have la:=qaF (c:=c) (k:=fc c k i)
 have lb:=qaF (c:=c) (k:=fc c k j)
 rw[a3,List.length_eraseIdx_of_lt (by omega),if_pos (by omega)] at la
 rw[b3,List.length_eraseIdx_of_lt (by omega),if_pos (by omega)] at lb
 rw[key k i (j-1) hk (by omega) (by omega),key k j i hk (by omega) (by omega)]
 have:fc c (fc c k i) (j-1)=fc c (fc c k j) i:=by
  obtain⟨_,u2,u3⟩:=qa4 hv a2 (show j-1<(qaI c (fc c k i)).length by omega)
  obtain⟨_,w2,w3⟩:=qa4 hv b2 (show i<(qaI c (fc c k j)).length by omega)
  refine qmH hv u2 w2 ?_
  rw[u3,w3,a3,b3]
  exact(qfa hij).symm
 rw[this]
def zm(p:Int)(a b:Nat):Mat:=(p,(a:Int),(b:Int),List.replicate (a*b) 0,())
theorem qjk{g:Nat→Int}:∀ {n:Nat},qa5 (fun _=>0) g n=0
 | 0=>rfl
 | n+1=>by show qa5 (fun _=>0) g n+0*g n=0;rw[qjk];simp
theorem qq4{p:Int}{a b d:Nat}{m:Mat}(hm:m.2.2.1=(d:Int)):qcY (zm p a b) m=zm p a d:=by
 refine qdN.2 ⟨rfl,rfl,hm,?_⟩
 show qat (qi1 p (List.replicate (a*b) 0) m.2.2.2.1 ((b:Int)).toNat m.2.2.1.toNat) m.2.2.1.toNat ((a:Int)).toNat=List.replicate (a*d) 0
 rw[hm,Int.toNat_natCast,Int.toNat_natCast,Int.toNat_natCast]
 refine Eq.trans (qaE fun i j hi hj=>(?_:_=(0:Int))) qjC
 unfold qi1
 rw[qba (d:=fun _=>0) (h:=fun l=>m.2.2.2.1.getD (l*d+j) 0) fun l hl=>⟨by rw[List.getD_eq_getElem?_getD,List.getElem?_replicate];split<;>rfl,rfl⟩,qjk,Int.zero_emod]
theorem qqO{c:List Sim}{p:Int}{st:Sim}(hv:VC c)(hl:st.length=c.length)(hst:∀ x∈st,0≤x∧x≤3){k i:Nat}(hk:k<c.length)(hi:i<(qaI c k).length) :
  mp c ((qaY c c.length).map (zOf p st)) k i=zm p (st.getD k 0).toNat (st.getD (fc c k i) 0).toNat:=by
 have hg:=qbD (n:=c.length) hk hi
 obtain⟨f,f1,f2,f3⟩:=qdz hv.srt hv hk hi
 obtain⟨a,ha,ea,hka,eka⟩:=qgb hl hst hk
 obtain⟨b,hb,eb,hfb,efb⟩:=qgb hl hst f1
 unfold mp fc
 rw[List.getD_eq_getElem?_getD,List.getElem?_map,hg]
 show zOf p st ((k:Int),(i:Int),(qaI c k).getD i 0,())=_
 unfold zOf zm
 simp only[f3,Int.toNat_natCast,ea,eb]
theorem qoz{c:List Sim}{p:Int}{st:Sim}(hv:VC c)(hl:st.length=c.length)(hst:∀ x∈st,0≤x∧x≤3):qbV c ((qaY c c.length).map (zOf p st))=none:=by
 have key:∀ k i j,k<c.length→i<(qaI c k).length→j<(qaI c (fc c k i)).length→two c ((qaY c c.length).map (zOf p st)) k i j=zm p (st.getD k 0).toNat (st.getD (fc c (fc c k i) j) 0).toNat:=fun k i j hk hi hj=>by
  obtain⟨_,a2,a3⟩:=qa4 hv hk hi
  unfold two
  rw[qqO hv hl hst hk hi,qqO hv hl hst a2 hj]
  exact qq4 rfl
 refine qet fun k i j hk h3 hij hj=>?_
 have hl:=qaF (c:=c) (k:=k)
 rw[if_pos (by omega)] at hl
 obtain⟨_,a2,a3⟩:=qa4 hv hk (show i<(qaI c k).length by omega)
 obtain⟨_,b2,b3⟩:=qa4 hv hk (show j<(qaI c k).length by omega)
 have la:=qaF (c:=c) (k:=fc c k i)
 have lb:=qaF (c:=c) (k:=fc c k j)
 rw[a3,List.length_eraseIdx_of_lt (by omega),if_pos (by omega)] at la
 rw[b3,List.length_eraseIdx_of_lt (by omega),if_pos (by omega)] at lb
 rw[key k i (j-1) hk (by omega) (by omega),key k j i hk (by omega) (by omega)]
 have:fc c (fc c k i) (j-1)=fc c (fc c k j) i:=by
  obtain⟨_,u2,u3⟩:=qa4 hv a2 (show j-1<(qaI c (fc c k i)).length by omega)
  obtain⟨_,w2,w3⟩:=qa4 hv b2 (show i<(qaI c (fc c k j)).length by omega)
  refine qmH hv u2 w2 ?_
  rw[u3,w3,a3,b3]
  exact(qfa hij).symm
 rw[this]
theorem qht{c:List Sim}{x:Sim}:x∈sk1 c↔x∈c∧x.length≤2:=by
 unfold sk1
 rw[List.mem_filter]
 simp
theorem qsv{c:List Sim}(hv:VC c):VC (sk1 c):=by
 have hsub:(sk1 c).Sublist c:=List.filter_sublist
 have hg:∀ k,k<(sk1 c).length→(sk1 c).getD k []∈sk1 c:=fun k hk=>by rw[qaf hk];exact List.getElem_mem hk
 have hvx:∀ x∈c,Vx x:=fun x hx=>by
  obtain⟨k,hk,rfl⟩:=List.getElem_of_mem hx
  have:=hv.2.1 k hk
  rwa [qaf hk] at this
 have hpw:c.Pairwise fun a b=>qcO a b<0:=List.pairwise_iff_getElem.2 fun i j hi hj hij=>hv.srt i j hj hij
 have hpw2:=hpw.sublist hsub
 refine⟨Nat.le_trans hsub.length_le hv.1,fun k hk=>hvx _ (qht.1 (hg k hk)).1,fun k h1 (hk:k<(sk1 c).length)=>?_,fun k (hk:k<(sk1 c).length) f hf=>?_⟩
 ·rw[qaf (show k-1<(sk1 c).length by omega),qaf hk]
  exact List.pairwise_iff_getElem.1 hpw2 (k-1) k (by omega) hk (by omega)
 ·obtain⟨h1,h2⟩:=qht.1 (hg k hk)
  obtain⟨q,hq,e⟩:=List.getElem_of_mem h1
  refine qht.2 ⟨hv.2.2.2 q hq f (by rw[qaf hq,e];exact hf),?_⟩
  obtain⟨h3,i,hi,rfl⟩:=qbL.1 hf
  rw[List.length_eraseIdx_of_lt hi];omega
theorem qr9{c:List Sim}(h:S5 c):S5 (sk1 c):=fun x hx=>h x (qht.1 hx).1
end VeT
open Go Go.Proofs Ve
namespace VeT
theorem qsP{p:Int}(h:2≤p∧p≤251∧∀ k∈List.range 16,2≤k→(k:Int)*k≤p→p%k≠0):Pr p:=⟨h.1,h.2.1,fun k h1 h2=>by
 by_cases hk:k<16
 ·exact h.2.2 k (List.mem_range.2 hk) h1 h2
 ·have:16*16≤k*k:=Nat.mul_le_mul (by omega) (by omega)
  have e:(k:Int)*k=((k*k:Nat):Int):=(qa3 ..).symm
  rw[e] at h2
  have:=h.2.1
  omega⟩
theorem pr5{p:Int}(h:p∈([2,3,5,7,251]:List Int)):Pr p:=by
 simp only[List.mem_cons,List.not_mem_nil,or_false] at h
 rcases h with rfl | rfl | rfl | rfl | rfl<;>exact qsP (by decide)
theorem VS.at{c:List Sim}{p:Int}{st:Sim}{ms:List Mat}(h:VS c p st ms){t:Nat}(ht:t<ms.length):∃ a b:Nat,a≤3∧b≤3∧VM (ms.getD t mz)∧(ms.getD t mz).1=p∧(ms.getD t mz).2.1=(a:Int)∧(ms.getD t mz).2.2.1=(b:Int):=by
 have hl:=h.2.2.2.1
 have ht':t<(qaY c c.length).length:=by unfold plc at hl;omega
 obtain⟨k,i,h1,h2,h3⟩:=qda ht'
 have hb:=(h.map h1 h2).2
 unfold mp at hb
 rw[← h3] at hb
 obtain⟨a1,a2⟩:=qmC h.2.2.1.2.1 k
 obtain⟨b1,b2⟩:=qmC h.2.2.1.2.1 (fc c k i)
 exact⟨(st.getD k 0).toNat,(st.getD (fc c k i) 0).toNat,by omega,by omega,hb.1,hb.2.1,by rw[hb.2.2.1];omega,by rw[hb.2.2.2];omega⟩
theorem qj4{l:Sim}(h:l.length≤1048576):Sm (.sl (.int .i64)) l:=⟨h,fun _ _=>trivial⟩
theorem qrv{ms:List Mat}(h:ms.length≤1048576)(h2:∀ m∈ms,m.2.2.2.1.length≤1048576):Sm (.sl (.st cM)) ms:=⟨h,fun m hm=>⟨trivial,trivial,trivial,qj4 (h2 m hm),trivial⟩⟩
theorem VS.plc_le{c:List Sim}{p:Int}{st:Sim}{ms:List Mat}(h:VS c p st ms):ms.length≤192:=by
 rw[← h.2.2.2.1];exact qcU h.1
theorem VS.cells{c:List Sim}{p:Int}{st:Sim}{ms:List Mat}(h:VS c p st ms):∀ m∈ms,m.2.2.2.1.length≤9:=fun m hm=>by
 obtain⟨t,ht,rfl⟩:=List.getElem_of_mem hm
 obtain⟨a,b,ha,hb,hv,_,e1,e2⟩:=h.at ht
 rw[qaf ht] at hv e1 e2
 have:=hv.num
 rw[e1,e2,Int.toNat_natCast,Int.toNat_natCast] at this
 have:=Nat.mul_le_mul ha hb
 omega
theorem VS.sm{c:List Sim}{p:Int}{st:Sim}{ms:List Mat}(h:VS c p st ms):Sm (.st cS) (c,p,st,ms,()):=by
 have h48:=h.1.1
 have hl:=h.2.2.1.1
 have h192:=h.plc_le
 exact⟨h.1.sm,trivial,qj4 (by show st.length≤_;omega),qrv (by show ms.length≤_;omega) fun m hm=>by have:=h.cells m hm;omega,trivial⟩
abbrev Drw:=List Sim×Int×Sim×List Mat×Src×Unit
def qsw(n:Nat)(r:Drw):Prop:=ISh (r.1,r.2.1,r.2.2.1,r.2.2.2.1,())∧S5 r.1∧SO n r.2.2.2.2.1
theorem qre{p:Int}{d:Nat}(hp:Pr p)(hd:d≤3):Bt (qbj p d) p (d:Int) (d:Int):=⟨qew hp (by omega),rfl,rfl,rfl⟩
theorem qg8{α:Type}{n i:Nat}{a d:α}(h:i<n):(List.replicate n a).getD i d=a:=by
 rw[List.getD_eq_getElem?_getD,List.getElem?_replicate,if_pos h];rfl
theorem qqw{c:List Sim}{p:Int}{d:Nat}(hv:VC c)(h5:∀ k:Nat,k<4→SD c (List.replicate c.length (d:Int)) k≤32)(hp:Pr p)(hd:d≤3):ISh (c,p,List.replicate c.length (d:Int),List.replicate (qaY c c.length).length (qbj p d),()):=by
 have hpl:∀ k i,k<c.length→i<(qaI c k).length→plc c k+i<(qaY c c.length).length:=fun k i hk hi=>by
  have:=qbD (n:=c.length) hk hi
  rcases Nat.lt_or_ge (plc c k+i) (qaY c c.length).length with h | h
  ·exact h
  ·rw[List.getElem?_eq_none h] at this;cases this
 refine⟨⟨hv,hp,⟨by simp,fun x hx=>by rw[(List.mem_replicate.1 hx).2];omega,fun k hk=>h5 k hk⟩,?_,fun k hk i hi=>?_⟩,?_⟩
 ·show(qaY c c.length).length=(List.replicate _ _).length
  simp
 ·obtain⟨f,f1,f2,f3⟩:=qdz hv.srt hv hk hi
  show Bt ((List.replicate _ _).getD (plc c k+i) mz) p ((List.replicate _ _).getD ((qaI c k).getD i 0).toNat 0) ((List.replicate _ _).getD k 0)
  rw[f3,Int.toNat_natCast,qg8 (hpl k i hk hi),qg8 f1,qg8 hk]
  exact qre hp hd
 ·exact qok (m:=qbj p d) hv fun k i hk hi=>qg8 (hpl k i hk hi)
theorem qsL{c:List Sim}(hv:VC c)(h5:S5 c){st:Sim}(hst:∀ x∈st,0≤x∧x≤3):∀ k:Nat,k<4→SD c st k≤32:=fun k hk=>by
 have h1:=qnp hv h5 hk
 have h2:=qhl hst (c:=c) (d:=(k:Int)) (n:=c.length)
 rw[qrg];omega
theorem qn4(n:Nat)(s:Src)(hn:n≤10000000)(hs:SO n s):qke n_Z166 [dR s] o_Z166 fun(r:Drw)=>qsw (n+20000) r:=by
  obtain⟨c0,a,g,⟨⟩⟩:=s
  refine qbX ?_
  simp only[run_Z166,Z166.ev]
  refine qbB (qk9 n _ (by omega) hs) fun(r:List Sim×Src×Unit) ⟨b1,b2,b3⟩=>?_
  obtain⟨c,s1,⟨⟩⟩:=r
  simp only at b1 b2 b3
  dsimp only
  have h48:=b1.1
  have h192:=qcU b1
  refine qbB (qox (n+50) _ _ (by simp) (by omega) b3) fun(r:Int×Src×Unit) ⟨p1,p2⟩=>?_
  obtain⟨p,s2,⟨⟩⟩:=r
  simp only at p1 p2
  have hp:=pr5 p1
  refine qbB (qbo (n+52) _ 5 (by omega) p2) fun(r:Int×Src×Unit) ⟨q1,q2,q3,q4⟩=>?_
  obtain⟨w,s3,⟨⟩⟩:=r
  simp only at q1 q2 q3 q4
  dsimp only
  -- the constant sheaf
  refine qhH (fun _=>?_) fun _=>?_
  · refine qbB (qbo (n+54) _ 2 (by omega) q4) fun(r:Int×Src×Unit) ⟨r1,r2,r3,r4⟩=>?_
    obtain⟨d0,s4,⟨⟩⟩:=r
    simp only at r1 r2 r3 r4
    have ed:w64 (1+d0)=((d0.toNat+1:Nat):Int):=by rw[qai (by omega) (by omega)];omega
    rw[ed]
    refine qaA (qec c p (d0.toNat+1) (by omega) b1.sm b1) (qaS ⟨?_,b2,r4.le (by omega)⟩)
    exact qqw b1 (qsL b1 b2 fun x hx=>by rw[(List.mem_replicate.1 hx).2];omega) hp (by omega)
  -- in other bases
  refine qhH (fun _=>?_) fun _=>?_
  · refine qbB (qbo (n+54) _ 2 (by omega) q4) fun(r:Int×Src×Unit) ⟨r1,r2,r3,r4⟩=>?_
    obtain⟨d0,s4,⟨⟩⟩:=r
    simp only at r1 r2 r3 r4
    have ed:w64 (1+d0)=((d0.toNat+1:Nat):Int):=by rw[qai (by omega) (by omega)];omega
    rw[ed]
    refine qbB (qmp (n+56) s4 c p (d0.toNat+1) (by omega) (by exact r4) b1 hp (by omega)) fun r ⟨ms,s5,bs,e,m1,m2,m3,m4,m5⟩=>?_
    subst e
    refine qaS ⟨⟨qq6 b1 b2 hp (by simp) (fun x hx=>by rw[(List.mem_replicate.1 hx).2];omega) m1 fun k hk i hi=>?_,?_⟩,b2,m5.le (by omega)⟩
    · show Bt (ms.getD (plc c k+i) mz) p ((List.replicate _ _).getD ((qaI c k).getD i 0).toNat 0) ((List.replicate _ _).getD k 0)
      rw[m4 k i hk hi]
      exact qn6 b1 hp (by omega) m2 m3 hk hi
    · exact qkB b1 hp (d:=d0.toNat+1) (by omega) m2 m3 fun k i hk hi=>m4 k i hk hi
  -- at one place
  refine qhH (fun _=>?_) fun _=>?_
  · have hj:∀(st:Sim) (s5:Src) (m:Nat),st.length=c.length→(∀ x∈st,0≤x∧x≤3)→m≤n+20000→SO m s5→EvQ (fun φ=>Z166.j0 (mkR (run E (φ 0))) (φ 0) p 0 c st s5.1 s5.2.1 s5.2.2.1) o_Z166 fun(r:Drw)=>qsw (n+20000) r:=fun st s5 m hl hst hm h5=>by
      simp only[Z166.j0_eq _ qag]
      refine qaA (qf0 c p st b1.sm b1 hl hst) (qaS ⟨⟨qq6 b1 b2 hp hl hst (by show((qaY c c.length).map _).length=_;rw[List.length_map];rfl) fun k hk i hi=>qoG b1 hp hl hst hk hi,qoz b1 hl hst⟩,b2,h5.le hm⟩)
    rw[Int.toNat_natCast]
    refine qa9 (by simp only[Bool.and_eq_true,decide_eq_true_eq];omega) ?_
    have hrl:(List.replicate c.length (0:Int)).length=c.length:=List.length_replicate
    refine qcH (fun h=>?_) fun h=>hj _ s3 (n+54) (by simp) (fun x hx=>by rw[(List.mem_replicate.1 hx).2];omega) (by omega) q4
    refine qbB (qbo (n+54) s3 _ (by omega) q4) fun(r:Int×Src×Unit) ⟨r1,r2,r3,r4⟩=>?_
    obtain⟨k0,s4,⟨⟩⟩:=r
    simp only at r1 r2 r3 r4
    refine qbB (qbo (n+56) s4 3 (by omega) r4) fun(r:Int×Src×Unit) ⟨t1,t2,t3,t4⟩=>?_
    obtain⟨d0,s5,⟨⟩⟩:=r
    simp only at t1 t2 t3 t4
    rw[hrl] at r2 h
    have hk:k0<(c.length:Int):=by omega
    refine qa9 (show(decide ((0:Int)≤k0)&&decide (k0<((List.replicate c.length (0:Int)).length:Int)))=true by rw[hrl];simp only[Bool.and_eq_true,decide_eq_true_eq];omega) ?_
    refine hj _ s5 (n+58) (by simp) (fun x hx=>?_) (by omega) t4
    rcases List.mem_or_eq_of_mem_set hx with hx | rfl
    · rw[(List.mem_replicate.1 hx).2];omega
    · rw[qai (by omega) (by omega)];omega
  -- of dimension 1
  refine qaA (qop c b1) ?_
  have v1:=qsv b1
  have f1:=qr9 b2
  have k48:=v1.1
  have k192:=qcU v1
  have hfl:∀ x∈sk1 c,x.length≤2:=fun x hx=>(qht.1 hx).2
  generalize sk1 c=c1 at v1 f1 k48 k192 hfl ⊢
  refine EvQ.start 1 (L:=fun φ N=>Z166.l1 (mkR (run E (φ 0))) (φ 0) N p 0 0 c1 [] s3.1 s3.2.1 s3.2.2.1) ?_ (fun _ _ _=>rfl)
  refine EvQ.loop 1 (σ:=Nat×Sim×Src) (L:=fun φ N st=>Z166.l1 (mkR (run E (φ 0))) (φ 0) N p (st.1:Int) 0 c1 st.2.1 st.2.2.1 st.2.2.2.1 st.2.2.2.2.1) (fun _ _ _ _=>rfl)
    (fun st=>st.1≤c1.length∧st.2.1.length=st.1∧(∀ x∈st.2.1,0≤x∧x≤3)∧SO (n+60+2*st.1) st.2.2) (fun st=>c1.length-st.1) (fun st hi ih=>?_) (0,[],s3) ⟨Nat.zero_le _,rfl,fun x hx=>by simp at hx,q4.le (by show n+52+2≤n+60+2*0;omega)⟩
  obtain⟨k,st,s4⟩:=st
  obtain⟨i1,i2,i3,i4⟩:=hi
  simp only at i1 i2 i3 i4 ih ⊢
  simp only[Z166.l1_succ _ qag]
  refine qcH (fun h=>?_) fun h=>?_
  · refine qbB (qbo _ s4 4 (by omega) i4) fun(r:Int×Src×Unit) ⟨r1,r2,r3,r4⟩=>?_
    obtain⟨y,s5,⟨⟩⟩:=r
    simp only at r1 r2 r3 r4
    refine qa9 (decide_eq_true (by simp;omega)) ?_
    rw[qah (by omega)]
    refine ih (k+1,st++[y],s5) ⟨by show k+1≤c1.length;omega,by simp[i2],fun x hx=>?_,r4.le (by show n+60+2*k+2≤n+60+2*(k+1);omega)⟩ (by show c1.length-(k+1)<c1.length-k;omega)
    rcases List.mem_append.1 hx with hx | hx
    · exact i3 x hx
    · rw[List.mem_singleton] at hx;subst hx;omega
  have hk:k=c1.length:=by omega
  subst hk
  clear ih
  refine qaA (qf0 c1 p st v1.sm v1 i2 i3) ?_
  have hol:((qaY c1 c1.length).map (zOf p st)).length=(qaY c1 c1.length).length:=by rw[List.length_map]
  have horig:∀ t,t<(qaY c1 c1.length).length→∃ a b:Nat,a≤3∧b≤3∧VM (((qaY c1 c1.length).map (zOf p st)).getD t mz)∧(((qaY c1 c1.length).map (zOf p st)).getD t mz).2.1=(a:Int)∧(((qaY c1 c1.length).map (zOf p st)).getD t mz).2.2.1=(b:Int):=fun t ht=>by
    obtain⟨k,i,h1,h2,h3⟩:=qda ht
    have hb:=qoG v1 hp i2 i3 h1 h2
    rw[← h3] at hb
    obtain⟨a1,a2⟩:=qmC i3 k
    obtain⟨b1,b2⟩:=qmC i3 ((qaI c1 k).getD i 0).toNat
    exact⟨(st.getD k 0).toNat,(st.getD ((qaI c1 k).getD i 0).toNat 0).toNat,by omega,by omega,hb.1,by rw[hb.2.2.1];omega,by rw[hb.2.2.2];omega⟩
  have hbt:=fun k (hk:k<c1.length) i (hi:i<(qaI c1 k).length)=>qoG v1 hp i2 i3 hk hi
  generalize (qaY c1 c1.length).map (zOf p st)=og at hol horig hbt ⊢
  refine EvQ.start 1 (L:=fun φ N=>Z166.l2 (mkR (run E (φ 0))) (φ 0) N p 0 0 p s4.1 s4.2.1 s4.2.2.1 og c1 st) ?_ (fun _ _ _=>rfl)
  refine EvQ.loop 1 (σ:=Nat×List Mat×Src) (L:=fun φ N x=>Z166.l2 (mkR (run E (φ 0))) (φ 0) N p (x.1:Int) 0 p x.2.2.1 x.2.2.2.1 x.2.2.2.2.1 x.2.1 c1 st) (fun _ _ _ _=>rfl)
    (fun x=>x.1≤og.length∧x.2.1.length=og.length∧(∀ t,t<og.length→VM (x.2.1.getD t mz)∧((x.2.1.getD t mz).1=(og.getD t mz).1∨(x.2.1.getD t mz).1=p)∧(x.2.1.getD t mz).2.1=(og.getD t mz).2.1∧(x.2.1.getD t mz).2.2.1=(og.getD t mz).2.2.1)∧SO (n+200+70*x.1) x.2.2) (fun x=>og.length-x.1) (fun x hi ih=>?_) (0,og,s4)
    ⟨Nat.zero_le _,rfl,fun t ht=>⟨by obtain⟨_,_,_,_,hv,_⟩:=horig t (by omega);exact hv,.inl rfl,rfl,rfl⟩,i4.le (by show n+60+2*c1.length≤n+200+70*0;omega)⟩
  obtain⟨k,ms,s5⟩:=x
  obtain⟨j1,j2,j3,j4⟩:=hi
  simp only at j1 j2 j3 j4 ih ⊢
  simp only[Z166.l2_succ _ qag]
  refine qcH (fun h=>?_) fun h=>?_
  · have hk:k<og.length:=by omega
    have hkm:k<ms.length:=by omega
    obtain⟨ra,rb,ha,hb,hv,ea,eb⟩:=horig k (by omega)
    obtain⟨u1,u2,u3,u4⟩:=j3 k hk
    have eg:ms[k]=ms.getD k mz:=(qaf hkm).symm
    rw[Int.toNat_natCast]
    have hc:(decide ((0:Int)≤(k:Int))&&decide ((k:Int)<(ms.length:Int)))=true:=by simp only[Bool.and_eq_true,decide_eq_true_eq];omega
    refine qa9 hc (qbW (List.getElem?_eq_getElem hkm) (qa9 hc (qbW (List.getElem?_eq_getElem hkm) ?_)))
    rw[eg,u3,u4,ea,eb]
    refine qbB (qm6 _ s5 p ra rb (by omega) j4 ⟨hp.1,hp.2.1⟩ (by omega) (by omega)) fun r ⟨cells,s6,e,c1',c2,c3⟩=>?_
    subst e
    refine qa9 hc ?_
    rw[qah (by omega)]
    refine ih (k+1,ms.set k (p,(ra:Int),(rb:Int),cells,()),s6) ⟨hk,by rw[List.length_set];exact j2,fun t ht=>?_,c3.le (by show n+200+70*k+70≤n+200+70*(k+1);omega)⟩ (by show og.length-(k+1)<og.length-k;omega)
    show VM ((ms.set k (p,(ra:Int),(rb:Int),cells,())).getD t mz)∧_
    by_cases e:t=k
    · subst e
      rw[List.getD_eq_getElem?_getD,List.getElem?_set_self hkm]
      exact⟨qmZ hp (by omega) (by omega) c1' c2,.inr rfl,by rw[ea];rfl,by rw[eb];rfl⟩
    · rw[List.getD_eq_getElem?_getD,List.getElem?_set_ne (fun h=>e h.symm),← List.getD_eq_getElem?_getD]
      exact j3 t ht
  · refine qaS ⟨⟨qq6 v1 f1 hp i2 i3 (by show ms.length=(qaY c1 c1.length).length;omega) fun k hk i hi=>?_,qnK hfl⟩,f1,j4.le (by show n+200+70*k≤n+20000;omega)⟩
    have hb:=hbt k hk i hi
    have hlt:plc c1 k+i<og.length:=by
      rw[hol]
      have:=qbD (n:=c1.length) hk hi
      rcases Nat.lt_or_ge (plc c1 k+i) (qaY c1 c1.length).length with h | h
      · exact h
      · rw[List.getElem?_eq_none h] at this;cases this
    obtain⟨u1,u2,u3,u4⟩:=j3 _ hlt
    exact⟨u1,by rcases u2 with u2 | u2<;>rw[u2];exact hb.2.1,by rw[u3];exact hb.2.2.1,by rw[u4];exact hb.2.2.2⟩
end VeT
open Go Go.Proofs Ve
namespace VeT
end VeT
open Go Go.Proofs Ve
namespace VeT
end VeT
open Go Go.Proofs Ve
namespace VeT
end VeT
open Go Go.Proofs Ve
namespace VeT
end VeT
open Go Go.Proofs Ve
namespace VeT
theorem qia{a b:List Sim}{im:Sim}{k p:Int}(hp:2≤p∧p≤251):∀ {j:Nat},qaT (chC a b im k p j) p
 | 0=>qkR hp.1
 | j+1=>fun x hx=>by
  unfold chC at hx
  simp only at hx
  split at hx
  ·rcases List.mem_or_eq_of_mem_set hx with hx | rfl
   ·exact qia hp x hx
   ·exact qqM hp _
  ·exact qia hp x hx
theorem ChF.vm{a b:List Sim}{im:Sim}{k p:Int}(F:ChF a b im k p)(hp:Pr p):VM (qtg a b im k p):=by
 have:=F.la
 have:=F.lb
 refine⟨hp,⟨by show(0:Int)≤((qaG b k b.length).length:Int);omega,by show((qaG b k b.length).length:Int)≤32;omega⟩,⟨by show(0:Int)≤((qaG a k a.length).length:Int);omega,by show((qaG a k a.length).length:Int)≤32;omega⟩,?_,qia F.hp⟩
 show((chC a b im k p (qaG a k a.length).length).length:Int)=((qaG b k b.length).length:Int)*((qaG a k a.length).length:Int)
 rw[qi0,Int.natCast_mul]
end VeT
open Go Go.Proofs Ve
namespace VeT
end VeT
open Go Go.Proofs Ve
namespace VeT
end VeT
open Go Go.Proofs Ve
namespace VeT
theorem qqa{f:Nat}{args:List Dv}(h:qke f args (.cons .bool .nil) fun(r:Bool×Unit)=>r.1=true):Ret E f args ⟨.cons .bool .nil,(true,())⟩:=by
 obtain⟨⟨b,⟨⟩⟩,h1,h2⟩:=h
 have h2:b=true:=h2
 subst h2
 exact h1
theorem qg7{b:Bool}(h:b=true):EvQ (fun _=>some ⟨.cons .bool .nil,(b,())⟩) (.cons .bool .nil) fun(r:Bool×Unit)=>r.1=true:=qaS h
theorem qsm{c:List Int}(h:Wf (.sl (.int .u8)) c):SO 0 (c,0,0,()):=⟨fun b hb=>by
 have:=h.2 b hb
 simp only[Wf,Lit.wf,IntKind.min,IntKind.max,IntKind.signed,IntKind.bits,Bool.and_eq_true,decide_eq_true_eq] at this
 simp at this
 omega,by show(0:Int)≤0;omega,by show(0:Int)≤((0:Nat):Int);omega⟩
end VeT
open Go Go.Proofs Ve
namespace VeT
def Bc(m:Nat)(c:List Sim):Prop:=c.length≤m∧∀ x∈c,x.length≤8
theorem Bc.sm{m:Nat}{c:List Sim}(h:Bc m c)(hm:m≤1048576):Sm (.sl (.sl (.int .i64))) c:=⟨Nat.le_trans h.1 hm,fun x hx=>⟨by have:=h.2 x hx;show x.length≤1048576;omega,fun _ _=>trivial⟩⟩
theorem Bc.le{m k:Nat}{c:List Sim}(h:Bc m c)(hk:m≤k):Bc k c:=⟨by have:=h.1;omega,h.2⟩
end VeT
open Go Go.Proofs Ve
namespace VeT
end VeT
open Go Go.Proofs Ve
namespace VeT
end VeT
open Go Go.Proofs Ve
namespace VeT
def wN(w:Sim)(i:Nat):Nat:=(w.getD i 0).toNat
theorem qr3.wN{c:List Sim}{w:Sim}(h:qr3 c w){i:Nat}(hi:i<w.length):w[i]? = some ((wN w i:Nat):Int)∧wN w i<c.length:=by
 obtain⟨n,hn,hl⟩:=h.get hi
 have e:VeT.wN w i=n:=by unfold VeT.wN;rw[qaf hi,hn,Int.toNat_natCast]
 rw[e,List.getElem?_eq_getElem hi,hn]
 exact⟨rfl,hl⟩
end VeT
open Go Go.Proofs Ve
namespace VeT
end VeT
open Go Go.Proofs Ve
namespace VeT
end VeT
open Go Go.Proofs Ve
namespace VeT
end VeT
open Go Go.Proofs Ve
namespace VeT
theorem qr3.at{c:List Sim}{w:Sim}(hp:qr3 c w){i:Nat}(hi:i<w.length):w[i]=((VeT.wN w i:Nat):Int):=by
 have:=(hp.wN hi).1
 rw[List.getElem?_eq_getElem hi] at this
 exact Option.some.inj this
end VeT
open Go Go.Proofs Ve
namespace VeT
end VeT
open Go Go.Proofs Ve
namespace VeT
end VeT
open Go Go.Proofs Ve
namespace VeT
end VeT
open Go Go.Proofs Ve
namespace VeT
end VeT
open Go Go.Proofs Ve
namespace VeT
theorem qq7{m:Mat}(h:VM m):Sm (.st cM) m:=by
 have hn:=h.num
 have h1:=h.2.1
 have h2:=h.2.2.1
 have:=qeB (show m.2.1.toNat≤32 by omega) (show m.2.2.1.toNat≤32 by omega)
 exact⟨trivial,trivial,trivial,qj4 (by omega),trivial⟩
theorem qki(a b:Mat)(ha:VM a)(hb:VM b)(h1:a.1=b.1)(hab:a.2.2.1=b.2.1) :
  Ret E n_Z118 [dI a.1,dI a.2.1,dI a.2.2.1,dL a.2.2.2.1,dI b.1,dI b.2.1,dI b.2.2.1,dL b.2.2.2.1] ⟨o_Z118,((qcY a b).1,(qcY a b).2.1,(qcY a b).2.2.1,(qcY a b).2.2.2.1,0,())⟩:=by
 refine qak ?_
 simp only[run_Z118,Z118.ev]
 have hB:Ret E n_Z136 [dM a,dM b] ⟨o_Z136,(true,())⟩:=by
  refine qak ?_
  simp only[run_Z136,Z136.ev]
  have h1:=qid a (qq7 ha)
  have h2:=qid b (qq7 hb)
  rw[qay ha] at h1
  rw[qay hb] at h2
  exact qaa h1 (qaB rfl (qaa h2 qan))
 refine qaa (show Ret E n_Z136 [dM (a.1,a.2.1,a.2.2.1,a.2.2.2.1,()),dM (b.1,b.2.1,b.2.2.1,b.2.2.2.1,())] _ from hB) (qaD rfl (qaD (by simpa using h1) ?_))
 simp only[Z118.j0_eq _ qag]
 exact qaD (by simpa using hab) (qaa (qgG a b ha hb hab) qan)
theorem qhr(a:Mat)(ha:a.2.2.2.1.length≤1048576) :
  Ret E n_Z120 [dI a.1,dI a.2.1,dI a.2.2.1,dL a.2.2.2.1,dI a.1,dI a.2.1,dI a.2.2.1,dL a.2.2.2.1] ⟨o_Z120,(true,())⟩:=by
 refine qak ?_
 simp only[run_Z120,Z120.ev]
 have h:=qgD a a ha
 rw[qay rfl] at h
 exact qaa h qan
end VeT
open Go Go.Proofs Ve
namespace VeT
theorem qn5(a b:List Int):qke n_Z85 [dB a,dB b] o_Z85 fun _=>True:=by
 refine qbX ?_
 simp only[run_Z85,Z85.ev]
 exact qcH (fun _=>qaS trivial) fun _=>qaS trivial
theorem qg2(c:List Int)(k n:Int)(hc:∀ b∈c,0≤b∧b≤255)(hk:0≤k):qke n_Z84 [dB c,dI k,dI n] o_Z84 fun(r:Int×Unit)=>0≤r.1∧(r.1<n∨r.1=0)∧r.1≤255:=by
 have jt:EvQ (fun φ=>Z84.j0 (mkR (run E (φ 0))) (φ 0) c k n true) o_Z84 fun(r:Int×Unit)=>0≤r.1∧(r.1<n∨r.1=0)∧r.1≤255:=by
  simp only[Z84.j0_eq _ qag]
  exact qoQ rfl (qaS ⟨Int.le_refl _,.inr rfl,(by show(0:Int)≤255;omega)⟩)
 refine qbX ?_
 simp only[run_Z84,Z84.ev]
 refine qcH (fun _=>jt) fun hn=>?_
 by_cases hl:k≥(c.length:Int)
 ·have:decide (k≥(c.length:Int))=true:=decide_eq_true hl
  rw[← this] at jt;exact jt
 ·rw[decide_eq_false hl]
  simp only[Z84.j0_eq _ qag]
  obtain⟨j,rfl⟩:=Int.eq_ofNat_of_zero_le hk
  have hj:j<c.length:=by omega
  obtain⟨h1,h2⟩:=hc _ (List.getElem_mem hj)
  refine qdT rfl (qbW (qao hj) (qa9 (by simp;omega) (qaS ?_)))
  have e:w64 c[j]=c[j]:=qai (by omega) (by omega)
  show 0≤Int.tmod (w64 c[j]) n∧_
  have hn:1<n:=by omega
  have h3:=Int.emod_nonneg c[j] (show n≠0 by omega)
  have h4:=Int.emod_lt_of_pos c[j] (show 0<n by omega)
  have h5:c[j]%n≤c[j]:=by
   have h6:=Int.mul_ediv_add_emod c[j] n
   have h7:0≤n*(c[j] / n):=Int.mul_nonneg (by omega) (Int.ediv_nonneg h1 (by omega))
   generalize n*(c[j] / n)=y at h6 h7
   omega
  rw[e,Int.tmod_eq_emod_of_nonneg h1]
  exact⟨h3,.inl h4,by omega⟩
theorem qp8{c:List Int}(h:Wf (.sl (.int .u8)) c):∀ b∈c,0≤b∧b≤255:=(qsm h).1
theorem qmG(x:List Int)(h:Wf (.sl (.int .u8)) x):qke n_Z119 [dB x] o_Z119 fun(r:List Sim×Int×Sim×List Mat×Unit)=>ISh r∧S5 r.1:=by
 refine qbX ?_
 simp only[run_Z119,Z119.ev]
 refine qaA (ql9 x) ?_
 exact qbB (qn4 0 (x,0,0,()) (by omega) (qsm h)) fun(r:Drw) ⟨b1,b2,b3⟩=>qaS ⟨b1,b2⟩
end VeT
open Go Go.Proofs Ve
namespace VeT
theorem qkA(a b:Mat):Ret E n_Z69 [dI a.1,dI a.2.1,dI a.2.2.1,dL a.2.2.2.1,dI b.1,dI b.2.1,dI b.2.2.1,dL b.2.2.2.1] ⟨o_Z69,(pb (a.1=b.1∧a.2.1=b.2.1∧a.2.2.1=b.2.2.1),())⟩:=by
 refine qak ?_
 simp only[run_Z69,Z69.ev]
 refine qcs (fun h1=>qcs (fun h2=>qal ?_) fun h2=>qal ?_) fun h1=>qal ?_
 ·have h1:a.1=b.1:=by simpa using h1
  have h2:a.2.1=b.2.1:=by simpa using h2
  have:(a.2.2.1==b.2.2.1)=pb (a.1=b.1∧a.2.1=b.2.1∧a.2.2.1=b.2.2.1):=qhG (by rw[beq_iff_eq];exact⟨fun h=>⟨h1,h2,h⟩,fun h=>h.2.2⟩)
  rw[this]
 ·have h2:¬ a.2.1=b.2.1:=by simpa using h2
  rw[qaq fun h=>h2 h.2.1]
 ·have h1:¬ a.1=b.1:=by simpa using h1
  rw[qaq fun h=>h1 h.1]
theorem qra{c:List Sim}{k i k' i':Nat}(hk:k<c.length)(hi:i<(qaI c k).length)(hk':k'<c.length)(hi':i'<(qaI c k').length)(h:plc c k+i=plc c k'+i'):k=k'∧i=i':=by
 have h1:=qbD hk hi
 have h2:=qbD hk' hi'
 rw[h,h2] at h1
 have h3:=Option.some.inj h1
 have e1:(k':Int)=(k:Int):=congrArg (fun a:Arw=>a.1) h3
 have e2:(i':Int)=(i:Int):=congrArg (fun a:Arw=>a.2.1) h3
 exact⟨by omega,by omega⟩
theorem qeC(x:Shf)(k i k' i' f:Nat)(m:Mat)(h:VS x.1 x.2.1 x.2.2.1 x.2.2.2.1)(hk:k'<x.1.length)(hi:i'<(qaI x.1 k').length) :
  Ret E n_Z21 [dI (k':Int),dI (i':Int),dI (f:Int),⟨.ptr (.cons (.int .i64) .nil),((k:Int),())⟩,⟨.ptr (.cons (.int .i64) .nil),((i:Int),())⟩,dM m,dS x] ⟨o_Z21,if k'=k∧i'=i then m else mp x.1 x.2.2.2.1 k' i'⟩:=by
 have hd:=qci x.1 x.2.1 x.2.2.1 x.2.2.2.1 k' i' hk hi h
 refine qak ?_
 simp only[run_Z21,Z21.ev]
 by_cases h1:k'=k
 ·refine qaB (by simp[h1]) ?_
  simp only[Z21.j0_eq _ qag]
  by_cases h2:i'=i
  ·rw[if_pos ⟨h1,h2⟩]
   exact qaB (by simp[h2]) qan
  ·rw[if_neg fun h=>h2 h.2]
   exact qaD (by simp;omega) (qaa hd qan)
 ·rw[if_neg fun h=>h1 h.1]
  refine qaD (by simp;omega) ?_
  simp only[Z21.j0_eq _ qag]
  exact qaD rfl (qaa hd qan)
theorem qsn{x:Shf}(h:VS x.1 x.2.1 x.2.2.1 x.2.2.2.1):x.2.2.2.1.length=(qaY x.1 x.1.length).length:=h.2.2.2.1.symm
theorem qqb{c:List Sim}{p:Int}{st:Sim}{ms:List Mat}(h:VS c p st ms){t:Nat}(ht:t<ms.length):(ms[t]).2.2.2.1.length≤1048576∧VM ms[t]:=by
 have hl:=h.2.2.2.1
 obtain⟨k,i,hk,hi,e⟩:=qda (c:=c) (n:=c.length) (t:=t) (by unfold plc at hl;omega)
 have hb:=h.2.2.2.2 k hk i hi
 unfold QB at hb
 rw[← e,qaf ht] at hb
 have hv:VM ms[t]:=hb.1
 obtain⟨h1,h2,h3,h4,h5⟩:=hv
 have:=qfw h2 h3
 exact⟨by omega,hb.1⟩
theorem qiT(x:Shf)(k i:Nat)(m:Mat)(hx:Sm (.st cS) x)(h:VS x.1 x.2.1 x.2.2.1 x.2.2.2.1)(hk:k<x.1.length)(hi:i<(qaI x.1 k).length)(hm:VM m) :
    Ret E n_Z70 [dLL x.1,dI x.2.1,dL x.2.2.1,⟨.fn n_Z21 (.cons (.ptr (.cons (.int .i64) .nil)) (.cons (.ptr (.cons (.int .i64) .nil)) (.cons (.ptr cM) (.cons (.ptr cS) .nil)))),(((k:Int),()),((i:Int),()),m,x,())⟩]
      ⟨o_Z70,(x.1,x.2.1,x.2.2.1,x.2.2.2.1.set (plc x.1 k+i) m,())⟩:=by
  have hv:=h.1
  have hs:=hv.srt
  have h192:=qcU hv
  have h48:=hv.1
  have hml:=qsn h
  have hmc:m.2.2.2.1.length≤1048576:=by
    obtain⟨h1,h2,h3,h4,h5⟩:=hm
    have:=qfw h2 h3
    omega
  have hel:∀ t (ht:t<(qaY x.1 x.1.length).length) (ht2:t<(x.2.2.2.1.set (plc x.1 k+i) m).length),Ret E n_Z21 [dI (qaY x.1 x.1.length)[t].1,dI (qaY x.1 x.1.length)[t].2.1,dI (qaY x.1 x.1.length)[t].2.2.1,⟨.ptr (.cons (.int .i64) .nil),((k:Int),())⟩,⟨.ptr (.cons (.int .i64) .nil),((i:Int),())⟩,dM m,dS x] ⟨o_Z21,(x.2.2.2.1.set (plc x.1 k+i) m)[t]⟩∧((x.2.2.2.1.set (plc x.1 k+i) m)[t]).2.2.2.1.length≤1048576:=fun t ht ht2=>by
    obtain⟨k',i',f,h1,h2,h3,e⟩:=qpu hs hv ht
    have hg:=qbD h1 h2
    have htp:t=plc x.1 k'+i':=by
      obtain⟨a,b,ha,hb,hab⟩:=qda ht
      have hga:=qbD ha hb
      rw[← hab,List.getElem?_eq_getElem ht,e] at hga
      have h4:=Option.some.inj hga
      have e1:(k':Int)=(a:Int):=congrArg (fun a:Arw=>a.1) h4
      have e2:(i':Int)=(b:Int):=congrArg (fun a:Arw=>a.2.1) h4
      rw[hab,show k'=a by omega,show i'=b by omega]
    have hr:=qeC x k i k' i' f m h h1 h2
    have hval:(if k'=k∧i'=i then m else mp x.1 x.2.2.2.1 k' i')=(x.2.2.2.1.set (plc x.1 k+i) m)[t]:=by
      rw[List.getElem_set]
      by_cases hki:k'=k∧i'=i
      · rw[if_pos hki,if_pos (by rw[htp,hki.1,hki.2])]
      · rw[if_neg hki,if_neg fun e2=>hki (by
          obtain⟨e3,e4⟩:=qra hk hi h1 h2 (e2.trans htp)
          exact⟨e3.symm,e4.symm⟩)]
        unfold mp
        rw[← htp,qaf (by omega)]
    rw[hval] at hr
    rw[e]
    refine⟨hr,?_⟩
    rw[List.getElem_set]
    split
    · exact hmc
    · exact(qqb h (by omega)).1
  have hol:x.2.2.1.length≤1048576:=hx.2.2.1.1
  refine qak ?_
  simp only[run_Z70,Z71.ev]
  refine qaa (qmc x.1 hx.1 hs) (qaa (qfl x.2.2.1 hol) (qaa (qfU x.1 hx.1 hv) ?_))
  generalize hM:x.2.2.2.1.set (plc x.1 k+i) m=M at hel ⊢
  have hMl:M.length=(qaY x.1 x.1.length).length:=by rw[← hM,List.length_set];exact hml
  refine Ev.start (p:=fun φ n=>Z71.l0 (mkR (run E (φ 0))) (φ 0) n (((k:Int),()),((i:Int),()),m,x,()) (qaY x.1 x.1.length) ((qaY x.1 x.1.length).length:Int) 0 0 x.2.1 [] x.1 x.2.2.1=_) 1 ?_ (fun _ _ _ h=>h)
  refine qaw 1 (L:=fun φ n t o=>Z71.l0 (mkR (run E (φ 0))) (φ 0) n (((k:Int),()),((i:Int),()),m,x,()) (qaY x.1 x.1.length) ((qaY x.1 x.1.length).length:Int) t 0 x.2.1 o x.1 x.2.2.1) (len:=(qaY x.1 x.1.length).length) (fun t=>M.take t) (fun _ _ _ _ _=>rfl) (fun t r ht ih=>?_) ?_
  · simp only[Z71.l0_succ _ qag]
    have ht2:t<M.length:=by omega
    rw[List.take_succ_eq_append_getElem ht2] at ih
    obtain⟨e1,e2⟩:=hel t ht ht2
    refine qaB (decide_eq_true (by omega)) (qae (qao ht) (qaa e1 (qaa (qiP _ e2) (qax (by simp only[List.length_take,List.length_singleton,decide_eq_true_eq];omega) ?_))))
    rw[qah (by omega)];exact ih
  · simp only[Z71.l0_succ _ qag]
    refine qaD (decide_eq_false (by omega)) (qal ?_)
    rw[List.take_of_length_le (by omega)]
end VeT
open Go Go.Proofs Ve
namespace VeT
open Classical in
noncomputable def qaV(x:Shf)(k i:Int)(m:Mat):List Sim×Int×Sim×List Mat×Int×Unit :=
 if VS x.1 x.2.1 x.2.2.1 x.2.2.2.1∧VM m then
  (if (0≤k∧k≤(x.1.length:Int)-1)∧(0≤i∧i≤((qaI x.1 k.toNat).length:Int)-1) then
   (if Bt m x.2.1 (x.2.2.1.getD (fc x.1 k.toNat i.toNat) 0) (x.2.2.1.getD k.toNat 0) then(x.1,x.2.1,x.2.2.1,x.2.2.2.1.set (plc x.1 k.toNat+i.toNat) m,0,()) else qsJ 6)
  else qsJ 2)
 else qsJ 1
theorem qdR(x:Shf)(k i:Int)(m:Mat)(sx:Sm (.st cS) x)(sm:Sm (.st cM) m) :
    Ret E n_Z20 [dLL x.1,dI x.2.1,dL x.2.2.1,dMs x.2.2.2.1,dI k,dI i,dI m.1,dI m.2.1,dI m.2.2.1,dL m.2.2.2.1] ⟨o_Z20,qaV x k i m⟩:=by
  have hl:x.1.length≤1048576:=sx.1.1
  have j0:∀ b:Bool,b=true→¬ (VS x.1 x.2.1 x.2.2.1 x.2.2.2.1∧VM m)→Ev fun φ=>Z20.j0 (mkR (run E (φ 0))) (φ 0) b x.1 x.2.1 x.2.2.1 x.2.2.2.1 k i m.1 m.2.1 m.2.2.1 m.2.2.2.1 0=some ⟨o_Z20,qaV x k i m⟩:=fun b hb hn=>by
    unfold qaV
    rw[if_neg hn,hb]
    simp only[Z20.j0_eq _ qag]
    exact qaB rfl qan
  have j1:∀ b:Bool,b=true→(VS x.1 x.2.1 x.2.2.1 x.2.2.2.1∧VM m)→¬ ((0≤k∧k≤(x.1.length:Int)-1)∧(0≤i∧i≤((qaI x.1 k.toNat).length:Int)-1)) →
      Ev fun φ=>Z20.j1 (mkR (run E (φ 0))) (φ 0) b x.1 x.2.1 x.2.2.1 x.2.2.2.1 k i m.1 m.2.1 m.2.2.1 m.2.2.2.1 0=some ⟨o_Z20,qaV x k i m⟩:=fun b hb hv hn=>by
    unfold qaV
    rw[if_pos hv,if_neg hn,hb]
    simp only[Z20.j1_eq _ qag]
    exact qaB rfl qan
  refine qak ?_
  simp only[run_Z20,Z20.ev]
  refine qaa (qbJ x.1 x.2.1 x.2.2.1 x.2.2.2.1 sx.1 sx.2.2.1.1 sx.2.2.2.1) ?_
  by_cases h1:VS x.1 x.2.1 x.2.2.1 x.2.2.2.1
  · refine qaD (by rw[qay h1];rfl) (qaa (qd3 m sm) ?_)
    by_cases h2:VM m
    · simp only[Z20.j0_eq _ qag]
      refine qaD (by rw[qay h2];rfl) (qaa (qeV x.1 x.2.1 x.2.2.1 x.2.2.2.1 k hl) ?_)
      by_cases h3:0≤k∧k≤(x.1.length:Int)-1
      · obtain⟨q,rfl⟩:=Int.eq_ofNat_of_zero_le h3.1
        have hq:q<x.1.length:=by omega
        have hf4:=h1.1.fIdx4 hq
        refine qaD (by rw[qay h3];rfl) (qaa (qb7 x.1 q hq sx.1 h1.1.srt) (qaa (qfB _) ?_))
        rw[qai (n:=((qaI x.1 q).length:Int)-1) (by omega) (by omega)]
        refine qaa (qbQ i 0 _) ?_
        by_cases h4:0≤i∧i≤((qaI x.1 q).length:Int)-1
        · obtain⟨j,rfl⟩:=Int.eq_ofNat_of_zero_le h4.1
          have hj:j<(qaI x.1 q).length:=by omega
          obtain⟨_,hb⟩:=h1.map hq hj
          simp only[Z20.j1_eq _ qag]
          refine qaD (by rw[qay h4];rfl) (qaa (qci x.1 x.2.1 x.2.2.1 x.2.2.2.1 q j hq hj h1) (qaa (qkA m (mp x.1 x.2.2.2.1 q j)) ?_))
          have hiff:(m.1=(mp x.1 x.2.2.2.1 q j).1∧m.2.1=(mp x.1 x.2.2.2.1 q j).2.1∧m.2.2.1=(mp x.1 x.2.2.2.1 q j).2.2.1)↔Bt m x.2.1 (x.2.2.1.getD (fc x.1 q j) 0) (x.2.2.1.getD q 0):=by
            obtain⟨_,b1,b2,b3⟩:=hb
            rw[b1,b2,b3]
            exact⟨fun h=>⟨h2,h⟩,fun h=>h.2⟩
          rw[qaM hiff]
          unfold qaV
          rw[if_pos ⟨h1,h2⟩,Int.toNat_natCast,Int.toNat_natCast,if_pos ⟨h3,h4⟩]
          by_cases h5:Bt m x.2.1 (x.2.2.1.getD (fc x.1 q j) 0) (x.2.2.1.getD q 0)
          · rw[if_pos h5]
            exact qaD (by rw[qay h5];rfl) (qaa (qiT x q j m sx h1 hq hj h2) qan)
          · rw[if_neg h5]
            exact qaB (by rw[qaq h5];rfl) qan
        · exact j1 _ (by rw[qaq h4];rfl) ⟨h1,h2⟩ fun h=>h4 h.2
      · exact qaB (by rw[qaq h3];rfl) (j1 true rfl ⟨h1,h2⟩ fun h=>h3 h.1)
    · exact j0 _ (by rw[qaq h2];rfl) fun h=>h2 h.2
  · exact qaB (by rw[qaq h1];rfl) (j0 true rfl fun h=>h1 h.1)
end VeT
open Go Go.Proofs Ve
namespace VeT
def InC(c:List Sim)(k:Int):Prop:=0≤k∧k≤(c.length:Int)-1
open Classical in
noncomputable def RV(x:Shf)(f k:Int):Int×Int×Int×List Int×Int×Unit :=
 if VS x.1 x.2.1 x.2.2.1 x.2.2.2.1 then(if InC x.1 f∧InC x.1 k then(if qeL (x.1.getD f.toNat []) (x.1.getD k.toNat []) then
  ((qdQ x.1 x.2.1 x.2.2.1 x.2.2.2.1 f.toNat (x.1.getD k.toNat []).length k.toNat).1,(qdQ x.1 x.2.1 x.2.2.1 x.2.2.2.1 f.toNat (x.1.getD k.toNat []).length k.toNat).2.1,(qdQ x.1 x.2.1 x.2.2.1 x.2.2.2.1 f.toNat (x.1.getD k.toNat []).length k.toNat).2.2.1,(qdQ x.1 x.2.1 x.2.2.1 x.2.2.2.1 f.toNat (x.1.getD k.toNat []).length k.toNat).2.2.2.1,0,())
  else(0,0,0,[],3,())) else(0,0,0,[],2,())) else(0,0,0,[],1,())
theorem qbe(x:Shf)(f k:Int)(hx:Sm (.st cS) x):Ret E n_Z18 [dLL x.1,dI x.2.1,dL x.2.2.1,dMs x.2.2.2.1,dI f,dI k] ⟨o_Z18,RV x f k⟩:=by
 have hc:Sm (.sl (.sl (.int .i64))) x.1:=hx.1
 have hc1:x.1.length≤1048576:=hc.1
 refine qak ?_
 simp only[run_Z18,Z18.ev]
 refine qaa (qcA x hx) (qcs (fun h=>qal ?_) fun h=>?_)
 ·rw[RV,if_neg (qbh.1 (show pb (VS x.1 x.2.1 x.2.2.1 x.2.2.2.1)=false by simpa using h))]
 have h:=qaH.1 (show pb (VS x.1 x.2.1 x.2.2.1 x.2.2.2.1)=true by simpa using h)
 rw[RV,if_pos h]
 have no:¬ (InC x.1 f∧InC x.1 k)→Ev fun φ=>Z18.j0 (mkR (run E (φ 0))) (φ 0) f k true x.1 x.2.1 x.2.2.1 x.2.2.2.1 0 0 0=some ⟨o_Z18,(0,0,0,[],2,())⟩:=fun hn=>by
  simp only[Z18.j0_eq _ qag,cond_true];(first | exact qan | exact Ev.of fun _=>trivial)
 refine qaa (qeV x.1 x.2.1 x.2.2.1 x.2.2.2.1 f hc1) (qcs (fun hf=>?_) fun hf=>qaa (qeV x.1 x.2.1 x.2.2.1 x.2.2.2.1 k hc1) ?_)
 ·have hf:¬ InC x.1 f:=qbh.1 (show pb (0≤f∧f≤(x.1.length:Int)-1)=false by simpa using hf)
  rw[if_neg fun hh=>hf hh.1]
  exact no fun hh=>hf hh.1
 have hf:InC x.1 f:=qaH.1 (show pb (0≤f∧f≤(x.1.length:Int)-1)=true by simpa using hf)
 by_cases hk:InC x.1 k
 ·have e:pb (0≤k∧k≤(x.1.length:Int)-1)=true:=qay hk
  rw[if_pos ⟨hf,hk⟩]
  simp only[e,Bool.not_true,Z18.j0_eq _ qag,cond_false]
  obtain⟨F,rfl⟩:=Int.eq_ofNat_of_zero_le hf.1
  obtain⟨K,rfl⟩:=Int.eq_ofNat_of_zero_le hk.1
  have hF:F<x.1.length:=by have:=hf.2;omega
  have hK:K<x.1.length:=by have:=hk.2;omega
  simp only[Int.toNat_natCast]
  refine qae (qao hF) (qae (qao hK) (qaa (qjF _ _ (qa7 hc hF).1 (qa7 hc hK).1) (qcs (fun hp=>qal ?_) fun hp=>?_)))
  ·have hp:=qbh.1 (show pb (qeL x.1[F] x.1[K])=false by simpa using hp)
   have hp':¬ qeL (x.1.getD F []) (x.1.getD K []):=by rw[qaf hF,qaf hK];exact hp
   rw[if_neg hp']
  ·have hp:=qaH.1 (show pb (qeL x.1[F] x.1[K])=true by simpa using hp)
   have hp':qeL (x.1.getD F []) (x.1.getD K []):=by rw[qaf hF,qaf hK];exact hp
   rw[if_pos hp']
   exact qaa (qoO x.1 x.2.1 x.2.2.1 x.2.2.2.1 hc h F hF _ K hK (Nat.le_refl _) hp').2 qan
 ·have e:pb (0≤k∧k≤(x.1.length:Int)-1)=false:=qaq hk
  rw[if_neg fun hh=>hk hh.2]
  simp only[e,Bool.not_false]
  exact no fun hh=>hk hh.2
end VeT
open Go Go.Proofs Ve
namespace VeT
theorem qk2(c:Cpx)(hc:Sm (.sl (.sl (.int .i64))) c.1):Ret E n_Z159 [dC c,dC c] ⟨o_Z159,(true,())⟩:=by
 have hl:c.1.length≤1048576:=hc.1
 refine qak ?_
 simp only[run_Z159,Z159.ev]
 refine qaD (bne_self_eq_false _) ?_
 have key:∀(d i:Nat),i+d=c.1.length→Ev fun φ=>Z159.l0 (mkR (run E (φ 0))) (φ 0) (φ 1) c c (i:Int)=some ⟨o_Z159,(true,())⟩:=by
  intro d
  induction d with
  | zero =>
   intro i hi
   refine Ev.round 1 (L:=fun φ q=>Z159.l0 (mkR (run E (φ 0))) (φ 0) q c c (i:Int)) ?_ (fun _ _ _=>rfl)
   simp only[Z159.l0_succ _ qag]
   exact qaD (decide_eq_false (by omega)) qan
  | succ d ih =>
   intro i hi
   have hil:i<c.1.length:=by omega
   refine Ev.round 1 (L:=fun φ q=>Z159.l0 (mkR (run E (φ 0))) (φ 0) q c c (i:Int)) ?_ (fun _ _ _=>rfl)
   simp only[Z159.l0_succ _ qag]
   refine qaB (decide_eq_true (by omega)) (qae (qao hil) (qae (qao hil) (qaa (qcV c.1[i] c.1[i] (qa7 hc hil).1) (qaD (by rw[qay rfl];rfl) ?_))))
   rw[qah (by omega)]
   exact ih (i+1) (by omega)
 exact Ev.start (p:=fun φ n=>Z159.l0 (mkR (run E (φ 0))) (φ 0) n c c 0=_) 1 (key c.1.length 0 (by omega)) (fun _ _ _ h=>h)
theorem qlW(x:Shf)(hx:Sm (.st cS) x):Ret E n_Z170 [dS x,dS x] ⟨o_Z170,(true,())⟩:=by
 have hl:x.2.2.2.1.length≤1048576:=hx.2.2.2.1.1
 refine qak ?_
 simp only[run_Z170,Z170.ev]
 refine qaa (qk2 (x.1,()) hx.1) (qaD rfl (qaD (bne_self_eq_false _) (qaa (qcV x.2.2.1 x.2.2.1 hx.2.2.1.1) (qaD (by rw[qay rfl];rfl) ?_))))
 rw[bne_self_eq_false]
 simp only[Z170.j0_eq _ qag]
 refine qaD rfl ?_
 have key:∀(d i:Nat),i+d=x.2.2.2.1.length→Ev fun φ=>Z170.l1 (mkR (run E (φ 0))) (φ 0) (φ 1) x x (i:Int)=some ⟨o_Z170,(true,())⟩:=by
  intro d
  induction d with
  | zero =>
   intro i hi
   refine Ev.round 1 (L:=fun φ q=>Z170.l1 (mkR (run E (φ 0))) (φ 0) q x x (i:Int)) ?_ (fun _ _ _=>rfl)
   simp only[Z170.l1_succ _ qag]
   exact qaD (decide_eq_false (by omega)) qan
  | succ d ih =>
   intro i hi
   have hil:i<x.2.2.2.1.length:=by omega
   refine Ev.round 1 (L:=fun φ q=>Z170.l1 (mkR (run E (φ 0))) (φ 0) q x x (i:Int)) ?_ (fun _ _ _=>rfl)
   simp only[Z170.l1_succ _ qag]
   refine qaB (decide_eq_true (by omega)) (qae (qao hil) (qae (qao hil) (qaa (qgD x.2.2.2.1[i] x.2.2.2.1[i] (hx.2.2.2.1.2 _ (List.getElem_mem hil)).2.2.2.1.1) (qaD (by rw[qay rfl];rfl) ?_))))
   rw[qah (by omega)]
   exact ih (i+1) (by omega)
 exact Ev.start (p:=fun φ n=>Z170.l1 (mkR (run E (φ 0))) (φ 0) n x x 0=_) 1 (key x.2.2.2.1.length 0 (by omega)) (fun _ _ _ h=>h)
theorem qfE(x:Shf)(hx:Sm (.st cS) x):Ret E n_Z121 [dLL x.1,dI x.2.1,dL x.2.2.1,dMs x.2.2.2.1,dLL x.1,dI x.2.1,dL x.2.2.1,dMs x.2.2.2.1] ⟨o_Z121,(true,())⟩:=by
 refine qak ?_
 simp only[run_Z121,Z121.ev]
 exact qaa (qlW x hx) qan
theorem qq0{c:List Sim}(hv:VC c){k:Nat}(hk:k<c.length):qsD c (k:Int)=0:=by
 unfold qsD
 rw[if_pos hv,if_pos (by omega)]
theorem qfC(c:List Sim)(k:Nat)(hv:VC c)(hk:k<c.length):Ret E n_Z122 [dLL c,dI (k:Int)] ⟨o_Z122,(qdX c (c.getD k []) c.length,0,())⟩:=by
 have ha:=qjI c (k:Int) hv.sm
 rw[qq0 hv hk] at ha
 rw[qaf hk]
 refine qak ?_
 simp only[run_Z122,Z122.ev]
 exact qaa ha (qaD rfl (qae (qao hk) (qaa (qmg (c,()) c[k] (qa7 hv.sm hk).1 hv.sm) qan)))
theorem qiK(c:List Sim)(k:Nat)(hv:VC c)(hk:k<c.length):Ret E n_Z116 [dLL c,dI (k:Int)] ⟨o_Z116,(qaI c k,0,())⟩:=by
 have ha:=qjI c (k:Int) hv.sm
 rw[qq0 hv hk] at ha
 refine qak ?_
 simp only[run_Z116,Z116.ev]
 exact qaa ha (qaD rfl (qaa (qdZ c k hk hv.sm) qan))
theorem qqo{x:Shf}(h:VS x.1 x.2.1 x.2.2.1 x.2.2.2.1){f k:Nat}(hf:f<x.1.length)(hk:k<x.1.length)(hp:qeL (x.1.getD f []) (x.1.getD k [])) :
  RV x (f:Int) (k:Int)=((qcK x f k).1,(qcK x f k).2.1,(qcK x f k).2.2.1,(qcK x f k).2.2.2.1,0,()):=by
 have h1:InC x.1 (f:Int):=⟨by omega,by omega⟩
 have h2:InC x.1 (k:Int):=⟨by omega,by omega⟩
 unfold RV
 rw[if_pos h,if_pos ⟨h1,h2⟩,Int.toNat_natCast,Int.toNat_natCast,if_pos hp]
 rfl
theorem qnY{x:Shf}(hs:ISh x){k i:Nat}(hk:k<x.1.length)(hi:i<(qaI x.1 k).length) :
  fc x.1 k i<x.1.length∧qeL (x.1.getD (fc x.1 k i) []) (x.1.getD k [])∧qcK x (fc x.1 k i) k=mp x.1 x.2.2.2.1 k i:=by
 have h:=hs.1
 obtain⟨_,f1,f2⟩:=qa4 h.1 hk hi
 have h2:i<(x.1.getD k []).length:=by
  have:=qaF (c:=x.1) (k:=k)
  split at this<;>omega
 have hp:qeL (x.1.getD (fc x.1 k i) []) (x.1.getD k []):=fun v hv=>by
  rw[f2] at hv
  exact List.mem_of_mem_eraseIdx hv
 have hn:(x.1.getD k [])[i]∉x.1.getD (fc x.1 k i) []:=fun hm=>by
  rw[f2,List.mem_eraseIdx_iff_getElem] at hm
  obtain⟨j,hj,hne,e⟩:=hm
  have hr:=(h.1.2.1 k hk).2.2.1.pairwise
  rcases Nat.lt_or_gt_of_ne hne with hlt | hgt
  ·have:=List.pairwise_iff_getElem.1 hr j i hj h2 hlt;omega
  ·have:=List.pairwise_iff_getElem.1 hr i j h2 hj hgt;omega
 refine⟨f1,hp,?_⟩
 obtain⟨_,e⟩:=qfp hs _ (Nat.le_refl _) f1 hk hp h2 hn
 rw[e,qi4 h f1]
 obtain⟨_,n,_,hn2,en,en2⟩:=qqB h (fc x.1 k i) f1
 have hb:=(h.map hk hi).2
 exact qnJ hb.1 (by rw[hb.2.2.2,en2,Int.toNat_natCast])
theorem qp7{A:(Nat→Nat)→Option Dv}{out:Ty}{Q:out.T→Prop}(k:EvQ A out Q):EvQ (fun φ=>qpQ (A φ) (A φ)) out Q:=by
 have e:(fun φ=>qpQ (A φ) (A φ))=A:=funext fun φ=>if_pos rfl
 rw[e];exact k
theorem qnU{x:Shf}(h:VS x.1 x.2.1 x.2.2.1 x.2.2.2.1):(qeU x).length≤1048576:=by
 have hj:=qex (s:=[59]) (qkS h)
 have hn:=h.num
 have hl3:(qc1 x.1::Go.Lib.itoa x.2.1::qaX x.2.2.1::qcd x.2.2.2.1).length=x.2.2.2.1.length+3:=by simp[qcd]
 rw[hl3,List.length_singleton] at hj
 have:(x.2.2.2.1.length+3)*(1+4321)≤195*4322:=Nat.mul_le_mul (by omega) (by omega)
 unfold qeU
 omega
theorem qoM{x:Shf}(h:VS x.1 x.2.1 x.2.2.1 x.2.2.2.1){k i:Nat}(hk:k<x.1.length)(hi:i<(qaI x.1 k).length) :
  qaV x (k:Int) (i:Int) (mp x.1 x.2.2.2.1 k i)=(x.1,x.2.1,x.2.2.1,x.2.2.2.1,0,()):=by
 obtain⟨hl,hb⟩:=h.map hk hi
 unfold qaV
 rw[if_pos ⟨h,hb.1⟩,Int.toNat_natCast,Int.toNat_natCast,if_pos ⟨⟨by omega,by omega⟩,by omega,by omega⟩,if_pos hb]
 have e:x.2.2.2.1.set (plc x.1 k+i) (mp x.1 x.2.2.2.1 k i)=x.2.2.2.1:=by
  refine List.ext_getElem (by rw[List.length_set]) fun t h1 h2=>?_
  rw[List.getElem_set]
  split
  ·rename_i e
   subst e
   unfold mp
   rw[List.getD_eq_getElem?_getD,List.getElem?_eq_getElem h2];rfl
  ·rfl
 rw[e]
end VeT
open Go Go.Proofs Ve
namespace VeT
theorem qhb{r n:Int}(h:0≤r∧(r<n∨r=0)∧r≤255)(hn:0<n):∃ k:Nat,r=(k:Int)∧(k:Int)<n:=by
 obtain⟨k,hk⟩:=Int.eq_ofNat_of_zero_le h.1
 exact⟨k,hk,by rcases h.2.1 with h | h<;>omega⟩
theorem qmQ{c:List Sim}{k:Nat}(hk:k<c.length):0<(qdX c (c.getD k []) c.length).length :=
 List.length_pos_of_mem (qes.2 ⟨k,rfl,hk,fun _ h=>h⟩)
theorem qo9{c:List Sim}{k i:Nat}(hk:k<c.length)(hi:i<(qdX c (c.getD k []) c.length).length):∃ g:Nat,(qdX c (c.getD k []) c.length)[i]=(g:Int)∧g<c.length∧qeL (c.getD k []) (c.getD g []) :=
 qes.1 (List.getElem_mem hi)
theorem qj7(x y:List Int)(wx:Wf (.sl (.int .u8)) x)(wy:Wf (.sl (.int .u8)) y):Ret E n_Z83 [dB x,dB y] ⟨.cons .bool .nil,(true,())⟩:=by
 refine qqa (qbX ?_)
 simp only[run_Z83,Z83.ev]
 refine qbB (qn5 x y) fun(r:Bool×Unit) _=>qhH (fun _=>qg7 rfl) fun _=>?_
 refine qbB (qmG x wx) fun(r:List Sim×Int×Sim×List Mat×Unit) ⟨hx,h5⟩=>?_
 obtain⟨c,p,st,ms,⟨⟩⟩:=r
 have hv:VS c p st ms:=hx.1
 have hc:VC c:=hv.1
 have hsm:Sm (.st cS) ((c,p,st,ms,()):Shf):=hv.sm
 have hb:=qp8 wy
 have h48:=hc.1
 have ht:=qdg (c,p,st,ms,()) hsm
 rw[qdo,if_pos hx.1] at ht
 have hr:=qf2 (qeU (c,p,st,ms,())) (qnU (x:=(c,p,st,ms,())) hx.1)
 rw[qpN (l:=qeU (c,p,st,ms,())) ⟨hx.1,rfl⟩] at hr
 have hw:=qfd (c,p,st,ms,()) hsm
 have ew:qlQ (c,p,st,ms,())=(0,0,3,()):=by
  unfold qlQ
  rw[if_pos hx.1]
  have:qbV c ms=none:=hx.2
  show(match qbV c ms with | some (k,i,j)=>_ | none=>_)=_
  rw[this]
 rw[ew] at hw
 have hi:=qig (c,p,st,ms,()) hsm
 rw[qay hx] at hi
 have hs:=qfE (c,p,st,ms,()) hsm
 refine qaA ht (qaA hr (qaA hw (qaA hi (qdT rfl (qdT rfl (qaA hs (qdT rfl ?_)))))))
 simp only[Z83.j0_eq _ qag]
 refine qdT rfl ?_
 refine EvQ.start 1 (L:=fun φ N=>Z83.l1 (mkR (run E (φ 0))) (φ 0) N y (c.length:Int) 0 c p st ms) ?_ (fun _ _ _=>rfl)
 refine EvQ.loop 1 (σ:=Nat) (L:=fun φ N k=>Z83.l1 (mkR (run E (φ 0))) (φ 0) N y (c.length:Int) (k:Int) c p st ms) (fun _ _ _ _=>rfl) (fun k=>k≤4) (fun k=>4-k) (fun k hk4 ih=>?_) 0 (Nat.zero_le _)
 simp only[Z83.l1_succ _ qag,Z83.j2_eq _ qag]
 refine qcH (fun h=>?_) fun h=>?_
 ·have hk:k<4:=by omega
  have hsum:=qgU (c,p,st,ms,()) (k:Int) hsm
  have e:qdp (c,p,st,ms,()) (k:Int)=(SD c st (k:Int),0,()):=by
   unfold qdp
   rw[if_pos hx.1,if_pos ⟨by omega,by omega⟩]
  rw[e] at hsum
  have h32:=hv.2.2.1.2.2 k hk
  have h0:0≤SD c st (k:Int):=by obtain⟨n,hn,_⟩:=qsb hv (k:Int);omega
  refine qaA hsum (qdT rfl (qdT (decide_eq_false (by show ¬ SD c st (k:Int)<0;omega)) ?_))
  have e2:decide (((SD c st (k:Int),(0:Int),()):Int×Int×Unit).1>32)=false:=decide_eq_false (by show ¬ SD c st (k:Int)>32;omega)
  rw[e2]
  refine qdT rfl ?_
  rw[qah (by omega)]
  exact ih (k+1) (by omega) (by omega)
 clear ih h hk4 ht hr hw hi
 by_cases h0:c.length=0
 ·exact qoQ (by rw[h0];rfl) (qg7 rfl)
 refine qdT (by rw[beq_eq_false_iff_ne];omega) ?_
 -- three simplices, one in the other
 refine qbB (qg2 y 0 (c.length:Int) hb (by omega)) fun(r:Int×Unit) hr=>?_
 obtain⟨X,eX,hX⟩:=qhb hr (by omega)
 obtain⟨r,⟨⟩⟩:=r
 simp only at eX
 subst eX
 have hXl:X<c.length:=by omega
 refine qaA (qfC c X hc hXl) ?_
 refine qbB (qg2 y 1 ((qdX c (c.getD X []) c.length).length:Int) hb (by omega)) fun(r:Int×Unit) hr=>?_
 obtain⟨i1,e1,hi1⟩:=qhb hr (by have:=qmQ hXl;omega)
 obtain⟨r,⟨⟩⟩:=r
 simp only at e1
 subst e1
 have hi1:i1<(qdX c (c.getD X []) c.length).length:=by omega
 obtain⟨Y,eY,hYl,hXY⟩:=qo9 hXl hi1
 refine qbW (qao hi1) ?_
 rw[eY]
 refine qaA (qfC c Y hc hYl) ?_
 refine qbB (qg2 y 2 ((qdX c (c.getD Y []) c.length).length:Int) hb (by omega)) fun(r:Int×Unit) hr=>?_
 obtain⟨i2,e2,hi2⟩:=qhb hr (by have:=qmQ hYl;omega)
 obtain⟨r,⟨⟩⟩:=r
 simp only at e2
 subst e2
 have hi2:i2<(qdX c (c.getD Y []) c.length).length:=by omega
 obtain⟨Z,eZ,hZl,hYZ⟩:=qo9 hYl hi2
 refine qbW (qao hi2) ?_
 rw[eZ]
 have hXZ:qeL (c.getD X []) (c.getD Z []):=fun v hv=>hYZ v (hXY v hv)
 have r1:=qbe (c,p,st,ms,()) (X:Int) (Y:Int) hsm
 have r2:=qbe (c,p,st,ms,()) (Y:Int) (Z:Int) hsm
 have r3:=qbe (c,p,st,ms,()) (X:Int) (Z:Int) hsm
 rw[qqo (x:=(c,p,st,ms,())) hx.1 hXl hYl hXY] at r1
 rw[qqo (x:=(c,p,st,ms,())) hx.1 hYl hZl hYZ] at r2
 rw[qqo (x:=(c,p,st,ms,())) hx.1 hXl hZl hXZ,qjz hx _ (Nat.le_refl _) hXl hYl hZl hXY hYZ] at r3
 obtain⟨s1,s2,s3,s4⟩:=qcG (x:=(c,p,st,ms,())) hx.1 hXl hYl hXY
 obtain⟨t1,t2,t3,t4⟩:=qcG (x:=(c,p,st,ms,())) hx.1 hYl hZl hYZ
 have hm:=qki (qcK (c,p,st,ms,()) Y Z) (qcK (c,p,st,ms,()) X Y) t1 s1 (by rw[t2,s2]) (by rw[t4,s3])
 have he:=qhr (qcY (qcK (c,p,st,ms,()) Y Z) (qcK (c,p,st,ms,()) X Y)) (qm5 t1 s1)
 refine qaA r1 (qaA r2 (qaA r3 (qaA hm (qdT rfl (qdT rfl (qdT rfl (qdT rfl (qaA he ?_))))))))
 clear r1 r2 r3 hm he
 simp only[Z83.j3_eq _ qag,Z83.j4_eq _ qag]
 -- the map at a face
 refine qdT rfl (qaA (qiK c Y hc hYl) ?_)
 by_cases hf0:(qaI c Y).length=0
 ·exact qoQ (by rw[beq_iff_eq];show((qaI c Y).length:Int)=0;omega) (qg7 rfl)
 refine qdT (by rw[beq_eq_false_iff_ne];show((qaI c Y).length:Int)≠0;omega) ?_
 refine qbB (qg2 y 3 ((qaI c Y).length:Int) hb (by omega)) fun(r:Int×Unit) hr=>?_
 obtain⟨i,ei,hil⟩:=qhb hr (by omega)
 obtain⟨r,⟨⟩⟩:=r
 simp only at ei
 subst ei
 have hil:i<(qaI c Y).length:=by omega
 obtain⟨g1,g2,g3⟩:=qnY (x:=(c,p,st,ms,())) hx (k:=Y) (i:=i) hYl hil
 have eg:(qaI c Y)[i]=((fc c Y i:Nat):Int):=by
  have h:=(qa4 hc hYl hil).1
  rw[qao hil] at h
  exact Option.some.inj h
 refine qbW (qao hil) ?_
 rw[eg]
 have r4:=qbe (c,p,st,ms,()) ((fc c Y i:Nat):Int) (Y:Int) hsm
 rw[qqo (x:=(c,p,st,ms,())) hx.1 g1 hYl g2,g3] at r4
 obtain⟨q1,q2⟩:=hv.map hYl hil
 have r5:=qdR (c,p,st,ms,()) (Y:Int) (i:Int) (mp c ms Y i) hsm (qq7 q2.1)
 rw[qoM (x:=(c,p,st,ms,())) hx.1 hYl hil] at r5
 refine qp7 (qaA r4 (qaA r5 (qoQ rfl (qoQ rfl (qaA hs (qg7 rfl))))))
theorem qq2(z:((.cons (.sl (.int .u8)) (.cons (.sl (.int .u8)) .nil)):Ty).T)(h:Wf (.cons (.sl (.int .u8)) (.cons (.sl (.int .u8)) .nil)) z) :
  Evt fun n=>run E n n_Z83 (qbv _ z)=some ⟨.cons .bool .nil,(true,())⟩:=qj7 z.1 z.2.1 h.1 h.2.1
end VeT
