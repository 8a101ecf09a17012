import Derived.Test.YtagdejckmpipbaaGreatT6
import Derived.Test.YtagdejckmpipbaaGreatT5
set_option linter.unusedVariables false
set_option linter.unusedSimpArgs false
open Go Go.Proofs Ve
namespace VeT
open Classical in
noncomputable def cnt(f:Nat→Prop):Nat→Nat
 | 0=>0
 | n+1=>cnt f n+if f n then 1 else 0
theorem qjr{f g:Nat→Prop}:∀ {n:Nat},(∀ c,c<n→f c→g c)→cnt f n≤cnt g n
 | 0,_=>Nat.le_refl _
 | n+1,h=>by
  have:=qjr (n:=n) fun c hc=>h c (by omega)
  unfold cnt
  by_cases hf:f n
  ·rw[if_pos hf,if_pos (h n (by omega) hf)];omega
  ·rw[if_neg hf];omega
theorem qc8{f g:Nat→Prop}{n:Nat}(h:∀ c,c<n→(f c↔g c)):cnt f n=cnt g n :=
 Nat.le_antisymm (qjr fun c hc=>(h c hc).1) (qjr fun c hc=>(h c hc).2)
theorem qjy{f:Nat→Prop}:∀ {n:Nat},(∀ c,c<n→¬ f c)→cnt f n=0
 | 0,_=>rfl
 | n+1,h=>by
  unfold cnt
  rw[qjy fun c hc=>h c (by omega),if_neg (h n (by omega))]
theorem qlb{f:Nat→Prop}{k:Nat}:∀ {n:Nat},k<n→¬ f k→cnt (fun c=>f c∨c=k) n=cnt f n+1
 | 0,h,_=>by omega
 | n+1,h,hk=>by
  unfold cnt
  by_cases e:k=n
  ·subst e
   have:cnt (fun c=>f c∨c=k) k=cnt f k:=qc8 fun c hc=>⟨fun h=>h.elim id fun e=>by omega,.inl⟩
   rw[this,if_pos (.inr rfl),if_neg hk]
  ·rw[qlb (by omega) hk]
   by_cases hf:f n
   ·rw[if_pos (.inl hf),if_pos hf]
   ·rw[if_neg (fun h=>h.elim hf fun e'=>e e'.symm),if_neg hf]
theorem qgE{W:Nat}:∀ {l:List Nat},l.Nodup→(∀ c∈l,c<W)→cnt (fun c=>c∈l) W=l.length
 | [],_,_=>qjy fun c _ h=>by cases h
 | a::l,hn,hl=>by
  obtain⟨h1,h2⟩:=List.nodup_cons.1 hn
  have e:=qgE h2 fun c hc=>hl c (List.mem_cons_of_mem _ hc)
  rw[List.length_cons,← e,← qlb (hl a List.mem_cons_self) h1]
  exact qc8 fun c _=>by rw[List.mem_cons];exact Or.comm
def Ld(p:Int)(W:Nat)(V:(Nat→Int)→Prop)(c:Nat):Prop:=c<W∧∃ x,V x∧(∀ j,j<c→x j%p=0)∧x c%p≠0
noncomputable def rkV(p:Int)(W:Nat)(V:(Nat→Int)→Prop):Nat:=cnt (Ld p W V) W
theorem Ld.mono{p:Int}{W:Nat}{V V':(Nat→Int)→Prop}(h:∀ x,V x→V' x){c:Nat}:Ld p W V c→Ld p W V' c:=fun⟨h1,x,hx,h2⟩=>⟨h1,x,h x hx,h2⟩
theorem qj3{p:Int}{W:Nat}{V V':(Nat→Int)→Prop}(h:∀ x,V x↔V' x):rkV p W V=rkV p W V':=qc8 fun c _=>⟨Ld.mono fun x=>(h x).1,Ld.mono fun x=>(h x).2⟩
theorem qiU{p:Int}{c g:Nat→Int}:∀ {n:Nat},(∀ i,i<n→c i*g i%p=0)→qaT c g n%p=0
 | 0,_=>by simp[qaT]
 | n+1,h=>by
  rw[show qaT c g (n+1)=qaT c g n+c n*g n from rfl,Int.add_emod,qiU fun i hi=>h i (by omega),h n (by omega)];simp
theorem Rf.nodup{R W:Nat}{F:Ent}{pv:List Nat}(h:Rf R W F pv):pv.Nodup∧∀ c∈pv,c<W:=by
 have hg:∀ i (hi:i<pv.length),pv.getD i 0=pv[i]:=fun i hi=>by rw[List.getD_eq_getElem?_getD,List.getElem?_eq_getElem hi];rfl
 constructor
 ·refine List.pairwise_iff_getElem.2 fun i j hi hj hij=>?_
  have:=h.mono i j hij hj
  rw[hg i hi,hg j hj] at this
  omega
 ·intro c hc
  obtain⟨i,hi,rfl⟩:=List.mem_iff_getElem.1 hc
  have:=h.lt i hi
  rwa [hg i hi] at this
theorem Rf.mem{R W:Nat}{F:Ent}{pv:List Nat}(h:Rf R W F pv){c:Nat}:c∈pv↔∃ i,i<pv.length∧pv.getD i 0=c:=by
 rw[List.mem_iff_getElem]
 constructor
 ·rintro⟨i,hi,rfl⟩;exact⟨i,hi,by rw[List.getD_eq_getElem?_getD,List.getElem?_eq_getElem hi];rfl⟩
 ·rintro⟨i,hi,rfl⟩;exact⟨i,hi,by rw[List.getD_eq_getElem?_getD,List.getElem?_eq_getElem hi];rfl⟩
theorem Rf.coef{p:Int}{R W:Nat}{F:Ent}{pv:List Nat}(h:Rf R W F pv){v:Nat→Int}(hv:Spn p R W F v){j:Nat}(hj:j<W) :
  v j%p=qaT (fun k=>v (pv.getD k 0)) (fun k=>F k j) pv.length%p:=by
 obtain⟨c,hc⟩:=hv
 have h0:∀ j,j<W→qaT c (fun i=>F i j) R=qaT c (fun i=>F i j) pv.length:=fun j hj=>qkW h.len fun i h1 h2=>h.bot i j h1 h2 hj
 have hk:∀ k,k<pv.length→v (pv.getD k 0)%p=c k%p:=fun k hk=>by
  rw[← hc _ (h.lt k hk),h0 _ (h.lt k hk),qbt]
  congr 1
  rw[← qdd (g:=c) hk]
  exact qaS fun i hi=>⟨h.one i k (Nat.lt_of_lt_of_le hi h.len) hk,rfl⟩
 rw[← hc j hj,h0 j hj,qbt,qbt (c:=fun k=>v (pv.getD k 0))]
 exact qed fun i hi=>(hk i hi).symm
theorem Rf.low0{p:Int}{R W:Nat}{F:Ent}{pv:List Nat}(h:Rf R W F pv){v:Nat→Int}(hv:Spn p R W F v){d:Nat}(hd:d<W)(hn:d∉pv)(h0:∀ k,k<pv.length→pv.getD k 0<d→v (pv.getD k 0)%p=0):∀ j,j≤d→v j%p=0:=by
 intro j hj
 rw[h.coef hv (by omega)]
 refine qiU fun k hk=>?_
 rcases Nat.lt_trichotomy (pv.getD k 0) d with e | e | e
 ·rw[Int.mul_emod,h0 k hk e];simp
 ·exact absurd (h.mem.2 ⟨k,hk,e⟩) hn
 ·rw[h.low k j hk (by omega)];simp
theorem qql{p:Int}{R W:Nat}{F:Ent}{pv:List Nat}(hp:2≤p)(h:Rf R W F pv){c:Nat}:Ld p W (Spn p R W F) c↔c∈pv:=by
 constructor
 ·rintro⟨hc,x,hx,h1,h2⟩
  refine Classical.byContradiction fun hn=>h2 ?_
  exact h.low0 hx hc hn (fun k hk e=>h1 _ e) c (Nat.le_refl _)
 ·intro hm
  obtain⟨i,hi,rfl⟩:=h.mem.1 hm
  have hiR:=Nat.lt_of_lt_of_le hi h.len
  refine⟨h.lt i hi,F i,Spn.row hiR,fun j hj=>by rw[h.low i j hi hj];simp,?_⟩
  rw[h.one i i hiR hi,if_pos rfl,Int.emod_eq_of_lt (by omega) (by omega)]
  omega
theorem qp6{p:Int}{R W:Nat}{F:Ent}{pv:List Nat}(hp:2≤p)(h:Rf R W F pv):rkV p W (Spn p R W F)=pv.length:=by
 rw[← qgE h.nodup.1 h.nodup.2]
 exact qc8 fun c _=>qql hp h
noncomputable def rk(p:Int)(W:Nat)(rows:List Sim):Nat:=rkV p W (Spn p rows.length W (qdy rows))
theorem Eqv.spn{p:Int}{R W:Nat}{A B:Ent}(h:Eqv p R W A B){x:Nat→Int}:Spn p R W A x↔Spn p R W B x:=⟨fun hx=>Spn.trans h.2 hx,fun hx=>Spn.trans h.1 hx⟩
theorem qoZ{p:Int}{R W:Nat}{A:Ent}(hp:Pr p)(hA:EIn p R W A):(elS p R A W).2.length=rkV p W (Spn p R W A):=by
 obtain⟨h1,h2⟩:=qiF hp hA W (Nat.le_refl _)
 rw[← qp6 hp.1 h1]
 exact qj3 fun x=>h2.spn.symm
theorem InR.spn{p:Int}{W:Nat}{A B:List Sim}(h:∀ r∈A,InR p W B r){x:Nat→Int}(hx:Spn p A.length W (qdy A) x):Spn p B.length W (qdy B) x :=
 Spn.trans (fun i hi=>by
  have e:qdy A i=fun j=>(A[i]).getD j 0:=by funext j;unfold qdy;rw[qaf hi]
  rw[e];exact h _ (List.getElem_mem hi)) hx
theorem qqH{p:Int}{W:Nat}{A:List Sim}(hp:Pr p)(hA:Rws p W A):rk p W A≤A.length:=by
 have:=qoZ hp (qi8 hA)
 have h2:=(qhB hp.1 (qi8 hA) W).2.1
 unfold rk;omega
theorem qoH{rows:List Sim}{x:Sim}{i:Nat}(hi:i<rows.length):qdy (rows++[x]) i=qdy rows i:=by
 have:(rows++[x]).getD i []=rows.getD i []:=by rw[List.getD_eq_getElem?_getD,List.getElem?_append_left hi,← List.getD_eq_getElem?_getD]
 funext j
 unfold qdy
 rw[this]
theorem qnO{rows:List Sim}{x:Sim}:qdy (rows++[x]) rows.length=fun j=>x.getD j 0:=by
 have:(rows++[x]).getD rows.length []=x:=by rw[List.getD_eq_getElem?_getD,List.getElem?_append_right (Nat.le_refl _),Nat.sub_self];rfl
 funext j
 unfold qdy
 rw[this]
theorem Spn.app{p:Int}{W:Nat}{rows:List Sim}{x:Sim}{z:Nat→Int}(h:Spn p (rows++[x]).length W (qdy (rows++[x])) z) :
  ∃(a:Int) (v:Nat→Int),Spn p rows.length W (qdy rows) v∧∀ j,j<W→z j%p=(v j+a*x.getD j 0)%p:=by
 obtain⟨c,hc⟩:=h
 refine⟨c rows.length,fun j=>qaT c (fun i=>qdy rows i j) rows.length,⟨c,fun j _=>rfl⟩,fun j hj=>?_⟩
 rw[← hc j hj,List.length_append,List.length_singleton]
 show(qaT c _ rows.length+c rows.length*qdy (rows++[x]) rows.length j)%p=_
 rw[qnO,qaS (d:=c) (h:=fun i=>qdy rows i j) fun i hi=>⟨rfl,by rw[qoH hi]⟩]
theorem qqC{f:Nat→Prop}{n:Nat}(h:∃ j,j<n∧f j):∃ c,c<n∧f c∧∀ j,j<c→¬ f j:=by
 induction n with
 | zero=>obtain⟨j,hj,_⟩:=h;omega
 | succ n ih =>
  by_cases h2:∃ j,j<n∧f j
  ·obtain⟨c,h3,h4⟩:=ih h2;exact⟨c,by omega,h4⟩
  ·obtain⟨j,hj,hf⟩:=h
   have:j=n:=Classical.byContradiction fun e=>h2 ⟨j,by omega,hf⟩
   subst this
   exact⟨j,by omega,hf,fun k hk hf'=>h2 ⟨k,hk,hf'⟩⟩
theorem qqi{p a b:Int}(hp:Pr p)(ha:a%p≠0)(hb:b%p≠0):a*b%p≠0:=by
 intro h
 have hp2:2≤p:=hp.1
 have a1:=Int.emod_nonneg a (show p≠0 by omega)
 have a2:=Int.emod_lt_of_pos a (show 0<p by omega)
 have hi:=qlr hp (a:=a%p) (by omega) (by omega)
 apply hb
 have e:b%p=(a%p*qgv (a%p) p)%p*b%p:=by rw[hi,Int.one_mul]
 generalize qgv (a%p) p=q at e
 have h1:a%p*q%p*b%p=a*q*b%p:=qcu ((Int.emod_emod_of_dvd _ (Int.dvd_refl p)).trans (qcu (Int.emod_emod_of_dvd _ (Int.dvd_refl p)) rfl)) rfl
 rw[e,h1,show a*q*b=q*(a*b) by rw[Int.mul_comm a q,Int.mul_assoc],qcu (p:=p) (x:=q) (x':=q) rfl (h.trans (Int.zero_emod p).symm)]
 simp
theorem qp7{p:Int}{W:Nat}{rows:List Sim}{x:Sim}(hp:Pr p)(hr:Rws p W rows)(hx:¬ InR p W rows x):rk p W (rows++[x])=rk p W rows+1:=by
 have hp2:2≤p:=hp.1
 obtain⟨hrf,heq⟩:=qiF hp (qi8 hr) W (Nat.le_refl _)
 have hrk:=qoZ hp (qi8 hr)
 generalize elS p rows.length (qdy rows) W=S at hrf heq hrk
 obtain⟨F,pv⟩:=S
 simp only at hrf heq hrk
 -- what is left of x
 let s:Nat→Int:=fun j=>qaT (fun k=>-(x.getD (pv.getD k 0) 0)) (fun k=>F k j) pv.length
 let y:Nat→Int:=fun j=>x.getD j 0+s j
 have hs:Spn p rows.length W (qdy rows) s:=Spn.sum (B:=F) fun i hi=>heq.1 i (Nat.lt_of_lt_of_le hi hrf.len)
 have hyp:∀ k,k<pv.length→y (pv.getD k 0)=0:=fun k hk=>by
  show x.getD (pv.getD k 0) 0+s (pv.getD k 0)=0
  have:s (pv.getD k 0)=-(x.getD (pv.getD k 0) 0):=by
   show qaT _ _ _=_
   rw[qbt,← qdd (g:=fun k=>-(x.getD (pv.getD k 0) 0)) hk]
   exact qaS fun i hi=>⟨hrf.one i k (Nat.lt_of_lt_of_le hi hrf.len) hk,rfl⟩
  omega
 have hne:∃ j,j<W∧y j%p≠0:=Classical.byContradiction fun hn=>hx <| by
  refine(hs.smul (-1)).congr fun j hj=>?_
  have hy0:y j%p=0:=Classical.byContradiction fun h=>hn ⟨j,hj,h⟩
  have:x.getD j 0=-1*s j+y j:=by show _=_+(_+_);omega
  rw[this,Int.add_emod,hy0,Int.add_zero,Int.emod_emod_of_dvd _ (Int.dvd_refl p)]
 obtain⟨c,hc,hyc,hcl⟩:=qqC hne
 have hcl:∀ j,j<c→y j%p=0:=fun j hj=>Classical.byContradiction (hcl j hj)
 have hcn:c∉pv:=fun hm=>by
  obtain⟨k,hk,rfl⟩:=hrf.mem.1 hm
  exact hyc (by rw[hyp k hk];simp)
 have hxs:Spn p (rows++[x]).length W (qdy (rows++[x])) (fun j=>x.getD j 0):=InR.mem (List.mem_append.2 (.inr (List.mem_singleton.2 rfl)))
 have hup:∀ z,Spn p rows.length W (qdy rows) z→Spn p (rows++[x]).length W (qdy (rows++[x])) z:=fun z hz=>InR.spn (fun r hr=>InR.mem (List.mem_append.2 (.inl hr))) hz
 have hmain:∀ d,d<W→(Ld p W (Spn p (rows++[x]).length W (qdy (rows++[x]))) d↔d∈pv∨d=c):=fun d hd=>by
  constructor
  ·rintro⟨_,z,hz,z1,z2⟩
   refine Classical.byContradiction fun hn=>?_
   have hdn:d∉pv:=fun h=>hn (.inl h)
   have hdc:d≠c:=fun h=>hn (.inr h)
   obtain⟨a,v0,hv0,hzv⟩:=Spn.app hz
   -- z = v + a y
   let v:Nat→Int:=fun j=>v0 j+(-a)*s j
   have hv:Spn p rows.length W F v:=heq.spn.1 (hv0.add (hs.smul (-a)))
   have hzy:∀ j,j<W→z j%p=(v j+a*y j)%p:=fun j hj=>by
    rw[hzv j hj]
    congr 1
    show _=v0 j+-a*s j+a*(x.getD j 0+s j)
    rw[Int.mul_add,Int.neg_mul];omega
   have hv0':∀ k,k<pv.length→pv.getD k 0<d→v (pv.getD k 0)%p=0:=fun k hk hkd=>by
    have:=hzy _ (hrf.lt k hk)
    rw[hyp k hk,Int.mul_zero,Int.add_zero,z1 _ hkd] at this
    exact this.symm
   have hvl:=hrf.low0 hv hd hdn hv0'
   have hza:∀ j,j≤d→z j%p=a*y j%p:=fun j hj=>by
    rw[hzy j (by omega),Int.add_emod,hvl j hj,Int.zero_add,Int.emod_emod_of_dvd _ (Int.dvd_refl p)]
   have hyd:y d%p≠0:=fun h=>z2 (by rw[hza d (Nat.le_refl _),Int.mul_emod,h];simp)
   have ha:a%p≠0:=fun h=>z2 (by rw[hza d (Nat.le_refl _),Int.mul_emod,h];simp)
   have hcd:c<d:=by
    rcases Nat.lt_trichotomy c d with h | h | h
    ·exact h
    ·exact absurd h.symm hdc
    ·exact absurd (hcl d h) hyd
   have:=z1 c hcd
   rw[hza c (by omega)] at this
   exact qqi hp ha hyc this
  ·rintro(hm | rfl)
   ·obtain⟨h1,z,hz,h2⟩:=(qql hp2 hrf).2 hm
    exact⟨h1,z,hup z (heq.spn.2 hz),h2⟩
   ·exact⟨hd,y,hxs.add (hup s hs),hcl,hyc⟩
 unfold rk rkV
 rw[qc8 hmain,qlb hc hcn,qgE hrf.nodup.1 hrf.nodup.2,hrk]
 rfl
end VeT
open Go Go.Proofs Ve
namespace VeT
def Inc(m n:Nat)(x:Sim):Prop:=x.length=m∧(∀ i j,i<j→j<m→x.getD i 0<x.getD j 0)∧∀ i,i<m→0≤x.getD i 0∧x.getD i 0<(n:Int)
def qoM(m:Nat)(x y:Sim):Prop:=∃ d,d<m∧(∀ j,j<d→x.getD j 0=y.getD j 0)∧x.getD d 0<y.getD d 0
theorem ql7{m:Nat}{x y:Sim}(h1:qoM m x y)(h2:qoM m y x):False:=by
 obtain⟨d,_,a1,a2⟩:=h1
 obtain⟨e,_,b1,b2⟩:=h2
 rcases Nat.lt_trichotomy d e with h | h | h
 ·have:=b1 d h;omega
 ·subst h;omega
 ·have:=a1 e h;omega
theorem Inc.top{m n:Nat}{y:Sim}(h:Inc m n y){i:Nat}(hi:i<m):y.getD i 0≤(n:Int)-(m:Int)+(i:Int):=by
 have key:∀ d,i+d<m→y.getD i 0+(d:Int)≤y.getD (i+d) 0:=by
  intro d
  induction d with
  | zero=>intro _;simp
  | succ d ih =>
   intro hd
   have h1:=ih (by omega)
   have h2:=h.2.1 (i+d) (i+(d+1)) (by omega) hd
   omega
 have h1:=key (m-1-i) (by omega)
 have h2:=(h.2.2 (i+(m-1-i)) (by omega)).2
 omega
theorem Inc.step{m n:Nat}{y:Sim}(h:Inc m n y){i d:Nat}(hd:i+d<m):y.getD i 0+(d:Int)≤y.getD (i+d) 0:=by
 induction d with
 | zero=>simp
 | succ d ih =>
  have h1:=ih (by omega)
  have h2:=h.2.1 (i+d) (i+(d+1)) (by omega) hd
  omega
def nxt(x:Sim)(i:Nat):Sim:=(List.range x.length).map fun j=>if j<i then x.getD j 0 else x.getD i 0+1+(j:Int)-(i:Int)
theorem qdv{x:Sim}{i j:Nat}(hj:j<x.length):(nxt x i).getD j 0=if j<i then x.getD j 0 else x.getD i 0+1+(j:Int)-(i:Int):=by
 unfold nxt
 rw[qaf (by simpa using hj)];simp
theorem qpJ{m n:Nat}{x:Sim}(h:Inc m n x){i:Nat}(hi:i<m)(hx:x.getD i 0<(n:Int)-(m:Int)+(i:Int)):Inc m n (nxt x i):=by
 have hl:=h.1
 refine⟨by simp[nxt,hl],fun a b hab hb=>?_,fun j hj=>?_⟩
 ·rw[qdv (by omega),qdv (by omega)]
  by_cases h1:b<i
  ·rw[if_pos h1,if_pos (by omega)];exact h.2.1 a b hab hb
  ·rw[if_neg h1]
   by_cases h2:a<i
   ·rw[if_pos h2]
    have:=h.2.1 a i h2 hi
    omega
   ·rw[if_neg h2];omega
 ·rw[qdv (by omega)]
  split
  ·exact h.2.2 j hj
  ·have:=(h.2.2 i hi).1
   omega
theorem qnu{m n:Nat}{x y:Sim}(h:Inc m n x)(hy:Inc m n y){i:Nat}(hi:i<m)(hm:∀ j,i<j→j<m→¬ x.getD j 0<(n:Int)-(m:Int)+(j:Int))(hxy:qoM m x y):¬ qoM m y (nxt x i):=by
 obtain⟨d,hd,h1,h2⟩:=hxy
 have hl:=h.1
 have hdi:d≤i:=by
  refine Classical.byContradiction fun hn=>hm d (by omega) hd ?_
  have:=hy.top hd
  omega
 rintro⟨e,he,g1,g2⟩
 rcases Nat.lt_or_ge d i with hlt | hge
 ·have hn:(nxt x i).getD d 0=x.getD d 0:=by rw[qdv (by omega),if_pos hlt]
  rcases Nat.lt_trichotomy d e with hde | hde | hde
  ·have:=g1 d hde;omega
  ·subst hde;omega
  ·have h3:(nxt x i).getD e 0=x.getD e 0:=by rw[qdv (by omega),if_pos (by omega)]
   have:=h1 e hde;omega
 ·obtain rfl:d=i:=by omega
  rcases Nat.lt_or_ge e d with hlt | hge2
  ·have h3:(nxt x d).getD e 0=x.getD e 0:=by rw[qdv (by omega),if_pos hlt]
   have:=h1 e hlt;omega
  ·have h3:(nxt x d).getD e 0=x.getD d 0+1+(e:Int)-(d:Int):=by rw[qdv (by omega),if_neg (by omega)]
   have h4:=hy.step (i:=d) (d:=e-d) (by omega)
   rw[show d+(e-d)=e by omega] at h4
   omega
theorem qoV{m n:Nat}{x y:Sim}(h:Inc m n x)(hy:Inc m n y)(hm:∀ j,j<m→¬ x.getD j 0<(n:Int)-(m:Int)+(j:Int)):¬ qoM m x y:=by
 rintro⟨d,hd,h1,h2⟩
 have:=hy.top hd
 exact hm d hd (by omega)
def Bad(B:Sim→Prop)(m n:Nat)(x:Sim):Prop:=∀ y,Inc m n y→qoM m y x→B y
def qjE(m:Nat):Sim:=(List.range m).map fun(j:Nat)=>(j:Int)
theorem qjf{m j:Nat}(hj:j<m):(qjE m).getD j 0=(j:Int):=by
 unfold qjE
 rw[qaf (by simpa using hj)];simp
theorem qlC{m n:Nat}(h:m≤n):Inc m n (qjE m):=⟨by simp[qjE],fun i j hij hj=>by rw[qjf (by omega),qjf hj];omega,fun i hi=>by rw[qjf hi];omega⟩
theorem qpr{B:Sim→Prop}{m n:Nat}:Bad B m n (qjE m):=by
 rintro y hy ⟨d,hd,h1,h2⟩
 rw[qjf hd] at h2
 have h3:=hy.step (i:=0) (d:=d) (by omega)
 have h4:=(hy.2.2 0 (by omega)).1
 rw[Nat.zero_add] at h3
 omega
theorem Inc.pairwise{m n:Nat}{x:Sim}(h:Inc m n x):x.Pairwise (·<·):=by
 rw[List.pairwise_iff_getElem]
 intro i j hi hj hij
 have:=h.2.1 i j hij (by have:=h.1;omega)
 rwa [qaf hi,qaf hj] at this
end VeT
open Go Go.Proofs Ve
namespace VeT
theorem qhp(m:Nat)(hm:m≤1000):Ret E n_Z40 [dI (m:Int)] ⟨o_Z40,(qjE m,())⟩:=by
 refine qal ?_
 simp only[run_Z40,Z40.ev]
 refine Ev.start (p:=fun φ n=>Z40.l0 (mkR (run E (φ 0))) (φ 0) n (m:Int) 0 []=_) 1 ?_ (fun _ _ _ h=>h)
 refine qap 1 (L:=fun φ n k o=>Z40.l0 (mkR (run E (φ 0))) (φ 0) n (m:Int) k o) (len:=m) (fun k=>qjE k) (fun _ _ _ _ _=>rfl) (fun k r hk ih=>?_) ?_
 ·simp only[Z40.l0_succ _ qae]
  have e:qjE (k+1)=qjE k++[(k:Int)]:=by unfold qjE;rw[List.range_succ,List.map_append];rfl
  rw[e] at ih
  have hl:(qjE k).length=k:=by simp[qjE]
  refine qax (decide_eq_true (by omega)) (qaq (decide_eq_true (by simp only[hl,List.length_singleton];omega)) ?_)
  rw[qad (by omega)]
  exact ih
 ·simp only[Z40.l0_succ _ qae]
  exact qaA (decide_eq_false (by omega)) qam
theorem qei{m n:Nat}{x:Sim}(h:Inc m n x)(hn:n≤48)(hmn:m≤n) :
    (∃ i,i<m∧x.getD i 0<(n:Int)-(m:Int)+(i:Int)∧(∀ j,i<j→j<m→¬ x.getD j 0<(n:Int)-(m:Int)+(j:Int))∧Ret E n_Z55 [dL x,dI (n:Int)] ⟨o_Z55,(nxt x i,true,())⟩) ∨
    ((∀ j,j<m→¬ x.getD j 0<(n:Int)-(m:Int)+(j:Int))∧Ret E n_Z55 [dL x,dI (n:Int)] ⟨o_Z55,([],false,())⟩):=by
  have hl:=h.1
  have key:∀ d,d≤m→(∀ j,d≤j→j<m→¬ x.getD j 0<(n:Int)-(m:Int)+(j:Int)) →
      (∃ i,i<m∧x.getD i 0<(n:Int)-(m:Int)+(i:Int)∧(∀ j,i<j→j<m→¬ x.getD j 0<(n:Int)-(m:Int)+(j:Int))∧Ev fun φ=>Z55.l0 (mkR (run E (φ 0))) (φ 0) (φ 1) x (n:Int) (m:Int) ((d:Int)-1)=some ⟨o_Z55,(nxt x i,true,())⟩) ∨
      ((∀ j,j<m→¬ x.getD j 0<(n:Int)-(m:Int)+(j:Int))∧Ev fun φ=>Z55.l0 (mkR (run E (φ 0))) (φ 0) (φ 1) x (n:Int) (m:Int) ((d:Int)-1)=some ⟨o_Z55,([],false,())⟩):=by
    intro d
    induction d with
    | zero =>
      intro _ hd
      refine .inr ⟨fun j hj=>hd j (Nat.zero_le _) hj,?_⟩
      refine Ev.round 1 (L:=fun φ q=>Z55.l0 (mkR (run E (φ 0))) (φ 0) q x (n:Int) (m:Int) (((0:Nat):Int)-1)) ?_ (fun _ _ _=>rfl)
      simp only[Z55.l0_succ _ qae]
      exact qaA (decide_eq_false (by omega)) qam
    | succ d ih =>
      intro hdm hd
      have hlt:d<x.length:=by omega
      have ei:(((d+1:Nat):Int)-1)=(d:Int):=by omega
      have ew:w64 (w64 ((n:Int)-(m:Int))+(d:Int))=(n:Int)-(m:Int)+(d:Int):=by
        rw[qah (n:=(n:Int)-(m:Int)) (by omega) (by omega),qah (by omega) (by omega)]
      rw[ei]
      by_cases hx:x.getD d 0<(n:Int)-(m:Int)+(d:Int)
      · refine .inl ⟨d,by omega,hx,fun j h1 h2=>hd j (by omega) h2,?_⟩
        refine Ev.round 1 (L:=fun φ q=>Z55.l0 (mkR (run E (φ 0))) (φ 0) q x (n:Int) (m:Int) (d:Int)) ?_ (fun _ _ _=>rfl)
        simp only[Z55.l0_succ _ qae]
        have hxd:=h.2.2 d (by omega)
        refine qax (decide_eq_true (by omega)) (qac (qak hlt) (qax (decide_eq_true (by rw[ew];rw[qaf hlt] at hx;exact hx)) (qaa (qhm x (by omega)) ?_)))
        let st:Nat→Sim:=fun k=>(List.range x.length).map fun j=>if d≤j∧j<d+k then x.getD d 0+1+(j:Int)-(d:Int) else x.getD j 0
        have st0:st 0=x:=by
          refine List.ext_getElem (by simp[st]) fun i g1 g2=>?_
          simp only[st,List.getElem_map,List.getElem_range]
          rw[if_neg (by omega),qaf g2]
        have stl:∀ k,(st k).length=x.length:=fun k=>by simp[st]
        have stn:st (m-d)=nxt x d:=by
          refine List.ext_getElem (by simp[st,nxt]) fun i g1 g2=>?_
          have:i<x.length:=by rw[stl] at g1;exact g1
          simp only[st,nxt,List.getElem_map,List.getElem_range]
          by_cases hi:i<d
          · rw[if_neg (by omega),if_pos hi]
          · rw[if_pos (by omega),if_neg hi]
        have sts:∀ k,d+k<m→(st k).set (d+k) (x.getD d 0+1+((d+k:Nat):Int)-(d:Int))=st (k+1):=fun k hk=>by
          refine List.ext_getElem (by simp[st]) fun i g1 g2=>?_
          rw[List.getElem_set]
          simp only[st,List.getElem_map,List.getElem_range]
          by_cases e:d+k=i
          · subst e
            rw[if_pos rfl,if_pos (by omega)]
          · rw[if_neg e]
            by_cases h3:d≤i∧i<d+k
            · rw[if_pos h3,if_pos (by omega)]
            · rw[if_neg h3,if_neg (by omega)]
        have hlp:=Ev.start (p:=fun φ q=>Z55.l1 (mkR (run E (φ 0))) (φ 0) (φ 1) q x (m:Int) (d:Int) ((d:Int)+((0:Nat):Int)) (st 0)=some ⟨o_Z55,(nxt x d,true,())⟩) 2 (by
          refine qap 2 (L:=fun φ q k o=>Z55.l1 (mkR (run E (φ 0))) (φ 0) (φ 1) q x (m:Int) (d:Int) ((d:Int)+k) o) (len:=m-d) st (fun _ _ _ _ _=>rfl) (fun k r hk ihk=>?_) ?_
          · simp only[Z55.l1_succ _ qae]
            refine qax (decide_eq_true (by omega)) (qac (qak hlt) (qaq (by simp only[Bool.and_eq_true,decide_eq_true_eq,stl];omega) ?_))
            have e1:w64 ((d:Int)+(k:Int)+1)=(d:Int)+((k+1:Nat):Int):=by rw[qah (by omega) (by omega)];omega
            have e2:w64 (w64 (w64 (x[d]+1)+((d:Int)+(k:Int)))-(d:Int))=x.getD d 0+1+((d+k:Nat):Int)-(d:Int):=by
              rw[qaf hlt] at hxd ⊢
              rw[qah (n:=x[d]+1) (by omega) (by omega),qah (n:=x[d]+1+((d:Int)+(k:Int))) (by omega) (by omega),qah (by omega) (by omega)]
              omega
            have e3:((d:Int)+(k:Int)).toNat=d+k:=by omega
            show Ev fun φ=>Z55.l1 (mkR (run E (φ 0))) (φ 0) (φ 1) (φ 2) x (m:Int) (d:Int) (w64 ((d:Int)+(k:Int)+1)) ((st k).set ((d:Int)+(k:Int)).toNat (w64 (w64 (w64 (x[d]+1)+((d:Int)+(k:Int)))-(d:Int))))=r
            rw[e1,e2,e3,sts k (by omega)]
            exact ihk
          · simp only[Z55.l1_succ _ qae]
            rw[stn]
            exact qaA (decide_eq_false (by omega)) qam) (fun _ _ _ h=>h)
        rw[st0,show(d:Int)+((0:Nat):Int)=(d:Int) by omega] at hlp
        exact hlp
      · have step:∀ r,(Ev fun φ=>Z55.l0 (mkR (run E (φ 0))) (φ 0) (φ 1) x (n:Int) (m:Int) ((d:Int)-1)=r)→Ev fun φ=>Z55.l0 (mkR (run E (φ 0))) (φ 0) (φ 1) x (n:Int) (m:Int) (d:Int)=r:=fun r hr=>by
          refine Ev.round 1 (L:=fun φ q=>Z55.l0 (mkR (run E (φ 0))) (φ 0) q x (n:Int) (m:Int) (d:Int)) ?_ (fun _ _ _=>rfl)
          simp only[Z55.l0_succ _ qae]
          refine qax (decide_eq_true (by omega)) (qac (qak hlt) (qaA (decide_eq_false (by rw[ew];rw[qaf hlt] at hx;exact hx)) ?_))
          rw[qah (n:=(d:Int)-1) (by omega) (by omega)]
          exact hr
        rcases ih (by omega) (fun j h1 h2=>by
          by_cases e:j=d
          · subst e;exact hx
          · exact hd j (by omega) h2) with ⟨i,a1,a2,a3,a4⟩ | ⟨a1,a2⟩
        · exact .inl ⟨i,a1,a2,a3,step _ a4⟩
        · exact .inr ⟨a1,step _ a2⟩
  have fin:∀ r,(Ev fun φ=>Z55.l0 (mkR (run E (φ 0))) (φ 0) (φ 1) x (n:Int) (m:Int) ((m:Int)-1)=some r)→Ret E n_Z55 [dL x,dI (n:Int)] r:=fun r hr=>by
    refine qal ?_
    simp only[run_Z55,Z55.ev]
    refine qaa (qcX x) ?_
    rw[hl,qah (n:=(m:Int)-1) (by omega) (by omega)]
    exact Ev.start (p:=fun φ q=>Z55.l0 (mkR (run E (φ 0))) (φ 0) q x (n:Int) (m:Int) ((m:Int)-1)=_) 1 hr (fun _ _ _ h=>h)
  rcases key m (Nat.le_refl _) (fun j h1 h2=>by omega) with ⟨i,a1,a2,a3,a4⟩ | ⟨a1,a2⟩
  · exact .inl ⟨i,a1,a2,a3,fin _ a4⟩
  · exact .inr ⟨a1,fin _ a2⟩
theorem qmf(k:Int)(b:Bool):Ret E n_Z28 [⟨.ptr (.cons (.int .i64) (.cons .bool .nil)),(k,b,())⟩] ⟨o_Z28,if k=0 then(false,(k,true,()),()) else(true,(w64 (k-1),b,()),())⟩:=by
 refine qal ?_
 simp only[run_Z28,Z28.ev]
 by_cases h:k=0
 ·rw[if_pos h]
  exact qax (by simp[h]) qam
 ·rw[if_neg h]
  exact qaA (by simpa using h) qam
theorem qj4(k:Int):Ret E n_Z48 [dI k] ⟨o_Z48,(pb (1≤k∧k≤20000),())⟩:=by
 refine qal ?_
 simp only[run_Z48,Z48.ev]
 refine qaa (qck k 1 20000) ?_
 exact qam
theorem qgD{c:List Sim}{m n:Nat}{y:Sim}(h:Inc m n y)(hn:n≤c.length):qmH c y:=⟨qor h.pairwise,fun z hz=>by
 obtain⟨i,hi,rfl⟩:=List.getElem_of_mem hz
 have:=h.2.2 i (by have:=h.1;omega)
 rw[qaf hi] at this
 omega⟩
end VeT
open Go Go.Proofs Ve
namespace VeT
def qlZ(n:Nat):Nat→Nat→Sim→List Sim
 | 0,_,pre=>[pre]
 | j+1,f,pre=>(List.range' f (n-f)).flatMap fun k=>qlZ n j (k+1) (pre++[(k:Int)])
theorem qfq(n f:Nat)(pre:Sim):qlZ n 0 f pre=[pre]:=rfl
theorem qnd{n f:Nat}(h:f<n)(j:Nat)(pre:Sim):qlZ n (j+1) f pre=qlZ n j (f+1) (pre++[(f:Int)])++qlZ n (j+1) (f+1) pre:=by
 show(List.range' f (n-f)).flatMap _=_
 obtain⟨d,hd⟩:∃ d,n-f=d+1:=⟨n-f-1,by omega⟩
 rw[hd,List.range'_succ,List.flatMap_cons]
 congr 1
 show _=(List.range' (f+1) (n-(f+1))).flatMap _
 rw[show n-(f+1)=d by omega]
theorem qoQ{n f:Nat}(h:¬ f<n)(j:Nat)(pre:Sim):qlZ n (j+1) f pre=[]:=by
 show(List.range' f (n-f)).flatMap _=_
 rw[show n-f=0 by omega];rfl
theorem qjv{n:Nat}:∀ {j f:Nat} {pre y:Sim},y∈qlZ n j f pre→∃ t:Sim,y=pre++t∧t.length=j∧(∀ a∈t,(f:Int)≤a∧a<(n:Int))∧t.Pairwise (·<·)
 | 0,f,pre,y,h=>⟨[],by rw[qfq,List.mem_singleton] at h;simp[h],rfl,fun a ha=>by simp at ha,List.Pairwise.nil⟩
 | j+1,f,pre,y,h=>by
  obtain⟨k,hk,hy⟩:=List.mem_flatMap.1 (show y∈(List.range' f (n-f)).flatMap _ from h)
  obtain⟨t,h1,h2,h3,h4⟩:=qjv hy
  have hk1:=List.mem_range'_1.1 hk
  refine⟨(k:Int)::t,by rw[h1,List.append_assoc];rfl,by simp[h2],fun a ha=>?_,List.pairwise_cons.2 ⟨fun a ha=>?_,h4⟩⟩
  ·rcases List.mem_cons.1 ha with rfl | ha
   ·omega
   ·have:=h3 a ha;omega
  ·have:=h3 a ha;omega
theorem qnM{n:Nat}:∀ {j f:Nat} {pre t:Sim},t.length=j→(∀ a∈t,(f:Int)≤a∧a<(n:Int))→t.Pairwise (·<·)→pre++t∈qlZ n j f pre
 | 0,f,pre,t,h,_,_=>by
  rw[List.length_eq_zero_iff.1 h,List.append_nil,qfq];exact List.mem_singleton.2 rfl
 | j+1,f,pre,[],h,_,_=>by simp at h
 | j+1,f,pre,a::t,h,h3,h4=>by
  obtain⟨h5,h6⟩:=List.pairwise_cons.1 h4
  obtain⟨g1,g2⟩:=h3 a List.mem_cons_self
  obtain⟨k,rfl⟩:=Int.eq_ofNat_of_zero_le (show 0≤a by omega)
  refine List.mem_flatMap.2 ⟨k,List.mem_range'_1.2 (by omega),?_⟩
  have:=qnM (n:=n) (j:=j) (f:=k+1) (pre:=pre++[(k:Int)]) (t:=t) (by simpa using h) (fun b hb=>by
   have e1:=h3 b (List.mem_cons_of_mem _ hb)
   have e2:=h5 b hb
   omega) h6
  rwa [List.append_assoc] at this
theorem qiZ{pre t:Sim}{j:Nat}(h:j<pre.length):(pre++t).getD j 0=pre.getD j 0:=by
 rw[List.getD_eq_getElem?_getD,List.getElem?_append_left h,← List.getD_eq_getElem?_getD]
theorem qo8{n:Nat}:∀ {j f:Nat} {pre:Sim},(qlZ n j f pre).Pairwise (qoM (pre.length+j))
  | 0,f,pre=>by rw[qfq];exact List.pairwise_singleton _ _
  | j+1,f,pre=>by
    show((List.range' f (n-f)).flatMap _).Pairwise _
    refine List.pairwise_flatMap.2 ⟨fun k hk=>?_,(List.pairwise_lt_range' (s:=f) (n:=n-f)).imp fun {k1 k2} hlt x hx y hy=>?_⟩
    · have:=qo8 (n:=n) (j:=j) (f:=k+1) (pre:=pre++[(k:Int)])
      rw[List.length_append,List.length_singleton,Nat.add_assoc,Nat.add_comm 1 j] at this
      exact this
    · obtain⟨t1,rfl,_⟩:=qjv hx
      obtain⟨t2,rfl,_⟩:=qjv hy
      refine⟨pre.length,by omega,fun i hi=>?_,?_⟩
      · rw[List.append_assoc,List.append_assoc,qiZ hi,qiZ hi]
      · have e:∀(k:Nat) (t:Sim),(pre++[(k:Int)]++t).getD pre.length 0=(k:Int):=fun k t=>by
          rw[qiZ (by simp),List.getD_eq_getElem?_getD,List.getElem?_append_right (Nat.le_refl _)];simp
        rw[e,e]
        omega
theorem qo0{m n:Nat}{t:Sim}(h1:t.length=m)(h2:∀ a∈t,(0:Int)≤a∧a<(n:Int))(h3:t.Pairwise (·<·)):Inc m n t:=by
 refine⟨h1,fun i j hij hj=>?_,fun i hi=>?_⟩
 ·rw[qaf (show i<t.length by omega),qaf (show j<t.length by omega)]
  exact List.pairwise_iff_getElem.1 h3 i j _ _ hij
 ·rw[qaf (show i<t.length by omega)]
  exact h2 _ (List.getElem_mem _)
def lvl(V m:Nat):List Sim:=qlZ V m 0 []
theorem qdQ{V m:Nat}{y:Sim}(h:y∈lvl V m):Inc m V y:=by
 obtain⟨t,h1,h2,h3,h4⟩:=qjv h
 rw[List.nil_append] at h1
 subst h1
 exact qo0 h2 (fun a ha=>by have:=h3 a ha;omega) h4
theorem qlc{V m:Nat}{y:Sim}(h:Inc m V y):y∈lvl V m:=by
 have:=qnM (n:=V) (j:=m) (f:=0) (pre:=[]) (t:=y) h.1 (fun a ha=>by
  obtain⟨i,hi,rfl⟩:=List.getElem_of_mem ha
  have:=h.2.2 i (by have:=h.1;omega)
  rw[qaf hi] at this
  omega) h.pairwise
 exact this
theorem qnA{V m:Nat}:(lvl V m).Pairwise (qoM m):=by
 have:=qo8 (n:=V) (j:=m) (f:=0) (pre:=[])
 rw[List.length_nil,Nat.zero_add] at this
 exact this
theorem qpm{V m:Nat}(h:m≤V):∃ l,lvl V m=qjE m::l:=by
 obtain⟨l1,l2,e⟩:=List.append_of_mem (qlc (qlC h))
 have hp:=qnA (V:=V) (m:=m)
 rw[e,List.pairwise_append] at hp
 cases l1 with
 | nil=>exact⟨l2,e⟩
 | cons z l1 =>
  have hz:z∈lvl V m:=by rw[e];simp
  exact(qpr (B:=fun _=>False) z (qdQ hz) (hp.2.2 z (by simp) _ (by simp))).elim
theorem ql2{V m:Nat}{l1 l2:List Sim}{y:Sim}(e:lvl V m=l1++y::l2){i:Nat}(hi:i<m)(hx:y.getD i 0<(V:Int)-(m:Int)+(i:Int))
  (hm:∀ j,i<j→j<m→¬ y.getD j 0<(V:Int)-(m:Int)+(j:Int)):∃ l3,l2=nxt y i::l3:=by
 have hy:Inc m V y:=qdQ (by rw[e];simp)
 have hn:=qpJ hy hi hx
 have hl:=hy.1
 have hlt:qoM m y (nxt y i):=⟨i,hi,fun j hj=>by rw[qdv (by omega),if_pos hj],by rw[qdv (by omega),if_neg (by omega)];omega⟩
 have hmem:=qlc hn
 have hp:=qnA (V:=V) (m:=m)
 rw[e,List.pairwise_append,List.pairwise_cons] at hp
 obtain⟨_,⟨p2,p3⟩,p4⟩:=hp
 rw[e] at hmem
 rcases List.mem_append.1 hmem with h | h
 ·exact(ql7 hlt (p4 _ h y List.mem_cons_self)).elim
 ·rcases List.mem_cons.1 h with h | h
  ·rw[h] at hlt;exact(ql7 hlt hlt).elim
  ·cases l2 with
   | nil=>simp at h
   | cons z l3 =>
    rcases List.mem_cons.1 h with h | h
    ·exact⟨l3,by rw[h]⟩
    ·have hz:Inc m V z:=qdQ (by rw[e];simp)
     exact(qnu hy hz hi hm (p2 z List.mem_cons_self) ((List.pairwise_cons.1 p3).1 _ h)).elim
theorem qos{V m:Nat}{l1 l2:List Sim}{y:Sim}(e:lvl V m=l1++y::l2)(hm:∀ j,j<m→¬ y.getD j 0<(V:Int)-(m:Int)+(j:Int)):l2=[]:=by
 cases l2 with
 | nil=>rfl
 | cons z l3 =>
  have hy:Inc m V y:=qdQ (by rw[e];simp)
  have hz:Inc m V z:=qdQ (by rw[e];simp)
  have hp:=qnA (V:=V) (m:=m)
  rw[e,List.pairwise_append,List.pairwise_cons] at hp
  exact(qoV hy hz hm (hp.2.1.1 z List.mem_cons_self)).elim
def qc9(fr:Sim→Int):Nat→List Sim→Option Sim×Bool×Nat
 | b,[]=>(none,false,b)
 | 0,_::_=>(none,true,0)
 | b+1,y::l=>if fr y=0 then(some y,false,b) else qc9 fr b l
theorem qi2{fr:Sim→Int}:∀ {l1 l2:List Sim} {b:Nat},qc9 fr b (l1++l2)=match qc9 fr b l1 with
  | (none,false,b')=>qc9 fr b' l2
  | r=>r
 | [],l2,b=>by cases b<;>rfl
 | y::l1,l2,0=>rfl
 | y::l1,l2,b+1=>by
  show(if fr y=0 then _ else _)=match (if fr y=0 then _ else _) with
   | (none,false,b')=>qc9 fr b' l2
   | r=>r
  by_cases h:fr y=0
  ·rw[if_pos h,if_pos h]
  ·rw[if_neg h,if_neg h];exact qi2
theorem qk8{fr:Sim→Int}:∀ {l:List Sim} {b:Nat},(qc9 fr b l).2.2≤b
 | [],b=>by cases b<;>exact Nat.le_refl _
 | y::l,0=>Nat.le_refl _
 | y::l,b+1=>by
  show(if fr y=0 then _ else _:Option Sim×Bool×Nat).2.2≤b+1
  by_cases h:fr y=0
  ·rw[if_pos h];exact Nat.le_succ _
  ·rw[if_neg h];exact Nat.le_succ_of_le qk8
def qn8(V:Nat):Nat→Nat→List Sim
 | 0,_=>[]
 | d+1,m=>lvl V m++qn8 V d (m+1)
def qqt(r:Option Sim×Bool×Nat):Sim×Int×Unit:=match r with
 | (some y,_,_)=>(y,0,())
 | _=>([],5,())
end VeT
open Go Go.Proofs Ve
namespace VeT
end VeT
open Go Go.Proofs Ve
namespace VeT
theorem Spn.nil_at{p:Int}{R W:Nat}{A:Ent}{x:Nat→Int}{j:Nat}(hj:j<W)(h:∀ i,i<R→A i j=0)(hx:Spn p R W A x):x j%p=0:=by
 obtain⟨c,hc⟩:=hx
 rw[← hc j hj]
 exact qiU fun i hi=>by rw[h i hi,Int.mul_zero];simp
theorem qnB{p:Int}{R W:Nat}{pv:List Nat}{F:Ent}(hrf:Rf R W F pv){n j:Nat}(hj:j<W)(hjp:j∉pv)(hn:n≤j):∀ x∈qft p W pv F n,x.getD j 0=0:=by
 induction n with
 | zero=>intro x hx;cases hx
 | succ n ih =>
  intro x hx
  rw[qft,List.mem_append] at hx
  rcases hx with hx | hx
  ·exact ih (by omega) x hx
  ·split at hx
   ·cases hx
   ·rw[List.mem_singleton] at hx
    subst hx
    rw[qfc hrf hj hjp (by omega) _ (Nat.le_refl _),if_neg (by omega)]
theorem qn9{p:Int}{R W:Nat}{pv:List Nat}{F:Ent}(hp:Pr p)(hrf:Rf R W F pv){n:Nat}(hn:n<W)(hnp:n∉pv):¬ InR p W (qft p W pv F n) (qiW p W pv F n pv.length):=fun h=>by
 have hp2:2≤p:=hp.1
 have h0:=Spn.nil_at hn (fun i hi=>by
  unfold qdy
  rw[qaf hi]
  exact qnB hrf hn hnp (Nat.le_refl _) _ (List.getElem_mem hi)) h
 rw[qfc hrf hn hnp hn _ (Nat.le_refl _),if_pos rfl,Int.emod_eq_of_lt (by omega) (by omega)] at h0
 omega
theorem qnm{p:Int}{R W:Nat}{pv:List Nat}{F:Ent}(hp:Pr p)(hrf:Rf R W F pv):∀ {n:Nat},n≤W→rk p W (qft p W pv F n)=(qft p W pv F n).length∧(qft p W pv F n).length+cnt (fun c=>c∈pv) n=n
 | 0,_=>by
  refine⟨?_,rfl⟩
  have:=qqH (W:=W) hp (A:=qft p W pv F 0) (fun x hx=>by cases hx)
  exact Nat.le_antisymm this (Nat.zero_le _)
 | n+1,hn=>by
  obtain⟨h1,h2⟩:=qnm hp hrf (n:=n) (by omega)
  have hr:Rws p W (qft p W pv F n):=fun x hx=>qlS hp.1 hx
  unfold cnt
  rw[qft]
  by_cases h:n∈pv
  ·rw[if_pos h,if_pos h,List.append_nil]
   exact⟨h1,by omega⟩
  ·rw[if_neg h,if_neg h,qp7 hp hr (qn9 hp hrf (by omega) h),List.length_append,List.length_singleton]
   exact⟨by omega,by omega⟩
noncomputable def rkM(p:Int)(R W:Nat)(cells:Sim):Nat:=(elS p R (qcg cells W) W).2.length
theorem qpI{p:Int}{R W:Nat}{cells:Sim}(hp:Pr p)(hl:cells.length=R*W)(he:qbz cells p):rk p W (qk4 p R W cells)=(qk4 p R W cells).length∧(qk4 p R W cells).length+rkM p R W cells=W:=by
 obtain⟨hrf,_⟩:=qiF hp (qeS he hl) W (Nat.le_refl _)
 obtain⟨h1,h2⟩:=qnm hp hrf (Nat.le_refl W)
 rw[qgE hrf.nodup.1 hrf.nodup.2] at h2
 exact⟨h1,h2⟩
end VeT
open Go Go.Proofs Ve
namespace VeT
def qqm(p:Int)(R W:Nat)(A:Ent)(x:Nat→Int):Prop:=∀ i,i<R→qaT x (A i) W%p=0
theorem qng{p:Int}{W:Nat}{pv:List Nat}{F:Ent}:∀ {n:Nat} {x:Sim},x∈qft p W pv F n→∃ c,c<n∧c∉pv∧x=qiW p W pv F c pv.length
 | 0,x,h=>by simp[qft] at h
 | n+1,x,h=>by
  rw[qft,List.mem_append] at h
  rcases h with h | h
  ·obtain⟨c,h1,h2⟩:=qng h;exact⟨c,by omega,h2⟩
  ·by_cases e:n∈pv
   ·rw[if_pos e] at h;simp at h
   ·rw[if_neg e,List.mem_singleton] at h;exact⟨n,by omega,e,h⟩
theorem qlN{p:Int}{R W c:Nat}{pv:List Nat}{F:Ent}(hrf:Rf R W F pv)(hc:c<W)(hcp:c∉pv):∀ n,n≤pv.length→∀ m,n≤m→m<pv.length→(qiW p W pv F c n).getD (pv.getD m 0) 0=0
 | 0,_,m,_,hm=>by
  show((List.replicate W (0:Int)).set c 1).getD (pv.getD m 0) 0=_
  rw[qcy (by simpa using hc),if_neg fun e=>hcp (by rw[← e];exact qfk hm),List.getD_eq_getElem?_getD,List.getElem?_replicate]
  split<;>rfl
 | n+1,hn,m,h1,hm=>by
  have hq:=hrf.lt n (by omega)
  have:=hrf.mono n m (by omega) hm
  rw[qcV,qcy (by rw[qbC];exact hq),if_neg (by omega)]
  exact qlN hrf hc hcp n (by omega) m (by omega) hm
theorem qlW{p:Int}{R W c i:Nat}{pv:List Nat}{F:Ent}(hrf:Rf R W F pv)(hc:c<W)(hcp:c∉pv)(hi:i<R):∀ n,n≤pv.length →
  qaT (fun j=>(qiW p W pv F c n).getD j 0) (F i) W%p=(F i c+if i<n then 0-F i c else 0)%p
 | 0,_=>by
  rw[if_neg (by omega),Int.add_zero]
  congr 1
  rw[qaS (d:=fun j=>if j=c then 1 else 0) (h:=F i) fun j hj=>⟨by
   show((List.replicate W (0:Int)).set c 1).getD j 0=_
   rw[qcy (by simpa using hc),List.getD_eq_getElem?_getD,List.getElem?_replicate,if_pos hj];rfl,rfl⟩,qdd hc]
 | n+1,hn=>by
  have hq:=hrf.lt n (by omega)
  have hn':n<pv.length:=by omega
  rw[qaS (d:=fun j=>if j=pv.getD n 0 then(0-F n c)%p else(qiW p W pv F c n).getD j 0) (h:=F i) fun j hj=>⟨by
   rw[qcV,qcy (by rw[qbC];exact hq)],rfl⟩,qlT hq,qlN hrf hc hcp n (by omega) n (Nat.le_refl _) hn',hrf.one i n hi hn',Int.add_emod,qlW hrf hc hcp hi n (by omega),← Int.add_emod,Int.sub_zero]
  by_cases e:i=n
  ·subst e
   rw[if_neg (by omega),if_pos (by omega),if_pos (show i<i+1 by omega),Int.mul_one,Int.add_zero,Int.add_emod_emod]
  ·rw[if_neg e,Int.mul_zero,Int.add_zero]
   by_cases h:i<n
   ·rw[if_pos h,if_pos (by omega)]
   ·rw[if_neg h,if_neg (by omega)]
theorem qog{p:Int}{R W c:Nat}{pv:List Nat}{F:Ent}(hrf:Rf R W F pv)(hc:c<W)(hcp:c∉pv):qqm p R W F fun j=>(qiW p W pv F c pv.length).getD j 0:=fun i hi=>by
 rw[qlW hrf hc hcp hi pv.length (Nat.le_refl _)]
 by_cases h:i<pv.length
 ·rw[if_pos h,show F i c+(0-F i c)=0 by omega,Int.zero_emod]
 ·rw[if_neg h,hrf.bot i c (by omega) hi hc];simp
theorem qox{p:Int}{R W:Nat}{cells:Sim}(hp:Pr p)(hl:cells.length=R*W)(he:qbz cells p){x:Sim}(hx:x∈qk4 p R W cells):qqm p R W (qcg cells W) fun j=>x.getD j 0:=fun i hi=>by
 obtain⟨hrf,heq⟩:=qiF hp (qeS he hl) W (Nat.le_refl _)
 obtain⟨c,h1,h2,rfl⟩:=qng hx
 exact Spn.orth (qog hrf h1 h2) (heq.2 i hi)
theorem qpj{p:Int}{R W:Nat}{cells:Sim}(hp:Pr p)(hl:cells.length=R*W)(he:qbz cells p):(qk4 p R W cells).length=rkV p W (qqm p R W (qcg cells W)):=by
 rw[← (qpI hp hl he).1]
 refine qc8 fun c hc=>⟨Ld.mono fun x hx=>?_,?_⟩
 ·intro i hi
  rw[qbt]
  refine Spn.orth (fun k hk=>?_) hx
  rw[qbt]
  have:=qox hp hl he (List.getElem_mem hk) i hi
  have e:qdy (qk4 p R W cells) k=fun j=>((qk4 p R W cells)[k]).getD j 0:=by
   funext j;unfold qdy;rw[List.getD_eq_getElem?_getD (l:=qk4 p R W cells),List.getElem?_eq_getElem hk];rfl
  rw[e];exact this
 ·rintro⟨_,x,hx,h1,h2⟩
  have hg:∀ j,j<W→((List.range W).map fun j=>x j%p).getD j 0=x j%p:=fun j hj=>by
   rw[List.getD_eq_getElem?_getD,List.getElem?_map,List.getElem?_range hj];rfl
  have hs:=qnY (x:=(List.range W).map fun j=>x j%p) hp hl he fun i hi=>by
   refine Eq.trans ?_ (hx i hi)
   rw[qbt,qbt (c:=x)]
   exact qed fun j hj=>by rw[hg j hj,Int.emod_emod_of_dvd _ (Int.dvd_refl _)]
  refine⟨hc,_,hs,fun j hj=>?_,?_⟩
  ·show((List.range W).map fun j=>x j%p).getD j 0%p=0
   rw[hg j (by omega),Int.emod_emod_of_dvd _ (Int.dvd_refl _)];exact h1 j hj
  ·show((List.range W).map fun j=>x j%p).getD c 0%p≠0
   rw[hg c hc,Int.emod_emod_of_dvd _ (Int.dvd_refl _)];exact h2
def Sol(p:Int)(W:Nat)(rows:List Sim)(x:Nat→Int):Prop:=∀ r∈rows,qaT x (fun j=>r.getD j 0) W%p=0
theorem qoW{p:Int}{W:Nat}{rows:List Sim}(hr:∀ r∈rows,r.length=W){x:Nat→Int}:qqm p rows.length W (qcg rows.flatten W) x↔Sol p W rows x:=by
 have key:∀ i (hi:i<rows.length) j,j<W→qcg rows.flatten W i j=(rows[i]).getD j 0:=fun i hi j hj=>by
  have e1:=qmr hr
  have e2:rows.flatten=qat (qdy rows) W rows.length:=by rw[← qdi,e1]
  rw[e2,qfy hi hj];unfold qdy
  rw[List.getD_eq_getElem?_getD (l:=rows),List.getElem?_eq_getElem hi];rfl
 constructor
 ·intro h r hr
  obtain⟨i,hi,rfl⟩:=List.getElem_of_mem hr
  refine Eq.trans ?_ (h i hi)
  congr 1
  exact qaS fun j hj=>⟨rfl,(key i hi j hj).symm⟩
 ·intro h i hi
  refine Eq.trans ?_ (h _ (List.getElem_mem hi))
  congr 1
  exact qaS fun j hj=>⟨rfl,key i hi j hj⟩
end VeT
open Go Go.Proofs Ve
set_option linter.unusedVariables false
set_option linter.unusedSimpArgs false
namespace VeT

/-! freedom -/
theorem qpU {x : Shf} {w : Sim} (hx : Sm (.st cS) x) (hs : ISh x) (hw : qmH x.1 w) : qbV x w = ((rkV x.2.1 (SD x.1 x.2.2.1 0).toNat (Sol x.2.1 (SD x.1 x.2.2.1 0).toNat (gvL x w w.length)) : Nat) : Int) := by
  obtain ⟨W, eW, bW, tW⟩ := qcs hs.1 0
  obtain ⟨H, eH, bH, tH⟩ := qcs hs.1 1
  obtain ⟨f1, f2⟩ := qd5 hx hs.1 hw eW eH w.length (Nat.le_refl _)
  obtain ⟨g1, g2⟩ := f2.flat
  unfold qbV qqp
  rw [tW, qpj hs.1.2.1 g1 g2]
  congr 1
  exact qj3 fun u => qoW fun r hr => (f2 r hr).1

end VeT

open Go Go.Proofs Ve
namespace VeT
def sN(f:Nat→Int):Nat→Int
 | 0=>0
 | n+1=>sN f n+f n
theorem qja{c g:Nat→Int}:∀ {n:Nat},qaT c g n=sN (fun i=>c i*g i) n
 | 0=>rfl
 | n+1=>by show qaT c g n+c n*g n=_;rw[qja];rfl
theorem qmd{f g:Nat→Int}:∀ {n:Nat},(∀ i,i<n→f i=g i)→sN f n=sN g n
 | 0,_=>rfl
 | n+1,h=>by unfold sN;rw[qmd fun i hi=>h i (by omega),h n (by omega)]
theorem qjQ{f:Nat→Int}:∀ {n:Nat},(∀ i,i<n→f i=0)→sN f n=0
 | 0,_=>rfl
 | n+1,h=>by unfold sN;rw[qjQ fun i hi=>h i (by omega),h n (by omega)];rfl
theorem qjK{f:Nat→Int}{m:Nat}:∀ {n:Nat},sN f (m+n)=sN f m+sN (fun i=>f (m+i)) n
 | 0=>by simp[sN]
 | n+1=>by
  show sN f (m+n)+f (m+n)=sN f m+(sN (fun i=>f (m+i)) n+f (m+n))
  rw[qjK];omega
theorem qo1{p:Int}{f g:Nat→Int}:∀ {n:Nat},(∀ i,i<n→f i%p=g i%p)→sN f n%p=sN g n%p
 | 0,_=>rfl
 | n+1,h=>by unfold sN;rw[Int.add_emod,qo1 fun i hi=>h i (by omega),h n (by omega),← Int.add_emod]
theorem qo3{f:Nat→Int}{k:Int}:∀ {n:Nat},sN (fun i=>k*f i) n=k*sN f n
 | 0=>by simp[sN]
 | n+1=>by unfold sN;rw[qo3,Int.mul_add]
theorem qoD{f:Nat→Int}{L n W:Nat}(hW:L+n≤W)(h:∀ i,i<W→¬ (L≤i∧i<L+n)→f i=0):sN f W=sN (fun b=>f (L+b)) n:=by
 obtain⟨r,rfl⟩:∃ r,W=L+n+r:=⟨W-(L+n),by omega⟩
 rw[qjK,qjK,qjQ (n:=L) fun i hi=>h i (by omega) (by omega),qjQ (n:=r) fun i hi=>h _ (by omega) (by omega)]
 omega
theorem qpb{P:Nat→Prop}[DecidablePred P]{v:Int}{u:Nat}:∀ {N:Nat},u<N→P u→(∀ t,t<N→P t→t=u)→sN (fun t=>if P t then v else 0) N=v
 | 0,hu,_,_=>by omega
 | N+1,hu,hp,h=>by
  show sN (fun t=>if P t then v else 0) N+(if P N then v else 0)=v
  by_cases hN:u=N
  ·subst hN
   rw[if_pos hp,qjQ fun t ht=>if_neg fun hpt=>by have:=h t (by omega) hpt;omega];omega
  ·rw[qpb (u:=u) (by omega) hp fun t ht=>h t (by omega),if_neg fun hpt=>hN (h N (by omega) hpt).symm];omega
theorem qmX{c:List Sim}{st:Sim}(hst:∀ x∈st,0≤x∧x≤3){d:Int}{r:Nat}:∀ {n:Nat},r<(SDn c st d n).toNat→∃ s,s<n∧((c.getD s []).length:Int)=d+1∧∃ i,i<(st.getD s 0).toNat∧r=(FC c st s).toNat+i
 | 0,h=>by simp[SDn,qau] at h
 | n+1,h=>by
  have h1:=qiw (c:=c) (d:=d) hst (n:=n)
  have h2:=qgl hst n
  by_cases hr:r<(SDn c st d n).toNat
  ·obtain⟨s,hs,h3⟩:=qmX hst hr;exact⟨s,by omega,h3⟩
  ·rw[qfr] at h
   split at h
   ·rename_i hd
    have e:FC c st n=SDn c st d n:=by unfold FC;rw[show((c.getD n []).length:Int)-1=d by omega]
    exact⟨n,by omega,hd,r-(SDn c st d n).toNat,by omega,by rw[e];omega⟩
   ·omega
theorem qpH{c:List Sim}(h:VC c){a b:Nat}(ha:a<c.length)(hb:b<c.length)(e:c.getD a []=c.getD b []):a=b:=by
 have key:∀ {a b:Nat},a<b→b<c.length→c.getD a []=c.getD b []→False:=fun {a b} hab hb e=>by
  have:=h.srt a b hb hab
  rw[qaf (by omega),qaf hb] at e
  rw[e,qc5.2 rfl] at this
  omega
 rcases Nat.lt_trichotomy a b with h | h | h
 ·exact absurd e fun e=>key h hb e
 ·exact h
 ·exact absurd e.symm fun e=>key h ha e
end VeT
open Go Go.Proofs Ve
namespace VeT
def mE(m:Mat):Ent:=qcg m.2.2.2.1 m.2.2.1.toNat
end VeT
open Go Go.Proofs Ve
namespace VeT
end VeT
open Go Go.Proofs Ve
namespace VeT
end VeT
open Go Go.Proofs Ve
namespace VeT
theorem qoJ{m:Mat}{a n i:Nat}{t:Int}{u:Nat→Int}(h:a+m.2.2.1.toNat≤n):qaT u (fun g=>(qf2 m a n t i).getD g 0) n%m.1=t*qaT (mE m i) (fun j=>u (a+j)) m.2.2.1.toNat%m.1:=by
 rw[qja,qoD (L:=a) (n:=m.2.2.1.toNat) h fun g hg hno=>by rw[qcv hno,Int.mul_zero],qja,← qo3]
 refine qo1 fun j hj=>?_
 rw[qgG hj (by omega),Int.mul_emod,Int.emod_emod_of_dvd _ (Int.dvd_refl _),← Int.mul_emod]
 congr 1
 show u (a+j)*(mE m i j*t)=t*(mE m i j*u (a+j))
 rw[Int.mul_comm (mE m i j) t,Int.mul_left_comm,Int.mul_comm (u (a+j))]
end VeT
open Go Go.Proofs Ve
set_option linter.unusedVariables false
set_option linter.unusedSimpArgs false
namespace VeT

/-! the vertices -/
def vxN (c : List Sim) : Nat → List Int
  | 0 => []
  | k + 1 => if (c.getD k []).length = 1 then vxN c k ++ [(c.getD k []).getD 0 0] else vxN c k

abbrev vxs (c : List Sim) : List Int := vxN c c.length

theorem qcm {c : List Sim} : ∀ {k : Nat}, (vxN c k).length ≤ k
  | 0 => by simp [vxN]
  | k + 1 => by
    have := qcm (c := c) (k := k)
    unfold vxN
    split
    · simp; exact this
    · omega

theorem qh4 (c : List Sim) (hc : Sm (.sl (.sl (.int .i64))) c) : Ret E n_Z71 [dLL c] ⟨o_Z71, (vxs c, ())⟩ := by
  have hc1 : c.length ≤ 1048576 := hc.1
  refine qal ?_
  simp only [run_Z71, Z71.ev]
  refine Ev.start (p := fun φ n => Z71.l0 (mkR (run E (φ 0))) (φ 0) n c (c.length : Int) 0 [] = _) 1 ?_ (fun _ _ _ h => h)
  refine qap 1 (L := fun φ n k a => Z71.l0 (mkR (run E (φ 0))) (φ 0) n c (c.length : Int) k a) (len := c.length) (fun k => vxN c k) (fun _ _ _ _ _ => rfl) (fun k r hk ih => ?_) ?_
  · simp only [Z71.l0_succ _ qae]
    rw [qad (by omega)]
    refine qax (decide_eq_true (by omega)) (qac (qak hk) ?_)
    have hl := qcm (c := c) (k := k)
    rw [vxN, qaf hk] at ih
    by_cases h1 : (c[k]).length = 1
    · rw [if_pos h1, qaf (by omega)] at ih
      refine qax (by simp [h1]) (qac (qak (k := 0) (by show 0 < (c[k]).length; omega)) (qaq (by simp; omega) ?_))
      exact ih
    · rw [if_neg h1] at ih
      exact qaA (by simp; omega) ih
  · simp only [Z71.l0_succ _ qae]
    exact qaA (decide_eq_false (by omega)) qam

end VeT

open Go Go.Proofs Ve
namespace VeT
theorem qi9{c:List Sim}:∀ {k:Nat},(vxN c k).length=(qau c 0 k).length
 | 0=>by simp[vxN,qau]
 | k+1=>by
  rw[qbG,List.length_append]
  unfold vxN
  have e:((c.getD k []).length:Int)=0+1↔(c.getD k []).length=1:=by omega
  by_cases h:(c.getD k []).length=1
  ·rw[if_pos h,if_pos (e.2 h),List.length_append,qi9];rfl
  ·rw[if_neg h,if_neg (fun hh=>h (e.1 hh)),qi9];rfl
theorem qkO{c:List Sim}:∀ {k:Nat},(∀ j,j<k→(c.getD j []).length=1)→(qau c 0 k).length=k
 | 0,_=>by simp[qau]
 | k+1,h=>by
  rw[qbG,List.length_append,qkO fun j hj=>h j (by omega),if_pos (by have:=h k (by omega);omega)];rfl
theorem ql8{c:List Sim}{d:Int}{k:Nat}:∀ {e:Nat},(qau c d k).length≤(qau c d (k+e)).length
 | 0=>Nat.le_refl _
 | e+1=>by
  have:=ql8 (c:=c) (d:=d) (k:=k) (e:=e)
  rw[← Nat.add_assoc,qbG,List.length_append];omega
theorem qpT{c:List Sim}(h:VC c){s:Nat}(hs:s<c.length)(h1:(c.getD s []).length=1):s<(vxs c).length:=by
 have e1:(qau c 0 (s+1)).length=s+1:=qkO fun j hj=>by
  by_cases e:j=s
  ·subst e;exact h1
  ·exact qlO h hs h1 (by omega)
 have e2:=ql8 (c:=c) (d:=0) (k:=s+1) (e:=c.length-(s+1))
 rw[show s+1+(c.length-(s+1))=c.length by omega] at e2
 show s<(vxN c c.length).length
 rw[qi9];omega
theorem qoP{n i:Nat}{y:Nat→Int}(hi:i<n):qaT (qcg (qat qdB n n) n i) y n=y i:=by
 rw[qja]
 have e:∀ j,j<n→qcg (qat qdB n n) n i j*y j=if j=i then y i else 0:=fun j hj=>by
  rw[qfy hi hj]
  unfold qdB
  by_cases h:i=j
  ·subst h;rw[if_pos rfl,if_pos rfl,Int.one_mul]
  ·rw[if_neg h,if_neg (Ne.symm h),Int.zero_mul]
 rw[qmd e]
 exact qpb (P:=fun j=>j=i) hi rfl fun t _ h=>h
theorem qmU{x:Shf}(hx:Sm (.st cS) x)(hs:ISh x):qbV x (qjE (vxs x.1).length)=0:=by
 have hv:=hs.1.1
 have hV:(vxs x.1).length≤x.1.length:=qcm
 have hpl:qmH x.1 (qjE (vxs x.1).length):=qgD (qlC (Nat.le_refl _)) hV
 obtain⟨W,eW,bW,tW⟩:=qcs hs.1 0
 rw[qpU hx hs hpl,tW]
 have hst:=hs.1.2.2.1.2.1
 refine congrArg Int.ofNat (qjy fun g hg=>?_)
 rintro⟨_,u,hu,_,hne⟩
 apply hne
 obtain⟨s,hs1,hs2,i,hi,rfl⟩:=qmX (c:=x.1) (st:=x.2.2.1) hst (d:=0) (r:=g) (n:=x.1.length) (by rw[← qpL,tW];exact hg)
 have h1:(x.1.getD s []).length=1:=by omega
 have hsV:=qpT hv hs1 h1
 obtain⟨_,a1,a2,a3,a4⟩:=qjD hv hs1
 have hf:fvx x.1 s=s:=qpH hv a1 hs1 (by rw[a2];exact List.take_of_length_le (by omega))
 have hr:qf2 (qcU x (fvx x.1 s) s) (FC x.1 x.2.2.1 (fvx x.1 s)).toNat W 1 i∈gvL x (qjE (vxs x.1).length) (qjE (vxs x.1).length).length:=by
  unfold gvL
  refine List.mem_append.2 (.inr (List.mem_flatten.2 ⟨gvR x s (x.2.2.1.getD s 0).toNat,?_,?_⟩))
  ·rw[List.take_length]
   refine List.mem_map.2 ⟨(s:Int),List.mem_map.2 ⟨s,List.mem_range.2 hsV,rfl⟩,by simp⟩
  ·unfold gvR
   rw[tW]
   exact List.mem_map.2 ⟨i,List.mem_range.2 hi,rfl⟩
 have h2:=hu _ hr
 rw[hf] at h2
 have hrest:qcU x s s=qhI x.2.1 (x.2.2.1.getD s 0).toNat:=by
  unfold qcU
  rw[h1,qc4,if_pos rfl]
 rw[hrest] at h2
 have hb:=qgB (c:=x.1) hst hs1
 rw[show((x.1.getD s []).length:Int)-1=0 by omega,eW] at hb
 have hcol:(qhI x.2.1 (x.2.2.1.getD s 0).toNat).2.2.1.toNat=(x.2.2.1.getD s 0).toNat:=rfl
 have h3:=qoJ (m:=qhI x.2.1 (x.2.2.1.getD s 0).toNat) (a:=(FC x.1 x.2.2.1 s).toNat) (n:=W) (i:=i) (t:=1) (u:=u) (by rw[hcol];omega)
 rw[hcol,Int.one_mul] at h3
 have h4:qaT (mE (qhI x.2.1 (x.2.2.1.getD s 0).toNat) i) (fun j=>u ((FC x.1 x.2.2.1 s).toNat+j)) (x.2.2.1.getD s 0).toNat=u ((FC x.1 x.2.2.1 s).toNat+i):=by
  unfold mE
  rw[hcol]
  exact qoP hi
 rw[h4] at h3
 exact h3.symm.trans h2
end VeT
open Go Go.Proofs Ve
namespace VeT
abbrev cSr:Ty:=.cons (.ptr cS) (.cons (.int .i64) (.cons (.int .i64) (.cons (.sl (.int .i64)) (.cons (.int .i64) (.cons (.int .i64) (.cons .bool .nil))))))
abbrev Sch:=Shf×Int×Int×Sim×Int×Int×Bool×Unit
def rsl(x:Shf)(V m B:Nat)(pre:Sim)(r:Option Sim×Bool×Nat):Bool×Sch×Unit:=match r with
 | (some y,_,b)=>(true,(x,(V:Int),(m:Int),y,(B:Int)-(b:Int),(B:Int),false,()),())
 | (none,fl,b)=>(false,(x,(V:Int),(m:Int),pre,(B:Int)-(b:Int),(B:Int),fl,()),())
theorem qhx{fr:Sim→Int}{b:Nat}{y:Sim}{l:List Sim}:qc9 fr (b+1) (y::l)=if fr y=0 then(some y,false,b) else qc9 fr b l:=rfl
theorem qgY{V d m:Nat}:qn8 V (d+1) m=lvl V m++qn8 V d (m+1):=rfl
theorem qn0{pre:Sim}{a:Int}(h:pre.length≤1000):List.take (Int.toNat (w64 (((pre++[a]).length:Int)-1))) (pre++[a])=pre:=by
 have e:w64 (((pre++[a]).length:Int)-1)=(pre.length:Int):=by
  rw[List.length_append,List.length_singleton,qah (by omega) (by omega)];omega
 rw[e,Int.toNat_natCast,List.take_append_of_le_length (Nat.le_refl _),List.take_length]
theorem qmG{x:Shf}{V m B:Nat}(hx:Sm (.st cS) x)(hv:VS x.1 x.2.1 x.2.2.1 x.2.2.2.1)(hV:V≤x.1.length)(hm:m≤V)(hB:B≤20000):∀(j:Nat) (pre:Sim) (f b:Nat),pre.length+j=m→b≤B→f≤V →
    pre.Pairwise (·<·)→(∀ a∈pre,(0:Int)≤a∧a<(f:Int)) →
    Ret E n_Z169 [⟨.ptr cSr,(x,(V:Int),(m:Int),pre,(B:Int)-(b:Int),(B:Int),false,())⟩,dI (f:Int)] ⟨o_Z169,rsl x V m B pre (qc9 (qbV x) b (qlZ V j f pre))⟩:=by
  have h48:=hv.1.1
  intro j
  induction j with
  | zero =>
    intro pre f b hl hb hf hp1 hp2
    have hpl:qmH x.1 pre:=qgD (qo0 (m:=pre.length) (n:=V) rfl (fun a ha=>by have:=hp2 a ha;omega) hp1) hV
    refine qal ?_
    simp only[run_Z169,Z169.ev]
    rw[qfq]
    refine qax (by show((pre.length:Int)==(m:Int))=true;rw[beq_iff_eq];omega) ?_
    cases b with
    | zero =>
      refine qax (by show(((B:Int)-((0:Nat):Int))==(B:Int))=true;rw[beq_iff_eq];omega) ?_
      exact qam
    | succ b =>
      refine qaA (by show(((B:Int)-((b+1:Nat):Int))==(B:Int))=false;rw[beq_eq_false_iff_ne];omega) ?_
      refine qaa (qh3 x pre hx (qhl (by omega)) hv hpl) ?_
      have e:w64 ((B:Int)-((b+1:Nat):Int)+1)=(B:Int)-(b:Int):=by rw[qah (by omega) (by omega)];omega
      rw[qhx]
      show Ev fun φ=>some (⟨o_Z169,((qbV x pre==(0:Int)),(x,(V:Int),(m:Int),pre,w64 ((B:Int)-((b+1:Nat):Int)+1),(B:Int),false,()),())⟩:Dv)=_
      rw[e]
      refine qan ?_
      by_cases h:qbV x pre=0
      · rw[if_pos h,h];rfl
      · rw[if_neg h]
        have h2:(qbV x pre==(0:Int))=false:=by rw[beq_eq_false_iff_ne];exact h
        rw[h2]
        cases b<;>rfl
  | succ j ih =>
    intro pre f b hl hb hf hp1 hp2
    refine qal ?_
    simp only[run_Z169,Z169.ev]
    refine qaA (by show((pre.length:Int)==(m:Int))=false;rw[beq_eq_false_iff_ne];omega) ?_
    refine Ev.start (p:=fun φ n=>Z169.l0 (mkR (run E (φ 0))) (φ 0) n (f:Int) x (V:Int) (m:Int) ((B:Int)-(b:Int)) (B:Int) false pre=_) 1 ?_ (fun _ _ _ h=>h)
    have stop:∀(k:Int) (b:Nat) (fl:Bool),(fl=true∨¬ k<(V:Int))→Ev fun φ=>Z169.l0 (mkR (run E (φ 0))) (φ 0) (φ 1) k x (V:Int) (m:Int) ((B:Int)-(b:Int)) (B:Int) fl pre=some ⟨o_Z169,(false,(x,(V:Int),(m:Int),pre,(B:Int)-(b:Int),(B:Int),fl,()),())⟩:=by
      intro k b fl h
      refine Ev.round 1 (L:=fun φ q=>Z169.l0 (mkR (run E (φ 0))) (φ 0) q k x (V:Int) (m:Int) ((B:Int)-(b:Int)) (B:Int) fl pre) ?_ (fun _ _ _=>rfl)
      simp only[Z169.l0_succ _ qae,Z169.j1_eq _ qae]
      rcases h with rfl | h
      · refine qb5 (fun _=>qaA rfl qam) fun _=>qaA rfl qam
      · exact qaA (decide_eq_false h) (qaA rfl qam)
    have key:∀(d f b:Nat),V-f=d→b≤B→f≤V→(∀ a∈pre,(0:Int)≤a∧a<(f:Int)) →
        Ev fun φ=>Z169.l0 (mkR (run E (φ 0))) (φ 0) (φ 1) (f:Int) x (V:Int) (m:Int) ((B:Int)-(b:Int)) (B:Int) false pre=some ⟨o_Z169,rsl x V m B pre (qc9 (qbV x) b (qlZ V (j+1) f pre))⟩:=by
      intro d
      induction d with
      | zero =>
        intro f b hd hb hf hp2
        rw[qoQ (by omega)]
        have:=stop (f:Int) b false (.inr (by omega))
        cases b<;>exact this
      | succ d ihd =>
        intro f b hd hb hf hp2
        rw[qnd (by omega),qi2]
        have hr:=ih (pre++[(f:Int)]) (f+1) b (by simp;omega) hb (by omega) (List.pairwise_append.2 ⟨hp1,List.pairwise_singleton _ _,fun a ha c hc=>by
            rw[List.mem_singleton] at hc;subst hc;exact(hp2 a ha).2⟩) (fun a ha=>by
            rcases List.mem_append.1 ha with ha | ha
            · have:=hp2 a ha;omega
            · rw[List.mem_singleton] at ha;omega)
        have hle:=qk8 (fr:=qbV x) (l:=qlZ V j (f+1) (pre++[(f:Int)])) (b:=b)
        refine Ev.round 1 (L:=fun φ q=>Z169.l0 (mkR (run E (φ 0))) (φ 0) q (f:Int) x (V:Int) (m:Int) ((B:Int)-(b:Int)) (B:Int) false pre) ?_ (fun _ _ _=>rfl)
        simp only[Z169.l0_succ _ qae,Z169.j1_eq _ qae]
        have e1:w64 ((f:Int)+1)=((f+1:Nat):Int):=qad (by omega)
        refine qax (decide_eq_true (by omega)) (qax rfl (qaq (decide_eq_true (by simp only[List.length_singleton];omega)) ?_))
        rw[e1]
        generalize hsc:qc9 (qbV x) b (qlZ V j (f+1) (pre++[(f:Int)]))=r at hr hle ⊢
        obtain⟨o,fl,b'⟩:=r
        cases o with
        | some y=>exact qaa hr (qax rfl qam)
        | none =>
          refine qaa hr (qaA rfl (qaq ?_ ?_))
          · show(decide (0≤w64 (((pre++[(f:Int)]).length:Int)-1))&&decide (w64 (((pre++[(f:Int)]).length:Int)-1)≤(((pre++[(f:Int)]).length:Nat):Int)))=true
            rw[List.length_append,List.length_singleton,qah (by omega) (by omega),Bool.and_eq_true]
            exact⟨decide_eq_true (by omega),decide_eq_true (by omega)⟩
          · show Ev fun φ=>Z169.l0 (mkR (run E (φ 0))) (φ 0) (φ 1) ((f+1:Nat):Int) x (V:Int) (m:Int) ((B:Int)-(b':Int)) (B:Int) fl (List.take (Int.toNat (w64 (((pre++[(f:Int)]).length:Int)-1))) (pre++[(f:Int)]))=_
            rw[qn0 (by omega)]
            cases fl with
            | true=>exact stop _ b' true (.inl rfl)
            | false=>exact ihd (f+1) b' (by omega) (Nat.le_trans hle hb) (by omega) fun a ha=>by have:=hp2 a ha;omega
    exact key (V-f) f b rfl hb hf hp2
open Classical in
noncomputable def qaL(x:Shf)(k:Int):Sim×Int×Unit :=
 if ¬ ISh x then([],1,()) else if ¬ (1≤k∧k≤20000) then([],2,()) else qqt (qc9 (qbV x) k.toNat (qn8 (vxs x.1).length ((vxs x.1).length+1) 0))
theorem qm7{V m:Nat}{y:Sim}(h:y∈lvl V m):y.length=m:=(qdQ h).1
theorem qiS{fr:Sim→Int}{y:Sim}{fl:Bool}{b':Nat}:∀ {l:List Sim} {b:Nat},qc9 fr b l=(some y,fl,b')→y∈l
 | [],b,h=>by cases b<;>cases h
 | z::l,0,h=>by cases h
 | z::l,b+1,h=>by
  replace h:(if fr z=0 then(some z,false,b) else qc9 fr b l)=(some y,fl,b'):=h
  by_cases e:fr z=0
  ·rw[if_pos e] at h;cases h;exact List.mem_cons_self
  ·rw[if_neg e] at h;exact List.mem_cons_of_mem _ (qiS h)
theorem qdE(x:Shf)(k:Int)(hx:Sm (.st cS) x):Ret E n_Z124 [dLL x.1,dI x.2.1,dL x.2.2.1,dMs x.2.2.2.1,dI k] ⟨o_Z124,qaL x k⟩:=by
 refine qal ?_
 simp only[run_Z124,Z124.ev]
 refine qaa (qnh x hx) ?_
 by_cases hI:¬ ISh x
 ·rw[qaL,if_pos hI]
  exact qax (by rw[qas hI];rfl) qam
 rw[qaL,if_neg hI]
 replace hI:=Classical.not_not.1 hI
 refine qaA (by rw[qaK hI];rfl) (qaa (qbR k 1 20000) ?_)
 by_cases hb:¬ (1≤k∧k≤20000)
 ·rw[if_pos hb]
  exact qax (by rw[qas hb];rfl) qam
 rw[if_neg hb]
 replace hb:=Classical.not_not.1 hb
 refine qaA (by rw[qaK hb];rfl) (qaa (qhN x.1 0 hx.1 (by omega)) ?_)
 have hs:=hI.1
 have h48:=hs.1.1
 have hV:(vxs x.1).length≤x.1.length:=qcm
 have eV:((qau x.1 0 x.1.length).length:Int)=((vxs x.1).length:Int):=by rw[← qi9]
 generalize (vxs x.1).length=V at hV eV
 obtain⟨B,hB⟩:=Int.eq_ofNat_of_zero_le (show 0≤k by omega)
 subst hB
 rw[Int.toNat_natCast]
 have key:∀(d m b:Nat),V+1-m=d→b≤B→Ev fun φ=>Z124.l0 (mkR (run E (φ 0))) (φ 0) (φ 1) x (V:Int) (m:Int) ((B:Int)-(b:Int)) (B:Int) false []=some ⟨o_Z124,qqt (qc9 (qbV x) b (qn8 V d m))⟩:=by
  intro d
  induction d with
  | zero =>
   intro m b hd hle
   refine Ev.round 1 (L:=fun φ q=>Z124.l0 (mkR (run E (φ 0))) (φ 0) q x (V:Int) (m:Int) ((B:Int)-(b:Int)) (B:Int) false []) ?_ (fun _ _ _=>rfl)
   simp only[Z124.l0_succ _ qae]
   refine qaA (decide_eq_false (by omega)) ?_
   cases b<;>exact qam
  | succ d ih =>
   intro m b hd hle
   have hr:=qmG hx hs hV (show m≤V by omega) (show B≤20000 by omega) m [] 0 b (by simp) hle (Nat.zero_le _) List.Pairwise.nil (fun a ha=>by simp at ha)
   have hle2:=qk8 (fr:=qbV x) (l:=lvl V m) (b:=b)
   rw[qgY,qi2]
   refine Ev.round 1 (L:=fun φ q=>Z124.l0 (mkR (run E (φ 0))) (φ 0) q x (V:Int) (m:Int) ((B:Int)-(b:Int)) (B:Int) false []) ?_ (fun _ _ _=>rfl)
   simp only[Z124.l0_succ _ qae]
   refine qax (decide_eq_true (by omega)) ?_
   have hmem:=fun y fl b'=>qiS (fr:=qbV x) (y:=y) (fl:=fl) (b':=b') (l:=lvl V m) (b:=b)
   change Ret E n_Z169 _ ⟨o_Z169,rsl x V m B [] (qc9 (qbV x) b (lvl V m))⟩ at hr
   generalize qc9 (qbV x) b (lvl V m)=r at hr hle2 hmem ⊢
   obtain⟨o,fl,b'⟩:=r
   cases o with
   | some y =>
    have hyl:=qm7 (hmem y fl b' rfl)
    exact qaa hr (qax rfl (qaa (qfI y (by omega)) qam))
   | none =>
    cases fl with
    | true=>exact qaa hr (qaA rfl (qax rfl qam))
    | false =>
     refine qaa hr (qaA rfl (qaA rfl ?_))
     show Ev fun φ=>Z124.l0 (mkR (run E (φ 0))) (φ 0) (φ 1) x (V:Int) (w64 ((m:Int)+1)) ((B:Int)-(b':Int)) (B:Int) false []=_
     rw[qad (by omega)]
     exact ih (m+1) b' (by omega) (Nat.le_trans hle2 hle)
 have h0:=Ev.start (p:=fun φ n=>Z124.l0 (mkR (run E (φ 0))) (φ 0) n x (V:Int) ((0:Nat):Int) ((B:Int)-(B:Int)) (B:Int) false []=_) 1 (key (V+1) 0 B rfl (Nat.le_refl _)) (fun _ _ _ h=>h)
 rw[show(B:Int)-(B:Int)=0 by omega] at h0
 show Ev fun φ=>Z124.l0 (mkR (run E (φ 0))) (φ 0) (φ 0) x ((qau x.1 0 x.1.length).length:Int) 0 0 (B:Int) false []=_
 rw[eV]
 exact h0
theorem qdD(x:Shf)(k:Int)(hx:Sm (.st cS) x):Ret E n_Z5 [dLL x.1,dI x.2.1,dL x.2.2.1,dMs x.2.2.2.1,dI k] ⟨o_Z5,qaL x k⟩:=by
  refine qal ?_
  simp only[run_Z5,Z5.ev]
  refine qaa (qgU x hx) ?_
  by_cases hI:¬ ISh x
  · rw[qaL,if_pos hI]
    exact qax (by rw[qas hI];rfl) qam
  rw[qaL,if_neg hI]
  replace hI:=Classical.not_not.1 hI
  refine qaA (by rw[qaK hI];rfl) (qaa (qj4 k) ?_)
  by_cases hb:¬ (1≤k∧k≤20000)
  · rw[if_pos hb]
    exact qax (by rw[qas hb];rfl) qam
  rw[if_neg hb]
  replace hb:=Classical.not_not.1 hb
  have hs:=hI.1
  have h48:x.1.length≤48:=hs.1.1
  have hfull:=qmU hx hI
  refine qaA (by rw[qaK hb];rfl) (qaa (qh4 x.1 hx.1) (qaa (qcX (vxs x.1)) ?_))
  have hV:(vxs x.1).length≤x.1.length:=qcm
  generalize (vxs x.1).length=V at hV hfull
  have eV:w64 ((V:Int)+1)=((V+1:Nat):Int):=qad (by omega)
  obtain⟨B,hB⟩:=Int.eq_ofNat_of_zero_le (show 0≤k by omega)
  subst hB
  rw[Int.toNat_natCast]
  have key:∀(d m b:Nat),V+1-m=d→b≤B→(∀ m',m'<m→∀ z∈lvl V m',qbV x z≠0)→Ev fun φ=>Z5.l0 (mkR (run E (φ 0))) (φ 0) (φ 1) (V:Int) ((V+1:Nat):Int) (m:Int) x.1 x.2.1 x.2.2.1 x.2.2.2.1 (b:Int) false=some ⟨o_Z5,qqt (qc9 (qbV x) b (qn8 V d m))⟩:=by
    intro d
    induction d with
    | zero =>
      intro m b hd hle hbad
      exact absurd hfull (hbad V (by omega) _ (qlc (qlC (Nat.le_refl _))))
    | succ d ih =>
      intro m b hd hle hbad
      have hm:m≤V:=by omega
      have inner:∀(l2 l1:List Sim) (y:Sim) (b:Nat),lvl V m=l1++y::l2→b≤B→(∀ z∈l1,qbV x z≠0) →
          Ev fun φ=>Z5.l1 (mkR (run E (φ 0))) (φ 0) (φ 1) (φ 2) (V:Int) true ((V+1:Nat):Int) (m:Int) x.1 x.2.1 x.2.2.1 x.2.2.2.1 (b:Int) false y=some ⟨o_Z5,qqt (qc9 (qbV x) b (y::(l2++qn8 V d (m+1))))⟩:=by
        intro l2
        induction l2 with
        | nil =>
          intro l1 y b e hle hz
          have hy:Inc m V y:=qdQ (by rw[e];simp)
          have hyl:=hy.1
          refine Ev.round 2 (L:=fun φ q=>Z5.l1 (mkR (run E (φ 0))) (φ 0) (φ 1) q (V:Int) true ((V+1:Nat):Int) (m:Int) x.1 x.2.1 x.2.2.1 x.2.2.2.1 (b:Int) false y) ?_ (fun _ _ _=>rfl)
          simp only[Z5.l1_succ _ qae]
          refine qax rfl (qaa (qmf (b:Int) false) ?_)
          cases b with
          | zero=>rw[if_pos (show((0:Nat):Int)=0 from rfl)];exact qax rfl qam
          | succ b =>
            rw[if_neg (by omega)]
            refine qaA rfl (qaa (qhe x y hx (qhl (by omega)) hs (qgD hy (by omega))) ?_)
            rw[qhx]
            by_cases h:qbV x y=0
            · rw[if_pos h];exact qax (by rw[h];rfl) qam
            · rw[if_neg h,List.nil_append]
              refine qaA (by rw[beq_eq_false_iff_ne];exact h) ?_
              rcases qei hy (by omega) hm with ⟨i,a1,a2,a3,a4⟩ | ⟨a1,a2⟩
              · obtain⟨l3,h3⟩:=ql2 e a1 a2 a3;cases h3
              · refine qaa a2 ?_
                refine Ev.round 2 (L:=fun φ q=>Z5.l1 (mkR (run E (φ 0))) (φ 0) (φ 1) q (V:Int) false ((V+1:Nat):Int) (m:Int) x.1 x.2.1 x.2.2.1 x.2.2.2.1 (w64 (((b+1:Nat):Int)-1)) false []) ?_ (fun _ _ _=>rfl)
                simp only[Z5.l1_succ _ qae]
                refine qaA rfl ?_
                rw[qad (by omega),show w64 (((b+1:Nat):Int)-1)=(b:Int) by rw[qah (by omega) (by omega)];omega]
                refine ih (m+1) b (by omega) (by omega) fun m' hm' z hzm=>?_
                by_cases em:m'=m
                · subst em
                  rw[e] at hzm
                  rcases List.mem_append.1 hzm with hzm | hzm
                  · exact hz z hzm
                  · rw[List.mem_singleton] at hzm;subst hzm;exact h
                · exact hbad m' (by omega) z hzm
        | cons y2 l2 ihl =>
          intro l1 y b e hle hz
          have hy:Inc m V y:=qdQ (by rw[e];simp)
          have hyl:=hy.1
          refine Ev.round 2 (L:=fun φ q=>Z5.l1 (mkR (run E (φ 0))) (φ 0) (φ 1) q (V:Int) true ((V+1:Nat):Int) (m:Int) x.1 x.2.1 x.2.2.1 x.2.2.2.1 (b:Int) false y) ?_ (fun _ _ _=>rfl)
          simp only[Z5.l1_succ _ qae]
          refine qax rfl (qaa (qmf (b:Int) false) ?_)
          cases b with
          | zero=>rw[if_pos (show((0:Nat):Int)=0 from rfl)];exact qax rfl qam
          | succ b =>
            rw[if_neg (by omega)]
            refine qaA rfl (qaa (qhe x y hx (qhl (by omega)) hs (qgD hy (by omega))) ?_)
            rw[qhx]
            by_cases h:qbV x y=0
            · rw[if_pos h];exact qax (by rw[h];rfl) qam
            · rw[if_neg h]
              refine qaA (by rw[beq_eq_false_iff_ne];exact h) ?_
              rcases qei hy (by omega) hm with ⟨i,a1,a2,a3,a4⟩ | ⟨a1,a2⟩
              · obtain⟨l3,h3⟩:=ql2 e a1 a2 a3
                injection h3 with h4 h5
                refine qaa a4 ?_
                show Ev fun φ=>Z5.l1 (mkR (run E (φ 0))) (φ 0) (φ 1) (φ 2) (V:Int) true ((V+1:Nat):Int) (m:Int) x.1 x.2.1 x.2.2.1 x.2.2.2.1 (w64 (((b+1:Nat):Int)-1)) false (nxt y i)=_
                rw[show w64 (((b+1:Nat):Int)-1)=(b:Int) by rw[qah (by omega) (by omega)];omega,← h4]
                exact ihl (l1++[y]) y2 b (by rw[e];simp) (by omega) fun z hzm=>by
                  rcases List.mem_append.1 hzm with hzm | hzm
                  · exact hz z hzm
                  · rw[List.mem_singleton] at hzm;subst hzm;exact h
              · have:=qos e a1;cases this
      obtain⟨l,hl⟩:=qpm hm
      refine Ev.round 1 (L:=fun φ q=>Z5.l0 (mkR (run E (φ 0))) (φ 0) q (V:Int) ((V+1:Nat):Int) (m:Int) x.1 x.2.1 x.2.2.1 x.2.2.2.1 (b:Int) false) ?_ (fun _ _ _=>rfl)
      simp only[Z5.l0_succ _ qae]
      refine qax (decide_eq_true (by omega)) (qaa (qhp m (by omega)) ?_)
      have h2:=inner l [] (qjE m) b hl hle (fun z hz=>by simp at hz)
      rw[qgY,hl]
      exact Ev.start (p:=fun φ n=>Z5.l1 (mkR (run E (φ 0))) (φ 0) (φ 1) n (V:Int) true ((V+1:Nat):Int) (m:Int) x.1 x.2.1 x.2.2.1 x.2.2.2.1 (b:Int) false (qjE m)=_) 2 h2 (fun _ _ _ h=>h)
  show Ev fun φ=>Z5.l0 (mkR (run E (φ 0))) (φ 0) (φ 0) (V:Int) (w64 ((V:Int)+1)) 0 x.1 x.2.1 x.2.2.1 x.2.2.2.1 (B:Int) false=_
  rw[eV]
  exact Ev.start (p:=fun φ n=>Z5.l0 (mkR (run E (φ 0))) (φ 0) n (V:Int) ((V+1:Nat):Int) ((0:Nat):Int) x.1 x.2.1 x.2.2.1 x.2.2.2.1 (B:Int) false=_) 1 (key (V+1) 0 B rfl (Nat.le_refl _) (fun m' h=>absurd h (Nat.not_lt_zero _))) (fun _ _ _ h=>h)
theorem ql4{V:Nat}{y:Sim}:∀ {d m:Nat},y∈qn8 V d m→y.length<m+d
 | 0,m,h=>by cases h
 | d+1,m,h=>by
  rw[qgY] at h
  rcases List.mem_append.1 h with h | h
  ·have:=qm7 h;omega
  ·have:=ql4 h;omega
theorem qeX(x:Shf)(k:Int)(hx:Sm (.st cS) x):Sm (.sl (.int .i64)) (qaL x k).1:=by
 have h0:Sm (.sl (.int .i64)) ([]:Sim):=qhl (by simp)
 unfold qaL
 split
 ·exact h0
 ·split
  ·exact h0
  ·have hV:(vxs x.1).length≤x.1.length:=qcm
   have h2:x.1.length≤1048576:=hx.1.1
   have hmem:=fun y fl b'=>qiS (fr:=qbV x) (y:=y) (fl:=fl) (b':=b') (l:=qn8 (vxs x.1).length ((vxs x.1).length+1) 0) (b:=k.toNat)
   generalize qc9 (qbV x) k.toNat (qn8 (vxs x.1).length ((vxs x.1).length+1) 0)=r at hmem
   obtain⟨o,fl,b⟩:=r
   cases o with
   | none=>exact h0
   | some y =>
    have:=ql4 (hmem y fl b rfl)
    exact qhl (by show y.length≤1048576;omega)
end VeT
open Go Go.Proofs Ve
namespace VeT
theorem qfn(x0:Shf)(x1:Int)(w0:Wf (.st cS) x0):Ret E n_Z76 [dLL x0.1,dI x0.2.1,dL x0.2.2.1,dMs x0.2.2.2.1,dI x1] ⟨.cons .bool .nil,(true,())⟩:=by
 refine qal ?_
 simp only[run_Z76,Z76.ev]
 obtain⟨r0,hs0,s0⟩:=qlx x0 1048576 w0 (by omega) (by omega)
 refine qaa hs0 (qdH (fun _=>qam) fun n0=>?_)
 have n0:=Int.not_lt.1 n0
 obtain⟨b0,m0⟩:=s0 n0
 have hi:=qdD x0 x1 m0
 have hsp:=qdE x0 x1 m0
 have hsm:=qeX x0 x1 m0
 generalize qaL x0 x1=V at hi hsp hsm
 obtain⟨v0,v1,⟨⟩⟩:=V
 have z0:Sm (.sl (.int .i64)) v0:=hsm
 obtain⟨qr0,hqr0,eqr0⟩:=qb7 v0 v0 z0
 obtain rfl:qr0=true:=eqr0.2 rfl
 have to0:=qlu x0 m0
 obtain⟨q0,hq0,eq0⟩:=qlF x0 x0 m0
 obtain rfl:q0=true:=eq0.2 rfl
 obtain⟨ma0,mb0,mc0,hm0,hmb0⟩:=qiY x0 m0
 have hk:¬ (qp3 x0 1<0):=by omega
 have mr0:=qb6 v0 (1) (by omega) z0.1
 have hl0:=qh1 (1) v0.length (by omega) z0.1
 have he0:¬ (1+(v0.length:Int)<0):=by omega
 repeat (first | with_reducible exact qam | with_reducible refine qaa hqr0 ?_ | with_reducible refine qaa to0 ?_ | with_reducible refine qaa hq0 ?_ | with_reducible refine qaa hi ?_ | with_reducible refine qaa hsp ?_ | with_reducible refine qaa hm0 ?_ | with_reducible refine qaa mr0 ?_ | with_reducible refine qaa hl0 ?_ | with_reducible refine qbO ?_ ?_ | with_reducible refine qaA (by first | rfl | exact bne_self_eq_false _ | exact decide_eq_false hk | exact decide_eq_false he0 | (simp;done)) ?_ | simp only[bne_self_eq_false,Z76.j0_eq _ qae,Z76.j1_eq _ qae,Z76.j2_eq _ qae,cond_false])
theorem qmo(z:((.cons (.sl (.sl (.int .i64))) (.cons (.int .i64) (.cons (.sl (.int .i64)) (.cons (.sl (.st cM)) (.cons (.int .i64) .nil))))):Ty).T)
  (h:Wf (.cons (.sl (.sl (.int .i64))) (.cons (.int .i64) (.cons (.sl (.int .i64)) (.cons (.sl (.st cM)) (.cons (.int .i64) .nil))))) z) :
  Evt fun n=>run E n n_Z76 (qbf _ z)=some ⟨.cons .bool .nil,(true,())⟩ :=
 qfn (z.1,z.2.1,z.2.2.1,z.2.2.2.1,()) z.2.2.2.2.1 ⟨h.1,h.2.1,h.2.2.1,h.2.2.2.1,trivial⟩
end VeT
