import Derived.Test.YtjnnliedeobfgaaGreatT6
import Derived.Test.YtjnnliedeobfgaaGreatT5
set_option linter.unusedVariables false
set_option linter.unusedSimpArgs false
open Go Go.Proofs Ve
namespace VeT
open Classical in
noncomputable def cnt(f:Nat→Prop):Nat→Nat
 | 0=>0
 | n+1=>cnt f n+if f n then 1 else 0
theorem qf8{f g:Nat→Prop}:∀ {n:Nat},(∀ c,c<n→f c→g c)→cnt f n≤cnt g n
 | 0,_=>Nat.le_refl _
 | n+1,h=>by
  have:=qf8 (n:=n) fun c hc=>h c (by omega)
  unfold cnt
  by_cases hf:f n
  ·rw[if_pos hf,if_pos (h n (by omega) hf)];omega
  ·rw[if_neg hf];omega
theorem qeR{f g:Nat→Prop}{n:Nat}(h:∀ c,c<n→(f c↔g c)):cnt f n=cnt g n :=
 Nat.le_antisymm (qf8 fun c hc=>(h c hc).1) (qf8 fun c hc=>(h c hc).2)
theorem qnj{f:Nat→Prop}:∀ {n:Nat},(∀ c,c<n→¬ f c)→cnt f n=0
 | 0,_=>rfl
 | n+1,h=>by
  unfold cnt
  rw[qnj fun c hc=>h c (by omega),if_neg (h n (by omega))]
theorem qmP{f:Nat→Prop}{k:Nat}:∀ {n:Nat},k<n→¬ f k→cnt (fun c=>f c∨c=k) n=cnt f n+1
 | 0,h,_=>by omega
 | n+1,h,hk=>by
  unfold cnt
  by_cases e:k=n
  ·subst e
   have:cnt (fun c=>f c∨c=k) k=cnt f k:=qeR fun c hc=>⟨fun h=>h.elim id fun e=>by omega,.inl⟩
   rw[this,if_pos (.inr rfl),if_neg hk]
  ·rw[qmP (by omega) hk]
   by_cases hf:f n
   ·rw[if_pos (.inl hf),if_pos hf]
   ·rw[if_neg (fun h=>h.elim hf fun e'=>e e'.symm),if_neg hf]
theorem qhJ{W:Nat}:∀ {l:List Nat},l.Nodup→(∀ c∈l,c<W)→cnt (fun c=>c∈l) W=l.length
 | [],_,_=>qnj fun c _ h=>by cases h
 | a::l,hn,hl=>by
  obtain⟨h1,h2⟩:=List.nodup_cons.1 hn
  have e:=qhJ h2 fun c hc=>hl c (List.mem_cons_of_mem _ hc)
  rw[List.length_cons,← e,← qmP (hl a List.mem_cons_self) h1]
  exact qeR fun c _=>by rw[List.mem_cons];exact Or.comm
def Ld(p:Int)(W:Nat)(V:(Nat→Int)→Prop)(c:Nat):Prop:=c<W∧∃ x,V x∧(∀ j,j<c→x j%p=0)∧x c%p≠0
noncomputable def rkV(p:Int)(W:Nat)(V:(Nat→Int)→Prop):Nat:=cnt (Ld p W V) W
theorem Ld.mono{p:Int}{W:Nat}{V V':(Nat→Int)→Prop}(h:∀ x,V x→V' x){c:Nat}:Ld p W V c→Ld p W V' c:=fun⟨h1,x,hx,h2⟩=>⟨h1,x,h x hx,h2⟩
theorem qiv{p:Int}{W:Nat}{V V':(Nat→Int)→Prop}(h:∀ x,V x↔V' x):rkV p W V=rkV p W V':=qeR fun c _=>⟨Ld.mono fun x=>(h x).1,Ld.mono fun x=>(h x).2⟩
theorem qnf{p:Int}{W:Nat}{V V':(Nat→Int)→Prop}(h:∀ x,V x→V' x):rkV p W V≤rkV p W V':=qf8 fun c _=>Ld.mono h
theorem qkj{p:Int}{c g:Nat→Int}:∀ {n:Nat},(∀ i,i<n→c i*g i%p=0)→qaM c g n%p=0
 | 0,_=>by simp[qaM]
 | n+1,h=>by
  rw[show qaM c g (n+1)=qaM c g n+c n*g n from rfl,Int.add_emod,qkj fun i hi=>h i (by omega),h n (by omega)];simp
theorem Rf.nodup{R W:Nat}{F:Ent}{pv:List Nat}(h:Rf R W F pv):pv.Nodup∧∀ c∈pv,c<W:=by
 have hg:∀ i (hi:i<pv.length),pv.getD i 0=pv[i]:=fun i hi=>by rw[List.getD_eq_getElem?_getD,List.getElem?_eq_getElem hi];rfl
 constructor
 ·refine List.pairwise_iff_getElem.2 fun i j hi hj hij=>?_
  have:=h.mono i j hij hj
  rw[hg i hi,hg j hj] at this
  omega
 ·intro c hc
  obtain⟨i,hi,rfl⟩:=List.mem_iff_getElem.1 hc
  have:=h.lt i hi
  rwa [hg i hi] at this
theorem Rf.mem{R W:Nat}{F:Ent}{pv:List Nat}(h:Rf R W F pv){c:Nat}:c∈pv↔∃ i,i<pv.length∧pv.getD i 0=c:=by
 rw[List.mem_iff_getElem]
 constructor
 ·rintro⟨i,hi,rfl⟩;exact⟨i,hi,by rw[List.getD_eq_getElem?_getD,List.getElem?_eq_getElem hi];rfl⟩
 ·rintro⟨i,hi,rfl⟩;exact⟨i,hi,by rw[List.getD_eq_getElem?_getD,List.getElem?_eq_getElem hi];rfl⟩
theorem Rf.coef{p:Int}{R W:Nat}{F:Ent}{pv:List Nat}(h:Rf R W F pv){v:Nat→Int}(hv:Spn p R W F v){j:Nat}(hj:j<W) :
  v j%p=qaM (fun k=>v (pv.getD k 0)) (fun k=>F k j) pv.length%p:=by
 obtain⟨c,hc⟩:=hv
 have h0:∀ j,j<W→qaM c (fun i=>F i j) R=qaM c (fun i=>F i j) pv.length:=fun j hj=>qgo h.len fun i h1 h2=>h.bot i j h1 h2 hj
 have hk:∀ k,k<pv.length→v (pv.getD k 0)%p=c k%p:=fun k hk=>by
  rw[← hc _ (h.lt k hk),h0 _ (h.lt k hk),qaK]
  congr 1
  rw[← qcJ (g:=c) hk]
  exact qaz fun i hi=>⟨h.one i k (Nat.lt_of_lt_of_le hi h.len) hk,rfl⟩
 rw[← hc j hj,h0 j hj,qaK,qaK (c:=fun k=>v (pv.getD k 0))]
 exact qco fun i hi=>(hk i hi).symm
theorem Rf.low0{p:Int}{R W:Nat}{F:Ent}{pv:List Nat}(h:Rf R W F pv){v:Nat→Int}(hv:Spn p R W F v){d:Nat}(hd:d<W)(hn:d∉pv)(h0:∀ k,k<pv.length→pv.getD k 0<d→v (pv.getD k 0)%p=0):∀ j,j≤d→v j%p=0:=by
 intro j hj
 rw[h.coef hv (by omega)]
 refine qkj fun k hk=>?_
 rcases Nat.lt_trichotomy (pv.getD k 0) d with e | e | e
 ·rw[Int.mul_emod,h0 k hk e];simp
 ·exact absurd (h.mem.2 ⟨k,hk,e⟩) hn
 ·rw[h.low k j hk (by omega)];simp
theorem qrN{p:Int}{R W:Nat}{F:Ent}{pv:List Nat}(hp:2≤p)(h:Rf R W F pv){c:Nat}:Ld p W (Spn p R W F) c↔c∈pv:=by
 constructor
 ·rintro⟨hc,x,hx,h1,h2⟩
  refine Classical.byContradiction fun hn=>h2 ?_
  exact h.low0 hx hc hn (fun k hk e=>h1 _ e) c (Nat.le_refl _)
 ·intro hm
  obtain⟨i,hi,rfl⟩:=h.mem.1 hm
  have hiR:=Nat.lt_of_lt_of_le hi h.len
  refine⟨h.lt i hi,F i,Spn.row hiR,fun j hj=>by rw[h.low i j hi hj];simp,?_⟩
  rw[h.one i i hiR hi,if_pos rfl,Int.emod_eq_of_lt (by omega) (by omega)]
  omega
theorem qsE{p:Int}{R W:Nat}{F:Ent}{pv:List Nat}(hp:2≤p)(h:Rf R W F pv):rkV p W (Spn p R W F)=pv.length:=by
 rw[← qhJ h.nodup.1 h.nodup.2]
 exact qeR fun c _=>qrN hp h
noncomputable def rk(p:Int)(W:Nat)(rows:List Sim):Nat:=rkV p W (Spn p rows.length W (qdp rows))
theorem Eqv.spn{p:Int}{R W:Nat}{A B:Ent}(h:Eqv p R W A B){x:Nat→Int}:Spn p R W A x↔Spn p R W B x:=⟨fun hx=>Spn.trans h.2 hx,fun hx=>Spn.trans h.1 hx⟩
theorem qi9{p:Int}{R W:Nat}{A:Ent}(hp:Pr p)(hA:EIn p R W A):(elS p R A W).2.length=rkV p W (Spn p R W A):=by
 obtain⟨h1,h2⟩:=qen hp hA W (Nat.le_refl _)
 rw[← qsE hp.1 h1]
 exact qiv fun x=>h2.spn.symm
theorem InR.spn{p:Int}{W:Nat}{A B:List Sim}(h:∀ r∈A,InR p W B r){x:Nat→Int}(hx:Spn p A.length W (qdp A) x):Spn p B.length W (qdp B) x :=
 Spn.trans (fun i hi=>by
  have e:qdp A i=fun j=>(A[i]).getD j 0:=by funext j;unfold qdp;rw[qah hi]
  rw[e];exact h _ (List.getElem_mem hi)) hx
theorem qrn{p:Int}{W:Nat}{A B:List Sim}(h:∀ r∈A,InR p W B r):rk p W A≤rk p W B:=qnf fun x hx=>InR.spn h hx
theorem qo6{p:Int}{W:Nat}{A B:List Sim}(h:∀ r∈A,InR p W B r)(k:∀ r∈B,InR p W A r):rk p W A=rk p W B:=Nat.le_antisymm (qrn h) (qrn k)
theorem qsH{p:Int}{W:Nat}{A:List Sim}(hp:Pr p)(hA:Rws p W A):rk p W A≤A.length:=by
 have:=qi9 hp (qe3 hA)
 have h2:=(qc7 hp.1 (qe3 hA) W).2.1
 unfold rk;omega
theorem qqP{rows:List Sim}{x:Sim}{i:Nat}(hi:i<rows.length):qdp (rows++[x]) i=qdp rows i:=by
 have:(rows++[x]).getD i []=rows.getD i []:=by rw[List.getD_eq_getElem?_getD,List.getElem?_append_left hi,← List.getD_eq_getElem?_getD]
 funext j
 unfold qdp
 rw[this]
theorem qpz{rows:List Sim}{x:Sim}:qdp (rows++[x]) rows.length=fun j=>x.getD j 0:=by
 have:(rows++[x]).getD rows.length []=x:=by rw[List.getD_eq_getElem?_getD,List.getElem?_append_right (Nat.le_refl _),Nat.sub_self];rfl
 funext j
 unfold qdp
 rw[this]
theorem Spn.app{p:Int}{W:Nat}{rows:List Sim}{x:Sim}{z:Nat→Int}(h:Spn p (rows++[x]).length W (qdp (rows++[x])) z) :
  ∃(a:Int) (v:Nat→Int),Spn p rows.length W (qdp rows) v∧∀ j,j<W→z j%p=(v j+a*x.getD j 0)%p:=by
 obtain⟨c,hc⟩:=h
 refine⟨c rows.length,fun j=>qaM c (fun i=>qdp rows i j) rows.length,⟨c,fun j _=>rfl⟩,fun j hj=>?_⟩
 rw[← hc j hj,List.length_append,List.length_singleton]
 show(qaM c _ rows.length+c rows.length*qdp (rows++[x]) rows.length j)%p=_
 rw[qpz,qaz (d:=c) (h:=fun i=>qdp rows i j) fun i hi=>⟨rfl,by rw[qqP hi]⟩]
theorem qs1{f:Nat→Prop}{n:Nat}(h:∃ j,j<n∧f j):∃ c,c<n∧f c∧∀ j,j<c→¬ f j:=by
 induction n with
 | zero=>obtain⟨j,hj,_⟩:=h;omega
 | succ n ih =>
  by_cases h2:∃ j,j<n∧f j
  ·obtain⟨c,h3,h4⟩:=ih h2;exact⟨c,by omega,h4⟩
  ·obtain⟨j,hj,hf⟩:=h
   have:j=n:=Classical.byContradiction fun e=>h2 ⟨j,by omega,hf⟩
   subst this
   exact⟨j,by omega,hf,fun k hk hf'=>h2 ⟨k,hk,hf'⟩⟩
theorem qsR{p a b:Int}(hp:Pr p)(ha:a%p≠0)(hb:b%p≠0):a*b%p≠0:=by
 intro h
 have hp2:2≤p:=hp.1
 have a1:=Int.emod_nonneg a (show p≠0 by omega)
 have a2:=Int.emod_lt_of_pos a (show 0<p by omega)
 have hi:=qmU hp (a:=a%p) (by omega) (by omega)
 apply hb
 have e:b%p=(a%p*qhl (a%p) p)%p*b%p:=by rw[hi,Int.one_mul]
 generalize qhl (a%p) p=q at e
 have h1:a%p*q%p*b%p=a*q*b%p:=qc8 ((Int.emod_emod_of_dvd _ (Int.dvd_refl p)).trans (qc8 (Int.emod_emod_of_dvd _ (Int.dvd_refl p)) rfl)) rfl
 rw[e,h1,show a*q*b=q*(a*b) by rw[Int.mul_comm a q,Int.mul_assoc],qc8 (p:=p) (x:=q) (x':=q) rfl (h.trans (Int.zero_emod p).symm)]
 simp
theorem qrf{p:Int}{W:Nat}{rows:List Sim}{x:Sim}(hp:Pr p)(hr:Rws p W rows)(hx:¬ InR p W rows x):rk p W (rows++[x])=rk p W rows+1:=by
 have hp2:2≤p:=hp.1
 obtain⟨hrf,heq⟩:=qen hp (qe3 hr) W (Nat.le_refl _)
 have hrk:=qi9 hp (qe3 hr)
 generalize elS p rows.length (qdp rows) W=S at hrf heq hrk
 obtain⟨F,pv⟩:=S
 simp only at hrf heq hrk
 -- what is left of x
 let s:Nat→Int:=fun j=>qaM (fun k=>-(x.getD (pv.getD k 0) 0)) (fun k=>F k j) pv.length
 let y:Nat→Int:=fun j=>x.getD j 0+s j
 have hs:Spn p rows.length W (qdp rows) s:=Spn.sum (B:=F) fun i hi=>heq.1 i (Nat.lt_of_lt_of_le hi hrf.len)
 have hyp:∀ k,k<pv.length→y (pv.getD k 0)=0:=fun k hk=>by
  show x.getD (pv.getD k 0) 0+s (pv.getD k 0)=0
  have:s (pv.getD k 0)=-(x.getD (pv.getD k 0) 0):=by
   show qaM _ _ _=_
   rw[qaK,← qcJ (g:=fun k=>-(x.getD (pv.getD k 0) 0)) hk]
   exact qaz fun i hi=>⟨hrf.one i k (Nat.lt_of_lt_of_le hi hrf.len) hk,rfl⟩
  omega
 have hne:∃ j,j<W∧y j%p≠0:=Classical.byContradiction fun hn=>hx <| by
  refine(hs.smul (-1)).congr fun j hj=>?_
  have hy0:y j%p=0:=Classical.byContradiction fun h=>hn ⟨j,hj,h⟩
  have:x.getD j 0=-1*s j+y j:=by show _=_+(_+_);omega
  rw[this,Int.add_emod,hy0,Int.add_zero,Int.emod_emod_of_dvd _ (Int.dvd_refl p)]
 obtain⟨c,hc,hyc,hcl⟩:=qs1 hne
 have hcl:∀ j,j<c→y j%p=0:=fun j hj=>Classical.byContradiction (hcl j hj)
 have hcn:c∉pv:=fun hm=>by
  obtain⟨k,hk,rfl⟩:=hrf.mem.1 hm
  exact hyc (by rw[hyp k hk];simp)
 have hxs:Spn p (rows++[x]).length W (qdp (rows++[x])) (fun j=>x.getD j 0):=InR.mem (List.mem_append.2 (.inr (List.mem_singleton.2 rfl)))
 have hup:∀ z,Spn p rows.length W (qdp rows) z→Spn p (rows++[x]).length W (qdp (rows++[x])) z:=fun z hz=>InR.spn (fun r hr=>InR.mem (List.mem_append.2 (.inl hr))) hz
 have hmain:∀ d,d<W→(Ld p W (Spn p (rows++[x]).length W (qdp (rows++[x]))) d↔d∈pv∨d=c):=fun d hd=>by
  constructor
  ·rintro⟨_,z,hz,z1,z2⟩
   refine Classical.byContradiction fun hn=>?_
   have hdn:d∉pv:=fun h=>hn (.inl h)
   have hdc:d≠c:=fun h=>hn (.inr h)
   obtain⟨a,v0,hv0,hzv⟩:=Spn.app hz
   -- z = v + a y
   let v:Nat→Int:=fun j=>v0 j+(-a)*s j
   have hv:Spn p rows.length W F v:=heq.spn.1 (hv0.add (hs.smul (-a)))
   have hzy:∀ j,j<W→z j%p=(v j+a*y j)%p:=fun j hj=>by
    rw[hzv j hj]
    congr 1
    show _=v0 j+-a*s j+a*(x.getD j 0+s j)
    rw[Int.mul_add,Int.neg_mul];omega
   have hv0':∀ k,k<pv.length→pv.getD k 0<d→v (pv.getD k 0)%p=0:=fun k hk hkd=>by
    have:=hzy _ (hrf.lt k hk)
    rw[hyp k hk,Int.mul_zero,Int.add_zero,z1 _ hkd] at this
    exact this.symm
   have hvl:=hrf.low0 hv hd hdn hv0'
   have hza:∀ j,j≤d→z j%p=a*y j%p:=fun j hj=>by
    rw[hzy j (by omega),Int.add_emod,hvl j hj,Int.zero_add,Int.emod_emod_of_dvd _ (Int.dvd_refl p)]
   have hyd:y d%p≠0:=fun h=>z2 (by rw[hza d (Nat.le_refl _),Int.mul_emod,h];simp)
   have ha:a%p≠0:=fun h=>z2 (by rw[hza d (Nat.le_refl _),Int.mul_emod,h];simp)
   have hcd:c<d:=by
    rcases Nat.lt_trichotomy c d with h | h | h
    ·exact h
    ·exact absurd h.symm hdc
    ·exact absurd (hcl d h) hyd
   have:=z1 c hcd
   rw[hza c (by omega)] at this
   exact qsR hp ha hyc this
  ·rintro(hm | rfl)
   ·obtain⟨h1,z,hz,h2⟩:=(qrN hp2 hrf).2 hm
    exact⟨h1,z,hup z (heq.spn.2 hz),h2⟩
   ·exact⟨hd,y,hxs.add (hup s hs),hcl,hyc⟩
 unfold rk rkV
 rw[qeR hmain,qmP hc hcn,qhJ hrf.nodup.1 hrf.nodup.2,hrk]
 rfl
theorem qpp{p:Int}{W:Nat}(hp:Pr p):∀ {l h:List Sim},Rws p W h→Rws p W l→rk p W (h++l)=rk p W h+(qnq p W h l).length
 | [],h,_,_=>by simp[qnq]
 | x::xs,h,hh,hl=>by
  have hx:=hl x List.mem_cons_self
  have hxs:Rws p W xs:=fun r hr=>hl r (List.mem_cons_of_mem _ hr)
  have hhx:Rws p W (h++[x]):=fun r hr=>by
   rcases List.mem_append.1 hr with hr | hr
   ·exact hh r hr
   ·rw[List.mem_singleton] at hr;subst hr;exact hx
  unfold qnq
  by_cases hin:InR p W h x
  ·rw[if_pos hin,← qpp hp hh hxs]
   refine qo6 (fun r hr=>?_) fun r hr=>?_
   ·rcases List.mem_append.1 hr with hr | hr
    ·exact InR.mem (List.mem_append.2 (.inl hr))
    ·rcases List.mem_cons.1 hr with rfl | hr
     ·exact InR.trans (fun r hr=>InR.mem (List.mem_append.2 (.inl hr))) hin
     ·exact InR.mem (List.mem_append.2 (.inr hr))
   ·rcases List.mem_append.1 hr with hr | hr
    ·exact InR.mem (List.mem_append.2 (.inl hr))
    ·exact InR.mem (List.mem_append.2 (.inr (List.mem_cons_of_mem _ hr)))
  ·rw[if_neg hin,List.length_cons,show h++x::xs=(h++[x])++xs by simp,qpp hp hhx hxs,qrf hp hh hin]
   omega
end VeT
open Go Go.Proofs Ve
namespace VeT
theorem Spn.nil_at{p:Int}{R W:Nat}{A:Ent}{x:Nat→Int}{j:Nat}(hj:j<W)(h:∀ i,i<R→A i j=0)(hx:Spn p R W A x):x j%p=0:=by
 obtain⟨c,hc⟩:=hx
 rw[← hc j hj]
 exact qkj fun i hi=>by rw[h i hi,Int.mul_zero];simp
theorem qoF{p:Int}{R W:Nat}{pv:List Nat}{F:Ent}(hrf:Rf R W F pv){n j:Nat}(hj:j<W)(hjp:j∉pv)(hn:n≤j):∀ x∈qht p W pv F n,x.getD j 0=0:=by
 induction n with
 | zero=>intro x hx;cases hx
 | succ n ih =>
  intro x hx
  rw[qht,List.mem_append] at hx
  rcases hx with hx | hx
  ·exact ih (by omega) x hx
  ·split at hx
   ·cases hx
   ·rw[List.mem_singleton] at hx
    subst hx
    rw[qe1 hrf hj hjp (by omega) _ (Nat.le_refl _),if_neg (by omega)]
theorem qqU{p:Int}{R W:Nat}{pv:List Nat}{F:Ent}(hp:Pr p)(hrf:Rf R W F pv){n:Nat}(hn:n<W)(hnp:n∉pv):¬ InR p W (qht p W pv F n) (qk1 p W pv F n pv.length):=fun h=>by
 have hp2:2≤p:=hp.1
 have h0:=Spn.nil_at hn (fun i hi=>by
  unfold qdp
  rw[qah hi]
  exact qoF hrf hn hnp (Nat.le_refl _) _ (List.getElem_mem hi)) h
 rw[qe1 hrf hn hnp hn _ (Nat.le_refl _),if_pos rfl,Int.emod_eq_of_lt (by omega) (by omega)] at h0
 omega
theorem qoM{p:Int}{R W:Nat}{pv:List Nat}{F:Ent}(hp:Pr p)(hrf:Rf R W F pv):∀ {n:Nat},n≤W→rk p W (qht p W pv F n)=(qht p W pv F n).length∧(qht p W pv F n).length+cnt (fun c=>c∈pv) n=n
 | 0,_=>by
  refine⟨?_,rfl⟩
  have:=qsH (W:=W) hp (A:=qht p W pv F 0) (fun x hx=>by cases hx)
  exact Nat.le_antisymm this (Nat.zero_le _)
 | n+1,hn=>by
  obtain⟨h1,h2⟩:=qoM hp hrf (n:=n) (by omega)
  have hr:Rws p W (qht p W pv F n):=fun x hx=>qhL hp.1 hx
  unfold cnt
  rw[qht]
  by_cases h:n∈pv
  ·rw[if_pos h,if_pos h,List.append_nil]
   exact⟨h1,by omega⟩
  ·rw[if_neg h,if_neg h,qrf hp hr (qqU hp hrf (by omega) h),List.length_append,List.length_singleton]
   exact⟨by omega,by omega⟩
noncomputable def rkM(p:Int)(R W:Nat)(cells:Sim):Nat:=(elS p R (qbp cells W) W).2.length
theorem qr5{p:Int}{R W:Nat}{cells:Sim}(hp:Pr p)(hl:cells.length=R*W)(he:qaE cells p):rk p W (qlZ p R W cells)=(qlZ p R W cells).length∧(qlZ p R W cells).length+rkM p R W cells=W:=by
 obtain⟨hrf,_⟩:=qen hp (qbo he hl) W (Nat.le_refl _)
 obtain⟨h1,h2⟩:=qoM hp hrf (Nat.le_refl W)
 rw[qhJ hrf.nodup.1 hrf.nodup.2] at h2
 exact⟨h1,h2⟩
theorem qjL{A:Ent}{R W i j:Nat}(hi:i<R)(hj:j<W):qdp (qaB A R W) i j=A i j:=by
 unfold qdp
 rw[List.getD_eq_getElem?_getD (l:=qaB A R W),qba hi]
 show((List.range W).map (A i)).getD j 0=_
 rw[List.getD_eq_getElem?_getD,qeV hj];rfl
theorem Spn.ent{p:Int}{R W:Nat}{A B:Ent}(h:∀ i j,i<R→j<W→A i j=B i j){x:Nat→Int}(hx:Spn p R W A x):Spn p R W B x:=by
 obtain⟨c,hc⟩:=hx
 exact⟨c,fun j hj=>(by rw[← hc j hj];congr 1;exact qaz fun i hi=>⟨rfl,(h i j hi hj).symm⟩)⟩
theorem qns{p:Int}{R W:Nat}{A:Ent}:rk p W (qaB A R W)=rkV p W (Spn p R W A):=by
 unfold rk
 rw[qaA]
 exact qiv fun x=>⟨Spn.ent fun i j hi hj=>qjL hi hj,Spn.ent fun i j hi hj=>(qjL hi hj).symm⟩
theorem qoX{p:Int}{R W:Nat}{A:Ent}(hA:EIn p R W A):Rws p W (qaB A R W):=fun x hx=>by
 obtain⟨i,hi,rfl⟩:=List.mem_map.1 hx
 refine⟨by simp,fun y hy=>?_⟩
 obtain⟨j,hj,rfl⟩:=List.mem_map.1 hy
 exact hA i j (List.mem_range.1 hi) (List.mem_range.1 hj)
theorem qjC{p:Int}{R W:Nat}{A:Ent}(hp:Pr p)(hA:EIn p R W A):rkV p R (Spn p W R fun j i=>A i j)≤rkV p W (Spn p R W A):=by
 obtain⟨hrf,heq⟩:=qen hp hA W (Nat.le_refl _)
 have hrk:=qi9 hp hA
 generalize elS p R A W=S at hrf heq hrk
 obtain⟨F,pv⟩:=S
 simp only at hrf heq hrk
 rw[← hrk]
 let B:Ent:=fun k i=>A i (pv.getD k 0)
 have hB:EIn p pv.length R B:=fun k i hk hi=>hA i _ hi (hrf.lt k hk)
 have h1:rkV p R (Spn p W R fun j i=>A i j)≤rkV p R (Spn p pv.length R B):=qnf fun x hx=>by
  refine Spn.trans (B:=fun j i=>A i j) (R':=W) (fun j hj=>⟨fun k=>F k j,fun i hi=>?_⟩) hx
  have:=hrf.coef (heq.1 i hi |> fun _=>heq.spn.1 (Spn.row hi)) hj
  show qaM (fun k=>F k j) (fun k=>A i (pv.getD k 0)) pv.length%p=A i j%p
  rw[this,qaK]
 have h2:=qsH hp (qoX hB)
 rw[qns,qaA] at h2
 omega
theorem qpe{p:Int}{R W:Nat}{A:Ent}(hp:Pr p)(hA:EIn p R W A):rkV p R (Spn p W R fun j i=>A i j)=rkV p W (Spn p R W A) :=
 Nat.le_antisymm (qjC hp hA) (qjC (A:=fun j i=>A i j) hp fun i j hi hj=>hA j i hj hi)
theorem qqQ{p:Int}{W C:Nat}{cells:Sim}(hp:Pr p)(hl:cells.length=W*C)(he:qaE cells p):rk p W (qb7 W C cells)=rkM p W C cells:=by
 have hA:=qbo he hl
 have e:qb7 W C cells=qaB (fun j i=>qbp cells C i j) C W:=rfl
 rw[e,qns,qpe hp hA]
 exact(qi9 hp hA).symm
theorem qrz{p:Int}{W C R:Nat}{cb ck:Sim}(hp:Pr p)(hl:cb.length=W*C)(he:qaE cb p)(hlk:ck.length=R*W)(hek:qaE ck p)
  (h0:∀ j,j<C→∀ i,i<R→qaM (fun a=>qbp cb C a j) (qbp ck W i) W%p=0) :
  (qnq p W (qb7 W C cb) (qlZ p R W ck)).length+rkM p W C cb+rkM p R W ck=W:=by
 have hcr:=(qff hl he).2.2
 have hkr:Rws p W (qlZ p R W ck):=fun x hx=>qhL hp.1 hx
 have h1:=qpp hp (l:=qlZ p R W ck) hcr hkr
 have h2:rk p W (qb7 W C cb++qlZ p R W ck)=rk p W (qlZ p R W ck):=qo6 (fun r hr=>by
  rcases List.mem_append.1 hr with hr | hr
  ·obtain⟨j,hj,rfl⟩:=List.mem_map.1 hr
   have hj:=List.mem_range.1 hj
   refine qpf hp hlk hek fun i hi=>?_
   refine Eq.trans (congrArg (·%p) (qaz fun a ha=>⟨?_,rfl⟩)) (h0 j hj i hi)
   show((List.range W).map fun a=>cb.getD (a*C+j) 0).getD a 0=cb.getD (a*C+j) 0
   rw[List.getD_eq_getElem?_getD,List.getElem?_map,List.getElem?_range ha];rfl
  ·exact InR.mem hr) fun r hr=>InR.mem (List.mem_append.2 (.inr hr))
 have h3:=qqQ hp hl he
 obtain⟨h4,h5⟩:=qr5 hp hlk hek
 omega
end VeT
open Go Go.Proofs Ve
namespace VeT
def sN(f:Nat→Int):Nat→Int
 | 0=>0
 | n+1=>sN f n+f n
theorem qmJ{c g:Nat→Int}:∀ {n:Nat},qaM c g n=sN (fun i=>c i*g i) n
 | 0=>rfl
 | n+1=>by show qaM c g n+c n*g n=_;rw[qmJ];rfl
theorem qgp{f g:Nat→Int}:∀ {n:Nat},(∀ i,i<n→f i=g i)→sN f n=sN g n
 | 0,_=>rfl
 | n+1,h=>by unfold sN;rw[qgp fun i hi=>h i (by omega),h n (by omega)]
theorem qeS{f:Nat→Int}:∀ {n:Nat},(∀ i,i<n→f i=0)→sN f n=0
 | 0,_=>rfl
 | n+1,h=>by unfold sN;rw[qeS fun i hi=>h i (by omega),h n (by omega)];rfl
theorem qrq{f g:Nat→Int}:∀ {n:Nat},sN (fun i=>f i+g i) n=sN f n+sN g n
 | 0=>rfl
 | n+1=>by unfold sN;rw[qrq];omega
theorem qko{f:Nat→Int}{m:Nat}:∀ {n:Nat},sN f (m+n)=sN f m+sN (fun i=>f (m+i)) n
 | 0=>by simp[sN]
 | n+1=>by
  show sN f (m+n)+f (m+n)=sN f m+(sN (fun i=>f (m+i)) n+f (m+n))
  rw[qko];omega
theorem qpM{f:Nat→Nat→Int}{W:Nat}:∀ {N:Nat},sN (fun a=>sN (fun t=>f a t) N) W=sN (fun t=>sN (fun a=>f a t) W) N
 | 0=>qeS fun _ _=>rfl
 | N+1=>by
  have:sN (fun a=>sN (fun t=>f a t) (N+1)) W=sN (fun a=>sN (fun t=>f a t) N+f a N) W:=rfl
  rw[this,qrq,qpM];rfl
theorem qoG{p:Int}{f g:Nat→Int}:∀ {n:Nat},(∀ i,i<n→f i%p=g i%p)→sN f n%p=sN g n%p
 | 0,_=>rfl
 | n+1,h=>by unfold sN;rw[Int.add_emod,qoG fun i hi=>h i (by omega),h n (by omega),← Int.add_emod]
theorem qq8{f:Nat→Int}{k:Int}:∀ {n:Nat},sN (fun i=>k*f i) n=k*sN f n
 | 0=>by simp[sN]
 | n+1=>by unfold sN;rw[qq8,Int.mul_add]
theorem qqN{f:Nat→Int}{L n W:Nat}(hW:L+n≤W)(h:∀ i,i<W→¬ (L≤i∧i<L+n)→f i=0):sN f W=sN (fun b=>f (L+b)) n:=by
 obtain⟨r,rfl⟩:∃ r,W=L+n+r:=⟨W-(L+n),by omega⟩
 rw[qko,qko,qeS (n:=L) fun i hi=>h i (by omega) (by omega),qeS (n:=r) fun i hi=>h _ (by omega) (by omega)]
 omega
theorem qpI{P:Nat→Prop}[DecidablePred P]{v:Int}{u:Nat}:∀ {N:Nat},u<N→P u→(∀ t,t<N→P t→t=u)→sN (fun t=>if P t then v else 0) N=v
 | 0,hu,_,_=>by omega
 | N+1,hu,hp,h=>by
  show sN (fun t=>if P t then v else 0) N+(if P N then v else 0)=v
  by_cases hN:u=N
  ·subst hN
   rw[if_pos hp,qeS fun t ht=>if_neg fun hpt=>by have:=h t (by omega) hpt;omega];omega
  ·rw[qpI (u:=u) (by omega) hp fun t ht=>h t (by omega),if_neg fun hpt=>hN (h N (by omega) hpt).symm];omega
theorem qqh{f:Nat→Int}{L n:Nat→Nat}{N W:Nat}(hW:∀ t,t<N→L t+n t≤W)(hd:∀ t u i,t<N→u<N→L t≤i→i<L t+n t→L u≤i→i<L u+n u→t=u)
  (h0:∀ i,i<W→(∀ t,t<N→¬ (L t≤i∧i<L t+n t))→f i=0):sN f W=sN (fun t=>sN (fun b=>f (L t+b)) (n t)) N:=by
 classical
 have e:sN f W=sN (fun a=>sN (fun t=>if L t≤a∧a<L t+n t then f a else 0) N) W:=qgp fun a ha=>by
  by_cases he:∃ t,t<N∧(L t≤a∧a<L t+n t)
  ·obtain⟨u,hu,hau⟩:=he
   exact(qpI hu hau fun t ht hat=>hd t u a ht hu hat.1 hat.2 hau.1 hau.2).symm
  ·rw[h0 a ha fun t ht h=>he ⟨t,ht,h⟩]
   exact(qeS fun t ht=>by split<;>rfl).symm
 rw[e,qpM]
 refine qgp fun t ht=>?_
 rw[qqN (hW t ht) fun i _ h=>if_neg h]
 exact qgp fun b hb=>if_pos ⟨by omega,by omega⟩
theorem qpT{c:List Sim}{st:Sim}(hst:∀ x∈st,0≤x∧x≤3){d:Int}{r:Nat}:∀ {n:Nat},r<(SDn c st d n).toNat→∃ s,s<n∧((c.getD s []).length:Int)=d+1∧∃ i,i<(st.getD s 0).toNat∧r=(FC c st s).toNat+i
 | 0,h=>by simp[SDn,qak] at h
 | n+1,h=>by
  have h1:=qlN (c:=c) (d:=d) hst (n:=n)
  have h2:=qkq hst n
  by_cases hr:r<(SDn c st d n).toNat
  ·obtain⟨s,hs,h3⟩:=qpT hst hr;exact⟨s,by omega,h3⟩
  ·rw[qe9] at h
   split at h
   ·rename_i hd
    have e:FC c st n=SDn c st d n:=by unfold FC;rw[show((c.getD n []).length:Int)-1=d by omega]
    exact⟨n,by omega,hd,r-(SDn c st d n).toNat,by omega,by rw[e];omega⟩
   ·omega
theorem qmL{c:List Sim}(h:VC c){a b:Nat}(ha:a<c.length)(hb:b<c.length)(e:c.getD a []=c.getD b []):a=b:=by
 have key:∀ {a b:Nat},a<b→b<c.length→c.getD a []=c.getD b []→False:=fun {a b} hab hb e=>by
  have:=h.srt a b hb hab
  rw[qah (by omega),qah hb] at e
  rw[e,qcn.2 rfl] at this
  omega
 rcases Nat.lt_trichotomy a b with h | h | h
 ·exact absurd e fun e=>key h hb e
 ·exact h
 ·exact absurd e.symm fun e=>key h ha e
theorem qti{c:List Sim}{p:Int}{st:Sim}{ms:List Mat}{k i j:Nat}(hij:i<j)(h1:Sq c p st ms k i (j-1))(h2:Sq c p st ms k j i):fc c (fc c k i) (j-1)=fc c (fc c k j) i:=by
 have a:=qby h1.v.1 h1.fk h1.hj
 have b:=qby h2.v.1 h2.fk h2.hj
 refine qmL h1.v.1 a.2.1 b.2.1 ?_
 rw[a.2.2,b.2.2,(qby h1.v.1 h1.kl h1.hi).2.2,(qby h2.v.1 h2.kl h2.hi).2.2]
 exact(qfF hij).symm
noncomputable def qm6(c:List Sim)(p:Int)(st:Sim)(ms:List Mat)(s i g t u:Nat):Int :=
 if (FC c st (fc c (fc c s t) u)).toNat≤g∧g<(FC c st (fc c (fc c s t) u)).toNat+(st.getD (fc c (fc c s t) u) 0).toNat then
  sgn p t*sgn p u*qaM (fun b=>(mp c ms s t).2.2.2.1.getD (i*(mp c ms s t).2.2.1.toNat+b) 0) (fun b=>(mp c ms (fc c s t) u).2.2.2.1.getD (b*(mp c ms (fc c s t) u).2.2.1.toNat+(g-(FC c st (fc c (fc c s t) u)).toNat)) 0) (mp c ms s t).2.2.1.toNat
 else 0
theorem qqL{x a y b p:Int}:(x*a%p)*(y*b%p)%p=b*a*(y*x)%p:=by
 rw[← Int.mul_emod]
 congr 1
 rw[Int.mul_assoc,Int.mul_comm b a,Int.mul_assoc,Int.mul_left_comm]
 congr 1
 rw[Int.mul_comm y b,Int.mul_left_comm x b,Int.mul_comm x y]
theorem qor{c:List Sim}{ms:List Mat}(h:qcu c ms=none){k i j:Nat}(hk:k<c.length)(h3:3≤(c.getD k []).length)(hij:i<j)(hj:j<(c.getD k []).length):two c ms k i (j-1)=two c ms k j i:=Classical.byContradiction fun hne=>by
 have hpi:Pi c ms k i:=⟨j,by omega,by omega,hne⟩
 have hpk:Pk c ms k:=⟨h3,i,by omega,by omega,hpi⟩
 have:=qix h (fun _ _ _=>some ⟨.nil,()⟩) none
 obtain⟨k',h1⟩:=qcL (P:=Pk c ms) (a:=0) (d:=c.length) ⟨k,by omega,by omega,hpk⟩
 unfold qcu at h
 rw[h1] at h
 simp only[Option.bind_some] at h
 obtain⟨i',h2⟩:=qcL (qaP h1).2.2.2
 rw[h2] at h
 simp only[Option.bind_some] at h
 obtain⟨j',h3⟩:=qcL (qaP h2).2.2
 rw[h3] at h
 cases h
theorem qqe{c:List Sim}{p:Int}{st:Sim}{ms:List Mat}(h:VS c p st ms)(hw:qcu c ms=none){s i g a b:Nat}(hs:s<c.length)(h3:3≤(c.getD s []).length)(hi:i<(st.getD s 0).toNat)(hab:a<b)(hb:b<(c.getD s []).length) :
  (qm6 c p st ms s i g a (b-1)+qm6 c p st ms s i g b a)%p=0:=by
 have s1:Sq c p st ms s a (b-1):=⟨hs,h3,by omega,by omega,h⟩
 have s2:Sq c p st ms s b a:=⟨hs,h3,by omega,by omega,h⟩
 have e:=qti hab s1 s2
 have ht:=qor hw hs h3 hab hb
 have hp:2≤p:=h.2.1.1
 unfold qm6
 rw[e]
 split
 ·rename_i hg
  obtain⟨R1,K1,em1,hR1,hK1,_⟩:=s1.b1.nat
  have m1:=(h.map s1.kl s1.hi).2
  have m2:=(h.map s2.kl s2.hi).2
  have n1:=(h.map s1.fk s1.hj).2
  have n2:=(h.map s2.fk s2.hj).2
  rw[e] at n1
  have hc:=congrArg (fun m:Mat=>m.2.2.2.1) ht
  unfold two qfV at hc
  simp only at hc
  rw[m1.2.1,m2.2.1,n1.2.2.2,n2.2.2.2,m1.2.2.1,m2.2.2.1] at hc
  generalize hG:g-(FC c st (fc c (fc c s b) a)).toNat=g' at *
  have hg':g'<(st.getD (fc c (fc c s b) a) 0).toNat:=by omega
  have b1:=s1.b1.2.1
  rw[m1.2.2.1] at b1
  have b2:=s1.b2.2.2.1
  rw[n1.2.2.2] at b2
  have hRC:=qcZ (R:=(st.getD s 0).toNat) (C:=(st.getD (fc c (fc c s b) a) 0).toNat) (by omega) (by omega)
  have f1:=(qdI (A:=qhP p (mp c ms s a).2.2.2.1 (mp c ms (fc c s a) (b-1)).2.2.2.1 (mp c ms s a).2.2.1.toNat (st.getD (fc c (fc c s b) a) 0).toNat) hi hg' (by omega)).2
  have f2:=(qdI (A:=qhP p (mp c ms s b).2.2.2.1 (mp c ms (fc c s b) a).2.2.2.1 (mp c ms s b).2.2.1.toNat (st.getD (fc c (fc c s b) a) 0).toNat) hi hg' (by omega)).2
  rw[hc,f2] at f1
  have f1:=Option.some.inj f1
  unfold qhP at f1
  rw[n1.2.2.2,n2.2.2.2]
  generalize qaM (fun l=>(mp c ms s a).2.2.2.1.getD (i*(mp c ms s a).2.2.1.toNat+l) 0) _ _=S1 at f1 ⊢
  generalize qaM (fun l=>(mp c ms s b).2.2.2.1.getD (i*(mp c ms s b).2.2.1.toNat+l) 0) _ _=S2 at f1 ⊢
  have hx:sgn p a*sgn p (b-1)*S1+sgn p b*sgn p a*S2=sgn p a*(sgn p (b-1)*S1+sgn p b*S2):=by
   rw[Int.mul_add,Int.mul_assoc,Int.mul_comm (sgn p b) (sgn p a),Int.mul_assoc]
  rw[hx,Int.mul_emod]
  have hz:(sgn p (b-1)*S1+sgn p b*S2)%p=0:=by
   unfold sgn
   by_cases hpar:b%2=0
   ·rw[if_neg (by omega),if_pos hpar,Int.one_mul,Int.sub_mul,Int.one_mul]
    rw[show p*S1-S1+S2=p*S1+(S2-S1) by omega,Int.mul_add_emod_self_left]
    rw[Int.sub_emod,f1];simp
   ·rw[if_pos (by omega),if_neg hpar,Int.one_mul,Int.sub_mul,Int.one_mul]
    rw[show S1+(p*S2-S2)=p*S2+(S1-S2) by omega,Int.mul_add_emod_self_left]
    rw[Int.sub_emod,f1];simp
  rw[hz];simp
 ·simp
theorem qr8{a b p:Int}(ha:a%p=0)(hb:b%p=0):(a+b)%p=0:=by rw[Int.add_emod,ha,hb];simp
theorem qqp{c:List Sim}{p:Int}{st:Sim}{ms:List Mat}(h:VS c p st ms){k:Int}(hk:1≤k){s i g t:Nat}(hs:s<c.length)(hd:((c.getD s []).length:Int)=k+2)(ht:t<(qaG c s).length)
    (hi:i<(st.getD s 0).toNat) (hg:g<(SD c st (k-1)).toNat) :
    sN (fun b=>(qet c p st ms (k-1)).getD (((FC c st (fc c s t)).toNat+b)*(SD c st (k-1)).toNat+g) 0*(qet c p st ms k).getD (((FC c st s).toNat+i)*(SD c st k).toNat+((FC c st (fc c s t)).toNat+b)) 0) (st.getD (fc c s t) 0).toNat%p
      = sN (qm6 c p st ms s i g t) (qaG c (fc c s t)).length%p:=by
  have hst:=h.2.2.1.2.1
  obtain⟨g1,g2,g3,g4,g5,g6,g7⟩:=qdo h hs hd ht
  have hdf:((c.getD (fc c s t) []).length:Int)=(k-1)+2:=by omega
  have hck:∀ b,b<(st.getD (fc c s t) 0).toNat→(qet c p st ms k).getD (((FC c st s).toNat+i)*(SD c st k).toNat+((FC c st (fc c s t)).toNat+b)) 0=(mp c ms s t).2.2.2.1.getD (i*(mp c ms s t).2.2.1.toNat+b) 0*sgn p t%p:=fun b hb=>qmX h (by omega) hs hd ht hi hb
  by_cases he:∃ u,u<(qaG c (fc c s t)).length∧((FC c st (fc c (fc c s t) u)).toNat≤g∧g<(FC c st (fc c (fc c s t) u)).toNat+(st.getD (fc c (fc c s t) u) 0).toNat)
  · obtain⟨u,hu,hgu⟩:=he
    have huniq:∀ v,v<(qaG c (fc c s t)).length→((FC c st (fc c (fc c s t) v)).toNat≤g∧g<(FC c st (fc c (fc c s t) v)).toNat+(st.getD (fc c (fc c s t) v) 0).toNat)→v=u:=fun v hv hgv=>by
      obtain⟨_,_,w3,w4,_⟩:=qdo h g3 hdf hv
      obtain⟨_,_,z3,z4,_⟩:=qdo h g3 hdf hu
      obtain⟨e,_⟩:=qgQ (c:=c) (s:=fc c (fc c s t) v) (s':=fc c (fc c s t) u) (i:=g-(FC c st (fc c (fc c s t) v)).toNat) (i':=g-(FC c st (fc c (fc c s t) u)).toNat) hst (by omega) (by omega) (by omega) (by omega)
      exact qnl h.1 g3 hv hu e
    have hR:sN (qm6 c p st ms s i g t) (qaG c (fc c s t)).length=qm6 c p st ms s i g t u:=by
      classical
      have:sN (qm6 c p st ms s i g t) (qaG c (fc c s t)).length=sN (fun v=>if v=u then qm6 c p st ms s i g t u else 0) (qaG c (fc c s t)).length:=qgp fun v hv=>by
        by_cases e:v=u
        · subst e;rw[if_pos rfl]
        · rw[if_neg e]
          unfold qm6
          exact if_neg fun hgv=>e (huniq v hv hgv)
      rw[this];exact qpI hu rfl fun t _ e=>e
    rw[hR]
    unfold qm6
    rw[if_pos hgu,g2,qmJ,← qq8]
    refine qoG fun b hb=>?_
    have hcb:=qmX h (k:=k-1) (by omega) g3 hdf hu (i:=b) (j:=g-(FC c st (fc c (fc c s t) u)).toNat) hb (by omega)
    rw[show(FC c st (fc c (fc c s t) u)).toNat+(g-(FC c st (fc c (fc c s t) u)).toNat)=g by omega] at hcb
    rw[hcb,hck b hb,qqL]
    rw[g2]
  · have h1:sN (qm6 c p st ms s i g t) (qaG c (fc c s t)).length=0:=qeS fun u hu=>by
      unfold qm6
      exact if_neg fun hgu=>he ⟨u,hu,hgu⟩
    rw[h1]
    rw[qeS fun b hb=>by
      rw[qkP h (k:=k-1) g3 hdf hb hg fun u hu hgu=>he ⟨u,hu,hgu⟩,Int.zero_mul]]
theorem qpu{c:List Sim}{p:Int}{st:Sim}{ms:List Mat}(h:VS c p st ms)(hw:qcu c ms=none){k:Int}(hk:1≤k){r g:Nat}(hr:r<(SD c st (k+1)).toNat)(hg:g<(SD c st (k-1)).toNat) :
    qaM (fun a=>(qet c p st ms (k-1)).getD (a*(SD c st (k-1)).toNat+g) 0) (fun a=>(qet c p st ms k).getD (r*(SD c st k).toNat+a) 0) (SD c st k).toNat%p=0:=by
  have hst:=h.2.2.1.2.1
  rw[qgr] at hr
  obtain⟨s,hs,hd,i,hi,rfl⟩:=qpT hst hr
  have hd:((c.getD s []).length:Int)=k+2:=by omega
  have hfl:=qaF (c:=c) (k:=s)
  rw[if_pos (by omega)] at hfl
  have h4:=h.1.len4 hs
  rw[qmJ,qqh (L:=fun t=>(FC c st (fc c s t)).toNat) (n:=fun t=>(st.getD (fc c s t) 0).toNat) (N:=(qaG c s).length) (fun t ht=>by
      obtain⟨g1,g2,g3,g4,g5,g6,g7⟩:=qdo h hs hd ht
      show(FC c st (fc c s t)).toNat+(st.getD (fc c s t) 0).toNat≤_
      have:=qkq hst (fc c s t)
      omega) (fun t u a ht hu h1 h2 h3 h4=>by
      obtain⟨_,_,w3,w4,_⟩:=qdo h hs hd ht
      obtain⟨_,_,z3,z4,_⟩:=qdo h hs hd hu
      obtain⟨e,_⟩:=qgQ (c:=c) (s:=fc c s t) (s':=fc c s u) (i:=a-(FC c st (fc c s t)).toNat) (i':=a-(FC c st (fc c s u)).toNat) hst (by omega) (by omega) (by omega) (by omega)
      exact qnl h.1 hs ht hu e) (fun a ha hno=>by
      rw[qkP h hs hd hi ha hno,Int.mul_zero])]
  have e1:sN (fun t=>sN (fun b=>(qet c p st ms (k-1)).getD (((FC c st (fc c s t)).toNat+b)*(SD c st (k-1)).toNat+g) 0*(qet c p st ms k).getD (((FC c st s).toNat+i)*(SD c st k).toNat+((FC c st (fc c s t)).toNat+b)) 0) (st.getD (fc c s t) 0).toNat) (qaG c s).length%p
      = sN (fun t=>sN (qm6 c p st ms s i g t) ((c.getD s []).length-1)) (qaG c s).length%p:=qoG fun t ht=>by
    rw[qqp h hk hs hd ht hi hg]
    obtain⟨g1,g2,g3,g4,g5,g6,g7⟩:=qdo h hs hd ht
    have hfl2:=qaF (c:=c) (k:=fc c s t)
    rw[if_pos (by omega)] at hfl2
    rw[hfl2,show(c.getD (fc c s t) []).length=(c.getD s []).length-1 by omega]
  refine e1.trans ?_
  rw[hfl]
  have pr:∀ a b,a<b→b<(c.getD s []).length→(qm6 c p st ms s i g a (b-1)+qm6 c p st ms s i g b a)%p=0:=fun a b hab hb=>qqe h hw hs (by omega) hi hab hb
  rcases(show(c.getD s []).length=3∨(c.getD s []).length=4 by omega) with e | e
  · rw[e] at pr ⊢
    have p1:=pr 0 1 (by omega) (by omega)
    have p2:=pr 0 2 (by omega) (by omega)
    have p3:=pr 1 2 (by omega) (by omega)
    simp only[show(1:Nat)-1=0 from rfl,show(2:Nat)-1=1 from rfl,show(3:Nat)-1=2 from rfl] at p1 p2 p3 ⊢
    refine Eq.trans (congrArg (·%p) ?_) (qr8 (qr8 p1 p2) p3)
    simp only[sN]
    omega
  · rw[e] at pr ⊢
    have p1:=pr 0 1 (by omega) (by omega)
    have p2:=pr 0 2 (by omega) (by omega)
    have p3:=pr 1 2 (by omega) (by omega)
    have p4:=pr 0 3 (by omega) (by omega)
    have p5:=pr 1 3 (by omega) (by omega)
    have p6:=pr 2 3 (by omega) (by omega)
    simp only[show(1:Nat)-1=0 from rfl,show(2:Nat)-1=1 from rfl,show(3:Nat)-1=2 from rfl,show(4:Nat)-1=3 from rfl] at p1 p2 p3 p4 p5 p6 ⊢
    refine Eq.trans (congrArg (·%p) ?_) (qr8 (qr8 (qr8 p1 p2) (qr8 p3 p4)) (qr8 p5 p6))
    simp only[sN]
    omega
end VeT
open Go Go.Proofs Ve
namespace VeT
def mE(m:Mat):Ent:=qbp m.2.2.2.1 m.2.2.1.toNat
theorem VM.pos{m:Mat}(h:VM m):2≤m.1:=h.1.1
theorem VM.num{m:Mat}(h:VM m):m.2.2.2.1.length=m.2.1.toNat*m.2.2.1.toNat:=by
 obtain⟨R,K,e,_,_,hl⟩:=h.nat
 rw[e] at hl ⊢
 simpa using hl
theorem qtf{m:Mat}(h:VM m){i j:Nat}(hi:i<m.2.1.toNat)(hj:j<m.2.2.1.toNat):0≤mE m i j∧mE m i j≤m.1-1:=qbo h.2.2.2.2 h.num i j hi hj
theorem qsM{m:Mat}(h:VM m){i j:Nat}(hi:i<m.2.1.toNat)(hj:j<m.2.2.1.toNat):mE m i j%m.1=mE m i j:=by
 have:=qtf h hi hj
 have:=h.pos
 exact Int.emod_eq_of_lt (by omega) (by omega)
theorem qm3{a b:Mat}(ha:VM a)(hb:VM b)(h1:a.1=b.1)(h2:a.2.1=b.2.1)(h3:a.2.2.1=b.2.2.1)(h:∀ i j,i<a.2.1.toNat→j<a.2.2.1.toNat→mE a i j=mE b i j):a=b:=by
 refine qiE.2 ⟨h1,h2,h3,?_⟩
 have ea:=qgh ha.num
 have eb:=qgh hb.num
 rw[← h2,← h3] at eb
 rw[← ea,← eb]
 refine qaN fun i j hi hj=>?_
 have:=h i j hi hj
 unfold mE at this
 rwa [← h3] at this
theorem qjV{a b:Mat}{i j:Nat}(hi:i<a.2.1.toNat)(hj:j<b.2.2.1.toNat):mE (qfV a b) i j=qaM (mE a i) (fun l=>mE b l j) a.2.2.1.toNat%a.1:=by
 show qbp (qav (qhP a.1 a.2.2.2.1 b.2.2.2.1 a.2.2.1.toNat b.2.2.1.toNat) b.2.2.1.toNat a.2.1.toNat) b.2.2.1.toNat i j=_
 rw[qa0 hi hj];rfl
theorem qpg{p:Int}{n i j:Nat}(hi:i<n)(hj:j<n):mE (qbe p n) i j=if i=j then 1 else 0:=by
 show qbp (qav qbt n n) ((n:Int)).toNat i j=_
 rw[Int.toNat_natCast,qa0 hi hj];rfl
theorem qqy{p:Int}{n i j:Nat}(hi:i<n)(hj:j<n):mE (qbe p n) i j=if j=i then 1 else 0:=by
 rw[qpg hi hj]
 by_cases e:i=j
 ·rw[if_pos e,if_pos e.symm]
 ·rw[if_neg e,if_neg fun h=>e h.symm]
theorem qlf{p:Int}{c g h:Nat→Int}{n:Nat}(H:∀ i,i<n→c i%p=g i%p):qaM c h n%p=qaM g h n%p:=by
 rw[qaK,qaK (c:=g)];exact qco H
theorem qjJ{a b d:Mat}(ha:VM a)(hb:VM b)(hd:VM d)(h1:a.2.2.1=b.2.1)(h2:b.2.2.1=d.2.1)(e1:a.1=b.1):qfV (qfV a b) d=qfV a (qfV b d):=by
 refine qm3 (qew (qew ha hb) hd) (qew ha (qew hb hd)) rfl rfl rfl fun i j hi hj=>?_
 have hi':i<a.2.1.toNat:=hi
 have hj':j<d.2.2.1.toNat:=hj
 rw[qjV (a:=qfV a b) (b:=d) hi hj',qjV (a:=a) (b:=qfV b d) hi' hj']
 show qaM (mE (qfV a b) i) (fun l=>mE d l j) b.2.2.1.toNat%a.1=qaM (mE a i) (fun l=>mE (qfV b d) l j) a.2.2.1.toNat%a.1
 have l1:qaM (mE (qfV a b) i) (fun l=>mE d l j) b.2.2.1.toNat%a.1=qaM (fun l=>qaM (mE a i) (fun m=>mE b m l) a.2.2.1.toNat) (fun l=>mE d l j) b.2.2.1.toNat%a.1 :=
  qlf fun l hl=>by rw[qjV hi' hl];exact Int.emod_emod_of_dvd _ (Int.dvd_refl _)
 have l2:qaM (mE a i) (fun l=>mE (qfV b d) l j) a.2.2.1.toNat%a.1=qaM (mE a i) (fun m=>qaM (mE b m) (fun l=>mE d l j) b.2.2.1.toNat) a.2.2.1.toNat%a.1 :=
  qco fun m hm=>by rw[qjV (by rw[← h1];exact hm) hj',e1];exact Int.emod_emod_of_dvd _ (Int.dvd_refl _)
 rw[l1,l2]
 congr 1
 have:=qf9 (y:=fun l=>mE d l j) (c:=mE a i) (A:=mE b) (W:=b.2.2.1.toNat) (R:=a.2.2.1.toNat)
 rw[qaK,this]
 exact qaz fun m hm=>⟨rfl,qaK⟩
theorem qoc{m:Mat}{p:Int}{n:Nat}(h:VM m)(hp:m.1=p)(hn:m.2.1=(n:Int)):qfV (qbe p n) m=m:=by
 have h32:=h.2.1.2
 refine qm3 (qew (qj5 (hp ▸ h.1) (by omega)) h) h hp.symm hn.symm rfl fun i j hi hj=>?_
 have hi':i<n:=by simpa [qfV,qbe] using hi
 have hj':j<m.2.2.1.toNat:=hj
 rw[qjV (a:=qbe p n) (b:=m) (show i<((n:Int)).toNat by rw[Int.toNat_natCast];exact hi') hj']
 show qaM (mE (qbe p n) i) (fun l=>mE m l j) ((n:Int)).toNat%p=_
 rw[Int.toNat_natCast,qaz (d:=fun l=>if l=i then 1 else 0) (h:=fun l=>mE m l j) fun l hl=>⟨qqy hi' hl,rfl⟩,qcJ hi',← hp]
 exact qsM h (by omega) hj'
theorem qo9{m:Mat}{v:Sim}{n i:Nat}(hi:i<n):(qnR m v n).getD i 0=qaM (mE m i) (fun l=>v.getD l 0) m.2.2.1.toNat%m.1:=by
 rw[List.getD_eq_getElem?_getD]
 unfold qnR
 rw[List.getElem?_map,List.getElem?_range hi];rfl
end VeT
open Go Go.Proofs Ve
namespace VeT
theorem qll:∀ {a b:Sim},qe4 a b=qhz a b
 | [],[]=>rfl
 | [],_::_=>rfl
 | _::_,[]=>rfl
 | x::xs,y::ys=>by rw[qe4,qhz,qll]
theorem qev{a b:Sim}:qdq a b=qeO a b:=by
 unfold qdq qeO
 rw[qll];rfl
theorem ql8(n:Nat)(args:List Dv):run E (n+1) n_Z128 args=qhf n_Z38 (mkR (run E n)) args:=rfl
theorem qn6{m:Nat}{R:Run}{xs:List Sim}(h:xs.length≤1048576∧(⟨.fn m .nil,()⟩:Dv)=⟨.fn m .nil,()⟩∧∀ x∈xs,∀ y∈xs,R.r m [⟨tL,x⟩,⟨tL,y⟩]=some ⟨.cons tI .nil,(qeO x y,())⟩) :
  qhf m R [⟨tLL,xs⟩,⟨.fn m .nil,()⟩]=some ⟨.cons tLL .nil,(qeY xs,())⟩:=by
 unfold qhf
 simp only[show(⟨tLL,xs⟩:Dv).to tLL=some xs from rfl,Option.bind_some]
 exact if_pos h
theorem qpj{α:Type}{p:α→Nat→Prop}{l:List α}(h:∀ x∈l,Evt (p x)):Evt fun n=>∀ x∈l,p x n:=by
 induction l with
 | nil=>exact Evt.of fun n x hx=>by cases hx
 | cons a l ih =>
  refine((h a List.mem_cons_self).and (ih fun x hx=>h x (List.mem_cons_of_mem _ hx))).mono fun n ⟨h1,h2⟩ x hx=>?_
  rcases List.mem_cons.1 hx with rfl | hx
  ·exact h1
  ·exact h2 x hx
theorem ql3(xs:List Sim)(hs:Sm (.sl (.sl (.int .i64))) xs):Ret E n_Z128 [dLL xs,⟨.fn n_Z38 .nil,()⟩] ⟨o_Z128,(qeY xs,())⟩:=by
 have hl:xs.length≤1048576:=hs.1
 have hall:Evt fun n=>∀ x∈xs,∀ y∈xs,run E n n_Z38 [dL x,dL y]=some ⟨o_Z38,(qeO x y,())⟩ :=
  qpj fun x hx=>qpj fun y hy=>by
   have:=qa5 x y (hs.2 x hx)
   rw[qev] at this
   exact this
 refine Evt.succ (hall.mono fun n h=>?_)
 rw[ql8]
 exact qn6 ⟨hl,rfl,h⟩
theorem qjl(rows:List Sim)(hl:rows.length≤1048576)(hs:∀ x∈rows,x.length≤1048576):Ret E n_Z41 [dLL rows] ⟨o_Z41,(rows,())⟩:=by
 refine qal ?_
 simp only[run_Z41,Z41.ev]
 refine Ev.start (p:=fun φ n=>Z41.l0 (mkR (run E (φ 0))) (φ 0) n rows (rows.length:Int) 0 []=_) 1 ?_ (fun _ _ _ h=>h)
 refine qaq 1 (L:=fun φ n k o=>Z41.l0 (mkR (run E (φ 0))) (φ 0) n rows (rows.length:Int) k o) (len:=rows.length) (fun k=>rows.take k) (fun _ _ _ _ _=>rfl) (fun k r hk ih=>?_) ?_
 ·simp only[Z41.l0_succ _ qag]
  rw[List.take_succ_eq_append_getElem hk] at ih
  refine qaD (decide_eq_true (by omega)) (qaf (qap hk) (qaa (qdR _ (hs _ (List.getElem_mem hk))) (qar (by simp only[List.length_take,List.length_singleton,decide_eq_true_eq];omega) ?_)))
  rw[qae (by omega)];exact ih
 ·simp only[Z41.l0_succ _ qag]
  refine qaJ (decide_eq_false (by omega)) (qai ?_)
  rw[List.take_of_length_le (Nat.le_refl _)]
theorem qoj(n:Nat)(args:List Dv):run E (n+1) n_Z105 args=qdQ n_Z116 (mkR (run E n)) args:=rfl
-- qdQ
theorem qhq(xs:List Sim)(hs:Sm (.sl (.sl (.int .i64))) xs) :
  Ret E n_Z105 [dLL xs,⟨.fn n_Z116 .nil,()⟩] ⟨o_Z105,(sel (mC xs xs.length) xs,())⟩:=by
 have hl:xs.length≤1048576:=hs.1
 have hall:Evt fun n=>∀ i,i<xs.length-1→∀(h:i+1<xs.length),run E n n_Z116 [dL xs[i+1],dL xs[i]]=some ⟨o_Z116,(xs[i+1]==xs[i],())⟩ :=
  Evt.lt fun i hi=>by
   have h:i+1<xs.length:=by omega
   have h2:=qjt xs[i+1] xs[i] (qb0 hs h).1
   rw[show pb (xs[i+1]=xs[i])=(xs[i+1]==xs[i]) by rw[Bool.eq_iff_iff,qaL,beq_iff_eq]] at h2
   exact Evt.mono h2 fun n h3 _=>h3
 refine Evt.succ (hall.mono fun n h=>?_)
 rw[qoj]
 unfold qdQ
 simp only[show(⟨tLL,xs⟩:Dv).to tLL=some xs from rfl,Option.bind_some]
 exact if_pos ⟨hl,rfl,fun i hi=>h i (by omega) hi⟩
-- qdQ
theorem qow{l:List Sim}(h:l.Pairwise (fun a b=>qeO a b≤0)):∀ {m:Nat},m≤l.length→(sel (mC l m) l).Pairwise (fun a b=>qeO a b<0)∧(∀ x,x∈sel (mC l m) l↔x∈l.take m):=by
 intro m
 induction m with
 | zero=>intro _;simp[mC,sel]
 | succ m ih =>
  intro hm
  obtain⟨h1,h2⟩:=ih (by omega)
  have hml:m<l.length:=by omega
  rw[mC,qgs (by rw[qg8];exact hml)]
  have e:(l[(mC l m).length]'(by rw[qg8];exact hml))=l[m]:=by congr 1;exact qg8
  rw[e,List.take_succ_eq_append_getElem hml]
  by_cases h0:m=0
  ·subst h0
   simp[mC,sel]
  ·obtain⟨q,rfl⟩:∃ q,m=q+1:=⟨m-1,by omega⟩
   have g1:l[q+1]? = some l[q+1]:=List.getElem?_eq_getElem hml
   have g2:l[q+1-1]? = some l[q]:=by rw[Nat.add_sub_cancel];exact List.getElem?_eq_getElem (by omega)
   rw[g1,g2,show(q+1==0)=false from rfl,Bool.false_or]
   have hq:l[q]∈l.take (q+1):=by rw[List.take_succ_eq_append_getElem (show q<l.length by omega)];exact List.mem_append.2 (.inr (List.mem_singleton.2 rfl))
   by_cases he:l[q+1]=l[q]
   ·rw[show(some l[q+1]==some l[q])=true by rw[he];simp]
    simp only[Bool.not_true,cond_false,List.append_nil]
    refine⟨h1,fun x=>?_⟩
    rw[h2,List.mem_append,List.mem_singleton]
    exact⟨.inl,fun hx=>hx.elim id fun e=>by rw[e,he];exact hq⟩
   ·rw[show(some l[q+1]==some l[q])=false from beq_false_of_ne fun e=>he (Option.some.inj e)]
    simp only[Bool.not_false,cond_true]
    have hlt:∀ x∈sel (mC l (q+1)) l,qeO x l[q+1]<0:=fun x hx=>by
     have hx:=(h2 x).1 hx
     have hq1:qeO l[q] l[q+1]≤0:=List.pairwise_iff_getElem.1 h q (q+1) (by omega) hml (by omega)
     have hq2:qeO l[q] l[q+1]<0:=by
      rcases Int.lt_or_eq_of_le hq1 with h | h
      ·exact h
      ·exact absurd (qeK.1 h).symm he
     obtain⟨i,hi,rfl⟩:=List.mem_iff_getElem.1 hx
     rw[List.length_take] at hi
     rw[List.getElem_take]
     by_cases e:i=q
     ·subst e;exact hq2
     ·have h3:qeO l[i] l[q]≤0:=List.pairwise_iff_getElem.1 h i q (by omega) (by omega) (by omega)
      rcases Int.lt_or_eq_of_le h3 with h | h
      ·have:=qfa (by rw[qev];exact h) (by rw[qev];exact hq2)
       rwa [qev] at this
      ·rw[qeK.1 h];exact hq2
    refine⟨List.pairwise_append.2 ⟨h1,List.pairwise_singleton _ _,fun x hx y hy=>?_⟩,fun x=>?_⟩
    ·rw[List.mem_singleton] at hy;subst hy;exact hlt x hx
    ·rw[List.mem_append,List.mem_append,h2]
-- qdQ
noncomputable def qsl(xs:List Sim):List Sim:=sel (mC (qeY xs) (qeY xs).length) (qeY xs)
-- qdQ
theorem qoU(xs:List Sim):Srt (qsl xs)∧(∀ x,x∈qsl xs↔x∈xs)∧(qsl xs).length≤xs.length:=by
 have hp:(qeY xs).Pairwise (fun a b=>qeO a b≤0):=(qjz xs).imp fun h=>by unfold leX at h;exact of_decide_eq_true h
 obtain⟨h1,h2⟩:=qow hp (Nat.le_refl _)
 refine⟨fun i j hj hij=>?_,fun x=>?_,?_⟩
 ·rw[qev];exact List.pairwise_iff_getElem.1 h1 i j (by unfold qsl at hj;omega) hj hij
 ·unfold qsl
  rw[h2,List.take_length]
  exact(List.mergeSort_perm xs leX).mem_iff
 ·have:=qmF (ms:=mC (qeY xs) (qeY xs).length) (l:=qeY xs)
  exact Nat.le_trans this (Nat.le_of_eq (qeB xs))
-- qdQ
theorem qrO:∀ {c d:List Sim},Srt c→Srt d→(∀ x,x∈c↔x∈d)→c=d:=by
 have pw:∀ {c:List Sim},Srt c→c.Pairwise (fun a b=>qdq a b<0):=fun h=>List.pairwise_iff_getElem.2 fun i j hi hj hij=>h i j hj hij
 have main:∀ {c d:List Sim},c.Pairwise (fun a b=>qdq a b<0)→d.Pairwise (fun a b=>qdq a b<0)→(∀ x,x∈c↔x∈d)→c=d:=by
  intro c
  induction c with
  | nil =>
   intro d _ _ h
   cases d with
   | nil=>rfl
   | cons y d=>exact absurd ((h y).2 List.mem_cons_self) (by simp)
  | cons x c ih =>
   intro d hc hd h
   cases d with
   | nil=>exact absurd ((h x).1 List.mem_cons_self) (by simp)
   | cons y d =>
    obtain⟨hc1,hc2⟩:=List.pairwise_cons.1 hc
    obtain⟨hd1,hd2⟩:=List.pairwise_cons.1 hd
    have hxy:x=y:=by
     rcases List.mem_cons.1 ((h x).1 List.mem_cons_self) with e | e
     ·exact e
     ·rcases List.mem_cons.1 ((h y).2 List.mem_cons_self) with e2 | e2
      ·exact e2.symm
      ·have h1:=hd1 x e
       have h2:=hc1 y e2
       have:=qkt (a:=x) (b:=y)
       omega
    subst hxy
    have irr:∀ z,qdq z z=0:=fun z=>qcn.2 rfl
    rw[ih hc2 hd2 fun z=>?_]
    constructor
    ·intro hz
     rcases List.mem_cons.1 ((h z).1 (List.mem_cons_of_mem _ hz)) with e | e
     ·subst e;have:=hc1 z hz;have:=irr z;omega
     ·exact e
    ·intro hz
     rcases List.mem_cons.1 ((h z).2 (List.mem_cons_of_mem _ hz)) with e | e
     ·subst e;have:=hd1 z hz;have:=irr z;omega
     ·exact e
 exact fun {c d} hc hd h=>main (pw hc) (pw hd) h
-- qdQ
theorem qlx(c:List Sim)(hc:Sm (.sl (.sl (.int .i64))) c):Ret E n_Z58 [dLL c] ⟨o_Z58,(qsl c,())⟩:=by
 have h1:=ql3 c hc
 have hs:Sm (.sl (.sl (.int .i64))) (qeY c):=⟨by show(qeY c).length≤1048576;rw[qeB];exact hc.1,fun x hx=>hc.2 x ((List.mergeSort_perm c leX).mem_iff.1 hx)⟩
 refine qal ?_
 simp only[run_Z58,Z58.ev]
 exact qaa (qjl c hc.1 fun x hx=>(hc.2 x hx).1) (qaa h1 (qaa (qhq _ hs) qam))
-- qdQ
theorem qm7(c:List Sim)(hc:Sm (.sl (.sl (.int .i64))) c)(hs:Srt c):Ret E n_Z58 [dLL c] ⟨o_Z58,(c,())⟩:=by
 have h:=qlx c hc
 obtain⟨h1,h2,_⟩:=qoU c
 rwa [qrO h1 hs h2] at h
theorem qii(c:List Sim)(hc:Sm (.sl (.sl (.int .i64))) c)(hv:VC c):Ret E n_Z168 [dC (c,()),dI 3] ⟨o_Z168,(c,())⟩:=by
 have hl:c.length≤1048576:=hc.1
 refine qal ?_
 simp only[run_Z168,Z168.ev]
 refine Ev.start (p:=fun φ n=>Z168.l0 (mkR (run E (φ 0))) (φ 0) n (c,()) 3 0 []=_) 1 ?_ (fun _ _ _ h=>h)
 refine qaq 1 (L:=fun φ n k o=>Z168.l0 (mkR (run E (φ 0))) (φ 0) n (c,()) 3 k o) (len:=c.length) (fun k=>c.take k) (fun _ _ _ _ _=>rfl) (fun k r hk ih=>?_) ?_
 ·simp only[Z168.l0_succ _ qag]
  rw[List.take_succ_eq_append_getElem hk] at ih
  have h4:=hv.len4 hk
  rw[qah hk] at h4
  have e4:w64 ((3:Int)+1)=4:=qad (by omega) (by omega)
  refine qaD (decide_eq_true (by show(k:Int)<(c.length:Int);omega)) (qaf (qap hk) (qaD (decide_eq_true (by rw[e4];show(c[k].length:Int)≤4;omega)) (qaf (qap hk) (qaa (qc0 _ (by show c[k].length≤_;omega)) (qar (by simp only[List.length_take,List.length_singleton,decide_eq_true_eq];omega) ?_)))))
  rw[qae (by omega)];exact ih
 ·simp only[Z168.l0_succ _ qag]
  refine qaJ (decide_eq_false (by show ¬ ((c.length:Int)<(c.length:Int));omega)) (qai ?_)
  rw[List.take_of_length_le (Nat.le_refl _)]
theorem qh5(c:List Sim)(n:Int)(hl:c.length≤1048576):Ret E n_Z47 [dLL c,dI n] ⟨o_Z47,(List.replicate c.length n,())⟩:=by
 refine qal ?_
 simp only[run_Z47,Z47.ev]
 refine Ev.start (p:=fun φ q=>Z47.l0 (mkR (run E (φ 0))) (φ 0) q n (c.length:Int) 0 []=_) 1 ?_ (fun _ _ _ h=>h)
 refine qaq 1 (L:=fun φ q k o=>Z47.l0 (mkR (run E (φ 0))) (φ 0) q n (c.length:Int) k o) (len:=c.length) (fun k=>List.replicate k n) (fun _ _ _ _ _=>rfl) (fun k r hk ih=>?_) ?_
 ·simp only[Z47.l0_succ _ qag]
  rw[List.replicate_succ'] at ih
  refine qaD (decide_eq_true (by omega)) (qar (by simp only[List.length_replicate,List.length_singleton,decide_eq_true_eq];omega) ?_)
  rw[qae (by omega)];exact ih
 ·simp only[Z47.l0_succ _ qag]
  exact qaJ (decide_eq_false (by omega)) qam
theorem qjj(m:Mat)(hm:m.2.2.2.1.length≤1048576):Ret E n_Z42 [dI m.1,dI m.2.1,dI m.2.2.1,dL m.2.2.2.1] ⟨o_Z42,(m.1,m.2.1,m.2.2.1,m.2.2.2.1,())⟩:=by
 refine qal ?_
 simp only[run_Z42,Z42.ev]
 exact qaa (qdR _ hm) qam
def zOf(p:Int)(st:Sim)(a:Arw):Mat:=(p,st.getD a.1.toNat 0,st.getD a.2.2.1.toNat 0,List.replicate ((st.getD a.1.toNat 0).toNat*(st.getD a.2.2.1.toNat 0).toNat) 0,())
theorem qgV{c:List Sim}{st:Sim}(hl:st.length=c.length)(hst:∀ x∈st,0≤x∧x≤3){k:Nat}(hk:k<c.length):∃ n:Nat,n≤3∧st.getD k 0=(n:Int)∧∃ h:k<st.length,st[k]=(n:Int):=by
 have h:k<st.length:=by omega
 obtain⟨h1,h2⟩:=hst _ (List.getElem_mem h)
 exact⟨(st[k]).toNat,by omega,by rw[qah h];omega,h,by omega⟩
theorem qfg{c:List Sim}(hs:Srt c)(hv:VC c){k i:Nat}(hk:k<c.length)(hi:i<(qaG c k).length):∃ f:Nat,f<c.length∧(qaG c k)[i]=(f:Int)∧(qaG c k).getD i 0=(f:Int):=by
 obtain⟨h1,h2,_⟩:=qby hv hk hi
 have e:(qaG c k)[i]=((fc c k i:Nat):Int):=by rw[qap hi] at h1;exact Option.some.inj h1
 exact⟨fc c k i,h2,e,by rw[qah hi,e]⟩
end VeT
open Go Go.Proofs Ve
namespace VeT
def Fa(x s:Sim):Prop:=x≠[]∧x.Sublist s
def Cl(c:List Sim):Prop:=∀ y∈c,∀ x,Fa x y→x∈c
theorem qlR:∀ {x s:Sim},x.Sublist s→x≠s→∃ i,i<s.length∧x.Sublist (s.eraseIdx i)
 | _,_,.slnil,h=>absurd rfl h
 | x,_,.cons a h,_=>⟨0,by simp,by simpa using h⟩
 | _,_,.cons_cons (l₁:=l) (l₂:=l') a h,hn=>by
  obtain⟨i,hi,hs⟩:=qlR h fun e=>hn (by rw[e])
  exact⟨i+1,by simp;omega,by simpa using hs⟩
theorem qrm{x s:Sim}:Fa x s↔(x=s∧s≠[])∨∃ i,i<s.length∧Fa x (s.eraseIdx i):=by
 constructor
 ·rintro⟨h1,h2⟩
  by_cases e:x=s
  ·exact .inl ⟨e,e ▸ h1⟩
  ·obtain⟨i,hi,hs⟩:=qlR h2 e
   exact .inr ⟨i,hi,h1,hs⟩
 ·rintro(⟨rfl,h⟩ | ⟨i,hi,h1,h2⟩)
  ·exact⟨h,List.Sublist.refl _⟩
  ·exact⟨h1,h2.trans (List.eraseIdx_sublist _ _)⟩
theorem qkS{x y z:Sim}(h1:Fa x y)(h2:Fa y z):Fa x z:=⟨h1.1,h1.2.trans h2.2⟩
theorem qoT{x s:Sim}(h:Fa x s):x.length≤s.length:=h.2.length_le
def qnK:Nat→Nat
 | 0=>1
 | n+1=>(n+2)*qnK n+1
theorem qsD{o:List Sim}{s:Sim}(hs:Srt o)(hn:s∉o):∃ t,t≤o.length∧(∀ j (h:j<o.length),j<t→qdq o[j] s<0)∧(∀ h:t<o.length,¬ qdq o[t] s<0)∧Srt (o.take t++[s]++o.drop t):=by
 refine⟨bs o s,qsL,fun j h hj=>(qkL hs h).1 hj,fun h hlt=>?_,?_⟩
 ·have:=(qkL hs h).2 hlt;omega
 ·have pw:o.Pairwise (fun a b=>qdq a b<0):=List.pairwise_iff_getElem.2 fun i j hi hj hij=>hs i j hj hij
  have h1:∀ x∈o.take (bs o s),qdq x s<0:=fun x hx=>by
   obtain⟨i,hi,rfl⟩:=List.mem_iff_getElem.1 hx
   rw[List.length_take] at hi
   rw[List.getElem_take]
   exact(qkL hs (by omega)).1 (by omega)
  have h2:∀ x∈o.drop (bs o s),qdq s x<0:=fun x hx=>by
   obtain⟨i,hi,rfl⟩:=List.mem_iff_getElem.1 hx
   rw[List.length_drop] at hi
   rw[List.getElem_drop]
   have h3:¬ qdq o[bs o s+i] s<0:=fun h=>by
    have:=(qkL hs (show bs o s+i<o.length by omega)).2 h;omega
   have h4:qdq o[bs o s+i] s≠0:=fun h=>hn (by rw[← qcn.1 h];exact List.getElem_mem _)
   have:=qkt (a:=o[bs o s+i]) (b:=s)
   omega
  have pwn:(o.take (bs o s)++[s]++o.drop (bs o s)).Pairwise (fun a b=>qdq a b<0):=by
   rw[List.pairwise_append]
   refine⟨?_,pw.sublist (List.drop_sublist _ _),fun x hx y hy=>?_⟩
   ·rw[List.pairwise_append]
    refine⟨pw.sublist (List.take_sublist _ _),List.pairwise_singleton _ _,fun x hx y hy=>?_⟩
    rw[List.mem_singleton] at hy;subst hy;exact h1 x hx
   ·rcases List.mem_append.1 hx with hx | hx
    ·exact qfa (h1 x hx) (h2 y hy)
    ·rw[List.mem_singleton] at hx;subst hx;exact h2 y hy
  exact fun i j hj hij=>List.pairwise_iff_getElem.1 pwn i j (by omega) hj hij
theorem qoJ{o:List Sim}{s x:Sim}{t:Nat}:x∈o.take t++[s]++o.drop t↔x∈o∨x=s:=by
 rw[List.mem_append,List.mem_append,List.mem_singleton]
 conv=>rhs;rw[← List.take_append_drop t o]
 rw[List.mem_append]
 constructor
 ·rintro((h | h) | h)
  ·exact .inl (.inl h)
  ·exact .inr h
  ·exact .inl (.inr h)
 ·rintro((h | h) | h)
  ·exact .inl (.inl h)
  ·exact .inr h
  ·exact .inl (.inr h)
theorem qnc(s:Sim)(o:List Sim)(N1:Nat→Nat)(hs1:s.length≤1048576)(ho:Sm (.sl (.sl (.int .i64))) o)(hl:o.length+1≤1048576)(hs:Srt o)(hn:s∉o) :
  ∃ t,t≤o.length∧Srt (o.take t++[s]++o.drop t)∧Ev fun φ=>Z166.l2 (mkR (run E (φ 0))) (φ 0) (φ 2) s 0 o=some ⟨o_Z166,((o.take t++[s]++o.drop t,()),())⟩:=by
 obtain⟨t,ht,h1,h2,h3⟩:=qsD hs hn
 refine⟨t,ht,h3,?_⟩
 have fin:Ev fun φ=>Z166.j3 (mkR (run E (φ 0))) (φ 0) (φ 2) s (t:Int) false o=some ⟨o_Z166,((o.take t++[s]++o.drop t,()),())⟩:=by
  simp only[Z166.j3_eq _ qag]
  refine qaJ rfl (qar (by simp only[Bool.and_eq_true,decide_eq_true_eq];omega) ?_)
  simp only[Int.toNat_natCast,List.nil_append]
  refine qar (by simp only[List.length_nil,List.length_take,decide_eq_true_eq];omega) (qaa (qc0 s hs1) (qar (by simp only[List.length_take,List.length_singleton,decide_eq_true_eq];omega) (qar (by simp only[Bool.and_eq_true,decide_eq_true_eq];omega) (qar (by simp only[List.length_append,List.length_take,List.length_drop,List.length_singleton,decide_eq_true_eq];omega) qam))))
 have key:∀ d i,i+d=t→Ev fun φ=>Z166.l2 (mkR (run E (φ 0))) (φ 0) (φ 2) s (i:Int) o=some ⟨o_Z166,((o.take t++[s]++o.drop t,()),())⟩:=by
  intro d
  induction d with
  | zero =>
   intro i hi
   obtain rfl:i=t:=by omega
   refine Ev.round 2 (L:=fun φ n=>Z166.l2 (mkR (run E (φ 0))) (φ 0) n s (i:Int) o) ?_ (fun _ _ _=>rfl)
   simp only[Z166.l2_succ _ qag]
   by_cases hlt:i<o.length
   ·refine qaD (decide_eq_true (by omega)) (qaf (qap hlt) (qaa (qcX _ s (qb0 ho hlt)) ?_))
    rw[qaw (h2 hlt)]
    exact fin
   ·exact qaJ (decide_eq_false (by omega)) fin
  | succ d ih =>
   intro i hi
   have hlt:i<o.length:=by omega
   refine Ev.round 2 (L:=fun φ n=>Z166.l2 (mkR (run E (φ 0))) (φ 0) n s (i:Int) o) ?_ (fun _ _ _=>rfl)
   simp only[Z166.l2_succ _ qag]
   refine qaD (decide_eq_true (by omega)) (qaf (qap hlt) (qaa (qcX _ s (qb0 ho hlt)) ?_))
   rw[qaI (h1 i hlt (by omega))]
   simp only[Z166.j3_eq _ qag]
   refine qaD rfl ?_
   rw[qae (by omega)]
   exact ih (i+1) (by omega)
 exact key t 0 (by omega)
theorem qrP:∀(n:Nat) (s:Sim) (c:List Sim),s.length=n+1→n≤1048575→c.length+qnK n≤1048576→Sm (.sl (.sl (.int .i64))) c→Srt c→Cl c →
    ∃ c',Ret E n_Z166 [dC (c,()),dL s] ⟨o_Z166,((c',()),())⟩∧Srt c'∧(∀ x,x∈c'↔x∈c∨Fa x s)∧c'.length≤c.length+qnK n:=by
  intro n
  induction n with
  | zero =>
    intro s c hn hb hl hc hs hcl
    have hs1:s.length≤1048576:=by omega
    have hne:s≠[]:=fun e=>by rw[e] at hn;simp at hn
    by_cases hm:s∈c
    · refine⟨c,?_,hs,fun x=>⟨.inl,fun h=>h.elim id fun h=>hcl s hm x h⟩,by omega⟩
      refine qal ?_
      simp only[run_Z166,Z166.ev]
      exact qaa (qcb (c,()) s hc) (qaD (decide_eq_true (qa8.2 hm)) qam)
    · obtain⟨t,ht,h3,h4⟩:=qnc s c id hs1 hc (by unfold qnK at hl;omega) hs hm
      refine⟨_,?_,h3,fun x=>?_,by simp[qnK];omega⟩
      · refine qal ?_
        simp only[run_Z166,Z166.ev]
        refine qaa (qcb (c,()) s hc) (qaJ (decide_eq_false fun h=>hm (qa8.1 h)) ?_)
        have h4:Ev fun φ=>Z166.l2 (mkR (run E (φ 0))) (φ 0) (φ 0) s 0 c=some ⟨o_Z166,((c.take t++[s]++c.drop t,()),())⟩:=Ev.start (p:=fun φ n=>Z166.l2 (mkR (run E (φ 0))) (φ 0) n s 0 c=_) 2 h4 (fun _ _ _ h=>h)
        refine Ev.start (p:=fun φ n=>Z166.l0 (mkR (run E (φ 0))) (φ 0) n s 0 c=_) 1 ?_ (fun _ _ _ h=>h)
        refine Ev.round 1 (L:=fun φ n=>Z166.l0 (mkR (run E (φ 0))) (φ 0) n s 0 c) ?_ (fun _ _ _=>rfl)
        simp only[Z166.l0_succ _ qag,Z166.j1_eq _ qag]
        refine qaD (decide_eq_true (by omega)) (qaJ (decide_eq_false (by omega)) h4)
      · rw[qoJ,qrm]
        constructor
        · rintro(h | h)
          · exact .inl h
          · exact .inr (.inl ⟨h,hne⟩)
        · rintro(h | ⟨h,_⟩ | ⟨i,hi,h1,h2⟩)
          · exact .inl h
          · exact .inr h
          · have:=h2.length_le
            rw[List.length_eraseIdx,if_pos hi] at this
            exact absurd (List.length_eq_zero_iff.1 (by omega)) h1
  | succ n ih =>
    intro s c hn hb hl hc hs hcl
    have hs1:s.length≤1048576:=by omega
    have hne:s≠[]:=fun e=>by rw[e] at hn;simp at hn
    by_cases hm:s∈c
    · refine⟨c,?_,hs,fun x=>⟨.inl,fun h=>h.elim id fun h=>hcl s hm x h⟩,by omega⟩
      refine qal ?_
      simp only[run_Z166,Z166.ev]
      exact qaa (qcb (c,()) s hc) (qaD (decide_eq_true (qa8.2 hm)) qam)
    · have hadd:qnK (n+1)=(n+1+1)*qnK n+1:=rfl
      -- the qcw
      have loop:∀ d i (o:List Sim),i+d=s.length→Sm (.sl (.sl (.int .i64))) o→Srt o→Cl o→(∀ x,x∈o↔x∈c∨∃ j,j<i∧Fa x (s.eraseIdx j))→o.length≤c.length+i*qnK n→s.length*qnK n+1+c.length≤1048576 →
          ∃ c',(Ev fun φ=>Z166.l0 (mkR (run E (φ 0))) (φ 0) (φ 1) s (i:Int) o=some ⟨o_Z166,((c',()),())⟩)∧Srt c'∧(∀ x,x∈c'↔x∈c∨Fa x s)∧c'.length≤c.length+s.length*qnK n+1:=by
        intro d
        induction d with
        | zero =>
          intro i o hi ho1 ho2 ho3 ho4 ho5 hbig
          obtain rfl:i=s.length:=by omega
          have hn2:s∉o:=fun h=>by
            rcases(ho4 s).1 h with h | ⟨j,hj,h⟩
            · exact hm h
            · have:=qoT h
              rw[List.length_eraseIdx,if_pos hj] at this
              omega
          obtain⟨t,ht,h3,h4⟩:=qnc s o id hs1 ho1 (by omega) ho2 hn2
          refine⟨_,?_,h3,fun x=>?_,by simp;omega⟩
          · have h4:Ev fun φ=>Z166.l2 (mkR (run E (φ 0))) (φ 0) (φ 0) s 0 o=some ⟨o_Z166,((o.take t++[s]++o.drop t,()),())⟩:=Ev.start (p:=fun φ n=>Z166.l2 (mkR (run E (φ 0))) (φ 0) n s 0 o=_) 2 h4 (fun _ _ _ h=>h)
            refine Ev.round 1 (L:=fun φ n=>Z166.l0 (mkR (run E (φ 0))) (φ 0) n s (s.length:Int) o) ?_ (fun _ _ _=>rfl)
            simp only[Z166.l0_succ _ qag,Z166.j1_eq _ qag]
            exact qaJ (decide_eq_false (by omega)) (qaJ rfl h4)
          · rw[qoJ,ho4,qrm]
            constructor
            · rintro((h | ⟨j,hj,h⟩) | h)
              · exact .inl h
              · exact .inr (.inr ⟨j,hj,h⟩)
              · exact .inr (.inl ⟨h,hne⟩)
            · rintro(h | ⟨h,_⟩ | ⟨j,hj,h⟩)
              · exact .inl (.inl h)
              · exact .inr h
              · exact .inl (.inr ⟨j,hj,h⟩)
        | succ d ihd =>
          intro i o hi ho1 ho2 ho3 ho4 ho5 hbig
          have hil:i<s.length:=by omega
          have hel:(s.eraseIdx i).length=n+1:=by rw[List.length_eraseIdx,if_pos hil];omega
          have hmul:(i+1)*qnK n≤s.length*qnK n:=Nat.mul_le_mul_right _ (by omega)
          rw[Nat.add_mul,Nat.one_mul] at hmul
          obtain⟨o',hr,hs',hm',hl'⟩:=ih (s.eraseIdx i) o hel (by omega) (by omega) ho1 ho2 ho3
          obtain⟨c',hc1,hc2⟩:=ihd (i+1) o' (by omega) ⟨by show o'.length≤1048576;omega,fun x hx=>by
              rcases(hm' x).1 hx with h | h
              · exact ho1.2 x h
              · have:=qoT h
                exact⟨by show x.length≤1048576;omega,fun _ _=>trivial⟩⟩ hs' (fun y hy x hx=>(hm' x).2 (by
              rcases(hm' y).1 hy with h | h
              · exact .inl (ho3 y h x hx)
              · exact .inr (qkS hx h))) (fun x=>by
              rw[hm',ho4]
              constructor
              · rintro((h | ⟨j,hj,h⟩) | h)
                · exact .inl h
                · exact .inr ⟨j,by omega,h⟩
                · exact .inr ⟨i,by omega,h⟩
              · rintro(h | ⟨j,hj,h⟩)
                · exact .inl (.inl h)
                · by_cases e:j=i
                  · subst e;exact .inr h
                  · exact .inl (.inr ⟨j,by omega,h⟩)) (by rw[Nat.add_mul,Nat.one_mul];omega) hbig
          refine⟨c',?_,hc2⟩
          refine Ev.round 1 (L:=fun φ n=>Z166.l0 (mkR (run E (φ 0))) (φ 0) n s (i:Int) o) ?_ (fun _ _ _=>rfl)
          simp only[Z166.l0_succ _ qag,Z166.j1_eq _ qag]
          refine qaD (decide_eq_true (by omega)) (qaD (decide_eq_true (by omega)) (qaa (qdZ s i hil hs1) (qaa hr ?_)))
          rw[qae (by omega)]
          exact hc1
      have hbig:s.length*qnK n+1+c.length≤1048576:=by rw[hn];rw[hadd] at hl;omega
      obtain⟨c',h1,h2,h3,h4⟩:=loop s.length 0 c (by omega) hc hs hcl (fun x=>⟨.inl,fun h=>h.elim id fun⟨j,hj,_⟩=>by omega⟩) (by omega) hbig
      refine⟨c',?_,h2,h3,?_⟩
      · refine qal ?_
        simp only[run_Z166,Z166.ev]
        refine qaa (qcb (c,()) s hc) (qaJ (decide_eq_false fun h=>hm (qa8.1 h)) ?_)
        exact Ev.start (p:=fun φ n=>Z166.l0 (mkR (run E (φ 0))) (φ 0) n s 0 c=_) 1 h1 (fun _ _ _ h=>h)
      · rw[hadd,← hn];omega
theorem qmQ(l:List Sim)(hl:l.length≤1024)(hx:∀ s∈l,1≤s.length∧s.length≤4) :
    ∃ c',Ret E n_Z158 [dLL l] ⟨o_Z158,(c',())⟩∧Srt c'∧(∀ x,x∈c'↔∃ s∈l,Fa x s)∧c'.length≤41*l.length:=by
  have loop:∀ d i (o:List Sim),i+d=l.length→Srt o→(∀ x,x∈o↔∃ s∈l.take i,Fa x s)→o.length≤41*i →
      ∃ c',(Ev fun φ=>Z158.l0 (mkR (run E (φ 0))) (φ 0) (φ 1) l (i:Int) o=some ⟨o_Z158,(c',())⟩)∧Srt c'∧(∀ x,x∈c'↔∃ s∈l,Fa x s)∧c'.length≤41*l.length:=by
    intro d
    induction d with
    | zero =>
      intro i o hi h1 h2 h3
      obtain rfl:i=l.length:=by omega
      rw[List.take_length] at h2
      refine⟨o,?_,h1,h2,h3⟩
      refine Ev.round 1 (L:=fun φ n=>Z158.l0 (mkR (run E (φ 0))) (φ 0) n l (l.length:Int) o) ?_ (fun _ _ _=>rfl)
      simp only[Z158.l0_succ _ qag]
      exact qaJ (decide_eq_false (by omega)) qam
    | succ d ih =>
      intro i o hi h1 h2 h3
      have hil:i<l.length:=by omega
      obtain⟨g1,g2⟩:=hx _ (List.getElem_mem hil)
      have hadd:qnK (l[i].length-1)≤41:=by
        have:l[i].length-1=0∨l[i].length-1=1∨l[i].length-1=2∨l[i].length-1=3:=by omega
        rcases this with e | e | e | e<;>rw[e]<;>decide
      have hlen:∀ x∈o,x.length≤4:=fun x hx'=>by
        obtain⟨s,hs,hf⟩:=(h2 x).1 hx'
        have:=(hx s (List.mem_of_mem_take hs)).2
        have:=qoT hf
        omega
      obtain⟨o',hr,hs',hm',hl'⟩:=qrP (l[i].length-1) l[i] o (by omega) (by omega) (by omega) ⟨by show o.length≤1048576;omega,fun x hx'=>by have:=hlen x hx';exact⟨by show x.length≤1048576;omega,fun _ _=>trivial⟩⟩ h1 (fun y hy x hxy=>by
        obtain⟨s,hs,hf⟩:=(h2 y).1 hy
        exact(h2 x).2 ⟨s,hs,qkS hxy hf⟩)
      obtain⟨c',hc1,hc2⟩:=ih (i+1) o' (by omega) hs' (fun x=>by
        rw[hm',h2,List.take_succ_eq_append_getElem hil]
        constructor
        · rintro(⟨s,hs,h⟩ | h)
          · exact⟨s,List.mem_append.2 (.inl hs),h⟩
          · exact⟨_,List.mem_append.2 (.inr (List.mem_singleton.2 rfl)),h⟩
        · rintro⟨s,hs,h⟩
          rcases List.mem_append.1 hs with hs | hs
          · exact .inl ⟨s,hs,h⟩
          · rw[List.mem_singleton] at hs;subst hs;exact .inr h) (by omega)
      refine⟨c',?_,hc2⟩
      refine Ev.round 1 (L:=fun φ n=>Z158.l0 (mkR (run E (φ 0))) (φ 0) n l (i:Int) o) ?_ (fun _ _ _=>rfl)
      simp only[Z158.l0_succ _ qag]
      refine qaD (decide_eq_true (by omega)) (qaf (qap hil) (qaa hr ?_))
      rw[qae (by omega)]
      exact hc1
  obtain⟨c',h1,h2⟩:=loop l.length 0 [] (by omega) (fun i j hj=>by simp at hj) (fun x=>by simp) (by simp)
  refine⟨c',?_,h2⟩
  refine qal ?_
  simp only[run_Z158,Z158.ev]
  exact Ev.start (p:=fun φ n=>Z158.l0 (mkR (run E (φ 0))) (φ 0) n l 0 []=_) 1 h1 (fun _ _ _ h=>h)
end VeT
open Go Go.Proofs Ve
namespace VeT
def EvQ(A:(Nat→Nat)→Option Dv)(out:Ty)(Q:out.T→Prop):Prop:=∃ x,(Ev fun φ=>A φ=some ⟨out,x⟩)∧Q x
def qjM(f:Nat)(args:List Dv)(out:Ty)(Q:out.T→Prop):Prop:=∃ x,Ret E f args ⟨out,x⟩∧Q x
theorem qb5{f:Nat}{args:List Dv}{out:Ty}{Q:out.T→Prop}(h:EvQ (fun φ=>run E (φ 0+1) f args) out Q):qjM f args out Q:=let ⟨x,h1,h2⟩:=h;⟨x,qal h1,h2⟩
theorem qaX{out:Ty}{Q:out.T→Prop}{x:out.T}(h:Q x):EvQ (fun _=>some ⟨out,x⟩) out Q:=⟨x,qam,h⟩
theorem qaH{f:Nat}{o:Ty}{args:List Dv}{x:o.T}{out:Ty}{Q:out.T→Prop}{K:(Nat→Nat)→o.T→Option Dv}(h:Ret E f args ⟨o,x⟩)(k:EvQ (fun φ=>K φ x) out Q) :
  EvQ (fun φ=>(Option.bind (qcx (mkR (run E (φ 0))) f o args) fun y=>K φ y)) out Q:=let ⟨z,h1,h2⟩:=k;⟨z,qaa h h1,h2⟩
theorem qbL{f:Nat}{o:Ty}{args:List Dv}{P:o.T→Prop}{out:Ty}{Q:out.T→Prop}{K:(Nat→Nat)→o.T→Option Dv}(h:qjM f args o P)(k:∀ x,P x→EvQ (fun φ=>K φ x) out Q) :
  EvQ (fun φ=>(Option.bind (qcx (mkR (run E (φ 0))) f o args) fun y=>K φ y)) out Q:=let ⟨x,h1,h2⟩:=h;qaH h1 (k x h2)
theorem qbF{α:Type}{c:Option α}{x:α}{K:(Nat→Nat)→α→Option Dv}{out:Ty}{Q:out.T→Prop}(h:c=some x)(k:EvQ (fun φ=>K φ x) out Q) :
  EvQ (fun φ=>(Option.bind c fun y=>K φ y)) out Q:=let ⟨z,h1,h2⟩:=k;⟨z,qaf h h1,h2⟩
theorem qbb{b:Bool}{K:(Nat→Nat)→Unit→Option Dv}{out:Ty}{Q:out.T→Prop}(h:b=true)(k:EvQ (fun φ=>K φ ()) out Q) :
  EvQ (fun φ=>(Option.bind (chk b) fun y=>K φ y)) out Q:=let ⟨z,h1,h2⟩:=k;⟨z,qar h h1,h2⟩
theorem qqo{b:Bool}{A B:(Nat→Nat)→Option Dv}{out:Ty}{Q:out.T→Prop}(h:b=true)(k:EvQ A out Q):EvQ (fun φ=>bif b then A φ else B φ) out Q:=by subst h;exact k
theorem qfl{b:Bool}{A B:(Nat→Nat)→Option Dv}{out:Ty}{Q:out.T→Prop}(h:b=false)(k:EvQ B out Q):EvQ (fun φ=>bif b then A φ else B φ) out Q:=by subst h;exact k
theorem qi3{b:Bool}{A B:(Nat→Nat)→Option Dv}{out:Ty}{Q:out.T→Prop}(t:b=true→EvQ A out Q)(f:b=false→EvQ B out Q):EvQ (fun φ=>bif b then A φ else B φ) out Q:=by
 cases b
 ·exact f rfl
 ·exact t rfl
theorem qcU{p:Prop}[Decidable p]{A B:(Nat→Nat)→Option Dv}{out:Ty}{Q:out.T→Prop}(t:p→EvQ A out Q)(f:¬ p→EvQ B out Q):EvQ (fun φ=>bif decide p then A φ else B φ) out Q :=
 qi3 (fun h=>t (of_decide_eq_true h)) fun h=>f (of_decide_eq_false h)
theorem EvQ.round(l:Nat){L:(Nat→Nat)→Nat→Option Dv}{out:Ty}{Q:out.T→Prop}(h:EvQ (fun φ=>L φ (φ l+1)) out Q)(hind:∀ φ n n',L (fup φ l n') n=L φ n):EvQ (fun φ=>L φ (φ l)) out Q :=
 let ⟨z,h1,h2⟩:=h;⟨z,Ev.round l h1 hind,h2⟩
theorem EvQ.start(l:Nat){L:(Nat→Nat)→Nat→Option Dv}{out:Ty}{Q:out.T→Prop}(h:EvQ (fun φ=>L φ (φ l)) out Q)(hind:∀ φ n n',L (fup φ l n') n=L φ n):EvQ (fun φ=>L φ (φ 0)) out Q :=
 let ⟨z,h1,h2⟩:=h;⟨z,Ev.start (p:=fun φ n=>L φ n=_) l h1 (fun φ n n' h=>by rw[hind] at h;exact h),h2⟩
theorem EvQ.loop(l:Nat){σ:Type}{L:(Nat→Nat)→Nat→σ→Option Dv}{out:Ty}{Q:out.T→Prop}(hind:∀ φ n n' s,L (fup φ l n') n s=L φ n s)(Inv:σ→Prop)(μ:σ→Nat)
  (step:∀ s,Inv s→(∀ s',Inv s'→μ s'<μ s→EvQ (fun φ=>L φ (φ l) s') out Q)→EvQ (fun φ=>L φ (φ l+1) s) out Q):∀ s,Inv s→EvQ (fun φ=>L φ (φ l) s) out Q:=by
 have key:∀ d s,μ s<d→Inv s→EvQ (fun φ=>L φ (φ l) s) out Q:=by
  intro d
  induction d with
  | zero=>intro s h;omega
  | succ d ih =>
   intro s hd hi
   exact EvQ.round l (L:=fun φ n=>L φ n s) (step s hi fun s' hi' hl=>ih s' (by omega) hi') (fun φ n n'=>hind φ n n' s)
 exact fun s=>key _ s (Nat.lt_succ_self _)
abbrev Src:=List Int×Int×Int×Unit
abbrev cR:Ty:=.cons (.sl (.int .u8)) (.cons (.int .i64) (.cons (.int .u64) .nil))
abbrev dR(s:Src):Dv:=⟨.ptr cR,s⟩
abbrev dB(s:List Int):Dv:=⟨.sl (.int .u8),s⟩
def SO(n:Nat)(s:Src):Prop:=(∀ b∈s.1,0≤b∧b≤255)∧0≤s.2.1∧s.2.1≤(n:Int)
theorem SO.le{n m:Nat}{s:Src}(h:SO n s)(hm:n≤m):SO m s:=⟨h.1,h.2.1,by have:=h.2.2;omega⟩
theorem qhY(c:List Int):Ret E n_Z135 [dB c] ⟨o_Z135,((c,0,0,()),())⟩:=by
 refine qal ?_
 simp only[run_Z135,Z135.ev]
 exact Ev.of fun _=>trivial
theorem qq9(x:BitVec (IntKind.bits .u64)):0≤w64 (IntKind.wrap .u64 (BitVec.toNat (x &&& BitVec.ofInt (IntKind.bits .u64) (255:Int))))∧w64 (IntKind.wrap .u64 (BitVec.toNat (x &&& BitVec.ofInt (IntKind.bits .u64) (255:Int))))≤255:=by
 have h:(x &&& BitVec.ofInt (IntKind.bits .u64) (255:Int)).toNat≤255:=by
  rw[BitVec.toNat_and]
  have:(BitVec.ofInt (IntKind.bits .u64) (255:Int)).toNat=255:=by decide
  rw[this]
  exact Nat.and_le_right
 rw[qlq (by omega) (by omega),qad (by omega) (by omega)]
 omega
theorem qne(n:Nat)(s:Src)(hn:n≤1152921504606846976)(hs:SO n s):qjM n_Z142 [dR s] o_Z142 fun(r:Int×Src×Unit)=>0≤r.1∧r.1≤255∧SO (n+1) r.2.1:=by
 obtain⟨c,a,g,⟨⟩⟩:=s
 obtain⟨h1,h2,h3⟩:=hs
 simp only at h1 h2 h3
 have ha:w64 (a+1)=a+1:=qad (by omega) (by omega)
 have hj:∀ b:Int,0≤b→b≤255→EvQ (fun φ=>Z142.j0 (mkR (run E (φ 0))) (φ 0) b c a g) o_Z142 fun(r:Int×Src×Unit)=>0≤r.1∧r.1≤255∧SO (n+1) r.2.1:=by
  intro b hb1 hb2
  simp only[Z142.j0_eq _ qag,ha]
  refine qcU (fun h=>qaX ⟨hb1,hb2,h1,?_,?_⟩) fun h=>?_
  ·show 0≤a+1;omega
  ·show a+1≤((n+1:Nat):Int);omega
  ·refine qbb (by decide) (qaX ⟨?_,?_,h1,?_,?_⟩)
   ·exact(qq9 _).1
   ·exact(qq9 _).2
   ·show 0≤a+1;omega
   ·show a+1≤((n+1:Nat):Int);omega
 refine qb5 ?_
 simp only[run_Z142,Z142.ev]
 refine qcU (fun h=>?_) fun h=>hj 0 (by omega) (by omega)
 obtain⟨k,rfl⟩:∃ k:Nat,a=(k:Int):=⟨a.toNat,by omega⟩
 have hk:k<c.length:=by omega
 have hb:=h1 _ (List.getElem_mem hk)
 refine qbF (qap hk) ?_
 have e:w64 c[k]=c[k]:=qad (by omega) (by omega)
 have:=hj _ hb.1 hb.2
 rw[← e] at this
 exact this
theorem qbl(n:Nat)(s:Src)(k:Int)(hn:n≤1000000000000)(hs:SO n s):qjM n_Z144 [dR s,dI k] o_Z144 fun(r:Int×Src×Unit)=>0≤r.1∧(r.1<k∨r.1=0)∧r.1≤65535∧SO (n+2) r.2.1:=by
 obtain⟨c,a,g,⟨⟩⟩:=s
 refine qb5 ?_
 simp only[run_Z144,Z144.ev]
 refine qcU (fun h=>qaX ⟨Int.le_refl _,.inr rfl,(by show(0:Int)≤65535;decide),hs.le (by omega)⟩) fun h=>?_
 have hk:0<k:=by omega
 have tm:∀ x:Int,0≤x→0≤Int.tmod x k∧Int.tmod x k<k∧Int.tmod x k≤x:=fun x hx=>by
  rw[Int.tmod_eq_emod_of_nonneg hx]
  have h1:=Int.mul_ediv_add_emod x k
  have h2:0≤k*(x / k):=Int.mul_nonneg (by omega) (Int.ediv_nonneg hx (by omega))
  generalize k*(x / k)=y at h1 h2
  exact⟨Int.emod_nonneg _ (by omega),Int.emod_lt_of_pos _ hk,by omega⟩
 have hne:(k != 0)=true:=by simp;omega
 refine qbL (qne n _ (by omega) hs) fun(r:Int×Src×Unit) ⟨r1,r2,r3⟩=>?_
 refine qcU (fun h2=>?_) fun h2=>?_
 ·refine qbL (qne (n+1) _ (by omega) r3) fun(q:Int×Src×Unit) ⟨q1,q2,q3⟩=>?_
  refine qbb hne (qaX ?_)
  have e1:w64 (r.1*256)=r.1*256:=qad (by omega) (by omega)
  have e2:w64 (r.1*256+q.1)=r.1*256+q.1:=qad (by omega) (by omega)
  have:=tm (r.1*256+q.1) (by omega)
  refine⟨?_,.inl ?_,?_,q3⟩
  ·show 0≤Int.tmod _ _;rw[e1,e2];exact this.1
  ·show Int.tmod _ _<_;rw[e1,e2];exact this.2.1
  ·show Int.tmod _ _≤_;rw[e1,e2];omega
 ·have:=tm r.1 r1
  exact qbb hne (qaX ⟨this.1,.inl this.2.1,(by show Int.tmod _ _≤_;omega),r3.le (by omega)⟩)
theorem qrM(n:Nat)(s:Src)(k:Int)(hn:n≤1000000000000)(hs:SO n s):qjM n_Z143 [dR s,dI k] o_Z143 fun(r:Bool×Src×Unit)=>SO (n+2) r.2.1:=by
 obtain⟨c,a,g,⟨⟩⟩:=s
 refine qb5 ?_
 simp only[run_Z143,Z143.ev]
 exact qbL (qbl n _ k hn hs) fun(r:Int×Src×Unit) ⟨r1,r2,r3,r4⟩=>qaX r4
theorem qoR(n:Nat)(s:Src)(l:List Int)(hl:l≠[])(hn:n≤1000000000000)(hs:SO n s):qjM n_Z141 [dR s,dL l] o_Z141 fun(r:Int×Src×Unit)=>r.1∈l∧SO (n+2) r.2.1:=by
 obtain⟨c,a,g,⟨⟩⟩:=s
 have:0<l.length:=List.length_pos_iff.2 hl
 refine qb5 ?_
 simp only[run_Z141,Z141.ev]
 refine qbL (qbl n _ _ hn hs) fun(r:Int×Src×Unit) ⟨r1,r2,r3,r4⟩=>?_
 obtain⟨k,hk⟩:∃ k:Nat,r.1=(k:Int):=⟨r.1.toNat,by omega⟩
 have hkl:k<l.length:=by omega
 rw[hk]
 exact qbF (qap hkl) (qaX ⟨List.getElem_mem hkl,r4⟩)
end VeT
open Go Go.Proofs Ve
namespace VeT
theorem qec{c:List Sim}(hv:VC c):(qbB c c.length).length≤192:=by
 have h:=hv.plc (k:=c.length) (Nat.le_refl _)
 have:=hv.1
 unfold plc at h
 omega
theorem qhr(c:List Sim)(p:Int)(st:Sim)(n:Nat)(hn:n≤3)(hc:Sm (.sl (.sl (.int .i64))) c)(hv:VC c)(hl:st.length=c.length) :
  Ret E n_Z81 [dLL c,dI p,dL st,⟨.fn n_Z10 (.cons (.ptr (.cons (.int .i64) .nil)) (.cons (.ptr (.cons (.int .i64) .nil)) .nil)),((p,()),((n:Int),()),())⟩] ⟨o_Z81,(c,p,st,List.replicate (qbB c c.length).length (qbe p n),())⟩:=by
 have hs:=hv.srt
 have h192:=qec hv
 have h48:=hv.1
 have hr:∀ t (ht:t<(qbB c c.length).length),Ret E n_Z10 [dI (qbB c c.length)[t].1,dI (qbB c c.length)[t].2.1,dI (qbB c c.length)[t].2.2.1,⟨.ptr (.cons (.int .i64) .nil),(p,())⟩,⟨.ptr (.cons (.int .i64) .nil),((n:Int),())⟩] ⟨o_Z10,qbe p n⟩:=fun t ht=>by
  refine qal ?_
  simp only[run_Z10,Z10.ev]
  exact qaa (qqK p n (by omega)) qam
 refine qal ?_
 simp only[run_Z81,Z82.ev]
 refine qaa (qm7 c hc hs) (qaa (qdR st (by omega)) (qaa (qjp c hc hv) ?_))
 refine Ev.start (p:=fun φ m=>Z82.l0 (mkR (run E (φ 0))) (φ 0) m ((p,()),((n:Int),()),()) (qbB c c.length) ((qbB c c.length).length:Int) 0 0 p [] c st=_) 1 ?_ (fun _ _ _ h=>h)
 refine qaq 1 (L:=fun φ m k o=>Z82.l0 (mkR (run E (φ 0))) (φ 0) m ((p,()),((n:Int),()),()) (qbB c c.length) ((qbB c c.length).length:Int) k 0 p o c st) (len:=(qbB c c.length).length) (fun k=>List.replicate k (qbe p n)) (fun _ _ _ _ _=>rfl) (fun k r hk ih=>?_) ?_
 ·simp only[Z82.l0_succ _ qag]
  rw[List.replicate_succ'] at ih
  have hcells:(qbe p n).2.2.2.1.length≤1048576:=by
   unfold qbe
   simp only[qau]
   have:=Nat.mul_le_mul hn hn
   omega
  refine qaD (decide_eq_true (by omega)) (qaf (qap hk) (qaa (hr k hk) (qaa (qjj _ hcells) (qar (by simp only[List.length_replicate,List.length_singleton,decide_eq_true_eq];omega) ?_))))
  rw[qae (by omega)];exact ih
 ·simp only[Z82.l0_succ _ qag]
  exact qaJ (decide_eq_false (by omega)) qam
theorem qgU(c:List Sim)(p:Int)(st:Sim)(hc:Sm (.sl (.sl (.int .i64))) c)(hv:VC c)(hl:st.length=c.length)(hst:∀ x∈st,0≤x∧x≤3) :
  Ret E n_Z180 [dC (c,()),dI p,dL st] ⟨o_Z180,(c,p,st,(qbB c c.length).map (zOf p st),())⟩:=by
 have hs:=hv.srt
 have h192:=qec hv
 have h48:=hv.1
 refine qal ?_
 simp only[run_Z180,Z180.ev]
 refine qaa (qii c hc hv) (qaa (qc0 st (by omega)) ?_)
 refine Ev.start (p:=fun φ n=>Z180.l0 (mkR (run E (φ 0))) (φ 0) n (c,()) p st 0 0 p [] c st=_) 1 ?_ (fun _ _ _ h=>h)
 refine qaq 1 (L:=fun φ n k o=>Z180.l0 (mkR (run E (φ 0))) (φ 0) n (c,()) p st k 0 p o c st) (len:=c.length) (fun k=>(qbB c k).map (zOf p st)) (fun _ _ _ _ _=>rfl) (fun k r hk ih=>?_) ?_
 ·simp only[Z180.l0_succ _ qag]
  have hpl:=hv.plc (k:=k) (by omega)
  unfold plc at hpl
  have hf4:=hv.fIdx4 hk
  refine qaD (decide_eq_true (by show(k:Int)<(c.length:Int);omega)) (qaa (qdy c k hk hc) ?_)
  refine Ev.start (p:=fun φ n=>Z180.l1 (mkR (run E (φ 0))) (φ 0) (φ 1) n (c,()) p st (k:Int) (qaG c k) 0 0 p ((qbB c k).map (zOf p st)) c st=_) 2 ?_ (fun _ _ _ h=>h)
  have:=qaq 2 (L:=fun φ n j o=>Z180.l1 (mkR (run E (φ 0))) (φ 0) (φ 1) n (c,()) p st (k:Int) (qaG c k) j 0 p o c st) (len:=(qaG c k).length) (fun j=>(qbB c k++qmB c k j).map (zOf p st)) (r:=r) (fun _ _ _ _ _=>rfl) (fun j r hj ih=>?_) ?_
  ·simpa [qmB] using this
  ·simp only[Z180.l1_succ _ qag]
   obtain⟨f,f1,f2,f3⟩:=qfg hs hv hk hj
   obtain⟨a,ha,ea,hka,eka⟩:=qgV hl hst hk
   obtain⟨b,hb,eb,hfb,efb⟩:=qgV hl hst f1
   have hz:=qcc p a b (by omega) (by omega)
   have e2:zOf p st ((k:Int),(j:Int),(qaG c k).getD j 0,())=(p,(a:Int),(b:Int),List.replicate (a*b) 0,()):=by
    unfold zOf
    simp only[Int.toNat_natCast,ea,eb,f3]
   have erow:qmB c k (j+1)=qmB c k j++[((k:Int),(j:Int),(qaG c k).getD j 0,())]:=by
    unfold qmB
    rw[List.range_succ,List.map_append,List.map_singleton]
   rw[erow,← List.append_assoc,List.map_append (l₂:=[_]),List.map_singleton,e2] at ih
   refine qaD (decide_eq_true (by omega)) (qaf (qap hka) (qaf (qap hj) ?_))
   simp only[eka,f2]
   refine qaf (qap hfb) ?_
   simp only[efb]
   refine qaa hz (qar (by simp only[List.length_map,List.length_append,qd2,List.length_singleton,decide_eq_true_eq];omega) ?_)
   rw[qae (by omega)];exact ih
  ·simp only[Z180.l1_succ _ qag]
   refine qaJ (decide_eq_false (by omega)) ?_
   rw[qae (by omega)]
   have:qbB c (k+1)=qbB c k++qmB c k (qaG c k).length:=rfl
   rw[this] at ih
   exact ih
 ·simp only[Z180.l0_succ _ qag]
  exact qaJ (decide_eq_false (by show ¬ ((c.length:Int)<(c.length:Int));omega)) qam
theorem qe0(c:List Sim)(p:Int)(n:Nat)(hn:n≤3)(hc:Sm (.sl (.sl (.int .i64))) c)(hv:VC c) :
  Ret E n_Z174 [dC (c,()),dI p,dI (n:Int)] ⟨o_Z174,(c,p,List.replicate c.length (n:Int),List.replicate (qbB c c.length).length (qbe p n),())⟩:=by
 have h192:=qec hv
 have h48:=hv.1
 refine qal ?_
 simp only[run_Z174,Z174.ev]
 refine Ev.start (p:=fun φ q=>Z174.l0 (mkR (run E (φ 0))) (φ 0) q (c,()) p (n:Int) 0 0 []=_) 1 ?_ (fun _ _ _ h=>h)
 refine qaq 1 (L:=fun φ q k o=>Z174.l0 (mkR (run E (φ 0))) (φ 0) q (c,()) p (n:Int) k 0 o) (len:=c.length) (fun k=>List.replicate k (n:Int)) (fun _ _ _ _ _=>rfl) (fun k r hk ih=>?_) ?_
 ·simp only[Z174.l0_succ _ qag]
  rw[List.replicate_succ'] at ih
  refine qaD (decide_eq_true (by show(k:Int)<(c.length:Int);omega)) (qar (by simp only[List.length_replicate,List.length_singleton,decide_eq_true_eq];omega) ?_)
  rw[qae (by omega)];exact ih
 ·simp only[Z174.l0_succ _ qag]
  have hnew:=qgU c p (List.replicate c.length (n:Int)) hc hv (by simp) fun x hx=>by
   rw[List.eq_of_mem_replicate hx];omega
  refine qaJ (decide_eq_false (by show ¬ ((c.length:Int)<(c.length:Int));omega)) (qaa hnew ?_)
  obtain⟨M,hM⟩:∃ M,M=(qbB c c.length).map (zOf p (List.replicate c.length (n:Int))):=⟨_,rfl⟩
  rw[← hM]
  have hMl:M.length=(qbB c c.length).length:=by rw[hM,List.length_map]
  rw[← hMl] at h192 ⊢
  refine Ev.start (p:=fun φ q=>Z174.l1 (mkR (run E (φ 0))) (φ 0) q p (n:Int) 0 0 p M c (List.replicate c.length (n:Int))=_) 1 ?_ (fun _ _ _ h=>h)
  have:=qaq 1 (L:=fun φ q k o=>Z174.l1 (mkR (run E (φ 0))) (φ 0) q p (n:Int) k 0 p o c (List.replicate c.length (n:Int))) (len:=M.length) (fun k=>List.replicate k (qbe p n)++M.drop k) (r:=some ⟨o_Z174,(c,p,List.replicate c.length (n:Int),List.replicate M.length (qbe p n),())⟩) (fun _ _ _ _ _=>rfl) (fun k r hk ih=>?_) ?_
  ·simpa using this
  ·simp only[Z174.l1_succ _ qag]
   have hlen:(List.replicate k (qbe p n)++M.drop k).length=M.length:=by simp;omega
   have hset:(List.replicate k (qbe p n)++M.drop k).set k (qbe p n)=List.replicate (k+1) (qbe p n)++M.drop (k+1):=by
    rw[List.set_append_right _ _ (by simp),List.length_replicate,Nat.sub_self,List.drop_eq_getElem_cons hk,List.set_cons_zero,List.replicate_succ',List.append_assoc,List.singleton_append]
   refine qaD (decide_eq_true (by rw[hlen];omega)) (qaa (qfD p n (by omega)) (qar (by simp only[hlen,Bool.and_eq_true,decide_eq_true_eq];omega) ?_))
   rw[qae (by omega),Int.toNat_natCast]
   have e:((qbe p n).1,(qbe p n).2.1,(qbe p n).2.2.1,(qbe p n).2.2.2.1,())=qbe p n:=rfl
   show Ev fun φ=>Z174.l1 (mkR (run E (φ 0))) (φ 0) (φ 1) p (n:Int) ((k+1:Nat):Int) 0 p (List.set (List.replicate k (qbe p n)++M.drop k) k (qbe p n)) c (List.replicate c.length (n:Int))=r
   rw[hset]
   exact ih
  ·simp only[Z174.l1_succ _ qag]
   refine qaJ (decide_eq_false (by simp)) (qai ?_)
   simp
end VeT
open Go Go.Proofs Ve
namespace VeT
def qhE:List Int→Int→List Int
 | [],n=>[n]
 | x::r,n=>if x<n then x::qhE r n else if n<x then n::x::r else x::r
theorem qhG:∀ {l:List Int} {n y:Int},y∈qhE l n↔y=n∨y∈l
 | [],n,y=>by simp[qhE]
 | x::r,n,y=>by
  unfold qhE
  split
  ·rw[List.mem_cons,qhG,List.mem_cons]
   constructor
   ·rintro(h | h | h)
    ·exact .inr (.inl h)
    ·exact .inl h
    ·exact .inr (.inr h)
   ·rintro(h | h | h)
    ·exact .inr (.inl h)
    ·exact .inl h
    ·exact .inr (.inr h)
  ·split
   ·rw[List.mem_cons]
   ·have:x=n:=by omega
    subst this
    rw[List.mem_cons]
    exact⟨fun h=>.inr h,fun h=>h.elim (fun h=>.inl h) id⟩
theorem qls:∀ {l:List Int} {n:Int},l.Pairwise (·<·)→(qhE l n).Pairwise (·<·)
 | [],n,_=>by simp[qhE]
 | x::r,n,h=>by
  rw[List.pairwise_cons] at h
  unfold qhE
  split
  ·rw[List.pairwise_cons]
   refine⟨fun y hy=>?_,qls h.2⟩
   rcases qhG.1 hy with rfl | hy
   ·assumption
   ·exact h.1 y hy
  ·split
   ·rw[List.pairwise_cons]
    refine⟨fun y hy=>?_,List.pairwise_cons.2 h⟩
    rcases List.mem_cons.1 hy with rfl | hy
    ·assumption
    ·have:=h.1 y hy;omega
   ·exact List.pairwise_cons.2 h
theorem qid:∀ {l:List Int} {n:Int},(qhE l n).length≤l.length+1
 | [],n=>by simp[qhE]
 | x::r,n=>by
  unfold qhE
  split
  ·have:=qid (l:=r) (n:=n);simp;exact this
  ·split<;>simp
theorem VC.get{c:List Sim}(h:VC c){s:Sim}(hs:s∈c):Vx s:=by
 obtain⟨k,hk,rfl⟩:=List.mem_iff_getElem.1 hs
 have:=h.2.1 k hk
 rwa [qah hk] at this
noncomputable def qts(vs im:List Int)(v:Int):Int:=match vs.findIdx? (fun x=>pb (x=v)) with
 | some i=>im.getD i (-1)
 | none=>-1
theorem qoz(l:Sim)(n:Int)(hl:l.length≤1048576):Ret E n_Z138 [dL l,dI n] ⟨o_Z138,(qhE l n,())⟩:=by
  refine qal ?_
  simp only[run_Z138,Z138.ev]
  refine Ev.start (p:=fun φ N=>Z138.l0 (mkR (run E (φ 0))) (φ 0) N l n false 0 []=_) 1 ?_ (fun _ _ _ h=>h)
  refine(qfn 1 (σ:=Bool×Nat×List Int) (L:=fun φ N st=>Z138.l0 (mkR (run E (φ 0))) (φ 0) N l n st.1 (st.2.1:Int) st.2.2) (fun _ _ _ _=>rfl) (fun st=>st.2.1≤l.length∧st.2.2.length≤st.2.1+(bif st.1 then 1 else 0))
    (fun st=>some ⟨o_Z138,(st.2.2++(bif st.1 then l.drop st.2.1 else qhE (l.drop st.2.1) n),())⟩) (fun st=>l.length-st.2.1) (fun st hi ih=>?_) (false,0,[]) ⟨Nat.zero_le _,Nat.zero_le _⟩).to (by simp only[List.nil_append,cond_false,List.drop_zero])
  obtain⟨d,i,o⟩:=st
  obtain⟨h1,h2⟩:=hi
  simp only at h1 h2 ih ⊢
  by_cases hlt:i<l.length
  · have ol:o.length≤i+1:=by cases d<;>simp at h2<;>omega
    have hd:l.drop i=l[i]::l.drop (i+1):=List.drop_eq_getElem_cons hlt
    -- what follows
    have step:∀(d':Bool) (o' X:List Int),o'.length≤i+(bif d' then 1 else 0)→(o'++[l[i]])++(bif d' then l.drop (i+1) else qhE (l.drop (i+1)) n)=X →
        Ev fun φ=>Z138.j2 (mkR (run E (φ 0))) (φ 0) (φ 1) l n d' (i:Int) o'=some ⟨o_Z138,(X,())⟩:=fun d' o' X hol hX=>by
      have ho2:o'.length≤i+1:=by cases d'<;>simp at hol<;>omega
      have:=ih (d',i+1,o'++[l[i]]) ⟨by show i+1≤_;omega,by
        simp only[List.length_append,List.length_singleton]
        cases d'<;>simp at hol ⊢<;>omega⟩ (by simp only;omega)
      simp only at this
      rw[hX] at this
      simp only[Z138.j2_eq _ qag]
      rw[qae (by omega)]
      exact qaf (qap hlt) (qar (by simp;omega) this)
    simp only[Z138.l0_succ _ qag]
    refine qaD (decide_eq_true (by omega)) ?_
    cases d with
    | true =>
      refine qaJ rfl ?_
      have e:o++List.drop i l=(o++[l[i]])++l.drop (i+1):=by rw[hd];simp
      simp only[cond_true] at h2 ⊢
      rw[e]
      simp only[Z138.j1_eq _ qag]
      refine qaJ rfl ?_
      exact step true o _ h2 (by simp only[cond_true])
    | false =>
      refine qaD rfl (qaf (qap hlt) ?_)
      simp only[cond_false,Nat.add_zero] at h2 ⊢
      simp only[Z138.j1_eq _ qag]
      refine qeu (fun hge=>?_) fun hge=>?_
      · have hge:l[i]≥n:=hge
        refine qaf (qap hlt) (qeu (fun hgt=>?_) fun hgt=>?_)
        · have e:o++qhE (List.drop i l) n=((o++[n])++[l[i]])++l.drop (i+1):=by
            rw[hd,qhE,if_neg (by omega),if_pos (show n<l[i] from hgt)];simp
          rw[e]
          exact qar (by simp;omega) (step true (o++[n]) _ (by simp;omega) (by simp only[cond_true]))
        · have hgt:¬ l[i]>n:=hgt
          have e:o++qhE (List.drop i l) n=(o++[l[i]])++l.drop (i+1):=by
            rw[hd,qhE,if_neg (by omega),if_neg (by omega)];simp
          rw[e]
          exact step true o _ (by simp;omega) (by simp only[cond_true])
      · have hge:¬ l[i]≥n:=hge
        have e:o++qhE (List.drop i l) n=(o++[l[i]])++qhE (l.drop (i+1)) n:=by
          rw[hd,qhE,if_pos (by omega)];simp
        rw[e]
        exact step false o _ (by simp;omega) (by simp only[cond_false])
  · have hi:i=l.length:=by omega
    subst hi
    simp only[Z138.l0_succ _ qag,List.drop_length]
    refine qaJ (decide_eq_false (by omega)) ?_
    cases d with
    | true=>exact qaJ rfl (qai (by simp only[cond_true,List.append_nil]))
    | false =>
      simp only[cond_false,Nat.add_zero] at h2 ⊢
      exact qaD rfl (qar (by simp;omega) qam)
end VeT
open Go Go.Proofs Ve
namespace VeT
def qp4:Sim→List Sim
 | []=>[[]]
 | a::s=>qp4 s++(qp4 s).map (a::·)
theorem qh2:∀ {s:Sim},(qp4 s).length=2 ^ s.length
 | []=>rfl
 | a::s=>by rw[qp4,List.length_append,List.length_map,qh2,List.length_cons,Nat.pow_succ];omega
theorem qhM:∀ {x s:Sim},x.Sublist s→x∈qp4 s
 | _,_,.slnil=>by simp[qp4]
 | _,_,.cons a h=>by rw[qp4];exact List.mem_append.2 (.inl (qhM h))
 | _,_,.cons_cons a h=>by rw[qp4];exact List.mem_append.2 (.inr (List.mem_map.2 ⟨_,qhM h,rfl⟩))
theorem qiy{α:Type}[DecidableEq α]:∀ {c d:List α},c.Nodup→(∀ x∈c,x∈d)→c.length≤d.length
 | [],d,_,_=>Nat.zero_le _
 | x::c,d,h,hs=>by
  obtain⟨h1,h2⟩:=List.nodup_cons.1 h
  have hx:=hs x List.mem_cons_self
  have:=qiy h2 (d:=d.erase x) fun y hy=>(List.mem_erase_of_ne (fun e=>h1 (by rw[← e];exact hy))).2 (hs y (List.mem_cons_of_mem _ hy))
  rw[List.length_erase_of_mem hx] at this
  have:=List.length_pos_of_mem hx
  rw[List.length_cons];omega
theorem Srt.nodup{c:List Sim}(h:Srt c):c.Nodup:=by
 rw[List.nodup_iff_pairwise_ne,List.pairwise_iff_getElem]
 intro i j hi hj hij e
 have:=h i j hj hij
 rw[e,qcn.2 rfl] at this
 omega
theorem Vx.fa{x s:Sim}(h:Vx s)(hf:Fa x s):Vx x:=by
 refine⟨List.length_pos_iff.2 hf.1,?_,qhC (h.2.2.1.pairwise.sublist hf.2),fun y hy=>h.2.2.2 y (hf.2.subset hy)⟩
 have:=hf.2.length_le
 have:=h.2.1
 omega
theorem qmp{l c:List Sim}(hs:Srt c)(hm:∀ x,x∈c↔∃ s∈l,Fa x s):c.length≤(l.map fun s=>2 ^ s.length).sum:=by
 have h:=qiy hs.nodup (d:=l.flatMap qp4) fun x hx=>by
  obtain⟨s,hs,hf⟩:=(hm x).1 hx
  exact List.mem_flatMap.2 ⟨s,hs,qhM hf.2⟩
 rw[List.length_flatMap] at h
 simp only[qh2] at h
 exact h
theorem qol(l:List Sim)(hl:l.length≤1024)(hx:∀ s∈l,Vx s)(hn:∀ c:List Sim,Srt c→(∀ x,x∈c↔∃ s∈l,Fa x s)→c.length≤48) :
  qjM n_Z158 [dLL l] o_Z158 fun(r:List Sim×Unit)=>VC r.1∧∀ x,x∈r.1↔∃ s∈l,Fa x s:=by
 obtain⟨c',h1,h2,h3,_⟩:=qmQ l hl fun s hs=>⟨(hx s hs).1,(hx s hs).2.1⟩
 have hv:∀ x∈c',Vx x:=fun x hx'=>by
  obtain⟨s,hs,hf⟩:=(h3 x).1 hx'
  exact(hx s hs).fa hf
 have hg:∀ k,k<c'.length→c'.getD k []∈c':=fun k hk=>by
  rw[List.getD_eq_getElem?_getD,List.getElem?_eq_getElem hk];exact List.getElem_mem hk
 refine⟨(c',()),h1,⟨hn c' h2 h3, fun k hk=>hv _ (hg k hk),fun k hk1 (hk:k<c'.length)=>?_,fun k (hk:k<c'.length) f hf=>?_⟩,h3⟩
 ·have:=h2 (k-1) k hk (by omega)
  rw[List.getD_eq_getElem?_getD,List.getD_eq_getElem?_getD,List.getElem?_eq_getElem hk,List.getElem?_eq_getElem (show k-1<c'.length by omega)]
  exact this
 ·obtain⟨s,hs,hfa⟩:=(h3 _).1 (hg k hk)
  obtain⟨h1,i,hi,rfl⟩:=qdd.1 hf
  refine(h3 _).2 ⟨s,hs,qkS ⟨fun e=>?_,List.eraseIdx_sublist _ _⟩ hfa⟩
  have:=congrArg List.length e
  rw[List.length_eraseIdx_of_lt hi] at this
  rw[List.length_nil] at this
  omega
theorem VC.sm{c:List Sim}(h:VC c):Sm (.sl (.sl (.int .i64))) c:=by
 refine⟨by have:=h.1;show c.length≤1048576;omega,fun s hs=>?_⟩
 obtain⟨k,hk,rfl⟩:=List.getElem_of_mem hs
 have:=h.2.1 k hk
 rw[List.getD_eq_getElem?_getD,List.getElem?_eq_getElem hk] at this
 have:=this.2.1
 refine⟨?_,fun _ _=>trivial⟩
 show(c[k]).length≤1048576
 simp at this
 omega
theorem qis(n:Nat)(s:Src)(v most:Int)(hn:n≤100000000000)(hs:SO n s)(hm:1≤most∧most≤4)(hv:1≤v∧v≤10) :
  qjM n_Z160 [dR s,dI v,dI most] o_Z160 fun(r:Sim×Src×Unit)=>Vx r.1∧(r.1.length:Int)≤most∧(∀ x∈r.1,x<v)∧SO (n+12) r.2.1:=by
 obtain⟨c,a,g,⟨⟩⟩:=s
 refine qb5 ?_
 simp only[run_Z160,Z160.ev]
 refine qbL (qbl n _ most (by omega) hs) fun(r:Int×Src×Unit) ⟨r1,r2,r3,r4⟩=>?_
 obtain⟨k0,hk0⟩:∃ k:Nat,(r.1:Int)=(k:Int):=⟨Int.toNat r.1,(Int.toNat_of_nonneg r1).symm⟩
 have e0:w64 (1+r.1)=((k0+1:Nat):Int):=by rw[hk0,qad (by omega) (by omega)];omega
 refine EvQ.start 1 (L:=fun φ N=>Z160.l0 (mkR (run E (φ 0))) (φ 0) N v [] (w64 (1+r.1)) r.2.1.1 r.2.1.2.1 r.2.1.2.2.1) ?_ (fun _ _ _=>rfl)
 rw[e0]
 refine EvQ.loop 1 (σ:=Sim×Nat×Src) (L:=fun φ N st=>Z160.l0 (mkR (run E (φ 0))) (φ 0) N v st.1 (st.2.1:Int) st.2.2.1 st.2.2.2.1 st.2.2.2.2.1) (fun _ _ _ _=>rfl)
  (fun st=>st.1.Pairwise (·<·)∧(∀ x∈st.1,0≤x∧x<v)∧((st.1.length+st.2.1:Nat):Int)≤most∧1≤st.1.length+st.2.1∧SO (n+10-2*st.2.1) st.2.2) (fun st=>st.2.1) (fun st hi ih=>?_) ([],k0+1,r.2.1) ⟨List.Pairwise.nil,fun x hx=>by simp at hx,?_,?_,?_⟩
 ·obtain⟨o,k,s1⟩:=st
  obtain⟨i1,i2,i3,i4,i5⟩:=hi
  simp only at i1 i2 i3 i4 i5 ih ⊢
  simp only[Z160.l0_succ _ qag]
  refine qcU (fun h=>?_) fun h=>?_
  ·refine qbL (qbl _ s1 v (by omega) i5) fun(q:Int×Src×Unit) ⟨q1,q2,q3,q4⟩=>?_
   refine qaH (qoz o q.1 (by omega)) ?_
   rw[show w64 ((k:Int)-1)=((k-1:Nat):Int) by rw[qad (by omega) (by omega)];omega]
   refine ih (qhE o q.1,k-1,q.2.1) ⟨qls i1,fun x hx=>?_,?_,?_,?_⟩ (by show k-1<k;omega)
   ·rcases qhG.1 hx with rfl | hx
    ·omega
    ·exact i2 x hx
   ·have:=qid (l:=o) (n:=q.1)
    show((((qhE o q.1).length+(k-1):Nat)):Int)≤most
    omega
   ·have:1≤(qhE o q.1).length:=List.length_pos_of_mem (qhG.2 (.inl rfl))
    show 1≤(qhE o q.1).length+(k-1)
    omega
   ·exact q4.le (by show n+10-2*k+2≤n+10-2*(k-1);omega)
  ·refine qaX ⟨⟨by show 1≤o.length;omega,by show o.length≤4;omega,qhC i1,fun x hx=>⟨(i2 x hx).1,by have:=(i2 x hx).2;omega⟩⟩,by show(o.length:Int)≤most;omega,fun x hx=>(i2 x hx).2,i5.le (by omega)⟩
 ·show((([]:Sim).length+(k0+1):Nat):Int)≤most
  simp;omega
 ·show 1≤([]:Sim).length+(k0+1)
  simp
 ·exact r4.le (by show n+2≤n+10-2*(k0+1);omega)
def S5(c:List Sim):Prop:=∀ x∈c,x.length≤3∧∀ v∈x,v<5
theorem ql9(n:Nat)(s:Src)(hn:n≤10000000000)(hs:SO n s) :
    qjM n_Z176 [dR s] o_Z176 fun(r:List Sim×Src×Unit)=>VC r.1∧S5 r.1∧SO (n+50) r.2.1:=by
  obtain⟨c,a,g,⟨⟩⟩:=s
  have fixed:∀(l:List Sim),l.length≤1024→(∀ s∈l,Vx s)→(l.map fun s=>2 ^ s.length).sum≤48→(∀ s∈l,s.length≤3∧∀ v∈s,v<5) →
      qjM n_Z158 [dLL l] o_Z158 fun(r:List Sim×Unit)=>VC r.1∧S5 r.1:=fun l h1 h2 h3 h5=>by
    obtain⟨r,g1,g2,g3⟩:=qol l h1 h2 fun c hs hm=>Nat.le_trans (qmp hs hm) h3
    refine⟨r,g1,g2,fun x hx=>?_⟩
    obtain⟨s,hs,hf⟩:=(g3 x).1 hx
    have:=hf.2.length_le
    have:=(h5 s hs).1
    exact⟨by omega,fun v hv=>(h5 s hs).2 v (hf.2.subset hv)⟩
  have vx2:∀ a b:Int,0≤a→a<b→b≤9→Vx [a,b]:=fun a b h1 h2 h3=>⟨by simp,by simp,qhC (by simp;exact h2),fun x hx=>by simp at hx;rcases hx with rfl | rfl<;>omega⟩
  have vx3:∀ a b c:Int,0≤a→a<b→b<c→c≤9→Vx [a,b,c]:=fun a b c h1 h2 h3 h4=>⟨by simp,by simp,qhC (by simp;omega),fun x hx=>by simp at hx;rcases hx with rfl | rfl | rfl<;>omega⟩
  refine qb5 ?_
  simp only[run_Z176,Z176.ev]
  refine qbL (qbl n _ 6 (by omega) hs) fun(r:Int×Src×Unit) ⟨r1,r2,r3,r4⟩=>?_
  refine qi3 (fun _=>qbL (fixed _ (by decide) (fun s hs=>?_) (by decide) (by decide)) fun(q:List Sim×Unit) ⟨q1,q2⟩=>qaX ⟨q1,q2,r4.le (by omega)⟩) fun _=>?_
  · simp at hs;rcases hs with rfl | rfl | rfl<;>exact vx2 _ _ (by decide) (by decide) (by decide)
  refine qi3 (fun _=>qbL (fixed _ (by decide) (fun s hs=>?_) (by decide) (by decide)) fun(q:List Sim×Unit) ⟨q1,q2⟩=>qaX ⟨q1,q2,r4.le (by omega)⟩) fun _=>?_
  · simp at hs;rcases hs with rfl | rfl<;>exact vx3 _ _ _ (by decide) (by decide) (by decide) (by decide)
  refine qi3 (fun _=>qbL (fixed _ (by decide) (fun s hs=>?_) (by decide) (by decide)) fun(q:List Sim×Unit) ⟨q1,q2⟩=>qaX ⟨q1,q2,r4.le (by omega)⟩) fun _=>?_
  · simp at hs;rcases hs with rfl | rfl | rfl | rfl<;>exact vx3 _ _ _ (by decide) (by decide) (by decide) (by decide)
  refine qi3 (fun _=>qbL (fixed _ (by decide) (fun s hs=>?_) (by decide) (by decide)) fun(q:List Sim×Unit) ⟨q1,q2⟩=>qaX ⟨q1,q2,r4.le (by omega)⟩) fun _=>?_
  · simp at hs;rcases hs with rfl | rfl | rfl | rfl | rfl<;>exact vx2 _ _ (by decide) (by decide) (by decide)
  refine qbL (qbl (n+2) _ 4 (by omega) r4) fun(q:Int×Src×Unit) ⟨q1,q2,q3,q4⟩=>?_
  obtain⟨k0,hk0⟩:∃ k:Nat,(q.1:Int)=(k:Int):=⟨Int.toNat q.1,(Int.toNat_of_nonneg q1).symm⟩
  refine EvQ.start 1 (L:=fun φ N=>Z176.l0 (mkR (run E (φ 0))) (φ 0) N q.1 [] q.2.1.1 q.2.1.2.1 q.2.1.2.2.1) ?_ (fun _ _ _=>rfl)
  rw[hk0]
  refine EvQ.loop 1 (σ:=Nat×List Sim×Src) (L:=fun φ N st=>Z176.l0 (mkR (run E (φ 0))) (φ 0) N (st.1:Int) st.2.1 st.2.2.1 st.2.2.2.1 st.2.2.2.2.1) (fun _ _ _ _=>rfl)
    (fun st=>(∀ x∈st.2.1,Vx x∧x.length≤3∧∀ v∈x,v<5)∧st.2.1.length+st.1≤3∧SO (n+40-12*st.1) st.2.2) (fun st=>st.1) (fun st hi ih=>?_) (k0,[],q.2.1) ⟨fun x hx=>by simp at hx,by simp;omega,q4.le (by show n+2+2≤n+40-12*k0;omega)⟩
  obtain⟨k,o,s1⟩:=st
  obtain⟨i1,i2,i3⟩:=hi
  simp only at i1 i2 i3 ih ⊢
  simp only[Z176.l0_succ _ qag]
  refine qcU (fun h=>?_) fun h=>?_
  · refine qbL (qis _ s1 5 3 (by omega) i3 (by decide) (by decide)) fun(t:Sim×Src×Unit) ⟨t1,t2,t3,t4⟩=>?_
    refine qbb (decide_eq_true (by simp;omega)) ?_
    rw[show w64 ((k:Int)-1)=((k-1:Nat):Int) by rw[qad (by omega) (by omega)];omega]
    refine ih (k-1,o++[t.1],t.2.1) ⟨fun x hx=>?_,?_,?_⟩ (by show k-1<k;omega)
    · rcases List.mem_append.1 hx with hx | hx
      · exact i1 x hx
      · rw[List.mem_singleton] at hx;subst hx;exact⟨t1,by omega,t3⟩
    · show(o++[t.1]).length+(k-1)≤3
      simp;omega
    · exact t4.le (by show n+40-12*k+12≤n+40-12*(k-1);omega)
  · refine qbL (fixed o (by omega) (fun s hs=>(i1 s hs).1) ?_ fun s hs=>(i1 s hs).2) fun(q:List Sim×Unit) ⟨q1,q2⟩=>qaX ⟨q1,q2,i3.le (by omega)⟩
    have:∀(l:List Sim),(∀ x∈l,x.length≤3)→(l.map fun s=>2 ^ s.length).sum≤8*l.length:=by
      intro l
      induction l with
      | nil=>intro _;simp
      | cons x l ih =>
        intro h
        have h1:=h x List.mem_cons_self
        have h2:=ih fun y hy=>h y (List.mem_cons_of_mem _ hy)
        have h3:2 ^ x.length≤2 ^ 3:=Nat.pow_le_pow_right (by decide) h1
        simp only[List.map_cons,List.sum_cons,List.length_cons]
        omega
    have:=this o fun x hx=>(i1 x hx).2.1
    omega
end VeT
open Go Go.Proofs Ve
namespace VeT
noncomputable def rkX(x:Shf)(k:Int):Nat:=rkM x.2.1 (SD x.1 x.2.2.1 (k+1)).toNat (SD x.1 x.2.2.1 k).toNat (qcR x k).2.2.2.1
theorem qdg{x:Shf}(hs:ISh x){k:Int}(hk:0≤k∧k≤3):((qe2 x k).length:Int)=SD x.1 x.2.2.1 k-(rkX x k:Int)-(rkX x (k-1):Int):=by
 obtain⟨h,hw⟩:=hs
 obtain⟨W,eW,bW,tW⟩:=qc5 h k
 have hl:(qet x.1 x.2.1 x.2.2.1 x.2.2.2.1 (k-1)).length=(SD x.1 x.2.2.1 k).toNat*(SD x.1 x.2.2.1 (k-1)).toNat:=by rw[qa4,Int.sub_add_cancel]
 have:=qrz h.2.1 hl (qbh h (k-1)) qa4 (qbh h k) fun j hj i hi=>by
  by_cases h1:1≤k
  ·exact qpu h hw h1 hi hj
  ·rw[qfN h.1 _ (by omega)] at hj
   exact absurd hj (by simp)
 have e1:rkX x (k-1)=rkM x.2.1 (SD x.1 x.2.2.1 k).toNat (SD x.1 x.2.2.1 (k-1)).toNat (qet x.1 x.2.1 x.2.2.1 x.2.2.2.1 (k-1)):=by unfold rkX;rw[Int.sub_add_cancel];rfl
 have e2:rkX x k=rkM x.2.1 (SD x.1 x.2.2.1 (k+1)).toNat (SD x.1 x.2.2.1 k).toNat (qet x.1 x.2.1 x.2.2.1 x.2.2.2.1 k):=rfl
 have e3:(qe2 x k).length=(qnq x.2.1 (SD x.1 x.2.2.1 k).toNat (qb7 (SD x.1 x.2.2.1 k).toNat (SD x.1 x.2.2.1 (k-1)).toNat (qet x.1 x.2.1 x.2.2.1 x.2.2.2.1 (k-1))) (qlZ x.2.1 (SD x.1 x.2.2.1 (k+1)).toNat (SD x.1 x.2.2.1 k).toNat (qet x.1 x.2.1 x.2.2.1 x.2.2.2.1 k))).length:=rfl
 rw[← e1,← e2,← e3,tW] at this
 omega
end VeT
open Go Go.Proofs Ve
namespace VeT
theorem qlH(x:Shf)(k:Int)(hx:Sm (.st cS) x)(hk:0≤k∧k≤3)(hs:VS x.1 x.2.1 x.2.2.1 x.2.2.2.1) :
  Ret E n_Z36 [dLL x.1,dI x.2.1,dL x.2.2.1,dMs x.2.2.2.1,dI k] ⟨o_Z36,(qe2 x k,())⟩:=by
 obtain⟨W,eW,bW,tW⟩:=qc5 hs k
 obtain⟨C,eC,bC,tC⟩:=qc5 hs (k-1)
 have hl:(qcR x (k-1)).2.2.2.1.length=W*C:=by show(qet _ _ _ _ (k-1)).length=_;rw[qa4,tC,show k-1+1=k by omega,tW]
 have he:qaE (qcR x (k-1)).2.2.2.1 x.2.1:=qbh hs (k-1)
 obtain⟨hcr,hcl,hcw⟩:=qff hl he
 obtain⟨hkr,hkl⟩:=qhN (k:=k) hs
 have e1:(qcR x (k-1)).2.1=(W:Int):=by show SD x.1 x.2.2.1 (k-1+1)=_;rw[show k-1+1=k by omega,eW]
 have e2:(qcR x (k-1)).2.2.1=(C:Int):=eC
 have hp2:2≤x.2.1∧x.2.1≤251:=⟨hs.2.1.1,hs.2.1.2.1⟩
 unfold qe2
 rw[tW,tC]
 rw[tW] at hkr hkl
 have hi:=qhR x.2.1 W (qb7 W C (qcR x (k-1)).2.2.2.1) (qml x k) hs.2.1 (by omega) (by omega) hcw (by omega) hkr
 have hcob:Ret E n_Z34 [dLL x.1,dI x.2.1,dL x.2.2.1,dMs x.2.2.2.1,dI k] ⟨o_Z34,(x.2.1,(W:Int),bas x.2.1 W (qb7 W C (qcR x (k-1)).2.2.2.1),())⟩:=by
  have hm:=qaY x.1 x.2.1 x.2.2.1 x.2.2.2.1 (k-1) (by omega) hx.1 hs
  have hcc:=qfX (qcR x (k-1)).1 W C (qcR x (k-1)).2.2.2.1 hl bW bC
  have hso:=qiu x.2.1 W (qb7 W C (qcR x (k-1)).2.2.2.1) hp2 (by omega) (by omega) hcw
  rw[← e1] at hcc hso
  rw[← e2] at hcc
  refine qal ?_
  simp only[run_Z34,Z34.ev,qad (n:=k-1) (by omega) (by omega)]
  refine qaa hm (qaa hcc (qaa hso (qai ?_)))
  rw[e1]
 refine qal ?_
 simp only[run_Z36,Z36.ev]
 exact qaa hcob (qaa (qaY x.1 x.2.1 x.2.2.1 x.2.2.2.1 k (by omega) hx.1 hs) (qaa (qlv k hs) (qaa hi qam)))
theorem qfQ(p:Int)(R W:Nat)(cells:Sim)(hp:2≤p∧p≤251)(hR:R≤1048576)(hW:W≤1048576)(hRW:R*W≤1048576)(hl:cells.length=R*W)(he:qaE cells p) :
  Ret E n_Z152 [dM (p,(R:Int),(W:Int),cells,())] ⟨o_Z152,((rkM p R W cells:Int),())⟩:=by
 obtain⟨det,h⟩:=qfp p R W cells hp hR hW hRW hl he
 refine qal ?_
 simp only[run_Z152,Z152.ev]
 refine qaa h (qai ?_)
 simp only[qaZ]
 rfl
noncomputable def qmo(x:Shf)(n:Nat):Sim:=(List.range n).map fun(k:Nat)=>((qe2 x (k:Int)).length:Int)
theorem qoN{x:Shf}{n:Nat}:qmo x (n+1)=qmo x n++[((qe2 x (n:Int)).length:Int)]:=by unfold qmo;rw[List.range_succ,List.map_append];rfl
theorem qiW{x:Shf}{n:Nat}:(qmo x n).length=n:=by simp[qmo]
open Classical in
noncomputable def qbw(x:Shf):Sim×Int×Unit:=if ISh x then(qmo x 4,0,()) else([],1,())
theorem qcy(x:Shf)(hx:Sm (.st cS) x):Ret E n_Z8 [dLL x.1,dI x.2.1,dL x.2.2.1,dMs x.2.2.2.1] ⟨o_Z8,qbw x⟩:=by
 refine qal ?_
 simp only[run_Z8,Z8.ev]
 refine qaa (qdi x hx) ?_
 unfold qbw
 by_cases h:ISh x
 ·rw[if_pos h]
  refine qaJ (by rw[qaI h];rfl) ?_
  refine Ev.start (p:=fun φ n=>Z8.l0 (mkR (run E (φ 0))) (φ 0) n 0 x.1 x.2.1 x.2.2.1 x.2.2.2.1 []=_) 1 ?_ (fun _ _ _ h=>h)
  refine qaq 1 (L:=fun φ n k o=>Z8.l0 (mkR (run E (φ 0))) (φ 0) n k x.1 x.2.1 x.2.2.1 x.2.2.2.1 o) (len:=4) (fun k=>qmo x k) (fun _ _ _ _ _=>rfl) (fun k r hk ih=>?_) ?_
  ·simp only[Z8.l0_succ _ qag]
   rw[qoN] at ih
   refine qaD (decide_eq_true (by omega)) (qaa (qlH x k hx (by omega) h.1) (qaa (ql7 _) (qar (by simp only[qiW,List.length_singleton,decide_eq_true_eq];omega) ?_)))
   rw[qae (by omega)]
   exact ih
  ·simp only[Z8.l0_succ _ qag]
   exact qaJ (decide_eq_false (by omega)) qam
 ·rw[if_neg h]
  exact qaD (by rw[qaw h];rfl) qam
end VeT
open Go Go.Proofs Ve
namespace VeT
theorem qaE.set{l:Sim}{p x:Int}(h:qaE l p)(hx:0≤x∧x≤p-1)(i:Nat):qaE (l.set i x) p:=fun y hy=>by
 rcases List.mem_or_eq_of_mem_set hy with hy | rfl
 ·exact h y hy
 ·exact hx
theorem qaE.zeros{p:Int}(hp:2≤p)(n:Nat):qaE (List.replicate n 0) p:=fun x hx=>by
 rw[(List.mem_replicate.1 hx).2];omega
theorem qnM(n:Nat)(s:Src)(p:Int)(R C:Nat)(hn:n≤10000000000)(hs:SO n s)(hp:2≤p∧p≤251)(hR:R≤4)(hC:C≤4) :
  qjM n_Z147 [dR s,dI p,dI (R:Int),dI (C:Int)] o_Z147 fun(r:Int×Int×Int×Sim×Src×Unit)=>∃ cells s',r=(p,(R:Int),(C:Int),cells,s',())∧cells.length=R*C∧qaE cells p∧SO (n+70) s':=by
 obtain⟨c,a,g,⟨⟩⟩:=s
 have hRC:R*C≤16:=Nat.mul_le_mul hR hC
 refine qb5 ?_
 simp only[run_Z147,Z147.ev]
 refine qaH (qcc p R C (by omega) (by omega)) ?_
 have fin:∀(cells:Sim) (s1:Src) (m:Nat),cells.length=R*C→qaE cells p→m≤n+70→SO m s1→EvQ (fun φ=>Z147.j3 (mkR (run E (φ 0))) (φ 0) 0 0 0 p (R:Int) (C:Int) s1.1 s1.2.1 s1.2.2.1 cells) o_Z147 fun(r:Int×Int×Int×Sim×Src×Unit)=>∃ cells s',r=(p,(R:Int),(C:Int),cells,s',())∧cells.length=R*C∧qaE cells p∧SO (n+70) s':=by
  intro cells s1 m h1 h2 h3 h4
  simp only[Z147.j3_eq _ qag]
  exact qaX ⟨cells,s1,rfl,h1,h2,h4.le h3⟩
 have fold2:∀(cells:Sim) (s1:Src) (m:Nat) (b:Bool),cells.length=R*C→qaE cells p→m≤n+70→SO m s1→(b=true→1<R)→EvQ (fun φ=>Z147.j1 (mkR (run E (φ 0))) (φ 0) p (R:Int) (C:Int) b 0 0 0 p (R:Int) (C:Int) s1.1 s1.2.1 s1.2.2.1 cells) o_Z147 fun(r:Int×Int×Int×Sim×Src×Unit)=>∃ cells s',r=(p,(R:Int),(C:Int),cells,s',())∧cells.length=R*C∧qaE cells p∧SO (n+70) s':=by
  intro cells s1 m b h1 h2 h3 h4 h5
  simp only[Z147.j1_eq _ qag]
  refine qi3 (fun hb=>?_) fun _=>fin cells s1 m h1 h2 h3 h4
  have hR1:=h5 hb
  refine EvQ.start 1 (L:=fun φ N=>Z147.l2 (mkR (run E (φ 0))) (φ 0) N p (R:Int) (C:Int) 0 0 0 0 p (R:Int) (C:Int) s1.1 s1.2.1 s1.2.2.1 cells) ?_ (fun _ _ _=>rfl)
  refine EvQ.loop 1 (σ:=Nat×Sim) (L:=fun φ N st=>Z147.l2 (mkR (run E (φ 0))) (φ 0) N p (R:Int) (C:Int) (st.1:Int) 0 0 0 p (R:Int) (C:Int) s1.1 s1.2.1 s1.2.2.1 st.2) (fun _ _ _ _=>rfl)
   (fun st=>st.1≤C∧st.2.length=R*C∧qaE st.2 p) (fun st=>C-st.1) (fun st hi ih=>?_) (0,cells) ⟨Nat.zero_le _,h1,h2⟩
  obtain⟨k,o⟩:=st
  obtain⟨i1,i2,i3⟩:=hi
  simp only at i1 i2 i3 ih ⊢
  simp only[Z147.l2_succ _ qag]
  refine qcU (fun h=>?_) fun h=>fin o s1 m i2 i3 h3 h4
  have hk:k<C:=by omega
  have hCR:C≤R*C:=by have:=Nat.mul_le_mul_right C (show 1≤R by omega);omega
  have hix:=qfj (R:=R) (C:=C) (show R-1<R by omega) hk
  have e1:w64 ((R:Int)-1)=((R-1:Nat):Int):=by rw[qad (by omega) (by omega)];omega
  have e2:w64 (w64 (((R-1:Nat):Int)*(C:Int))+(k:Int))=(((R-1)*C+k:Nat):Int):=qg1 (by omega)
  have hkl:k<o.length:=by omega
  have ho:=i3 _ (List.getElem_mem hkl)
  rw[e1,e2,Int.toNat_natCast,Int.toNat_natCast]
  refine qbb (by simp only[Bool.and_eq_true,decide_eq_true_eq];omega) (qbF (List.getElem?_eq_getElem hkl) (qbb (by simp;omega) (qbb (by simp only[Bool.and_eq_true,decide_eq_true_eq];omega) ?_)))
  rw[qae (by omega)]
  refine ih (k+1,_) ⟨by show k+1≤C;omega,by rw[List.length_set];exact i2,i3.set ?_ _⟩ (by show C-(k+1)<C-k;omega)
  have e3:w64 (o[k]*2)=o[k]*2:=qad (by omega) (by omega)
  rw[e3,Int.tmod_eq_emod_of_nonneg (by omega)]
  exact qcF hp.1
 refine EvQ.start 1 (L:=fun φ N=>Z147.l0 (mkR (run E (φ 0))) (φ 0) N p (R:Int) (C:Int) 0 0 0 0 p (R:Int) (C:Int) c a g (List.replicate (R*C) 0)) ?_ (fun _ _ _=>rfl)
 refine EvQ.loop 1 (σ:=Nat×Src×Sim) (L:=fun φ N st=>Z147.l0 (mkR (run E (φ 0))) (φ 0) N p (R:Int) (C:Int) (st.1:Int) 0 0 0 p (R:Int) (C:Int) st.2.1.1 st.2.1.2.1 st.2.1.2.2.1 st.2.2) (fun _ _ _ _=>rfl)
  (fun st=>st.1≤R*C∧SO (n+4*st.1) st.2.1∧st.2.2.length=R*C∧qaE st.2.2 p) (fun st=>R*C-st.1) (fun st hi ih=>?_) (0,(c,a,g,()),List.replicate (R*C) 0) ⟨Nat.zero_le _,hs,by simp,qaE.zeros hp.1 _⟩
 obtain⟨i,s1,o⟩:=st
 obtain⟨i1,i2,i3,i4⟩:=hi
 simp only at i1 i2 i3 i4 ih ⊢
 simp only[Z147.l0_succ _ qag]
 refine qcU (fun h=>?_) fun h=>?_
 ·have hi:i<R*C:=by omega
  refine qbL (qbl _ s1 3 (by omega) i2) fun(r:Int×Src×Unit) ⟨r1,r2,r3,r4⟩=>?_
  rw[qae (by omega),Int.toNat_natCast]
  refine qcU (fun h2=>?_) fun h2=>?_
  ·refine qbL (qbl _ r.2.1 p (by omega) r4) fun(q:Int×Src×Unit) ⟨q1,q2,q3,q4⟩=>?_
   refine qbb (by simp only[Bool.and_eq_true,decide_eq_true_eq];omega) ?_
   exact ih (i+1,q.2.1,o.set i q.1) ⟨by show i+1≤R*C;omega,q4.le (by show n+4*i+2+2≤n+4*(i+1);omega),by rw[List.length_set];exact i3,i4.set (by omega) _⟩ (by show R*C-(i+1)<R*C-i;omega)
  ·exact ih (i+1,r.2.1,o) ⟨by show i+1≤R*C;omega,r4.le (by show n+4*i+2≤n+4*(i+1);omega),i3,i4⟩ (by show R*C-(i+1)<R*C-i;omega)
 ·refine qcU (fun h2=>?_) fun h2=>?_
  ·exact qbL (qrM _ s1 3 (by omega) i2) fun(r:Bool×Src×Unit) r4=>fold2 o r.2.1 _ r.1 i3 i4 (by omega) r4 fun _=>by omega
  ·exact fold2 o s1 _ false i3 i4 (by omega) i2 fun h=>by cases h
end VeT
open Go Go.Proofs Ve
namespace VeT
def qkQ(a b:Sim)(W V:Nat):Ent:=fun i j=>if j<W then qbp a W i j else qbp b V i (j-W)
def qfz(a b:Sim)(W V R:Nat):Sim:=qav (qkQ a b W V) (W+V) R
theorem qpv{a b:Sim}{W V i:Nat}:(List.range (W+V)).map (qkQ a b W V i)=(List.range W).map (qbp a W i)++(List.range V).map (qbp b V i):=by
 rw[List.range_add,List.map_append,List.map_map]
 congr 1
 ·refine List.map_congr_left fun j hj=>?_
  have:=List.mem_range.1 hj
  simp[qkQ,this]
 ·refine List.map_congr_left fun j hj=>?_
  show(if W+j<W then qbp a W i (W+j) else qbp b V i (W+j-W))=_
  rw[if_neg (by omega),Nat.add_sub_cancel_left]
theorem qoY(p:Int)(R W V:Nat)(cells b:Sim)(hR:R≤32)(hW:W≤32)(hV:V≤32)(hl:cells.length=R*W)(hbl:b.length=R*V) :
  Ret E n_Z149 [dM (p,(R:Int),(W:Int),cells,()),dM (p,(R:Int),(V:Int),b,())] ⟨o_Z149,(p,(R:Int),((W+V:Nat):Int),qfz cells b W V R,())⟩:=by
 have hRW:=qcZ hR hW
 have hRV:=qcZ hR hV
 refine qal ?_
 simp only[run_Z149,Z149.ev,Z149.j0_eq _ qag]
 rw[show w64 ((W:Int)+(V:Int))=((W+V:Nat):Int) by rw[qad (by omega) (by omega)];omega]
 generalize hMt:(p,(R:Int),(W:Int),cells,())=M
 generalize hNt:(p,(R:Int),(V:Int),b,())=N
 have M2:M.2.1=(R:Int):=by rw[← hMt]
 have M3:M.2.2.1=(W:Int):=by rw[← hMt]
 have M4:M.2.2.2.1=cells:=by rw[← hMt]
 have N3:N.2.2.1=(V:Int):=by rw[← hNt]
 have N4:N.2.2.2.1=b:=by rw[← hNt]
 have one:Ev fun φ=>Z149.l1 (mkR (run E (φ 0))) (φ 0) (φ 0) M N 0 0 0 0 p (R:Int) ((W+V:Nat):Int) []=some ⟨o_Z149,(p,(R:Int),((W+V:Nat):Int),qfz cells b W V R,())⟩:=by
  refine Ev.start (p:=fun φ n=>Z149.l1 (mkR (run E (φ 0))) (φ 0) n M N 0 0 0 0 p (R:Int) ((W+V:Nat):Int) []=_) 1 ?_ (fun _ _ _ h=>h)
  refine qaq 1 (L:=fun φ n i o=>Z149.l1 (mkR (run E (φ 0))) (φ 0) n M N i 0 0 0 p (R:Int) ((W+V:Nat):Int) o) (len:=R) (fun i=>qav (qkQ cells b W V) (W+V) i) (fun _ _ _ _ _=>rfl) (fun i r hi ih=>?_) ?_
  ·have hle:(i+1)*W≤R*W:=Nat.mul_le_mul_right _ hi
   have hle2:(i+1)*V≤R*V:=Nat.mul_le_mul_right _ hi
   have e1:(i+1)*W=i*W+W:=Nat.succ_mul _ _
   have e2:(i+1)*V=i*V+V:=Nat.succ_mul _ _
   have c1:w64 ((i:Int)*(W:Int))=((i*W:Nat):Int):=by rw[qa3];exact qad (by omega) (by omega)
   have c2:w64 (((i+1:Nat):Int)*(W:Int))=(((i+1)*W:Nat):Int):=by rw[qa3];exact qad (by omega) (by omega)
   have c3:w64 ((i:Int)*(V:Int))=((i*V:Nat):Int):=by rw[qa3];exact qad (by omega) (by omega)
   have c4:w64 (((i+1:Nat):Int)*(V:Int))=(((i+1)*V:Nat):Int):=by rw[qa3];exact qad (by omega) (by omega)
   have hr1:=qmV hl hi
   have hr2:=qmV hbl hi
   have hfl:=qau (f:=qkQ cells b W V) (C:=W+V) (n:=i)
   have hfl2:i*(W+V)≤32*64:=Nat.mul_le_mul (by omega) (by omega)
   simp only[Z149.l1_succ _ qag,M2,M3,M4,N3,N4,qae (k:=i) (by omega),c1,c2,c3,c4,Int.toNat_natCast,hr1,hr2]
   rw[qav,qpv,← List.append_assoc] at ih
   refine qaD (decide_eq_true (by omega)) (qar (by simp only[Bool.and_eq_true,decide_eq_true_eq];omega) (qar (by simp only[List.length_map,List.length_range,decide_eq_true_eq];omega) (qar (by simp only[Bool.and_eq_true,decide_eq_true_eq];omega) (qar (by simp only[List.length_append,List.length_map,List.length_range,decide_eq_true_eq];omega) ih))))
  ·simp only[Z149.l1_succ _ qag,M2]
   exact qaJ (decide_eq_false (by omega)) qam
 exact qb6 one one
def Tri(n:Nat)(A:Ent):Prop:=(∀ i j,j<i→i<n→A i j=0)∧∀ i,i<n→A i i≠0
theorem qpF{p:Int}{n:Nat}{A:Ent}(h:Tri n A):∀ c,c≤n→(elS p n A c).2=List.range c∧∀ i j,c≤i→i<n→(elS p n A c).1 i j=A i j
 | 0,_=>⟨rfl,fun _ _ _ _=>rfl⟩
 | c+1,hc=>by
  obtain⟨h1,h2⟩:=qpF h c (by omega)
  rw[elS,elP]
  generalize elS p n A c=S at h1 h2
  have hl:S.2.length=c:=by rw[h1,List.length_range]
  have hf:qa1 (fun i=>S.1 i c≠0) S.2.length (n-S.2.length)=some c:=by
   rw[hl]
   obtain⟨k,hk⟩:=qcL (P:=fun i=>S.1 i c≠0) (d:=n-c) (a:=c) ⟨c,Nat.le_refl _,by omega,by rw[h2 c c (Nat.le_refl _) (by omega)];exact h.2 c (by omega)⟩
   have h3:=qaP hk
   have h4:=qe7 hk c (Nat.le_refl _)
   have:k=c:=by
    rcases Nat.lt_or_ge c k with hlt | hge
    ·exact absurd (by rw[h2 c c (Nat.le_refl _) (by omega)];exact h.2 c (by omega)) (h4 hlt)
    ·omega
   rw[hk,this]
  rw[hf]
  simp only
  rw[hl]
  refine⟨by rw[h1,List.range_succ],fun i j hi hin=>?_⟩
  have hsw:∀ k,qcK c c S.1 k=S.1 k:=fun k=>by
   unfold qcK
   by_cases e:k=c
   ·rw[if_pos e,e]
   ·rw[if_neg e,if_neg e]
  unfold elF
  rw[if_neg (by omega),hsw i]
  rw[if_neg (by rw[h2 i c (by omega) hin,h.1 i c (by omega) hin];exact fun h=>h rfl)]
  exact h2 i j (by omega) hin
theorem qqx{p:Int}{n:Nat}{A:Ent}(h:Tri n A):rkM p n n (qav A n n)=n:=by
 have h':Tri n (qbp (qav A n n) n):=⟨fun i j hji hi=>by rw[qa0 hi (by omega)];exact h.1 i j hji hi,fun i hi=>by rw[qa0 hi hi];exact h.2 i hi⟩
 unfold rkM
 rw[(qpF h' n (Nat.le_refl _)).1,List.length_range]
theorem qaE.flat{A:Ent}{R C:Nat}{p:Int}(h:EIn p R C A):qaE (qav A C R) p:=fun x hx=>by
 rw[← qcW] at hx
 obtain⟨row,hrow,hx⟩:=List.mem_flatten.1 hx
 obtain⟨i,hi,rfl⟩:=List.mem_map.1 hrow
 obtain⟨j,hj,rfl⟩:=List.mem_map.1 hx
 exact h i j (List.mem_range.1 hi) (List.mem_range.1 hj)
theorem qjd(n:Nat)(s:Src)(p:Int)(d:Nat)(hn:n≤1000000000)(hs:SO n s)(hp:2≤p∧p≤251)(hd:d≤4) :
    qjM n_Z178 [dR s,dI p,dI (d:Int)] o_Z178 fun(r:Int×Int×Int×Sim×Src×Unit)=>∃ cells s',r=(p,(d:Int),(d:Int),cells,s',())∧cells.length=d*d∧qaE cells p∧rkM p d d cells=d∧SO (n+150) s':=by
  obtain⟨c,a,g,⟨⟩⟩:=s
  have hdd:d*d≤16:=Nat.mul_le_mul hd hd
  refine qb5 ?_
  simp only[run_Z178,Z178.ev]
  refine qbL (qnM n _ p d d (by omega) hs hp hd hd) fun r ⟨cells,s1,e,h1,h2,h3⟩=>?_
  subst e
  refine qaH (qfQ p d d cells hp (by omega) (by omega) (by omega) h1 h2) ?_
  refine qi3 (fun h=>qaX ⟨cells,s1,rfl,h1,h2,?_,h3.le (by omega)⟩) fun _=>?_
  · have:((rkM p d d cells:Nat):Int)=(d:Int):=by simpa using h
    omega
  refine qaH (qfD p d (by omega)) ?_
  refine EvQ.start 1 (L:=fun φ N=>Z178.l0 (mkR (run E (φ 0))) (φ 0) N p (d:Int) 0 0 0 0 p (d:Int) (d:Int) s1.1 s1.2.1 s1.2.2.1 (qav qbt d d)) ?_ (fun _ _ _=>rfl)
  refine EvQ.loop 1 (σ:=Nat×Src×Ent) (L:=fun φ N st=>Z178.l0 (mkR (run E (φ 0))) (φ 0) N p (d:Int) (st.1:Int) 0 0 0 p (d:Int) (d:Int) st.2.1.1 st.2.1.2.1 st.2.1.2.2.1 (qav st.2.2 d d)) (fun _ _ _ _=>rfl)
    (fun st=>st.1≤d∧SO (n+70+10*st.1) st.2.1∧EIn p d d st.2.2∧Tri d st.2.2) (fun st=>d-st.1) (fun st hi ih=>?_) (0,s1,qbt) ⟨Nat.zero_le _,h3,fun i j _ _=>by show 0≤qbt i j∧qbt i j≤p-1;unfold qbt;split<;>omega,fun i j hj _=>by show qbt i j=0;unfold qbt;rw[if_neg (by omega)],fun i _=>by show qbt i i≠0;simp[qbt]⟩
  obtain⟨i,s2,A⟩:=st
  obtain⟨i1,i2,i3,i4⟩:=hi
  simp only at i1 i2 i3 i4 ih ⊢
  simp only[Z178.l0_succ _ qag]
  refine qcU (fun h=>?_) fun h=>qaX ⟨qav A d d,s2,rfl,qau,qaE.flat i3,qqx i4,i2.le (by omega)⟩
  have hid:i<d:=by omega
  have hp1:w64 (p-1)=p-1:=qad (by omega) (by omega)
  rw[hp1]
  refine qbL (qbl _ s2 (p-1) (by omega) i2) fun(q:Int×Src×Unit) ⟨q1,q2,q3,q4⟩=>?_
  have hx:=qfj hid hid
  have e1:w64 (1+q.1)=1+q.1:=qad (by omega) (by omega)
  have hfl:=qau (f:=A) (C:=d) (n:=d)
  rw[qg1 (by omega),e1,Int.toNat_natCast,qae (by omega),qdl hid hid]
  refine qbb (by simp only[Bool.and_eq_true,decide_eq_true_eq];omega) ?_
  have hA1:EIn p d d (fun k l=>if k=i∧l=i then 1+q.1 else A k l):=fun k l hk hl=>by
    show 0≤(if k=i∧l=i then 1+q.1 else A k l)∧(if k=i∧l=i then 1+q.1 else A k l)≤p-1
    split
    · omega
    · exact i3 k l hk hl
  have hA2:Tri d (fun k l=>if k=i∧l=i then 1+q.1 else A k l):=⟨fun k l hlk hk=>by
      show(if k=i∧l=i then 1+q.1 else A k l)=0
      rw[if_neg (by omega)];exact i4.1 k l hlk hk,fun k hk=>by
      show(if k=i∧k=i then 1+q.1 else A k k)≠0
      split
      · omega
      · exact i4.2 k hk⟩
  generalize (fun k l=>if k=i∧l=i then 1+q.1 else A k l)=A1 at hA1 hA2
  refine EvQ.start 2 (L:=fun φ N=>Z178.l1 (mkR (run E (φ 0))) (φ 0) (φ 1) N p (d:Int) (i:Int) ((i+1:Nat):Int) 0 0 0 p (d:Int) (d:Int) q.2.1.1 q.2.1.2.1 q.2.1.2.2.1 (qav A1 d d)) ?_ (fun _ _ _=>rfl)
  refine EvQ.loop 2 (σ:=Nat×Src×Ent) (L:=fun φ N st=>Z178.l1 (mkR (run E (φ 0))) (φ 0) (φ 1) N p (d:Int) (i:Int) (st.1:Int) 0 0 0 p (d:Int) (d:Int) st.2.1.1 st.2.1.2.1 st.2.1.2.2.1 (qav st.2.2 d d)) (fun _ _ _ _=>rfl)
    (fun st=>i+1≤st.1∧st.1≤d∧SO (n+70+10*i+2*st.1) st.2.1∧EIn p d d st.2.2∧Tri d st.2.2) (fun st=>d-st.1) (fun st hi ih2=>?_) (i+1,q.2.1,A1) ⟨Nat.le_refl _,hid,q4.le (by show n+70+10*i+2≤n+70+10*i+2*(i+1);omega),hA1,hA2⟩
  obtain⟨k,s3,B⟩:=st
  obtain⟨k0,k1,k2,k3,k4⟩:=hi
  simp only at k0 k1 k2 k3 k4 ih2 ⊢
  simp only[Z178.l1_succ _ qag]
  refine qcU (fun h=>?_) fun h=>?_
  · have hkd:k<d:=by omega
    refine qbL (qbl _ s3 p (by omega) k2) fun(t:Int×Src×Unit) ⟨t1,t2,t3,t4⟩=>?_
    have hx:=qfj hid hkd
    have hfl:=qau (f:=B) (C:=d) (n:=d)
    rw[qg1 (by omega),Int.toNat_natCast,qae (by omega),qdl hid hkd]
    refine qbb (by simp only[Bool.and_eq_true,decide_eq_true_eq];omega) ?_
    refine ih2 (k+1,t.2.1,_) ⟨by show i+1≤k+1;omega,by show k+1≤d;omega,t4.le (by show n+70+10*i+2*k+2≤n+70+10*i+2*(k+1);omega),fun x l hx' hl=>?_,fun x l hlx hx'=>?_,fun x hx'=>?_⟩ (by show d-(k+1)<d-k;omega)
    · show 0≤(if x=i∧l=k then t.1 else B x l)∧(if x=i∧l=k then t.1 else B x l)≤p-1
      split
      · omega
      · exact k3 x l hx' hl
    · show(if x=i∧l=k then t.1 else B x l)=0
      rw[if_neg (by omega)];exact k4.1 x l hlx hx'
    · show(if x=i∧x=k then t.1 else B x x)≠0
      rw[if_neg (by omega)];exact k4.2 x hx'
  · have:k=d:=by omega
    rw[qae (by omega)]
    exact ih (i+1,s3,B) ⟨hid,k2.le (by show n+70+10*i+2*k≤n+70+10*(i+1);omega),k3,k4⟩ (by show d-(i+1)<d-i;omega)
end VeT
open Go Go.Proofs Ve
namespace VeT
noncomputable def qgL(p:Int)(d:Nat)(cells:Sim):Ent:=(elS p d (qbp (qfz cells (qav qbt d d) d d d) (d+d)) (d+d)).1
noncomputable def qrw(p:Int)(d:Nat)(cells:Sim):Sim:=qav (fun i k=>qgL p d cells i (d+k)) d d
theorem qnI{p:Int}{a b:Sim}{W V R:Nat}(ha:qaE a p)(hb:qaE b p)(hl:a.length=R*W)(hbl:b.length=R*V):EIn p R (W+V) (qkQ a b W V):=fun i j hi hj=>by
 unfold qkQ
 split
 ·exact qbo ha hl i j hi (by omega)
 ·exact qbo hb hbl i (j-W) hi (by omega)
theorem qng{p:Int}(hp:2≤p){d:Nat}:EIn p d d qbt:=fun i j _ _=>by
 show 0≤qbt i j∧qbt i j≤p-1
 unfold qbt;split<;>omega
theorem qoC{p:Int}(hp:2≤p){d:Nat}{cells:Sim}(hl:cells.length=d*d)(he:qaE cells p):EIn p d (d+d) (qbp (qfz cells (qav qbt d d) d d d) (d+d)):=fun i j hi hj=>by
 unfold qfz;rw[qa0 hi hj]
 exact qnI he (qaE.flat (qng hp)) hl qau i j hi hj
theorem qpi{p:Int}(hp:2≤p){d:Nat}{cells:Sim}(hl:cells.length=d*d)(he:qaE cells p):qaE (qrw p d cells) p∧(qrw p d cells).length=d*d:=by
 refine⟨qaE.flat fun i j hi hj=>?_,qau⟩
 exact(qc7 hp (qoC hp hl he) (d+d)).1 i (d+j) hi (by omega)
theorem qgS(p:Int)(d:Nat)(cells:Sim)(hp:Pr p)(hd:d≤4)(hl:cells.length=d*d)(he:qaE cells p)(hr:rkM p d d cells=d) :
  qjM n_Z130 [dI p,dI (d:Int),dI (d:Int),dL cells] o_Z130 fun(r:Int×Int×Int×Sim×Int×Unit)=>r=(p,(d:Int),(d:Int),qrw p d cells,0,()):=by
 have hp2:2≤p∧p≤251:=⟨hp.1,hp.2.1⟩
 have hdd:d*d≤16:=Nat.mul_le_mul hd hd
 have hd2:d*(d+d)≤32:=Nat.mul_le_mul hd (show d+d≤8 by omega)
 have hVM:VM (p,(d:Int),(d:Int),cells,()):=⟨hp,⟨by show(0:Int)≤d;omega,by show(d:Int)≤32;omega⟩,⟨by show(0:Int)≤d;omega,by show(d:Int)≤32;omega⟩,by show(cells.length:Int)=d*d;rw[hl];simp,he⟩
 have hSm:Sm (.st cM) (p,(d:Int),(d:Int),cells,()):=⟨trivial,trivial,trivial,⟨by show cells.length≤1048576;omega,fun _ _=>trivial⟩,trivial⟩
 refine qb5 ?_
 simp only[run_Z130,Z130.ev]
 refine qaH (qlr _ hSm) (qfl (by simp[qaI hVM]) (qfl (by simp) ?_))
 refine qaH (qfQ p d d cells hp2 (by omega) (by omega) (by omega) hl he) (qfl (by simp[hr]) ?_)
 refine qaH (qfD p d (by omega)) ?_
 refine qaH (qoY p d d d cells (qav qbt d d) (by omega) (by omega) (by omega) hl qau) ?_
 have hJ:qaE (qfz cells (qav qbt d d) d d d) p:=qaE.flat (qnI he (qaE.flat (qng hp2.1)) hl qau)
 obtain⟨det,hred⟩:=qfp p d (d+d) (qfz cells (qav qbt d d) d d d) hp2 (by omega) (by omega) (by omega) qau hJ
 refine qaH hred ?_
 refine qaH (qcc p d d (by omega) (by omega)) ?_
 have hF:(elS p d (qbp (qfz cells (qav qbt d d) d d d) (d+d)) (d+d)).1=qgL p d cells:=rfl
 simp only[hF]
 have hz:List.replicate (d*d) (0:Int)=qav (fun _ _=>0) d d:=by
  refine(List.eq_replicate_iff.2 ⟨qau,fun x hx=>?_⟩).symm
  rw[← qcW] at hx
  obtain⟨row,hrow,hx⟩:=List.mem_flatten.1 hx
  obtain⟨i,hi,rfl⟩:=List.mem_map.1 hrow
  obtain⟨j,hj,rfl⟩:=List.mem_map.1 hx
  rfl
 rw[hz]
 have hFl:=qau (f:=qgL p d cells) (C:=d+d) (n:=d)
 refine EvQ.start 1 (L:=fun φ N=>Z130.l0 (mkR (run E (φ 0))) (φ 0) N 0 p (d:Int) (d:Int) cells 0 0 0 p (d:Int) ((d+d:Nat):Int) (qfz cells (qav qbt d d) d d d) p (d:Int) ((d+d:Nat):Int) (qav (qgL p d cells) (d+d) d) p (d:Int) (d:Int) (qav (fun _ _=>0) d d)) ?_ (fun _ _ _=>rfl)
 refine EvQ.loop 1 (σ:=Nat×Ent) (L:=fun φ N st=>Z130.l0 (mkR (run E (φ 0))) (φ 0) N (st.1:Int) p (d:Int) (d:Int) cells 0 0 0 p (d:Int) ((d+d:Nat):Int) (qfz cells (qav qbt d d) d d d) p (d:Int) ((d+d:Nat):Int) (qav (qgL p d cells) (d+d) d) p (d:Int) (d:Int) (qav st.2 d d)) (fun _ _ _ _=>rfl)
  (fun st=>st.1≤d∧∀ i j,i<st.1→j<d→st.2 i j=qgL p d cells i (d+j)) (fun st=>d-st.1) (fun st hi ih=>?_) (0,fun _ _=>0) ⟨Nat.zero_le _,fun i j h=>by omega⟩
 obtain⟨i,B⟩:=st
 obtain⟨i1,i2⟩:=hi
 simp only at i1 i2 ih ⊢
 simp only[Z130.l0_succ _ qag]
 refine qcU (fun h=>?_) fun h=>qaX ?_
 ·have hid:i<d:=by omega
  refine EvQ.start 2 (L:=fun φ N=>Z130.l1 (mkR (run E (φ 0))) (φ 0) (φ 1) N (i:Int) 0 p (d:Int) (d:Int) cells 0 0 0 p (d:Int) ((d+d:Nat):Int) (qfz cells (qav qbt d d) d d d) p (d:Int) ((d+d:Nat):Int) (qav (qgL p d cells) (d+d) d) p (d:Int) (d:Int) (qav B d d)) ?_ (fun _ _ _=>rfl)
  refine EvQ.loop 2 (σ:=Nat×Ent) (L:=fun φ N st=>Z130.l1 (mkR (run E (φ 0))) (φ 0) (φ 1) N (i:Int) (st.1:Int) p (d:Int) (d:Int) cells 0 0 0 p (d:Int) ((d+d:Nat):Int) (qfz cells (qav qbt d d) d d d) p (d:Int) ((d+d:Nat):Int) (qav (qgL p d cells) (d+d) d) p (d:Int) (d:Int) (qav st.2 d d)) (fun _ _ _ _=>rfl)
   (fun st=>st.1≤d∧(∀ i' j,i'<i→j<d→st.2 i' j=qgL p d cells i' (d+j))∧∀ j,j<st.1→st.2 i j=qgL p d cells i (d+j)) (fun st=>d-st.1) (fun st hk ih2=>?_) (0,B) ⟨Nat.zero_le _,i2,fun j h=>by omega⟩
  obtain⟨k,D⟩:=st
  obtain⟨k1,k2,k3⟩:=hk
  simp only at k1 k2 k3 ih2 ⊢
  simp only[Z130.l1_succ _ qag]
  refine qcU (fun h=>?_) fun h=>?_
  ·have hkd:k<d:=by omega
   have hx:=qfj hid hkd
   have hx2:=qfj (R:=d) (C:=d+d) hid (show d+k<d+d by omega)
   have hDl:=qau (f:=D) (C:=d) (n:=d)
   have e1:w64 (w64 (w64 ((i:Int)*((d+d:Nat):Int))+(d:Int))+(k:Int))=((i*(d+d)+(d+k):Nat):Int):=by
    rw[qg1 (by omega),qad (by omega) (by omega)];omega
   rw[e1,qg1 (by omega),Int.toNat_natCast,qae (by omega)]
   refine qbF (qbQ.trans (qcg hid (show d+k<d+d by omega))) (qbb (by simp only[Bool.and_eq_true,decide_eq_true_eq];omega) ?_)
   rw[qdl hid hkd]
   refine ih2 (k+1,_) ⟨hkd,fun i' j hi' hj=>?_,fun j hj=>?_⟩ (by show d-(k+1)<d-k;omega)
   ·show(if i'=i∧j=k then _ else D i' j)=_
    rw[if_neg (by omega)];exact k2 i' j hi' hj
   ·show(if i=i∧j=k then qgL p d cells i (d+k) else D i j)=_
    by_cases e:j=k
    ·rw[if_pos ⟨rfl,e⟩,e]
    ·rw[if_neg (by omega)];exact k3 j (by have:j<k+1:=hj;omega)
  ·have:k=d:=by omega
   subst this
   rw[qae (by omega)]
   refine ih (i+1,D) ⟨hid,fun i' j hi' hj=>?_⟩ (by show k-(i+1)<k-i;omega)
   by_cases e:i'=i
   ·subst e;exact k3 j hj
   ·exact k2 i' j (by have:i'<i+1:=hi';omega) hj
 ·have:i=d:=by omega
  subst this
  show(p,(i:Int),(i:Int),qav B i i,(0:Int),())=_
  rw[qaN fun i' j hi' hj=>i2 i' j hi' hj]
  rfl
end VeT
open Go Go.Proofs Ve
namespace VeT
def BOk(p:Int)(d:Nat)(m:Mat):Prop:=∃ cells,m=(p,(d:Int),(d:Int),cells,())∧cells.length=d*d∧qaE cells p∧rkM p d d cells=d
noncomputable def qoA(p:Int)(d:Nat)(m:Mat):Mat:=(p,(d:Int),(d:Int),qrw p d m.2.2.2.1,())
theorem qst{p:Int}{d:Nat}{cells:Sim}(hp:Pr p)(hd:d≤4)(hl:cells.length=d*d)(he:qaE cells p):VM (p,(d:Int),(d:Int),cells,()) :=
 ⟨hp,⟨by show(0:Int)≤d;omega,by show(d:Int)≤32;omega⟩,⟨by show(0:Int)≤d;omega,by show(d:Int)≤32;omega⟩,by show(cells.length:Int)=d*d;rw[hl];simp,he⟩
theorem BOk.vm{p:Int}{d:Nat}{m:Mat}(hp:Pr p)(hd:d≤4)(h:BOk p d m):VM m∧VM (qoA p d m):=by
 obtain⟨cells,rfl,h1,h2,h3⟩:=h
 exact⟨qst hp hd h1 h2,qst hp hd (qpi hp.1 h1 h2).2 (qpi hp.1 h1 h2).1⟩
theorem qnL{c:List Sim}{a b:Nat}(h:a≤b):plc c a≤plc c b:=by
  induction b with
  | zero => obtain rfl : a = 0 := by omega
            exact Nat.le_refl _
  | succ b ih =>
    rcases Nat.lt_or_ge b a with h1 | h1
    · obtain rfl:a=b+1:=by omega
      exact Nat.le_refl _
    · rw[qfd];exact Nat.le_trans (ih h1) (Nat.le_add_right _ _)
noncomputable def chM(c:List Sim)(p:Int)(d:Nat)(bs:List Mat)(k i:Nat):Mat:=qfV (bs.getD k mz) (qoA p d (bs.getD ((qaG c k).getD i 0).toNat mz))
theorem qmz(n:Nat)(s:Src)(c:List Sim)(p:Int)(d:Nat)(hn:n≤100000000)(hs:SO n s)(hv:VC c)(hp:Pr p)(hd:d≤3) :
    qjM n_Z173 [dR s,dC (c,()),dI p,dI (d:Int)] o_Z173 fun(r:List Sim×Int×Sim×List Mat×Src×Unit)=>∃ ms s' bs,r=(c,p,List.replicate c.length (d:Int),ms,s',())∧ms.length=plc c c.length ∧
      bs.length=c.length∧(∀ m∈bs,BOk p d m)∧(∀ k i,k<c.length→i<(qaG c k).length→ms.getD (plc c k+i) mz=chM c p d bs k i)∧SO (n+7300) s':=by
  obtain⟨c0,a,g,⟨⟩⟩:=s
  have hp2:2≤p∧p≤251:=⟨hp.1,hp.2.1⟩
  have h48:=hv.1
  have hsr:=hv.srt
  have h192:=qec hv
  refine qb5 ?_
  simp only[run_Z173,Z173.ev]
  refine qaH (qe0 c p d hd hv.sm hv) ?_
  -- the bases
  refine EvQ.start 1 (L:=fun φ N=>Z173.l0 (mkR (run E (φ 0))) (φ 0) N (c,()) p (d:Int) 0 0 p [] c0 a g (List.replicate (qbB c c.length).length (qbe p d)) c (List.replicate c.length (d:Int))) ?_ (fun _ _ _=>rfl)
  refine EvQ.loop 1 (σ:=Nat×List Mat×Src) (L:=fun φ N st=>Z173.l0 (mkR (run E (φ 0))) (φ 0) N (c,()) p (d:Int) (st.1:Int) 0 p st.2.1 st.2.2.1 st.2.2.2.1 st.2.2.2.2.1 (List.replicate (qbB c c.length).length (qbe p d)) c (List.replicate c.length (d:Int))) (fun _ _ _ _=>rfl)
    (fun st=>st.1≤c.length∧st.2.1.length=st.1∧(∀ m∈st.2.1,BOk p d m)∧SO (n+150*st.1) st.2.2) (fun st=>c.length-st.1) (fun st hi ih=>?_) (0,[],(c0,a,g,())) ⟨Nat.zero_le _,rfl,fun m hm=>by simp at hm,hs⟩
  obtain⟨k,bs,s1⟩:=st
  obtain⟨i1,i2,i3,i4⟩:=hi
  simp only at i1 i2 i3 i4 ih ⊢
  simp only[Z173.l0_succ _ qag]
  refine qcU (fun h=>?_) fun h=>?_
  · have hk : k < c.length := by have h : (k : Int) < (c.length : Int) := h
                                 omega
    refine qbL (qjd _ s1 p d (by omega) i4 hp2 (by omega)) fun r ⟨cells,s2,e,h1,h2,h3,h4⟩=>?_
    subst e
    refine qbb (decide_eq_true (by simp;omega)) ?_
    rw[qae (by omega)]
    exact ih (k+1,bs++[(p,(d:Int),(d:Int),cells,())],s2) ⟨hk,by simp[i2],fun m hm=>by
      rcases List.mem_append.1 hm with hm | hm
      · exact i3 m hm
      · rw[List.mem_singleton] at hm;exact⟨cells,hm,h1,h2,h3⟩,h4.le (by show n+150*k+150≤n+150*(k+1);omega)⟩ (by show c.length-(k+1)<c.length-k;omega)
  have hkl : k = c.length := by have h : ¬ (k : Int) < (c.length : Int) := h
                                omega
  subst hkl
  clear ih
  have hbs:∀ f,f<c.length→bs[f]? = some (bs.getD f mz)∧BOk p d (bs.getD f mz):=fun f hf=>by
    have:f<bs.length:=by omega
    rw[List.getD_eq_getElem?_getD,List.getElem?_eq_getElem this]
    exact⟨rfl,i3 _ (List.getElem_mem this)⟩
  -- the maps
  have hpl:plc c c.length=(qbB c c.length).length:=rfl
  refine EvQ.start 1 (L:=fun φ N=>Z173.l1 (mkR (run E (φ 0))) (φ 0) N (c,()) 0 0 p bs s1.1 s1.2.1 s1.2.2.1 (List.replicate (qbB c c.length).length (qbe p d)) c (List.replicate c.length (d:Int))) ?_ (fun _ _ _=>rfl)
  refine EvQ.loop 1 (σ:=Nat×List Mat) (L:=fun φ N st=>Z173.l1 (mkR (run E (φ 0))) (φ 0) N (c,()) (st.1:Int) 0 p bs s1.1 s1.2.1 s1.2.2.1 st.2 c (List.replicate c.length (d:Int))) (fun _ _ _ _=>rfl)
    (fun st=>st.1≤c.length∧st.2.length=plc c c.length∧∀ k i,k<st.1→i<(qaG c k).length→st.2.getD (plc c k+i) mz=chM c p d bs k i) (fun st=>c.length-st.1) (fun st hi ih=>?_) (0,List.replicate (qbB c c.length).length (qbe p d)) ⟨Nat.zero_le _,by rw[hpl];simp,fun k i h=>by omega⟩
  obtain⟨k,ms⟩:=st
  obtain⟨j1,j2,j3⟩:=hi
  simp only at j1 j2 j3 ih ⊢
  simp only[Z173.l1_succ _ qag]
  refine qcU (fun h=>?_) fun h=>?_
  · have hk : k < c.length := by have h : (k : Int) < (c.length : Int) := h
                                 omega
    have hf4:=hv.fIdx4 hk
    refine qaH (qdy c k hk hv.sm) ?_
    refine EvQ.start 2 (L:=fun φ N=>Z173.l2 (mkR (run E (φ 0))) (φ 0) (φ 1) N (c,()) (k:Int) (qaG c k) 0 0 p bs s1.1 s1.2.1 s1.2.2.1 ms c (List.replicate c.length (d:Int))) ?_ (fun _ _ _=>rfl)
    refine EvQ.loop 2 (σ:=Nat×List Mat) (L:=fun φ N st=>Z173.l2 (mkR (run E (φ 0))) (φ 0) (φ 1) N (c,()) (k:Int) (qaG c k) (st.1:Int) 0 p bs s1.1 s1.2.1 s1.2.2.1 st.2 c (List.replicate c.length (d:Int))) (fun _ _ _ _=>rfl)
      (fun st=>st.1≤(qaG c k).length∧st.2.length=plc c c.length∧(∀ k' i,k'<k→i<(qaG c k').length→st.2.getD (plc c k'+i) mz=chM c p d bs k' i)∧∀ i,i<st.1→st.2.getD (plc c k+i) mz=chM c p d bs k i) (fun st=>(qaG c k).length-st.1) (fun st hi ih2=>?_) (0,ms) ⟨Nat.zero_le _,j2,j3,fun i h=>by omega⟩
    obtain⟨i,o⟩:=st
    obtain⟨l1,l2,l3,l4⟩:=hi
    simp only at l1 l2 l3 l4 ih2 ⊢
    simp only[Z173.l2_succ _ qag]
    refine qcU (fun h=>?_) fun h=>?_
    · have hi:i<(qaG c k).length:=by omega
      obtain⟨f,f1,f2,f3⟩:=qfg hsr hv hk hi
      have f3':((qaG c k).getD i 0).toNat=f:=by first | exact f3 | (rw[f3];rfl)
      obtain⟨b1,cells,b2,b3,b4,b5⟩:=hbs f f1
      obtain⟨b6,cells2,b7,b8,b9,b10⟩:=hbs k hk
      obtain⟨v1,v2⟩:=BOk.vm hp (by omega) (hbs f f1).2
      obtain⟨v3,_⟩:=BOk.vm hp (by omega) (hbs k hk).2
      have hplt:plc c k+i<plc c c.length:=by
        have:=qnL (c:=c) (show k+1≤c.length from hk)
        rw[qfd] at this;omega
      have hple:=hv.plc (k:=c.length) (Nat.le_refl _)
      refine qbF (qap hi) ?_
      simp only[f2,Int.toNat_natCast]
      refine qbb (by simp only[Bool.and_eq_true,decide_eq_true_eq];omega) (qbF b1 ?_)
      rw[b2]
      refine qbL (qgS p d cells hp (by omega) b3 b4 b5) fun r hr=>?_
      subst hr
      refine qbb (by simp only[Bool.and_eq_true,decide_eq_true_eq];omega) ?_
      refine qaH (qeH c k i (by omega) (by omega) hv) ?_
      have e1:List.getD bs k (qqi cM)=bs.getD k mz:=by
        rw[List.getD_eq_getElem?_getD,List.getD_eq_getElem?_getD,b6];rfl
      have e2:qoA p d (bs.getD f mz)=(p,(d:Int),(d:Int),qrw p d cells,()):=by rw[b2];rfl
      have hT:=ql5 (bs.getD k mz) (qoA p d (bs.getD f mz)) v3 v2 (by rw[b7];rfl)
      rw[e2] at hT
      rw[e1]
      refine qaH hT (qbb (show(decide ((0:Int)≤((plc c k+i:Nat):Int))&&decide (((plc c k+i:Nat):Int)<(o.length:Int)))=true by rw[l2];simp only[Bool.and_eq_true,decide_eq_true_eq];omega) ?_)
      rw[qae (by omega),Int.toNat_natCast]
      have e3:qfV (bs.getD k mz) (p,(d:Int),(d:Int),qrw p d cells,())=chM c p d bs k i:=by
        unfold chM;rw[f3',e2]
      rw[e3]
      refine ih2 (i+1,o.set (plc c k+i) (chM c p d bs k i)) ⟨hi,by rw[List.length_set];exact l2,fun k' i' hk' hi'=>?_,fun i' hi'=>?_⟩ (by show(qaG c k).length-(i+1)<(qaG c k).length-i;omega)
      · have:=qnL (c:=c) (show k'+1≤k from hk')
        rw[qfd] at this
        rw[List.getD_eq_getElem?_getD,List.getElem?_set_ne (by omega),← List.getD_eq_getElem?_getD]
        exact l3 k' i' hk' hi'
      · rw[List.getD_eq_getElem?_getD]
        by_cases e:i'=i
        · subst e
          rw[List.getElem?_set_self (by rw[l2];exact hplt)];rfl
        · rw[List.getElem?_set_ne (by omega),← List.getD_eq_getElem?_getD]
          exact l4 i' (by have:i'<i+1:=hi';omega)
    · have:i=(qaG c k).length:=by omega
      subst this
      rw[qae (by omega)]
      refine ih (k+1,o) ⟨hk,l2,fun k' i' hk' hi'=>?_⟩ (by show c.length-(k+1)<c.length-k;omega)
      by_cases e:k'=k
      · subst e;exact l4 i' hi'
      · exact l3 k' i' (by have:k'<k+1:=hk';omega) hi'
  · have hkl : k = c.length := by have h : ¬ (k : Int) < (c.length : Int) := h
                                  omega
    subst hkl
    exact qaX ⟨ms,s1,bs,rfl,j2,i2,i3,fun k' i' hk' hi'=>j3 k' i' hk' hi',i4.le (by omega)⟩
end VeT
open Go Go.Proofs Ve
namespace VeT
theorem qkB:∀ {l x:Sim},x.Pairwise (·<·)→l.Pairwise (·<·)→(∀ v∈x,v∈l)→x.Sublist l
 | [],x,_,_,h=>by
  cases x with
  | nil=>exact .slnil
  | cons y x=>exact absurd (h y List.mem_cons_self) (by simp)
 | a::l,[],_,_,_=>List.nil_sublist _
 | a::l,y::x,hx,hl,h=>by
  obtain⟨x1,x2⟩:=List.pairwise_cons.1 hx
  obtain⟨l1,l2⟩:=List.pairwise_cons.1 hl
  by_cases e:y=a
  ·subst e
   refine .cons_cons _ (qkB x2 l2 fun v hv=>?_)
   have:=x1 v hv
   rcases List.mem_cons.1 (h v (List.mem_cons_of_mem _ hv)) with h1 | h1
   ·omega
   ·exact h1
  ·have hy:y∈l:=(List.mem_cons.1 (h y List.mem_cons_self)).resolve_left e
   have hya:=l1 y hy
   refine .cons _ (qkB hx l2 fun v hv=>?_)
   rcases List.mem_cons.1 (h v hv) with h1 | h1
   ·rcases List.mem_cons.1 hv with h2 | h2
    ·omega
    ·have:=x1 v h2;omega
   ·exact h1
theorem qg7{c:List Sim}{d:Nat}:∀ {k:Nat},k≤c.length→(qak c (d:Int) k).length=((c.take k).filter fun x=>x.length==d+1).length
 | 0,_=>by simp[qak]
 | k+1,hk=>by
  rw[qbN,List.length_append,qg7 (by omega),List.take_succ_eq_append_getElem (by omega),List.filter_append,List.length_append]
  congr 1
  have e:c.getD k []=c[k]:=by rw[List.getD_eq_getElem?_getD,List.getElem?_eq_getElem (by omega)];rfl
  rw[e]
  by_cases h:(c[k]).length=d+1
  ·rw[if_pos (by omega),List.filter_cons_of_pos (by simp[h])];rfl
  ·rw[if_neg (by omega),List.filter_cons_of_neg (by simp[h])];rfl
theorem qiF{c:List Sim}{st:Sim}{d:Int}(hst:∀ x∈st,0≤x∧x≤3):∀ {n:Nat},SDn c st d n≤3*((qak c d n).length:Int)
 | 0=>by simp[SDn,qak]
 | n+1=>by
  have h:=qiF hst (c:=c) (d:=d) (n:=n)
  have h2:=qkq hst n
  rw[qe9,qbN,List.length_append]
  split
  ·simp only[List.length_singleton];omega
  ·simp only[List.length_nil];omega
theorem qkT{c:List Sim}(hv:VC c)(h5:S5 c){d:Nat}(hd:d<4):(qak c (d:Int) c.length).length≤10:=by
 rw[qg7 (Nat.le_refl _),List.take_length]
 refine Nat.le_trans (qiy (d:=(qp4 [0,1,2,3,4]).filter fun x=>x.length==d+1) (hv.srt.nodup.filter _) fun x hx=>?_) ?_
 ·obtain⟨h1,h2⟩:=List.mem_filter.1 hx
  refine List.mem_filter.2 ⟨qhM (qkB ?_ (by decide) fun v hvx=>?_),h2⟩
  ·obtain⟨k,hk,rfl⟩:=List.getElem_of_mem h1
   have:=hv.2.1 k hk
   rw[List.getD_eq_getElem?_getD,List.getElem?_eq_getElem hk] at this
   exact this.2.2.1.pairwise
  ·obtain⟨k,hk,rfl⟩:=List.getElem_of_mem h1
   have:=hv.2.1 k hk
   rw[List.getD_eq_getElem?_getD,List.getElem?_eq_getElem hk] at this
   have a1:=(this.2.2.2 v hvx).1
   have a2:=(h5 _ h1).2 v hvx
   simp only[List.mem_cons,List.not_mem_nil,or_false]
   omega
 ·have:d=0∨d=1∨d=2∨d=3:=by omega
  rcases this with rfl | rfl | rfl | rfl<;>decide
theorem qs5{c:List Sim}(hv:VC c)(h5:S5 c){st:Sim}(hl:st.length=c.length)(hst:∀ x∈st,0≤x∧x≤3):SK c st:=by
 refine⟨hl,hst,fun d hd=>?_⟩
 have h1:=qkT hv h5 hd
 have h2:=qiF hst (c:=c) (d:=(d:Int)) (n:=c.length)
 rw[qgr]
 omega
theorem qsd{c:List Sim}{p:Int}{st:Sim}{ms:List Mat}(hv:VC c)(h5:S5 c)(hp:Pr p)(hl:st.length=c.length)(hst:∀ x∈st,0≤x∧x≤3)(hm:ms.length=plc c c.length)
  (hq:∀ k,k<c.length→∀ i,i<(qaG c k).length→Bt (ms.getD (plc c k+i) mz) p (st.getD ((qaG c k).getD i 0).toNat 0) (st.getD k 0)):VS c p st ms :=
 ⟨hv,hp,qs5 hv h5 hl hst,hm.symm,hq⟩
end VeT
open Go Go.Proofs Ve
namespace VeT
theorem qnm{p:Int}{a b:Nat}{cells:Sim}(hp:Pr p)(ha:a≤32)(hb:b≤32)(hl:cells.length=a*b)(he:qaE cells p):VM (p,(a:Int),(b:Int),cells,()) :=
 ⟨hp,⟨by show(0:Int)≤a;omega,by show(a:Int)≤32;omega⟩,⟨by show(0:Int)≤b;omega,by show(b:Int)≤32;omega⟩,by show(cells.length:Int)=a*b;rw[hl];simp,he⟩
theorem qoL{c:List Sim}{p:Int}{st:Sim}(hv:VC c)(hp:Pr p)(hl:st.length=c.length)(hst:∀ x∈st,0≤x∧x≤3){k i:Nat}(hk:k<c.length)(hi:i<(qaG c k).length) :
  Bt (((qbB c c.length).map (zOf p st)).getD (plc c k+i) mz) p (st.getD ((qaG c k).getD i 0).toNat 0) (st.getD k 0):=by
 have hg:=qcr (n:=c.length) hk hi
 obtain⟨f,f1,f2,f3⟩:=qfg hv.srt hv hk hi
 obtain⟨a,ha,ea,hka,eka⟩:=qgV hl hst hk
 obtain⟨b,hb,eb,hfb,efb⟩:=qgV hl hst f1
 rw[List.getD_eq_getElem?_getD,List.getElem?_map,hg]
 show Bt (zOf p st ((k:Int),(i:Int),(qaG c k).getD i 0,())) p _ _
 unfold zOf
 simp only[f3,Int.toNat_natCast,ea,eb]
 exact⟨qnm hp (by omega) (by omega) (by simp) (qaE.zeros hp.1 _),rfl,rfl,rfl⟩
theorem qnP{c:List Sim}{p:Int}{d:Nat}{bs:List Mat}(hv:VC c)(hp:Pr p)(hd:d≤4)(hbl:bs.length=c.length)(hb:∀ m∈bs,BOk p d m){k i:Nat}(hk:k<c.length)(hi:i<(qaG c k).length) :
  Bt (chM c p d bs k i) p ((List.replicate c.length (d:Int)).getD ((qaG c k).getD i 0).toNat 0) ((List.replicate c.length (d:Int)).getD k 0):=by
 obtain⟨f,f1,f2,f3⟩:=qfg hv.srt hv hk hi
 have hbs:∀ f,f<c.length→BOk p d (bs.getD f mz):=fun f hf=>by
  have:f<bs.length:=by omega
  rw[List.getD_eq_getElem?_getD,List.getElem?_eq_getElem this]
  exact hb _ (List.getElem_mem this)
 have hr:∀ f,f<c.length→(List.replicate c.length (d:Int)).getD f 0=(d:Int):=fun f hf=>by
  rw[List.getD_eq_getElem?_getD,List.getElem?_replicate,if_pos hf];rfl
 rw[f3,Int.toNat_natCast,hr f f1,hr k hk]
 unfold chM
 rw[f3,Int.toNat_natCast]
 obtain⟨v1,v2⟩:=BOk.vm hp hd (hbs f f1)
 obtain⟨v3,_⟩:=BOk.vm hp hd (hbs k hk)
 obtain⟨cells,e,_⟩:=hbs k hk
 refine⟨qew v3 v2,?_,?_,rfl⟩
 ·rw[e];rfl
 ·rw[e];rfl
end VeT
open Go Go.Proofs Ve
namespace VeT
def sk1(c:List Sim):List Sim:=c.filter fun x=>decide (x.length≤2)
theorem qpa(c:List Sim)(hv:VC c):Ret E n_Z168 [dC (c,()),dI 1] ⟨o_Z168,(sk1 c,())⟩:=by
 have hl:=hv.1
 refine qal ?_
 simp only[run_Z168,Z168.ev]
 refine Ev.start (p:=fun φ n=>Z168.l0 (mkR (run E (φ 0))) (φ 0) n (c,()) 1 0 []=_) 1 ?_ (fun _ _ _ h=>h)
 refine qaq 1 (L:=fun φ n k o=>Z168.l0 (mkR (run E (φ 0))) (φ 0) n (c,()) 1 k o) (len:=c.length) (fun k=>sk1 (c.take k)) (fun _ _ _ _ _=>rfl) (fun k r hk ih=>?_) ?_
 ·simp only[Z168.l0_succ _ qag]
  have h4:=hv.len4 hk
  rw[qah hk] at h4
  have e4:w64 ((1:Int)+1)=2:=qad (by omega) (by omega)
  have hlen:(sk1 (c.take k)).length≤c.length:=Nat.le_trans (List.length_filter_le _ _) (by rw[List.length_take];omega)
  have e:sk1 (c.take (k+1))=sk1 (c.take k)++if c[k].length≤2 then [c[k]] else []:=by
   unfold sk1
   rw[List.take_succ_eq_append_getElem hk,List.filter_append]
   congr 1
   by_cases h:c[k].length≤2
   ·rw[if_pos h,List.filter_cons_of_pos (by simp[h])];rfl
   ·rw[if_neg h,List.filter_cons_of_neg (by simp[h])];rfl
  rw[e] at ih
  refine qaD (decide_eq_true (by show(k:Int)<(c.length:Int);omega)) (qaf (qap hk) ?_)
  by_cases h:c[k].length≤2
  ·rw[if_pos h] at ih
   refine qaD (decide_eq_true (by rw[e4];show(c[k].length:Int)≤2;omega)) (qaf (qap hk) (qaa (qc0 _ (by show c[k].length≤_;omega)) (qar (by simp only[List.length_singleton,decide_eq_true_eq];omega) ?_)))
   rw[qae (by omega)];exact ih
  ·rw[if_neg h,List.append_nil] at ih
   refine qaJ (decide_eq_false (by rw[e4];show ¬ (c[k].length:Int)≤2;omega)) ?_
   rw[qae (by omega)];exact ih
 ·simp only[Z168.l0_succ _ qag]
  refine qaJ (decide_eq_false (by show ¬ ((c.length:Int)<(c.length:Int));omega)) (qai ?_)
  rw[List.take_of_length_le (Nat.le_refl _)]
end VeT
open Go Go.Proofs Ve
namespace VeT
theorem qpo{f:Nat→Prop}:∀ {n:Nat},cnt f n=n→∀ c,c<n→f c
 | 0,_,c,h=>by omega
 | n+1,h,c,hc=>by
  have hle:cnt f n≤n:=by
   have h1:cnt f n≤cnt (fun _=>True) n:=qf8 fun _ _ _=>trivial
   have h2:∀ n,cnt (fun _=>True) n≤n:=by
    intro n
    induction n with
    | zero=>exact Nat.le_refl _
    | succ n ih=>unfold cnt;split<;>omega
   exact Nat.le_trans h1 (h2 n)
  unfold cnt at h
  by_cases hf:f n
  ·rw[if_pos hf] at h
   by_cases e:c=n
   ·subst e;exact hf
   ·exact qpo (n:=n) (by omega) c (by omega)
  ·rw[if_neg hf] at h;omega
theorem qrE{R W d:Nat}{F:Ent}{pv:List Nat}(h:Rf R W F pv)(hall:∀ c,c<d→c∈pv):∀ i,i<d→i<pv.length∧pv.getD i 0=i:=by
 intro i
 induction i using Nat.strongRecOn with
 | ind i ih =>
  intro hi
  obtain⟨k,hk,e⟩:=h.mem.1 (hall i hi)
  rcases Nat.lt_trichotomy k i with hlt | rfl | hgt
  ·have:=(ih k hlt (by omega)).2;omega
  ·exact⟨hk,e⟩
  ·refine⟨by omega,?_⟩
   have hm:=h.mono i k hgt hk
   rw[e] at hm
   -- pv i < i, so it is one of the earlier places
   have h2:=(ih (pv.getD i 0) hm (by omega)).2
   have h3:=(ih (pv.getD i 0) hm (by omega)).1
   have h4:=h.mono (pv.getD i 0) i hm (by omega)
   omega
theorem qo1{p:Int}{d:Nat}{m:Mat}(hp:Pr p)(hd:d≤4)(h:BOk p d m):qfV (qoA p d m) m=qbe p d:=by
 obtain⟨v1,v2⟩:=h.vm hp hd
 obtain⟨cells,e,hl,he,hr⟩:=h
 have hin:=qoC hp.1 hl he
 have hun:=qj5 hp (show d≤32 by omega)
 subst e
 refine qm3 (qew v2 v1) hun rfl rfl rfl fun i j hi hj=>?_
 have hi':i<d:=by simpa [qfV,qoA] using hi
 have hj':j<d:=by simpa [qfV,qoA] using hj
 rw[qjV (a:=qoA p d (p,(d:Int),(d:Int),cells,())) (b:=(p,(d:Int),(d:Int),cells,())) hi hj,qpg hi' hj']
 generalize hA:qbp (qfz cells (qav qbt d d) d d d) (d+d)=A at hin
 obtain⟨hrf,heq⟩:=qen hp hin (d+d) (Nat.le_refl _)
 have hF:qgL p d cells=(elS p d A (d+d)).1:=by unfold qgL;rw[hA]
 have hAl:∀ i j,i<d→j<d→A i j=qbp cells d i j:=fun i j hi hj=>by
  rw[← hA];unfold qfz
  rw[qa0 hi (by omega)];unfold qkQ;rw[if_pos hj]
 have hAr:∀ i j,i<d→j<d→A i (d+j)=if i=j then 1 else 0:=fun i j hi hj=>by
  rw[← hA];unfold qfz
  rw[qa0 hi (by omega)];unfold qkQ;rw[if_neg (by omega),Nat.add_sub_cancel_left,qa0 hi hj];rfl
 -- all of the first places are pivots
 have hrk:rkV p d (Spn p d d (qbp cells d))=d:=by
  rw[← qi9 hp (qbo he hl)];exact hr
 have hall:∀ c,c<d→c∈(elS p d A (d+d)).2:=fun c hc=>by
  obtain⟨_,x,⟨co,hco⟩,x1,x2⟩:=qpo hrk c hc
  rw[← qrN hp.1 hrf]
  have hag:∀ j,j<d→qaM co (fun l=>A l j) d%p=x j%p:=fun j hj=>by
   rw[← hco j hj,qaz (d:=co) (h:=fun l=>qbp cells d l j) fun l hl=>⟨rfl,hAl l j hl hj⟩]
  refine⟨by omega,fun j=>qaM co (fun l=>A l j) d,heq.spn.1 ⟨co,fun j _=>rfl⟩,fun j hj=>?_,?_⟩
  ·show qaM co (fun l=>A l j) d%p=0
   rw[hag j (by omega)];exact x1 j hj
  ·show qaM co (fun l=>A l c) d%p≠0
   rw[hag c hc];exact x2
 have hpv:=qrE hrf hall
 generalize (elS p d A (d+d)).1=F at hF hrf heq
 generalize (elS p d A (d+d)).2=pv at hrf hall hpv
 obtain⟨co,hco⟩:=heq.1 i hi'
 have hFe:∀ k,k<d→F i (d+k)%p=co k%p:=fun k hk=>by
  rw[← hco (d+k) (by omega),qaK]
  rw[qaz (d:=fun l=>if l=k then 1 else 0) (h:=co) fun l hl=>⟨hAr l k hl hk,rfl⟩,qcJ hk]
 have hFj:F i j=if i=j then 1 else 0:=by
  have:=hrf.one i j hi' (hpv j hj').1
  rwa [(hpv j hj').2] at this
 show qaM (mE (qoA p d (p,(d:Int),(d:Int),cells,())) i) (fun l=>qbp cells ((d:Int)).toNat l j) ((d:Int)).toNat%p=_
 rw[Int.toNat_natCast]
 have e1:∀ l,l<d→mE (qoA p d (p,(d:Int),(d:Int),cells,())) i l=F i (d+l):=fun l hl=>by
  show qbp (qrw p d cells) ((d:Int)).toNat i l=_
  rw[Int.toNat_natCast];unfold qrw
  rw[qa0 hi' hl,hF]
 rw[qlf (g:=co) fun l hl=>by rw[e1 l hl];exact hFe l hl]
 have:=hco j (by omega)
 rw[qaz (d:=co) (h:=fun l=>qbp cells d l j) fun l hl=>⟨rfl,hAl l j hl hj'⟩,hFj] at this
 rw[this]
 have:=hp.1
 split
 ·exact Int.emod_eq_of_lt (by omega) (by omega)
 ·exact Int.zero_emod _
theorem qfe{c:List Sim}{ms:List Mat}(h:∀ k i j,k<c.length→3≤(c.getD k []).length→i<j→j<(c.getD k []).length→two c ms k i (j-1)=two c ms k j i):qcu c ms=none:=by
 cases e:qcu c ms with
 | none=>rfl
 | some t =>
  obtain⟨k,i,j⟩:=t
  obtain⟨h1,h2,h3,h4,_⟩:=qiX e
  unfold qcu at e
  obtain⟨k',hk,e⟩:=Option.bind_eq_some_iff.1 e
  obtain⟨i',hi,e⟩:=Option.bind_eq_some_iff.1 e
  obtain⟨j',hj,e⟩:=Option.map_eq_some_iff.1 e
  simp only[Prod.mk.injEq] at e
  obtain⟨rfl,rfl,rfl⟩:=e
  exact absurd (h _ _ _ h1 h2 h3 h4) (qaP hj).2.2
theorem qnZ{c:List Sim}{ms:List Mat}{m:Mat}(hv:VC c)(h:∀ k i,k<c.length→i<(qaG c k).length→mp c ms k i=m):qcu c ms=none:=qfe fun k i j hk h3 hij hj=>by
 have hl:=qaF (c:=c) (k:=k)
 rw[if_pos (by omega)] at hl
 obtain⟨_,a2,a3⟩:=qby hv hk (show i<(qaG c k).length by omega)
 obtain⟨_,b2,b3⟩:=qby hv hk (show j<(qaG c k).length by omega)
 have la:=qaF (c:=c) (k:=fc c k i)
 have lb:=qaF (c:=c) (k:=fc c k j)
 rw[a3,List.length_eraseIdx_of_lt (by omega),if_pos (by omega)] at la
 rw[b3,List.length_eraseIdx_of_lt (by omega),if_pos (by omega)] at lb
 unfold two
 rw[h k i hk (by omega),h k j hk (by omega),h _ (j-1) a2 (by omega),h _ i b2 (by omega)]
theorem qnY{c:List Sim}{ms:List Mat}(h:∀ x∈c,x.length≤2):qcu c ms=none:=qfe fun k i j hk h3 _ _=>by
 rw[qah hk] at h3
 have:=h _ (List.getElem_mem hk)
 omega
theorem qkx{c:List Sim}{p:Int}{d:Nat}{bs ms:List Mat}(hv:VC c)(hp:Pr p)(hd:d≤4)(hbl:bs.length=c.length)(hb:∀ m∈bs,BOk p d m)
  (hm:∀ k i,k<c.length→i<(qaG c k).length→ms.getD (plc c k+i) mz=chM c p d bs k i):qcu c ms=none:=by
 have hbs:∀ f,f<c.length→BOk p d (bs.getD f mz):=fun f hf=>by
  have:f<bs.length:=by omega
  rw[List.getD_eq_getElem?_getD,List.getElem?_eq_getElem this]
  exact hb _ (List.getElem_mem this)
 have hmp:∀ k i,k<c.length→i<(qaG c k).length→mp c ms k i=qfV (bs.getD k mz) (qoA p d (bs.getD (fc c k i) mz)):=fun k i hk hi=>hm k i hk hi
 have key:∀ k i j,k<c.length→i<(qaG c k).length→j<(qaG c (fc c k i)).length→two c ms k i j=qfV (bs.getD k mz) (qoA p d (bs.getD (fc c (fc c k i) j) mz)):=fun k i j hk hi hj=>by
  obtain⟨_,a2,a3⟩:=qby hv hk hi
  obtain⟨_,b2,b3⟩:=qby hv a2 hj
  unfold two
  rw[hmp k i hk hi,hmp _ j a2 hj]
  have B1:=hbs k hk
  have B2:=hbs _ a2
  have B3:=hbs _ b2
  generalize fc c (fc c k i) j=g at *
  generalize fc c k i=f at *
  obtain⟨v1,w1⟩:=B1.vm hp hd
  obtain⟨v2,w2⟩:=B2.vm hp hd
  obtain⟨v3,w3⟩:=B3.vm hp hd
  obtain⟨_,e1,_⟩:=B1
  have B2':=B2
  obtain⟨_,e2,_⟩:=B2
  obtain⟨_,e3,_⟩:=B3
  have s1:(bs.getD k mz).1=p∧(bs.getD k mz).2.1=(d:Int)∧(bs.getD k mz).2.2.1=(d:Int):=by rw[e1];exact⟨rfl,rfl,rfl⟩
  have s2:(bs.getD f mz).1=p∧(bs.getD f mz).2.1=(d:Int)∧(bs.getD f mz).2.2.1=(d:Int):=by rw[e2];exact⟨rfl,rfl,rfl⟩
  rw[qjJ v1 w2 (qew v2 w3) s1.2.2 s2.2.1.symm s1.1,← qjJ w2 v2 w3 s2.2.1.symm s2.2.2 s2.1.symm,qo1 hp hd B2',qoc (p:=p) (n:=d) w3 rfl rfl]
 refine qfe fun k i j hk h3 hij hj=>?_
 have hl:=qaF (c:=c) (k:=k)
 rw[if_pos (by omega)] at hl
 obtain⟨_,a2,a3⟩:=qby hv hk (show i<(qaG c k).length by omega)
 obtain⟨_,b2,b3⟩:=qby hv hk (show j<(qaG c k).length by omega)
 have la:=qaF (c:=c) (k:=fc c k i)
 have lb:=qaF (c:=c) (k:=fc c k j)
 rw[a3,List.length_eraseIdx_of_lt (by omega),if_pos (by omega)] at la
 rw[b3,List.length_eraseIdx_of_lt (by omega),if_pos (by omega)] at lb
 rw[key k i (j-1) hk (by omega) (by omega),key k j i hk (by omega) (by omega)]
 have:fc c (fc c k i) (j-1)=fc c (fc c k j) i:=by
  obtain⟨_,u2,u3⟩:=qby hv a2 (show j-1<(qaG c (fc c k i)).length by omega)
  obtain⟨_,w2,w3⟩:=qby hv b2 (show i<(qaG c (fc c k j)).length by omega)
  refine qmL hv u2 w2 ?_
  rw[u3,w3,a3,b3]
  exact(qfF hij).symm
 rw[this]
def zm(p:Int)(a b:Nat):Mat:=(p,(a:Int),(b:Int),List.replicate (a*b) 0,())
theorem qjY{g:Nat→Int}:∀ {n:Nat},qaM (fun _=>0) g n=0
 | 0=>rfl
 | n+1=>by show qaM (fun _=>0) g n+0*g n=0;rw[qjY];simp
theorem qsf{p:Int}{a b d:Nat}{m:Mat}(hm:m.2.2.1=(d:Int)):qfV (zm p a b) m=zm p a d:=by
 refine qiE.2 ⟨rfl,rfl,hm,?_⟩
 show qav (qhP p (List.replicate (a*b) 0) m.2.2.2.1 ((b:Int)).toNat m.2.2.1.toNat) m.2.2.1.toNat ((a:Int)).toNat=List.replicate (a*d) 0
 rw[hm,Int.toNat_natCast,Int.toNat_natCast,Int.toNat_natCast]
 refine Eq.trans (qaN fun i j hi hj=>(?_:_=(0:Int))) qgE
 unfold qhP
 rw[qaz (d:=fun _=>0) (h:=fun l=>m.2.2.2.1.getD (l*d+j) 0) fun l hl=>⟨by rw[List.getD_eq_getElem?_getD,List.getElem?_replicate];split<;>rfl,rfl⟩,qjY,Int.zero_emod]
theorem qre{c:List Sim}{p:Int}{st:Sim}(hv:VC c)(hl:st.length=c.length)(hst:∀ x∈st,0≤x∧x≤3){k i:Nat}(hk:k<c.length)(hi:i<(qaG c k).length) :
  mp c ((qbB c c.length).map (zOf p st)) k i=zm p (st.getD k 0).toNat (st.getD (fc c k i) 0).toNat:=by
 have hg:=qcr (n:=c.length) hk hi
 obtain⟨f,f1,f2,f3⟩:=qfg hv.srt hv hk hi
 obtain⟨a,ha,ea,hka,eka⟩:=qgV hl hst hk
 obtain⟨b,hb,eb,hfb,efb⟩:=qgV hl hst f1
 unfold mp fc
 rw[List.getD_eq_getElem?_getD,List.getElem?_map,hg]
 show zOf p st ((k:Int),(i:Int),(qaG c k).getD i 0,())=_
 unfold zOf zm
 simp only[f3,Int.toNat_natCast,ea,eb]
theorem qoH{c:List Sim}{p:Int}{st:Sim}(hv:VC c)(hl:st.length=c.length)(hst:∀ x∈st,0≤x∧x≤3):qcu c ((qbB c c.length).map (zOf p st))=none:=by
 have key:∀ k i j,k<c.length→i<(qaG c k).length→j<(qaG c (fc c k i)).length→two c ((qbB c c.length).map (zOf p st)) k i j=zm p (st.getD k 0).toNat (st.getD (fc c (fc c k i) j) 0).toNat:=fun k i j hk hi hj=>by
  obtain⟨_,a2,a3⟩:=qby hv hk hi
  unfold two
  rw[qre hv hl hst hk hi,qre hv hl hst a2 hj]
  exact qsf rfl
 refine qfe fun k i j hk h3 hij hj=>?_
 have hl:=qaF (c:=c) (k:=k)
 rw[if_pos (by omega)] at hl
 obtain⟨_,a2,a3⟩:=qby hv hk (show i<(qaG c k).length by omega)
 obtain⟨_,b2,b3⟩:=qby hv hk (show j<(qaG c k).length by omega)
 have la:=qaF (c:=c) (k:=fc c k i)
 have lb:=qaF (c:=c) (k:=fc c k j)
 rw[a3,List.length_eraseIdx_of_lt (by omega),if_pos (by omega)] at la
 rw[b3,List.length_eraseIdx_of_lt (by omega),if_pos (by omega)] at lb
 rw[key k i (j-1) hk (by omega) (by omega),key k j i hk (by omega) (by omega)]
 have:fc c (fc c k i) (j-1)=fc c (fc c k j) i:=by
  obtain⟨_,u2,u3⟩:=qby hv a2 (show j-1<(qaG c (fc c k i)).length by omega)
  obtain⟨_,w2,w3⟩:=qby hv b2 (show i<(qaG c (fc c k j)).length by omega)
  refine qmL hv u2 w2 ?_
  rw[u3,w3,a3,b3]
  exact(qfF hij).symm
 rw[this]
theorem qhZ{c:List Sim}{x:Sim}:x∈sk1 c↔x∈c∧x.length≤2:=by
 unfold sk1
 rw[List.mem_filter]
 simp
theorem qsO{c:List Sim}(hv:VC c):VC (sk1 c):=by
 have hsub:(sk1 c).Sublist c:=List.filter_sublist
 have hg:∀ k,k<(sk1 c).length→(sk1 c).getD k []∈sk1 c:=fun k hk=>by rw[qah hk];exact List.getElem_mem hk
 have hvx:∀ x∈c,Vx x:=fun x hx=>by
  obtain⟨k,hk,rfl⟩:=List.getElem_of_mem hx
  have:=hv.2.1 k hk
  rwa [qah hk] at this
 have hpw:c.Pairwise fun a b=>qdq a b<0:=List.pairwise_iff_getElem.2 fun i j hi hj hij=>hv.srt i j hj hij
 have hpw2:=hpw.sublist hsub
 refine⟨Nat.le_trans hsub.length_le hv.1,fun k hk=>hvx _ (qhZ.1 (hg k hk)).1,fun k h1 (hk:k<(sk1 c).length)=>?_,fun k (hk:k<(sk1 c).length) f hf=>?_⟩
 ·rw[qah (show k-1<(sk1 c).length by omega),qah hk]
  exact List.pairwise_iff_getElem.1 hpw2 (k-1) k (by omega) hk (by omega)
 ·obtain⟨h1,h2⟩:=qhZ.1 (hg k hk)
  obtain⟨q,hq,e⟩:=List.getElem_of_mem h1
  refine qhZ.2 ⟨hv.2.2.2 q hq f (by rw[qah hq,e];exact hf),?_⟩
  obtain⟨h3,i,hi,rfl⟩:=qdd.1 hf
  rw[List.length_eraseIdx_of_lt hi];omega
theorem qsJ{c:List Sim}(h:S5 c):S5 (sk1 c):=fun x hx=>h x (qhZ.1 hx).1
end VeT
open Go Go.Proofs Ve
namespace VeT
theorem qtg{p:Int}(h:2≤p∧p≤251∧∀ k∈List.range 16,2≤k→(k:Int)*k≤p→p%k≠0):Pr p:=⟨h.1,h.2.1,fun k h1 h2=>by
 by_cases hk:k<16
 ·exact h.2.2 k (List.mem_range.2 hk) h1 h2
 ·have:16*16≤k*k:=Nat.mul_le_mul (by omega) (by omega)
  have e:(k:Int)*k=((k*k:Nat):Int):=(qa3 ..).symm
  rw[e] at h2
  have:=h.2.1
  omega⟩
theorem pr5{p:Int}(h:p∈([2,3,5,7,251]:List Int)):Pr p:=by
 simp only[List.mem_cons,List.not_mem_nil,or_false] at h
 rcases h with rfl | rfl | rfl | rfl | rfl<;>exact qtg (by decide)
theorem VS.at{c:List Sim}{p:Int}{st:Sim}{ms:List Mat}(h:VS c p st ms){t:Nat}(ht:t<ms.length):∃ a b:Nat,a≤3∧b≤3∧VM (ms.getD t mz)∧(ms.getD t mz).1=p∧(ms.getD t mz).2.1=(a:Int)∧(ms.getD t mz).2.2.1=(b:Int):=by
 have hl:=h.2.2.2.1
 have ht':t<(qbB c c.length).length:=by unfold plc at hl;omega
 obtain⟨k,i,h1,h2,h3⟩:=qiU ht'
 have hb:=(h.map h1 h2).2
 unfold mp at hb
 rw[← h3] at hb
 obtain⟨a1,a2⟩:=qkq h.2.2.1.2.1 k
 obtain⟨b1,b2⟩:=qkq h.2.2.1.2.1 (fc c k i)
 exact⟨(st.getD k 0).toNat,(st.getD (fc c k i) 0).toNat,by omega,by omega,hb.1,hb.2.1,by rw[hb.2.2.1];omega,by rw[hb.2.2.2];omega⟩
theorem qfc{l:Sim}(h:l.length≤1048576):Sm (.sl (.int .i64)) l:=⟨h,fun _ _=>trivial⟩
theorem qsa{ms:List Mat}(h:ms.length≤1048576)(h2:∀ m∈ms,m.2.2.2.1.length≤1048576):Sm (.sl (.st cM)) ms:=⟨h,fun m hm=>⟨trivial,trivial,trivial,qfc (h2 m hm),trivial⟩⟩
theorem VS.plc_le{c:List Sim}{p:Int}{st:Sim}{ms:List Mat}(h:VS c p st ms):ms.length≤192:=by
 rw[← h.2.2.2.1];exact qec h.1
theorem VS.cells{c:List Sim}{p:Int}{st:Sim}{ms:List Mat}(h:VS c p st ms):∀ m∈ms,m.2.2.2.1.length≤9:=fun m hm=>by
 obtain⟨t,ht,rfl⟩:=List.getElem_of_mem hm
 obtain⟨a,b,ha,hb,hv,_,e1,e2⟩:=h.at ht
 rw[qah ht] at hv e1 e2
 have:=hv.num
 rw[e1,e2,Int.toNat_natCast,Int.toNat_natCast] at this
 have:=Nat.mul_le_mul ha hb
 omega
theorem VS.sm{c:List Sim}{p:Int}{st:Sim}{ms:List Mat}(h:VS c p st ms):Sm (.st cS) (c,p,st,ms,()):=by
 have h48:=h.1.1
 have hl:=h.2.2.1.1
 have h192:=h.plc_le
 exact⟨h.1.sm,trivial,qfc (by show st.length≤_;omega),qsa (by show ms.length≤_;omega) fun m hm=>by have:=h.cells m hm;omega,trivial⟩
abbrev Drw:=List Sim×Int×Sim×List Mat×Src×Unit
def qsQ(n:Nat)(r:Drw):Prop:=ISh (r.1,r.2.1,r.2.2.1,r.2.2.2.1,())∧S5 r.1∧SO n r.2.2.2.2.1
theorem qsc{p:Int}{d:Nat}(hp:Pr p)(hd:d≤3):Bt (qbe p d) p (d:Int) (d:Int):=⟨qj5 hp (by omega),rfl,rfl,rfl⟩
theorem qcv{α:Type}{n i:Nat}{a d:α}(h:i<n):(List.replicate n a).getD i d=a:=by
 rw[List.getD_eq_getElem?_getD,List.getElem?_replicate,if_pos h];rfl
theorem qnH{c:List Sim}{p:Int}{d:Nat}(hv:VC c)(h5:∀ k:Nat,k<4→SD c (List.replicate c.length (d:Int)) k≤32)(hp:Pr p)(hd:d≤3):ISh (c,p,List.replicate c.length (d:Int),List.replicate (qbB c c.length).length (qbe p d),()):=by
 have hpl:∀ k i,k<c.length→i<(qaG c k).length→plc c k+i<(qbB c c.length).length:=fun k i hk hi=>by
  have:=qcr (n:=c.length) hk hi
  rcases Nat.lt_or_ge (plc c k+i) (qbB c c.length).length with h | h
  ·exact h
  ·rw[List.getElem?_eq_none h] at this;cases this
 refine⟨⟨hv,hp,⟨by simp,fun x hx=>by rw[(List.mem_replicate.1 hx).2];omega,fun k hk=>h5 k hk⟩,?_,fun k hk i hi=>?_⟩,?_⟩
 ·show(qbB c c.length).length=(List.replicate _ _).length
  simp
 ·obtain⟨f,f1,f2,f3⟩:=qfg hv.srt hv hk hi
  show Bt ((List.replicate _ _).getD (plc c k+i) mz) p ((List.replicate _ _).getD ((qaG c k).getD i 0).toNat 0) ((List.replicate _ _).getD k 0)
  rw[f3,Int.toNat_natCast,qcv (hpl k i hk hi),qcv f1,qcv hk]
  exact qsc hp hd
 ·exact qnZ (m:=qbe p d) hv fun k i hk hi=>qcv (hpl k i hk hi)
theorem qsv{c:List Sim}(hv:VC c)(h5:S5 c){st:Sim}(hst:∀ x∈st,0≤x∧x≤3):∀ k:Nat,k<4→SD c st k≤32:=fun k hk=>by
 have h1:=qkT hv h5 hk
 have h2:=qiF hst (c:=c) (d:=(k:Int)) (n:=c.length)
 rw[qgr];omega
theorem qn8(n:Nat)(s:Src)(hn:n≤10000000)(hs:SO n s):qjM n_Z177 [dR s] o_Z177 fun(r:Drw)=>qsQ (n+20000) r:=by
  obtain⟨c0,a,g,⟨⟩⟩:=s
  refine qb5 ?_
  simp only[run_Z177,Z177.ev]
  refine qbL (ql9 n _ (by omega) hs) fun(r:List Sim×Src×Unit) ⟨b1,b2,b3⟩=>?_
  obtain⟨c,s1,⟨⟩⟩:=r
  simp only at b1 b2 b3
  dsimp only
  have h48:=b1.1
  have h192:=qec b1
  refine qbL (qoR (n+50) _ _ (by simp) (by omega) b3) fun(r:Int×Src×Unit) ⟨p1,p2⟩=>?_
  obtain⟨p,s2,⟨⟩⟩:=r
  simp only at p1 p2
  have hp:=pr5 p1
  refine qbL (qbl (n+52) _ 5 (by omega) p2) fun(r:Int×Src×Unit) ⟨q1,q2,q3,q4⟩=>?_
  obtain⟨w,s3,⟨⟩⟩:=r
  simp only at q1 q2 q3 q4
  dsimp only
  -- the constant sheaf
  refine qi3 (fun _=>?_) fun _=>?_
  · refine qbL (qbl (n+54) _ 2 (by omega) q4) fun(r:Int×Src×Unit) ⟨r1,r2,r3,r4⟩=>?_
    obtain⟨d0,s4,⟨⟩⟩:=r
    simp only at r1 r2 r3 r4
    have ed:w64 (1+d0)=((d0.toNat+1:Nat):Int):=by rw[qad (by omega) (by omega)];omega
    rw[ed]
    refine qaH (qe0 c p (d0.toNat+1) (by omega) b1.sm b1) (qaX ⟨?_,b2,r4.le (by omega)⟩)
    exact qnH b1 (qsv b1 b2 fun x hx=>by rw[(List.mem_replicate.1 hx).2];omega) hp (by omega)
  -- in other bases
  refine qi3 (fun _=>?_) fun _=>?_
  · refine qbL (qbl (n+54) _ 2 (by omega) q4) fun(r:Int×Src×Unit) ⟨r1,r2,r3,r4⟩=>?_
    obtain⟨d0,s4,⟨⟩⟩:=r
    simp only at r1 r2 r3 r4
    have ed:w64 (1+d0)=((d0.toNat+1:Nat):Int):=by rw[qad (by omega) (by omega)];omega
    rw[ed]
    refine qbL (qmz (n+56) s4 c p (d0.toNat+1) (by omega) (by exact r4) b1 hp (by omega)) fun r ⟨ms,s5,bs,e,m1,m2,m3,m4,m5⟩=>?_
    subst e
    refine qaX ⟨⟨qsd b1 b2 hp (by simp) (fun x hx=>by rw[(List.mem_replicate.1 hx).2];omega) m1 fun k hk i hi=>?_,?_⟩,b2,m5.le (by omega)⟩
    · show Bt (ms.getD (plc c k+i) mz) p ((List.replicate _ _).getD ((qaG c k).getD i 0).toNat 0) ((List.replicate _ _).getD k 0)
      rw[m4 k i hk hi]
      exact qnP b1 hp (by omega) m2 m3 hk hi
    · exact qkx b1 hp (d:=d0.toNat+1) (by omega) m2 m3 fun k i hk hi=>m4 k i hk hi
  -- at one place
  refine qi3 (fun _=>?_) fun _=>?_
  · have hj:∀(st:Sim) (s5:Src) (m:Nat),st.length=c.length→(∀ x∈st,0≤x∧x≤3)→m≤n+20000→SO m s5→EvQ (fun φ=>Z177.j0 (mkR (run E (φ 0))) (φ 0) p 0 c st s5.1 s5.2.1 s5.2.2.1) o_Z177 fun(r:Drw)=>qsQ (n+20000) r:=fun st s5 m hl hst hm h5=>by
      simp only[Z177.j0_eq _ qag]
      refine qaH (qgU c p st b1.sm b1 hl hst) (qaX ⟨⟨qsd b1 b2 hp hl hst (by show((qbB c c.length).map _).length=_;rw[List.length_map];rfl) fun k hk i hi=>qoL b1 hp hl hst hk hi,qoH b1 hl hst⟩,b2,h5.le hm⟩)
    rw[Int.toNat_natCast]
    refine qbb (by simp only[Bool.and_eq_true,decide_eq_true_eq];omega) ?_
    have hrl:(List.replicate c.length (0:Int)).length=c.length:=List.length_replicate
    refine qcU (fun h=>?_) fun h=>hj _ s3 (n+54) (by simp) (fun x hx=>by rw[(List.mem_replicate.1 hx).2];omega) (by omega) q4
    refine qbL (qbl (n+54) s3 _ (by omega) q4) fun(r:Int×Src×Unit) ⟨r1,r2,r3,r4⟩=>?_
    obtain⟨k0,s4,⟨⟩⟩:=r
    simp only at r1 r2 r3 r4
    refine qbL (qbl (n+56) s4 3 (by omega) r4) fun(r:Int×Src×Unit) ⟨t1,t2,t3,t4⟩=>?_
    obtain⟨d0,s5,⟨⟩⟩:=r
    simp only at t1 t2 t3 t4
    rw[hrl] at r2 h
    have hk:k0<(c.length:Int):=by omega
    refine qbb (show(decide ((0:Int)≤k0)&&decide (k0<((List.replicate c.length (0:Int)).length:Int)))=true by rw[hrl];simp only[Bool.and_eq_true,decide_eq_true_eq];omega) ?_
    refine hj _ s5 (n+58) (by simp) (fun x hx=>?_) (by omega) t4
    rcases List.mem_or_eq_of_mem_set hx with hx | rfl
    · rw[(List.mem_replicate.1 hx).2];omega
    · rw[qad (by omega) (by omega)];omega
  -- of dimension 1
  refine qaH (qpa c b1) ?_
  have v1:=qsO b1
  have f1:=qsJ b2
  have k48:=v1.1
  have k192:=qec v1
  have hfl:∀ x∈sk1 c,x.length≤2:=fun x hx=>(qhZ.1 hx).2
  generalize sk1 c=c1 at v1 f1 k48 k192 hfl ⊢
  refine EvQ.start 1 (L:=fun φ N=>Z177.l1 (mkR (run E (φ 0))) (φ 0) N p 0 0 c1 [] s3.1 s3.2.1 s3.2.2.1) ?_ (fun _ _ _=>rfl)
  refine EvQ.loop 1 (σ:=Nat×Sim×Src) (L:=fun φ N st=>Z177.l1 (mkR (run E (φ 0))) (φ 0) N p (st.1:Int) 0 c1 st.2.1 st.2.2.1 st.2.2.2.1 st.2.2.2.2.1) (fun _ _ _ _=>rfl)
    (fun st=>st.1≤c1.length∧st.2.1.length=st.1∧(∀ x∈st.2.1,0≤x∧x≤3)∧SO (n+60+2*st.1) st.2.2) (fun st=>c1.length-st.1) (fun st hi ih=>?_) (0,[],s3) ⟨Nat.zero_le _,rfl,fun x hx=>by simp at hx,q4.le (by show n+52+2≤n+60+2*0;omega)⟩
  obtain⟨k,st,s4⟩:=st
  obtain⟨i1,i2,i3,i4⟩:=hi
  simp only at i1 i2 i3 i4 ih ⊢
  simp only[Z177.l1_succ _ qag]
  refine qcU (fun h=>?_) fun h=>?_
  · refine qbL (qbl _ s4 4 (by omega) i4) fun(r:Int×Src×Unit) ⟨r1,r2,r3,r4⟩=>?_
    obtain⟨y,s5,⟨⟩⟩:=r
    simp only at r1 r2 r3 r4
    refine qbb (decide_eq_true (by simp;omega)) ?_
    rw[qae (by omega)]
    refine ih (k+1,st++[y],s5) ⟨by show k+1≤c1.length;omega,by simp[i2],fun x hx=>?_,r4.le (by show n+60+2*k+2≤n+60+2*(k+1);omega)⟩ (by show c1.length-(k+1)<c1.length-k;omega)
    rcases List.mem_append.1 hx with hx | hx
    · exact i3 x hx
    · rw[List.mem_singleton] at hx;subst hx;omega
  have hk:k=c1.length:=by omega
  subst hk
  clear ih
  refine qaH (qgU c1 p st v1.sm v1 i2 i3) ?_
  have hol:((qbB c1 c1.length).map (zOf p st)).length=(qbB c1 c1.length).length:=by rw[List.length_map]
  have horig:∀ t,t<(qbB c1 c1.length).length→∃ a b:Nat,a≤3∧b≤3∧VM (((qbB c1 c1.length).map (zOf p st)).getD t mz)∧(((qbB c1 c1.length).map (zOf p st)).getD t mz).2.1=(a:Int)∧(((qbB c1 c1.length).map (zOf p st)).getD t mz).2.2.1=(b:Int):=fun t ht=>by
    obtain⟨k,i,h1,h2,h3⟩:=qiU ht
    have hb:=qoL v1 hp i2 i3 h1 h2
    rw[← h3] at hb
    obtain⟨a1,a2⟩:=qkq i3 k
    obtain⟨b1,b2⟩:=qkq i3 ((qaG c1 k).getD i 0).toNat
    exact⟨(st.getD k 0).toNat,(st.getD ((qaG c1 k).getD i 0).toNat 0).toNat,by omega,by omega,hb.1,by rw[hb.2.2.1];omega,by rw[hb.2.2.2];omega⟩
  have hbt:=fun k (hk:k<c1.length) i (hi:i<(qaG c1 k).length)=>qoL v1 hp i2 i3 hk hi
  generalize (qbB c1 c1.length).map (zOf p st)=og at hol horig hbt ⊢
  refine EvQ.start 1 (L:=fun φ N=>Z177.l2 (mkR (run E (φ 0))) (φ 0) N p 0 0 p s4.1 s4.2.1 s4.2.2.1 og c1 st) ?_ (fun _ _ _=>rfl)
  refine EvQ.loop 1 (σ:=Nat×List Mat×Src) (L:=fun φ N x=>Z177.l2 (mkR (run E (φ 0))) (φ 0) N p (x.1:Int) 0 p x.2.2.1 x.2.2.2.1 x.2.2.2.2.1 x.2.1 c1 st) (fun _ _ _ _=>rfl)
    (fun x=>x.1≤og.length∧x.2.1.length=og.length∧(∀ t,t<og.length→VM (x.2.1.getD t mz)∧((x.2.1.getD t mz).1=(og.getD t mz).1∨(x.2.1.getD t mz).1=p)∧(x.2.1.getD t mz).2.1=(og.getD t mz).2.1∧(x.2.1.getD t mz).2.2.1=(og.getD t mz).2.2.1)∧SO (n+200+70*x.1) x.2.2) (fun x=>og.length-x.1) (fun x hi ih=>?_) (0,og,s4)
    ⟨Nat.zero_le _,rfl,fun t ht=>⟨by obtain⟨_,_,_,_,hv,_⟩:=horig t (by omega);exact hv,.inl rfl,rfl,rfl⟩,i4.le (by show n+60+2*c1.length≤n+200+70*0;omega)⟩
  obtain⟨k,ms,s5⟩:=x
  obtain⟨j1,j2,j3,j4⟩:=hi
  simp only at j1 j2 j3 j4 ih ⊢
  simp only[Z177.l2_succ _ qag]
  refine qcU (fun h=>?_) fun h=>?_
  · have hk:k<og.length:=by omega
    have hkm:k<ms.length:=by omega
    obtain⟨ra,rb,ha,hb,hv,ea,eb⟩:=horig k (by omega)
    obtain⟨u1,u2,u3,u4⟩:=j3 k hk
    have eg:ms[k]=ms.getD k mz:=(qah hkm).symm
    rw[Int.toNat_natCast]
    have hc:(decide ((0:Int)≤(k:Int))&&decide ((k:Int)<(ms.length:Int)))=true:=by simp only[Bool.and_eq_true,decide_eq_true_eq];omega
    refine qbb hc (qbF (List.getElem?_eq_getElem hkm) (qbb hc (qbF (List.getElem?_eq_getElem hkm) ?_)))
    rw[eg,u3,u4,ea,eb]
    refine qbL (qnM _ s5 p ra rb (by omega) j4 ⟨hp.1,hp.2.1⟩ (by omega) (by omega)) fun r ⟨cells,s6,e,c1',c2,c3⟩=>?_
    subst e
    refine qbb hc ?_
    rw[qae (by omega)]
    refine ih (k+1,ms.set k (p,(ra:Int),(rb:Int),cells,()),s6) ⟨hk,by rw[List.length_set];exact j2,fun t ht=>?_,c3.le (by show n+200+70*k+70≤n+200+70*(k+1);omega)⟩ (by show og.length-(k+1)<og.length-k;omega)
    show VM ((ms.set k (p,(ra:Int),(rb:Int),cells,())).getD t mz)∧_
    by_cases e:t=k
    · subst e
      rw[List.getD_eq_getElem?_getD,List.getElem?_set_self hkm]
      exact⟨qnm hp (by omega) (by omega) c1' c2,.inr rfl,by rw[ea];rfl,by rw[eb];rfl⟩
    · rw[List.getD_eq_getElem?_getD,List.getElem?_set_ne (fun h=>e h.symm),← List.getD_eq_getElem?_getD]
      exact j3 t ht
  · refine qaX ⟨⟨qsd v1 f1 hp i2 i3 (by show ms.length=(qbB c1 c1.length).length;omega) fun k hk i hi=>?_,qnY hfl⟩,f1,j4.le (by show n+200+70*k≤n+20000;omega)⟩
    have hb:=hbt k hk i hi
    have hlt:plc c1 k+i<og.length:=by
      rw[hol]
      have:=qcr (n:=c1.length) hk hi
      rcases Nat.lt_or_ge (plc c1 k+i) (qbB c1 c1.length).length with h | h
      · exact h
      · rw[List.getElem?_eq_none h] at this;cases this
    obtain⟨u1,u2,u3,u4⟩:=j3 _ hlt
    exact⟨u1,by rcases u2 with u2 | u2<;>rw[u2];exact hb.2.1,by rw[u3];exact hb.2.2.1,by rw[u4];exact hb.2.2.2⟩
end VeT
open Go Go.Proofs Ve
namespace VeT
theorem qqI{f:Nat}{args:List Dv}(h:qjM f args (.cons .bool .nil) fun(r:Bool×Unit)=>r.1=true):Ret E f args ⟨.cons .bool .nil,(true,())⟩:=by
 obtain⟨⟨b,⟨⟩⟩,h1,h2⟩:=h
 have h2:b=true:=h2
 subst h2
 exact h1
theorem qnb{b:Bool}(h:b=true):EvQ (fun _=>some ⟨.cons .bool .nil,(b,())⟩) (.cons .bool .nil) fun(r:Bool×Unit)=>r.1=true:=qaX h
theorem qrQ{c:List Int}(h:Wf (.sl (.int .u8)) c):SO 0 (c,0,0,()):=⟨fun b hb=>by
 have:=h.2 b hb
 simp only[Wf,Lit.wf,IntKind.min,IntKind.max,IntKind.signed,IntKind.bits,Bool.and_eq_true,decide_eq_true_eq] at this
 simp at this
 omega,by show(0:Int)≤0;omega,by show(0:Int)≤((0:Nat):Int);omega⟩
end VeT
open Go Go.Proofs Ve
namespace VeT
noncomputable abbrev qo3(x:Shf)(k:Int):List Sim:=qb7 (SD x.1 x.2.2.1 k).toNat (SD x.1 x.2.2.1 (k-1)).toNat (qcR x (k-1)).2.2.2.1
end VeT
open Go Go.Proofs Ve
namespace VeT
theorem qq4{c:List Sim}(hc:Srt c){s:Sim}{m:Nat}(hm:m<c.length):qdm c s=(m:Int)↔s=c[m]:=by
 have hs:qdm c c[m]=(m:Int):=by
  unfold qdm qhK
  have:c.findIdx? (fun x=>pb (x=c[m]))=some m:=by
   rw[List.findIdx?_eq_some_iff_getElem]
   refine⟨hm,qaI rfl,fun j hj h=>?_⟩
   have e:=qaL.1 h
   have:=hc j m hm hj
   rw[qcn.2 e] at this;omega
  rw[this];rfl
 constructor
 ·intro h
  have h0:0≤qdm c s:=by omega
  obtain⟨j,hj,e⟩:=List.mem_iff_getElem.1 (qa8.1 h0)
  subst e
  have hj2:qdm c c[j]=(j:Int):=by
   unfold qdm qhK
   have:c.findIdx? (fun x=>pb (x=c[j]))=some j:=by
    rw[List.findIdx?_eq_some_iff_getElem]
    refine⟨hj,qaI rfl,fun i hi h=>?_⟩
    have e:=qaL.1 h
    have:=hc i j hj hi
    rw[qcn.2 e] at this;omega
   rw[this];rfl
  have:j=m:=by omega
  subst this;rfl
 ·rintro rfl;exact hs
theorem qhD{c:List Sim}(h:Srt c){i j:Nat}(hij:i≤j)(hj:j<c.length):(c.getD i []).length≤(c.getD j []).length:=by
 rw[qah (by omega),qah hj]
 by_cases e:i=j
 ·subst e;exact Nat.le_refl _
 ·have:=h i j hj (by omega)
  rw[qiI] at this
  omega
theorem qlA{c:List Sim}(h:Srt c){d x:Int}(hx:x∈qak c d c.length) :
  ∃ s f0:Nat,x=(s:Int)∧s<c.length∧f0≤s∧(qak c d c.length).head? = some (f0:Int)∧qhK (fun y=>pb (y=x)) (qak c d c.length)=((s-f0:Nat):Int)∧s-f0<(qak c d c.length).length:=by
 obtain⟨s,rfl,hs,hd⟩:=qbJ.1 hx
 obtain⟨tl,hL⟩:=qeQ hs hd
 have hne:qak c d c.length≠[]:=by rw[hL];simp
 obtain⟨y,hy⟩:∃ y,(qak c d c.length).head? = some y:=by
  cases hh:qak c d c.length with
  | nil=>exact absurd hh hne
  | cons y l=>exact⟨y,rfl⟩
 have hym:y∈qak c d c.length:=List.mem_of_head? hy
 obtain⟨f0,rfl,hf,hfd⟩:=qbJ.1 hym
 obtain⟨tl2,hL2⟩:=qeQ hf hfd
 have hz:qak c d f0=[]:=by
  cases hh:qak c d f0 with
  | nil=>rfl
  | cons z l =>
   have hz:z∈qak c d f0:=by rw[hh];exact List.mem_cons_self
   obtain⟨i,rfl,hi⟩:=qdX hz
   rw[hL2,hh] at hy
   have:((i:Nat):Int)=f0:=by simpa using hy
   omega
 have hfs:f0≤s:=by
  refine Classical.byContradiction fun hn=>?_
  have:((s:Nat):Int)∈qak c d f0:=qbJ.2 ⟨s,rfl,by omega,hd⟩
  rw[hz] at this;cases this
 have hlen:∀ t,f0+t≤s→(qak c d (f0+t)).length=t:=by
  intro t
  induction t with
  | zero=>intro _;rw[Nat.add_zero,hz];rfl
  | succ t ih =>
   intro ht
   have h1:=qhD h (show f0≤f0+t by omega) (by omega)
   have h2:=qhD h (show f0+t≤s by omega) hs
   rw[← Nat.add_assoc,qbN,if_pos (by omega),List.length_append,ih (by omega)];rfl
 have hls:=hlen (s-f0) (by omega)
 rw[show f0+(s-f0)=s by omega] at hls
 refine⟨s,f0,rfl,hs,hfs,hy,?_,by rw[hL,List.length_append,hls];simp⟩
 unfold qhK
 have:(qak c d c.length).findIdx? (fun y=>pb (y=(s:Int)))=some (s-f0):=by
  rw[List.findIdx?_eq_some_iff_getElem]
  refine⟨by rw[hL,List.length_append,hls];simp,?_,fun j hj=>?_⟩
  ·refine qaI ?_
   have:(qak c d c.length)[s-f0]? = some (s:Int):=by
    rw[hL,List.getElem?_append_right (by omega),hls,Nat.sub_self];rfl
   exact(List.getElem?_eq_some_iff.1 this).2
  ·rw[qaL]
   intro e
   have hj':j<(qak c d s).length:=by omega
   have:(qak c d c.length)[j]? = some (qak c d s)[j]:=by
    rw[hL,List.getElem?_append_left hj',List.getElem?_eq_getElem hj']
   have e2:=(List.getElem?_eq_some_iff.1 this).2
   rw[e] at e2
   obtain⟨i,hi,hi2⟩:=qdX (List.getElem_mem hj')
   rw[← e2] at hi
   omega
 rw[this];rfl
end VeT
open Go Go.Proofs Ve
namespace VeT
theorem qnd{c:List Sim}(h:VC c){k:Int}{s:Nat}(hs:s<c.length)(hd:((c.getD s []).length:Int)=k+1){x:Int}(hx:x∈qaG c s):x∈qak c (k-1) c.length:=by
 unfold qaG at hx
 obtain⟨f,hf,rfl⟩:=List.mem_map.1 hx
 have hfc:=h.2.2.2 s hs f hf
 have hfl:=qlo hf
 obtain⟨q,hq,e⟩:=List.mem_iff_getElem.1 hfc
 have:=(qq4 h.srt (s:=f) hq).2 e.symm
 rw[this]
 exact qbJ.2 ⟨q,rfl,hq,by rw[qah hq,e];omega⟩
noncomputable def bdJ(c:List Sim)(k p:Int)(s j:Nat)(cells:List Int):Nat→List Int
 | 0=>cells
 | i+1=>(bdJ c k p s j cells i).set (((qaG c s).getD i 0-(qak c (k-1) c.length).getD 0 0).toNat*(qak c k c.length).length+j) (sgn p i)
noncomputable def bdC(c:List Sim)(k p:Int):Nat→List Int
 | 0=>List.replicate ((qak c (k-1) c.length).length*(qak c k c.length).length) 0
 | j+1=>bdJ c k p ((qak c k c.length).getD j 0).toNat j (bdC c k p j) (qaG c ((qak c k c.length).getD j 0).toNat).length
theorem qe6{c:List Sim}{k p:Int}{s j:Nat}{cells:List Int}:∀ {i:Nat},(bdJ c k p s j cells i).length=cells.length
 | 0=>rfl
 | i+1=>by unfold bdJ;rw[List.length_set,qe6]
theorem qch{c:List Sim}{k p:Int}:∀ {j:Nat},(bdC c k p j).length=(qak c (k-1) c.length).length*(qak c k c.length).length
 | 0=>by simp[bdC]
 | j+1=>by unfold bdC;rw[qe6,qch]
theorem qme{c:List Sim}{k p:Int}(hp:2≤p∧p≤251){s j:Nat}{cells:List Int}(h:qaE cells p):∀ {i:Nat},qaE (bdJ c k p s j cells i) p
 | 0=>h
 | i+1=>fun x hx=>by
  unfold bdJ at hx
  rcases List.mem_or_eq_of_mem_set hx with hx | rfl
  ·exact qme hp h x hx
  ·exact qro hp i
theorem qdT{c:List Sim}{k p:Int}(hp:2≤p∧p≤251):∀ {j:Nat},qaE (bdC c k p j) p
 | 0=>qi6 hp.1
 | j+1=>by unfold bdC;exact qme hp (qdT hp)
theorem qnB{c:List Sim}{p:Int}:∀ {j:Nat},j≤(qak c 0 c.length).length→bdC c 0 p j=List.replicate ((qak c (0-1) c.length).length*(qak c 0 c.length).length) 0
 | 0,_=>rfl
 | j+1,h=>by
  unfold bdC
  obtain⟨s,e,hs,hd⟩:=qbJ.1 (List.getElem_mem (show j<(qak c 0 c.length).length by omega))
  have e2:((qak c 0 c.length).getD j 0).toNat=s:=by rw[qah (by omega),e];rfl
  have hz:(qaG c s).length=0:=by rw[qaF,if_neg (by omega)]
  rw[e2,hz,bdJ]
  exact qnB (by omega)
noncomputable def bdM(c:List Sim)(k p:Int):Mat:=(p,((qak c (k-1) c.length).length:Int),((qak c k c.length).length:Int),bdC c k p (qak c k c.length).length,())
structure BdF (c:List Sim) (k p:Int):Prop where
 sc:Sm (.sl (.sl (.int .i64))) c
 vc:VC c
 pr:Pr p
 hk:0≤k∧k≤4
 lu:(qak c k c.length).length≤32
 ll:(qak c (k-1) c.length).length≤32
theorem BdF.hp{c:List Sim}{k p:Int}(F:BdF c k p):2≤p∧p≤251:=⟨F.pr.1,F.pr.2.1⟩
theorem BdF.vm{c:List Sim}{k p:Int}(F:BdF c k p):VM (bdM c k p):=by
 have:=F.lu
 have:=F.ll
 refine⟨F.pr,⟨by show(0:Int)≤((qak c (k-1) c.length).length:Int);omega,by show((qak c (k-1) c.length).length:Int)≤32;omega⟩,⟨by show(0:Int)≤((qak c k c.length).length:Int);omega,by show((qak c k c.length).length:Int)≤32;omega⟩,?_,qdT F.hp⟩
 show((bdC c k p (qak c k c.length).length).length:Int)=((qak c (k-1) c.length).length:Int)*((qak c k c.length).length:Int)
 rw[qch,Int.natCast_mul]
theorem BdF.col{c:List Sim}{k p:Int}(F:BdF c k p){j:Nat}(hj:j<(qak c k c.length).length) :
  ∃ s:Nat,s<c.length∧(qak c k c.length)[j]=(s:Int)∧((qak c k c.length).getD j 0).toNat=s∧(qaG c s).length≤4 ∧
   ∀ i (hi:i<(qaG c s).length),∃ t f0:Nat,(qaG c s)[i]=(t:Int)∧(qaG c s).getD i 0=(t:Int)∧t<c.length∧f0≤t∧(qak c (k-1) c.length).getD 0 0=(f0:Int) ∧
    qhK (fun y=>pb (y=(t:Int))) (qak c (k-1) c.length)=((t-f0:Nat):Int)∧t-f0<(qak c (k-1) c.length).length:=by
 obtain⟨s,e,hs,hd⟩:=qbJ.1 (List.getElem_mem hj)
 refine⟨s,hs,e,by rw[qah hj,e];rfl,F.vc.fIdx4 hs,fun i hi=>?_⟩
 obtain⟨t,f0,e1,e2,e3,e4,e5,e6⟩:=qlA F.vc.srt (qnd F.vc hs hd (List.getElem_mem hi))
 refine⟨t,f0,e1,by rw[qah hi,e1],e2,e3,?_,by rw[← e1];exact e5,e6⟩
 rw[List.getD_eq_getElem?_getD,← List.head?_eq_getElem?,e4];rfl
theorem qeX(c:List Sim)(k p:Int)(F:BdF c k p):Ret E n_Z171 [dC (c,()),dI k,dI p] ⟨o_Z171,bdM c k p⟩:=by
 have hk:=F.hk
 have lu:=F.lu
 have ll:=F.ll
 have hHW:=qcZ ll lu
 refine qal ?_
 simp only[run_Z171,Z171.ev]
 rw[qad (n:=k-1) (by omega) (by omega)]
 refine qaa (qdW c k F.sc (by omega)) (qaa (qdW c (k-1) F.sc (by omega)) (qaa (qcc p _ _ ll lu) ?_))
 refine Ev.start (p:=fun φ n=>Z171.l0 (mkR (run E (φ 0))) (φ 0) n (c,()) k p (qak c k c.length) (qak c (k-1) c.length) 0 0 0 0 p ((qak c (k-1) c.length).length:Int) ((qak c k c.length).length:Int) (List.replicate ((qak c (k-1) c.length).length*(qak c k c.length).length) 0)=_) 1 ?_ (fun _ _ _ h=>h)
 by_cases hk0:k=0
 ·subst hk0
  have hz:=qnB (c:=c) (p:=p) (Nat.le_refl _)
  unfold bdM
  rw[hz]
  refine Ev.round 1 (L:=fun φ n=>Z171.l0 (mkR (run E (φ 0))) (φ 0) n (c,()) 0 p (qak c 0 c.length) (qak c (0-1) c.length) 0 0 0 0 p ((qak c (0-1) c.length).length:Int) ((qak c 0 c.length).length:Int) (List.replicate ((qak c (0-1) c.length).length*(qak c 0 c.length).length) 0)) ?_ (fun _ _ _=>rfl)
  simp only[Z171.l0_succ _ qag,Z171.j1_eq _ qag]
  refine qeu (fun _=>?_) fun _=>?_
  ·exact qaJ (by decide) qam
  ·exact qaJ rfl qam
 refine qaq 1 (L:=fun φ n j o=>Z171.l0 (mkR (run E (φ 0))) (φ 0) n (c,()) k p (qak c k c.length) (qak c (k-1) c.length) j 0 0 0 p ((qak c (k-1) c.length).length:Int) ((qak c k c.length).length:Int) o) (len:=(qak c k c.length).length) (fun j=>bdC c k p j) (fun _ _ _ _ _=>rfl) (fun j r hj ih=>?_) ?_
 ·obtain⟨s,hs,e1,e2,e4,e3⟩:=F.col hj
  rw[bdC,e2] at ih
  simp only[Z171.l0_succ _ qag,Z171.j1_eq _ qag]
  refine qaD (decide_eq_true (by omega)) (qaD (decide_eq_true (by omega)) (qaf (qap hj) ?_))
  rw[e1]
  refine qaa (qdy c s hs F.sc) ?_
  simp only
  refine Ev.start (p:=fun φ n=>Z171.l2 (mkR (run E (φ 0))) (φ 0) (φ 1) n (c,()) k p (qak c k c.length) (qak c (k-1) c.length) (j:Int) (qaG c s) 0 0 0 0 p ((qak c (k-1) c.length).length:Int) ((qak c k c.length).length:Int) (bdC c k p j)=_) 2 ?_ (fun _ _ _ h=>h)
  refine qaq 2 (L:=fun φ n i o=>Z171.l2 (mkR (run E (φ 0))) (φ 0) (φ 1) n (c,()) k p (qak c k c.length) (qak c (k-1) c.length) (j:Int) (qaG c s) i 0 0 0 p ((qak c (k-1) c.length).length:Int) ((qak c k c.length).length:Int) o) (len:=(qaG c s).length) (fun i=>bdJ c k p s j (bdC c k p j) i) (fun _ _ _ _ _=>rfl) (fun i q hi ihi=>?_) ?_
  ·obtain⟨t,f0,t1,t2,tc,t3,t4,t5,t6⟩:=e3 i hi
   rw[bdJ,t2,t4,show((t:Int)-(f0:Int)).toNat=t-f0 by omega] at ihi
   simp only[Z171.l2_succ _ qag]
   have h0':0<(qak c (k-1) c.length).length:=by omega
   have hget0:idx? (qak c (k-1) c.length) (0:Int)=some (f0:Int):=by
    have:(qak c (k-1) c.length)[0]=(f0:Int):=by rw[qah h0'] at t4;exact t4
    rw[← this];exact qap (k:=0) h0'
   have ql:t≤48:=Nat.le_trans (Nat.le_of_lt tc) F.vc.1
   have hlt:=qfj t6 hj
   have hm1:w64 ((t:Int)-(f0:Int))=((t-f0:Nat):Int):=by rw[qad (by omega) (by omega)];omega
   have hm2:w64 (((t-f0:Nat):Int)*((qak c k c.length).length:Int))=(((t-f0)*(qak c k c.length).length:Nat):Int):=by
    rw[qa3,qad (by omega) (by omega)]
   have hm3:w64 ((((t-f0)*(qak c k c.length).length:Nat):Int)+(j:Int))=(((t-f0)*(qak c k c.length).length+j:Nat):Int):=by
    rw[qad (by omega) (by omega)];omega
   refine qaD (decide_eq_true (by omega)) (qaf (qap hi) (qaf hget0 ?_))
   rw[t1,qae (k:=i) (by omega)]
   refine qaa (qmY p i F.hp) ?_
   simp only
   rw[hm1,hm2,hm3,Int.toNat_natCast]
   exact qar (by rw[qe6,qch];simp;omega) ihi
  ·simp only[Z171.l2_succ _ qag]
   rw[qae (k:=j) (by omega)]
   exact qaJ (decide_eq_false (by omega)) ih
 ·simp only[Z171.l0_succ _ qag,Z171.j1_eq _ qag]
  exact qaJ (decide_eq_false (by omega)) (qaJ rfl qam)
def Sm3(c:List Sim)(k:Int):Prop:=∀ t:Nat,0≤t→t<3→(qak c (k-1+t) c.length).length≤32
open Classical in
noncomputable def HC(c:List Sim)(k p:Int):Int:=if VC c∧Pr p then(if 0≤k∧k≤3 then(if Sm3 c k then 0 else 5) else 2) else 1
theorem qrX{c:List Sim}{k p:Int}(h:HC c k p=0):(VC c∧Pr p)∧(0≤k∧k≤3)∧Sm3 c k:=by
 unfold HC at h
 by_cases h1:VC c∧Pr p
 ·rw[if_pos h1] at h
  by_cases h2:0≤k∧k≤3
  ·rw[if_pos h2] at h
   by_cases h3:Sm3 c k
   ·exact⟨h1,h2,h3⟩
   ·rw[if_neg h3] at h;exact absurd h (by decide)
  ·rw[if_neg h2] at h;exact absurd h (by decide)
 ·rw[if_neg h1] at h;exact absurd h (by decide)
theorem qth{c:List Sim}{k p:Int}(sc:Sm (.sl (.sl (.int .i64))) c)(h:HC c k p=0):BdF c k p∧BdF c (k+1) p:=by
 obtain⟨⟨h1,h2⟩,h3,h4⟩:=qrX h
 have a:=h4 0 (by omega) (by omega)
 have b:=h4 1 (by omega) (by omega)
 have d:=h4 2 (by omega) (by omega)
 rw[show k-1+((0:Nat):Int)=k-1 by omega] at a
 rw[show k-1+((1:Nat):Int)=k by omega] at b
 rw[show k-1+((2:Nat):Int)=k+1 by omega] at d
 exact⟨⟨sc,h1,h2,by omega,b,a⟩,⟨sc,h1,h2,by omega,d,by rw[show k+1-1=k by omega];exact b⟩⟩
open Classical in
theorem qnV(c:Cpx)(k p:Int)(sc:Sm (.sl (.sl (.int .i64))) c.1):Ret E n_Z169 [dC c,dI k,dI p] ⟨o_Z169,(HC c.1 k p,())⟩:=by
 obtain⟨c,⟨⟩⟩:=c
 have sc:Sm (.sl (.sl (.int .i64))) c:=sc
 refine qal ?_
 simp only[run_Z169,Z169.ev]
 unfold HC
 refine qaa (qi5 (c,()) sc) ?_
 by_cases h1:VC c
 ·refine qaJ (by rw[qaI h1];rfl) (qaa (qbS p) ?_)
  simp only[Z169.j0_eq _ qag]
  by_cases h2:Pr p
  ·rw[if_pos ⟨h1,h2⟩]
   refine qaJ (by rw[qaI h2];rfl) (qaa (qem k) ?_)
   by_cases h3:0≤k∧k≤3
   ·rw[if_pos h3]
    refine qaJ (by rw[qaI h3];rfl) (qaa (qdW c k sc (by omega)) ?_)
    rw[qad (n:=k-1) (by omega) (by omega),qad (n:=k+1) (by omega) (by omega)]
    have hs:Sm3 c k↔(qak c k c.length).length≤32∧(qak c (k-1) c.length).length≤32∧(qak c (k+1) c.length).length≤32:=by
     unfold Sm3
     constructor
     ·intro h
      have a:=h 0 (by omega) (by omega)
      have b:=h 1 (by omega) (by omega)
      have d:=h 2 (by omega) (by omega)
      rw[show k-1+((0:Nat):Int)=k-1 by omega] at a
      rw[show k-1+((1:Nat):Int)=k by omega] at b
      rw[show k-1+((2:Nat):Int)=k+1 by omega] at d
      exact⟨b,a,d⟩
     ·rintro⟨b,a,d⟩ t _ ht
      rcases(show t=0∨t=1∨t=2 by omega) with rfl | rfl | rfl
      ·rw[show k-1+((0:Nat):Int)=k-1 by omega];exact a
      ·rw[show k-1+((1:Nat):Int)=k by omega];exact b
      ·rw[show k-1+((2:Nat):Int)=k+1 by omega];exact d
    have bad:¬ Sm3 c k→Ev fun φ=>Z169.j1 (mkR (run E (φ 0))) (φ 0) true=some ⟨o_Z169,((if Sm3 c k then 0 else 5),())⟩:=fun h=>by
     rw[if_neg h]
     simp only[Z169.j1_eq _ qag]
     exact qaD rfl qam
    by_cases a1:(qak c k c.length).length≤32
    ·refine qaJ (decide_eq_false (by first | omega | (simp only;omega))) (qaa (qdW c (k-1) sc (by omega)) ?_)
     by_cases a2:(qak c (k-1) c.length).length≤32
     ·refine qaJ (decide_eq_false (by first | omega | (simp only;omega))) (qaa (qdW c (k+1) sc (by omega)) ?_)
      by_cases a3:(qak c (k+1) c.length).length≤32
      ·rw[if_pos (hs.2 ⟨a1,a2,a3⟩)]
       simp only[Z169.j1_eq _ qag]
       exact qaJ (decide_eq_false (by first | omega | (simp only;omega))) qam
      ·rw[if_neg fun h=>a3 (hs.1 h).2.2]
       simp only[Z169.j1_eq _ qag]
       exact qaD (decide_eq_true (by first | omega | (simp only;omega))) qam
     ·exact qaD (decide_eq_true (by first | omega | (simp only;omega))) (bad fun h=>a2 (hs.1 h).2.1)
    ·exact qaD (decide_eq_true (by first | omega | (simp only;omega))) (bad fun h=>a1 (hs.1 h).1)
   ·rw[if_neg h3]
    exact qaD (by rw[qaw h3];rfl) qam
  ·rw[if_neg fun h=>h2 h.2]
   exact qaD (by rw[qaw h2];rfl) qam
 ·rw[if_neg fun h=>h1 h.1]
  refine qaD (by rw[qaw h1];rfl) ?_
  simp only[Z169.j0_eq _ qag]
  exact qaD rfl qam
end VeT
open Go Go.Proofs Ve
namespace VeT
end VeT
open Go Go.Proofs Ve
namespace VeT
noncomputable def qb8(x:Shf)(k:Int):List Sim×Int×Unit:=if GC x k=0 then(qe2 x k,0,()) else([],GC x k,())
theorem qd7(x:Shf)(k:Int)(hx:Sm (.st cS) x):Ret E n_Z7 [dLL x.1,dI x.2.1,dL x.2.2.1,dMs x.2.2.2.1,dI k] ⟨o_Z7,qb8 x k⟩:=by
 refine qal ?_
 simp only[run_Z7,Z7.ev]
 unfold qb8
 refine qaa (qgF x k hx) ?_
 by_cases h:GC x k=0
 ·obtain⟨h1,h2⟩:=qgK.1 h
  rw[if_pos h]
  exact qaJ (by simp[h]) (qaa (qlH x k hx h2 h1.1) qam)
 ·rw[if_neg h]
  exact qaD (by simpa using h) qam
end VeT
open Go Go.Proofs Ve
namespace VeT
def qpy(p:Int)(R W:Nat)(A:Ent)(x:Nat→Int):Prop:=∀ i,i<R→qaM x (A i) W%p=0
theorem qmw{p:Int}{W:Nat}{pv:List Nat}{F:Ent}:∀ {n:Nat} {x:Sim},x∈qht p W pv F n→∃ c,c<n∧c∉pv∧x=qk1 p W pv F c pv.length
 | 0,x,h=>by simp[qht] at h
 | n+1,x,h=>by
  rw[qht,List.mem_append] at h
  rcases h with h | h
  ·obtain⟨c,h1,h2⟩:=qmw h;exact⟨c,by omega,h2⟩
  ·by_cases e:n∈pv
   ·rw[if_pos e] at h;simp at h
   ·rw[if_neg e,List.mem_singleton] at h;exact⟨n,by omega,e,h⟩
theorem qnt{p:Int}{R W c:Nat}{pv:List Nat}{F:Ent}(hrf:Rf R W F pv)(hc:c<W)(hcp:c∉pv):∀ n,n≤pv.length→∀ m,n≤m→m<pv.length→(qk1 p W pv F c n).getD (pv.getD m 0) 0=0
 | 0,_,m,_,hm=>by
  show((List.replicate W (0:Int)).set c 1).getD (pv.getD m 0) 0=_
  rw[qcP (by simpa using hc),if_neg fun e=>hcp (by rw[← e];exact qe8 hm),List.getD_eq_getElem?_getD,List.getElem?_replicate]
  split<;>rfl
 | n+1,hn,m,h1,hm=>by
  have hq:=hrf.lt n (by omega)
  have:=hrf.mono n m (by omega) hm
  rw[qeW,qcP (by rw[qca];exact hq),if_neg (by omega)]
  exact qnt hrf hc hcp n (by omega) m (by omega) hm
theorem qno{p:Int}{R W c i:Nat}{pv:List Nat}{F:Ent}(hrf:Rf R W F pv)(hc:c<W)(hcp:c∉pv)(hi:i<R):∀ n,n≤pv.length →
  qaM (fun j=>(qk1 p W pv F c n).getD j 0) (F i) W%p=(F i c+if i<n then 0-F i c else 0)%p
 | 0,_=>by
  rw[if_neg (by omega),Int.add_zero]
  congr 1
  rw[qaz (d:=fun j=>if j=c then 1 else 0) (h:=F i) fun j hj=>⟨by
   show((List.replicate W (0:Int)).set c 1).getD j 0=_
   rw[qcP (by simpa using hc),List.getD_eq_getElem?_getD,List.getElem?_replicate,if_pos hj];rfl,rfl⟩,qcJ hc]
 | n+1,hn=>by
  have hq:=hrf.lt n (by omega)
  have hn':n<pv.length:=by omega
  rw[qaz (d:=fun j=>if j=pv.getD n 0 then(0-F n c)%p else(qk1 p W pv F c n).getD j 0) (h:=F i) fun j hj=>⟨by
   rw[qeW,qcP (by rw[qca];exact hq)],rfl⟩,qkA hq,qnt hrf hc hcp n (by omega) n (Nat.le_refl _) hn',hrf.one i n hi hn',Int.add_emod,qno hrf hc hcp hi n (by omega),← Int.add_emod,Int.sub_zero]
  by_cases e:i=n
  ·subst e
   rw[if_neg (by omega),if_pos (by omega),if_pos (show i<i+1 by omega),Int.mul_one,Int.add_zero,Int.add_emod_emod]
  ·rw[if_neg e,Int.mul_zero,Int.add_zero]
   by_cases h:i<n
   ·rw[if_pos h,if_pos (by omega)]
   ·rw[if_neg h,if_neg (by omega)]
theorem qq7{p:Int}{R W c:Nat}{pv:List Nat}{F:Ent}(hrf:Rf R W F pv)(hc:c<W)(hcp:c∉pv):qpy p R W F fun j=>(qk1 p W pv F c pv.length).getD j 0:=fun i hi=>by
 rw[qno hrf hc hcp hi pv.length (Nat.le_refl _)]
 by_cases h:i<pv.length
 ·rw[if_pos h,show F i c+(0-F i c)=0 by omega,Int.zero_emod]
 ·rw[if_neg h,hrf.bot i c (by omega) hi hc];simp
theorem qqg{p:Int}{R W:Nat}{cells:Sim}(hp:Pr p)(hl:cells.length=R*W)(he:qaE cells p){x:Sim}(hx:x∈qlZ p R W cells):qpy p R W (qbp cells W) fun j=>x.getD j 0:=fun i hi=>by
 obtain⟨hrf,heq⟩:=qen hp (qbo he hl) W (Nat.le_refl _)
 obtain⟨c,h1,h2,rfl⟩:=qmw hx
 exact Spn.orth (qq7 hrf h1 h2) (heq.2 i hi)
theorem qr7{p:Int}{R W:Nat}{cells:Sim}(hp:Pr p)(hl:cells.length=R*W)(he:qaE cells p){x:Sim}(hx:x∈qlZ p R W cells):∃ j,j<x.length∧x.getD j 0=1:=by
 obtain⟨hrf,heq⟩:=qen hp (qbo he hl) W (Nat.le_refl _)
 obtain⟨c,h1,h2,rfl⟩:=qmw hx
 refine⟨c,by rw[qca];exact h1,?_⟩
 rw[qe1 hrf h1 h2 h1 _ (Nat.le_refl _),if_pos rfl]
end VeT
open Go Go.Proofs Ve
namespace VeT
noncomputable def qq6(x:Shf)(k:Int)(v:Sim):Option Sim:=qqs x.2.1 (SD x.1 x.2.2.1 k).toNat (SD x.1 x.2.2.1 (k-1)).toNat (qcR x (k-1)).2.2.2.1 v
theorem qqd{x:Shf}(k:Int)(v:Sim)(hs:VS x.1 x.2.1 x.2.2.1 x.2.2.2.1)(hv:qmm x k v) :
  Ret E n_Z86 [dI (qcR x (k-1)).1,dI (qcR x (k-1)).2.1,dI (qcR x (k-1)).2.2.1,dL (qcR x (k-1)).2.2.2.1,dL v] ⟨o_Z86,qsS (qq6 x k v)⟩:=by
 obtain⟨H,eH,bH,tH⟩:=qc5 hs k
 obtain⟨W,eW,bW,tW⟩:=qc5 hs (k-1)
 have hp:2≤x.2.1∧x.2.1≤251:=⟨hs.2.1.1,hs.2.1.2.1⟩
 have hRC:=qcZ bH bW
 have hRW:H*(W+1)=H*W+H:=Nat.mul_succ _ _
 have hl:(qcR x (k-1)).2.2.2.1.length=H*W:=by show(qet _ _ _ _ (k-1)).length=_;rw[qa4,tW,show k-1+1=k by omega,tH]
 have he:qaE (qcR x (k-1)).2.2.2.1 x.2.1:=qbh hs (k-1)
 have hM:qcR x (k-1)=(x.2.1,(H:Int),(W:Int),(qcR x (k-1)).2.2.2.1,()):=by
  show(_,SD x.1 x.2.2.1 (k-1+1),SD x.1 x.2.2.1 (k-1),_,_)=_
  rw[show k-1+1=k by omega,eH,eW];rfl
 have hvl:v.length=H:=by have:=hv.2;omega
 have k1:=qoK x.2.1 H W (qcR x (k-1)).2.2.2.1 v hp (by omega) (by omega) (by omega) hl he hvl hv.1
 have eK:qq6 x k v=qqs x.2.1 H W (qcR x (k-1)).2.2.2.1 v:=by unfold qq6;rw[tH,tW]
 rw[eK]
 have e1:(qcR x (k-1)).2.1=(H:Int):=by rw[hM]
 have e2:(qcR x (k-1)).2.2.1=(W:Int):=by rw[hM]
 rw[e1,e2]
 exact k1
theorem qka(x:Shf)(k:Int)(v:Sim)(hx:Sm (.st cS) x)(hk:0≤k∧k≤3)(hs:VS x.1 x.2.1 x.2.2.1 x.2.2.2.1)(hv:qmm x k v) :
  Ret E n_Z76 [dLL x.1,dI x.2.1,dL x.2.2.1,dMs x.2.2.2.1,dI k,dL v] ⟨o_Z76,qsS (qq6 x k v)⟩:=by
 refine qal ?_
 simp only[run_Z76,Z76.ev,qad (n:=k-1) (by omega) (by omega)]
 exact qaa (qaY x.1 x.2.1 x.2.2.1 x.2.2.2.1 (k-1) (by omega) hx.1 hs) (qaa (qqd k v hs hv) qam)
noncomputable def qbV(x:Shf)(k:Int)(v:Sim):Sim×Int×Unit:=if CC x k v=0 then(match qq6 x k v with | some y=>(y,0,()) | none=>([],3,())) else([],CC x k v,())
theorem qfJ(x:Shf)(k:Int)(v:Sim)(hx:Sm (.st cS) x)(hv:Sm (.sl (.int .i64)) v):Ret E n_Z16 [dLL x.1,dI x.2.1,dL x.2.2.1,dMs x.2.2.2.1,dI k,dL v] ⟨o_Z16,qbV x k v⟩:=by
 refine qal ?_
 simp only[run_Z16,Z16.ev]
 refine qaa (qde x k v hx hv) (qcj (fun h=>qai ?_) fun h=>?_)
 ·have h:¬ CC x k v=0:=by simpa using h
  rw[qbV,if_neg h]
 ·have h:CC x k v=0:=by simpa using h
  have hh:=qeE.1 h
  rw[qbV,if_pos h]
  refine qaa (qka x k v hx hh.1.2 hh.1.1.1 hh.2) ?_
  cases qq6 x k v with
  | none=>exact qaD rfl qam
  | some y=>exact qaJ rfl qam
noncomputable def qd1(x:Shf)(k:Int)(v:Sim):Bool×Unit:=((qbV x k v).2.1==0,())
theorem qfm(x:Shf)(k:Int)(v:Sim)(hx:Sm (.st cS) x)(hv:Sm (.sl (.int .i64)) v):Ret E n_Z11 [dLL x.1,dI x.2.1,dL x.2.2.1,dMs x.2.2.2.1,dI k,dL v] ⟨o_Z11,qd1 x k v⟩:=by
 refine qal ?_
 simp only[run_Z11,Z11.ev]
 exact qaa (qfJ x k v hx hv) qam
end VeT
open Go Go.Proofs Ve
namespace VeT
noncomputable abbrev qmn(x:Shf)(k:Int):Ent:=qbp (qcR x k).2.2.2.1 (SD x.1 x.2.2.1 k).toNat
theorem qgb{x:Shf}{k:Int}{v:Sim}{r:Nat}(hr:r<(SD x.1 x.2.2.1 (k+1)).toNat):(qes x k v).getD r 0=qaM (qmn x k r) (fun g=>v.getD g 0) (SD x.1 x.2.2.1 k).toNat%x.2.1:=qo9 (m:=qcR x k) hr
theorem qgz{x:Shf}{k:Int}{v:Sim}:(qes x k v).length=(SD x.1 x.2.2.1 (k+1)).toNat:=by unfold qes;exact qfA
theorem qrH{x:Shf}(h:VS x.1 x.2.1 x.2.2.1 x.2.2.2.1)(k:Int):0≤SD x.1 x.2.2.1 k:=by
 obtain⟨n,e,_⟩:=qc5 h k
 omega
theorem qlG{x:Shf}{k:Int}{v:Sim}(h:VS x.1 x.2.1 x.2.2.1 x.2.2.2.1):qmm x (k+1) (qes x k v) :=
 ⟨qoe (m:=qcR x k) h.2.1.1,by rw[qgz];have:=qrH h (k+1);omega⟩
theorem qru{x:Shf}{k:Int}{v:Sim}:Zs (qes x k v)↔qpy x.2.1 (SD x.1 x.2.2.1 (k+1)).toNat (SD x.1 x.2.2.1 k).toNat (qmn x k) fun g=>v.getD g 0:=by
 constructor
 ·intro h i hi
  have:=h ((qes x k v).getD i 0) (by rw[qah (by rw[qgz];exact hi)];exact List.getElem_mem _)
  rw[qgb hi,qaK] at this
  exact this
 ·intro h y hy
  obtain⟨r,hr,rfl⟩:=List.getElem_of_mem hy
  have hr':=hr
  rw[qgz] at hr'
  rw[← qah hr,qgb hr',qaK]
  exact h r hr'
theorem qpy.add{p:Int}{R W:Nat}{A:Ent}{x y:Nat→Int}(hx:qpy p R W A x)(hy:qpy p R W A y):qpy p R W A fun j=>x j+y j:=fun i hi=>by
 rw[qkI,Int.add_emod,hx i hi,hy i hi];simp
theorem qpy.congr{p:Int}{R W:Nat}{A:Ent}{x y:Nat→Int}(h:∀ j,j<W→x j%p=y j%p)(hx:qpy p R W A x):qpy p R W A y:=fun i hi=>by
 rw[← hx i hi,qaK,qaK (c:=x)]
 exact(qco fun j hj=>h j hj).symm
theorem qrV{x:Shf}{k:Int}{y:Sim}(hs:ISh x)(hk:1≤k):qpy x.2.1 (SD x.1 x.2.2.1 (k+1)).toNat (SD x.1 x.2.2.1 k).toNat (qmn x k) fun g=>(qes x (k-1) y).getD g 0:=fun r hr=>by
 have e:qaM (fun g=>(qes x (k-1) y).getD g 0) (qmn x k r) (SD x.1 x.2.2.1 k).toNat%x.2.1=qaM (qmn x k r) (fun a=>qaM (qmn x (k-1) a) (fun g=>y.getD g 0) (SD x.1 x.2.2.1 (k-1)).toNat) (SD x.1 x.2.2.1 k).toNat%x.2.1:=by
  rw[qaK]
  exact qco fun a ha=>by
   rw[qgb (by rw[show k-1+1=k by omega];exact ha),Int.emod_emod_of_dvd _ (Int.dvd_refl _)]
 rw[e]
 have s:=qf9 (y:=fun g=>y.getD g 0) (c:=qmn x k r) (A:=qmn x (k-1)) (W:=(SD x.1 x.2.2.1 (k-1)).toNat) (R:=(SD x.1 x.2.2.1 k).toNat)
 have e2:qaM (qmn x k r) (fun a=>qaM (qmn x (k-1) a) (fun g=>y.getD g 0) (SD x.1 x.2.2.1 (k-1)).toNat) (SD x.1 x.2.2.1 k).toNat=qaM (qmn x k r) (fun a=>qaM (fun g=>y.getD g 0) (qmn x (k-1) a) (SD x.1 x.2.2.1 (k-1)).toNat) (SD x.1 x.2.2.1 k).toNat :=
  qaz fun a ha=>⟨rfl,qaK⟩
 rw[e2,← s]
 refine(qco (h:=fun _=>0) fun g hg=>?_).trans (by rw[qc1];simp)
 have:=qpu hs.1 hs.2 hk hr hg
 rw[qaK] at this
 rw[Int.zero_emod]
 exact this
theorem qsz{x:Shf}{k:Int}{y:Sim}(hs:ISh x)(hk:1≤k):Zs (qes x k (qes x (k-1) y)):=qru.2 (qrV hs hk)
theorem qrx{x:Shf}{k:Int}{v:Sim}(hs:VS x.1 x.2.1 x.2.2.1 x.2.2.2.1)(hv:qmm x k v):(qq6 x k v≠none↔InR x.2.1 (SD x.1 x.2.2.1 k).toNat (qo3 x k) v) ∧
  ∀ y,qq6 x k v=some y→qmm x (k-1) y∧qes x (k-1) y=v:=by
 have hl:(qcR x (k-1)).2.2.2.1.length=(SD x.1 x.2.2.1 k).toNat*(SD x.1 x.2.2.1 (k-1)).toNat:=by
  show(qet _ _ _ _ (k-1)).length=_;rw[qa4,show k-1+1=k by omega]
 have he:qaE (qcR x (k-1)).2.2.2.1 x.2.1:=qbh hs (k-1)
 have hvl:v.length=(SD x.1 x.2.2.1 k).toNat:=by have:=hv.2;omega
 obtain⟨hc1,hc2,hc3⟩:=qff hl he
 obtain⟨i1,i2⟩:=qqm hs.2.1 hl he hvl hv.1
 have hslv:=hc1.slv (v:=v)
 rw[hc2] at hslv
 refine⟨i1.trans hslv,fun y hy=>?_⟩
 obtain⟨y1,y2⟩:=qon hs.2.1 hl he hvl hv.1 hy
 refine⟨⟨y2,by have:=qrH hs (k-1);omega⟩,?_⟩
 refine qny (by rw[qgz,hvl,show k-1+1=k by omega]) fun i hi=>?_
 rw[qgz] at hi
 have hi':i<(SD x.1 x.2.2.1 k).toNat:=by rw[show k-1+1=k by omega] at hi;exact hi
 rw[qgb hi,qaK]
 refine(i2 y hy i hi').trans ?_
 rw[qah (by omega)]
 have:=hv.1 _ (List.getElem_mem (show i<v.length by omega))
 have:=hs.2.1.1
 exact Int.emod_eq_of_lt (by omega) (by omega)
theorem qsw{x:Shf}{k:Int}{y:Sim}(hs:VS x.1 x.2.1 x.2.2.1 x.2.2.2.1):InR x.2.1 (SD x.1 x.2.2.1 k).toNat (qo3 x k) (qes x (k-1) y):=by
 have hl:(qcR x (k-1)).2.2.2.1.length=(SD x.1 x.2.2.1 k).toNat*(SD x.1 x.2.2.1 (k-1)).toNat:=by
  show(qet _ _ _ _ (k-1)).length=_;rw[qa4,show k-1+1=k by omega]
 obtain⟨hc1,hc2,hc3⟩:=qff hl (qbh hs (k-1))
 have hslv:=hc1.slv (v:=qes x (k-1) y)
 rw[hc2] at hslv
 refine hslv.1 ⟨fun g=>y.getD g 0,fun i hi=>?_⟩
 show _=(qes x (k-1) y).getD i 0%x.2.1
 rw[qgb (by rw[show k-1+1=k by omega];exact hi),Int.emod_emod_of_dvd _ (Int.dvd_refl _),qaK]
theorem qql{x:Shf}{k:Int}{y:Sim}(hs:ISh x)(hk:1≤k∧k≤3):∃ b,qbV x k (qes x (k-1) y)=(b,0,())∧qmm x (k-1) b∧qbC x (k-1) b=(qes x (k-1) y,0,()):=by
 have hc:=qlG (k:=k-1) (v:=y) hs.1
 rw[show k-1+1=k by omega] at hc
 obtain⟨i1,i2⟩:=qrx hs.1 hc
 cases e:qq6 x k (qes x (k-1) y) with
 | none=>exact absurd e (i1.2 (qsw hs.1))
 | some b =>
  obtain⟨b1,b2⟩:=i2 b e
  refine⟨b,?_,b1,?_⟩
  ·unfold qbV
   rw[if_pos (qeE.2 ⟨⟨hs,by omega,hk.2⟩,hc⟩),e]
  ·unfold qbC
   rw[if_pos (qeE.2 ⟨⟨hs,by omega,by omega⟩,b1⟩),b2]
end VeT
open Go Go.Proofs Ve
namespace VeT
theorem qof(a b:List Int):qjM n_Z100 [dB a,dB b] o_Z100 fun _=>True:=by
 refine qb5 ?_
 simp only[run_Z100,Z100.ev]
 exact qcU (fun _=>qaX trivial) fun _=>qaX trivial
theorem qqC(c:List Int)(k n:Int)(hc:∀ b∈c,0≤b∧b≤255)(hk:0≤k):qjM n_Z99 [dB c,dI k,dI n] o_Z99 fun(r:Int×Unit)=>0≤r.1∧(r.1<n∨r.1=0)∧r.1≤255:=by
 have jt:EvQ (fun φ=>Z99.j0 (mkR (run E (φ 0))) (φ 0) c k n true) o_Z99 fun(r:Int×Unit)=>0≤r.1∧(r.1<n∨r.1=0)∧r.1≤255:=by
  simp only[Z99.j0_eq _ qag]
  exact qqo rfl (qaX ⟨Int.le_refl _,.inr rfl,(by show(0:Int)≤255;omega)⟩)
 refine qb5 ?_
 simp only[run_Z99,Z99.ev]
 refine qcU (fun _=>jt) fun hn=>?_
 by_cases hl:k≥(c.length:Int)
 ·have:decide (k≥(c.length:Int))=true:=decide_eq_true hl
  rw[← this] at jt;exact jt
 ·rw[decide_eq_false hl]
  simp only[Z99.j0_eq _ qag]
  obtain⟨j,rfl⟩:=Int.eq_ofNat_of_zero_le hk
  have hj:j<c.length:=by omega
  obtain⟨h1,h2⟩:=hc _ (List.getElem_mem hj)
  refine qfl rfl (qbF (qap hj) (qbb (by simp;omega) (qaX ?_)))
  have e:w64 c[j]=c[j]:=qad (by omega) (by omega)
  show 0≤Int.tmod (w64 c[j]) n∧_
  have hn:1<n:=by omega
  have h3:=Int.emod_nonneg c[j] (show n≠0 by omega)
  have h4:=Int.emod_lt_of_pos c[j] (show 0<n by omega)
  have h5:c[j]%n≤c[j]:=by
   have h6:=Int.mul_ediv_add_emod c[j] n
   have h7:0≤n*(c[j] / n):=Int.mul_nonneg (by omega) (Int.ediv_nonneg h1 (by omega))
   generalize n*(c[j] / n)=y at h6 h7
   omega
  rw[e,Int.tmod_eq_emod_of_nonneg h1]
  exact⟨h3,.inl h4,by omega⟩
theorem qq1{c:List Int}(h:Wf (.sl (.int .u8)) c):∀ b∈c,0≤b∧b≤255:=(qrQ h).1
theorem qn5(a b:Sim)(hl:a.length≤1048576):Ret E n_Z101 [dL a,dL b] ⟨o_Z101,(pb (a=b),())⟩:=by
 refine qal ?_
 simp only[run_Z101,Z101.ev]
 by_cases he:a.length=b.length
 ·refine qaJ (by simp[he]) ?_
  refine Ev.start (p:=fun φ m=>Z101.l0 (mkR (run E (φ 0))) (φ 0) m a b 0=_) 1 ?_ (fun _ _ _ h=>h)
  have e:pb (a=b)=pb (∀ j,0≤j→j<a.length→a.getD j 0=b.getD j 0):=qaS ⟨fun h j _ _=>by rw[h],fun h=>qny he fun i hi=>h i (by omega) hi⟩
  rw[e]
  refine qeo 1 (L:=fun φ m k=>Z101.l0 (mkR (run E (φ 0))) (φ 0) m a b k) (len:=a.length) 0 (by omega) (fun j=>a.getD j 0=b.getD j 0) (fun b=>some ⟨o_Z101,(b,())⟩) (fun _ _ _ _=>rfl) (fun k h1 h2 hP _=>?_) (fun k r h1 h2 hP _ ih=>?_) (fun _=>?_)
  ·simp only[Z101.l0_succ _ qag]
   have h3:k<b.length:=by omega
   rw[qah h2,qah h3] at hP
   exact qaD (decide_eq_true (by omega)) (qaf (qap h2) (qaf (qap h3) (qaD (by simpa using hP) qam)))
  ·simp only[Z101.l0_succ _ qag]
   have h3:k<b.length:=by omega
   rw[qah h2,qah h3] at hP
   refine qaD (decide_eq_true (by omega)) (qaf (qap h2) (qaf (qap h3) (qaJ (by simpa using hP) ?_)))
   rw[qae (by omega)];exact ih
  ·simp only[Z101.l0_succ _ qag]
   exact qaJ (decide_eq_false (by omega)) qam
 ·rw[qaw fun e=>he (by rw[e])]
  exact qaD (by simp;omega) qam
theorem qmW(x:List Int)(h:Wf (.sl (.int .u8)) x):qjM n_Z132 [dB x] o_Z132 fun(r:List Sim×Int×Sim×List Mat×Unit)=>ISh r∧S5 r.1:=by
 refine qb5 ?_
 simp only[run_Z132,Z132.ev]
 refine qaH (qhY x) ?_
 exact qbL (qn8 0 (x,0,0,()) (by omega) (qrQ h)) fun(r:Drw) ⟨b1,b2,b3⟩=>qaX ⟨b1,b2⟩
theorem qnW(x:List Int)(h:Wf (.sl (.int .u8)) x)(W:Nat)(p:Int)(hW:W≤1000)(hp:2≤p∧p≤251):qjM n_Z131 [dB x,dI (W:Int),dI p] o_Z131 fun(r:Sim×Unit)=>r.1.length=W∧qaE r.1 p:=by
 refine qb5 ?_
 simp only[run_Z131,Z131.ev]
 refine qaH (qhY x) ?_
 refine EvQ.start 1 (L:=fun φ N=>Z131.l0 (mkR (run E (φ 0))) (φ 0) N (W:Int) p 0 [] x 0 0) ?_ (fun _ _ _=>rfl)
 refine EvQ.loop 1 (σ:=Nat×Sim×Src) (L:=fun φ N st=>Z131.l0 (mkR (run E (φ 0))) (φ 0) N (W:Int) p (st.1:Int) st.2.1 st.2.2.1 st.2.2.2.1 st.2.2.2.2.1) (fun _ _ _ _=>rfl)
  (fun st=>st.1≤W∧st.2.1.length=st.1∧qaE st.2.1 p∧SO (2*st.1) st.2.2) (fun st=>W-st.1) (fun st hi ih=>?_) (0,[],(x,0,0,())) ⟨Nat.zero_le _,rfl,fun y hy=>by simp at hy,qrQ h⟩
 obtain⟨k,o,s2⟩:=st
 obtain⟨i1,i2,i3,i4⟩:=hi
 simp only at i1 i2 i3 i4 ih ⊢
 simp only[Z131.l0_succ _ qag]
 refine qcU (fun h=>?_) fun h=>?_
 ·refine qbL (qbl _ s2 p (by omega) i4) fun(r:Int×Src×Unit) ⟨r1,r2,r3,r4⟩=>?_
  refine qbb (decide_eq_true (by simp;omega)) ?_
  rw[qae (by omega)]
  refine ih (k+1,o++[r.1],r.2.1) ⟨by show k+1≤W;omega,by simp[i2],fun y hy=>?_,r4.le (by show 2*k+2≤2*(k+1);omega)⟩ (by show W-(k+1)<W-k;omega)
  rcases List.mem_append.1 hy with hy | hy
  ·exact i3 y hy
  ·rw[List.mem_singleton] at hy;subst hy;omega
 ·have:k=W:=by omega
  subst this
  exact qaX ⟨i2,i3⟩
end VeT
open Go Go.Proofs Ve
namespace VeT
theorem qpY{x:Shf}(hs:VS x.1 x.2.1 x.2.2.1 x.2.2.2.1){k:Int}(hk:k<0):rkX x k=0:=by
 unfold rkX rkM
 rw[qfN hs.1 _ (.inl hk)]
 rfl
theorem qrT{x:Shf}(hs:VS x.1 x.2.1 x.2.2.1 x.2.2.2.1):rkX x 3=0:=by
 have h0:(SD x.1 x.2.2.1 (3+1)).toNat=0:=by rw[qfN hs.1 _ (.inr (by omega))];rfl
 have hl:(qcR x 3).2.2.2.1.length=(SD x.1 x.2.2.1 (3+1)).toNat*(SD x.1 x.2.2.1 3).toNat:=(show(qet x.1 x.2.1 x.2.2.1 x.2.2.2.1 3).length=_ from qa4)
 have h:=(qc7 hs.2.1.1 (qbo (qbh hs 3) hl) (SD x.1 x.2.2.1 3).toNat).2.1
 unfold rkX rkM
 have h:(elS x.2.1 (SD x.1 x.2.2.1 (3+1)).toNat (qbp (qcR x 3).2.2.2.1 (SD x.1 x.2.2.1 3).toNat) (SD x.1 x.2.2.1 3).toNat).2.length≤(SD x.1 x.2.2.1 (3+1)).toNat:=h
 omega
theorem qnS{x:Shf}(hs:ISh x):((qe2 x 0).length:Int)-((qe2 x 1).length:Int)+((qe2 x 2).length:Int)-((qe2 x 3).length:Int)=EuN x.1 x.2.2.1 x.1.length:=by
 rw[qdg hs (k:=0) (by omega),qdg hs (k:=1) (by omega),qdg hs (k:=2) (by omega),qdg hs (k:=3) (by omega),show(0:Int)-1=-1 by omega,show(1:Int)-1=0 by omega,show(2:Int)-1=1 by omega,show(3:Int)-1=2 by omega,
  qpY hs.1 (show(-1:Int)<0 by omega),qrT hs.1,qgr,qgr,qgr,qgr]
 unfold EuN
 omega
theorem qq2{x:Shf}{k:Int}{v:Sim}(hs:VS x.1 x.2.1 x.2.2.1 x.2.2.2.1)(hv:v∈qml x k):qmm x k v∧Zs (qes x k v)∧¬ Zs v:=by
 have h1:=(qhN (k:=k) hs).1 v hv
 refine⟨⟨h1.2,by have:=qrH hs k;omega⟩,qru.2 (qqg hs.2.1 qa4 (qbh hs k) hv),fun hz=>?_⟩
 obtain⟨j,hj,e⟩:=qr7 hs.2.1 (R:=(SD x.1 x.2.2.1 (k+1)).toNat) (W:=(SD x.1 x.2.2.1 k).toNat) (cells:=(qcR x k).2.2.2.1) (show(qet x.1 x.2.1 x.2.2.1 x.2.2.2.1 k).length=_ from qa4) (qbh hs k) hv
 rw[qah hj] at e
 have:=hz _ (List.getElem_mem hj)
 omega
end VeT
open Go Go.Proofs Ve
namespace VeT
theorem qsh{c:List Sim}(h:Srt c){d:Int}{f0 s:Nat}(hy:(qak c d c.length).head? = some (f0:Int))(hs:s<c.length)(hd:((c.getD s []).length:Int)=d+1):(qak c d s).length=s-f0∧f0≤s:=by
 have hym:(f0:Int)∈qak c d c.length:=List.mem_of_head? hy
 obtain⟨f,ef,hf,hfd⟩:=qbJ.1 hym
 obtain rfl:f=f0:=by omega
 obtain⟨tl2,hL2⟩:=qeQ hf hfd
 have hz:qak c d f=[]:=by
  cases hh:qak c d f with
  | nil=>rfl
  | cons z l =>
   have hz:z∈qak c d f:=by rw[hh];exact List.mem_cons_self
   obtain⟨i,rfl,hi⟩:=qdX hz
   rw[hL2,hh] at hy
   have:((i:Nat):Int)=f:=by simpa using hy
   omega
 have hfs:f≤s:=by
  refine Classical.byContradiction fun hn=>?_
  have:((s:Nat):Int)∈qak c d f:=qbJ.2 ⟨s,rfl,by omega,hd⟩
  rw[hz] at this;cases this
 have hlen:∀ t,f+t≤s→(qak c d (f+t)).length=t:=by
  intro t
  induction t with
  | zero=>intro _;rw[Nat.add_zero,hz];rfl
  | succ t ih =>
   intro ht
   have h1:=qhD h (show f≤f+t by omega) (by omega)
   have h2:=qhD h (show f+t≤s by omega) hs
   rw[← Nat.add_assoc,qbN,if_pos (by omega),List.length_append,ih (by omega)];rfl
 have:=hlen (s-f) (by omega)
 rw[show f+(s-f)=s by omega] at this
 exact⟨this,hfs⟩
noncomputable def qkZ(c:List Sim)(k:Int)(s i:Nat):Nat:=((qaG c s).getD i 0-(qak c (k-1) c.length).getD 0 0).toNat
theorem qmT{c:List Sim}(hv:VC c){k:Int}{s i:Nat}(hs:s<c.length)(hd:((c.getD s []).length:Int)=k+1)(hi:i<(qaG c s).length) :
  qkZ c k s i=(qak c (k-1) (fc c s i)).length∧qkZ c k s i<(qak c (k-1) c.length).length∧((c.getD (fc c s i) []).length:Int)=k∧fc c s i<c.length:=by
 obtain⟨_,g1,g2⟩:=qby hv hs hi
 obtain⟨t,f0,e1,e2,e3,e4,e5,e6⟩:=qlA hv.srt (qnd hv hs hd (List.getElem_mem hi))
 have ht:t=fc c s i:=by unfold fc;rw[qah hi,e1];rfl
 have hl:=qaF (c:=c) (k:=s)
 have h1:1<(c.getD s []).length:=Classical.byContradiction fun hn=>by rw[if_neg hn] at hl;omega
 rw[if_pos h1] at hl
 have hfl:((c.getD (fc c s i) []).length:Int)=k:=by rw[g2,List.length_eraseIdx_of_lt (by omega)];omega
 have hp:=(qsh hv.srt e4 g1 (by omega)).1
 have e0:(qak c (k-1) c.length).getD 0 0=(f0:Int):=by rw[List.getD_eq_getElem?_getD,← List.head?_eq_getElem?,e4];rfl
 have hb:qkZ c k s i=t-f0:=by
  unfold qkZ
  rw[qah hi,e1,e0];omega
 exact⟨by rw[hb,hp,ht],by rw[hb];exact e6,hfl,g1⟩
theorem qnw{a b j l C:Nat}(hj:j<C)(hl:l<C)(e:a*C+j=b*C+l):a=b∧j=l:=by
 rcases Nat.lt_trichotomy a b with h | h | h
 ·have:=Nat.mul_le_mul_right C (show a+1≤b from h)
  rw[Nat.succ_mul] at this;omega
 ·subst h;exact⟨rfl,by omega⟩
 ·have:=Nat.mul_le_mul_right C (show b+1≤a from h)
  rw[Nat.succ_mul] at this;omega
theorem qio{l:Sim}{i j:Nat}{v:Int}(h:i≠j):(l.set i v).getD j 0=l.getD j 0:=by
 rw[List.getD_eq_getElem?_getD,List.getElem?_set_ne h,← List.getD_eq_getElem?_getD]
theorem qhB{c:List Sim}{k p:Int}{s j r l:Nat}{cells:Sim}(hj:j<(qak c k c.length).length)(hl:l<(qak c k c.length).length):∀ {n:Nat},(∀ i,i<n→¬ (qkZ c k s i=r∧j=l))→(bdJ c k p s j cells n).getD (r*(qak c k c.length).length+l) 0=cells.getD (r*(qak c k c.length).length+l) 0
 | 0,_=>rfl
 | n+1,h=>by
  show((bdJ c k p s j cells n).set (qkZ c k s n*(qak c k c.length).length+j) (sgn p n)).getD _ 0=_
  rw[qio fun e=>h n (by omega) (qnw (a:=qkZ c k s n) hj hl e)]
  exact qhB hj hl fun i hi=>h i (by omega)
theorem qoO{c:List Sim}{k p:Int}{s j r i0:Nat}{cells:Sim}(hj:j<(qak c k c.length).length)(hlt:r*(qak c k c.length).length+j<cells.length)(hr:qkZ c k s i0=r):∀ {n:Nat},i0<n→(∀ i,i<n→qkZ c k s i=r→i=i0)→(bdJ c k p s j cells n).getD (r*(qak c k c.length).length+j) 0=sgn p i0
 | 0,h,_=>by omega
 | n+1,h,hinj=>by
  by_cases e:n=i0
  ·subst e
   unfold bdJ
   have e2:((qaG c s).getD n 0-(qak c (k-1) c.length).getD 0 0).toNat=r:=hr
   rw[e2,List.getD_eq_getElem?_getD,List.getElem?_set_self (by rw[qe6];exact hlt)];rfl
  ·show((bdJ c k p s j cells n).set (qkZ c k s n*(qak c k c.length).length+j) (sgn p n)).getD _ 0=_
   rw[qio fun e2=>e (hinj n (by omega) (qnw (a:=qkZ c k s n) hj hj e2).1)]
   exact qoO hj hlt hr (by omega) fun i hi=>hinj i (by omega)
theorem qnG{c:List Sim}{k p:Int}{r l:Nat}(hl:l<(qak c k c.length).length):∀ {n:Nat},n≤l→(bdC c k p n).getD (r*(qak c k c.length).length+l) 0=0
 | 0,_=>by
  unfold bdC
  rw[List.getD_eq_getElem?_getD,List.getElem?_replicate];split<;>rfl
 | n+1,h=>by
  unfold bdC
  rw[qhB (by omega) hl fun i _ hh=>by omega]
  exact qnG hl (by omega)
theorem qpZ{c:List Sim}{k p:Int}{r l:Nat}(hl:l<(qak c k c.length).length):∀ {n:Nat},l<n→n≤(qak c k c.length).length→(bdC c k p n).getD (r*(qak c k c.length).length+l) 0=(bdC c k p (l+1)).getD (r*(qak c k c.length).length+l) 0
 | 0,h,_=>by omega
 | n+1,h,hn=>by
  by_cases e:l=n
  ·subst e;rfl
  ·have:bdC c k p (n+1)=bdJ c k p ((qak c k c.length).getD n 0).toNat n (bdC c k p n) (qaG c ((qak c k c.length).getD n 0).toNat).length:=rfl
   rw[this,qhB (by omega) hl fun i _ hh=>by omega]
   exact qpZ hl (by omega) (by omega)
theorem qrk{c:List Sim}{k p:Int}{r l s:Nat}(hl:l<(qak c k c.length).length)(es:((qak c k c.length).getD l 0).toNat=s) :
  qbp (bdM c k p).2.2.2.1 (qak c k c.length).length r l=(bdJ c k p s l (bdC c k p l) (qaG c s).length).getD (r*(qak c k c.length).length+l) 0:=by
 show(bdC c k p (qak c k c.length).length).getD (r*(qak c k c.length).length+l) 0=_
 rw[qpZ hl hl (Nat.le_refl _)]
 have:bdC c k p (l+1)=bdJ c k p ((qak c k c.length).getD l 0).toNat l (bdC c k p l) (qaG c ((qak c k c.length).getD l 0).toNat).length:=rfl
 rw[this,es]
theorem qrZ{c:List Sim}{k p:Int}{r l s:Nat}(hl:l<(qak c k c.length).length)(es:((qak c k c.length).getD l 0).toNat=s)(h:∀ i,i<(qaG c s).length→qkZ c k s i≠r) :
  qbp (bdM c k p).2.2.2.1 (qak c k c.length).length r l=0:=by
 rw[qrk hl es,qhB hl hl fun i hi hh=>h i hi hh.1]
 exact qnG hl (Nat.le_refl _)
theorem qsF{c:List Sim}{k p:Int}{r l s i0:Nat}(hl:l<(qak c k c.length).length)(hr:r<(qak c (k-1) c.length).length)(es:((qak c k c.length).getD l 0).toNat=s)(hi0:i0<(qaG c s).length)(e:qkZ c k s i0=r)
  (hinj:∀ i,i<(qaG c s).length→qkZ c k s i=r→i=i0):qbp (bdM c k p).2.2.2.1 (qak c k c.length).length r l=sgn p i0:=by
 rw[qrk hl es]
 exact qoO hl (by rw[qch];exact qfj hr hl) e hi0 hinj
noncomputable abbrev qd3(c:List Sim)(p:Int):Shf:=(c,p,List.replicate c.length ((1:Nat):Int),List.replicate (qbB c c.length).length (qbe p 1),())
theorem qmO{c:List Sim}{d:Int}:∀ {n:Nat},n≤c.length→SDn c (List.replicate c.length ((1:Nat):Int)) d n=((qak c d n).length:Int)
 | 0,_=>by simp[SDn,qak]
 | n+1,h=>by
  rw[qe9,qbN,List.length_append,qmO (by omega),qcv (by omega)]
  split<;>simp
theorem qjq{c:List Sim}{d:Int}:SD c (List.replicate c.length ((1:Nat):Int)) d=((qak c d c.length).length:Int):=by rw[qgr,qmO (Nat.le_refl _)]
theorem qrb{c:List Sim}{s:Nat}{d:Int}(hs:s<c.length)(hd:((c.getD s []).length:Int)=d+1):FC c (List.replicate c.length ((1:Nat):Int)) s=((qak c d s).length:Int):=by
 unfold FC
 rw[qmO (by omega),show((c.getD s []).length:Int)-1=d by omega]
theorem qqG{c:List Sim}{d:Int}{s:Nat}(hs:s<c.length)(hd:((c.getD s []).length:Int)=d+1):(qak c d s).length<(qak c d c.length).length∧((qak c d c.length).getD (qak c d s).length 0).toNat=s:=by
 obtain⟨tl,e⟩:=qeQ (c:=c) hs hd
 refine⟨by rw[e,List.length_append];simp,?_⟩
 rw[e,List.getD_eq_getElem?_getD,List.getElem?_append_right (Nat.le_refl _),Nat.sub_self];rfl
theorem qod{c:List Sim}{d:Int}{r:Nat}(hr:r<(qak c d c.length).length):∃ s,s<c.length∧((c.getD s []).length:Int)=d+1∧(qak c d s).length=r∧((qak c d c.length).getD r 0).toNat=s:=by
 have key:∀ n,n≤c.length→∀ r,r<(qak c d n).length→∃ s,s<n∧((c.getD s []).length:Int)=d+1∧(qak c d s).length=r:=by
  intro n
  induction n with
  | zero=>intro _ r hr;simp[qak] at hr
  | succ n ih =>
   intro hn r hr
   rw[qbN,List.length_append] at hr
   by_cases h:r<(qak c d n).length
   ·obtain⟨s,h1,h2⟩:=ih (by omega) r h
    exact⟨s,by omega,h2⟩
   ·split at hr
    ·rename_i hd
     simp at hr
     exact⟨n,by omega,hd,by omega⟩
    ·simp at hr;omega
 obtain⟨s,h1,h2,h3⟩:=key c.length (Nat.le_refl _) r hr
 refine⟨s,h1,h2,h3,?_⟩
 have:=(qqG h1 h2).2
 rw[h3] at this;exact this
theorem qqz{c:List Sim}{p:Int}(hv:VC c){k i:Nat}(hk:k<c.length)(hi:i<(qaG c k).length):mp (qd3 c p).1 (qd3 c p).2.2.2.1 k i=qbe p 1:=by
 have:=qcr (n:=c.length) hk hi
 refine qcv ?_
 rcases Nat.lt_or_ge (plc c k+i) (qbB c c.length).length with h | h
 ·exact h
 ·rw[List.getElem?_eq_none h] at this;cases this
theorem qr9{p:Int}(hp:2≤p∧p≤251)(a:Nat):sgn p a%p=sgn p a:=by
 unfold sgn
 split<;>exact Int.emod_eq_of_lt (by omega) (by omega)
theorem qjP{c:List Sim}{p:Int}(hT:ISh (qd3 c p)){k:Int}(hk:0≤k){r g:Nat}(hr:r<(qak c (k+1) c.length).length)(hg:g<(qak c k c.length).length) :
  qmn (qd3 c p) k r g=qbp (bdM c (k+1) p).2.2.2.1 (qak c (k+1) c.length).length g r:=by
 have hv:VC c:=hT.1.1
 have hst:∀ x∈List.replicate c.length ((1:Nat):Int),0≤x∧x≤3:=hT.1.2.2.1.2.1
 have hp:2≤p∧p≤251:=⟨hT.1.2.1.1,hT.1.2.1.2.1⟩
 obtain⟨s,hs,hd,epos,eget⟩:=qod hr
 have eFC:FC c (List.replicate c.length ((1:Nat):Int)) s=(r:Int):=by rw[qrb hs hd,epos]
 have hbp:∀ i,i<(qaG c s).length→qkZ c (k+1) s i=(FC c (List.replicate c.length ((1:Nat):Int)) (fc c s i)).toNat∧fc c s i<c.length:=fun i hi=>by
  obtain⟨b1,b2,b3,b4⟩:=qmT hv hs hd hi
  rw[show k+1-1=k by omega] at b1
  rw[b1,qrb b4 (d:=k) (by omega)]
  exact⟨by omega,b4⟩
 have e1:qmn (qd3 c p) k r g=(qet c p (List.replicate c.length ((1:Nat):Int)) (List.replicate (qbB c c.length).length (qbe p 1)) k).getD (r*(SD c (List.replicate c.length ((1:Nat):Int)) k).toNat+g) 0:=rfl
 rw[e1]
 have hs0:0<((List.replicate c.length ((1:Nat):Int)).getD s 0).toNat:=by rw[qcv hs];decide
 have h12:((c.getD s []).length:Int)=k+2:=by omega
 by_cases he:∃ i,i<(qaG c s).length∧qkZ c (k+1) s i=g
 ·obtain⟨i,hi,ei⟩:=he
  obtain⟨f1,f2⟩:=hbp i hi
  have hinj:∀ j,j<(qaG c s).length→qkZ c (k+1) s j=g→j=i:=fun j hj ej=>by
   obtain⟨g1,g2⟩:=hbp j hj
   obtain⟨_,_,c3,_⟩:=qmT hv hs hd hi
   obtain⟨_,_,d3,_⟩:=qmT hv hs hd hj
   have:=qgQ (c:=c) (s:=fc c s j) (s':=fc c s i) (i:=0) (i':=0) hst (by omega) (by show 0<((List.replicate c.length ((1:Nat):Int)).getD (fc c s j) 0).toNat;rw[qcv g2];decide) (by show 0<((List.replicate c.length ((1:Nat):Int)).getD (fc c s i) 0).toNat;rw[qcv f2];decide) (by show(FC c (List.replicate c.length ((1:Nat):Int)) (fc c s j)).toNat+0=(FC c (List.replicate c.length ((1:Nat):Int)) (fc c s i)).toNat+0;omega)
   exact qnl hv hs hj hi this.1
  rw[qsF (k:=k+1) hr (by rw[show k+1-1=k by omega];exact hg) eget hi ei hinj]
  have hc:=qmX hT.1 hk hs h12 hi (i:=0) (j:=0) hs0 (by show 0<((List.replicate c.length ((1:Nat):Int)).getD (fc c s i) 0).toNat;rw[qcv f2];decide)
  have hm:mp c (List.replicate (qbB c c.length).length (qbe p 1)) s i=qbe p 1:=qqz hv hs hi
  rw[eFC] at hc
  simp only[Int.toNat_natCast,Nat.add_zero] at hc
  rw[← f1,ei] at hc
  refine hc.trans ?_
  rw[hm]
  show(qav qbt 1 1).getD 0 0*sgn p i%p=_
  have:(qav qbt 1 1).getD 0 0=1:=by decide
  rw[this,Int.one_mul]
  exact qr9 hp i
 ·have hno:∀ i,i<(qaG c s).length→qkZ c (k+1) s i≠g:=fun i hi e=>he ⟨i,hi,e⟩
  rw[qrZ (k:=k+1) hr eget hno]
  have hg':g<(SD c (List.replicate c.length ((1:Nat):Int)) k).toNat:=by rw[qjq];omega
  have hc:=qkP hT.1 hs h12 (i:=0) hs0 hg' fun i hi hh=>?_
  ·rw[eFC] at hc
   simp only[Int.toNat_natCast,Nat.add_zero] at hc
   exact hc
  ·obtain⟨f1,f2⟩:=hbp i hi
   have hh:(FC c (List.replicate c.length ((1:Nat):Int)) (fc c s i)).toNat≤g∧g<(FC c (List.replicate c.length ((1:Nat):Int)) (fc c s i)).toNat+((List.replicate c.length ((1:Nat):Int)).getD (fc c s i) 0).toNat:=hh
   rw[qcv f2] at hh
   have h1:((((1:Nat):Int))).toNat=1:=rfl
   rw[h1] at hh
   exact hno i hi (by omega)
noncomputable def bdR(c:List Sim)(k p:Int):Nat:=rkM p (qak c (k-1) c.length).length (qak c k c.length).length (bdM c k p).2.2.2.1
theorem qnx{c:List Sim}{p:Int}(hT:ISh (qd3 c p)){k:Int}(hk:0≤k):rkX (qd3 c p) k=bdR c (k+1) p:=by
 have hp:=hT.1.2.1
 have hp2:2≤p∧p≤251:=⟨hp.1,hp.2.1⟩
 have e1:(SD c (List.replicate c.length ((1:Nat):Int)) (k+1)).toNat=(qak c (k+1) c.length).length:=by rw[qjq];omega
 have e0:(SD c (List.replicate c.length ((1:Nat):Int)) k).toNat=(qak c k c.length).length:=by rw[qjq];omega
 have hA:EIn p (SD c (List.replicate c.length ((1:Nat):Int)) (k+1)).toNat (SD c (List.replicate c.length ((1:Nat):Int)) k).toNat (qmn (qd3 c p) k):=qbo (qbh hT.1 k) qa4
 have hB:EIn p (qak c (k+1-1) c.length).length (qak c (k+1) c.length).length (qbp (bdM c (k+1) p).2.2.2.1 (qak c (k+1) c.length).length):=qbo (qdT hp2) qch
 have r1:rkX (qd3 c p) k=rkV p (SD c (List.replicate c.length ((1:Nat):Int)) k).toNat (Spn p (SD c (List.replicate c.length ((1:Nat):Int)) (k+1)).toNat (SD c (List.replicate c.length ((1:Nat):Int)) k).toNat (qmn (qd3 c p) k)):=qi9 hp hA
 have r2:bdR c (k+1) p=rkV p (qak c (k+1) c.length).length (Spn p (qak c (k+1-1) c.length).length (qak c (k+1) c.length).length (qbp (bdM c (k+1) p).2.2.2.1 (qak c (k+1) c.length).length)):=qi9 hp hB
 rw[r1,r2,← qpe hp hA,e1,e0,show k+1-1=k by omega]
 refine qiv fun x=>⟨Spn.ent fun g r hg hr=>qjP hT hk hr hg,Spn.ent fun g r hg hr=>(qjP hT hk hr hg).symm⟩
theorem qqW{c:List Sim}{p:Int}(hv:VC c)(hp:Pr p):bdR c 0 p=0:=by
 have h0:(qak c (0-1) c.length).length=0:=by
  have h:=qfN hv (List.replicate c.length ((1:Nat):Int)) (d:=0-1) (.inl (by omega))
  rw[qjq] at h;omega
 have hB:EIn p (qak c (0-1) c.length).length (qak c 0 c.length).length (qbp (bdM c 0 p).2.2.2.1 (qak c 0 c.length).length):=qbo (qdT ⟨hp.1,hp.2.1⟩) qch
 have h:(elS p (qak c (0-1) c.length).length (qbp (bdM c 0 p).2.2.2.1 (qak c 0 c.length).length) (qak c 0 c.length).length).2.length≤(qak c (0-1) c.length).length:=(qc7 hp.1 hB _).2.1
 unfold bdR rkM
 omega
noncomputable def ql1(c:List Sim)(p k:Int):Int:=((qak c k c.length).length:Int)-(bdR c k p:Int)-(bdR c (k+1) p:Int)
theorem qm5{c:List Sim}{p:Int}(hT:ISh (qd3 c p)){k:Int}(hk:0≤k∧k≤3):((qe2 (qd3 c p) k).length:Int)=ql1 c p k:=by
 have e0:SD (qd3 c p).1 (qd3 c p).2.2.1 k=((qak c k c.length).length:Int):=qjq
 rw[qdg hT hk,e0,qnx hT hk.1]
 unfold ql1
 by_cases h:k=0
 ·subst h
  rw[show(0:Int)-1=-1 by omega,qpY hT.1 (show(-1:Int)<0 by omega),qqW hT.1.1 hT.1.2.1]
  omega
 ·rw[qnx hT (k:=k-1) (by omega),show k-1+1=k by omega]
  omega
end VeT
open Go Go.Proofs Ve
namespace VeT
end VeT
open Go Go.Proofs Ve
namespace VeT
noncomputable abbrev qta(e:Int):List Sim×Int×Sim×List Mat×Int×Unit:=([],0,[],[],e,())
open Classical in
noncomputable def qbO(c:Cpx)(p n:Int):List Sim×Int×Sim×List Mat×Int×Unit :=
 if VC c.1∧Pr p then(if 0≤n∧n≤3 then(if SK c.1 (List.replicate c.1.length n) then(c.1,p,List.replicate c.1.length n,List.replicate (qbB c.1 c.1.length).length (qbe p n.toNat),0,()) else qta 5) else qta 2) else qta 1
theorem qeI(c:Cpx)(p n:Int)(sc:Sm (.st cC) c):Ret E n_Z9 [dLL c.1,dI p,dI n] ⟨o_Z9,qbO c p n⟩:=by
 have hl:c.1.length≤1048576:=sc.1.1
 have j0:∀ b:Bool,b=true→¬ (VC c.1∧Pr p)→Ev fun φ=>Z9.j0 (mkR (run E (φ 0))) (φ 0) b c.1 p n 0=some ⟨o_Z9,qbO c p n⟩:=fun b hb hn=>by
  unfold qbO
  rw[if_neg hn,hb]
  simp only[Z9.j0_eq _ qag]
  exact qaD rfl qam
 refine qal ?_
 simp only[run_Z9,Z9.ev]
 refine qaa (qel c.1 sc.1) ?_
 by_cases h1:VC c.1
 ·refine qaJ (by rw[qaI h1];rfl) (qaa (qdG p) ?_)
  by_cases h2:Pr p
  ·simp only[Z9.j0_eq _ qag]
   unfold qbO
   rw[if_pos ⟨h1,h2⟩]
   refine qaJ (by rw[qaI h2];rfl) (qaa (qcH n 0 3) ?_)
   by_cases h3:0≤n∧n≤3
   ·rw[if_pos h3]
    have he:=qh5 c.1 n hl
    refine qaJ (by rw[qaI h3];rfl) (qaa he (qaa (qgj c.1 _ sc.1 (by rw[List.length_replicate];exact hl)) ?_))
    by_cases h4:SK c.1 (List.replicate c.1.length n)
    ·rw[if_pos h4]
     have hso:=qhr c.1 p (List.replicate c.1.length n) n.toNat (by omega) sc.1 h1 (by simp)
     rw[show((n.toNat:Nat):Int)=n by omega] at hso
     refine qaJ (by rw[qaI h4];rfl) (qb6 (qaa he (qaa hso qam)) (qaa he (qaa hso qam)))
    ·rw[if_neg h4]
     exact qaD (by rw[qaw h4];rfl) qam
   ·rw[if_neg h3]
    exact qaD (by rw[qaw h3];rfl) qam
  ·exact j0 _ (by rw[qaw h2];rfl) fun h=>h2 h.2
 ·exact qaD (by rw[qaw h1];rfl) (j0 true rfl fun h=>h1 h.1)
end VeT
