import Derived.Test.YtjnnliedeobfgaaGreatT6
import Derived.Test.YtjnnliedeobfgaaGreatT5
set_option linter.unusedVariables false
set_option linter.unusedSimpArgs false
open Go Go.Proofs Ve
namespace VeT
theorem Spn.nil_at{p:Int}{R W:Nat}{A:Ent}{x:Nat→Int}{j:Nat}(hj:j<W)(h:∀ i,i<R→A i j=0)(hx:Spn p R W A x):x j%p=0:=by
 obtain⟨c,hc⟩:=hx
 rw[← hc j hj]
 exact qkm fun i hi=>by rw[h i hi,Int.mul_zero];simp
theorem qoo{p:Int}{R W:Nat}{pv:List Nat}{F:Ent}(hrf:Rf R W F pv){n j:Nat}(hj:j<W)(hjp:j∉pv)(hn:n≤j):∀ x∈qf0 p W pv F n,x.getD j 0=0:=by
 induction n with
 | zero=>intro x hx;cases hx
 | succ n ih =>
  intro x hx
  rw[qf0,List.mem_append] at hx
  rcases hx with hx | hx
  ·exact ih (by omega) x hx
  ·split at hx
   ·cases hx
   ·rw[List.mem_singleton] at hx
    subst hx
    rw[qev hrf hj hjp (by omega) _ (Nat.le_refl _),if_neg (by omega)]
theorem qpe{p:Int}{R W:Nat}{pv:List Nat}{F:Ent}(hp:Pr p)(hrf:Rf R W F pv){n:Nat}(hn:n<W)(hnp:n∉pv):¬ InR p W (qf0 p W pv F n) (qjD p W pv F n pv.length):=fun h=>by
 have hp2:2≤p:=hp.1
 have h0:=Spn.nil_at hn (fun i hi=>by
  unfold qd3
  rw[qad hi]
  exact qoo hrf hn hnp (Nat.le_refl _) _ (List.getElem_mem hi)) h
 rw[qev hrf hn hnp hn _ (Nat.le_refl _),if_pos rfl,Int.emod_eq_of_lt (by omega) (by omega)] at h0
 omega
theorem qoK{p:Int}{R W:Nat}{pv:List Nat}{F:Ent}(hp:Pr p)(hrf:Rf R W F pv):∀ {n:Nat},n≤W→rk p W (qf0 p W pv F n)=(qf0 p W pv F n).length∧(qf0 p W pv F n).length+cnt (fun c=>c∈pv) n=n
 | 0,_=>by
  refine⟨?_,rfl⟩
  have:=qrJ (W:=W) hp (A:=qf0 p W pv F 0) (fun x hx=>by cases hx)
  exact Nat.le_antisymm this (Nat.zero_le _)
 | n+1,hn=>by
  obtain⟨h1,h2⟩:=qoK hp hrf (n:=n) (by omega)
  have hr:Rws p W (qf0 p W pv F n):=fun x hx=>qg8 hp.1 hx
  unfold cnt
  rw[qf0]
  by_cases h:n∈pv
  ·rw[if_pos h,if_pos h,List.append_nil]
   exact⟨h1,by omega⟩
  ·rw[if_neg h,if_neg h,qrd hp hr (qpe hp hrf (by omega) h),List.length_append,List.length_singleton]
   exact⟨by omega,by omega⟩
noncomputable def rkM(p:Int)(R W:Nat)(cells:Sim):Nat:=(elS p R (qbL cells W) W).2.length
theorem qqk{p:Int}{R W:Nat}{cells:Sim}(hp:Pr p)(hl:cells.length=R*W)(he:qaI cells p):rk p W (qiF p R W cells)=(qiF p R W cells).length∧(qiF p R W cells).length+rkM p R W cells=W:=by
 obtain⟨hrf,_⟩:=qgu hp (qcA he hl) W (Nat.le_refl _)
 obtain⟨h1,h2⟩:=qoK hp hrf (Nat.le_refl W)
 rw[qhc hrf.nodup.1 hrf.nodup.2] at h2
 exact⟨h1,h2⟩
end VeT
open Go Go.Proofs Ve
namespace VeT
def sN(f:Nat→Int):Nat→Int
 | 0=>0
 | n+1=>sN f n+f n
theorem qlF{c g:Nat→Int}:∀ {n:Nat},qaJ c g n=sN (fun i=>c i*g i) n
 | 0=>rfl
 | n+1=>by show qaJ c g n+c n*g n=_;rw[qlF];rfl
theorem qlT{f:Nat→Int}:∀ {n:Nat},(∀ i,i<n→f i=0)→sN f n=0
 | 0,_=>rfl
 | n+1,h=>by unfold sN;rw[qlT fun i hi=>h i (by omega),h n (by omega)];rfl
theorem qju{f:Nat→Int}{m:Nat}:∀ {n:Nat},sN f (m+n)=sN f m+sN (fun i=>f (m+i)) n
 | 0=>by simp[sN]
 | n+1=>by
  show sN f (m+n)+f (m+n)=sN f m+(sN (fun i=>f (m+i)) n+f (m+n))
  rw[qju];omega
theorem qpR{p:Int}{f g:Nat→Int}:∀ {n:Nat},(∀ i,i<n→f i%p=g i%p)→sN f n%p=sN g n%p
 | 0,_=>rfl
 | n+1,h=>by unfold sN;rw[Int.add_emod,qpR fun i hi=>h i (by omega),h n (by omega),← Int.add_emod]
theorem qpY{f:Nat→Int}{k:Int}:∀ {n:Nat},sN (fun i=>k*f i) n=k*sN f n
 | 0=>by simp[sN]
 | n+1=>by unfold sN;rw[qpY,Int.mul_add]
theorem qpf{f:Nat→Int}{L n W:Nat}(hW:L+n≤W)(h:∀ i,i<W→¬ (L≤i∧i<L+n)→f i=0):sN f W=sN (fun b=>f (L+b)) n:=by
 obtain⟨r,rfl⟩:∃ r,W=L+n+r:=⟨W-(L+n),by omega⟩
 rw[qju,qju,qlT (n:=L) fun i hi=>h i (by omega) (by omega),qlT (n:=r) fun i hi=>h _ (by omega) (by omega)]
 omega
theorem qlB{c:List Sim}{st:Sim}(hst:∀ x∈st,0≤x∧x≤3){d:Int}{r:Nat}:∀ {n:Nat},r<(SDn c st d n).toNat→∃ s,s<n∧((c.getD s []).length:Int)=d+1∧∃ i,i<(st.getD s 0).toNat∧r=(FC c st s).toNat+i
 | 0,h=>by simp[SDn,qaK] at h
 | n+1,h=>by
  have h1:=qi0 (c:=c) (d:=d) hst (n:=n)
  have h2:=qcx hst n
  by_cases hr:r<(SDn c st d n).toNat
  ·obtain⟨s,hs,h3⟩:=qlB hst hr;exact⟨s,by omega,h3⟩
  ·rw[qde] at h
   split at h
   ·rename_i hd
    have e:FC c st n=SDn c st d n:=by unfold FC;rw[show((c.getD n []).length:Int)-1=d by omega]
    exact⟨n,by omega,hd,r-(SDn c st d n).toNat,by omega,by rw[e];omega⟩
   ·omega
theorem qhp{c:List Sim}(h:VC c){a b:Nat}(ha:a<c.length)(hb:b<c.length)(e:c.getD a []=c.getD b []):a=b:=by
 have key:∀ {a b:Nat},a<b→b<c.length→c.getD a []=c.getD b []→False:=fun {a b} hab hb e=>by
  have:=h.srt a b hb hab
  rw[qad (by omega),qad hb] at e
  rw[e,qb9.2 rfl] at this
  omega
 rcases Nat.lt_trichotomy a b with h | h | h
 ·exact absurd e fun e=>key h hb e
 ·exact h
 ·exact absurd e.symm fun e=>key h ha e
theorem qrt{c:List Sim}{p:Int}{st:Sim}{ms:List Mat}{k i j:Nat}(hij:i<j)(h1:Sq c p st ms k i (j-1))(h2:Sq c p st ms k j i):fc c (fc c k i) (j-1)=fc c (fc c k j) i:=by
 have a:=qaX h1.v.1 h1.fk h1.hj
 have b:=qaX h2.v.1 h2.fk h2.hj
 refine qhp h1.v.1 a.2.1 b.2.1 ?_
 rw[a.2.2,b.2.2,(qaX h1.v.1 h1.kl h1.hi).2.2,(qaX h2.v.1 h2.kl h2.hi).2.2]
 exact(qfe hij).symm
theorem qnt{c:List Sim}{ms:List Mat}(h:qb3 c ms=none){k i j:Nat}(hk:k<c.length)(h3:3≤(c.getD k []).length)(hij:i<j)(hj:j<(c.getD k []).length):two c ms k i (j-1)=two c ms k j i:=Classical.byContradiction fun hne=>by
 have hpi:Pi c ms k i:=⟨j,by omega,by omega,hne⟩
 have hpk:Pk c ms k:=⟨h3,i,by omega,by omega,hpi⟩
 have:=qfn h (fun _ _ _=>some ⟨.nil,()⟩) none
 obtain⟨k',h1⟩:=qca (P:=Pk c ms) (a:=0) (d:=c.length) ⟨k,by omega,by omega,hpk⟩
 unfold qb3 at h
 rw[h1] at h
 simp only[Option.bind_some] at h
 obtain⟨i',h2⟩:=qca (qay h1).2.2.2
 rw[h2] at h
 simp only[Option.bind_some] at h
 obtain⟨j',h3⟩:=qca (qay h2).2.2
 rw[h3] at h
 cases h
end VeT
open Go Go.Proofs Ve
namespace VeT
def mE(m:Mat):Ent:=qbL m.2.2.2.1 m.2.2.1.toNat
theorem VM.pos{m:Mat}(h:VM m):2≤m.1:=h.1.1
theorem VM.num{m:Mat}(h:VM m):m.2.2.2.1.length=m.2.1.toNat*m.2.2.1.toNat:=by
 obtain⟨R,K,e,_,_,hl⟩:=h.nat
 rw[e] at hl ⊢
 simpa using hl
theorem qrD{m:Mat}(h:VM m){i j:Nat}(hi:i<m.2.1.toNat)(hj:j<m.2.2.1.toNat):0≤mE m i j∧mE m i j≤m.1-1:=qcA h.2.2.2.2 h.num i j hi hj
theorem qp9{m:Mat}(h:VM m){i j:Nat}(hi:i<m.2.1.toNat)(hj:j<m.2.2.1.toNat):mE m i j%m.1=mE m i j:=by
 have:=qrD h hi hj
 have:=h.pos
 exact Int.emod_eq_of_lt (by omega) (by omega)
theorem qkf{a b:Mat}(ha:VM a)(hb:VM b)(h1:a.1=b.1)(h2:a.2.1=b.2.1)(h3:a.2.2.1=b.2.2.1)(h:∀ i j,i<a.2.1.toNat→j<a.2.2.1.toNat→mE a i j=mE b i j):a=b:=by
 refine qd4.2 ⟨h1,h2,h3,?_⟩
 have ea:=qen ha.num
 have eb:=qen hb.num
 rw[← h2,← h3] at eb
 rw[← ea,← eb]
 refine qaD fun i j hi hj=>?_
 have:=h i j hi hj
 unfold mE at this
 rwa [← h3] at this
theorem qgD{a b:Mat}{i j:Nat}(hi:i<a.2.1.toNat)(hj:j<b.2.2.1.toNat):mE (qdo a b) i j=qaJ (mE a i) (fun l=>mE b l j) a.2.2.1.toNat%a.1:=by
 show qbL (qaq (qjp a.1 a.2.2.2.1 b.2.2.2.1 a.2.2.1.toNat b.2.2.1.toNat) b.2.2.1.toNat a.2.1.toNat) b.2.2.1.toNat i j=_
 rw[qbv hi hj];rfl
theorem qlM{p:Int}{n i j:Nat}(hi:i<n)(hj:j<n):mE (qaW p n) i j=if i=j then 1 else 0:=by
 show qbL (qaq qbf n n) ((n:Int)).toNat i j=_
 rw[Int.toNat_natCast,qbv hi hj];rfl
theorem qjR{p:Int}{n i j:Nat}(hi:i<n)(hj:j<n):mE (qaW p n) i j=if j=i then 1 else 0:=by
 rw[qlM hi hj]
 by_cases e:i=j
 ·rw[if_pos e,if_pos e.symm]
 ·rw[if_neg e,if_neg fun h=>e h.symm]
theorem qhL{p:Int}{c g h:Nat→Int}{n:Nat}(H:∀ i,i<n→c i%p=g i%p):qaJ c h n%p=qaJ g h n%p:=by
 rw[qaU,qaU (c:=g)];exact qce H
theorem qdv{a b d:Mat}(ha:VM a)(hb:VM b)(hd:VM d)(h1:a.2.2.1=b.2.1)(h2:b.2.2.1=d.2.1)(e1:a.1=b.1):qdo (qdo a b) d=qdo a (qdo b d):=by
 refine qkf (qcP (qcP ha hb) hd) (qcP ha (qcP hb hd)) rfl rfl rfl fun i j hi hj=>?_
 have hi':i<a.2.1.toNat:=hi
 have hj':j<d.2.2.1.toNat:=hj
 rw[qgD (a:=qdo a b) (b:=d) hi hj',qgD (a:=a) (b:=qdo b d) hi' hj']
 show qaJ (mE (qdo a b) i) (fun l=>mE d l j) b.2.2.1.toNat%a.1=qaJ (mE a i) (fun l=>mE (qdo b d) l j) a.2.2.1.toNat%a.1
 have l1:qaJ (mE (qdo a b) i) (fun l=>mE d l j) b.2.2.1.toNat%a.1=qaJ (fun l=>qaJ (mE a i) (fun m=>mE b m l) a.2.2.1.toNat) (fun l=>mE d l j) b.2.2.1.toNat%a.1 :=
  qhL fun l hl=>by rw[qgD hi' hl];exact Int.emod_emod_of_dvd _ (Int.dvd_refl _)
 have l2:qaJ (mE a i) (fun l=>mE (qdo b d) l j) a.2.2.1.toNat%a.1=qaJ (mE a i) (fun m=>qaJ (mE b m) (fun l=>mE d l j) b.2.2.1.toNat) a.2.2.1.toNat%a.1 :=
  qce fun m hm=>by rw[qgD (by rw[← h1];exact hm) hj',e1];exact Int.emod_emod_of_dvd _ (Int.dvd_refl _)
 rw[l1,l2]
 congr 1
 have:=qfJ (y:=fun l=>mE d l j) (c:=mE a i) (A:=mE b) (W:=b.2.2.1.toNat) (R:=a.2.2.1.toNat)
 rw[qaU,this]
 exact qaA fun m hm=>⟨rfl,qaU⟩
theorem qje{m:Mat}{p:Int}{n:Nat}(h:VM m)(hp:m.1=p)(hn:m.2.1=(n:Int)):qdo (qaW p n) m=m:=by
 have h32:=h.2.1.2
 refine qkf (qcP (qeM (hp ▸ h.1) (by omega)) h) h hp.symm hn.symm rfl fun i j hi hj=>?_
 have hi':i<n:=by simpa [qdo,qaW] using hi
 have hj':j<m.2.2.1.toNat:=hj
 rw[qgD (a:=qaW p n) (b:=m) (show i<((n:Int)).toNat by rw[Int.toNat_natCast];exact hi') hj']
 show qaJ (mE (qaW p n) i) (fun l=>mE m l j) ((n:Int)).toNat%p=_
 rw[Int.toNat_natCast,qaA (d:=fun l=>if l=i then 1 else 0) (h:=fun l=>mE m l j) fun l hl=>⟨qjR hi' hl,rfl⟩,qbU hi',← hp]
 exact qp9 h (by omega) hj'
theorem qnp{m:Mat}{p:Int}{n:Nat}(h:VM m)(hn:m.2.2.1=(n:Int)):qdo m (qaW p n)=m:=by
 have h32:=h.2.2.1.2
 have hsh:(qdo m (qaW p n)).2.2.1=(n:Int):=rfl
 have hV:VM (qdo m (qaW m.1 n)):=qcP h (qeM h.1 (by omega))
 have e:qdo m (qaW p n)=qdo m (qaW m.1 n):=rfl
 rw[e]
 refine qkf hV h rfl rfl hn.symm fun i j hi hj=>?_
 have hi':i<m.2.1.toNat:=hi
 have hj':j<n:=by simpa [qdo,qaW] using hj
 rw[qgD (a:=m) (b:=qaW m.1 n) hi' (show j<((n:Int)).toNat by rw[Int.toNat_natCast];exact hj'),qaU]
 have hk:m.2.2.1.toNat=n:=by omega
 rw[hk,qaA (d:=fun l=>if l=j then 1 else 0) (h:=fun l=>mE m i l) fun l hl=>⟨qlM hl hj',rfl⟩,qbU hj']
 exact qp9 h hi' (by omega)
theorem qoF{m:Mat}{v:Sim}{n i:Nat}(hi:i<n):(qmH m v n).getD i 0=qaJ (mE m i) (fun l=>v.getD l 0) m.2.2.1.toNat%m.1:=by
 rw[List.getD_eq_getElem?_getD]
 unfold qmH
 rw[List.getElem?_map,List.getElem?_range hi];rfl
theorem qhQ{c:List Sim}{p:Int}{st:Sim}{ms:List Mat}(h:VS c p st ms){f:Nat}(hf:f<c.length):∀(d k:Nat),k<c.length→(c.getD k []).length≤d→qdx (c.getD f []) (c.getD k []) →
  VM (qd0 c p st ms f d k)∧(qd0 c p st ms f d k).1=p∧(qd0 c p st ms f d k).2.1=st.getD k 0∧(qd0 c p st ms f d k).2.2.1=st.getD f 0
 | 0,k,hk,hd,hp=>by have:=(h.1.2.1 k hk).1;omega
 | d+1,k,hk,hd,hp=>by
  obtain⟨_,n,_,hn,en,en2⟩:=qpM h f hf
  rw[qd0]
  by_cases e:f=k
  ·subst e
   rw[if_pos rfl,en,en2]
   exact⟨qeM h.2.1 (by omega),rfl,rfl,rfl⟩
  ·rw[if_neg e]
   have D:Down c p st ms f k:=⟨h,hf,hk,e,hp⟩
   obtain⟨_,f2,_,_,f5,f6,f7⟩:=D.facts
   obtain⟨r1,r2,r3,r4⟩:=qhQ h hf d (fc c k (fv c f k)) f7 (by omega) f5
   obtain⟨m1,m2,m3,m4⟩:=(h.map hk f2).2
   exact⟨qcP m1 r1,m2,m3,r4⟩
theorem qa4{x:Shf}(h:VS x.1 x.2.1 x.2.2.1 x.2.2.2.1){f k:Nat}(hf:f<x.1.length)(hk:k<x.1.length)(hp:qdx (x.1.getD f []) (x.1.getD k [])) :
  VM (qaV x f k)∧(qaV x f k).1=x.2.1∧(qaV x f k).2.1=x.2.2.1.getD k 0∧(qaV x f k).2.2.1=x.2.2.1.getD f 0 :=
 qhQ h hf _ k hk (Nat.le_refl _) hp
theorem qgd{x:Shf}(h:VS x.1 x.2.1 x.2.2.1 x.2.2.2.1){f:Nat}(hf:f<x.1.length):qaV x f f=qaW x.2.1 (x.2.2.1.getD f 0).toNat:=by
 unfold qaV
 have:=(h.1.2.1 f hf).1
 obtain⟨n,hn⟩:∃ n,(x.1.getD f []).length=n+1:=⟨_,(Nat.sub_add_cancel this).symm⟩
 rw[hn,qd0,if_pos rfl]
theorem qf5{x:Shf}(h:VS x.1 x.2.1 x.2.2.1 x.2.2.2.1){f k:Nat}(hf:f<x.1.length)(hk:k<x.1.length)(hp:qdx (x.1.getD f []) (x.1.getD k []))(hne:f≠k) :
  qaV x f k=qdo (mp x.1 x.2.2.2.1 k (fv x.1 f k)) (qaV x f (fc x.1 k (fv x.1 f k))):=by
 have D:Down x.1 x.2.1 x.2.2.1 x.2.2.2.1 f k:=⟨h,hf,hk,hne,hp⟩
 obtain⟨f1,f2,_,_,f5,f6,f7⟩:=D.facts
 have hlen:(x.1.getD (fc x.1 k (fv x.1 f k)) []).length=(x.1.getD k []).length-1:=by
  rw[(qaX h.1 hk f2).2.2,List.length_eraseIdx,if_pos f1]
 have:=(h.1.2.1 k hk).1
 obtain⟨n,hn⟩:∃ n,(x.1.getD k []).length=n+1:=⟨_,(Nat.sub_add_cancel this).symm⟩
 unfold qaV
 rw[hlen,hn,qd0,if_neg hne,Nat.add_sub_cancel]
theorem qek{x:Shf}(hs:ISh x):∀(d:Nat) {f k i:Nat},(x.1.getD k []).length≤d→f<x.1.length→k<x.1.length→qdx (x.1.getD f []) (x.1.getD k [])→(hi:i<(x.1.getD k []).length)→(x.1.getD k [])[i]∉x.1.getD f [] →
  i<(qaF x.1 k).length∧qaV x f k=qdo (mp x.1 x.2.2.2.1 k i) (qaV x f (fc x.1 k i))
 | 0,f,k,i,hd,hf,hk,hp,hi,hn=>by omega
 | d+1,f,k,i,hd,hf,hk,hp,hi,hn=>by
  have h:=hs.1
  have hne:f≠k:=fun e=>hn (by subst e;exact List.getElem_mem hi)
  have D:Down x.1 x.2.1 x.2.2.1 x.2.2.2.1 f k:=⟨h,hf,hk,hne,hp⟩
  obtain⟨f1,f2,f3,f4,f5,f6,f7⟩:=D.facts
  have h2:(qaF x.1 k).length=(x.1.getD k []).length:=by
   have:=qaz (c:=x.1) (k:=k)
   by_cases e:1<(x.1.getD k []).length
   ·rw[if_pos e] at this;exact this
   ·rw[if_neg e] at this;omega
  have hi2:i<(qaF x.1 k).length:=by omega
  refine⟨hi2,?_⟩
  rw[qf5 h hf hk hp hne]
  by_cases ei:fv x.1 f k=i
  ·rw[ei]
  generalize fv x.1 f k=j at f1 f2 f3 f4 f5 f6 f7 ei ⊢
  have hji:j<i:=by
   rcases Nat.lt_or_ge i j with hlt | hge
   ·exact absurd (f3 i hlt hi) hn
   ·omega
  have g1:=qaX h.1 hk f2
  have g2:=qaX h.1 hk hi2
  have hpi:qdx (x.1.getD f []) (x.1.getD (fc x.1 k i) []):=by rw[g2.2.2];exact qcK hp hi hn
  have n3:3≤(x.1.getD k []).length:=by
   have h0:=(h.1.2.1 f hf).1
   have hm:∃ q,∃ hq:q<(x.1.getD k []).length,(x.1.getD k [])[q]∈x.1.getD f []:=by
    have hm:=hp _ (List.getElem_mem (show 0<(x.1.getD f []).length from h0))
    obtain⟨q,hq,e⟩:=List.mem_iff_getElem.1 hm
    exact⟨q,hq,e ▸ List.getElem_mem _⟩
   obtain⟨q,hq,hqm⟩:=hm
   have:q≠i:=fun e=>hn (by subst e;exact hqm)
   have:q≠j:=fun e=>f4 f1 (by subst e;exact hqm)
   omega
  have s1:Sq x.1 x.2.1 x.2.2.1 x.2.2.2.1 k j (i-1):=⟨hk,n3,f1,by omega,h⟩
  have s2:Sq x.1 x.2.1 x.2.2.1 x.2.2.2.1 k i j:=⟨hk,n3,hi,by omega,h⟩
  have lj:(x.1.getD (fc x.1 k j) []).length=(x.1.getD k []).length-1:=by rw[g1.2.2,List.length_eraseIdx,if_pos f1]
  have li:(x.1.getD (fc x.1 k i) []).length=(x.1.getD k []).length-1:=by rw[g2.2.2,List.length_eraseIdx,if_pos hi]
  have e1:(x.1.getD (fc x.1 k j) []).getD (i-1) 0=(x.1.getD k []).getD i 0:=by
   rw[g1.2.2,List.getD_eq_getElem?_getD,List.getElem?_eraseIdx,if_neg (by omega),Nat.sub_add_cancel (by omega),← List.getD_eq_getElem?_getD]
  have e2:(x.1.getD (fc x.1 k i) []).getD j 0=(x.1.getD k []).getD j 0:=by
   rw[g2.2.2,List.getD_eq_getElem?_getD,List.getElem?_eraseIdx,if_pos (by omega),← List.getD_eq_getElem?_getD]
  have a1:=qek hs d (f:=f) (k:=fc x.1 k j) (i:=i-1) (by omega) hf g1.2.1 f5 (by omega) (by
   rw[← qad (by omega),e1,qad hi];exact hn)
  have a2:=qek hs d (f:=f) (k:=fc x.1 k i) (i:=j) (by omega) hf g2.2.1 hpi (by omega) (by
   rw[← qad (by omega),e2,qad f1];exact f4 f1)
  rw[a1.2,a2.2]
  have ht:=qnt hs.2 hk n3 hji hi
  have hff:=qrt hji s1 s2
  unfold two at ht
  rw[hff]
  obtain⟨_,v2,v3⟩:=qaX h.1 g2.2.1 a2.1
  have hpf:qdx (x.1.getD f []) (x.1.getD (fc x.1 (fc x.1 k i) j) []):=by
   rw[v3];exact qcK hpi (by omega) (by rw[← qad (by omega),e2,qad f1];exact f4 f1)
  obtain⟨r1,r2,r3,r4⟩:=qa4 h hf v2 hpf
  have b1:=(h.map hk f2).2
  have b2:=(h.map hk hi2).2
  have b3:=(h.map g1.2.1 a1.1).2
  have b4:=(h.map g2.2.1 a2.1).2
  rw[hff] at b3
  rw[← qdv b1.1 b3.1 r1 (by rw[b1.2.2.2,b3.2.2.1]) (by rw[b3.2.2.2,r3]) (by rw[b1.2.1,b3.2.1]),← qdv b2.1 b4.1 r1 (by rw[b2.2.2.2,b4.2.2.1]) (by rw[b4.2.2.2,r3]) (by rw[b2.2.1,b4.2.1]),ht]
theorem qi7{x:Shf}(hs:ISh x):∀(d:Nat) {f g k:Nat},(x.1.getD k []).length≤d→f<x.1.length→g<x.1.length→k<x.1.length→qdx (x.1.getD f []) (x.1.getD g [])→qdx (x.1.getD g []) (x.1.getD k []) →
  qaV x f k=qdo (qaV x g k) (qaV x f g)
 | 0,f,g,k,hd,hf,hg,hk,h1,h2=>by have:=(hs.1.1.2.1 k hk).1;omega
 | d+1,f,g,k,hd,hf,hg,hk,h1,h2=>by
  have h:=hs.1
  obtain⟨r1,r2,r3,r4⟩:=qa4 h hf hg h1
  by_cases e:g=k
  ·subst e
   rw[qgd h hg]
   obtain⟨_,n,_,hn,en,en2⟩:=qpM h g hg
   exact(qje r1 r2 (by rw[r3,en2,Int.toNat_natCast])).symm
  ·have D:Down x.1 x.2.1 x.2.2.1 x.2.2.2.1 g k:=⟨h,hg,hk,e,h2⟩
   obtain⟨f1,f2,f3,f4,f5,f6,f7⟩:=D.facts
   have hp:qdx (x.1.getD f []) (x.1.getD k []):=fun y hy=>h2 y (h1 y hy)
   have a:=(qek hs _ (Nat.le_refl _) hf hk hp f1 fun hm=>f4 f1 (h1 _ hm)).2
   rw[a,qf5 h hg hk h2 e,qi7 hs d (k:=fc x.1 k (fv x.1 g k)) (by omega) hf hg f7 h1 f5]
   obtain⟨q1,q2,q3,q4⟩:=qa4 h hg f7 f5
   have b:=(h.map hk f2).2
   exact(qdv b.1 q1 r1 (by rw[b.2.2.2,q3]) (by rw[q4,r3]) (by rw[b.2.1,q2])).symm
end VeT
open Go Go.Proofs Ve
namespace VeT
theorem qic(c:List Sim)(hc:Sm (.sl (.sl (.int .i64))) c)(hv:VC c):Ret E n_Z139 [dC (c,()),dI 3] ⟨o_Z139,(c,())⟩:=by
 have hl:c.length≤1048576:=hc.1
 refine qak ?_
 simp only[run_Z139,Z139.ev]
 refine Ev.start (p:=fun φ n=>Z139.l0 (mkR (run E (φ 0))) (φ 0) n (c,()) 3 0 []=_) 1 ?_ (fun _ _ _ h=>h)
 refine qao 1 (L:=fun φ n k o=>Z139.l0 (mkR (run E (φ 0))) (φ 0) n (c,()) 3 k o) (len:=c.length) (fun k=>c.take k) (fun _ _ _ _ _=>rfl) (fun k r hk ih=>?_) ?_
 ·simp only[Z139.l0_succ _ qaf]
  rw[List.take_succ_eq_append_getElem hk] at ih
  have h4:=hv.len4 hk
  rw[qad hk] at h4
  have e4:w64 ((3:Int)+1)=4:=qag (by omega) (by omega)
  refine qax (decide_eq_true (by show(k:Int)<(c.length:Int);omega)) (qab (qai hk) (qax (decide_eq_true (by rw[e4];show(c[k].length:Int)≤4;omega)) (qab (qai hk) (qaa (qcL _ (by show c[k].length≤_;omega)) (qan (by simp only[List.length_take,List.length_singleton,decide_eq_true_eq];omega) ?_)))))
  rw[qae (by omega)];exact ih
 ·simp only[Z139.l0_succ _ qaf]
  refine qaB (decide_eq_false (by show ¬ ((c.length:Int)<(c.length:Int));omega)) (qaj ?_)
  rw[List.take_of_length_le (Nat.le_refl _)]
def zOf(p:Int)(st:Sim)(a:Arw):Mat:=(p,st.getD a.1.toNat 0,st.getD a.2.2.1.toNat 0,List.replicate ((st.getD a.1.toNat 0).toNat*(st.getD a.2.2.1.toNat 0).toNat) 0,())
theorem qgl{c:List Sim}{st:Sim}(hl:st.length=c.length)(hst:∀ x∈st,0≤x∧x≤3){k:Nat}(hk:k<c.length):∃ n:Nat,n≤3∧st.getD k 0=(n:Int)∧∃ h:k<st.length,st[k]=(n:Int):=by
 have h:k<st.length:=by omega
 obtain⟨h1,h2⟩:=hst _ (List.getElem_mem h)
 exact⟨(st[k]).toNat,by omega,by rw[qad h];omega,h,by omega⟩
theorem qeJ{c:List Sim}(hs:Srt c)(hv:VC c){k i:Nat}(hk:k<c.length)(hi:i<(qaF c k).length):∃ f:Nat,f<c.length∧(qaF c k)[i]=(f:Int)∧(qaF c k).getD i 0=(f:Int):=by
 obtain⟨h1,h2,_⟩:=qaX hv hk hi
 have e:(qaF c k)[i]=((fc c k i:Nat):Int):=by rw[qai hi] at h1;exact Option.some.inj h1
 exact⟨fc c k i,h2,e,by rw[qad hi,e]⟩
end VeT
open Go Go.Proofs Ve
namespace VeT
def Fa(x s:Sim):Prop:=x≠[]∧x.Sublist s
def Cl(c:List Sim):Prop:=∀ y∈c,∀ x,Fa x y→x∈c
theorem qln:∀ {x s:Sim},x.Sublist s→x≠s→∃ i,i<s.length∧x.Sublist (s.eraseIdx i)
 | _,_,.slnil,h=>absurd rfl h
 | x,_,.cons a h,_=>⟨0,by simp,by simpa using h⟩
 | _,_,.cons_cons (l₁:=l) (l₂:=l') a h,hn=>by
  obtain⟨i,hi,hs⟩:=qln h fun e=>hn (by rw[e])
  exact⟨i+1,by simp;omega,by simpa using hs⟩
theorem qpX{x s:Sim}:Fa x s↔(x=s∧s≠[])∨∃ i,i<s.length∧Fa x (s.eraseIdx i):=by
 constructor
 ·rintro⟨h1,h2⟩
  by_cases e:x=s
  ·exact .inl ⟨e,e ▸ h1⟩
  ·obtain⟨i,hi,hs⟩:=qln h2 e
   exact .inr ⟨i,hi,h1,hs⟩
 ·rintro(⟨rfl,h⟩ | ⟨i,hi,h1,h2⟩)
  ·exact⟨h,List.Sublist.refl _⟩
  ·exact⟨h1,h2.trans (List.eraseIdx_sublist _ _)⟩
theorem qjX{x y z:Sim}(h1:Fa x y)(h2:Fa y z):Fa x z:=⟨h1.1,h1.2.trans h2.2⟩
theorem qoq{x s:Sim}(h:Fa x s):x.length≤s.length:=h.2.length_le
def qmw:Nat→Nat
 | 0=>1
 | n+1=>(n+2)*qmw n+1
theorem qq4{o:List Sim}{s:Sim}(hs:Srt o)(hn:s∉o):∃ t,t≤o.length∧(∀ j (h:j<o.length),j<t→qdS o[j] s<0)∧(∀ h:t<o.length,¬ qdS o[t] s<0)∧Srt (o.take t++[s]++o.drop t):=by
 refine⟨bs o s,qq3,fun j h hj=>(qjt hs h).1 hj,fun h hlt=>?_,?_⟩
 ·have:=(qjt hs h).2 hlt;omega
 ·have pw:o.Pairwise (fun a b=>qdS a b<0):=List.pairwise_iff_getElem.2 fun i j hi hj hij=>hs i j hj hij
  have h1:∀ x∈o.take (bs o s),qdS x s<0:=fun x hx=>by
   obtain⟨i,hi,rfl⟩:=List.mem_iff_getElem.1 hx
   rw[List.length_take] at hi
   rw[List.getElem_take]
   exact(qjt hs (by omega)).1 (by omega)
  have h2:∀ x∈o.drop (bs o s),qdS s x<0:=fun x hx=>by
   obtain⟨i,hi,rfl⟩:=List.mem_iff_getElem.1 hx
   rw[List.length_drop] at hi
   rw[List.getElem_drop]
   have h3:¬ qdS o[bs o s+i] s<0:=fun h=>by
    have:=(qjt hs (show bs o s+i<o.length by omega)).2 h;omega
   have h4:qdS o[bs o s+i] s≠0:=fun h=>hn (by rw[← qb9.1 h];exact List.getElem_mem _)
   have:=qmC (a:=o[bs o s+i]) (b:=s)
   omega
  have pwn:(o.take (bs o s)++[s]++o.drop (bs o s)).Pairwise (fun a b=>qdS a b<0):=by
   rw[List.pairwise_append]
   refine⟨?_,pw.sublist (List.drop_sublist _ _),fun x hx y hy=>?_⟩
   ·rw[List.pairwise_append]
    refine⟨pw.sublist (List.take_sublist _ _),List.pairwise_singleton _ _,fun x hx y hy=>?_⟩
    rw[List.mem_singleton] at hy;subst hy;exact h1 x hx
   ·rcases List.mem_append.1 hx with hx | hx
    ·exact qgr (h1 x hx) (h2 y hy)
    ·rw[List.mem_singleton] at hx;subst hx;exact h2 y hy
  exact fun i j hj hij=>List.pairwise_iff_getElem.1 pwn i j (by omega) hj hij
theorem qok{o:List Sim}{s x:Sim}{t:Nat}:x∈o.take t++[s]++o.drop t↔x∈o∨x=s:=by
 rw[List.mem_append,List.mem_append,List.mem_singleton]
 conv=>rhs;rw[← List.take_append_drop t o]
 rw[List.mem_append]
 constructor
 ·rintro((h | h) | h)
  ·exact .inl (.inl h)
  ·exact .inr h
  ·exact .inl (.inr h)
 ·rintro((h | h) | h)
  ·exact .inl (.inl h)
  ·exact .inr h
  ·exact .inl (.inr h)
theorem qmn(s:Sim)(o:List Sim)(N1:Nat→Nat)(hs1:s.length≤1048576)(ho:Sm (.sl (.sl (.int .i64))) o)(hl:o.length+1≤1048576)(hs:Srt o)(hn:s∉o) :
  ∃ t,t≤o.length∧Srt (o.take t++[s]++o.drop t)∧Ev fun φ=>Z137.l2 (mkR (run E (φ 0))) (φ 0) (φ 2) s 0 o=some ⟨o_Z137,((o.take t++[s]++o.drop t,()),())⟩:=by
 obtain⟨t,ht,h1,h2,h3⟩:=qq4 hs hn
 refine⟨t,ht,h3,?_⟩
 have fin:Ev fun φ=>Z137.j3 (mkR (run E (φ 0))) (φ 0) (φ 2) s (t:Int) false o=some ⟨o_Z137,((o.take t++[s]++o.drop t,()),())⟩:=by
  simp only[Z137.j3_eq _ qaf]
  refine qaB rfl (qan (by simp only[Bool.and_eq_true,decide_eq_true_eq];omega) ?_)
  simp only[Int.toNat_natCast,List.nil_append]
  refine qan (by simp only[List.length_nil,List.length_take,decide_eq_true_eq];omega) (qaa (qcL s hs1) (qan (by simp only[List.length_take,List.length_singleton,decide_eq_true_eq];omega) (qan (by simp only[Bool.and_eq_true,decide_eq_true_eq];omega) (qan (by simp only[List.length_append,List.length_take,List.length_drop,List.length_singleton,decide_eq_true_eq];omega) qam))))
 have key:∀ d i,i+d=t→Ev fun φ=>Z137.l2 (mkR (run E (φ 0))) (φ 0) (φ 2) s (i:Int) o=some ⟨o_Z137,((o.take t++[s]++o.drop t,()),())⟩:=by
  intro d
  induction d with
  | zero =>
   intro i hi
   obtain rfl:i=t:=by omega
   refine Ev.round 2 (L:=fun φ n=>Z137.l2 (mkR (run E (φ 0))) (φ 0) n s (i:Int) o) ?_ (fun _ _ _=>rfl)
   simp only[Z137.l2_succ _ qaf]
   by_cases hlt:i<o.length
   ·refine qax (decide_eq_true (by omega)) (qab (qai hlt) (qaa (qcE _ s (qbl ho hlt)) ?_))
    rw[qar (h2 hlt)]
    exact fin
   ·exact qaB (decide_eq_false (by omega)) fin
  | succ d ih =>
   intro i hi
   have hlt:i<o.length:=by omega
   refine Ev.round 2 (L:=fun φ n=>Z137.l2 (mkR (run E (φ 0))) (φ 0) n s (i:Int) o) ?_ (fun _ _ _=>rfl)
   simp only[Z137.l2_succ _ qaf]
   refine qax (decide_eq_true (by omega)) (qab (qai hlt) (qaa (qcE _ s (qbl ho hlt)) ?_))
   rw[qaL (h1 i hlt (by omega))]
   simp only[Z137.j3_eq _ qaf]
   refine qax rfl ?_
   rw[qae (by omega)]
   exact ih (i+1) (by omega)
 exact key t 0 (by omega)
theorem qqj:∀(n:Nat) (s:Sim) (c:List Sim),s.length=n+1→n≤1048575→c.length+qmw n≤1048576→Sm (.sl (.sl (.int .i64))) c→Srt c→Cl c →
    ∃ c',Ret E n_Z137 [dC (c,()),dL s] ⟨o_Z137,((c',()),())⟩∧Srt c'∧(∀ x,x∈c'↔x∈c∨Fa x s)∧c'.length≤c.length+qmw n:=by
  intro n
  induction n with
  | zero =>
    intro s c hn hb hl hc hs hcl
    have hs1:s.length≤1048576:=by omega
    have hne:s≠[]:=fun e=>by rw[e] at hn;simp at hn
    by_cases hm:s∈c
    · refine⟨c,?_,hs,fun x=>⟨.inl,fun h=>h.elim id fun h=>hcl s hm x h⟩,by omega⟩
      refine qak ?_
      simp only[run_Z137,Z137.ev]
      exact qaa (qbY (c,()) s hc) (qax (decide_eq_true (qa6.2 hm)) qam)
    · obtain⟨t,ht,h3,h4⟩:=qmn s c id hs1 hc (by unfold qmw at hl;omega) hs hm
      refine⟨_,?_,h3,fun x=>?_,by simp[qmw];omega⟩
      · refine qak ?_
        simp only[run_Z137,Z137.ev]
        refine qaa (qbY (c,()) s hc) (qaB (decide_eq_false fun h=>hm (qa6.1 h)) ?_)
        have h4:Ev fun φ=>Z137.l2 (mkR (run E (φ 0))) (φ 0) (φ 0) s 0 c=some ⟨o_Z137,((c.take t++[s]++c.drop t,()),())⟩:=Ev.start (p:=fun φ n=>Z137.l2 (mkR (run E (φ 0))) (φ 0) n s 0 c=_) 2 h4 (fun _ _ _ h=>h)
        refine Ev.start (p:=fun φ n=>Z137.l0 (mkR (run E (φ 0))) (φ 0) n s 0 c=_) 1 ?_ (fun _ _ _ h=>h)
        refine Ev.round 1 (L:=fun φ n=>Z137.l0 (mkR (run E (φ 0))) (φ 0) n s 0 c) ?_ (fun _ _ _=>rfl)
        simp only[Z137.l0_succ _ qaf,Z137.j1_eq _ qaf]
        refine qax (decide_eq_true (by omega)) (qaB (decide_eq_false (by omega)) h4)
      · rw[qok,qpX]
        constructor
        · rintro(h | h)
          · exact .inl h
          · exact .inr (.inl ⟨h,hne⟩)
        · rintro(h | ⟨h,_⟩ | ⟨i,hi,h1,h2⟩)
          · exact .inl h
          · exact .inr h
          · have:=h2.length_le
            rw[List.length_eraseIdx,if_pos hi] at this
            exact absurd (List.length_eq_zero_iff.1 (by omega)) h1
  | succ n ih =>
    intro s c hn hb hl hc hs hcl
    have hs1:s.length≤1048576:=by omega
    have hne:s≠[]:=fun e=>by rw[e] at hn;simp at hn
    by_cases hm:s∈c
    · refine⟨c,?_,hs,fun x=>⟨.inl,fun h=>h.elim id fun h=>hcl s hm x h⟩,by omega⟩
      refine qak ?_
      simp only[run_Z137,Z137.ev]
      exact qaa (qbY (c,()) s hc) (qax (decide_eq_true (qa6.2 hm)) qam)
    · have hadd:qmw (n+1)=(n+1+1)*qmw n+1:=rfl
      -- the qch
      have loop:∀ d i (o:List Sim),i+d=s.length→Sm (.sl (.sl (.int .i64))) o→Srt o→Cl o→(∀ x,x∈o↔x∈c∨∃ j,j<i∧Fa x (s.eraseIdx j))→o.length≤c.length+i*qmw n→s.length*qmw n+1+c.length≤1048576 →
          ∃ c',(Ev fun φ=>Z137.l0 (mkR (run E (φ 0))) (φ 0) (φ 1) s (i:Int) o=some ⟨o_Z137,((c',()),())⟩)∧Srt c'∧(∀ x,x∈c'↔x∈c∨Fa x s)∧c'.length≤c.length+s.length*qmw n+1:=by
        intro d
        induction d with
        | zero =>
          intro i o hi ho1 ho2 ho3 ho4 ho5 hbig
          obtain rfl:i=s.length:=by omega
          have hn2:s∉o:=fun h=>by
            rcases(ho4 s).1 h with h | ⟨j,hj,h⟩
            · exact hm h
            · have:=qoq h
              rw[List.length_eraseIdx,if_pos hj] at this
              omega
          obtain⟨t,ht,h3,h4⟩:=qmn s o id hs1 ho1 (by omega) ho2 hn2
          refine⟨_,?_,h3,fun x=>?_,by simp;omega⟩
          · have h4:Ev fun φ=>Z137.l2 (mkR (run E (φ 0))) (φ 0) (φ 0) s 0 o=some ⟨o_Z137,((o.take t++[s]++o.drop t,()),())⟩:=Ev.start (p:=fun φ n=>Z137.l2 (mkR (run E (φ 0))) (φ 0) n s 0 o=_) 2 h4 (fun _ _ _ h=>h)
            refine Ev.round 1 (L:=fun φ n=>Z137.l0 (mkR (run E (φ 0))) (φ 0) n s (s.length:Int) o) ?_ (fun _ _ _=>rfl)
            simp only[Z137.l0_succ _ qaf,Z137.j1_eq _ qaf]
            exact qaB (decide_eq_false (by omega)) (qaB rfl h4)
          · rw[qok,ho4,qpX]
            constructor
            · rintro((h | ⟨j,hj,h⟩) | h)
              · exact .inl h
              · exact .inr (.inr ⟨j,hj,h⟩)
              · exact .inr (.inl ⟨h,hne⟩)
            · rintro(h | ⟨h,_⟩ | ⟨j,hj,h⟩)
              · exact .inl (.inl h)
              · exact .inr h
              · exact .inl (.inr ⟨j,hj,h⟩)
        | succ d ihd =>
          intro i o hi ho1 ho2 ho3 ho4 ho5 hbig
          have hil:i<s.length:=by omega
          have hel:(s.eraseIdx i).length=n+1:=by rw[List.length_eraseIdx,if_pos hil];omega
          have hmul:(i+1)*qmw n≤s.length*qmw n:=Nat.mul_le_mul_right _ (by omega)
          rw[Nat.add_mul,Nat.one_mul] at hmul
          obtain⟨o',hr,hs',hm',hl'⟩:=ih (s.eraseIdx i) o hel (by omega) (by omega) ho1 ho2 ho3
          obtain⟨c',hc1,hc2⟩:=ihd (i+1) o' (by omega) ⟨by show o'.length≤1048576;omega,fun x hx=>by
              rcases(hm' x).1 hx with h | h
              · exact ho1.2 x h
              · have:=qoq h
                exact⟨by show x.length≤1048576;omega,fun _ _=>trivial⟩⟩ hs' (fun y hy x hx=>(hm' x).2 (by
              rcases(hm' y).1 hy with h | h
              · exact .inl (ho3 y h x hx)
              · exact .inr (qjX hx h))) (fun x=>by
              rw[hm',ho4]
              constructor
              · rintro((h | ⟨j,hj,h⟩) | h)
                · exact .inl h
                · exact .inr ⟨j,by omega,h⟩
                · exact .inr ⟨i,by omega,h⟩
              · rintro(h | ⟨j,hj,h⟩)
                · exact .inl (.inl h)
                · by_cases e:j=i
                  · subst e;exact .inr h
                  · exact .inl (.inr ⟨j,by omega,h⟩)) (by rw[Nat.add_mul,Nat.one_mul];omega) hbig
          refine⟨c',?_,hc2⟩
          refine Ev.round 1 (L:=fun φ n=>Z137.l0 (mkR (run E (φ 0))) (φ 0) n s (i:Int) o) ?_ (fun _ _ _=>rfl)
          simp only[Z137.l0_succ _ qaf,Z137.j1_eq _ qaf]
          refine qax (decide_eq_true (by omega)) (qax (decide_eq_true (by omega)) (qaa (qd1 s i hil hs1) (qaa hr ?_)))
          rw[qae (by omega)]
          exact hc1
      have hbig:s.length*qmw n+1+c.length≤1048576:=by rw[hn];rw[hadd] at hl;omega
      obtain⟨c',h1,h2,h3,h4⟩:=loop s.length 0 c (by omega) hc hs hcl (fun x=>⟨.inl,fun h=>h.elim id fun⟨j,hj,_⟩=>by omega⟩) (by omega) hbig
      refine⟨c',?_,h2,h3,?_⟩
      · refine qak ?_
        simp only[run_Z137,Z137.ev]
        refine qaa (qbY (c,()) s hc) (qaB (decide_eq_false fun h=>hm (qa6.1 h)) ?_)
        exact Ev.start (p:=fun φ n=>Z137.l0 (mkR (run E (φ 0))) (φ 0) n s 0 c=_) 1 h1 (fun _ _ _ h=>h)
      · rw[hadd,← hn];omega
theorem qlJ(l:List Sim)(hl:l.length≤1024)(hx:∀ s∈l,1≤s.length∧s.length≤4) :
    ∃ c',Ret E n_Z129 [dLL l] ⟨o_Z129,(c',())⟩∧Srt c'∧(∀ x,x∈c'↔∃ s∈l,Fa x s)∧c'.length≤41*l.length:=by
  have loop:∀ d i (o:List Sim),i+d=l.length→Srt o→(∀ x,x∈o↔∃ s∈l.take i,Fa x s)→o.length≤41*i →
      ∃ c',(Ev fun φ=>Z129.l0 (mkR (run E (φ 0))) (φ 0) (φ 1) l (i:Int) o=some ⟨o_Z129,(c',())⟩)∧Srt c'∧(∀ x,x∈c'↔∃ s∈l,Fa x s)∧c'.length≤41*l.length:=by
    intro d
    induction d with
    | zero =>
      intro i o hi h1 h2 h3
      obtain rfl:i=l.length:=by omega
      rw[List.take_length] at h2
      refine⟨o,?_,h1,h2,h3⟩
      refine Ev.round 1 (L:=fun φ n=>Z129.l0 (mkR (run E (φ 0))) (φ 0) n l (l.length:Int) o) ?_ (fun _ _ _=>rfl)
      simp only[Z129.l0_succ _ qaf]
      exact qaB (decide_eq_false (by omega)) qam
    | succ d ih =>
      intro i o hi h1 h2 h3
      have hil:i<l.length:=by omega
      obtain⟨g1,g2⟩:=hx _ (List.getElem_mem hil)
      have hadd:qmw (l[i].length-1)≤41:=by
        have:l[i].length-1=0∨l[i].length-1=1∨l[i].length-1=2∨l[i].length-1=3:=by omega
        rcases this with e | e | e | e<;>rw[e]<;>decide
      have hlen:∀ x∈o,x.length≤4:=fun x hx'=>by
        obtain⟨s,hs,hf⟩:=(h2 x).1 hx'
        have:=(hx s (List.mem_of_mem_take hs)).2
        have:=qoq hf
        omega
      obtain⟨o',hr,hs',hm',hl'⟩:=qqj (l[i].length-1) l[i] o (by omega) (by omega) (by omega) ⟨by show o.length≤1048576;omega,fun x hx'=>by have:=hlen x hx';exact⟨by show x.length≤1048576;omega,fun _ _=>trivial⟩⟩ h1 (fun y hy x hxy=>by
        obtain⟨s,hs,hf⟩:=(h2 y).1 hy
        exact(h2 x).2 ⟨s,hs,qjX hxy hf⟩)
      obtain⟨c',hc1,hc2⟩:=ih (i+1) o' (by omega) hs' (fun x=>by
        rw[hm',h2,List.take_succ_eq_append_getElem hil]
        constructor
        · rintro(⟨s,hs,h⟩ | h)
          · exact⟨s,List.mem_append.2 (.inl hs),h⟩
          · exact⟨_,List.mem_append.2 (.inr (List.mem_singleton.2 rfl)),h⟩
        · rintro⟨s,hs,h⟩
          rcases List.mem_append.1 hs with hs | hs
          · exact .inl ⟨s,hs,h⟩
          · rw[List.mem_singleton] at hs;subst hs;exact .inr h) (by omega)
      refine⟨c',?_,hc2⟩
      refine Ev.round 1 (L:=fun φ n=>Z129.l0 (mkR (run E (φ 0))) (φ 0) n l (i:Int) o) ?_ (fun _ _ _=>rfl)
      simp only[Z129.l0_succ _ qaf]
      refine qax (decide_eq_true (by omega)) (qab (qai hil) (qaa hr ?_))
      rw[qae (by omega)]
      exact hc1
  obtain⟨c',h1,h2⟩:=loop l.length 0 [] (by omega) (fun i j hj=>by simp at hj) (fun x=>by simp) (by simp)
  refine⟨c',?_,h2⟩
  refine qak ?_
  simp only[run_Z129,Z129.ev]
  exact Ev.start (p:=fun φ n=>Z129.l0 (mkR (run E (φ 0))) (φ 0) n l 0 []=_) 1 h1 (fun _ _ _ h=>h)
end VeT
open Go Go.Proofs Ve
namespace VeT
def EvQ(A:(Nat→Nat)→Option Dv)(out:Ty)(Q:out.T→Prop):Prop:=∃ x,(Ev fun φ=>A φ=some ⟨out,x⟩)∧Q x
def qiM(f:Nat)(args:List Dv)(out:Ty)(Q:out.T→Prop):Prop:=∃ x,Ret E f args ⟨out,x⟩∧Q x
theorem qbW{f:Nat}{args:List Dv}{out:Ty}{Q:out.T→Prop}(h:EvQ (fun φ=>run E (φ 0+1) f args) out Q):qiM f args out Q:=let ⟨x,h1,h2⟩:=h;⟨x,qak h1,h2⟩
theorem qaY{out:Ty}{Q:out.T→Prop}{x:out.T}(h:Q x):EvQ (fun _=>some ⟨out,x⟩) out Q:=⟨x,qam,h⟩
theorem qaG{f:Nat}{o:Ty}{args:List Dv}{x:o.T}{out:Ty}{Q:out.T→Prop}{K:(Nat→Nat)→o.T→Option Dv}(h:Ret E f args ⟨o,x⟩)(k:EvQ (fun φ=>K φ x) out Q) :
  EvQ (fun φ=>(Option.bind (qlR (mkR (run E (φ 0))) f o args) fun y=>K φ y)) out Q:=let ⟨z,h1,h2⟩:=k;⟨z,qaa h h1,h2⟩
theorem qa7{f:Nat}{o:Ty}{args:List Dv}{P:o.T→Prop}{out:Ty}{Q:out.T→Prop}{K:(Nat→Nat)→o.T→Option Dv}(h:qiM f args o P)(k:∀ x,P x→EvQ (fun φ=>K φ x) out Q) :
  EvQ (fun φ=>(Option.bind (qlR (mkR (run E (φ 0))) f o args) fun y=>K φ y)) out Q:=let ⟨x,h1,h2⟩:=h;qaG h1 (k x h2)
theorem qbV{α:Type}{c:Option α}{x:α}{K:(Nat→Nat)→α→Option Dv}{out:Ty}{Q:out.T→Prop}(h:c=some x)(k:EvQ (fun φ=>K φ x) out Q) :
  EvQ (fun φ=>(Option.bind c fun y=>K φ y)) out Q:=let ⟨z,h1,h2⟩:=k;⟨z,qab h h1,h2⟩
theorem qaR{b:Bool}{K:(Nat→Nat)→Unit→Option Dv}{out:Ty}{Q:out.T→Prop}(h:b=true)(k:EvQ (fun φ=>K φ ()) out Q) :
  EvQ (fun φ=>(Option.bind (chk b) fun y=>K φ y)) out Q:=let ⟨z,h1,h2⟩:=k;⟨z,qan h h1,h2⟩
theorem qql{b:Bool}{A B:(Nat→Nat)→Option Dv}{out:Ty}{Q:out.T→Prop}(h:b=true)(k:EvQ A out Q):EvQ (fun φ=>bif b then A φ else B φ) out Q:=by subst h;exact k
theorem qnD{b:Bool}{A B:(Nat→Nat)→Option Dv}{out:Ty}{Q:out.T→Prop}(h:b=false)(k:EvQ B out Q):EvQ (fun φ=>bif b then A φ else B φ) out Q:=by subst h;exact k
theorem qdg{b:Bool}{A B:(Nat→Nat)→Option Dv}{out:Ty}{Q:out.T→Prop}(t:b=true→EvQ A out Q)(f:b=false→EvQ B out Q):EvQ (fun φ=>bif b then A φ else B φ) out Q:=by
 cases b
 ·exact f rfl
 ·exact t rfl
theorem qcs{p:Prop}[Decidable p]{A B:(Nat→Nat)→Option Dv}{out:Ty}{Q:out.T→Prop}(t:p→EvQ A out Q)(f:¬ p→EvQ B out Q):EvQ (fun φ=>bif decide p then A φ else B φ) out Q :=
 qdg (fun h=>t (of_decide_eq_true h)) fun h=>f (of_decide_eq_false h)
theorem EvQ.round(l:Nat){L:(Nat→Nat)→Nat→Option Dv}{out:Ty}{Q:out.T→Prop}(h:EvQ (fun φ=>L φ (φ l+1)) out Q)(hind:∀ φ n n',L (fup φ l n') n=L φ n):EvQ (fun φ=>L φ (φ l)) out Q :=
 let ⟨z,h1,h2⟩:=h;⟨z,Ev.round l h1 hind,h2⟩
theorem EvQ.start(l:Nat){L:(Nat→Nat)→Nat→Option Dv}{out:Ty}{Q:out.T→Prop}(h:EvQ (fun φ=>L φ (φ l)) out Q)(hind:∀ φ n n',L (fup φ l n') n=L φ n):EvQ (fun φ=>L φ (φ 0)) out Q :=
 let ⟨z,h1,h2⟩:=h;⟨z,Ev.start (p:=fun φ n=>L φ n=_) l h1 (fun φ n n' h=>by rw[hind] at h;exact h),h2⟩
theorem EvQ.loop(l:Nat){σ:Type}{L:(Nat→Nat)→Nat→σ→Option Dv}{out:Ty}{Q:out.T→Prop}(hind:∀ φ n n' s,L (fup φ l n') n s=L φ n s)(Inv:σ→Prop)(μ:σ→Nat)
  (step:∀ s,Inv s→(∀ s',Inv s'→μ s'<μ s→EvQ (fun φ=>L φ (φ l) s') out Q)→EvQ (fun φ=>L φ (φ l+1) s) out Q):∀ s,Inv s→EvQ (fun φ=>L φ (φ l) s) out Q:=by
 have key:∀ d s,μ s<d→Inv s→EvQ (fun φ=>L φ (φ l) s) out Q:=by
  intro d
  induction d with
  | zero=>intro s h;omega
  | succ d ih =>
   intro s hd hi
   exact EvQ.round l (L:=fun φ n=>L φ n s) (step s hi fun s' hi' hl=>ih s' (by omega) hi') (fun φ n n'=>hind φ n n' s)
 exact fun s=>key _ s (Nat.lt_succ_self _)
abbrev Src:=List Int×Int×Int×Unit
abbrev cR:Ty:=.cons (.sl (.int .u8)) (.cons (.int .i64) (.cons (.int .u64) .nil))
abbrev dR(s:Src):Dv:=⟨.ptr cR,s⟩
abbrev dB(s:List Int):Dv:=⟨.sl (.int .u8),s⟩
def SO(n:Nat)(s:Src):Prop:=(∀ b∈s.1,0≤b∧b≤255)∧0≤s.2.1∧s.2.1≤(n:Int)
theorem SO.le{n m:Nat}{s:Src}(h:SO n s)(hm:n≤m):SO m s:=⟨h.1,h.2.1,by have:=h.2.2;omega⟩
theorem qlX(c:List Int):Ret E n_Z100 [dB c] ⟨o_Z100,((c,0,0,()),())⟩:=by
 refine qak ?_
 simp only[run_Z100,Z100.ev]
 exact Ev.of fun _=>trivial
theorem qp1(x:BitVec (IntKind.bits .u64)):0≤w64 (IntKind.wrap .u64 (BitVec.toNat (x &&& BitVec.ofInt (IntKind.bits .u64) (255:Int))))∧w64 (IntKind.wrap .u64 (BitVec.toNat (x &&& BitVec.ofInt (IntKind.bits .u64) (255:Int))))≤255:=by
 have h:(x &&& BitVec.ofInt (IntKind.bits .u64) (255:Int)).toNat≤255:=by
  rw[BitVec.toNat_and]
  have:(BitVec.ofInt (IntKind.bits .u64) (255:Int)).toNat=255:=by decide
  rw[this]
  exact Nat.and_le_right
 rw[qlk (by omega) (by omega),qag (by omega) (by omega)]
 omega
theorem qmR(n:Nat)(s:Src)(hn:n≤1152921504606846976)(hs:SO n s):qiM n_Z108 [dR s] o_Z108 fun(r:Int×Src×Unit)=>0≤r.1∧r.1≤255∧SO (n+1) r.2.1:=by
 obtain⟨c,a,g,⟨⟩⟩:=s
 obtain⟨h1,h2,h3⟩:=hs
 simp only at h1 h2 h3
 have ha:w64 (a+1)=a+1:=qag (by omega) (by omega)
 have hj:∀ b:Int,0≤b→b≤255→EvQ (fun φ=>Z108.j0 (mkR (run E (φ 0))) (φ 0) b c a g) o_Z108 fun(r:Int×Src×Unit)=>0≤r.1∧r.1≤255∧SO (n+1) r.2.1:=by
  intro b hb1 hb2
  simp only[Z108.j0_eq _ qaf,ha]
  refine qcs (fun h=>qaY ⟨hb1,hb2,h1,?_,?_⟩) fun h=>?_
  ·show 0≤a+1;omega
  ·show a+1≤((n+1:Nat):Int);omega
  ·refine qaR (by decide) (qaY ⟨?_,?_,h1,?_,?_⟩)
   ·exact(qp1 _).1
   ·exact(qp1 _).2
   ·show 0≤a+1;omega
   ·show a+1≤((n+1:Nat):Int);omega
 refine qbW ?_
 simp only[run_Z108,Z108.ev]
 refine qcs (fun h=>?_) fun h=>hj 0 (by omega) (by omega)
 obtain⟨k,rfl⟩:∃ k:Nat,a=(k:Int):=⟨a.toNat,by omega⟩
 have hk:k<c.length:=by omega
 have hb:=h1 _ (List.getElem_mem hk)
 refine qbV (qai hk) ?_
 have e:w64 c[k]=c[k]:=qag (by omega) (by omega)
 have:=hj _ hb.1 hb.2
 rw[← e] at this
 exact this
theorem qbb(n:Nat)(s:Src)(k:Int)(hn:n≤1000000000000)(hs:SO n s):qiM n_Z110 [dR s,dI k] o_Z110 fun(r:Int×Src×Unit)=>0≤r.1∧(r.1<k∨r.1=0)∧r.1≤65535∧SO (n+2) r.2.1:=by
 obtain⟨c,a,g,⟨⟩⟩:=s
 refine qbW ?_
 simp only[run_Z110,Z110.ev]
 refine qcs (fun h=>qaY ⟨Int.le_refl _,.inr rfl,(by show(0:Int)≤65535;decide),hs.le (by omega)⟩) fun h=>?_
 have hk:0<k:=by omega
 have tm:∀ x:Int,0≤x→0≤Int.tmod x k∧Int.tmod x k<k∧Int.tmod x k≤x:=fun x hx=>by
  rw[Int.tmod_eq_emod_of_nonneg hx]
  have h1:=Int.mul_ediv_add_emod x k
  have h2:0≤k*(x / k):=Int.mul_nonneg (by omega) (Int.ediv_nonneg hx (by omega))
  generalize k*(x / k)=y at h1 h2
  exact⟨Int.emod_nonneg _ (by omega),Int.emod_lt_of_pos _ hk,by omega⟩
 have hne:(k != 0)=true:=by simp;omega
 refine qa7 (qmR n _ (by omega) hs) fun(r:Int×Src×Unit) ⟨r1,r2,r3⟩=>?_
 refine qcs (fun h2=>?_) fun h2=>?_
 ·refine qa7 (qmR (n+1) _ (by omega) r3) fun(q:Int×Src×Unit) ⟨q1,q2,q3⟩=>?_
  refine qaR hne (qaY ?_)
  have e1:w64 (r.1*256)=r.1*256:=qag (by omega) (by omega)
  have e2:w64 (r.1*256+q.1)=r.1*256+q.1:=qag (by omega) (by omega)
  have:=tm (r.1*256+q.1) (by omega)
  refine⟨?_,.inl ?_,?_,q3⟩
  ·show 0≤Int.tmod _ _;rw[e1,e2];exact this.1
  ·show Int.tmod _ _<_;rw[e1,e2];exact this.2.1
  ·show Int.tmod _ _≤_;rw[e1,e2];omega
 ·have:=tm r.1 r1
  exact qaR hne (qaY ⟨this.1,.inl this.2.1,(by show Int.tmod _ _≤_;omega),r3.le (by omega)⟩)
theorem qjM(n:Nat)(s:Src)(k:Int)(hn:n≤1000000000000)(hs:SO n s):qiM n_Z109 [dR s,dI k] o_Z109 fun(r:Bool×Src×Unit)=>SO (n+2) r.2.1:=by
 obtain⟨c,a,g,⟨⟩⟩:=s
 refine qbW ?_
 simp only[run_Z109,Z109.ev]
 exact qa7 (qbb n _ k hn hs) fun(r:Int×Src×Unit) ⟨r1,r2,r3,r4⟩=>qaY r4
theorem qed(n:Nat)(s:Src)(l:List Int)(hl:l≠[])(hn:n≤1000000000000)(hs:SO n s):qiM n_Z107 [dR s,dL l] o_Z107 fun(r:Int×Src×Unit)=>r.1∈l∧SO (n+2) r.2.1:=by
 obtain⟨c,a,g,⟨⟩⟩:=s
 have:0<l.length:=List.length_pos_iff.2 hl
 refine qbW ?_
 simp only[run_Z107,Z107.ev]
 refine qa7 (qbb n _ _ hn hs) fun(r:Int×Src×Unit) ⟨r1,r2,r3,r4⟩=>?_
 obtain⟨k,hk⟩:∃ k:Nat,r.1=(k:Int):=⟨r.1.toNat,by omega⟩
 have hkl:k<l.length:=by omega
 rw[hk]
 exact qbV (qai hkl) (qaY ⟨List.getElem_mem hkl,r4⟩)
end VeT
open Go Go.Proofs Ve
namespace VeT
theorem qdJ{c:List Sim}(hv:VC c):(qbQ c c.length).length≤192:=by
 have h:=hv.plc (k:=c.length) (Nat.le_refl _)
 have:=hv.1
 unfold plc at h
 omega
theorem qgf(c:List Sim)(p:Int)(st:Sim)(hc:Sm (.sl (.sl (.int .i64))) c)(hv:VC c)(hl:st.length=c.length)(hst:∀ x∈st,0≤x∧x≤3) :
  Ret E n_Z150 [dC (c,()),dI p,dL st] ⟨o_Z150,(c,p,st,(qbQ c c.length).map (zOf p st),())⟩:=by
 have hs:=hv.srt
 have h192:=qdJ hv
 have h48:=hv.1
 refine qak ?_
 simp only[run_Z150,Z150.ev]
 refine qaa (qic c hc hv) (qaa (qcL st (by omega)) ?_)
 refine Ev.start (p:=fun φ n=>Z150.l0 (mkR (run E (φ 0))) (φ 0) n (c,()) p st 0 0 p [] c st=_) 1 ?_ (fun _ _ _ h=>h)
 refine qao 1 (L:=fun φ n k o=>Z150.l0 (mkR (run E (φ 0))) (φ 0) n (c,()) p st k 0 p o c st) (len:=c.length) (fun k=>(qbQ c k).map (zOf p st)) (fun _ _ _ _ _=>rfl) (fun k r hk ih=>?_) ?_
 ·simp only[Z150.l0_succ _ qaf]
  have hpl:=hv.plc (k:=k) (by omega)
  unfold plc at hpl
  have hf4:=hv.fIdx4 hk
  refine qax (decide_eq_true (by show(k:Int)<(c.length:Int);omega)) (qaa (qb5 c k hk hc) ?_)
  refine Ev.start (p:=fun φ n=>Z150.l1 (mkR (run E (φ 0))) (φ 0) (φ 1) n (c,()) p st (k:Int) (qaF c k) 0 0 p ((qbQ c k).map (zOf p st)) c st=_) 2 ?_ (fun _ _ _ h=>h)
  have:=qao 2 (L:=fun φ n j o=>Z150.l1 (mkR (run E (φ 0))) (φ 0) (φ 1) n (c,()) p st (k:Int) (qaF c k) j 0 p o c st) (len:=(qaF c k).length) (fun j=>(qbQ c k++qmd c k j).map (zOf p st)) (r:=r) (fun _ _ _ _ _=>rfl) (fun j r hj ih=>?_) ?_
  ·simpa [qmd] using this
  ·simp only[Z150.l1_succ _ qaf]
   obtain⟨f,f1,f2,f3⟩:=qeJ hs hv hk hj
   obtain⟨a,ha,ea,hka,eka⟩:=qgl hl hst hk
   obtain⟨b,hb,eb,hfb,efb⟩:=qgl hl hst f1
   have hz:=qcl p a b (by omega) (by omega)
   have e2:zOf p st ((k:Int),(j:Int),(qaF c k).getD j 0,())=(p,(a:Int),(b:Int),List.replicate (a*b) 0,()):=by
    unfold zOf
    simp only[Int.toNat_natCast,ea,eb,f3]
   have erow:qmd c k (j+1)=qmd c k j++[((k:Int),(j:Int),(qaF c k).getD j 0,())]:=by
    unfold qmd
    rw[List.range_succ,List.map_append,List.map_singleton]
   rw[erow,← List.append_assoc,List.map_append (l₂:=[_]),List.map_singleton,e2] at ih
   refine qax (decide_eq_true (by omega)) (qab (qai hka) (qab (qai hj) ?_))
   simp only[eka,f2]
   refine qab (qai hfb) ?_
   simp only[efb]
   refine qaa hz (qan (by simp only[List.length_map,List.length_append,qdN,List.length_singleton,decide_eq_true_eq];omega) ?_)
   rw[qae (by omega)];exact ih
  ·simp only[Z150.l1_succ _ qaf]
   refine qaB (decide_eq_false (by omega)) ?_
   rw[qae (by omega)]
   have:qbQ c (k+1)=qbQ c k++qmd c k (qaF c k).length:=rfl
   rw[this] at ih
   exact ih
 ·simp only[Z150.l0_succ _ qaf]
  exact qaB (decide_eq_false (by show ¬ ((c.length:Int)<(c.length:Int));omega)) qam
theorem qb8(c:List Sim)(p:Int)(n:Nat)(hn:n≤3)(hc:Sm (.sl (.sl (.int .i64))) c)(hv:VC c) :
  Ret E n_Z142 [dC (c,()),dI p,dI (n:Int)] ⟨o_Z142,(c,p,List.replicate c.length (n:Int),List.replicate (qbQ c c.length).length (qaW p n),())⟩:=by
 have h192:=qdJ hv
 have h48:=hv.1
 refine qak ?_
 simp only[run_Z142,Z142.ev]
 refine Ev.start (p:=fun φ q=>Z142.l0 (mkR (run E (φ 0))) (φ 0) q (c,()) p (n:Int) 0 0 []=_) 1 ?_ (fun _ _ _ h=>h)
 refine qao 1 (L:=fun φ q k o=>Z142.l0 (mkR (run E (φ 0))) (φ 0) q (c,()) p (n:Int) k 0 o) (len:=c.length) (fun k=>List.replicate k (n:Int)) (fun _ _ _ _ _=>rfl) (fun k r hk ih=>?_) ?_
 ·simp only[Z142.l0_succ _ qaf]
  rw[List.replicate_succ'] at ih
  refine qax (decide_eq_true (by show(k:Int)<(c.length:Int);omega)) (qan (by simp only[List.length_replicate,List.length_singleton,decide_eq_true_eq];omega) ?_)
  rw[qae (by omega)];exact ih
 ·simp only[Z142.l0_succ _ qaf]
  have hnew:=qgf c p (List.replicate c.length (n:Int)) hc hv (by simp) fun x hx=>by
   rw[List.eq_of_mem_replicate hx];omega
  refine qaB (decide_eq_false (by show ¬ ((c.length:Int)<(c.length:Int));omega)) (qaa hnew ?_)
  obtain⟨M,hM⟩:∃ M,M=(qbQ c c.length).map (zOf p (List.replicate c.length (n:Int))):=⟨_,rfl⟩
  rw[← hM]
  have hMl:M.length=(qbQ c c.length).length:=by rw[hM,List.length_map]
  rw[← hMl] at h192 ⊢
  refine Ev.start (p:=fun φ q=>Z142.l1 (mkR (run E (φ 0))) (φ 0) q p (n:Int) 0 0 p M c (List.replicate c.length (n:Int))=_) 1 ?_ (fun _ _ _ h=>h)
  have:=qao 1 (L:=fun φ q k o=>Z142.l1 (mkR (run E (φ 0))) (φ 0) q p (n:Int) k 0 p o c (List.replicate c.length (n:Int))) (len:=M.length) (fun k=>List.replicate k (qaW p n)++M.drop k) (r:=some ⟨o_Z142,(c,p,List.replicate c.length (n:Int),List.replicate M.length (qaW p n),())⟩) (fun _ _ _ _ _=>rfl) (fun k r hk ih=>?_) ?_
  ·simpa using this
  ·simp only[Z142.l1_succ _ qaf]
   have hlen:(List.replicate k (qaW p n)++M.drop k).length=M.length:=by simp;omega
   have hset:(List.replicate k (qaW p n)++M.drop k).set k (qaW p n)=List.replicate (k+1) (qaW p n)++M.drop (k+1):=by
    rw[List.set_append_right _ _ (by simp),List.length_replicate,Nat.sub_self,List.drop_eq_getElem_cons hk,List.set_cons_zero,List.replicate_succ',List.append_assoc,List.singleton_append]
   refine qax (decide_eq_true (by rw[hlen];omega)) (qaa (qdL p n (by omega)) (qan (by simp only[hlen,Bool.and_eq_true,decide_eq_true_eq];omega) ?_))
   rw[qae (by omega),Int.toNat_natCast]
   have e:((qaW p n).1,(qaW p n).2.1,(qaW p n).2.2.1,(qaW p n).2.2.2.1,())=qaW p n:=rfl
   show Ev fun φ=>Z142.l1 (mkR (run E (φ 0))) (φ 0) (φ 1) p (n:Int) ((k+1:Nat):Int) 0 p (List.set (List.replicate k (qaW p n)++M.drop k) k (qaW p n)) c (List.replicate c.length (n:Int))=r
   rw[hset]
   exact ih
  ·simp only[Z142.l1_succ _ qaf]
   refine qaB (decide_eq_false (by simp)) (qaj ?_)
   simp
end VeT
open Go Go.Proofs Ve
namespace VeT
def qhd:List Int→Int→List Int
 | [],n=>[n]
 | x::r,n=>if x<n then x::qhd r n else if n<x then n::x::r else x::r
theorem qg4:∀ {l:List Int} {n y:Int},y∈qhd l n↔y=n∨y∈l
 | [],n,y=>by simp[qhd]
 | x::r,n,y=>by
  unfold qhd
  split
  ·rw[List.mem_cons,qg4,List.mem_cons]
   constructor
   ·rintro(h | h | h)
    ·exact .inr (.inl h)
    ·exact .inl h
    ·exact .inr (.inr h)
   ·rintro(h | h | h)
    ·exact .inr (.inl h)
    ·exact .inl h
    ·exact .inr (.inr h)
  ·split
   ·rw[List.mem_cons]
   ·have:x=n:=by omega
    subst this
    rw[List.mem_cons]
    exact⟨fun h=>.inr h,fun h=>h.elim (fun h=>.inl h) id⟩
theorem qkT:∀ {l:List Int} {n:Int},l.Pairwise (·<·)→(qhd l n).Pairwise (·<·)
 | [],n,_=>by simp[qhd]
 | x::r,n,h=>by
  rw[List.pairwise_cons] at h
  unfold qhd
  split
  ·rw[List.pairwise_cons]
   refine⟨fun y hy=>?_,qkT h.2⟩
   rcases qg4.1 hy with rfl | hy
   ·assumption
   ·exact h.1 y hy
  ·split
   ·rw[List.pairwise_cons]
    refine⟨fun y hy=>?_,List.pairwise_cons.2 h⟩
    rcases List.mem_cons.1 hy with rfl | hy
    ·assumption
    ·have:=h.1 y hy;omega
   ·exact List.pairwise_cons.2 h
theorem qhK:∀ {l:List Int} {n:Int},(qhd l n).length≤l.length+1
 | [],n=>by simp[qhd]
 | x::r,n=>by
  unfold qhd
  split
  ·have:=qhK (l:=r) (n:=n);simp;exact this
  ·split<;>simp
theorem VC.get{c:List Sim}(h:VC c){s:Sim}(hs:s∈c):Vx s:=by
 obtain⟨k,hk,rfl⟩:=List.mem_iff_getElem.1 hs
 have:=h.2.1 k hk
 rwa [qad hk] at this
noncomputable def qr1(vs im:List Int)(v:Int):Int:=match vs.findIdx? (fun x=>pb (x=v)) with
 | some i=>im.getD i (-1)
 | none=>-1
theorem qnC(l:Sim)(n:Int)(hl:l.length≤1048576):Ret E n_Z104 [dL l,dI n] ⟨o_Z104,(qhd l n,())⟩:=by
  refine qak ?_
  simp only[run_Z104,Z104.ev]
  refine Ev.start (p:=fun φ N=>Z104.l0 (mkR (run E (φ 0))) (φ 0) N l n false 0 []=_) 1 ?_ (fun _ _ _ h=>h)
  refine(qeQ 1 (σ:=Bool×Nat×List Int) (L:=fun φ N st=>Z104.l0 (mkR (run E (φ 0))) (φ 0) N l n st.1 (st.2.1:Int) st.2.2) (fun _ _ _ _=>rfl) (fun st=>st.2.1≤l.length∧st.2.2.length≤st.2.1+(bif st.1 then 1 else 0))
    (fun st=>some ⟨o_Z104,(st.2.2++(bif st.1 then l.drop st.2.1 else qhd (l.drop st.2.1) n),())⟩) (fun st=>l.length-st.2.1) (fun st hi ih=>?_) (false,0,[]) ⟨Nat.zero_le _,Nat.zero_le _⟩).to (by simp only[List.nil_append,cond_false,List.drop_zero])
  obtain⟨d,i,o⟩:=st
  obtain⟨h1,h2⟩:=hi
  simp only at h1 h2 ih ⊢
  by_cases hlt:i<l.length
  · have ol:o.length≤i+1:=by cases d<;>simp at h2<;>omega
    have hd:l.drop i=l[i]::l.drop (i+1):=List.drop_eq_getElem_cons hlt
    -- what follows
    have step:∀(d':Bool) (o' X:List Int),o'.length≤i+(bif d' then 1 else 0)→(o'++[l[i]])++(bif d' then l.drop (i+1) else qhd (l.drop (i+1)) n)=X →
        Ev fun φ=>Z104.j2 (mkR (run E (φ 0))) (φ 0) (φ 1) l n d' (i:Int) o'=some ⟨o_Z104,(X,())⟩:=fun d' o' X hol hX=>by
      have ho2:o'.length≤i+1:=by cases d'<;>simp at hol<;>omega
      have:=ih (d',i+1,o'++[l[i]]) ⟨by show i+1≤_;omega,by
        simp only[List.length_append,List.length_singleton]
        cases d'<;>simp at hol ⊢<;>omega⟩ (by simp only;omega)
      simp only at this
      rw[hX] at this
      simp only[Z104.j2_eq _ qaf]
      rw[qae (by omega)]
      exact qab (qai hlt) (qan (by simp;omega) this)
    simp only[Z104.l0_succ _ qaf]
    refine qax (decide_eq_true (by omega)) ?_
    cases d with
    | true =>
      refine qaB rfl ?_
      have e:o++List.drop i l=(o++[l[i]])++l.drop (i+1):=by rw[hd];simp
      simp only[cond_true] at h2 ⊢
      rw[e]
      simp only[Z104.j1_eq _ qaf]
      refine qaB rfl ?_
      exact step true o _ h2 (by simp only[cond_true])
    | false =>
      refine qax rfl (qab (qai hlt) ?_)
      simp only[cond_false,Nat.add_zero] at h2 ⊢
      simp only[Z104.j1_eq _ qaf]
      refine qec (fun hge=>?_) fun hge=>?_
      · have hge:l[i]≥n:=hge
        refine qab (qai hlt) (qec (fun hgt=>?_) fun hgt=>?_)
        · have e:o++qhd (List.drop i l) n=((o++[n])++[l[i]])++l.drop (i+1):=by
            rw[hd,qhd,if_neg (by omega),if_pos (show n<l[i] from hgt)];simp
          rw[e]
          exact qan (by simp;omega) (step true (o++[n]) _ (by simp;omega) (by simp only[cond_true]))
        · have hgt:¬ l[i]>n:=hgt
          have e:o++qhd (List.drop i l) n=(o++[l[i]])++l.drop (i+1):=by
            rw[hd,qhd,if_neg (by omega),if_neg (by omega)];simp
          rw[e]
          exact step true o _ (by simp;omega) (by simp only[cond_true])
      · have hge:¬ l[i]≥n:=hge
        have e:o++qhd (List.drop i l) n=(o++[l[i]])++qhd (l.drop (i+1)) n:=by
          rw[hd,qhd,if_pos (by omega)];simp
        rw[e]
        exact step false o _ (by simp;omega) (by simp only[cond_false])
  · have hi:i=l.length:=by omega
    subst hi
    simp only[Z104.l0_succ _ qaf,List.drop_length]
    refine qaB (decide_eq_false (by omega)) ?_
    cases d with
    | true=>exact qaB rfl (qaj (by simp only[cond_true,List.append_nil]))
    | false =>
      simp only[cond_false,Nat.add_zero] at h2 ⊢
      exact qax rfl (qan (by simp;omega) qam)
end VeT
open Go Go.Proofs Ve
namespace VeT
def qo9:Sim→List Sim
 | []=>[[]]
 | a::s=>qo9 s++(qo9 s).map (a::·)
theorem qh7:∀ {s:Sim},(qo9 s).length=2 ^ s.length
 | []=>rfl
 | a::s=>by rw[qo9,List.length_append,List.length_map,qh7,List.length_cons,Nat.pow_succ];omega
theorem qg3:∀ {x s:Sim},x.Sublist s→x∈qo9 s
 | _,_,.slnil=>by simp[qo9]
 | _,_,.cons a h=>by rw[qo9];exact List.mem_append.2 (.inl (qg3 h))
 | _,_,.cons_cons a h=>by rw[qo9];exact List.mem_append.2 (.inr (List.mem_map.2 ⟨_,qg3 h,rfl⟩))
theorem qio{α:Type}[DecidableEq α]:∀ {c d:List α},c.Nodup→(∀ x∈c,x∈d)→c.length≤d.length
 | [],d,_,_=>Nat.zero_le _
 | x::c,d,h,hs=>by
  obtain⟨h1,h2⟩:=List.nodup_cons.1 h
  have hx:=hs x List.mem_cons_self
  have:=qio h2 (d:=d.erase x) fun y hy=>(List.mem_erase_of_ne (fun e=>h1 (by rw[← e];exact hy))).2 (hs y (List.mem_cons_of_mem _ hy))
  rw[List.length_erase_of_mem hx] at this
  have:=List.length_pos_of_mem hx
  rw[List.length_cons];omega
theorem Srt.nodup{c:List Sim}(h:Srt c):c.Nodup:=by
 rw[List.nodup_iff_pairwise_ne,List.pairwise_iff_getElem]
 intro i j hi hj hij e
 have:=h i j hj hij
 rw[e,qb9.2 rfl] at this
 omega
theorem Vx.fa{x s:Sim}(h:Vx s)(hf:Fa x s):Vx x:=by
 refine⟨List.length_pos_iff.2 hf.1,?_,qdH (h.2.2.1.pairwise.sublist hf.2),fun y hy=>h.2.2.2 y (hf.2.subset hy)⟩
 have:=hf.2.length_le
 have:=h.2.1
 omega
theorem qiw{l c:List Sim}(hs:Srt c)(hm:∀ x,x∈c↔∃ s∈l,Fa x s):c.length≤(l.map fun s=>2 ^ s.length).sum:=by
 have h:=qio hs.nodup (d:=l.flatMap qo9) fun x hx=>by
  obtain⟨s,hs,hf⟩:=(hm x).1 hx
  exact List.mem_flatMap.2 ⟨s,hs,qg3 hf.2⟩
 rw[List.length_flatMap] at h
 simp only[qh7] at h
 exact h
theorem qji(l:List Sim)(hl:l.length≤1024)(hx:∀ s∈l,Vx s)(hn:∀ c:List Sim,Srt c→(∀ x,x∈c↔∃ s∈l,Fa x s)→c.length≤48) :
  qiM n_Z129 [dLL l] o_Z129 fun(r:List Sim×Unit)=>VC r.1∧∀ x,x∈r.1↔∃ s∈l,Fa x s:=by
 obtain⟨c',h1,h2,h3,_⟩:=qlJ l hl fun s hs=>⟨(hx s hs).1,(hx s hs).2.1⟩
 have hv:∀ x∈c',Vx x:=fun x hx'=>by
  obtain⟨s,hs,hf⟩:=(h3 x).1 hx'
  exact(hx s hs).fa hf
 have hg:∀ k,k<c'.length→c'.getD k []∈c':=fun k hk=>by
  rw[List.getD_eq_getElem?_getD,List.getElem?_eq_getElem hk];exact List.getElem_mem hk
 refine⟨(c',()),h1,⟨hn c' h2 h3, fun k hk=>hv _ (hg k hk),fun k hk1 (hk:k<c'.length)=>?_,fun k (hk:k<c'.length) f hf=>?_⟩,h3⟩
 ·have:=h2 (k-1) k hk (by omega)
  rw[List.getD_eq_getElem?_getD,List.getD_eq_getElem?_getD,List.getElem?_eq_getElem hk,List.getElem?_eq_getElem (show k-1<c'.length by omega)]
  exact this
 ·obtain⟨s,hs,hfa⟩:=(h3 _).1 (hg k hk)
  obtain⟨h1,i,hi,rfl⟩:=qcw.1 hf
  refine(h3 _).2 ⟨s,hs,qjX ⟨fun e=>?_,List.eraseIdx_sublist _ _⟩ hfa⟩
  have:=congrArg List.length e
  rw[List.length_eraseIdx_of_lt hi] at this
  rw[List.length_nil] at this
  omega
theorem VC.sm{c:List Sim}(h:VC c):Sm (.sl (.sl (.int .i64))) c:=by
 refine⟨by have:=h.1;show c.length≤1048576;omega,fun s hs=>?_⟩
 obtain⟨k,hk,rfl⟩:=List.getElem_of_mem hs
 have:=h.2.1 k hk
 rw[List.getD_eq_getElem?_getD,List.getElem?_eq_getElem hk] at this
 have:=this.2.1
 refine⟨?_,fun _ _=>trivial⟩
 show(c[k]).length≤1048576
 simp at this
 omega
theorem qid(n:Nat)(s:Src)(v most:Int)(hn:n≤100000000000)(hs:SO n s)(hm:1≤most∧most≤4)(hv:1≤v∧v≤10) :
  qiM n_Z130 [dR s,dI v,dI most] o_Z130 fun(r:Sim×Src×Unit)=>Vx r.1∧(r.1.length:Int)≤most∧(∀ x∈r.1,x<v)∧SO (n+12) r.2.1:=by
 obtain⟨c,a,g,⟨⟩⟩:=s
 refine qbW ?_
 simp only[run_Z130,Z130.ev]
 refine qa7 (qbb n _ most (by omega) hs) fun(r:Int×Src×Unit) ⟨r1,r2,r3,r4⟩=>?_
 obtain⟨k0,hk0⟩:∃ k:Nat,(r.1:Int)=(k:Int):=⟨Int.toNat r.1,(Int.toNat_of_nonneg r1).symm⟩
 have e0:w64 (1+r.1)=((k0+1:Nat):Int):=by rw[hk0,qag (by omega) (by omega)];omega
 refine EvQ.start 1 (L:=fun φ N=>Z130.l0 (mkR (run E (φ 0))) (φ 0) N v [] (w64 (1+r.1)) r.2.1.1 r.2.1.2.1 r.2.1.2.2.1) ?_ (fun _ _ _=>rfl)
 rw[e0]
 refine EvQ.loop 1 (σ:=Sim×Nat×Src) (L:=fun φ N st=>Z130.l0 (mkR (run E (φ 0))) (φ 0) N v st.1 (st.2.1:Int) st.2.2.1 st.2.2.2.1 st.2.2.2.2.1) (fun _ _ _ _=>rfl)
  (fun st=>st.1.Pairwise (·<·)∧(∀ x∈st.1,0≤x∧x<v)∧((st.1.length+st.2.1:Nat):Int)≤most∧1≤st.1.length+st.2.1∧SO (n+10-2*st.2.1) st.2.2) (fun st=>st.2.1) (fun st hi ih=>?_) ([],k0+1,r.2.1) ⟨List.Pairwise.nil,fun x hx=>by simp at hx,?_,?_,?_⟩
 ·obtain⟨o,k,s1⟩:=st
  obtain⟨i1,i2,i3,i4,i5⟩:=hi
  simp only at i1 i2 i3 i4 i5 ih ⊢
  simp only[Z130.l0_succ _ qaf]
  refine qcs (fun h=>?_) fun h=>?_
  ·refine qa7 (qbb _ s1 v (by omega) i5) fun(q:Int×Src×Unit) ⟨q1,q2,q3,q4⟩=>?_
   refine qaG (qnC o q.1 (by omega)) ?_
   rw[show w64 ((k:Int)-1)=((k-1:Nat):Int) by rw[qag (by omega) (by omega)];omega]
   refine ih (qhd o q.1,k-1,q.2.1) ⟨qkT i1,fun x hx=>?_,?_,?_,?_⟩ (by show k-1<k;omega)
   ·rcases qg4.1 hx with rfl | hx
    ·omega
    ·exact i2 x hx
   ·have:=qhK (l:=o) (n:=q.1)
    show((((qhd o q.1).length+(k-1):Nat)):Int)≤most
    omega
   ·have:1≤(qhd o q.1).length:=List.length_pos_of_mem (qg4.2 (.inl rfl))
    show 1≤(qhd o q.1).length+(k-1)
    omega
   ·exact q4.le (by show n+10-2*k+2≤n+10-2*(k-1);omega)
  ·refine qaY ⟨⟨by show 1≤o.length;omega,by show o.length≤4;omega,qdH i1,fun x hx=>⟨(i2 x hx).1,by have:=(i2 x hx).2;omega⟩⟩,by show(o.length:Int)≤most;omega,fun x hx=>(i2 x hx).2,i5.le (by omega)⟩
 ·show((([]:Sim).length+(k0+1):Nat):Int)≤most
  simp;omega
 ·show 1≤([]:Sim).length+(k0+1)
  simp
 ·exact r4.le (by show n+2≤n+10-2*(k0+1);omega)
def S5(c:List Sim):Prop:=∀ x∈c,x.length≤3∧∀ v∈x,v<5
theorem qk1(n:Nat)(s:Src)(hn:n≤10000000000)(hs:SO n s) :
    qiM n_Z144 [dR s] o_Z144 fun(r:List Sim×Src×Unit)=>VC r.1∧S5 r.1∧SO (n+50) r.2.1:=by
  obtain⟨c,a,g,⟨⟩⟩:=s
  have fixed:∀(l:List Sim),l.length≤1024→(∀ s∈l,Vx s)→(l.map fun s=>2 ^ s.length).sum≤48→(∀ s∈l,s.length≤3∧∀ v∈s,v<5) →
      qiM n_Z129 [dLL l] o_Z129 fun(r:List Sim×Unit)=>VC r.1∧S5 r.1:=fun l h1 h2 h3 h5=>by
    obtain⟨r,g1,g2,g3⟩:=qji l h1 h2 fun c hs hm=>Nat.le_trans (qiw hs hm) h3
    refine⟨r,g1,g2,fun x hx=>?_⟩
    obtain⟨s,hs,hf⟩:=(g3 x).1 hx
    have:=hf.2.length_le
    have:=(h5 s hs).1
    exact⟨by omega,fun v hv=>(h5 s hs).2 v (hf.2.subset hv)⟩
  have vx2:∀ a b:Int,0≤a→a<b→b≤9→Vx [a,b]:=fun a b h1 h2 h3=>⟨by simp,by simp,qdH (by simp;exact h2),fun x hx=>by simp at hx;rcases hx with rfl | rfl<;>omega⟩
  have vx3:∀ a b c:Int,0≤a→a<b→b<c→c≤9→Vx [a,b,c]:=fun a b c h1 h2 h3 h4=>⟨by simp,by simp,qdH (by simp;omega),fun x hx=>by simp at hx;rcases hx with rfl | rfl | rfl<;>omega⟩
  refine qbW ?_
  simp only[run_Z144,Z144.ev]
  refine qa7 (qbb n _ 6 (by omega) hs) fun(r:Int×Src×Unit) ⟨r1,r2,r3,r4⟩=>?_
  refine qdg (fun _=>qa7 (fixed _ (by decide) (fun s hs=>?_) (by decide) (by decide)) fun(q:List Sim×Unit) ⟨q1,q2⟩=>qaY ⟨q1,q2,r4.le (by omega)⟩) fun _=>?_
  · simp at hs;rcases hs with rfl | rfl | rfl<;>exact vx2 _ _ (by decide) (by decide) (by decide)
  refine qdg (fun _=>qa7 (fixed _ (by decide) (fun s hs=>?_) (by decide) (by decide)) fun(q:List Sim×Unit) ⟨q1,q2⟩=>qaY ⟨q1,q2,r4.le (by omega)⟩) fun _=>?_
  · simp at hs;rcases hs with rfl | rfl<;>exact vx3 _ _ _ (by decide) (by decide) (by decide) (by decide)
  refine qdg (fun _=>qa7 (fixed _ (by decide) (fun s hs=>?_) (by decide) (by decide)) fun(q:List Sim×Unit) ⟨q1,q2⟩=>qaY ⟨q1,q2,r4.le (by omega)⟩) fun _=>?_
  · simp at hs;rcases hs with rfl | rfl | rfl | rfl<;>exact vx3 _ _ _ (by decide) (by decide) (by decide) (by decide)
  refine qdg (fun _=>qa7 (fixed _ (by decide) (fun s hs=>?_) (by decide) (by decide)) fun(q:List Sim×Unit) ⟨q1,q2⟩=>qaY ⟨q1,q2,r4.le (by omega)⟩) fun _=>?_
  · simp at hs;rcases hs with rfl | rfl | rfl | rfl | rfl<;>exact vx2 _ _ (by decide) (by decide) (by decide)
  refine qa7 (qbb (n+2) _ 4 (by omega) r4) fun(q:Int×Src×Unit) ⟨q1,q2,q3,q4⟩=>?_
  obtain⟨k0,hk0⟩:∃ k:Nat,(q.1:Int)=(k:Int):=⟨Int.toNat q.1,(Int.toNat_of_nonneg q1).symm⟩
  refine EvQ.start 1 (L:=fun φ N=>Z144.l0 (mkR (run E (φ 0))) (φ 0) N q.1 [] q.2.1.1 q.2.1.2.1 q.2.1.2.2.1) ?_ (fun _ _ _=>rfl)
  rw[hk0]
  refine EvQ.loop 1 (σ:=Nat×List Sim×Src) (L:=fun φ N st=>Z144.l0 (mkR (run E (φ 0))) (φ 0) N (st.1:Int) st.2.1 st.2.2.1 st.2.2.2.1 st.2.2.2.2.1) (fun _ _ _ _=>rfl)
    (fun st=>(∀ x∈st.2.1,Vx x∧x.length≤3∧∀ v∈x,v<5)∧st.2.1.length+st.1≤3∧SO (n+40-12*st.1) st.2.2) (fun st=>st.1) (fun st hi ih=>?_) (k0,[],q.2.1) ⟨fun x hx=>by simp at hx,by simp;omega,q4.le (by show n+2+2≤n+40-12*k0;omega)⟩
  obtain⟨k,o,s1⟩:=st
  obtain⟨i1,i2,i3⟩:=hi
  simp only at i1 i2 i3 ih ⊢
  simp only[Z144.l0_succ _ qaf]
  refine qcs (fun h=>?_) fun h=>?_
  · refine qa7 (qid _ s1 5 3 (by omega) i3 (by decide) (by decide)) fun(t:Sim×Src×Unit) ⟨t1,t2,t3,t4⟩=>?_
    refine qaR (decide_eq_true (by simp;omega)) ?_
    rw[show w64 ((k:Int)-1)=((k-1:Nat):Int) by rw[qag (by omega) (by omega)];omega]
    refine ih (k-1,o++[t.1],t.2.1) ⟨fun x hx=>?_,?_,?_⟩ (by show k-1<k;omega)
    · rcases List.mem_append.1 hx with hx | hx
      · exact i1 x hx
      · rw[List.mem_singleton] at hx;subst hx;exact⟨t1,by omega,t3⟩
    · show(o++[t.1]).length+(k-1)≤3
      simp;omega
    · exact t4.le (by show n+40-12*k+12≤n+40-12*(k-1);omega)
  · refine qa7 (fixed o (by omega) (fun s hs=>(i1 s hs).1) ?_ fun s hs=>(i1 s hs).2) fun(q:List Sim×Unit) ⟨q1,q2⟩=>qaY ⟨q1,q2,i3.le (by omega)⟩
    have:∀(l:List Sim),(∀ x∈l,x.length≤3)→(l.map fun s=>2 ^ s.length).sum≤8*l.length:=by
      intro l
      induction l with
      | nil=>intro _;simp
      | cons x l ih =>
        intro h
        have h1:=h x List.mem_cons_self
        have h2:=ih fun y hy=>h y (List.mem_cons_of_mem _ hy)
        have h3:2 ^ x.length≤2 ^ 3:=Nat.pow_le_pow_right (by decide) h1
        simp only[List.map_cons,List.sum_cons,List.length_cons]
        omega
    have:=this o fun x hx=>(i1 x hx).2.1
    omega
end VeT
open Go Go.Proofs Ve
namespace VeT
end VeT
open Go Go.Proofs Ve
namespace VeT
theorem qit(p:Int)(R W:Nat)(cells:Sim)(hp:2≤p∧p≤251)(hR:R≤1048576)(hW:W≤1048576)(hRW:R*W≤1048576)(hl:cells.length=R*W)(he:qaI cells p) :
  Ret E n_Z121 [dM (p,(R:Int),(W:Int),cells,())] ⟨o_Z121,((rkM p R W cells:Int),())⟩:=by
 obtain⟨det,h⟩:=qdj p R W cells hp hR hW hRW hl he
 refine qak ?_
 simp only[run_Z121,Z121.ev]
 refine qaa h (qaj ?_)
 simp only[qa8]
 rfl
end VeT
open Go Go.Proofs Ve
namespace VeT
theorem qaI.set{l:Sim}{p x:Int}(h:qaI l p)(hx:0≤x∧x≤p-1)(i:Nat):qaI (l.set i x) p:=fun y hy=>by
 rcases List.mem_or_eq_of_mem_set hy with hy | rfl
 ·exact h y hy
 ·exact hx
theorem qaI.zeros{p:Int}(hp:2≤p)(n:Nat):qaI (List.replicate n 0) p:=fun x hx=>by
 rw[(List.mem_replicate.1 hx).2];omega
theorem qj9(n:Nat)(s:Src)(p:Int)(R C:Nat)(hn:n≤10000000000)(hs:SO n s)(hp:2≤p∧p≤251)(hR:R≤4)(hC:C≤4) :
  qiM n_Z115 [dR s,dI p,dI (R:Int),dI (C:Int)] o_Z115 fun(r:Int×Int×Int×Sim×Src×Unit)=>∃ cells s',r=(p,(R:Int),(C:Int),cells,s',())∧cells.length=R*C∧qaI cells p∧SO (n+70) s':=by
 obtain⟨c,a,g,⟨⟩⟩:=s
 have hRC:R*C≤16:=Nat.mul_le_mul hR hC
 refine qbW ?_
 simp only[run_Z115,Z115.ev]
 refine qaG (qcl p R C (by omega) (by omega)) ?_
 have fin:∀(cells:Sim) (s1:Src) (m:Nat),cells.length=R*C→qaI cells p→m≤n+70→SO m s1→EvQ (fun φ=>Z115.j3 (mkR (run E (φ 0))) (φ 0) 0 0 0 p (R:Int) (C:Int) s1.1 s1.2.1 s1.2.2.1 cells) o_Z115 fun(r:Int×Int×Int×Sim×Src×Unit)=>∃ cells s',r=(p,(R:Int),(C:Int),cells,s',())∧cells.length=R*C∧qaI cells p∧SO (n+70) s':=by
  intro cells s1 m h1 h2 h3 h4
  simp only[Z115.j3_eq _ qaf]
  exact qaY ⟨cells,s1,rfl,h1,h2,h4.le h3⟩
 have fold2:∀(cells:Sim) (s1:Src) (m:Nat) (b:Bool),cells.length=R*C→qaI cells p→m≤n+70→SO m s1→(b=true→1<R)→EvQ (fun φ=>Z115.j1 (mkR (run E (φ 0))) (φ 0) p (R:Int) (C:Int) b 0 0 0 p (R:Int) (C:Int) s1.1 s1.2.1 s1.2.2.1 cells) o_Z115 fun(r:Int×Int×Int×Sim×Src×Unit)=>∃ cells s',r=(p,(R:Int),(C:Int),cells,s',())∧cells.length=R*C∧qaI cells p∧SO (n+70) s':=by
  intro cells s1 m b h1 h2 h3 h4 h5
  simp only[Z115.j1_eq _ qaf]
  refine qdg (fun hb=>?_) fun _=>fin cells s1 m h1 h2 h3 h4
  have hR1:=h5 hb
  refine EvQ.start 1 (L:=fun φ N=>Z115.l2 (mkR (run E (φ 0))) (φ 0) N p (R:Int) (C:Int) 0 0 0 0 p (R:Int) (C:Int) s1.1 s1.2.1 s1.2.2.1 cells) ?_ (fun _ _ _=>rfl)
  refine EvQ.loop 1 (σ:=Nat×Sim) (L:=fun φ N st=>Z115.l2 (mkR (run E (φ 0))) (φ 0) N p (R:Int) (C:Int) (st.1:Int) 0 0 0 p (R:Int) (C:Int) s1.1 s1.2.1 s1.2.2.1 st.2) (fun _ _ _ _=>rfl)
   (fun st=>st.1≤C∧st.2.length=R*C∧qaI st.2 p) (fun st=>C-st.1) (fun st hi ih=>?_) (0,cells) ⟨Nat.zero_le _,h1,h2⟩
  obtain⟨k,o⟩:=st
  obtain⟨i1,i2,i3⟩:=hi
  simp only at i1 i2 i3 ih ⊢
  simp only[Z115.l2_succ _ qaf]
  refine qcs (fun h=>?_) fun h=>fin o s1 m i2 i3 h3 h4
  have hk:k<C:=by omega
  have hCR:C≤R*C:=by have:=Nat.mul_le_mul_right C (show 1≤R by omega);omega
  have hix:=qeO (R:=R) (C:=C) (show R-1<R by omega) hk
  have e1:w64 ((R:Int)-1)=((R-1:Nat):Int):=by rw[qag (by omega) (by omega)];omega
  have e2:w64 (w64 (((R-1:Nat):Int)*(C:Int))+(k:Int))=(((R-1)*C+k:Nat):Int):=qfz (by omega)
  have hkl:k<o.length:=by omega
  have ho:=i3 _ (List.getElem_mem hkl)
  rw[e1,e2,Int.toNat_natCast,Int.toNat_natCast]
  refine qaR (by simp only[Bool.and_eq_true,decide_eq_true_eq];omega) (qbV (List.getElem?_eq_getElem hkl) (qaR (by simp;omega) (qaR (by simp only[Bool.and_eq_true,decide_eq_true_eq];omega) ?_)))
  rw[qae (by omega)]
  refine ih (k+1,_) ⟨by show k+1≤C;omega,by rw[List.length_set];exact i2,i3.set ?_ _⟩ (by show C-(k+1)<C-k;omega)
  have e3:w64 (o[k]*2)=o[k]*2:=qag (by omega) (by omega)
  rw[e3,Int.tmod_eq_emod_of_nonneg (by omega)]
  exact qdh hp.1
 refine EvQ.start 1 (L:=fun φ N=>Z115.l0 (mkR (run E (φ 0))) (φ 0) N p (R:Int) (C:Int) 0 0 0 0 p (R:Int) (C:Int) c a g (List.replicate (R*C) 0)) ?_ (fun _ _ _=>rfl)
 refine EvQ.loop 1 (σ:=Nat×Src×Sim) (L:=fun φ N st=>Z115.l0 (mkR (run E (φ 0))) (φ 0) N p (R:Int) (C:Int) (st.1:Int) 0 0 0 p (R:Int) (C:Int) st.2.1.1 st.2.1.2.1 st.2.1.2.2.1 st.2.2) (fun _ _ _ _=>rfl)
  (fun st=>st.1≤R*C∧SO (n+4*st.1) st.2.1∧st.2.2.length=R*C∧qaI st.2.2 p) (fun st=>R*C-st.1) (fun st hi ih=>?_) (0,(c,a,g,()),List.replicate (R*C) 0) ⟨Nat.zero_le _,hs,by simp,qaI.zeros hp.1 _⟩
 obtain⟨i,s1,o⟩:=st
 obtain⟨i1,i2,i3,i4⟩:=hi
 simp only at i1 i2 i3 i4 ih ⊢
 simp only[Z115.l0_succ _ qaf]
 refine qcs (fun h=>?_) fun h=>?_
 ·have hi:i<R*C:=by omega
  refine qa7 (qbb _ s1 3 (by omega) i2) fun(r:Int×Src×Unit) ⟨r1,r2,r3,r4⟩=>?_
  rw[qae (by omega),Int.toNat_natCast]
  refine qcs (fun h2=>?_) fun h2=>?_
  ·refine qa7 (qbb _ r.2.1 p (by omega) r4) fun(q:Int×Src×Unit) ⟨q1,q2,q3,q4⟩=>?_
   refine qaR (by simp only[Bool.and_eq_true,decide_eq_true_eq];omega) ?_
   exact ih (i+1,q.2.1,o.set i q.1) ⟨by show i+1≤R*C;omega,q4.le (by show n+4*i+2+2≤n+4*(i+1);omega),by rw[List.length_set];exact i3,i4.set (by omega) _⟩ (by show R*C-(i+1)<R*C-i;omega)
  ·exact ih (i+1,r.2.1,o) ⟨by show i+1≤R*C;omega,r4.le (by show n+4*i+2≤n+4*(i+1);omega),i3,i4⟩ (by show R*C-(i+1)<R*C-i;omega)
 ·refine qcs (fun h2=>?_) fun h2=>?_
  ·exact qa7 (qjM _ s1 3 (by omega) i2) fun(r:Bool×Src×Unit) r4=>fold2 o r.2.1 _ r.1 i3 i4 (by omega) r4 fun _=>by omega
  ·exact fold2 o s1 _ false i3 i4 (by omega) i2 fun h=>by cases h
end VeT
open Go Go.Proofs Ve
namespace VeT
def qjE(a b:Sim)(W V:Nat):Ent:=fun i j=>if j<W then qbL a W i j else qbL b V i (j-W)
def qe8(a b:Sim)(W V R:Nat):Sim:=qaq (qjE a b W V) (W+V) R
theorem qoN{a b:Sim}{W V i:Nat}:(List.range (W+V)).map (qjE a b W V i)=(List.range W).map (qbL a W i)++(List.range V).map (qbL b V i):=by
 rw[List.range_add,List.map_append,List.map_map]
 congr 1
 ·refine List.map_congr_left fun j hj=>?_
  have:=List.mem_range.1 hj
  simp[qjE,this]
 ·refine List.map_congr_left fun j hj=>?_
  show(if W+j<W then qbL a W i (W+j) else qbL b V i (W+j-W))=_
  rw[if_neg (by omega),Nat.add_sub_cancel_left]
theorem qnN(p:Int)(R W V:Nat)(cells b:Sim)(hR:R≤32)(hW:W≤32)(hV:V≤32)(hl:cells.length=R*W)(hbl:b.length=R*V) :
  Ret E n_Z117 [dM (p,(R:Int),(W:Int),cells,()),dM (p,(R:Int),(V:Int),b,())] ⟨o_Z117,(p,(R:Int),((W+V:Nat):Int),qe8 cells b W V R,())⟩:=by
 have hRW:=qdI hR hW
 have hRV:=qdI hR hV
 refine qak ?_
 simp only[run_Z117,Z117.ev,Z117.j0_eq _ qaf]
 rw[show w64 ((W:Int)+(V:Int))=((W+V:Nat):Int) by rw[qag (by omega) (by omega)];omega]
 generalize hMt:(p,(R:Int),(W:Int),cells,())=M
 generalize hNt:(p,(R:Int),(V:Int),b,())=N
 have M2:M.2.1=(R:Int):=by rw[← hMt]
 have M3:M.2.2.1=(W:Int):=by rw[← hMt]
 have M4:M.2.2.2.1=cells:=by rw[← hMt]
 have N3:N.2.2.1=(V:Int):=by rw[← hNt]
 have N4:N.2.2.2.1=b:=by rw[← hNt]
 have one:Ev fun φ=>Z117.l1 (mkR (run E (φ 0))) (φ 0) (φ 0) M N 0 0 0 0 p (R:Int) ((W+V:Nat):Int) []=some ⟨o_Z117,(p,(R:Int),((W+V:Nat):Int),qe8 cells b W V R,())⟩:=by
  refine Ev.start (p:=fun φ n=>Z117.l1 (mkR (run E (φ 0))) (φ 0) n M N 0 0 0 0 p (R:Int) ((W+V:Nat):Int) []=_) 1 ?_ (fun _ _ _ h=>h)
  refine qao 1 (L:=fun φ n i o=>Z117.l1 (mkR (run E (φ 0))) (φ 0) n M N i 0 0 0 p (R:Int) ((W+V:Nat):Int) o) (len:=R) (fun i=>qaq (qjE cells b W V) (W+V) i) (fun _ _ _ _ _=>rfl) (fun i r hi ih=>?_) ?_
  ·have hle:(i+1)*W≤R*W:=Nat.mul_le_mul_right _ hi
   have hle2:(i+1)*V≤R*V:=Nat.mul_le_mul_right _ hi
   have e1:(i+1)*W=i*W+W:=Nat.succ_mul _ _
   have e2:(i+1)*V=i*V+V:=Nat.succ_mul _ _
   have c1:w64 ((i:Int)*(W:Int))=((i*W:Nat):Int):=by rw[qa2];exact qag (by omega) (by omega)
   have c2:w64 (((i+1:Nat):Int)*(W:Int))=(((i+1)*W:Nat):Int):=by rw[qa2];exact qag (by omega) (by omega)
   have c3:w64 ((i:Int)*(V:Int))=((i*V:Nat):Int):=by rw[qa2];exact qag (by omega) (by omega)
   have c4:w64 (((i+1:Nat):Int)*(V:Int))=(((i+1)*V:Nat):Int):=by rw[qa2];exact qag (by omega) (by omega)
   have hr1:=qlv hl hi
   have hr2:=qlv hbl hi
   have hfl:=qas (f:=qjE cells b W V) (C:=W+V) (n:=i)
   have hfl2:i*(W+V)≤32*64:=Nat.mul_le_mul (by omega) (by omega)
   simp only[Z117.l1_succ _ qaf,M2,M3,M4,N3,N4,qae (k:=i) (by omega),c1,c2,c3,c4,Int.toNat_natCast,hr1,hr2]
   rw[qaq,qoN,← List.append_assoc] at ih
   refine qax (decide_eq_true (by omega)) (qan (by simp only[Bool.and_eq_true,decide_eq_true_eq];omega) (qan (by simp only[List.length_map,List.length_range,decide_eq_true_eq];omega) (qan (by simp only[Bool.and_eq_true,decide_eq_true_eq];omega) (qan (by simp only[List.length_append,List.length_map,List.length_range,decide_eq_true_eq];omega) ih))))
  ·simp only[Z117.l1_succ _ qaf,M2]
   exact qaB (decide_eq_false (by omega)) qam
 exact qcB one one
def Tri(n:Nat)(A:Ent):Prop:=(∀ i j,j<i→i<n→A i j=0)∧∀ i,i<n→A i i≠0
theorem qos{p:Int}{n:Nat}{A:Ent}(h:Tri n A):∀ c,c≤n→(elS p n A c).2=List.range c∧∀ i j,c≤i→i<n→(elS p n A c).1 i j=A i j
 | 0,_=>⟨rfl,fun _ _ _ _=>rfl⟩
 | c+1,hc=>by
  obtain⟨h1,h2⟩:=qos h c (by omega)
  rw[elS,elP]
  generalize elS p n A c=S at h1 h2
  have hl:S.2.length=c:=by rw[h1,List.length_range]
  have hf:qaP (fun i=>S.1 i c≠0) S.2.length (n-S.2.length)=some c:=by
   rw[hl]
   obtain⟨k,hk⟩:=qca (P:=fun i=>S.1 i c≠0) (d:=n-c) (a:=c) ⟨c,Nat.le_refl _,by omega,by rw[h2 c c (Nat.le_refl _) (by omega)];exact h.2 c (by omega)⟩
   have h3:=qay hk
   have h4:=qeE hk c (Nat.le_refl _)
   have:k=c:=by
    rcases Nat.lt_or_ge c k with hlt | hge
    ·exact absurd (by rw[h2 c c (Nat.le_refl _) (by omega)];exact h.2 c (by omega)) (h4 hlt)
    ·omega
   rw[hk,this]
  rw[hf]
  simp only
  rw[hl]
  refine⟨by rw[h1,List.range_succ],fun i j hi hin=>?_⟩
  have hsw:∀ k,qcp c c S.1 k=S.1 k:=fun k=>by
   unfold qcp
   by_cases e:k=c
   ·rw[if_pos e,e]
   ·rw[if_neg e,if_neg e]
  unfold elF
  rw[if_neg (by omega),hsw i]
  rw[if_neg (by rw[h2 i c (by omega) hin,h.1 i c (by omega) hin];exact fun h=>h rfl)]
  exact h2 i j (by omega) hin
theorem qpm{p:Int}{n:Nat}{A:Ent}(h:Tri n A):rkM p n n (qaq A n n)=n:=by
 have h':Tri n (qbL (qaq A n n) n):=⟨fun i j hji hi=>by rw[qbv hi (by omega)];exact h.1 i j hji hi,fun i hi=>by rw[qbv hi hi];exact h.2 i hi⟩
 unfold rkM
 rw[(qos h' n (Nat.le_refl _)).1,List.length_range]
theorem qaI.flat{A:Ent}{R C:Nat}{p:Int}(h:EIn p R C A):qaI (qaq A C R) p:=fun x hx=>by
 rw[← qbM] at hx
 obtain⟨row,hrow,hx⟩:=List.mem_flatten.1 hx
 obtain⟨i,hi,rfl⟩:=List.mem_map.1 hrow
 obtain⟨j,hj,rfl⟩:=List.mem_map.1 hx
 exact h i j (List.mem_range.1 hi) (List.mem_range.1 hj)
theorem qiI(n:Nat)(s:Src)(p:Int)(d:Nat)(hn:n≤1000000000)(hs:SO n s)(hp:2≤p∧p≤251)(hd:d≤4) :
    qiM n_Z147 [dR s,dI p,dI (d:Int)] o_Z147 fun(r:Int×Int×Int×Sim×Src×Unit)=>∃ cells s',r=(p,(d:Int),(d:Int),cells,s',())∧cells.length=d*d∧qaI cells p∧rkM p d d cells=d∧SO (n+150) s':=by
  obtain⟨c,a,g,⟨⟩⟩:=s
  have hdd:d*d≤16:=Nat.mul_le_mul hd hd
  refine qbW ?_
  simp only[run_Z147,Z147.ev]
  refine qa7 (qj9 n _ p d d (by omega) hs hp hd hd) fun r ⟨cells,s1,e,h1,h2,h3⟩=>?_
  subst e
  refine qaG (qit p d d cells hp (by omega) (by omega) (by omega) h1 h2) ?_
  refine qdg (fun h=>qaY ⟨cells,s1,rfl,h1,h2,?_,h3.le (by omega)⟩) fun _=>?_
  · have:((rkM p d d cells:Nat):Int)=(d:Int):=by simpa using h
    omega
  refine qaG (qdL p d (by omega)) ?_
  refine EvQ.start 1 (L:=fun φ N=>Z147.l0 (mkR (run E (φ 0))) (φ 0) N p (d:Int) 0 0 0 0 p (d:Int) (d:Int) s1.1 s1.2.1 s1.2.2.1 (qaq qbf d d)) ?_ (fun _ _ _=>rfl)
  refine EvQ.loop 1 (σ:=Nat×Src×Ent) (L:=fun φ N st=>Z147.l0 (mkR (run E (φ 0))) (φ 0) N p (d:Int) (st.1:Int) 0 0 0 p (d:Int) (d:Int) st.2.1.1 st.2.1.2.1 st.2.1.2.2.1 (qaq st.2.2 d d)) (fun _ _ _ _=>rfl)
    (fun st=>st.1≤d∧SO (n+70+10*st.1) st.2.1∧EIn p d d st.2.2∧Tri d st.2.2) (fun st=>d-st.1) (fun st hi ih=>?_) (0,s1,qbf) ⟨Nat.zero_le _,h3,fun i j _ _=>by show 0≤qbf i j∧qbf i j≤p-1;unfold qbf;split<;>omega,fun i j hj _=>by show qbf i j=0;unfold qbf;rw[if_neg (by omega)],fun i _=>by show qbf i i≠0;simp[qbf]⟩
  obtain⟨i,s2,A⟩:=st
  obtain⟨i1,i2,i3,i4⟩:=hi
  simp only at i1 i2 i3 i4 ih ⊢
  simp only[Z147.l0_succ _ qaf]
  refine qcs (fun h=>?_) fun h=>qaY ⟨qaq A d d,s2,rfl,qas,qaI.flat i3,qpm i4,i2.le (by omega)⟩
  have hid:i<d:=by omega
  have hp1:w64 (p-1)=p-1:=qag (by omega) (by omega)
  rw[hp1]
  refine qa7 (qbb _ s2 (p-1) (by omega) i2) fun(q:Int×Src×Unit) ⟨q1,q2,q3,q4⟩=>?_
  have hx:=qeO hid hid
  have e1:w64 (1+q.1)=1+q.1:=qag (by omega) (by omega)
  have hfl:=qas (f:=A) (C:=d) (n:=d)
  rw[qfz (by omega),e1,Int.toNat_natCast,qae (by omega),qcO hid hid]
  refine qaR (by simp only[Bool.and_eq_true,decide_eq_true_eq];omega) ?_
  have hA1:EIn p d d (fun k l=>if k=i∧l=i then 1+q.1 else A k l):=fun k l hk hl=>by
    show 0≤(if k=i∧l=i then 1+q.1 else A k l)∧(if k=i∧l=i then 1+q.1 else A k l)≤p-1
    split
    · omega
    · exact i3 k l hk hl
  have hA2:Tri d (fun k l=>if k=i∧l=i then 1+q.1 else A k l):=⟨fun k l hlk hk=>by
      show(if k=i∧l=i then 1+q.1 else A k l)=0
      rw[if_neg (by omega)];exact i4.1 k l hlk hk,fun k hk=>by
      show(if k=i∧k=i then 1+q.1 else A k k)≠0
      split
      · omega
      · exact i4.2 k hk⟩
  generalize (fun k l=>if k=i∧l=i then 1+q.1 else A k l)=A1 at hA1 hA2
  refine EvQ.start 2 (L:=fun φ N=>Z147.l1 (mkR (run E (φ 0))) (φ 0) (φ 1) N p (d:Int) (i:Int) ((i+1:Nat):Int) 0 0 0 p (d:Int) (d:Int) q.2.1.1 q.2.1.2.1 q.2.1.2.2.1 (qaq A1 d d)) ?_ (fun _ _ _=>rfl)
  refine EvQ.loop 2 (σ:=Nat×Src×Ent) (L:=fun φ N st=>Z147.l1 (mkR (run E (φ 0))) (φ 0) (φ 1) N p (d:Int) (i:Int) (st.1:Int) 0 0 0 p (d:Int) (d:Int) st.2.1.1 st.2.1.2.1 st.2.1.2.2.1 (qaq st.2.2 d d)) (fun _ _ _ _=>rfl)
    (fun st=>i+1≤st.1∧st.1≤d∧SO (n+70+10*i+2*st.1) st.2.1∧EIn p d d st.2.2∧Tri d st.2.2) (fun st=>d-st.1) (fun st hi ih2=>?_) (i+1,q.2.1,A1) ⟨Nat.le_refl _,hid,q4.le (by show n+70+10*i+2≤n+70+10*i+2*(i+1);omega),hA1,hA2⟩
  obtain⟨k,s3,B⟩:=st
  obtain⟨k0,k1,k2,k3,k4⟩:=hi
  simp only at k0 k1 k2 k3 k4 ih2 ⊢
  simp only[Z147.l1_succ _ qaf]
  refine qcs (fun h=>?_) fun h=>?_
  · have hkd:k<d:=by omega
    refine qa7 (qbb _ s3 p (by omega) k2) fun(t:Int×Src×Unit) ⟨t1,t2,t3,t4⟩=>?_
    have hx:=qeO hid hkd
    have hfl:=qas (f:=B) (C:=d) (n:=d)
    rw[qfz (by omega),Int.toNat_natCast,qae (by omega),qcO hid hkd]
    refine qaR (by simp only[Bool.and_eq_true,decide_eq_true_eq];omega) ?_
    refine ih2 (k+1,t.2.1,_) ⟨by show i+1≤k+1;omega,by show k+1≤d;omega,t4.le (by show n+70+10*i+2*k+2≤n+70+10*i+2*(k+1);omega),fun x l hx' hl=>?_,fun x l hlx hx'=>?_,fun x hx'=>?_⟩ (by show d-(k+1)<d-k;omega)
    · show 0≤(if x=i∧l=k then t.1 else B x l)∧(if x=i∧l=k then t.1 else B x l)≤p-1
      split
      · omega
      · exact k3 x l hx' hl
    · show(if x=i∧l=k then t.1 else B x l)=0
      rw[if_neg (by omega)];exact k4.1 x l hlx hx'
    · show(if x=i∧x=k then t.1 else B x x)≠0
      rw[if_neg (by omega)];exact k4.2 x hx'
  · have:k=d:=by omega
    rw[qae (by omega)]
    exact ih (i+1,s3,B) ⟨hid,k2.le (by show n+70+10*i+2*k≤n+70+10*(i+1);omega),k3,k4⟩ (by show d-(i+1)<d-i;omega)
end VeT
open Go Go.Proofs Ve
namespace VeT
noncomputable def qgg(p:Int)(d:Nat)(cells:Sim):Ent:=(elS p d (qbL (qe8 cells (qaq qbf d d) d d d) (d+d)) (d+d)).1
noncomputable def qp3(p:Int)(d:Nat)(cells:Sim):Sim:=qaq (fun i k=>qgg p d cells i (d+k)) d d
theorem qms{p:Int}{a b:Sim}{W V R:Nat}(ha:qaI a p)(hb:qaI b p)(hl:a.length=R*W)(hbl:b.length=R*V):EIn p R (W+V) (qjE a b W V):=fun i j hi hj=>by
 unfold qjE
 split
 ·exact qcA ha hl i j hi (by omega)
 ·exact qcA hb hbl i (j-W) hi (by omega)
theorem qmQ{p:Int}(hp:2≤p){d:Nat}:EIn p d d qbf:=fun i j _ _=>by
 show 0≤qbf i j∧qbf i j≤p-1
 unfold qbf;split<;>omega
theorem qo7{p:Int}(hp:2≤p){d:Nat}{cells:Sim}(hl:cells.length=d*d)(he:qaI cells p):EIn p d (d+d) (qbL (qe8 cells (qaq qbf d d) d d d) (d+d)):=fun i j hi hj=>by
 unfold qe8;rw[qbv hi hj]
 exact qms he (qaI.flat (qmQ hp)) hl qas i j hi hj
theorem qn4{p:Int}(hp:2≤p){d:Nat}{cells:Sim}(hl:cells.length=d*d)(he:qaI cells p):qaI (qp3 p d cells) p∧(qp3 p d cells).length=d*d:=by
 refine⟨qaI.flat fun i j hi hj=>?_,qas⟩
 exact(qgF hp (qo7 hp hl he) (d+d)).1 i (d+j) hi (by omega)
theorem qgm(p:Int)(d:Nat)(cells:Sim)(hp:Pr p)(hd:d≤4)(hl:cells.length=d*d)(he:qaI cells p)(hr:rkM p d d cells=d) :
  qiM n_Z97 [dI p,dI (d:Int),dI (d:Int),dL cells] o_Z97 fun(r:Int×Int×Int×Sim×Int×Unit)=>r=(p,(d:Int),(d:Int),qp3 p d cells,0,()):=by
 have hp2:2≤p∧p≤251:=⟨hp.1,hp.2.1⟩
 have hdd:d*d≤16:=Nat.mul_le_mul hd hd
 have hd2:d*(d+d)≤32:=Nat.mul_le_mul hd (show d+d≤8 by omega)
 have hVM:VM (p,(d:Int),(d:Int),cells,()):=⟨hp,⟨by show(0:Int)≤d;omega,by show(d:Int)≤32;omega⟩,⟨by show(0:Int)≤d;omega,by show(d:Int)≤32;omega⟩,by show(cells.length:Int)=d*d;rw[hl];simp,he⟩
 have hSm:Sm (.st cM) (p,(d:Int),(d:Int),cells,()):=⟨trivial,trivial,trivial,⟨by show cells.length≤1048576;omega,fun _ _=>trivial⟩,trivial⟩
 refine qbW ?_
 simp only[run_Z97,Z97.ev]
 refine qaG (qkr _ hSm) (qnD (by simp[qaL hVM]) (qnD (by simp) ?_))
 refine qaG (qit p d d cells hp2 (by omega) (by omega) (by omega) hl he) (qnD (by simp[hr]) ?_)
 refine qaG (qdL p d (by omega)) ?_
 refine qaG (qnN p d d d cells (qaq qbf d d) (by omega) (by omega) (by omega) hl qas) ?_
 have hJ:qaI (qe8 cells (qaq qbf d d) d d d) p:=qaI.flat (qms he (qaI.flat (qmQ hp2.1)) hl qas)
 obtain⟨det,hred⟩:=qdj p d (d+d) (qe8 cells (qaq qbf d d) d d d) hp2 (by omega) (by omega) (by omega) qas hJ
 refine qaG hred ?_
 refine qaG (qcl p d d (by omega) (by omega)) ?_
 have hF:(elS p d (qbL (qe8 cells (qaq qbf d d) d d d) (d+d)) (d+d)).1=qgg p d cells:=rfl
 simp only[hF]
 have hz:List.replicate (d*d) (0:Int)=qaq (fun _ _=>0) d d:=by
  refine(List.eq_replicate_iff.2 ⟨qas,fun x hx=>?_⟩).symm
  rw[← qbM] at hx
  obtain⟨row,hrow,hx⟩:=List.mem_flatten.1 hx
  obtain⟨i,hi,rfl⟩:=List.mem_map.1 hrow
  obtain⟨j,hj,rfl⟩:=List.mem_map.1 hx
  rfl
 rw[hz]
 have hFl:=qas (f:=qgg p d cells) (C:=d+d) (n:=d)
 refine EvQ.start 1 (L:=fun φ N=>Z97.l0 (mkR (run E (φ 0))) (φ 0) N 0 p (d:Int) (d:Int) cells 0 0 0 p (d:Int) ((d+d:Nat):Int) (qe8 cells (qaq qbf d d) d d d) p (d:Int) ((d+d:Nat):Int) (qaq (qgg p d cells) (d+d) d) p (d:Int) (d:Int) (qaq (fun _ _=>0) d d)) ?_ (fun _ _ _=>rfl)
 refine EvQ.loop 1 (σ:=Nat×Ent) (L:=fun φ N st=>Z97.l0 (mkR (run E (φ 0))) (φ 0) N (st.1:Int) p (d:Int) (d:Int) cells 0 0 0 p (d:Int) ((d+d:Nat):Int) (qe8 cells (qaq qbf d d) d d d) p (d:Int) ((d+d:Nat):Int) (qaq (qgg p d cells) (d+d) d) p (d:Int) (d:Int) (qaq st.2 d d)) (fun _ _ _ _=>rfl)
  (fun st=>st.1≤d∧∀ i j,i<st.1→j<d→st.2 i j=qgg p d cells i (d+j)) (fun st=>d-st.1) (fun st hi ih=>?_) (0,fun _ _=>0) ⟨Nat.zero_le _,fun i j h=>by omega⟩
 obtain⟨i,B⟩:=st
 obtain⟨i1,i2⟩:=hi
 simp only at i1 i2 ih ⊢
 simp only[Z97.l0_succ _ qaf]
 refine qcs (fun h=>?_) fun h=>qaY ?_
 ·have hid:i<d:=by omega
  refine EvQ.start 2 (L:=fun φ N=>Z97.l1 (mkR (run E (φ 0))) (φ 0) (φ 1) N (i:Int) 0 p (d:Int) (d:Int) cells 0 0 0 p (d:Int) ((d+d:Nat):Int) (qe8 cells (qaq qbf d d) d d d) p (d:Int) ((d+d:Nat):Int) (qaq (qgg p d cells) (d+d) d) p (d:Int) (d:Int) (qaq B d d)) ?_ (fun _ _ _=>rfl)
  refine EvQ.loop 2 (σ:=Nat×Ent) (L:=fun φ N st=>Z97.l1 (mkR (run E (φ 0))) (φ 0) (φ 1) N (i:Int) (st.1:Int) p (d:Int) (d:Int) cells 0 0 0 p (d:Int) ((d+d:Nat):Int) (qe8 cells (qaq qbf d d) d d d) p (d:Int) ((d+d:Nat):Int) (qaq (qgg p d cells) (d+d) d) p (d:Int) (d:Int) (qaq st.2 d d)) (fun _ _ _ _=>rfl)
   (fun st=>st.1≤d∧(∀ i' j,i'<i→j<d→st.2 i' j=qgg p d cells i' (d+j))∧∀ j,j<st.1→st.2 i j=qgg p d cells i (d+j)) (fun st=>d-st.1) (fun st hk ih2=>?_) (0,B) ⟨Nat.zero_le _,i2,fun j h=>by omega⟩
  obtain⟨k,D⟩:=st
  obtain⟨k1,k2,k3⟩:=hk
  simp only at k1 k2 k3 ih2 ⊢
  simp only[Z97.l1_succ _ qaf]
  refine qcs (fun h=>?_) fun h=>?_
  ·have hkd:k<d:=by omega
   have hx:=qeO hid hkd
   have hx2:=qeO (R:=d) (C:=d+d) hid (show d+k<d+d by omega)
   have hDl:=qas (f:=D) (C:=d) (n:=d)
   have e1:w64 (w64 (w64 ((i:Int)*((d+d:Nat):Int))+(d:Int))+(k:Int))=((i*(d+d)+(d+k):Nat):Int):=by
    rw[qfz (by omega),qag (by omega) (by omega)];omega
   rw[e1,qfz (by omega),Int.toNat_natCast,qae (by omega)]
   refine qbV (qaZ.trans (qbu hid (show d+k<d+d by omega))) (qaR (by simp only[Bool.and_eq_true,decide_eq_true_eq];omega) ?_)
   rw[qcO hid hkd]
   refine ih2 (k+1,_) ⟨hkd,fun i' j hi' hj=>?_,fun j hj=>?_⟩ (by show d-(k+1)<d-k;omega)
   ·show(if i'=i∧j=k then _ else D i' j)=_
    rw[if_neg (by omega)];exact k2 i' j hi' hj
   ·show(if i=i∧j=k then qgg p d cells i (d+k) else D i j)=_
    by_cases e:j=k
    ·rw[if_pos ⟨rfl,e⟩,e]
    ·rw[if_neg (by omega)];exact k3 j (by have:j<k+1:=hj;omega)
  ·have:k=d:=by omega
   subst this
   rw[qae (by omega)]
   refine ih (i+1,D) ⟨hid,fun i' j hi' hj=>?_⟩ (by show k-(i+1)<k-i;omega)
   by_cases e:i'=i
   ·subst e;exact k3 j hj
   ·exact k2 i' j (by have:i'<i+1:=hi';omega) hj
 ·have:i=d:=by omega
  subst this
  show(p,(i:Int),(i:Int),qaq B i i,(0:Int),())=_
  rw[qaD fun i' j hi' hj=>i2 i' j hi' hj]
  rfl
end VeT
open Go Go.Proofs Ve
namespace VeT
def BOk(p:Int)(d:Nat)(m:Mat):Prop:=∃ cells,m=(p,(d:Int),(d:Int),cells,())∧cells.length=d*d∧qaI cells p∧rkM p d d cells=d
noncomputable def qnI(p:Int)(d:Nat)(m:Mat):Mat:=(p,(d:Int),(d:Int),qp3 p d m.2.2.2.1,())
theorem qq2{p:Int}{d:Nat}{cells:Sim}(hp:Pr p)(hd:d≤4)(hl:cells.length=d*d)(he:qaI cells p):VM (p,(d:Int),(d:Int),cells,()) :=
 ⟨hp,⟨by show(0:Int)≤d;omega,by show(d:Int)≤32;omega⟩,⟨by show(0:Int)≤d;omega,by show(d:Int)≤32;omega⟩,by show(cells.length:Int)=d*d;rw[hl];simp,he⟩
theorem BOk.vm{p:Int}{d:Nat}{m:Mat}(hp:Pr p)(hd:d≤4)(h:BOk p d m):VM m∧VM (qnI p d m):=by
 obtain⟨cells,rfl,h1,h2,h3⟩:=h
 exact⟨qq2 hp hd h1 h2,qq2 hp hd (qn4 hp.1 h1 h2).2 (qn4 hp.1 h1 h2).1⟩
theorem qmx{c:List Sim}{a b:Nat}(h:a≤b):plc c a≤plc c b:=by
  induction b with
  | zero => obtain rfl : a = 0 := by omega
            exact Nat.le_refl _
  | succ b ih =>
    rcases Nat.lt_or_ge b a with h1 | h1
    · obtain rfl:a=b+1:=by omega
      exact Nat.le_refl _
    · rw[qeH];exact Nat.le_trans (ih h1) (Nat.le_add_right _ _)
noncomputable def chM(c:List Sim)(p:Int)(d:Nat)(bs:List Mat)(k i:Nat):Mat:=qdo (bs.getD k mz) (qnI p d (bs.getD ((qaF c k).getD i 0).toNat mz))
theorem ql3(n:Nat)(s:Src)(c:List Sim)(p:Int)(d:Nat)(hn:n≤100000000)(hs:SO n s)(hv:VC c)(hp:Pr p)(hd:d≤3) :
    qiM n_Z141 [dR s,dC (c,()),dI p,dI (d:Int)] o_Z141 fun(r:List Sim×Int×Sim×List Mat×Src×Unit)=>∃ ms s' bs,r=(c,p,List.replicate c.length (d:Int),ms,s',())∧ms.length=plc c c.length ∧
      bs.length=c.length∧(∀ m∈bs,BOk p d m)∧(∀ k i,k<c.length→i<(qaF c k).length→ms.getD (plc c k+i) mz=chM c p d bs k i)∧SO (n+7300) s':=by
  obtain⟨c0,a,g,⟨⟩⟩:=s
  have hp2:2≤p∧p≤251:=⟨hp.1,hp.2.1⟩
  have h48:=hv.1
  have hsr:=hv.srt
  have h192:=qdJ hv
  refine qbW ?_
  simp only[run_Z141,Z141.ev]
  refine qaG (qb8 c p d hd hv.sm hv) ?_
  -- the bases
  refine EvQ.start 1 (L:=fun φ N=>Z141.l0 (mkR (run E (φ 0))) (φ 0) N (c,()) p (d:Int) 0 0 p [] c0 a g (List.replicate (qbQ c c.length).length (qaW p d)) c (List.replicate c.length (d:Int))) ?_ (fun _ _ _=>rfl)
  refine EvQ.loop 1 (σ:=Nat×List Mat×Src) (L:=fun φ N st=>Z141.l0 (mkR (run E (φ 0))) (φ 0) N (c,()) p (d:Int) (st.1:Int) 0 p st.2.1 st.2.2.1 st.2.2.2.1 st.2.2.2.2.1 (List.replicate (qbQ c c.length).length (qaW p d)) c (List.replicate c.length (d:Int))) (fun _ _ _ _=>rfl)
    (fun st=>st.1≤c.length∧st.2.1.length=st.1∧(∀ m∈st.2.1,BOk p d m)∧SO (n+150*st.1) st.2.2) (fun st=>c.length-st.1) (fun st hi ih=>?_) (0,[],(c0,a,g,())) ⟨Nat.zero_le _,rfl,fun m hm=>by simp at hm,hs⟩
  obtain⟨k,bs,s1⟩:=st
  obtain⟨i1,i2,i3,i4⟩:=hi
  simp only at i1 i2 i3 i4 ih ⊢
  simp only[Z141.l0_succ _ qaf]
  refine qcs (fun h=>?_) fun h=>?_
  · have hk : k < c.length := by have h : (k : Int) < (c.length : Int) := h
                                 omega
    refine qa7 (qiI _ s1 p d (by omega) i4 hp2 (by omega)) fun r ⟨cells,s2,e,h1,h2,h3,h4⟩=>?_
    subst e
    refine qaR (decide_eq_true (by simp;omega)) ?_
    rw[qae (by omega)]
    exact ih (k+1,bs++[(p,(d:Int),(d:Int),cells,())],s2) ⟨hk,by simp[i2],fun m hm=>by
      rcases List.mem_append.1 hm with hm | hm
      · exact i3 m hm
      · rw[List.mem_singleton] at hm;exact⟨cells,hm,h1,h2,h3⟩,h4.le (by show n+150*k+150≤n+150*(k+1);omega)⟩ (by show c.length-(k+1)<c.length-k;omega)
  have hkl : k = c.length := by have h : ¬ (k : Int) < (c.length : Int) := h
                                omega
  subst hkl
  clear ih
  have hbs:∀ f,f<c.length→bs[f]? = some (bs.getD f mz)∧BOk p d (bs.getD f mz):=fun f hf=>by
    have:f<bs.length:=by omega
    rw[List.getD_eq_getElem?_getD,List.getElem?_eq_getElem this]
    exact⟨rfl,i3 _ (List.getElem_mem this)⟩
  -- the maps
  have hpl:plc c c.length=(qbQ c c.length).length:=rfl
  refine EvQ.start 1 (L:=fun φ N=>Z141.l1 (mkR (run E (φ 0))) (φ 0) N (c,()) 0 0 p bs s1.1 s1.2.1 s1.2.2.1 (List.replicate (qbQ c c.length).length (qaW p d)) c (List.replicate c.length (d:Int))) ?_ (fun _ _ _=>rfl)
  refine EvQ.loop 1 (σ:=Nat×List Mat) (L:=fun φ N st=>Z141.l1 (mkR (run E (φ 0))) (φ 0) N (c,()) (st.1:Int) 0 p bs s1.1 s1.2.1 s1.2.2.1 st.2 c (List.replicate c.length (d:Int))) (fun _ _ _ _=>rfl)
    (fun st=>st.1≤c.length∧st.2.length=plc c c.length∧∀ k i,k<st.1→i<(qaF c k).length→st.2.getD (plc c k+i) mz=chM c p d bs k i) (fun st=>c.length-st.1) (fun st hi ih=>?_) (0,List.replicate (qbQ c c.length).length (qaW p d)) ⟨Nat.zero_le _,by rw[hpl];simp,fun k i h=>by omega⟩
  obtain⟨k,ms⟩:=st
  obtain⟨j1,j2,j3⟩:=hi
  simp only at j1 j2 j3 ih ⊢
  simp only[Z141.l1_succ _ qaf]
  refine qcs (fun h=>?_) fun h=>?_
  · have hk : k < c.length := by have h : (k : Int) < (c.length : Int) := h
                                 omega
    have hf4:=hv.fIdx4 hk
    refine qaG (qb5 c k hk hv.sm) ?_
    refine EvQ.start 2 (L:=fun φ N=>Z141.l2 (mkR (run E (φ 0))) (φ 0) (φ 1) N (c,()) (k:Int) (qaF c k) 0 0 p bs s1.1 s1.2.1 s1.2.2.1 ms c (List.replicate c.length (d:Int))) ?_ (fun _ _ _=>rfl)
    refine EvQ.loop 2 (σ:=Nat×List Mat) (L:=fun φ N st=>Z141.l2 (mkR (run E (φ 0))) (φ 0) (φ 1) N (c,()) (k:Int) (qaF c k) (st.1:Int) 0 p bs s1.1 s1.2.1 s1.2.2.1 st.2 c (List.replicate c.length (d:Int))) (fun _ _ _ _=>rfl)
      (fun st=>st.1≤(qaF c k).length∧st.2.length=plc c c.length∧(∀ k' i,k'<k→i<(qaF c k').length→st.2.getD (plc c k'+i) mz=chM c p d bs k' i)∧∀ i,i<st.1→st.2.getD (plc c k+i) mz=chM c p d bs k i) (fun st=>(qaF c k).length-st.1) (fun st hi ih2=>?_) (0,ms) ⟨Nat.zero_le _,j2,j3,fun i h=>by omega⟩
    obtain⟨i,o⟩:=st
    obtain⟨l1,l2,l3,l4⟩:=hi
    simp only at l1 l2 l3 l4 ih2 ⊢
    simp only[Z141.l2_succ _ qaf]
    refine qcs (fun h=>?_) fun h=>?_
    · have hi:i<(qaF c k).length:=by omega
      obtain⟨f,f1,f2,f3⟩:=qeJ hsr hv hk hi
      have f3':((qaF c k).getD i 0).toNat=f:=by first | exact f3 | (rw[f3];rfl)
      obtain⟨b1,cells,b2,b3,b4,b5⟩:=hbs f f1
      obtain⟨b6,cells2,b7,b8,b9,b10⟩:=hbs k hk
      obtain⟨v1,v2⟩:=BOk.vm hp (by omega) (hbs f f1).2
      obtain⟨v3,_⟩:=BOk.vm hp (by omega) (hbs k hk).2
      have hplt:plc c k+i<plc c c.length:=by
        have:=qmx (c:=c) (show k+1≤c.length from hk)
        rw[qeH] at this;omega
      have hple:=hv.plc (k:=c.length) (Nat.le_refl _)
      refine qbV (qai hi) ?_
      simp only[f2,Int.toNat_natCast]
      refine qaR (by simp only[Bool.and_eq_true,decide_eq_true_eq];omega) (qbV b1 ?_)
      rw[b2]
      refine qa7 (qgm p d cells hp (by omega) b3 b4 b5) fun r hr=>?_
      subst hr
      refine qaR (by simp only[Bool.and_eq_true,decide_eq_true_eq];omega) ?_
      refine qaG (qc8 c k i (by omega) (by omega) hv) ?_
      have e1:List.getD bs k (qpG cM)=bs.getD k mz:=by
        rw[List.getD_eq_getElem?_getD,List.getD_eq_getElem?_getD,b6];rfl
      have e2:qnI p d (bs.getD f mz)=(p,(d:Int),(d:Int),qp3 p d cells,()):=by rw[b2];rfl
      have hT:=qew (bs.getD k mz) (qnI p d (bs.getD f mz)) v3 v2 (by rw[b7];rfl)
      rw[e2] at hT
      rw[e1]
      refine qaG hT (qaR (show(decide ((0:Int)≤((plc c k+i:Nat):Int))&&decide (((plc c k+i:Nat):Int)<(o.length:Int)))=true by rw[l2];simp only[Bool.and_eq_true,decide_eq_true_eq];omega) ?_)
      rw[qae (by omega),Int.toNat_natCast]
      have e3:qdo (bs.getD k mz) (p,(d:Int),(d:Int),qp3 p d cells,())=chM c p d bs k i:=by
        unfold chM;rw[f3',e2]
      rw[e3]
      refine ih2 (i+1,o.set (plc c k+i) (chM c p d bs k i)) ⟨hi,by rw[List.length_set];exact l2,fun k' i' hk' hi'=>?_,fun i' hi'=>?_⟩ (by show(qaF c k).length-(i+1)<(qaF c k).length-i;omega)
      · have:=qmx (c:=c) (show k'+1≤k from hk')
        rw[qeH] at this
        rw[List.getD_eq_getElem?_getD,List.getElem?_set_ne (by omega),← List.getD_eq_getElem?_getD]
        exact l3 k' i' hk' hi'
      · rw[List.getD_eq_getElem?_getD]
        by_cases e:i'=i
        · subst e
          rw[List.getElem?_set_self (by rw[l2];exact hplt)];rfl
        · rw[List.getElem?_set_ne (by omega),← List.getD_eq_getElem?_getD]
          exact l4 i' (by have:i'<i+1:=hi';omega)
    · have:i=(qaF c k).length:=by omega
      subst this
      rw[qae (by omega)]
      refine ih (k+1,o) ⟨hk,l2,fun k' i' hk' hi'=>?_⟩ (by show c.length-(k+1)<c.length-k;omega)
      by_cases e:k'=k
      · subst e;exact l4 i' hi'
      · exact l3 k' i' (by have:k'<k+1:=hk';omega) hi'
  · have hkl : k = c.length := by have h : ¬ (k : Int) < (c.length : Int) := h
                                  omega
    subst hkl
    exact qaY ⟨ms,s1,bs,rfl,j2,i2,i3,fun k' i' hk' hi'=>j3 k' i' hk' hi',i4.le (by omega)⟩
end VeT
open Go Go.Proofs Ve
namespace VeT
theorem qjB:∀ {l x:Sim},x.Pairwise (·<·)→l.Pairwise (·<·)→(∀ v∈x,v∈l)→x.Sublist l
 | [],x,_,_,h=>by
  cases x with
  | nil=>exact .slnil
  | cons y x=>exact absurd (h y List.mem_cons_self) (by simp)
 | a::l,[],_,_,_=>List.nil_sublist _
 | a::l,y::x,hx,hl,h=>by
  obtain⟨x1,x2⟩:=List.pairwise_cons.1 hx
  obtain⟨l1,l2⟩:=List.pairwise_cons.1 hl
  by_cases e:y=a
  ·subst e
   refine .cons_cons _ (qjB x2 l2 fun v hv=>?_)
   have:=x1 v hv
   rcases List.mem_cons.1 (h v (List.mem_cons_of_mem _ hv)) with h1 | h1
   ·omega
   ·exact h1
  ·have hy:y∈l:=(List.mem_cons.1 (h y List.mem_cons_self)).resolve_left e
   have hya:=l1 y hy
   refine .cons _ (qjB hx l2 fun v hv=>?_)
   rcases List.mem_cons.1 (h v hv) with h1 | h1
   ·rcases List.mem_cons.1 hv with h2 | h2
    ·omega
    ·have:=x1 v h2;omega
   ·exact h1
theorem qgK{c:List Sim}{d:Nat}:∀ {k:Nat},k≤c.length→(qaK c (d:Int) k).length=((c.take k).filter fun x=>x.length==d+1).length
 | 0,_=>by simp[qaK]
 | k+1,hk=>by
  rw[qcm,List.length_append,qgK (by omega),List.take_succ_eq_append_getElem (by omega),List.filter_append,List.length_append]
  congr 1
  have e:c.getD k []=c[k]:=by rw[List.getD_eq_getElem?_getD,List.getElem?_eq_getElem (by omega)];rfl
  rw[e]
  by_cases h:(c[k]).length=d+1
  ·rw[if_pos (by omega),List.filter_cons_of_pos (by simp[h])];rfl
  ·rw[if_neg (by omega),List.filter_cons_of_neg (by simp[h])];rfl
theorem qhA{c:List Sim}{st:Sim}{d:Int}(hst:∀ x∈st,0≤x∧x≤3):∀ {n:Nat},SDn c st d n≤3*((qaK c d n).length:Int)
 | 0=>by simp[SDn,qaK]
 | n+1=>by
  have h:=qhA hst (c:=c) (d:=d) (n:=n)
  have h2:=qcx hst n
  rw[qde,qcm,List.length_append]
  split
  ·simp only[List.length_singleton];omega
  ·simp only[List.length_nil];omega
theorem qmX{c:List Sim}(hv:VC c)(h5:S5 c){d:Nat}(hd:d<4):(qaK c (d:Int) c.length).length≤10:=by
 rw[qgK (Nat.le_refl _),List.take_length]
 refine Nat.le_trans (qio (d:=(qo9 [0,1,2,3,4]).filter fun x=>x.length==d+1) (hv.srt.nodup.filter _) fun x hx=>?_) ?_
 ·obtain⟨h1,h2⟩:=List.mem_filter.1 hx
  refine List.mem_filter.2 ⟨qg3 (qjB ?_ (by decide) fun v hvx=>?_),h2⟩
  ·obtain⟨k,hk,rfl⟩:=List.getElem_of_mem h1
   have:=hv.2.1 k hk
   rw[List.getD_eq_getElem?_getD,List.getElem?_eq_getElem hk] at this
   exact this.2.2.1.pairwise
  ·obtain⟨k,hk,rfl⟩:=List.getElem_of_mem h1
   have:=hv.2.1 k hk
   rw[List.getD_eq_getElem?_getD,List.getElem?_eq_getElem hk] at this
   have a1:=(this.2.2.2 v hvx).1
   have a2:=(h5 _ h1).2 v hvx
   simp only[List.mem_cons,List.not_mem_nil,or_false]
   omega
 ·have:d=0∨d=1∨d=2∨d=3:=by omega
  rcases this with rfl | rfl | rfl | rfl<;>decide
theorem qrw{c:List Sim}(hv:VC c)(h5:S5 c){st:Sim}(hl:st.length=c.length)(hst:∀ x∈st,0≤x∧x≤3):SK c st:=by
 refine⟨hl,hst,fun d hd=>?_⟩
 have h1:=qmX hv h5 hd
 have h2:=qhA hst (c:=c) (d:=(d:Int)) (n:=c.length)
 rw[qly]
 omega
theorem qqM{c:List Sim}{p:Int}{st:Sim}{ms:List Mat}(hv:VC c)(h5:S5 c)(hp:Pr p)(hl:st.length=c.length)(hst:∀ x∈st,0≤x∧x≤3)(hm:ms.length=plc c c.length)
  (hq:∀ k,k<c.length→∀ i,i<(qaF c k).length→Bt (ms.getD (plc c k+i) mz) p (st.getD ((qaF c k).getD i 0).toNat 0) (st.getD k 0)):VS c p st ms :=
 ⟨hv,hp,qrw hv h5 hl hst,hm.symm,hq⟩
end VeT
open Go Go.Proofs Ve
namespace VeT
theorem qmA{p:Int}{a b:Nat}{cells:Sim}(hp:Pr p)(ha:a≤32)(hb:b≤32)(hl:cells.length=a*b)(he:qaI cells p):VM (p,(a:Int),(b:Int),cells,()) :=
 ⟨hp,⟨by show(0:Int)≤a;omega,by show(a:Int)≤32;omega⟩,⟨by show(0:Int)≤b;omega,by show(b:Int)≤32;omega⟩,by show(cells.length:Int)=a*b;rw[hl];simp,he⟩
theorem qoV{c:List Sim}{p:Int}{st:Sim}(hv:VC c)(hp:Pr p)(hl:st.length=c.length)(hst:∀ x∈st,0≤x∧x≤3){k i:Nat}(hk:k<c.length)(hi:i<(qaF c k).length) :
  Bt (((qbQ c c.length).map (zOf p st)).getD (plc c k+i) mz) p (st.getD ((qaF c k).getD i 0).toNat 0) (st.getD k 0):=by
 have hg:=qcr (n:=c.length) hk hi
 obtain⟨f,f1,f2,f3⟩:=qeJ hv.srt hv hk hi
 obtain⟨a,ha,ea,hka,eka⟩:=qgl hl hst hk
 obtain⟨b,hb,eb,hfb,efb⟩:=qgl hl hst f1
 rw[List.getD_eq_getElem?_getD,List.getElem?_map,hg]
 show Bt (zOf p st ((k:Int),(i:Int),(qaF c k).getD i 0,())) p _ _
 unfold zOf
 simp only[f3,Int.toNat_natCast,ea,eb]
 exact⟨qmA hp (by omega) (by omega) (by simp) (qaI.zeros hp.1 _),rfl,rfl,rfl⟩
theorem qm0{c:List Sim}{p:Int}{d:Nat}{bs:List Mat}(hv:VC c)(hp:Pr p)(hd:d≤4)(hbl:bs.length=c.length)(hb:∀ m∈bs,BOk p d m){k i:Nat}(hk:k<c.length)(hi:i<(qaF c k).length) :
  Bt (chM c p d bs k i) p ((List.replicate c.length (d:Int)).getD ((qaF c k).getD i 0).toNat 0) ((List.replicate c.length (d:Int)).getD k 0):=by
 obtain⟨f,f1,f2,f3⟩:=qeJ hv.srt hv hk hi
 have hbs:∀ f,f<c.length→BOk p d (bs.getD f mz):=fun f hf=>by
  have:f<bs.length:=by omega
  rw[List.getD_eq_getElem?_getD,List.getElem?_eq_getElem this]
  exact hb _ (List.getElem_mem this)
 have hr:∀ f,f<c.length→(List.replicate c.length (d:Int)).getD f 0=(d:Int):=fun f hf=>by
  rw[List.getD_eq_getElem?_getD,List.getElem?_replicate,if_pos hf];rfl
 rw[f3,Int.toNat_natCast,hr f f1,hr k hk]
 unfold chM
 rw[f3,Int.toNat_natCast]
 obtain⟨v1,v2⟩:=BOk.vm hp hd (hbs f f1)
 obtain⟨v3,_⟩:=BOk.vm hp hd (hbs k hk)
 obtain⟨cells,e,_⟩:=hbs k hk
 refine⟨qcP v3 v2,?_,?_,rfl⟩
 ·rw[e];rfl
 ·rw[e];rfl
end VeT
open Go Go.Proofs Ve
namespace VeT
def sk1(c:List Sim):List Sim:=c.filter fun x=>decide (x.length≤2)
theorem qoi(c:List Sim)(hv:VC c):Ret E n_Z139 [dC (c,()),dI 1] ⟨o_Z139,(sk1 c,())⟩:=by
 have hl:=hv.1
 refine qak ?_
 simp only[run_Z139,Z139.ev]
 refine Ev.start (p:=fun φ n=>Z139.l0 (mkR (run E (φ 0))) (φ 0) n (c,()) 1 0 []=_) 1 ?_ (fun _ _ _ h=>h)
 refine qao 1 (L:=fun φ n k o=>Z139.l0 (mkR (run E (φ 0))) (φ 0) n (c,()) 1 k o) (len:=c.length) (fun k=>sk1 (c.take k)) (fun _ _ _ _ _=>rfl) (fun k r hk ih=>?_) ?_
 ·simp only[Z139.l0_succ _ qaf]
  have h4:=hv.len4 hk
  rw[qad hk] at h4
  have e4:w64 ((1:Int)+1)=2:=qag (by omega) (by omega)
  have hlen:(sk1 (c.take k)).length≤c.length:=Nat.le_trans (List.length_filter_le _ _) (by rw[List.length_take];omega)
  have e:sk1 (c.take (k+1))=sk1 (c.take k)++if c[k].length≤2 then [c[k]] else []:=by
   unfold sk1
   rw[List.take_succ_eq_append_getElem hk,List.filter_append]
   congr 1
   by_cases h:c[k].length≤2
   ·rw[if_pos h,List.filter_cons_of_pos (by simp[h])];rfl
   ·rw[if_neg h,List.filter_cons_of_neg (by simp[h])];rfl
  rw[e] at ih
  refine qax (decide_eq_true (by show(k:Int)<(c.length:Int);omega)) (qab (qai hk) ?_)
  by_cases h:c[k].length≤2
  ·rw[if_pos h] at ih
   refine qax (decide_eq_true (by rw[e4];show(c[k].length:Int)≤2;omega)) (qab (qai hk) (qaa (qcL _ (by show c[k].length≤_;omega)) (qan (by simp only[List.length_singleton,decide_eq_true_eq];omega) ?_)))
   rw[qae (by omega)];exact ih
  ·rw[if_neg h,List.append_nil] at ih
   refine qaB (decide_eq_false (by rw[e4];show ¬ (c[k].length:Int)≤2;omega)) ?_
   rw[qae (by omega)];exact ih
 ·simp only[Z139.l0_succ _ qaf]
  refine qaB (decide_eq_false (by show ¬ ((c.length:Int)<(c.length:Int));omega)) (qaj ?_)
  rw[List.take_of_length_le (Nat.le_refl _)]
end VeT
open Go Go.Proofs Ve
namespace VeT
theorem qoe{f:Nat→Prop}:∀ {n:Nat},cnt f n=n→∀ c,c<n→f c
 | 0,_,c,h=>by omega
 | n+1,h,c,hc=>by
  have hle:cnt f n≤n:=by
   have h1:cnt f n≤cnt (fun _=>True) n:=qg2 fun _ _ _=>trivial
   have h2:∀ n,cnt (fun _=>True) n≤n:=by
    intro n
    induction n with
    | zero=>exact Nat.le_refl _
    | succ n ih=>unfold cnt;split<;>omega
   exact Nat.le_trans h1 (h2 n)
  unfold cnt at h
  by_cases hf:f n
  ·rw[if_pos hf] at h
   by_cases e:c=n
   ·subst e;exact hf
   ·exact qoe (n:=n) (by omega) c (by omega)
  ·rw[if_neg hf] at h;omega
theorem qqo{R W d:Nat}{F:Ent}{pv:List Nat}(h:Rf R W F pv)(hall:∀ c,c<d→c∈pv):∀ i,i<d→i<pv.length∧pv.getD i 0=i:=by
 intro i
 induction i using Nat.strongRecOn with
 | ind i ih =>
  intro hi
  obtain⟨k,hk,e⟩:=h.mem.1 (hall i hi)
  rcases Nat.lt_trichotomy k i with hlt | rfl | hgt
  ·have:=(ih k hlt (by omega)).2;omega
  ·exact⟨hk,e⟩
  ·refine⟨by omega,?_⟩
   have hm:=h.mono i k hgt hk
   rw[e] at hm
   -- pv i < i, so it is one of the earlier places
   have h2:=(ih (pv.getD i 0) hm (by omega)).2
   have h3:=(ih (pv.getD i 0) hm (by omega)).1
   have h4:=h.mono (pv.getD i 0) i hm (by omega)
   omega
theorem qoE{p:Int}{d:Nat}{m:Mat}(hp:Pr p)(hd:d≤4)(h:BOk p d m):qdo (qnI p d m) m=qaW p d:=by
 obtain⟨v1,v2⟩:=h.vm hp hd
 obtain⟨cells,e,hl,he,hr⟩:=h
 have hin:=qo7 hp.1 hl he
 have hun:=qeM hp (show d≤32 by omega)
 subst e
 refine qkf (qcP v2 v1) hun rfl rfl rfl fun i j hi hj=>?_
 have hi':i<d:=by simpa [qdo,qnI] using hi
 have hj':j<d:=by simpa [qdo,qnI] using hj
 rw[qgD (a:=qnI p d (p,(d:Int),(d:Int),cells,())) (b:=(p,(d:Int),(d:Int),cells,())) hi hj,qlM hi' hj']
 generalize hA:qbL (qe8 cells (qaq qbf d d) d d d) (d+d)=A at hin
 obtain⟨hrf,heq⟩:=qgu hp hin (d+d) (Nat.le_refl _)
 have hF:qgg p d cells=(elS p d A (d+d)).1:=by unfold qgg;rw[hA]
 have hAl:∀ i j,i<d→j<d→A i j=qbL cells d i j:=fun i j hi hj=>by
  rw[← hA];unfold qe8
  rw[qbv hi (by omega)];unfold qjE;rw[if_pos hj]
 have hAr:∀ i j,i<d→j<d→A i (d+j)=if i=j then 1 else 0:=fun i j hi hj=>by
  rw[← hA];unfold qe8
  rw[qbv hi (by omega)];unfold qjE;rw[if_neg (by omega),Nat.add_sub_cancel_left,qbv hi hj];rfl
 -- all of the first places are pivots
 have hrk:rkV p d (Spn p d d (qbL cells d))=d:=by
  rw[← qoM hp (qcA he hl)];exact hr
 have hall:∀ c,c<d→c∈(elS p d A (d+d)).2:=fun c hc=>by
  obtain⟨_,x,⟨co,hco⟩,x1,x2⟩:=qoe hrk c hc
  rw[← qqL hp.1 hrf]
  have hag:∀ j,j<d→qaJ co (fun l=>A l j) d%p=x j%p:=fun j hj=>by
   rw[← hco j hj,qaA (d:=co) (h:=fun l=>qbL cells d l j) fun l hl=>⟨rfl,hAl l j hl hj⟩]
  refine⟨by omega,fun j=>qaJ co (fun l=>A l j) d,heq.spn.1 ⟨co,fun j _=>rfl⟩,fun j hj=>?_,?_⟩
  ·show qaJ co (fun l=>A l j) d%p=0
   rw[hag j (by omega)];exact x1 j hj
  ·show qaJ co (fun l=>A l c) d%p≠0
   rw[hag c hc];exact x2
 have hpv:=qqo hrf hall
 generalize (elS p d A (d+d)).1=F at hF hrf heq
 generalize (elS p d A (d+d)).2=pv at hrf hall hpv
 obtain⟨co,hco⟩:=heq.1 i hi'
 have hFe:∀ k,k<d→F i (d+k)%p=co k%p:=fun k hk=>by
  rw[← hco (d+k) (by omega),qaU]
  rw[qaA (d:=fun l=>if l=k then 1 else 0) (h:=co) fun l hl=>⟨hAr l k hl hk,rfl⟩,qbU hk]
 have hFj:F i j=if i=j then 1 else 0:=by
  have:=hrf.one i j hi' (hpv j hj').1
  rwa [(hpv j hj').2] at this
 show qaJ (mE (qnI p d (p,(d:Int),(d:Int),cells,())) i) (fun l=>qbL cells ((d:Int)).toNat l j) ((d:Int)).toNat%p=_
 rw[Int.toNat_natCast]
 have e1:∀ l,l<d→mE (qnI p d (p,(d:Int),(d:Int),cells,())) i l=F i (d+l):=fun l hl=>by
  show qbL (qp3 p d cells) ((d:Int)).toNat i l=_
  rw[Int.toNat_natCast];unfold qp3
  rw[qbv hi' hl,hF]
 rw[qhL (g:=co) fun l hl=>by rw[e1 l hl];exact hFe l hl]
 have:=hco j (by omega)
 rw[qaA (d:=co) (h:=fun l=>qbL cells d l j) fun l hl=>⟨rfl,hAl l j hl hj'⟩,hFj] at this
 rw[this]
 have:=hp.1
 split
 ·exact Int.emod_eq_of_lt (by omega) (by omega)
 ·exact Int.zero_emod _
theorem qeI{c:List Sim}{ms:List Mat}(h:∀ k i j,k<c.length→3≤(c.getD k []).length→i<j→j<(c.getD k []).length→two c ms k i (j-1)=two c ms k j i):qb3 c ms=none:=by
 cases e:qb3 c ms with
 | none=>rfl
 | some t =>
  obtain⟨k,i,j⟩:=t
  obtain⟨h1,h2,h3,h4,_⟩:=qfo e
  unfold qb3 at e
  obtain⟨k',hk,e⟩:=Option.bind_eq_some_iff.1 e
  obtain⟨i',hi,e⟩:=Option.bind_eq_some_iff.1 e
  obtain⟨j',hj,e⟩:=Option.map_eq_some_iff.1 e
  simp only[Prod.mk.injEq] at e
  obtain⟨rfl,rfl,rfl⟩:=e
  exact absurd (h _ _ _ h1 h2 h3 h4) (qay hj).2.2
theorem qnn{c:List Sim}{ms:List Mat}{m:Mat}(hv:VC c)(h:∀ k i,k<c.length→i<(qaF c k).length→mp c ms k i=m):qb3 c ms=none:=qeI fun k i j hk h3 hij hj=>by
 have hl:=qaz (c:=c) (k:=k)
 rw[if_pos (by omega)] at hl
 obtain⟨_,a2,a3⟩:=qaX hv hk (show i<(qaF c k).length by omega)
 obtain⟨_,b2,b3⟩:=qaX hv hk (show j<(qaF c k).length by omega)
 have la:=qaz (c:=c) (k:=fc c k i)
 have lb:=qaz (c:=c) (k:=fc c k j)
 rw[a3,List.length_eraseIdx_of_lt (by omega),if_pos (by omega)] at la
 rw[b3,List.length_eraseIdx_of_lt (by omega),if_pos (by omega)] at lb
 unfold two
 rw[h k i hk (by omega),h k j hk (by omega),h _ (j-1) a2 (by omega),h _ i b2 (by omega)]
theorem qnj{c:List Sim}{ms:List Mat}(h:∀ x∈c,x.length≤2):qb3 c ms=none:=qeI fun k i j hk h3 _ _=>by
 rw[qad hk] at h3
 have:=h _ (List.getElem_mem hk)
 omega
theorem qjY{c:List Sim}{p:Int}{d:Nat}{bs ms:List Mat}(hv:VC c)(hp:Pr p)(hd:d≤4)(hbl:bs.length=c.length)(hb:∀ m∈bs,BOk p d m)
  (hm:∀ k i,k<c.length→i<(qaF c k).length→ms.getD (plc c k+i) mz=chM c p d bs k i):qb3 c ms=none:=by
 have hbs:∀ f,f<c.length→BOk p d (bs.getD f mz):=fun f hf=>by
  have:f<bs.length:=by omega
  rw[List.getD_eq_getElem?_getD,List.getElem?_eq_getElem this]
  exact hb _ (List.getElem_mem this)
 have hmp:∀ k i,k<c.length→i<(qaF c k).length→mp c ms k i=qdo (bs.getD k mz) (qnI p d (bs.getD (fc c k i) mz)):=fun k i hk hi=>hm k i hk hi
 have key:∀ k i j,k<c.length→i<(qaF c k).length→j<(qaF c (fc c k i)).length→two c ms k i j=qdo (bs.getD k mz) (qnI p d (bs.getD (fc c (fc c k i) j) mz)):=fun k i j hk hi hj=>by
  obtain⟨_,a2,a3⟩:=qaX hv hk hi
  obtain⟨_,b2,b3⟩:=qaX hv a2 hj
  unfold two
  rw[hmp k i hk hi,hmp _ j a2 hj]
  have B1:=hbs k hk
  have B2:=hbs _ a2
  have B3:=hbs _ b2
  generalize fc c (fc c k i) j=g at *
  generalize fc c k i=f at *
  obtain⟨v1,w1⟩:=B1.vm hp hd
  obtain⟨v2,w2⟩:=B2.vm hp hd
  obtain⟨v3,w3⟩:=B3.vm hp hd
  obtain⟨_,e1,_⟩:=B1
  have B2':=B2
  obtain⟨_,e2,_⟩:=B2
  obtain⟨_,e3,_⟩:=B3
  have s1:(bs.getD k mz).1=p∧(bs.getD k mz).2.1=(d:Int)∧(bs.getD k mz).2.2.1=(d:Int):=by rw[e1];exact⟨rfl,rfl,rfl⟩
  have s2:(bs.getD f mz).1=p∧(bs.getD f mz).2.1=(d:Int)∧(bs.getD f mz).2.2.1=(d:Int):=by rw[e2];exact⟨rfl,rfl,rfl⟩
  rw[qdv v1 w2 (qcP v2 w3) s1.2.2 s2.2.1.symm s1.1,← qdv w2 v2 w3 s2.2.1.symm s2.2.2 s2.1.symm,qoE hp hd B2',qje (p:=p) (n:=d) w3 rfl rfl]
 refine qeI fun k i j hk h3 hij hj=>?_
 have hl:=qaz (c:=c) (k:=k)
 rw[if_pos (by omega)] at hl
 obtain⟨_,a2,a3⟩:=qaX hv hk (show i<(qaF c k).length by omega)
 obtain⟨_,b2,b3⟩:=qaX hv hk (show j<(qaF c k).length by omega)
 have la:=qaz (c:=c) (k:=fc c k i)
 have lb:=qaz (c:=c) (k:=fc c k j)
 rw[a3,List.length_eraseIdx_of_lt (by omega),if_pos (by omega)] at la
 rw[b3,List.length_eraseIdx_of_lt (by omega),if_pos (by omega)] at lb
 rw[key k i (j-1) hk (by omega) (by omega),key k j i hk (by omega) (by omega)]
 have:fc c (fc c k i) (j-1)=fc c (fc c k j) i:=by
  obtain⟨_,u2,u3⟩:=qaX hv a2 (show j-1<(qaF c (fc c k i)).length by omega)
  obtain⟨_,w2,w3⟩:=qaX hv b2 (show i<(qaF c (fc c k j)).length by omega)
  refine qhp hv u2 w2 ?_
  rw[u3,w3,a3,b3]
  exact(qfe hij).symm
 rw[this]
def zm(p:Int)(a b:Nat):Mat:=(p,(a:Int),(b:Int),List.replicate (a*b) 0,())
theorem qjk{g:Nat→Int}:∀ {n:Nat},qaJ (fun _=>0) g n=0
 | 0=>rfl
 | n+1=>by show qaJ (fun _=>0) g n+0*g n=0;rw[qjk];simp
theorem qqB{p:Int}{a b d:Nat}{m:Mat}(hm:m.2.2.1=(d:Int)):qdo (zm p a b) m=zm p a d:=by
 refine qd4.2 ⟨rfl,rfl,hm,?_⟩
 show qaq (qjp p (List.replicate (a*b) 0) m.2.2.2.1 ((b:Int)).toNat m.2.2.1.toNat) m.2.2.1.toNat ((a:Int)).toNat=List.replicate (a*d) 0
 rw[hm,Int.toNat_natCast,Int.toNat_natCast,Int.toNat_natCast]
 refine Eq.trans (qaD fun i j hi hj=>(?_:_=(0:Int))) qi4
 unfold qjp
 rw[qaA (d:=fun _=>0) (h:=fun l=>m.2.2.2.1.getD (l*d+j) 0) fun l hl=>⟨by rw[List.getD_eq_getElem?_getD,List.getElem?_replicate];split<;>rfl,rfl⟩,qjk,Int.zero_emod]
theorem qp8{c:List Sim}{p:Int}{st:Sim}(hv:VC c)(hl:st.length=c.length)(hst:∀ x∈st,0≤x∧x≤3){k i:Nat}(hk:k<c.length)(hi:i<(qaF c k).length) :
  mp c ((qbQ c c.length).map (zOf p st)) k i=zm p (st.getD k 0).toNat (st.getD (fc c k i) 0).toNat:=by
 have hg:=qcr (n:=c.length) hk hi
 obtain⟨f,f1,f2,f3⟩:=qeJ hv.srt hv hk hi
 obtain⟨a,ha,ea,hka,eka⟩:=qgl hl hst hk
 obtain⟨b,hb,eb,hfb,efb⟩:=qgl hl hst f1
 unfold mp fc
 rw[List.getD_eq_getElem?_getD,List.getElem?_map,hg]
 show zOf p st ((k:Int),(i:Int),(qaF c k).getD i 0,())=_
 unfold zOf zm
 simp only[f3,Int.toNat_natCast,ea,eb]
theorem qn1{c:List Sim}{p:Int}{st:Sim}(hv:VC c)(hl:st.length=c.length)(hst:∀ x∈st,0≤x∧x≤3):qb3 c ((qbQ c c.length).map (zOf p st))=none:=by
 have key:∀ k i j,k<c.length→i<(qaF c k).length→j<(qaF c (fc c k i)).length→two c ((qbQ c c.length).map (zOf p st)) k i j=zm p (st.getD k 0).toNat (st.getD (fc c (fc c k i) j) 0).toNat:=fun k i j hk hi hj=>by
  obtain⟨_,a2,a3⟩:=qaX hv hk hi
  unfold two
  rw[qp8 hv hl hst hk hi,qp8 hv hl hst a2 hj]
  exact qqB rfl
 refine qeI fun k i j hk h3 hij hj=>?_
 have hl:=qaz (c:=c) (k:=k)
 rw[if_pos (by omega)] at hl
 obtain⟨_,a2,a3⟩:=qaX hv hk (show i<(qaF c k).length by omega)
 obtain⟨_,b2,b3⟩:=qaX hv hk (show j<(qaF c k).length by omega)
 have la:=qaz (c:=c) (k:=fc c k i)
 have lb:=qaz (c:=c) (k:=fc c k j)
 rw[a3,List.length_eraseIdx_of_lt (by omega),if_pos (by omega)] at la
 rw[b3,List.length_eraseIdx_of_lt (by omega),if_pos (by omega)] at lb
 rw[key k i (j-1) hk (by omega) (by omega),key k j i hk (by omega) (by omega)]
 have:fc c (fc c k i) (j-1)=fc c (fc c k j) i:=by
  obtain⟨_,u2,u3⟩:=qaX hv a2 (show j-1<(qaF c (fc c k i)).length by omega)
  obtain⟨_,w2,w3⟩:=qaX hv b2 (show i<(qaF c (fc c k j)).length by omega)
  refine qhp hv u2 w2 ?_
  rw[u3,w3,a3,b3]
  exact(qfe hij).symm
 rw[this]
theorem qiz{c:List Sim}{x:Sim}:x∈sk1 c↔x∈c∧x.length≤2:=by
 unfold sk1
 rw[List.mem_filter]
 simp
theorem qri{c:List Sim}(hv:VC c):VC (sk1 c):=by
 have hsub:(sk1 c).Sublist c:=List.filter_sublist
 have hg:∀ k,k<(sk1 c).length→(sk1 c).getD k []∈sk1 c:=fun k hk=>by rw[qad hk];exact List.getElem_mem hk
 have hvx:∀ x∈c,Vx x:=fun x hx=>by
  obtain⟨k,hk,rfl⟩:=List.getElem_of_mem hx
  have:=hv.2.1 k hk
  rwa [qad hk] at this
 have hpw:c.Pairwise fun a b=>qdS a b<0:=List.pairwise_iff_getElem.2 fun i j hi hj hij=>hv.srt i j hj hij
 have hpw2:=hpw.sublist hsub
 refine⟨Nat.le_trans hsub.length_le hv.1,fun k hk=>hvx _ (qiz.1 (hg k hk)).1,fun k h1 (hk:k<(sk1 c).length)=>?_,fun k (hk:k<(sk1 c).length) f hf=>?_⟩
 ·rw[qad (show k-1<(sk1 c).length by omega),qad hk]
  exact List.pairwise_iff_getElem.1 hpw2 (k-1) k (by omega) hk (by omega)
 ·obtain⟨h1,h2⟩:=qiz.1 (hg k hk)
  obtain⟨q,hq,e⟩:=List.getElem_of_mem h1
  refine qiz.2 ⟨hv.2.2.2 q hq f (by rw[qad hq,e];exact hf),?_⟩
  obtain⟨h3,i,hi,rfl⟩:=qcw.1 hf
  rw[List.length_eraseIdx_of_lt hi];omega
theorem qq5{c:List Sim}(h:S5 c):S5 (sk1 c):=fun x hx=>h x (qiz.1 hx).1
end VeT
open Go Go.Proofs Ve
namespace VeT
theorem qrH{p:Int}(h:2≤p∧p≤251∧∀ k∈List.range 16,2≤k→(k:Int)*k≤p→p%k≠0):Pr p:=⟨h.1,h.2.1,fun k h1 h2=>by
 by_cases hk:k<16
 ·exact h.2.2 k (List.mem_range.2 hk) h1 h2
 ·have:16*16≤k*k:=Nat.mul_le_mul (by omega) (by omega)
  have e:(k:Int)*k=((k*k:Nat):Int):=(qa2 ..).symm
  rw[e] at h2
  have:=h.2.1
  omega⟩
theorem pr5{p:Int}(h:p∈([2,3,5,7,251]:List Int)):Pr p:=by
 simp only[List.mem_cons,List.not_mem_nil,or_false] at h
 rcases h with rfl | rfl | rfl | rfl | rfl<;>exact qrH (by decide)
theorem VS.at{c:List Sim}{p:Int}{st:Sim}{ms:List Mat}(h:VS c p st ms){t:Nat}(ht:t<ms.length):∃ a b:Nat,a≤3∧b≤3∧VM (ms.getD t mz)∧(ms.getD t mz).1=p∧(ms.getD t mz).2.1=(a:Int)∧(ms.getD t mz).2.2.1=(b:Int):=by
 have hl:=h.2.2.2.1
 have ht':t<(qbQ c c.length).length:=by unfold plc at hl;omega
 obtain⟨k,i,h1,h2,h3⟩:=qh8 ht'
 have hb:=(h.map h1 h2).2
 unfold mp at hb
 rw[← h3] at hb
 obtain⟨a1,a2⟩:=qcx h.2.2.1.2.1 k
 obtain⟨b1,b2⟩:=qcx h.2.2.1.2.1 (fc c k i)
 exact⟨(st.getD k 0).toNat,(st.getD (fc c k i) 0).toNat,by omega,by omega,hb.1,hb.2.1,by rw[hb.2.2.1];omega,by rw[hb.2.2.2];omega⟩
theorem qeG{l:Sim}(h:l.length≤1048576):Sm (.sl (.int .i64)) l:=⟨h,fun _ _=>trivial⟩
theorem qn9{ms:List Mat}(h:ms.length≤1048576)(h2:∀ m∈ms,m.2.2.2.1.length≤1048576):Sm (.sl (.st cM)) ms:=⟨h,fun m hm=>⟨trivial,trivial,trivial,qeG (h2 m hm),trivial⟩⟩
theorem VS.plc_le{c:List Sim}{p:Int}{st:Sim}{ms:List Mat}(h:VS c p st ms):ms.length≤192:=by
 rw[← h.2.2.2.1];exact qdJ h.1
theorem VS.cells{c:List Sim}{p:Int}{st:Sim}{ms:List Mat}(h:VS c p st ms):∀ m∈ms,m.2.2.2.1.length≤9:=fun m hm=>by
 obtain⟨t,ht,rfl⟩:=List.getElem_of_mem hm
 obtain⟨a,b,ha,hb,hv,_,e1,e2⟩:=h.at ht
 rw[qad ht] at hv e1 e2
 have:=hv.num
 rw[e1,e2,Int.toNat_natCast,Int.toNat_natCast] at this
 have:=Nat.mul_le_mul ha hb
 omega
theorem VS.sm{c:List Sim}{p:Int}{st:Sim}{ms:List Mat}(h:VS c p st ms):Sm (.st cS) (c,p,st,ms,()):=by
 have h48:=h.1.1
 have hl:=h.2.2.1.1
 have h192:=h.plc_le
 exact⟨h.1.sm,trivial,qeG (by show st.length≤_;omega),qn9 (by show ms.length≤_;omega) fun m hm=>by have:=h.cells m hm;omega,trivial⟩
abbrev Drw:=List Sim×Int×Sim×List Mat×Src×Unit
def qrj(n:Nat)(r:Drw):Prop:=ISh (r.1,r.2.1,r.2.2.1,r.2.2.2.1,())∧S5 r.1∧SO n r.2.2.2.2.1
theorem qqy{p:Int}{d:Nat}(hp:Pr p)(hd:d≤3):Bt (qaW p d) p (d:Int) (d:Int):=⟨qeM hp (by omega),rfl,rfl,rfl⟩
theorem qg7{α:Type}{n i:Nat}{a d:α}(h:i<n):(List.replicate n a).getD i d=a:=by
 rw[List.getD_eq_getElem?_getD,List.getElem?_replicate,if_pos h];rfl
theorem qpy{c:List Sim}{p:Int}{d:Nat}(hv:VC c)(h5:∀ k:Nat,k<4→SD c (List.replicate c.length (d:Int)) k≤32)(hp:Pr p)(hd:d≤3):ISh (c,p,List.replicate c.length (d:Int),List.replicate (qbQ c c.length).length (qaW p d),()):=by
 have hpl:∀ k i,k<c.length→i<(qaF c k).length→plc c k+i<(qbQ c c.length).length:=fun k i hk hi=>by
  have:=qcr (n:=c.length) hk hi
  rcases Nat.lt_or_ge (plc c k+i) (qbQ c c.length).length with h | h
  ·exact h
  ·rw[List.getElem?_eq_none h] at this;cases this
 refine⟨⟨hv,hp,⟨by simp,fun x hx=>by rw[(List.mem_replicate.1 hx).2];omega,fun k hk=>h5 k hk⟩,?_,fun k hk i hi=>?_⟩,?_⟩
 ·show(qbQ c c.length).length=(List.replicate _ _).length
  simp
 ·obtain⟨f,f1,f2,f3⟩:=qeJ hv.srt hv hk hi
  show Bt ((List.replicate _ _).getD (plc c k+i) mz) p ((List.replicate _ _).getD ((qaF c k).getD i 0).toNat 0) ((List.replicate _ _).getD k 0)
  rw[f3,Int.toNat_natCast,qg7 (hpl k i hk hi),qg7 f1,qg7 hk]
  exact qqy hp hd
 ·exact qnn (m:=qaW p d) hv fun k i hk hi=>qg7 (hpl k i hk hi)
theorem qrv{c:List Sim}(hv:VC c)(h5:S5 c){st:Sim}(hst:∀ x∈st,0≤x∧x≤3):∀ k:Nat,k<4→SD c st k≤32:=fun k hk=>by
 have h1:=qmX hv h5 hk
 have h2:=qhA hst (c:=c) (d:=(k:Int)) (n:=c.length)
 rw[qly];omega
theorem qnl(n:Nat)(s:Src)(hn:n≤10000000)(hs:SO n s):qiM n_Z145 [dR s] o_Z145 fun(r:Drw)=>qrj (n+20000) r:=by
  obtain⟨c0,a,g,⟨⟩⟩:=s
  refine qbW ?_
  simp only[run_Z145,Z145.ev]
  refine qa7 (qk1 n _ (by omega) hs) fun(r:List Sim×Src×Unit) ⟨b1,b2,b3⟩=>?_
  obtain⟨c,s1,⟨⟩⟩:=r
  simp only at b1 b2 b3
  dsimp only
  have h48:=b1.1
  have h192:=qdJ b1
  refine qa7 (qed (n+50) _ _ (by simp) (by omega) b3) fun(r:Int×Src×Unit) ⟨p1,p2⟩=>?_
  obtain⟨p,s2,⟨⟩⟩:=r
  simp only at p1 p2
  have hp:=pr5 p1
  refine qa7 (qbb (n+52) _ 5 (by omega) p2) fun(r:Int×Src×Unit) ⟨q1,q2,q3,q4⟩=>?_
  obtain⟨w,s3,⟨⟩⟩:=r
  simp only at q1 q2 q3 q4
  dsimp only
  -- the constant sheaf
  refine qdg (fun _=>?_) fun _=>?_
  · refine qa7 (qbb (n+54) _ 2 (by omega) q4) fun(r:Int×Src×Unit) ⟨r1,r2,r3,r4⟩=>?_
    obtain⟨d0,s4,⟨⟩⟩:=r
    simp only at r1 r2 r3 r4
    have ed:w64 (1+d0)=((d0.toNat+1:Nat):Int):=by rw[qag (by omega) (by omega)];omega
    rw[ed]
    refine qaG (qb8 c p (d0.toNat+1) (by omega) b1.sm b1) (qaY ⟨?_,b2,r4.le (by omega)⟩)
    exact qpy b1 (qrv b1 b2 fun x hx=>by rw[(List.mem_replicate.1 hx).2];omega) hp (by omega)
  -- in other bases
  refine qdg (fun _=>?_) fun _=>?_
  · refine qa7 (qbb (n+54) _ 2 (by omega) q4) fun(r:Int×Src×Unit) ⟨r1,r2,r3,r4⟩=>?_
    obtain⟨d0,s4,⟨⟩⟩:=r
    simp only at r1 r2 r3 r4
    have ed:w64 (1+d0)=((d0.toNat+1:Nat):Int):=by rw[qag (by omega) (by omega)];omega
    rw[ed]
    refine qa7 (ql3 (n+56) s4 c p (d0.toNat+1) (by omega) (by exact r4) b1 hp (by omega)) fun r ⟨ms,s5,bs,e,m1,m2,m3,m4,m5⟩=>?_
    subst e
    refine qaY ⟨⟨qqM b1 b2 hp (by simp) (fun x hx=>by rw[(List.mem_replicate.1 hx).2];omega) m1 fun k hk i hi=>?_,?_⟩,b2,m5.le (by omega)⟩
    · show Bt (ms.getD (plc c k+i) mz) p ((List.replicate _ _).getD ((qaF c k).getD i 0).toNat 0) ((List.replicate _ _).getD k 0)
      rw[m4 k i hk hi]
      exact qm0 b1 hp (by omega) m2 m3 hk hi
    · exact qjY b1 hp (d:=d0.toNat+1) (by omega) m2 m3 fun k i hk hi=>m4 k i hk hi
  -- at one place
  refine qdg (fun _=>?_) fun _=>?_
  · have hj:∀(st:Sim) (s5:Src) (m:Nat),st.length=c.length→(∀ x∈st,0≤x∧x≤3)→m≤n+20000→SO m s5→EvQ (fun φ=>Z145.j0 (mkR (run E (φ 0))) (φ 0) p 0 c st s5.1 s5.2.1 s5.2.2.1) o_Z145 fun(r:Drw)=>qrj (n+20000) r:=fun st s5 m hl hst hm h5=>by
      simp only[Z145.j0_eq _ qaf]
      refine qaG (qgf c p st b1.sm b1 hl hst) (qaY ⟨⟨qqM b1 b2 hp hl hst (by show((qbQ c c.length).map _).length=_;rw[List.length_map];rfl) fun k hk i hi=>qoV b1 hp hl hst hk hi,qn1 b1 hl hst⟩,b2,h5.le hm⟩)
    rw[Int.toNat_natCast]
    refine qaR (by simp only[Bool.and_eq_true,decide_eq_true_eq];omega) ?_
    have hrl:(List.replicate c.length (0:Int)).length=c.length:=List.length_replicate
    refine qcs (fun h=>?_) fun h=>hj _ s3 (n+54) (by simp) (fun x hx=>by rw[(List.mem_replicate.1 hx).2];omega) (by omega) q4
    refine qa7 (qbb (n+54) s3 _ (by omega) q4) fun(r:Int×Src×Unit) ⟨r1,r2,r3,r4⟩=>?_
    obtain⟨k0,s4,⟨⟩⟩:=r
    simp only at r1 r2 r3 r4
    refine qa7 (qbb (n+56) s4 3 (by omega) r4) fun(r:Int×Src×Unit) ⟨t1,t2,t3,t4⟩=>?_
    obtain⟨d0,s5,⟨⟩⟩:=r
    simp only at t1 t2 t3 t4
    rw[hrl] at r2 h
    have hk:k0<(c.length:Int):=by omega
    refine qaR (show(decide ((0:Int)≤k0)&&decide (k0<((List.replicate c.length (0:Int)).length:Int)))=true by rw[hrl];simp only[Bool.and_eq_true,decide_eq_true_eq];omega) ?_
    refine hj _ s5 (n+58) (by simp) (fun x hx=>?_) (by omega) t4
    rcases List.mem_or_eq_of_mem_set hx with hx | rfl
    · rw[(List.mem_replicate.1 hx).2];omega
    · rw[qag (by omega) (by omega)];omega
  -- of dimension 1
  refine qaG (qoi c b1) ?_
  have v1:=qri b1
  have f1:=qq5 b2
  have k48:=v1.1
  have k192:=qdJ v1
  have hfl:∀ x∈sk1 c,x.length≤2:=fun x hx=>(qiz.1 hx).2
  generalize sk1 c=c1 at v1 f1 k48 k192 hfl ⊢
  refine EvQ.start 1 (L:=fun φ N=>Z145.l1 (mkR (run E (φ 0))) (φ 0) N p 0 0 c1 [] s3.1 s3.2.1 s3.2.2.1) ?_ (fun _ _ _=>rfl)
  refine EvQ.loop 1 (σ:=Nat×Sim×Src) (L:=fun φ N st=>Z145.l1 (mkR (run E (φ 0))) (φ 0) N p (st.1:Int) 0 c1 st.2.1 st.2.2.1 st.2.2.2.1 st.2.2.2.2.1) (fun _ _ _ _=>rfl)
    (fun st=>st.1≤c1.length∧st.2.1.length=st.1∧(∀ x∈st.2.1,0≤x∧x≤3)∧SO (n+60+2*st.1) st.2.2) (fun st=>c1.length-st.1) (fun st hi ih=>?_) (0,[],s3) ⟨Nat.zero_le _,rfl,fun x hx=>by simp at hx,q4.le (by show n+52+2≤n+60+2*0;omega)⟩
  obtain⟨k,st,s4⟩:=st
  obtain⟨i1,i2,i3,i4⟩:=hi
  simp only at i1 i2 i3 i4 ih ⊢
  simp only[Z145.l1_succ _ qaf]
  refine qcs (fun h=>?_) fun h=>?_
  · refine qa7 (qbb _ s4 4 (by omega) i4) fun(r:Int×Src×Unit) ⟨r1,r2,r3,r4⟩=>?_
    obtain⟨y,s5,⟨⟩⟩:=r
    simp only at r1 r2 r3 r4
    refine qaR (decide_eq_true (by simp;omega)) ?_
    rw[qae (by omega)]
    refine ih (k+1,st++[y],s5) ⟨by show k+1≤c1.length;omega,by simp[i2],fun x hx=>?_,r4.le (by show n+60+2*k+2≤n+60+2*(k+1);omega)⟩ (by show c1.length-(k+1)<c1.length-k;omega)
    rcases List.mem_append.1 hx with hx | hx
    · exact i3 x hx
    · rw[List.mem_singleton] at hx;subst hx;omega
  have hk:k=c1.length:=by omega
  subst hk
  clear ih
  refine qaG (qgf c1 p st v1.sm v1 i2 i3) ?_
  have hol:((qbQ c1 c1.length).map (zOf p st)).length=(qbQ c1 c1.length).length:=by rw[List.length_map]
  have horig:∀ t,t<(qbQ c1 c1.length).length→∃ a b:Nat,a≤3∧b≤3∧VM (((qbQ c1 c1.length).map (zOf p st)).getD t mz)∧(((qbQ c1 c1.length).map (zOf p st)).getD t mz).2.1=(a:Int)∧(((qbQ c1 c1.length).map (zOf p st)).getD t mz).2.2.1=(b:Int):=fun t ht=>by
    obtain⟨k,i,h1,h2,h3⟩:=qh8 ht
    have hb:=qoV v1 hp i2 i3 h1 h2
    rw[← h3] at hb
    obtain⟨a1,a2⟩:=qcx i3 k
    obtain⟨b1,b2⟩:=qcx i3 ((qaF c1 k).getD i 0).toNat
    exact⟨(st.getD k 0).toNat,(st.getD ((qaF c1 k).getD i 0).toNat 0).toNat,by omega,by omega,hb.1,by rw[hb.2.2.1];omega,by rw[hb.2.2.2];omega⟩
  have hbt:=fun k (hk:k<c1.length) i (hi:i<(qaF c1 k).length)=>qoV v1 hp i2 i3 hk hi
  generalize (qbQ c1 c1.length).map (zOf p st)=og at hol horig hbt ⊢
  refine EvQ.start 1 (L:=fun φ N=>Z145.l2 (mkR (run E (φ 0))) (φ 0) N p 0 0 p s4.1 s4.2.1 s4.2.2.1 og c1 st) ?_ (fun _ _ _=>rfl)
  refine EvQ.loop 1 (σ:=Nat×List Mat×Src) (L:=fun φ N x=>Z145.l2 (mkR (run E (φ 0))) (φ 0) N p (x.1:Int) 0 p x.2.2.1 x.2.2.2.1 x.2.2.2.2.1 x.2.1 c1 st) (fun _ _ _ _=>rfl)
    (fun x=>x.1≤og.length∧x.2.1.length=og.length∧(∀ t,t<og.length→VM (x.2.1.getD t mz)∧((x.2.1.getD t mz).1=(og.getD t mz).1∨(x.2.1.getD t mz).1=p)∧(x.2.1.getD t mz).2.1=(og.getD t mz).2.1∧(x.2.1.getD t mz).2.2.1=(og.getD t mz).2.2.1)∧SO (n+200+70*x.1) x.2.2) (fun x=>og.length-x.1) (fun x hi ih=>?_) (0,og,s4)
    ⟨Nat.zero_le _,rfl,fun t ht=>⟨by obtain⟨_,_,_,_,hv,_⟩:=horig t (by omega);exact hv,.inl rfl,rfl,rfl⟩,i4.le (by show n+60+2*c1.length≤n+200+70*0;omega)⟩
  obtain⟨k,ms,s5⟩:=x
  obtain⟨j1,j2,j3,j4⟩:=hi
  simp only at j1 j2 j3 j4 ih ⊢
  simp only[Z145.l2_succ _ qaf]
  refine qcs (fun h=>?_) fun h=>?_
  · have hk:k<og.length:=by omega
    have hkm:k<ms.length:=by omega
    obtain⟨ra,rb,ha,hb,hv,ea,eb⟩:=horig k (by omega)
    obtain⟨u1,u2,u3,u4⟩:=j3 k hk
    have eg:ms[k]=ms.getD k mz:=(qad hkm).symm
    rw[Int.toNat_natCast]
    have hc:(decide ((0:Int)≤(k:Int))&&decide ((k:Int)<(ms.length:Int)))=true:=by simp only[Bool.and_eq_true,decide_eq_true_eq];omega
    refine qaR hc (qbV (List.getElem?_eq_getElem hkm) (qaR hc (qbV (List.getElem?_eq_getElem hkm) ?_)))
    rw[eg,u3,u4,ea,eb]
    refine qa7 (qj9 _ s5 p ra rb (by omega) j4 ⟨hp.1,hp.2.1⟩ (by omega) (by omega)) fun r ⟨cells,s6,e,c1',c2,c3⟩=>?_
    subst e
    refine qaR hc ?_
    rw[qae (by omega)]
    refine ih (k+1,ms.set k (p,(ra:Int),(rb:Int),cells,()),s6) ⟨hk,by rw[List.length_set];exact j2,fun t ht=>?_,c3.le (by show n+200+70*k+70≤n+200+70*(k+1);omega)⟩ (by show og.length-(k+1)<og.length-k;omega)
    show VM ((ms.set k (p,(ra:Int),(rb:Int),cells,())).getD t mz)∧_
    by_cases e:t=k
    · subst e
      rw[List.getD_eq_getElem?_getD,List.getElem?_set_self hkm]
      exact⟨qmA hp (by omega) (by omega) c1' c2,.inr rfl,by rw[ea];rfl,by rw[eb];rfl⟩
    · rw[List.getD_eq_getElem?_getD,List.getElem?_set_ne (fun h=>e h.symm),← List.getD_eq_getElem?_getD]
      exact j3 t ht
  · refine qaY ⟨⟨qqM v1 f1 hp i2 i3 (by show ms.length=(qbQ c1 c1.length).length;omega) fun k hk i hi=>?_,qnj hfl⟩,f1,j4.le (by show n+200+70*k≤n+20000;omega)⟩
    have hb:=hbt k hk i hi
    have hlt:plc c1 k+i<og.length:=by
      rw[hol]
      have:=qcr (n:=c1.length) hk hi
      rcases Nat.lt_or_ge (plc c1 k+i) (qbQ c1 c1.length).length with h | h
      · exact h
      · rw[List.getElem?_eq_none h] at this;cases this
    obtain⟨u1,u2,u3,u4⟩:=j3 _ hlt
    exact⟨u1,by rcases u2 with u2 | u2<;>rw[u2];exact hb.2.1,by rw[u3];exact hb.2.2.1,by rw[u4];exact hb.2.2.2⟩
end VeT
open Go Go.Proofs Ve
namespace VeT
theorem qpN{f:Nat}{args:List Dv}(h:qiM f args (.cons .bool .nil) fun(r:Bool×Unit)=>r.1=true):Ret E f args ⟨.cons .bool .nil,(true,())⟩:=by
 obtain⟨⟨b,⟨⟩⟩,h1,h2⟩:=h
 have h2:b=true:=h2
 subst h2
 exact h1
theorem qkb{b:Bool}(h:b=true):EvQ (fun _=>some ⟨.cons .bool .nil,(b,())⟩) (.cons .bool .nil) fun(r:Bool×Unit)=>r.1=true:=qaY h
theorem qrL{c:List Int}(h:Wf (.sl (.int .u8)) c):SO 0 (c,0,0,()):=⟨fun b hb=>by
 have:=h.2 b hb
 simp only[Wf,Lit.wf,IntKind.min,IntKind.max,IntKind.signed,IntKind.bits,Bool.and_eq_true,decide_eq_true_eq] at this
 simp at this
 omega,by show(0:Int)≤0;omega,by show(0:Int)≤((0:Nat):Int);omega⟩
def Bnt(n:Nat)(r:Drw):Prop:=Sm (.st cS) (r.1,r.2.1,r.2.2.1,r.2.2.2.1,())∧r.1.length≤48∧SO n r.2.2.2.2.1
theorem qpg(n:Nat)(s:Src)(hn:n≤1000000)(hs:SO n s):qiM n_Z140 [dR s] o_Z140 fun(r:Drw)=>Bnt (n+30000) r:=by
  obtain⟨c0,a,g,⟨⟩⟩:=s
  refine qbW ?_
  simp only[run_Z140,Z140.ev]
  refine qa7 (qnl n _ (by omega) hs) fun(r:Drw) ⟨⟨vs,_⟩,_,so⟩=>?_
  obtain⟨c,p,st,ms,s1,⟨⟩⟩:=r
  simp only at vs so
  dsimp only
  have h48:=vs.1.1
  have hsl:st.length=c.length:=vs.2.2.1.1
  have h192:=vs.plc_le
  have hce:=vs.cells
  have hp:=vs.2.1
  have fin:∀(c:List Sim) (p:Int) (st:Sim) (ms:List Mat) (s5:Src) (m:Nat),c.length≤48→Sm (.sl (.sl (.int .i64))) c→st.length≤100→ms.length≤192→(∀ m∈ms,m.2.2.2.1.length≤100)→m≤n+30000→SO m s5 →
      EvQ (fun φ=>Z140.j0 (mkR (run E (φ 0))) (φ 0) 0 c p st ms s5.1 s5.2.1 s5.2.2.1) o_Z140 fun(r:Drw)=>Bnt (n+30000) r:=fun c p st ms s5 m h1 h2 h3 h4 h5 h6 h7=>by
    simp only[Z140.j0_eq _ qaf]
    exact qaY ⟨⟨h2,trivial,qeG (by show st.length≤_;omega),qn9 (by show ms.length≤_;omega) fun m hm=>by have:=h5 m hm;omega,trivial⟩,h1,h7.le h6⟩
  have smc:=vs.1.sm
  have hce':∀ m∈ms,m.2.2.2.1.length≤100:=fun m hm=>by have:=hce m hm;omega
  refine qa7 (qbb (n+20000) s1 16 (by omega) so) fun(r:Int×Src×Unit) ⟨q1,q2,q3,q4⟩=>?_
  obtain⟨w,s2,⟨⟩⟩:=r
  simp only at q1 q2 q3 q4
  dsimp only
  refine qdg (fun _=>?_) fun _=>?_
  · exact qa7 (qed (n+20002) s2 _ (by simp) (by omega) q4) fun(r:Int×Src×Unit) ⟨p1,p2⟩=>fin c r.1 st ms r.2.1 (n+20004) h48 smc (by omega) h192 hce' (by omega) p2
  refine qdg (fun _=>?_) fun _=>?_
  · exact qaR (decide_eq_true (by simp;omega)) (fin c p (st++[0]) ms s2 (n+20002) h48 smc (by simp;omega) h192 hce' (by omega) q4)
  refine qdg (fun _=>?_) fun _=>?_
  · refine qcs (fun h=>?_) fun _=>fin c p st ms s2 (n+20002) h48 smc (by omega) h192 hce' (by omega) q4
    exact qa7 (qed (n+20002) s2 _ (by simp) (by omega) q4) fun(r:Int×Src×Unit) ⟨p1,p2⟩=>qaR (by simp only[Bool.and_eq_true,decide_eq_true_eq];omega) (fin c p _ ms r.2.1 (n+20004) h48 smc (by rw[List.length_set];omega) h192 hce' (by omega) p2)
  refine qdg (fun _=>?_) fun _=>?_
  · refine qcs (fun h=>?_) fun _=>fin c p st ms s2 (n+20002) h48 smc (by omega) h192 hce' (by omega) q4
    exact qaR (by simp only[Bool.and_eq_true,decide_eq_true_eq];omega) (fin c p st _ s2 (n+20002) h48 smc (by omega) (by rw[List.length_drop,List.length_take];omega) (fun m hm=>hce' m (List.mem_of_mem_take (List.mem_of_mem_drop hm))) (by omega) q4)
  have vx2:∀ a b:Int,0≤a→a<b→b≤9→Vx [a,b]:=fun a b h1 h2 h3=>⟨by simp,by simp,qdH (by simp;exact h2),fun x hx=>by simp at hx;rcases hx with rfl | rfl<;>omega⟩
  have vx3:∀ a b c:Int,0≤a→a<b→b<c→c≤9→Vx [a,b,c]:=fun a b c h1 h2 h3 h4=>⟨by simp,by simp,qdH (by simp;omega),fun x hx=>by simp at hx;rcases hx with rfl | rfl | rfl<;>omega⟩
  have fixed:∀(l:List Sim),l.length≤1024→(∀ s∈l,Vx s)→(l.map fun s=>2 ^ s.length).sum≤48→qiM n_Z129 [dLL l] o_Z129 fun(r:List Sim×Unit)=>VC r.1:=fun l h1 h2 h3=>by
    obtain⟨r,g1,g2,g3⟩:=qji l h1 h2 fun c hs hm=>Nat.le_trans (qiw hs hm) h3
    exact⟨r,g1,g2⟩
  have j2:∀ b:Bool,EvQ (fun φ=>Z140.j2 (mkR (run E (φ 0))) (φ 0) w b 0 p s2.1 s2.2.1 s2.2.2.1 c st ms) o_Z140 fun(r:Drw)=>Bnt (n+30000) r:=fun b=>by
    simp only[Z140.j2_eq _ qaf]
    refine qdg (fun _=>?_) fun _=>?_
    · refine qcs (fun h=>?_) fun _=>fin c p st ms s2 (n+20002) h48 smc (by omega) h192 hce' (by omega) q4
      refine qa7 (qbb (n+20002) s2 _ (by omega) q4) fun(r:Int×Src×Unit) ⟨r1,r2,r3,r4⟩=>?_
      obtain⟨k0,s3,⟨⟩⟩:=r
      simp only at r1 r2 r3 r4
      obtain⟨k,rfl⟩:=Int.eq_ofNat_of_zero_le r1
      have hk:k<ms.length:=by omega
      have hc:(decide ((0:Int)≤(k:Int))&&decide ((k:Int)<(ms.length:Int)))=true:=by simp only[Bool.and_eq_true,decide_eq_true_eq];omega
      obtain⟨ra,rb,ha,hb,hv,_,ea,eb⟩:=vs.at hk
      rw[qad hk] at ea eb
      dsimp only
      rw[Int.toNat_natCast]
      refine qaR hc (qbV (List.getElem?_eq_getElem hk) (qaR hc (qbV (List.getElem?_eq_getElem hk) ?_)))
      rw[ea,eb]
      refine qa7 (qj9 (n+20004) s3 p ra rb (by omega) r4 ⟨hp.1,hp.2.1⟩ (by omega) (by omega)) fun r ⟨cells,s6,e,c1',c2,c3⟩=>?_
      subst e
      refine qaR hc (fin c p st _ s6 _ h48 smc (by omega) (by rw[List.length_set];omega) (fun m hm=>?_) (by omega) c3)
      rcases List.mem_or_eq_of_mem_set hm with hm | rfl
      · exact hce' m hm
      · show cells.length≤100
        have:=Nat.mul_le_mul ha hb
        omega
    · refine qdg (fun _=>?_) fun _=>fin c p st ms s2 (n+20002) h48 smc (by omega) h192 hce' (by omega) q4
      refine qa7 (fixed _ (by decide) (fun s hs=>?_) (by decide)) fun(r:List Sim×Unit) v1=>?_
      · simp at hs;rcases hs with rfl | rfl | rfl | rfl<;>exact vx3 _ _ _ (by decide) (by decide) (by decide) (by decide)
      obtain⟨c1,⟨⟩⟩:=r
      have v1:VC c1:=v1
      have konst:∀(c1:List Sim) (s3:Src),VC c1→SO (n+20004) s3→EvQ (fun φ=>Z140.j0 (mkR (run E (φ 0))) (φ 0) 0 c1 3 (List.replicate c1.length ((3:Nat):Int)) (List.replicate (qbQ c1 c1.length).length (qaW 3 3)) s3.1 s3.2.1 s3.2.2.1) o_Z140 fun(r:Drw)=>Bnt (n+30000) r:=fun c1 s3 v1 so=>by
        have a1:=v1.1
        have a2:=qdJ v1
        exact fin c1 3 _ _ s3 (n+20004) a1 v1.sm (by rw[List.length_replicate];omega) (by rw[List.length_replicate];omega) (fun m hm=>by rw[(List.mem_replicate.1 hm).2];show(qaq qbf 3 3).length≤100;rw[qas];omega) (by omega) so
      refine qaG (qb8 c1 3 3 (by omega) v1.sm v1) ?_
      refine qa7 (qjM (n+20002) s2 2 (by omega) q4) fun(r:Bool×Src×Unit) r4=>?_
      refine qdg (fun _=>?_) fun _=>konst c1 r.2.1 v1 r4
      refine qa7 (fixed _ (by decide) (fun s hs=>?_) (by decide)) fun(r2:List Sim×Unit) v2=>?_
      · simp at hs;rcases hs with rfl | rfl | rfl | rfl | rfl | rfl | rfl<;>first | exact vx3 _ _ _ (by decide) (by decide) (by decide) (by decide) | exact vx2 _ _ (by decide) (by decide) (by decide)
      obtain⟨c2,⟨⟩⟩:=r2
      have v2:VC c2:=v2
      exact qaG (qb8 c2 3 3 (by omega) v2.sm v2) (konst c2 r.2.1 v2 r4)
  simp only[Z140.j1_eq _ qaf]
  exact qdg (fun _=>j2 _) fun _=>j2 _
theorem qiC(n:Nat)(s:Src)(t:Shf)(hn:n≤10000000)(hs:SO n s)(ht:t.1.length≤48):qiM n_Z163 [dR s,dS t] o_Z163 fun(r:Sim×Src×Unit)=>r.1.length≤100∧SO (n+200) r.2.1:=by
 obtain⟨c0,a,g,⟨⟩⟩:=s
 refine qbW ?_
 simp only[run_Z163,Z163.ev]
 refine qa7 (qed n _ _ (by simp) (by omega) hs) fun(r:Int×Src×Unit) ⟨p1,p2⟩=>?_
 obtain⟨many,s1,⟨⟩⟩:=r
 simp only at p1 p2
 refine EvQ.start 1 (L:=fun φ N=>Z163.l0 (mkR (run E (φ 0))) (φ 0) N t many 0 [] s1.1 s1.2.1 s1.2.2.1) ?_ (fun _ _ _=>rfl)
 refine EvQ.loop 1 (σ:=Nat×Sim×Src) (L:=fun φ N st=>Z163.l0 (mkR (run E (φ 0))) (φ 0) N t many (st.1:Int) st.2.1 st.2.2.1 st.2.2.2.1 st.2.2.2.2.1) (fun _ _ _ _=>rfl)
  (fun st=>st.1≤t.1.length∧st.2.1.length≤st.1∧SO (n+2+2*st.1) st.2.2) (fun st=>t.1.length-st.1) (fun st hi ih=>?_) (0,[],s1) ⟨Nat.zero_le _,Nat.le_refl _,p2⟩
 obtain⟨k,o,s2⟩:=st
 obtain⟨i1,i2,i3⟩:=hi
 simp only at i1 i2 i3 ih ⊢
 simp only[Z163.l0_succ _ qaf]
 refine qcs (fun h=>?_) fun h=>?_
 ·refine qa7 (qjM _ s2 many (by omega) i3) fun(r:Bool×Src×Unit) r4=>?_
  obtain⟨b,s3,⟨⟩⟩:=r
  simp only at r4
  have go:∀ o':Sim,o'.length≤k+1→EvQ (fun φ=>Z163.l0 (mkR (run E (φ 0))) (φ 0) (φ 1) t many (w64 ((k:Int)+1)) o' s3.1 s3.2.1 s3.2.2.1) o_Z163 fun(r:Sim×Src×Unit)=>r.1.length≤100∧SO (n+200) r.2.1:=fun o' ho=>by
   rw[qae (by omega)]
   exact ih (k+1,o',s3) ⟨by show k+1≤t.1.length;omega,ho,r4.le (by show n+2+2*k+2≤n+2+2*(k+1);omega)⟩ (by show t.1.length-(k+1)<t.1.length-k;omega)
  refine qdg (fun _=>qaR (decide_eq_true (by simp;omega)) (go _ (by simp;omega))) fun _=>go _ (by omega)
 ·refine qa7 (qjM _ s2 14 (by omega) i3) fun(r:Bool×Src×Unit) r4=>?_
  refine qdg (fun _=>?_) fun _=>qaY ⟨by show o.length≤100;omega,r4.le (by omega)⟩
  refine qa7 (qed (n+2+2*k+2) r.2.1 _ (by simp) (by omega) r4) fun(q:Int×Src×Unit) ⟨q1,q2⟩=>qaR (decide_eq_true (by simp;omega)) (qaY ⟨?_,q2.le (by omega)⟩)
  show(o++[q.1]).length≤100
  simp;omega
theorem qjN(x:List Int)(h:Wf (.sl (.int .u8)) x):qiM n_Z95 [dB x] o_Z95 fun(r:List Sim×Int×Sim×List Mat×Sim×Unit)=>Sm (.st cS) (r.1,r.2.1,r.2.2.1,r.2.2.2.1,())∧r.1.length≤48∧r.2.2.2.2.1.length≤100:=by
 refine qbW ?_
 simp only[run_Z95,Z95.ev]
 refine qaG (qlX x) ?_
 refine qa7 (qpg 0 (x,0,0,()) (by omega) (qrL h)) fun(r:Drw) ⟨b1,b2,b3⟩=>?_
 refine qa7 (qiC _ r.2.2.2.2.1 (r.1,r.2.1,r.2.2.1,r.2.2.2.1,()) (by omega) b3 b2) fun(q:Sim×Src×Unit) ⟨q1,q2⟩=>qaY ⟨b1,b2,q1⟩
theorem ql8(x:List Int):Ret E n_Z68 [dB x] ⟨o_Z68,(decide ((x.length:Int)>1048576),())⟩:=by
 refine qak ?_
 simp only[run_Z68,Z68.ev]
 exact Ev.of fun _=>trivial
theorem qlt(v:Sim)(hv:v.length≤1048576):Ret E n_Z69 [dL v] ⟨o_Z69,(pb (Zs v),())⟩:=by
 refine qak ?_
 simp only[run_Z69,Z69.ev]
 refine Ev.start (p:=fun φ n=>Z69.l0 (mkR (run E (φ 0))) (φ 0) n v 0=_) 1 ?_ (fun _ _ _ h=>h)
 rw[← qrI]
 refine qcY 1 (L:=fun φ n k=>Z69.l0 (mkR (run E (φ 0))) (φ 0) n v k) (len:=v.length) 0 (by omega) (fun j=>v.getD j 0=0) (fun b=>some ⟨o_Z69,(b,())⟩) (fun _ _ _ _=>rfl) (fun k h1 h2 hP _=>?_) (fun k r h1 h2 hP _ ih=>?_) (fun _=>?_)
 ·simp only[Z69.l0_succ _ qaf]
  rw[qad h2] at hP
  exact qax (decide_eq_true (by omega)) (qab (qai h2) (qax (by simpa using hP) qam))
 ·simp only[Z69.l0_succ _ qaf]
  rw[qad h2] at hP
  refine qax (decide_eq_true (by omega)) (qab (qai h2) (qaB (by simpa using hP) ?_))
  rw[qae (by omega)];exact ih
 ·simp only[Z69.l0_succ _ qaf]
  exact qaB (decide_eq_false (by omega)) qam
end VeT
open Go Go.Proofs Ve
namespace VeT
def qq8(p:Int)(R W:Nat)(A:Ent)(x:Nat→Int):Prop:=∀ i,i<R→qaJ x (A i) W%p=0
theorem ql6{p:Int}{W:Nat}{pv:List Nat}{F:Ent}:∀ {n:Nat} {x:Sim},x∈qf0 p W pv F n→∃ c,c<n∧c∉pv∧x=qjD p W pv F c pv.length
 | 0,x,h=>by simp[qf0] at h
 | n+1,x,h=>by
  rw[qf0,List.mem_append] at h
  rcases h with h | h
  ·obtain⟨c,h1,h2⟩:=ql6 h;exact⟨c,by omega,h2⟩
  ·by_cases e:n∈pv
   ·rw[if_pos e] at h;simp at h
   ·rw[if_neg e,List.mem_singleton] at h;exact⟨n,by omega,e,h⟩
theorem qmm{p:Int}{R W c:Nat}{pv:List Nat}{F:Ent}(hrf:Rf R W F pv)(hc:c<W)(hcp:c∉pv):∀ n,n≤pv.length→∀ m,n≤m→m<pv.length→(qjD p W pv F c n).getD (pv.getD m 0) 0=0
 | 0,_,m,_,hm=>by
  show((List.replicate W (0:Int)).set c 1).getD (pv.getD m 0) 0=_
  rw[qcR (by simpa using hc),if_neg fun e=>hcp (by rw[← e];exact qfW hm),List.getD_eq_getElem?_getD,List.getElem?_replicate]
  split<;>rfl
 | n+1,hn,m,h1,hm=>by
  have hq:=hrf.lt n (by omega)
  have:=hrf.mono n m (by omega) hm
  rw[qdC,qcR (by rw[qbG];exact hq),if_neg (by omega)]
  exact qmm hrf hc hcp n (by omega) m (by omega) hm
theorem qmp{p:Int}{R W c i:Nat}{pv:List Nat}{F:Ent}(hrf:Rf R W F pv)(hc:c<W)(hcp:c∉pv)(hi:i<R):∀ n,n≤pv.length →
  qaJ (fun j=>(qjD p W pv F c n).getD j 0) (F i) W%p=(F i c+if i<n then 0-F i c else 0)%p
 | 0,_=>by
  rw[if_neg (by omega),Int.add_zero]
  congr 1
  rw[qaA (d:=fun j=>if j=c then 1 else 0) (h:=F i) fun j hj=>⟨by
   show((List.replicate W (0:Int)).set c 1).getD j 0=_
   rw[qcR (by simpa using hc),List.getD_eq_getElem?_getD,List.getElem?_replicate,if_pos hj];rfl,rfl⟩,qbU hc]
 | n+1,hn=>by
  have hq:=hrf.lt n (by omega)
  have hn':n<pv.length:=by omega
  rw[qaA (d:=fun j=>if j=pv.getD n 0 then(0-F n c)%p else(qjD p W pv F c n).getD j 0) (h:=F i) fun j hj=>⟨by
   rw[qdC,qcR (by rw[qbG];exact hq)],rfl⟩,qmL hq,qmm hrf hc hcp n (by omega) n (Nat.le_refl _) hn',hrf.one i n hi hn',Int.add_emod,qmp hrf hc hcp hi n (by omega),← Int.add_emod,Int.sub_zero]
  by_cases e:i=n
  ·subst e
   rw[if_neg (by omega),if_pos (by omega),if_pos (show i<i+1 by omega),Int.mul_one,Int.add_zero,Int.add_emod_emod]
  ·rw[if_neg e,Int.mul_zero,Int.add_zero]
   by_cases h:i<n
   ·rw[if_pos h,if_pos (by omega)]
   ·rw[if_neg h,if_neg (by omega)]
theorem qpl{p:Int}{R W c:Nat}{pv:List Nat}{F:Ent}(hrf:Rf R W F pv)(hc:c<W)(hcp:c∉pv):qq8 p R W F fun j=>(qjD p W pv F c pv.length).getD j 0:=fun i hi=>by
 rw[qmp hrf hc hcp hi pv.length (Nat.le_refl _)]
 by_cases h:i<pv.length
 ·rw[if_pos h,show F i c+(0-F i c)=0 by omega,Int.zero_emod]
 ·rw[if_neg h,hrf.bot i c (by omega) hi hc];simp
theorem qmW{p:Int}{R W:Nat}{cells:Sim}(hp:Pr p)(hl:cells.length=R*W)(he:qaI cells p){x:Sim}(hx:x∈qiF p R W cells):qq8 p R W (qbL cells W) fun j=>x.getD j 0:=fun i hi=>by
 obtain⟨hrf,heq⟩:=qgu hp (qcA he hl) W (Nat.le_refl _)
 obtain⟨c,h1,h2,rfl⟩:=ql6 hx
 exact Spn.orth (qpl hrf h1 h2) (heq.2 i hi)
theorem qqI{p:Int}{R W:Nat}{cells:Sim}(hp:Pr p)(hl:cells.length=R*W)(he:qaI cells p){x:Sim}(hx:x∈qiF p R W cells):∃ j,j<x.length∧x.getD j 0=1:=by
 obtain⟨hrf,heq⟩:=qgu hp (qcA he hl) W (Nat.le_refl _)
 obtain⟨c,h1,h2,rfl⟩:=ql6 hx
 refine⟨c,by rw[qbG];exact h1,?_⟩
 rw[qev hrf h1 h2 h1 _ (Nat.le_refl _),if_pos rfl]
theorem qoR{p:Int}{R W:Nat}{cells:Sim}(hp:Pr p)(hl:cells.length=R*W)(he:qaI cells p):(qiF p R W cells).length=rkV p W (qq8 p R W (qbL cells W)):=by
 rw[← (qqk hp hl he).1]
 refine qcQ fun c hc=>⟨Ld.mono fun x hx=>?_,?_⟩
 ·intro i hi
  rw[qaU]
  refine Spn.orth (fun k hk=>?_) hx
  rw[qaU]
  have:=qmW hp hl he (List.getElem_mem hk) i hi
  have e:qd3 (qiF p R W cells) k=fun j=>((qiF p R W cells)[k]).getD j 0:=by
   funext j;unfold qd3;rw[List.getD_eq_getElem?_getD (l:=qiF p R W cells),List.getElem?_eq_getElem hk];rfl
  rw[e];exact this
 ·rintro⟨_,x,hx,h1,h2⟩
  have hg:∀ j,j<W→((List.range W).map fun j=>x j%p).getD j 0=x j%p:=fun j hj=>by
   rw[List.getD_eq_getElem?_getD,List.getElem?_map,List.getElem?_range hj];rfl
  have hs:=qn6 (x:=(List.range W).map fun j=>x j%p) hp hl he fun i hi=>by
   refine Eq.trans ?_ (hx i hi)
   rw[qaU,qaU (c:=x)]
   exact qce fun j hj=>by rw[hg j hj,Int.emod_emod_of_dvd _ (Int.dvd_refl _)]
  refine⟨hc,_,hs,fun j hj=>?_,?_⟩
  ·show((List.range W).map fun j=>x j%p).getD j 0%p=0
   rw[hg j (by omega),Int.emod_emod_of_dvd _ (Int.dvd_refl _)];exact h1 j hj
  ·show((List.range W).map fun j=>x j%p).getD c 0%p≠0
   rw[hg c hc,Int.emod_emod_of_dvd _ (Int.dvd_refl _)];exact h2
theorem qoD{f:Nat→Prop}{m:Nat}:∀ {n:Nat},m≤n→(∀ c,m≤c→c<n→¬ f c)→cnt f n=cnt f m
  | 0, h, _ => by obtain rfl : m = 0 := by omega
                  rfl
  | n+1,h,hf=>by
    by_cases e:m=n+1
    · subst e;rfl
    · rw[cnt,if_neg (hf n (by omega) (by omega)),Nat.add_zero]
      exact qoD (by omega) fun c h1 h2=>hf c h1 (by omega)
def Sol(p:Int)(W:Nat)(rows:List Sim)(x:Nat→Int):Prop:=∀ r∈rows,qaJ x (fun j=>r.getD j 0) W%p=0
theorem qmh{p:Int}{W:Nat}{rows:List Sim}(hr:∀ r∈rows,r.length=W){x:Nat→Int}:qq8 p rows.length W (qbL rows.flatten W) x↔Sol p W rows x:=by
 have key:∀ i (hi:i<rows.length) j,j<W→qbL rows.flatten W i j=(rows[i]).getD j 0:=fun i hi j hj=>by
  have e1:=qm8 hr
  have e2:rows.flatten=qaq (qd3 rows) W rows.length:=by rw[← qbM,e1]
  rw[e2,qbv hi hj];unfold qd3
  rw[List.getD_eq_getElem?_getD (l:=rows),List.getElem?_eq_getElem hi];rfl
 constructor
 ·intro h r hr
  obtain⟨i,hi,rfl⟩:=List.getElem_of_mem hr
  refine Eq.trans ?_ (h i hi)
  congr 1
  exact qaA fun j hj=>⟨rfl,(key i hi j hj).symm⟩
 ·intro h i hi
  refine Eq.trans ?_ (h _ (List.getElem_mem hi))
  congr 1
  exact qaA fun j hj=>⟨rfl,key i hi j hj⟩
end VeT
open Go Go.Proofs Ve
namespace VeT
theorem qpJ{m:Mat}{a n i R C:Nat}(hm:VM m)(eR:m.2.1=(R:Int))(eC:m.2.2.1=(C:Int))(hi:i<R)(ha:a+C≤n) :
  List.take a (List.replicate n (0:Int))++List.take (n-a) ((List.range C).map (qbL m.2.2.2.1 C i))++List.drop (a+(List.take (n-a) ((List.range C).map (qbL m.2.2.2.1 C i))).length) (List.replicate n (0:Int))=qfF m a n 1 i:=by
 have hp:=hm.1.1
 have el:=hm.2.2.2.2
 have hlc:m.2.2.2.1.length=R*C:=by
  have:=hm.2.2.2.1
  rw[eR,eC,qa2] at this;omega
 have htk:List.take (n-a) ((List.range C).map (qbL m.2.2.2.1 C i))=(List.range C).map (qbL m.2.2.2.1 C i):=List.take_of_length_le (by rw[List.length_map,List.length_range];omega)
 have hC:m.2.2.1.toNat=C:=by rw[eC];rfl
 rw[htk,List.length_map,List.length_range]
 have hl1:(List.take a (List.replicate n (0:Int))).length=a:=by rw[List.length_take,List.length_replicate];omega
 refine qhb (by rw[qa0];simp;omega) fun g hg=>?_
 have hgn:g<n:=by
  have:g<(List.take a (List.replicate n (0:Int))++(List.range C).map (qbL m.2.2.2.1 C i)++List.drop (a+C) (List.replicate n (0:Int))).length:=hg
  simp at this;omega
 have hz:∀ k q:Nat,(List.replicate k (0:Int))[q]?.getD 0=0:=fun k q=>by rw[List.getElem?_replicate];split<;>rfl
 rw[List.getD_eq_getElem?_getD]
 by_cases h1:g<a
 ·rw[qbT (by omega),List.getElem?_append_left (by rw[List.length_append,hl1];omega),List.getElem?_append_left (by rw[hl1];exact h1),List.getElem?_take,if_pos h1]
  exact hz _ _
 ·by_cases h2:g<a+C
  ·obtain⟨j,rfl⟩:∃ j,g=a+j:=⟨g-a,by omega⟩
   have hj:j<C:=by omega
   rw[qdO (by rw[hC];exact hj) hgn,List.getElem?_append_left (by rw[List.length_append,hl1,List.length_map,List.length_range];omega),List.getElem?_append_right (by rw[hl1];omega),hl1,Nat.add_sub_cancel_left,qgo hj,hC]
   have hlt:=qeO hi hj
   have he:0≤qbL m.2.2.2.1 C i j∧qbL m.2.2.2.1 C i j≤m.1-1:=by unfold qbL;rw[qad (by omega)];exact el _ (List.getElem_mem _)
   show qbL m.2.2.2.1 C i j=qbL m.2.2.2.1 C i j*1%m.1
   rw[Int.mul_one,Int.emod_eq_of_lt he.1 (by omega)]
  ·rw[qbT (by omega),List.getElem?_append_right (by rw[List.length_append,hl1,List.length_map,List.length_range];omega),List.getElem?_drop]
   exact hz _ _
theorem qqs{c:List Sim}{p:Int}{st:Sim}{ms:List Mat}{f:Nat}(h:VS c p st ms)(hf:f<c.length):∀ {d k:Nat},k<c.length→(c.getD k []).length≤d→qdx (c.getD f []) (c.getD k [])→(qd0 c p st ms f d k).1=p
 | 0,k,_,_,_=>rfl
 | d+1,k,hk,hd,hpt=>by
  rw[qd0]
  by_cases hfk:f=k
  ·rw[if_pos hfk];rfl
  ·rw[if_neg hfk]
   have D:Down c p st ms f k:=⟨h,hf,hk,hfk,hpt⟩
   obtain⟨_,f2,_⟩:=D.facts
   exact(h.map hk f2).2.2.1
end VeT
open Go Go.Proofs Ve
namespace VeT
def wN(w:Sim)(i:Nat):Nat:=(w.getD i 0).toNat
theorem qeL.wN{c:List Sim}{w:Sim}(h:qeL c w){i:Nat}(hi:i<w.length):w[i]? = some ((wN w i:Nat):Int)∧wN w i<c.length:=by
 obtain⟨n,hn,hl⟩:=h.get hi
 have e:VeT.wN w i=n:=by unfold VeT.wN;rw[qad hi,hn,Int.toNat_natCast]
 rw[e,List.getElem?_eq_getElem hi,hn]
 exact⟨rfl,hl⟩
theorem qeL.wN_lt{c:List Sim}{w:Sim}(h:qeL c w){i j:Nat}(hj:j<w.length)(hij:i<j):VeT.wN w i<VeT.wN w j:=by
 have hi:i<w.length:=by omega
 have:=h.1.lt hj hij
 have h0:=(h.2 _ (List.getElem_mem hi)).1
 unfold VeT.wN
 rw[qad hi,qad hj]
 omega
def qkw(st w v:Sim)(i:Nat):Sim:=(v.take (off st w i+st.getD (wN w i) 0).toNat).drop (off st w i).toNat
noncomputable def qpS(x:Shf)(w v:Sim)(b a:Nat):Sim:=qmH (qaV x (wN w a) (wN w b)) (qkw x.2.2.1 w v a) (x.2.2.1.getD (wN w b) 0).toNat
def Cf(x:Shf)(w v:Sim)(b a:Nat):Prop:=qdx (x.1.getD (wN w a) []) (x.1.getD (wN w b) [])∧qpS x w v b a≠qkw x.2.2.1 w v b
def CfB(x:Shf)(w v:Sim)(b:Nat):Prop:=∃ a,0≤a∧a<0+b∧Cf x w v b a
noncomputable def qmb(x:Shf)(w v:Sim)(out:Nat→Nat→Option Dv)(b:Nat)(rn:Option Dv):Option Dv:=orN (fun a=>out a b) rn (qaP (Cf x w v b) 0 b)
noncomputable def qor(x:Shf)(w v:Sim)(out:Nat→Nat→Option Dv)(rn:Option Dv):Option Dv:=orN (fun b=>qmb x w v out b none) rn (qaP (CfB x w v) 0 w.length)
theorem qpC{x w v b}{out:Nat→Nat→Option Dv}{rn:Option Dv}(h:¬ CfB x w v b):qmb x w v out b rn=rn:=by
 unfold qmb
 cases hf:qaP (Cf x w v b) 0 b with
 | none=>rfl
 | some a =>
  have:=qay hf
  exact absurd ⟨a,this⟩ h
noncomputable def qfH(x:Shf)(w v:Sim):Option (Nat×Nat) :=
 match qaP (CfB x w v) 0 w.length with
 | some b=>(qaP (Cf x w v b) 0 b).map fun a=>(a,b)
 | none=>none
theorem qjm{x w v a b}(h:qfH x w v=some (a,b)):a<b∧b<w.length∧∀ out rn,qor x w v out rn=out a b:=by
 unfold qfH at h
 cases hb:qaP (CfB x w v) 0 w.length with
 | none=>rw[hb] at h;cases h
 | some b' =>
  rw[hb] at h
  simp only at h
  cases ha:qaP (Cf x w v b') 0 b' with
  | none=>rw[ha] at h;cases h
  | some a' =>
   rw[ha] at h
   have e:=Option.some.inj h
   obtain⟨rfl,rfl⟩:=Prod.mk.inj e
   have h1:=qay hb
   have h2:=qay ha
   refine⟨by omega,by omega,fun out rn=>?_⟩
   unfold qor
   rw[hb]
   show qmb x w v out b' none=_
   unfold qmb
   rw[ha];rfl
theorem qm4{x w v}(h:qfH x w v=none):∀ out rn,qor x w v out rn=rn:=by
 intro out rn
 unfold qfH at h
 cases hb:qaP (CfB x w v) 0 w.length with
 | none=>unfold qor;rw[hb];rfl
 | some b' =>
  rw[hb] at h
  simp only at h
  have h1:=qay hb
  obtain⟨a,ha⟩:=qca h1.2.2
  rw[ha] at h;cases h
structure CfS (x:Shf) (w v:Sim) (b a:Nat):Prop where
 hs:ISh x
 hp:qeL x.1 w
 hd:Dat x w v
 hb:b<w.length
 ha:a<b
 pt:qdx (x.1.getD (wN w a) []) (x.1.getD (wN w b) [])
theorem qhW{x:Shf}{w v:Sim}(hs:ISh x)(hp:qeL x.1 w)(hd:Dat x w v){i:Nat}(hi:i<w.length):0≤off x.2.2.1 w i∧off x.2.2.1 w i≤off x.2.2.1 w i+x.2.2.1.getD (wN w i) 0∧off x.2.2.1 w i+x.2.2.1.getD (wN w i) 0≤v.length∧wN w i<x.2.2.1.length∧x.2.2.1.getD (wN w i) 0≤3:=by
 have hst:=hs.1.2.2.1.2.1
 have h1:=hp.wN hi
 have h2:=qcx hst (wN w i)
 have h3:=qfT (w:=w) hst (n:=i)
 have hw:w[i]=((wN w i:Nat):Int):=by have:=h1.1;rw[List.getElem?_eq_getElem hi] at this;exact Option.some.inj this
 have h4:=qfI (w:=w) hst (show i+1≤w.length by omega)
 rw[qeF hi hw,← hd.2] at h4
 exact⟨h3.1,by omega,h4,by rw[hs.1.2.2.1.1];exact h1.2,by omega⟩
theorem qfc{x:Shf}{w v:Sim}(hs:ISh x)(hp:qeL x.1 w)(hd:Dat x w v){i:Nat}(hi:i<w.length):((qkw x.2.2.1 w v i).length:Int)=x.2.2.1.getD (wN w i) 0:=by
 obtain⟨h1,h2,h3,_⟩:=qhW hs hp hd hi
 unfold qkw
 rw[List.length_drop,List.length_take];omega
theorem CfS.imgS{x:Shf}{w v:Sim}{b a:Nat}(h:CfS x w v b a)(hx:Sm (.st cS) x) :
  Ret E n_Z153 [dS x,dI ((wN w a:Nat):Int),dI ((wN w b:Nat):Int)] ⟨o_Z153,qaV x (wN w a) (wN w b)⟩ ∧
  Ret E n_Z113 [dM (qaV x (wN w a) (wN w b)),dL (qkw x.2.2.1 w v a)] ⟨o_Z113,(qpS x w v b a,())⟩:=by
 have ha:a<w.length:=by have:=h.ha;have:=h.hb;omega
 have hst:=h.hs.1.2.2.1.2.1
 have hp2:2≤x.2.1∧x.2.1≤251:=⟨h.hs.1.2.1.1,h.hs.1.2.1.2.1⟩
 obtain⟨⟨hVM,hR⟩,r1,r2⟩:=qmU x.1 x.2.1 x.2.2.1 x.2.2.2.1 hx.1 h.hs.1 (wN w a) (h.hp.wN ha).2 _ (wN w b) (h.hp.wN h.hb).2 (Nat.le_refl _) h.pt
 have hc:(qaV x (wN w a) (wN w b)).2.2.1≤(qkw x.2.2.1 w v a).length:=by
  unfold qaV;rw[qf9 hst,qfc h.hs h.hp h.hd ha];exact Int.le_refl _
 have he:∀ y∈qkw x.2.2.1 w v a,0≤y∧y≤250:=fun y hy=>h.hd.1.mem hp2 y (List.mem_of_mem_take (List.mem_of_mem_drop hy))
 have a2:=qld (qaV x (wN w a) (wN w b)) (qkw x.2.2.1 w v a) hVM hc he
 rw[show(qaV x (wN w a) (wN w b)).2.1=x.2.2.1.getD (wN w b) 0 from hR] at a2
 exact⟨r2,a2⟩
theorem ql1{x:Shf}{w v:Sim}{b a:Nat}(hs:ISh x):(qpS x w v b a).length≤3:=by
 have:=qcx hs.1.2.2.1.2.1 (wN w b)
 unfold qpS;rw[qcM];omega
noncomputable def qrp(a b:Nat):Option Dv:=some ⟨o_Z161,((a:Int),(b:Int),())⟩
theorem qgT(x:Shf)(w v:Sim)(hx:Sm (.st cS) x)(hw:Sm (.sl (.int .i64)) w)(hv:Sm (.sl (.int .i64)) v)(hs:ISh x)(hp:qeL x.1 w)(hd:Dat x w v) :
    Ev fun φ=>run E (φ 0+1) n_Z161 [dS x,dL w,dL v]=qor x w v qrp (some ⟨o_Z161,(-1,-1,())⟩):=by
  have hw1:w.length≤1048576:=hw.1
  have hc:Sm (.sl (.sl (.int .i64))) x.1:=hx.1
  have hst:=hs.1.2.2.1.2.1
  have many:∀ i,i≤w.length→Ret E n_Z165 [dS x,dL (w.take i)] ⟨o_Z165,(off x.2.2.1 w i,())⟩:=fun i hi=>by
    have:=qhg x (w.take i) hs.1.2.2.1.1 hst (by rw[List.length_take];omega) fun j hj=>by
      have hj':j<w.length:=by rw[List.length_take] at hj;omega
      obtain⟨n,hn,hl⟩:=hp.get hj'
      exact⟨n,by rw[List.getElem_take];exact hn,hl⟩
    rw[qpk] at this
    exact this
  simp only[run_Z161,Z161.ev]
  refine Ev.start (p:=fun φ n=>Z161.l0 (mkR (run E (φ 0))) (φ 0) n x w v 0=_) 1 ?_ (fun _ _ _ h=>h)
  have step:∀(b a:Nat) (C:CfS x w v b a) (q:Option Dv),(Ev fun φ=>(bif (!pb (qpS x w v b a=qkw x.2.2.1 w v b)) then some ⟨o_Z161,((a:Int),(b:Int),())⟩ else Z161.l1 (mkR (run E (φ 0))) (φ 0) (φ 1) (φ 2) x w v (b:Int) (w64 ((a:Int)+1)))=q)→Ev fun φ=>Z161.l1 (mkR (run E (φ 0))) (φ 0) (φ 1) (φ 2+1) x w v (b:Int) (a:Int)=q:=fun b a C q hq=>by
    have hb:=C.hb
    have hab:=C.ha
    have ha:a<w.length:=by omega
    obtain⟨i2,i4⟩:=C.imgS hx
    have hwa:=hp.wN ha
    have hwb:=hp.wN hb
    have hal:wN w a<x.1.length:=hwa.2
    have hbl:wN w b<x.1.length:=hwb.2
    have hpt:=C.pt
    rw[qad hal,qad hbl] at hpt
    obtain⟨a1,a2,a3,a4,a5⟩:=qhW hs hp hd ha
    obtain⟨b1,b2,b3,b4,b5⟩:=qhW hs hp hd hb
    have hvl:v.length≤1048576:=hv.1
    have ea:w64 (off x.2.2.1 w a+x.2.2.1.getD (wN w a) 0)=off x.2.2.1 w a+x.2.2.1.getD (wN w a) 0:=qag (by omega) (by omega)
    have eb:w64 (off x.2.2.1 w b+x.2.2.1.getD (wN w b) 0)=off x.2.2.1 w b+x.2.2.1.getD (wN w b) 0:=qag (by omega) (by omega)
    have hsame:=qee (qpS x w v b a) (qkw x.2.2.1 w v b) (by have:=ql1 (w:=w) (v:=v) (b:=b) (a:=a) hs;omega)
    have hcb:qkw x.2.2.1 w v b=(v.take (off x.2.2.1 w b+x.2.2.1[wN w b]).toNat).drop (off x.2.2.1 w b).toNat:=by rw[qkw,qad b4]
    have hca:qkw x.2.2.1 w v a=(v.take (off x.2.2.1 w a+x.2.2.1[wN w a]).toNat).drop (off x.2.2.1 w a).toNat:=by rw[qkw,qad a4]
    rw[qad a4] at ea a2 a3
    rw[qad b4] at eb b2 b3
    rw[hca] at i4
    rw[hcb] at hsame hq
    simp only[Z161.l1_succ _ qaf]
    refine qax (decide_eq_true (by omega)) (qab (qaZ.trans hwa.1) (qab (qai hal) (qab (qaZ.trans hwb.1) (qab (qai hbl) (qaa (qij _ _ (qbl hc hal).1 (qbl hc hbl).1) (qaB (by rw[qaL hpt];rfl) ?_))))))
    simp only[Int.toNat_natCast]
    refine qan (by simp only[Bool.and_eq_true,decide_eq_true_eq];omega) (qaa (many a (by omega)) (qan (by simp only[Bool.and_eq_true,decide_eq_true_eq];omega) (qaa (many b (by omega)) (qab (qaZ.trans hwa.1) (qab (qaZ.trans hwb.1) ?_)))))
    have fin:Ev fun φ=>Z161.j2 (mkR (run E (φ 0))) (φ 0) (φ 1) (φ 2) x w v (b:Int) (a:Int) (off x.2.2.1 w a) (off x.2.2.1 w b) (qaV x (wN w a) (wN w b)).1 (qaV x (wN w a) (wN w b)).2.1 (qaV x (wN w a) (wN w b)).2.2.1 (qaV x (wN w a) (wN w b)).2.2.2.1=q:=by
      simp only[Z161.j2_eq _ qaf]
      refine qab (qaZ.trans hwa.1) (qab (qai a4) ?_)
      simp only[ea]
      refine qan (by simp only[Bool.and_eq_true,decide_eq_true_eq];exact⟨⟨a1,a2⟩,a3⟩) (qaa i4 (qab (qaZ.trans hwb.1) (qab (qai b4) ?_)))
      simp only[eb]
      exact qan (by simp only[Bool.and_eq_true,decide_eq_true_eq];exact⟨⟨b1,b2⟩,b3⟩) (qaa hsame hq)
    exact qcB (qaa i2 fin) (qaa i2 fin)
  have inner:∀(b:Nat) (hb:b<w.length) (rn:Option Dv),(¬ CfB x w v b→Ev fun φ=>Z161.l0 (mkR (run E (φ 0))) (φ 0) (φ 1) x w v ((b+1:Nat):Int)=rn) →
      Ev fun φ=>Z161.l1 (mkR (run E (φ 0))) (φ 0) (φ 1) (φ 0) x w v (b:Int) 0=qmb x w v qrp b rn:=fun b hb rn hrn=>by
    refine Ev.start (p:=fun φ n=>Z161.l1 (mkR (run E (φ 0))) (φ 0) (φ 1) n x w v (b:Int) 0=_) 2 ?_ (fun _ _ _ h=>h)
    refine qb0 2 (L:=fun φ n i=>Z161.l1 (mkR (run E (φ 0))) (φ 0) (φ 1) n x w v (b:Int) i) (len:=b) (Cf x w v b) (fun a=>qrp a b) rn (fun _ _ _ _=>rfl) 0 (fun i h1 h2 hP=>?_) (fun i q h1 h2 hP ih=>?_) (fun hno=>?_) b (by omega)
    · refine step b i ⟨hs,hp,hd,hb,h2,hP.1⟩ _ ?_
      rw[qar hP.2];exact qam
    · by_cases hpt:qdx (x.1.getD (wN w i) []) (x.1.getD (wN w b) [])
      · refine step b i ⟨hs,hp,hd,hb,h2,hpt⟩ _ ?_
        have heq:qpS x w v b i=qkw x.2.2.1 w v b:=Classical.byContradiction fun hne=>hP ⟨hpt,hne⟩
        rw[qaL heq,qae (by omega)];exact ih
      · have hi:i<w.length:=by omega
        have hwa:=hp.wN hi
        have hwb:=hp.wN hb
        have hal:wN w i<x.1.length:=hwa.2
        have hbl:wN w b<x.1.length:=hwb.2
        rw[qad hal,qad hbl] at hpt
        simp only[Z161.l1_succ _ qaf]
        refine qax (decide_eq_true (by omega)) (qab (qaZ.trans hwa.1) (qab (qai hal) (qab (qaZ.trans hwb.1) (qab (qai hbl) (qaa (qij _ _ (qbl hc hal).1 (qbl hc hbl).1) (qax (by rw[qar hpt];rfl) ?_))))))
        rw[qae (by omega)];exact ih
    · simp only[Z161.l1_succ _ qaf]
      refine qaB (decide_eq_false (by omega)) ?_
      rw[qae (by omega)]
      exact hrn fun⟨a,_,h2,h3⟩=>hno a (by omega) (by omega) h3
  refine qb0 1 (L:=fun φ n k=>Z161.l0 (mkR (run E (φ 0))) (φ 0) n x w v k) (len:=w.length) (CfB x w v) (fun b=>qmb x w v qrp b none) _ (fun _ _ _ _=>rfl) 0 (fun b h1 h2 hP=>?_) (fun b q h1 h2 hP ih=>?_) (fun hno=>?_) w.length (by omega)
  · simp only[Z161.l0_succ _ qaf]
    exact qax (decide_eq_true (by omega)) (inner b h2 none fun hn=>absurd hP hn)
  · simp only[Z161.l0_succ _ qaf]
    exact qax (decide_eq_true (by omega)) ((inner b h2 q fun _=>ih).to (qpC hP))
  · simp only[Z161.l0_succ _ qaf]
    exact qaB (decide_eq_false (by omega)) qam
noncomputable def cfI(x:Shf)(w v:Sim):Int×Int×Bool×Unit:=match qfH x w v with
 | some (a,b)=>(((wN w a:Nat):Int),((wN w b:Nat):Int),true,())
 | none=>(0,0,false,())
noncomputable def cfS(x:Shf)(w v:Sim):Int×Int×Unit:=match qfH x w v with
 | some (a,b)=>((a:Int),(b:Int),())
 | none=>(-1,-1,())
theorem qhE(x:Shf)(w v:Sim)(hx:Sm (.st cS) x)(hw:Sm (.sl (.int .i64)) w)(hv:Sm (.sl (.int .i64)) v)(hs:ISh x)(hp:qeL x.1 w)(hd:Dat x w v) :
  Ret E n_Z161 [dS x,dL w,dL v] ⟨o_Z161,cfS x w v⟩:=by
 refine qak ((qgT x w v hx hw hv hs hp hd).to ?_)
 cases hc:qfH x w v with
 | none=>rw[qm4 hc,cfS,hc]
 | some t =>
  obtain⟨a,b⟩:=t
  rw[(qjm hc).2.2,cfS,hc];rfl
noncomputable def qcb(x:Shf)(w v:Sim):Bool×Unit:=(pb (LC x w v=0∧qfH x w v=none),())
theorem qd9(x:Shf)(w v:Sim)(hx:Sm (.st cS) x)(hw:Sm (.sl (.int .i64)) w)(hv:Sm (.sl (.int .i64)) v):Ret E n_Z98 [dLL x.1,dI x.2.1,dL x.2.2.1,dMs x.2.2.2.1,dL w,dL v] ⟨o_Z98,qcb x w v⟩:=by
 refine qak ?_
 simp only[run_Z98,Z98.ev]
 refine qaa (qnm x w v hx hw hv) (qb7 (fun h=>qaj ?_) fun h=>?_)
 ·have h:¬ LC x w v=0:=by simpa using h
  rw[qcb,qar fun e=>h e.1]
 ·have h:LC x w v=0:=by simpa using h
  obtain⟨⟨hs,hp⟩,hd⟩:=qnR.1 h
  refine qaa (qhE x w v hx hw hv hs hp hd) (qaj ?_)
  have:decide ((cfS x w v).1<0)=pb (LC x w v=0∧qfH x w v=none):=qfs (by
   rw[decide_eq_true_iff]
   unfold cfS
   cases hc:qfH x w v with
   | none=>simp[h]
   | some t=>simp only[reduceCtorEq,and_false,iff_false];omega)
  rw[this];rfl
end VeT
open Go Go.Proofs Ve
namespace VeT
noncomputable def qnK(x:Shf)(w:Sim)(N b a i:Nat):Sim:=qls (qfF (qaV x (wN w a) (wN w b)) (off x.2.2.1 w a).toNat N 1 i) (qfF (qaW x.2.1 (x.2.2.1.getD (wN w b) 0).toNat) (off x.2.2.1 w b).toNat N (x.2.1-1) i) 1 x.2.1
open Classical in
noncomputable def lsI(x:Shf)(w:Sim)(N b:Nat):Nat→List Sim
 | 0=>[]
 | a+1=>lsI x w N b a++if qdx (x.1.getD (wN w a) []) (x.1.getD (wN w b) []) then(List.range (x.2.2.1.getD (wN w b) 0).toNat).map (qnK x w N b a) else []
noncomputable def lsT(x:Shf)(w:Sim)(N:Nat):Nat→List Sim
 | 0=>[]
 | b+1=>lsT x w N b++lsI x w N b b
structure LsP (x:Shf) (w:Sim) (N b a:Nat):Prop where
 hs:ISh x
 hp:qeL x.1 w
 hb:b<w.length
 ha:a<b
 pt:qdx (x.1.getD (wN w a) []) (x.1.getD (wN w b) [])
 eN:off x.2.2.1 w w.length=(N:Int)
theorem qel{x:Shf}{w:Sim}(hs:ISh x)(hp:qeL x.1 w){i:Nat}(hi:i<w.length):0≤off x.2.2.1 w i∧off x.2.2.1 w (i+1)=off x.2.2.1 w i+x.2.2.1.getD (wN w i) 0∧off x.2.2.1 w (i+1)≤off x.2.2.1 w w.length∧0≤x.2.2.1.getD (wN w i) 0∧x.2.2.1.getD (wN w i) 0≤3:=by
 have hst:=hs.1.2.2.1.2.1
 have h1:=hp.wN hi
 have h2:=qcx hst (wN w i)
 have hw:w[i]=((wN w i:Nat):Int):=by have:=h1.1;rw[List.getElem?_eq_getElem hi] at this;exact Option.some.inj this
 exact⟨(qfT hst).1,qeF hi hw,qfI hst (by omega),h2.1,h2.2⟩
theorem LsP.facts{x:Shf}{w:Sim}{N b a:Nat}(h:LsP x w N b a)(hx:Sm (.st cS) x) :
  ∃ Ta Tb Ra Rb:Nat,off x.2.2.1 w a=(Ta:Int)∧off x.2.2.1 w b=(Tb:Int)∧x.2.2.1.getD (wN w b) 0=(Rb:Int)∧Rb≤3∧Ra≤3∧Ta+Ra≤Tb∧Tb+Rb≤N ∧
   VM (qaV x (wN w a) (wN w b))∧(qaV x (wN w a) (wN w b)).2.1=(Rb:Int)∧(qaV x (wN w a) (wN w b)).2.2.1=(Ra:Int)∧(qaV x (wN w a) (wN w b)).1=x.2.1 ∧
   Ret E n_Z54 [dLL x.1,dI x.2.1,dL x.2.2.1,dMs x.2.2.2.1,dI ((wN w a:Nat):Int),dI ((wN w b:Nat):Int)] ⟨o_Z54,qaV x (wN w a) (wN w b)⟩ ∧
   Ret E n_Z153 [dS x,dI ((wN w a:Nat):Int),dI ((wN w b:Nat):Int)] ⟨o_Z153,qaV x (wN w a) (wN w b)⟩:=by
 have ha:a<w.length:=by have:=h.ha;have:=h.hb;omega
 have hst:=h.hs.1.2.2.1.2.1
 obtain⟨a1,a2,a3,a4,a5⟩:=qel h.hs h.hp ha
 obtain⟨b1,b2,b3,b4,b5⟩:=qel h.hs h.hp h.hb
 have hm:=qfI (w:=w) hst (show a+1≤b from h.ha)
 have hal:=(h.hp.wN ha).2
 have hbl:=(h.hp.wN h.hb).2
 obtain⟨⟨hVM,hR⟩,r1,r2⟩:=qmU x.1 x.2.1 x.2.2.1 x.2.2.2.1 hx.1 h.hs.1 (wN w a) hal _ (wN w b) hbl (Nat.le_refl _) h.pt
 have eN:=h.eN
 have hC:(qaV x (wN w a) (wN w b)).2.2.1=x.2.2.1.getD (wN w a) 0:=qf9 hst
 have hR':(qaV x (wN w a) (wN w b)).2.1=x.2.2.1.getD (wN w b) 0:=hR
 exact⟨(off x.2.2.1 w a).toNat,(off x.2.2.1 w b).toNat,(x.2.2.1.getD (wN w a) 0).toNat,(x.2.2.1.getD (wN w b) 0).toNat,by omega,by omega,by omega,by omega,by omega,by omega,by omega,hVM,by rw[hR'];omega,by rw[hC];omega,qqs h.hs.1 hal hbl (Nat.le_refl _) h.pt,r1,r2⟩
theorem qqm{x:Shf}{w:Sim}{N b a i:Nat}(h:LsP x w N b a)(hx:Sm (.st cS) x){Ta Tb Ra Rb:Nat}(eA:off x.2.2.1 w a=(Ta:Int))(eB:off x.2.2.1 w b=(Tb:Int))(eR:x.2.2.1.getD (wN w b) 0=(Rb:Int))(hAB:Ta+Ra≤Tb)(hN:Tb+Rb≤N)
    (eC:(qaV x (wN w a) (wN w b)).2.2.1=(Ra:Int)) (e1:(qaV x (wN w a) (wN w b)).1=x.2.1) (hi:i<Rb) :
    (qfF (qaV x (wN w a) (wN w b)) Ta N 1 i).set (Tb+i) (x.2.1-1)=qnK x w N b a i:=by
  have hp:2≤x.2.1∧x.2.1≤251:=⟨h.hs.1.2.1.1,h.hs.1.2.1.2.1⟩
  have hCt:(qaV x (wN w a) (wN w b)).2.2.1.toNat=Ra:=by rw[eC];rfl
  have hUt:(qaW x.2.1 Rb).2.2.1.toNat=Rb:=rfl
  have hUp:(qaW x.2.1 Rb).1=x.2.1:=rfl
  unfold qnK
  rw[eA,eB,eR]
  simp only[Int.toNat_natCast]
  refine qhb (by simp only[List.length_set,qdE,qa0]) fun g hg=>?_
  rw[List.length_set,qa0] at hg
  rw[qkn (by rw[qa0];exact hg)]
  have mm:∀ y:Int,(y%x.2.1+1*0)%x.2.1=y%x.2.1:=fun y=>by rw[Int.mul_zero,Int.add_zero,Int.emod_emod_of_dvd _ (Int.dvd_refl _)]
  by_cases hgi:g=Tb+i
  · subst hgi
    have hu:(qfF (qaW x.2.1 Rb) Tb N (x.2.1-1) i).getD (Tb+i) 0=x.2.1-1:=by
      rw[qdO (by rw[hUt];exact hi) hg,hUt,hUp]
      have hlt:=qeO hi hi
      have:(qaW x.2.1 Rb).2.2.2.1.getD (i*Rb+i) 0=1:=by
        show(qaq qbf Rb Rb).getD _ 0=1
        rw[List.getD_eq_getElem?_getD,qbu hi hi];simp[qbf]
      rw[this,Int.one_mul,Int.emod_eq_of_lt (by omega) (by omega)]
    rw[hu,qbT (by rw[hCt];omega),Int.zero_add,Int.one_mul,Int.emod_eq_of_lt (by omega) (by omega),List.getD_eq_getElem?_getD,List.getElem?_set_self (by rw[qa0];exact hg)];rfl
  · have hset:((qfF (qaV x (wN w a) (wN w b)) Ta N 1 i).set (Tb+i) (x.2.1-1)).getD g 0=(qfF (qaV x (wN w a) (wN w b)) Ta N 1 i).getD g 0:=by
      rw[List.getD_eq_getElem?_getD,List.getD_eq_getElem?_getD,List.getElem?_set_ne (fun e=>hgi e.symm)]
    have hu:(qfF (qaW x.2.1 Rb) Tb N (x.2.1-1) i).getD g 0=0:=by
      by_cases hgU:Tb≤g∧g<Tb+Rb
      · obtain⟨j,rfl⟩:∃ j,g=Tb+j:=⟨g-Tb,by omega⟩
        have hj:j<Rb:=by omega
        rw[qdO (by rw[hUt];exact hj) hg,hUt]
        have:(qaW x.2.1 Rb).2.2.2.1.getD (i*Rb+j) 0=0:=by
          show(qaq qbf Rb Rb).getD _ 0=0
          rw[List.getD_eq_getElem?_getD,qbu hi hj]
          have:¬ i=j:=fun e=>hgi (by omega)
          simp[qbf,this]
        rw[this,Int.zero_mul];exact Int.zero_emod _
      · exact qbT (by rw[hUt];exact hgU)
    rw[hset,hu]
    by_cases hgA:Ta≤g∧g<Ta+Ra
    · obtain⟨j,rfl⟩:∃ j,g=Ta+j:=⟨g-Ta,by omega⟩
      rw[qdO (by rw[hCt];omega) hg,e1,mm]
    · rw[qbT (by rw[hCt];exact hgA)]
      simp
theorem qqx{x:Shf}{w:Sim}{N b a i:Nat}(hp:2≤x.2.1):(qnK x w N b a i).length=N∧qaI (qnK x w N b a i) x.2.1 :=
 ⟨by unfold qnK;rw[qdE,qa0],qnh hp⟩
theorem qiy{x:Shf}{w:Sim}{N b:Nat}(hp:2≤x.2.1)(hst:∀ y∈x.2.2.1,0≤y∧y≤3):∀ {n:Nat},(lsI x w N b n).length≤3*n∧Rws x.2.1 N (lsI x w N b n)
 | 0=>⟨by simp[lsI],fun r hr=>by simp[lsI] at hr⟩
 | n+1=>by
  obtain⟨h1,h2⟩:=qiy hp hst (n:=n) (w:=w) (N:=N) (b:=b)
  have h3:=qcx hst (wN w b)
  rw[lsI]
  refine⟨?_,fun r hr=>?_⟩
  ·rw[List.length_append];split
   ·rw[List.length_map,List.length_range];omega
   ·simp;omega
  ·rcases List.mem_append.1 hr with hr | hr
   ·exact h2 r hr
   ·split at hr
    ·obtain⟨i,_,rfl⟩:=List.mem_map.1 hr
     exact qqx hp
    ·simp at hr
theorem qef{x:Shf}{w:Sim}{N:Nat}(hp:2≤x.2.1)(hst:∀ y∈x.2.2.1,0≤y∧y≤3):∀ {n:Nat},n≤48→(lsT x w N n).length≤144*n∧Rws x.2.1 N (lsT x w N n)
 | 0,_=>⟨by simp[lsT],fun r hr=>by simp[lsT] at hr⟩
 | n+1,hn=>by
  obtain⟨h1,h2⟩:=qef hp hst (n:=n) (by omega) (w:=w) (N:=N)
  obtain⟨h3,h4⟩:=qiy hp hst (n:=n) (w:=w) (N:=N) (b:=n)
  rw[lsT]
  refine⟨by rw[List.length_append];omega,fun r hr=>?_⟩
  rcases List.mem_append.1 hr with hr | hr
  ·exact h2 r hr
  ·exact h4 r hr
open Classical in
noncomputable def qav(x:Shf)(w:Sim):List Sim×Int×Unit:=if PC x w=0 then(qp0 x.2.1 (off x.2.2.1 w w.length).toNat (lsT x w (off x.2.2.1 w w.length).toNat w.length),0,()) else([],PC x w,())
theorem qqN{x:Shf}{w:Sim}(hs:ISh x)(hp:qeL x.1 w):∃ N:Nat,off x.2.2.1 w w.length=(N:Int)∧N≤144∧(off x.2.2.1 w w.length).toNat=N:=by
 have h:=qfT (w:=w) hs.1.2.2.1.2.1 (n:=w.length)
 have:=hp.le48
 have:=hs.1.1.1
 exact⟨(off x.2.2.1 w w.length).toNat,by omega,by omega,rfl⟩
theorem qct(x:Shf)(w:Sim)(hx:Sm (.st cS) x)(hw:Sm (.sl (.int .i64)) w):Ret E n_Z6 [dLL x.1,dI x.2.1,dL x.2.2.1,dMs x.2.2.2.1,dL w] ⟨o_Z6,qav x w⟩:=by
 refine qak ?_
 simp only[run_Z6,Z6.ev]
 refine qaa (qns x w hx hw) (qb7 (fun h=>qaj ?_) fun h=>?_)
 ·have h:¬ PC x w=0:=by simpa using h
  rw[qav,if_neg h]
 have h:PC x w=0:=by simpa using h
 obtain⟨hs,hp⟩:=qe6.1 h
 rw[qav,if_pos h]
 obtain⟨N,eN,bN,tN⟩:=qqN hs hp
 have hst:=hs.1.2.2.1.2.1
 have hp2:2≤x.2.1∧x.2.1≤251:=⟨hs.1.2.1.1,hs.1.2.1.2.1⟩
 have h48:w.length≤48:=by have:=hp.le48;have:=hs.1.1.1;omega
 have hc:Sm (.sl (.sl (.int .i64))) x.1:=hx.1
 have of:=qlH x w hs.1.2.2.1.1 hst hw.1 fun i hi=>hp.get hi
 rw[tN]
 rw[eN] at of
 have hS:∀ i,i<w.length→(qex x.2.2.1 w w.length)[i]? = some (off x.2.2.1 w i):=fun i hi=>by
  unfold qex;rw[List.getElem?_map,List.getElem?_range hi];rfl
 refine qaa of ?_
 generalize qex x.2.2.1 w w.length=S at hS
 refine Ev.start (p:=fun φ n=>Z6.l0 (mkR (run E (φ 0))) (φ 0) n w S (N:Int) w (w.length:Int) 0 x.1 x.2.1 x.2.2.1 x.2.2.2.1 []=_) 1 ?_ (fun _ _ _ h=>h)
 refine qao 1 (L:=fun φ n b o=>Z6.l0 (mkR (run E (φ 0))) (φ 0) n w S (N:Int) w (w.length:Int) b x.1 x.2.1 x.2.2.1 x.2.2.2.1 o) (len:=w.length) (fun b=>lsT x w N b) (fun _ _ _ _ _=>rfl) (fun b r hb ih=>?_) ?_
 ·simp only[Z6.l0_succ _ qaf]
  have hwb:=hp.wN hb
  have hbl:wN w b<x.1.length:=hwb.2
  have hT:=(qef (w:=w) (N:=N) hp2.1 hst (n:=b) (by omega)).1
  rw[lsT] at ih
  refine qax (decide_eq_true (by omega)) (qab (qaZ.trans hwb.1) ?_)
  generalize lsT x w N b=B at ih hT ⊢
  refine Ev.start (p:=fun φ n=>Z6.l1 (mkR (run E (φ 0))) (φ 0) (φ 1) n w S (N:Int) (b:Int) ((wN w b:Nat):Int) w (w.length:Int) (b:Int) w (w.length:Int) 0 x.1 x.2.1 x.2.2.1 x.2.2.2.1 B=_) 2 ?_ (fun _ _ _ h=>h)
  have hmin:∀ i,min i b≤b:=fun i=>by omega
  have:=qao 2 (L:=fun φ n i o=>Z6.l1 (mkR (run E (φ 0))) (φ 0) (φ 1) n w S (N:Int) (b:Int) ((wN w b:Nat):Int) w (w.length:Int) (b:Int) w (w.length:Int) i x.1 x.2.1 x.2.2.1 x.2.2.2.1 o) (len:=w.length) (fun i=>B++lsI x w N b (min i b)) (r:=r) (fun _ _ _ _ _=>rfl) (fun i q hi ih2=>?_) ?_
  ·have e:B++lsI x w N b (min 0 b)=B:=by rw[show min 0 b=0 by omega];simp[lsI]
   rw[e] at this
   exact this
  ·have hwi:=hp.wN hi
   have hil:wN w i<x.1.length:=hwi.2
   simp only[Z6.l1_succ _ qaf]
   refine qax (decide_eq_true (by omega)) (qab (qaZ.trans hwi.1) ?_)
   have skip:¬ (i<b∧qdx (x.1.getD (wN w i) []) (x.1.getD (wN w b) []))→Ev fun φ=>Z6.j2 (mkR (run E (φ 0))) (φ 0) (φ 1) (φ 2) w S (N:Int) (b:Int) ((wN w b:Nat):Int) (i:Int) ((wN w i:Nat):Int) w (w.length:Int) (b:Int) w (w.length:Int) (i:Int) true x.1 x.2.1 x.2.2.1 x.2.2.2.1 (B++lsI x w N b (min i b))=q:=fun hn=>by
    simp only[Z6.j2_eq _ qaf,cond_true]
    have e:lsI x w N b (min (i+1) b)=lsI x w N b (min i b):=by
     by_cases hib:i<b
     ·rw[show min (i+1) b=i+1 by omega,show min i b=i by omega,lsI,if_neg fun hpt=>hn ⟨hib,hpt⟩,List.append_nil]
     ·rw[show min (i+1) b=b by omega,show min i b=b by omega]
    rw[e] at ih2
    rw[qae (by omega)];exact ih2
   by_cases he:wN w i=wN w b
   ·refine qax (by simp[he]) (skip fun⟨hib,_⟩=>?_)
    have:=hp.wN_lt hb hib;omega
   ·refine qaB (by simp;omega) (qab (qai hil) (qab (qai hbl) (qaa (qnA _ _ (qbl hc hil).1 (qbl hc hbl).1) ?_)))
    by_cases hpt:qdx x.1[wN w i] x.1[wN w b]
    ·have hpt':qdx (x.1.getD (wN w i) []) (x.1.getD (wN w b) []):=by rw[qad hil,qad hbl];exact hpt
     have hlt:=qf7 hs.1.1 hil hbl hpt' he
     have hib:i<b:=by
      rcases Nat.lt_trichotomy i b with h | h | h
      ·exact h
      ·exact absurd (by rw[h]) he
      ·have:=hp.wN_lt hi h;omega
     have P:LsP x w N b i:=⟨hs,hp,hb,hib,hpt',eN⟩
     obtain⟨Ta,Tb,Ra,Rb,eA,eB,eR,hR3,hRa3,hAB,hBN,hVM,mR,mC,m1,r1,_⟩:=P.facts hx
     have hlen:(qaV x (wN w i) (wN w b)).2.2.2.1.length=Rb*Ra:=by
      have:=hVM.2.2.2.1
      rw[mR,mC,qa2] at this;omega
     have hRR:=qdI (show Rb≤32 by omega) (show Ra≤32 by omega)
     have rr:=qhP (qaV x (wN w i) (wN w b)).1 Rb Ra (qaV x (wN w i) (wN w b)).2.2.2.1 hlen (by omega) (by omega) (by omega)
     rw[← mR,← mC] at rr
     simp only[qaL hpt,Bool.not_true,Z6.j2_eq _ qaf,cond_false]
     refine qaa r1 (qaa rr ?_)
     rw[qaO]
     have hI:=(qiy (w:=w) (N:=N) (b:=b) hp2.1 hst (n:=i)).1
     have e1:lsI x w N b (min (i+1) b)=lsI x w N b (min i b)++(List.range Rb).map (qnK x w N b i):=by
      rw[show min (i+1) b=i+1 by omega,show min i b=i by omega,lsI,if_pos hpt',eR];rfl
     rw[e1,← List.append_assoc] at ih2
     rw[show min i b=i by omega] at ih2 ⊢
     generalize hK:B++lsI x w N b i=K at ih2 ⊢
     have hKl:K.length≤144*48+144:=by rw[← hK,List.length_append];omega
     refine Ev.start (p:=fun φ n=>Z6.l3 (mkR (run E (φ 0))) (φ 0) (φ 1) (φ 2) n w S (N:Int) (b:Int) ((wN w b:Nat):Int) (i:Int) w (w.length:Int) (b:Int) w (w.length:Int) (i:Int) (qaE (qbL (qaV x (wN w i) (wN w b)).2.2.2.1 Ra) Rb Ra) (Rb:Int) 0 x.1 x.2.1 x.2.2.1 x.2.2.2.1 K=_) 3 ?_ (fun _ _ _ h=>h)
     have:=qao 3 (L:=fun φ n j o=>Z6.l3 (mkR (run E (φ 0))) (φ 0) (φ 1) (φ 2) n w S (N:Int) (b:Int) ((wN w b:Nat):Int) (i:Int) w (w.length:Int) (b:Int) w (w.length:Int) (i:Int) (qaE (qbL (qaV x (wN w i) (wN w b)).2.2.2.1 Ra) Rb Ra) (Rb:Int) j x.1 x.2.1 x.2.2.1 x.2.2.2.1 o) (len:=Rb) (fun j=>K++(List.range j).map (qnK x w N b i)) (r:=q) (fun _ _ _ _ _=>rfl) (fun j q2 hj ih3=>?_) ?_
     ·simpa using this
     ·have sA:=hS i hi
      have sB:=hS b hb
      rw[eA] at sA
      rw[eB] at sB
      have hcp:=qpJ hVM mR mC hj (show Ta+Ra≤N by omega)
      have hpr:=qqm P hx eA eB eR hAB hBN mC m1 hj
      have e2:w64 ((Tb:Int)+(j:Int))=((Tb+j:Nat):Int):=by rw[qag (by omega) (by omega)];omega
      have e3:w64 (x.2.1-1)=x.2.1-1:=qag (by omega) (by omega)
      rw[List.range_succ,List.map_append,List.map_singleton,← List.append_assoc] at ih3
      have h0:(0:Int)≤(Ta:Int):=by omega
      have hTN:(Ta:Int)≤(N:Int):=by omega
      simp only[Z6.l3_succ _ qaf,Int.toNat_natCast,List.length_replicate]
      refine qax (decide_eq_true (by omega)) (qab (qaZ.trans (qbH hj)) (qan (by simp only[Bool.and_eq_true,decide_eq_true_eq];omega) (qab (qaZ.trans sA) ?_)))
      simp only[Int.toNat_natCast,hcp,qa0]
      refine qan (by simp only[Bool.and_eq_true,decide_eq_true_eq];exact⟨h0,hTN⟩) (qan (by simp only[Bool.and_eq_true,decide_eq_true_eq];omega) (qab (qaZ.trans sB) ?_))
      simp only[e2,e3,Int.toNat_natCast,hpr]
      refine qan (by simp only[Bool.and_eq_true,decide_eq_true_eq];omega) (qan (by simp only[List.length_append,List.length_map,List.length_range,List.length_cons,List.length_nil,decide_eq_true_eq];omega) ?_)
      rw[qae (by omega)];exact ih3
     ·simp only[Z6.l3_succ _ qaf]
      refine qaB (decide_eq_false (by omega)) ?_
      rw[qae (by omega)];exact ih2
    ·simp only[qar hpt,Bool.not_false]
     exact skip fun⟨_,hpt'⟩=>hpt (by rw[qad hil,qad hbl] at hpt';exact hpt')
  ·simp only[Z6.l1_succ _ qaf]
   refine qaB (decide_eq_false (by omega)) ?_
   rw[show min w.length b=b by omega,qae (by omega)]
   exact ih
 ·simp only[Z6.l0_succ _ qaf]
  obtain⟨h1,h2⟩:=qef (w:=w) (N:=N) hp2.1 hst (n:=w.length) h48
  obtain⟨h3,h4⟩:=h2.flat
  have hmul:(lsT x w N w.length).length*N≤6912*144:=Nat.mul_le_mul (by omega) bN
  exact qaB (decide_eq_false (by omega)) (qaa (qkL x.2.1 (N:Int) (lsT x w N w.length) (by omega) (by omega)) (qaa (qlU x.2.1 N (lsT x w N w.length) hp2 (by omega) (by omega) (by omega) h2) qam))
theorem qf8(x:Shf)(w:Sim)(hx:Sm (.st cS) x)(hw:Sm (.sl (.int .i64)) w):Sm (.sl (.sl (.int .i64))) (qav x w).1:=by
 unfold qav
 split
 ·rename_i h
  obtain⟨hs,hp⟩:=qe6.1 h
  obtain⟨N,eN,bN,tN⟩:=qqN hs hp
  exact qqr hs.1.2.1.1 (by omega)
 ·exact qpr
end VeT
open Go Go.Proofs Ve
namespace VeT
def apM(m:Mat)(y:Nat→Int)(i:Nat):Int:=qaJ (mE m i) y m.2.2.1.toNat%m.1
theorem qdy{m:Mat}{y z:Nat→Int}{i:Nat}(h:∀ j,j<m.2.2.1.toNat→y j%m.1=z j%m.1):apM m y i=apM m z i:=qce h
theorem qqH{m:Mat}{y:Nat→Int}{i:Nat}:apM m y i%m.1=apM m y i:=Int.emod_emod_of_dvd _ (Int.dvd_refl _)
theorem qlG{a b:Mat}{y:Nat→Int}{i:Nat}(h1:a.2.2.1=b.2.1)(e1:a.1=b.1)(hi:i<a.2.1.toNat):apM (qdo a b) y i=apM a (apM b y) i:=by
 unfold apM
 show qaJ (mE (qdo a b) i) y b.2.2.1.toNat%a.1=qaJ (mE a i) (fun l=>qaJ (mE b l) y b.2.2.1.toNat%b.1) a.2.2.1.toNat%a.1
 have l1:qaJ (mE (qdo a b) i) y b.2.2.1.toNat%a.1=qaJ (fun l=>qaJ (mE a i) (fun m=>mE b m l) a.2.2.1.toNat) y b.2.2.1.toNat%a.1 :=
  qhL fun l hl=>by rw[qgD hi hl];exact Int.emod_emod_of_dvd _ (Int.dvd_refl _)
 have l2:qaJ (mE a i) (fun l=>qaJ (mE b l) y b.2.2.1.toNat%b.1) a.2.2.1.toNat%a.1=qaJ (mE a i) (fun m=>qaJ (mE b m) y b.2.2.1.toNat) a.2.2.1.toNat%a.1 :=
  qce fun m hm=>by rw[e1];exact Int.emod_emod_of_dvd _ (Int.dvd_refl _)
 rw[l1,l2]
 congr 1
 have:=qfJ (y:=y) (c:=mE a i) (A:=mE b) (W:=b.2.2.1.toNat) (R:=a.2.2.1.toNat)
 rw[qaU,this]
 exact qaA fun m hm=>⟨rfl,qaU⟩
theorem qpK{p:Int}{n i:Nat}{y:Nat→Int}(hi:i<n):apM (qaW p n) y i=y i%p:=by
 show qaJ (mE (qaW p n) i) y ((n:Int)).toNat%p=_
 rw[Int.toNat_natCast,qaA (d:=fun l=>if l=i then 1 else 0) (h:=y) fun l hl=>⟨qjR hi hl,rfl⟩,qbU hi]
theorem qpH{m:Mat}{y:Nat→Int}{i:Nat}(h:∀ j,j<m.2.2.1.toNat→y j%m.1=0):apM m y i=0:=by
 rw[qdy (z:=fun _=>0) fun j hj=>by rw[h j hj];simp]
 unfold apM;rw[qeK];simp
theorem qmf{m:Mat}{v:Sim}{n i:Nat}(hi:i<n):(qmH m v n).getD i 0=apM m (fun l=>v.getD l 0) i:=qoF hi
theorem qg6{m:Mat}{a n i:Nat}{t:Int}{u:Nat→Int}(h:a+m.2.2.1.toNat≤n):qaJ u (fun g=>(qfF m a n t i).getD g 0) n%m.1=t*qaJ (mE m i) (fun j=>u (a+j)) m.2.2.1.toNat%m.1:=by
 rw[qlF,qpf (L:=a) (n:=m.2.2.1.toNat) h fun g hg hno=>by rw[qbT hno,Int.mul_zero],qlF,← qpY]
 refine qpR fun j hj=>?_
 rw[qdO hj (by omega),Int.mul_emod,Int.emod_emod_of_dvd _ (Int.dvd_refl _),← Int.mul_emod]
 congr 1
 show u (a+j)*(mE m i j*t)=t*(mE m i j*u (a+j))
 rw[Int.mul_comm (mE m i j) t,Int.mul_left_comm,Int.mul_comm (u (a+j))]
theorem qmB{a b:Sim}{c p:Int}{W:Nat}{u:Nat→Int}(ha:a.length=W):qaJ u (fun g=>(qls a b c p).getD g 0) W%p=(qaJ u (fun g=>a.getD g 0) W+c*qaJ u (fun g=>b.getD g 0) W)%p:=by
 rw[qce (h:=fun g=>a.getD g 0+c*b.getD g 0) fun g hg=>by rw[qkn (by omega)];exact Int.emod_emod_of_dvd _ (Int.dvd_refl _),qfR,qgj]
theorem qoy{p a b:Int}:(a+(p-1)*b)%p=0↔a%p=b%p:=by
 rw[Int.sub_mul,Int.one_mul,show a+(p*b-b)=a-b+p*b by omega,Int.add_mul_emod_self_left]
 exact Int.emod_eq_emod_iff_emod_sub_eq_zero.symm
def qm7(x:Shf)(w:Sim)(u:Nat→Int):Prop:=∀ b a,b<w.length→a<b→qdx (x.1.getD (wN w a) []) (x.1.getD (wN w b) [])→∀ i,i<(x.2.2.1.getD (wN w b) 0).toNat →
 apM (qaV x (wN w a) (wN w b)) (fun j=>u ((off x.2.2.1 w a).toNat+j)) i=u ((off x.2.2.1 w b).toNat+i)%x.2.1
theorem qmJ{x:Shf}{w:Sim}{N b a i:Nat}(h:LsP x w N b a)(hi:i<(x.2.2.1.getD (wN w b) 0).toNat){u:Nat→Int} :
  qaJ u (fun g=>(qnK x w N b a i).getD g 0) N%x.2.1=0↔apM (qaV x (wN w a) (wN w b)) (fun j=>u ((off x.2.2.1 w a).toNat+j)) i=u ((off x.2.2.1 w b).toNat+i)%x.2.1:=by
 have ha:a<w.length:=by have:=h.ha;have:=h.hb;omega
 obtain⟨a1,a2,a3,a4,a5⟩:=qel h.hs h.hp ha
 obtain⟨b1,b2,b3,b4,b5⟩:=qel h.hs h.hp h.hb
 have eN:=h.eN
 obtain⟨r1,r2,r3,r4⟩:=qa4 h.hs.1 (h.hp.wN ha).2 (h.hp.wN h.hb).2 h.pt
 have A:=qg6 (m:=qaV x (wN w a) (wN w b)) (a:=(off x.2.2.1 w a).toNat) (n:=N) (t:=1) (i:=i) (u:=u) (by rw[r4];omega)
 have B:=qg6 (m:=qaW x.2.1 (x.2.2.1.getD (wN w b) 0).toNat) (a:=(off x.2.2.1 w b).toNat) (n:=N) (t:=x.2.1-1) (i:=i) (u:=u) (by show _+((((x.2.2.1.getD (wN w b) 0).toNat:Nat):Int)).toNat≤N;rw[Int.toNat_natCast];omega)
 unfold qnK
 rw[qmB qa0,Int.one_mul,Int.add_emod]
 rw[r2] at A
 have B:qaJ u (fun g=>(qfF (qaW x.2.1 (x.2.2.1.getD (wN w b) 0).toNat) (off x.2.2.1 w b).toNat N (x.2.1-1) i).getD g 0) N%x.2.1=(x.2.1-1)*u ((off x.2.2.1 w b).toNat+i)%x.2.1:=by
  refine B.trans ?_
  show(x.2.1-1)*qaJ (mE (qaW x.2.1 (x.2.2.1.getD (wN w b) 0).toNat) i) (fun j=>u ((off x.2.2.1 w b).toNat+j)) (((x.2.2.1.getD (wN w b) 0).toNat:Nat):Int).toNat%x.2.1=_
  rw[Int.toNat_natCast,qaA (d:=fun l=>if l=i then 1 else 0) (h:=fun j=>u ((off x.2.2.1 w b).toNat+j)) fun l hl=>⟨qjR hi hl,rfl⟩,qbU hi]
 rw[A,B,Int.one_mul,← Int.add_emod,qoy]
 unfold apM
 rw[r2]
theorem qoS{x:Shf}{w:Sim}{N b:Nat}{r:Sim}:∀ {n:Nat},r∈lsI x w N b n↔∃ a,a<n∧qdx (x.1.getD (wN w a) []) (x.1.getD (wN w b) [])∧∃ i,i<(x.2.2.1.getD (wN w b) 0).toNat∧r=qnK x w N b a i
 | 0=>by simp[lsI]
 | n+1=>by
  rw[lsI,List.mem_append,qoS]
  constructor
  ·rintro(⟨a,h1,h2⟩ | h)
   ·exact⟨a,by omega,h2⟩
   ·by_cases hp:qdx (x.1.getD (wN w n) []) (x.1.getD (wN w b) [])
    ·rw[if_pos hp] at h
     obtain⟨i,hi,rfl⟩:=List.mem_map.1 h
     exact⟨n,by omega,hp,i,List.mem_range.1 hi,rfl⟩
    ·rw[if_neg hp] at h;simp at h
  ·rintro⟨a,h1,h2,i,h3,rfl⟩
   by_cases e:a=n
   ·subst e
    right;rw[if_pos h2];exact List.mem_map.2 ⟨i,List.mem_range.2 h3,rfl⟩
   ·exact .inl ⟨a,by omega,h2,i,h3,rfl⟩
theorem qlZ{x:Shf}{w:Sim}{N:Nat}{r:Sim}:∀ {n:Nat},r∈lsT x w N n↔∃ b,b<n∧∃ a,a<b∧qdx (x.1.getD (wN w a) []) (x.1.getD (wN w b) [])∧∃ i,i<(x.2.2.1.getD (wN w b) 0).toNat∧r=qnK x w N b a i
 | 0=>by simp[lsT]
 | n+1=>by
  rw[lsT,List.mem_append,qlZ,qoS]
  constructor
  ·rintro(⟨b,h1,h2⟩ | h)
   ·exact⟨b,by omega,h2⟩
   ·exact⟨n,by omega,h⟩
  ·rintro⟨b,h1,h2⟩
   by_cases e:b=n
   ·subst e;exact .inr h2
   ·exact .inl ⟨b,by omega,h2⟩
theorem qoh{x:Shf}{w:Sim}{N:Nat}(hs:ISh x)(hp:qeL x.1 w)(eN:off x.2.2.1 w w.length=(N:Int)){u:Nat→Int}:Sol x.2.1 N (lsT x w N w.length) u↔qm7 x w u:=by
 constructor
 ·intro h b a hb ha pt i hi
  exact(qmJ ⟨hs,hp,hb,ha,pt,eN⟩ hi).1 (h _ (qlZ.2 ⟨b,hb,a,ha,pt,i,hi,rfl⟩))
 ·intro h r hr
  obtain⟨b,hb,a,ha,pt,i,hi,rfl⟩:=qlZ.1 hr
  exact(qmJ ⟨hs,hp,hb,ha,pt,eN⟩ hi).2 (h b a hb ha pt i hi)
theorem qoa{x:Shf}{w v:Sim}(h:∀ b a,b<w.length→a<b→¬ Cf x w v b a):qfH x w v=none:=by
 cases e:qfH x w v with
 | none=>rfl
 | some t =>
  obtain⟨a,b⟩:=t
  obtain⟨h1,h2,_⟩:=qjm e
  unfold qfH at e
  split at e
  ·rename_i b' hb
   obtain⟨a',ha,e⟩:=Option.map_eq_some_iff.1 e
   simp only[Prod.mk.injEq] at e
   obtain⟨rfl,rfl⟩:=e
   exact absurd (qay ha).2.2 (h _ _ h2 h1)
  ·cases e
theorem qpB{x:Shf}{w v:Sim}(hs:ISh x)(hp:qeL x.1 w)(hd:Dat x w v)(h:qm7 x w fun g=>v.getD g 0):qfH x w v=none:=qoa fun b a hb ha ⟨pt,hne⟩=>hne (by
 have hal:a<w.length:=by omega
 obtain⟨a1,a2,a3,a4,a5⟩:=qel hs hp hal
 obtain⟨b1,b2,b3,b4,b5⟩:=qel hs hp hb
 have la:=qfc hs hp hd hal
 have lb:=qfc hs hp hd hb
 obtain⟨r1,r2,r3,r4⟩:=qa4 hs.1 (hp.wN hal).2 (hp.wN hb).2 pt
 unfold qpS
 refine qhb (by rw[qcM];omega) fun i hi=>?_
 rw[qcM] at hi
 have hg:∀ i j,i<w.length→j<(x.2.2.1.getD (wN w i) 0).toNat→(qkw x.2.2.1 w v i).getD j 0=v.getD ((off x.2.2.1 w i).toNat+j) 0:=fun i j hi hj=>by
  unfold qkw
  obtain⟨c1,c2,c3,c4,c5⟩:=qel hs hp hi
  rw[List.getD_eq_getElem?_getD,List.getElem?_drop,List.getElem?_take,if_pos (by omega),← List.getD_eq_getElem?_getD]
 rw[qmf hi,hg b i hb hi]
 have e:apM (qaV x (wN w a) (wN w b)) (fun j=>v.getD ((off x.2.2.1 w a).toNat+j) 0) i=v.getD ((off x.2.2.1 w b).toNat+i) 0%x.2.1:=h b a hb ha pt i hi
 rw[qdy (z:=fun j=>v.getD ((off x.2.2.1 w a).toNat+j) 0) fun j hj=>by rw[hg a j hal (by rw[r4] at hj;exact hj)],e]
 have hb1:=hd.2
 have hlt:(off x.2.2.1 w b).toNat+i<v.length:=by omega
 rw[qad hlt]
 have:=hd.1 _ (List.getElem_mem hlt)
 have:=hs.1.2.1.1
 exact Int.emod_eq_of_lt (by omega) (by omega))
noncomputable def vy(x:Shf)(y:Nat→Int)(f j:Nat):Int:=y ((FC x.1 x.2.2.1 f).toNat+j)
def qlz(x:Shf)(y:Nat→Int):Prop:=∀ e,e<x.1.length→(x.1.getD e []).length=2→∀ i,i<(x.2.2.1.getD e 0).toNat→apM (mp x.1 x.2.2.2.1 e 0) (vy x y (fc x.1 e 0)) i=apM (mp x.1 x.2.2.2.1 e 1) (vy x y (fc x.1 e 1)) i
theorem qof{x:Shf}(h:VS x.1 x.2.1 x.2.2.1 x.2.2.2.1){e i:Nat}(he:e<x.1.length)(h2:(x.1.getD e []).length=2)(hi:i<(x.2.2.1.getD e 0).toNat){y:Nat→Int} :
  qaJ y (fun g=>(qod x.1 x.2.1 x.2.2.1 x.2.2.2.1 0 ((FC x.1 x.2.2.1 e).toNat+i)).getD g 0) (SD x.1 x.2.2.1 0).toNat%x.2.1=0↔apM (mp x.1 x.2.2.2.1 e 0) (vy x y (fc x.1 e 0)) i=apM (mp x.1 x.2.2.2.1 e 1) (vy x y (fc x.1 e 1)) i:=by
 have hfl:=qdp h2
 have hd:((x.1.getD e []).length:Int)=0+2:=by omega
 obtain⟨a1,a2,a3,a4,a5,a6,a7⟩:=qdl h he hd (a:=0) (by omega)
 obtain⟨b1,b2,b3,b4,b5,b6,b7⟩:=qdl h he hd (a:=1) (by omega)
 obtain⟨_,A⟩:=h.map he (i:=0) (by omega)
 obtain⟨_,B⟩:=h.map he (i:=1) (by omega)
 have hst:=h.2.2.1.2.1
 have na:=qcx hst (fc x.1 e 0)
 have nb:=qcx hst (fc x.1 e 1)
 rw[← qmN h he h2 hi,qmB qa0,Int.one_mul,Int.add_emod]
 have RA:=qg6 (m:=mp x.1 x.2.2.2.1 e 0) (a:=(FC x.1 x.2.2.1 (fc x.1 e 0)).toNat) (n:=(SD x.1 x.2.2.1 0).toNat) (t:=1) (i:=i) (u:=y) (by rw[a2];omega)
 have RB:=qg6 (m:=mp x.1 x.2.2.2.1 e 1) (a:=(FC x.1 x.2.2.1 (fc x.1 e 1)).toNat) (n:=(SD x.1 x.2.2.1 0).toNat) (t:=x.2.1-1) (i:=i) (u:=y) (by rw[b2];omega)
 rw[A.2.1] at RA
 rw[B.2.1] at RB
 rw[RA,RB,← Int.add_emod,Int.one_mul,qoy]
 unfold apM
 rw[A.2.1,B.2.1]
 exact Iff.rfl
theorem qqp{x:Shf}(h:VS x.1 x.2.1 x.2.2.1 x.2.2.2.1){y:Nat→Int}:qq8 x.2.1 (SD x.1 x.2.2.1 1).toNat (SD x.1 x.2.2.1 0).toNat (qbL (qqY x 0).2.2.2.1 (SD x.1 x.2.2.1 0).toNat) y↔qlz x y:=by
 have hst:=h.2.2.1.2.1
 have hrow:∀ r,qaJ y (qbL (qqY x 0).2.2.2.1 (SD x.1 x.2.2.1 0).toNat r) (SD x.1 x.2.2.1 0).toNat=qaJ y (fun g=>(qod x.1 x.2.1 x.2.2.1 x.2.2.2.1 0 r).getD g 0) (SD x.1 x.2.2.1 0).toNat:=fun r =>
  qaA fun g hg=>⟨rfl,(qmk hg).symm⟩
 constructor
 ·intro hs e he h2 i hi
  have hb:=(qdY hst he).2
  have hn:=(qdY hst he).1
  rw[show((x.1.getD e []).length:Int)-1=1 by omega] at hb
  refine(qof h he h2 hi).1 ?_
  rw[← hrow]
  exact hs _ (by omega)
 ·intro hs r hr
  rw[qly] at hr
  obtain⟨e,he,hd,i,hi,rfl⟩:=qlB hst hr
  rw[hrow]
  exact(qof h he (by omega) hi).2 (hs e he (by omega) i hi)
theorem qka{c:List Sim}(hv:VC c){f b:Nat}(hf:f<c.length)(hb:b<c.length)(h1:(c.getD f []).length=1)(h2:(c.getD b []).length=1)(hp:qdx (c.getD f []) (c.getD b [])):f=b:=by
 refine qhp hv hf hb ?_
 match ef:c.getD f [],eb:c.getD b [],h1,h2,hp with
 | [x],[y],_,_,hp=>rw[List.mem_singleton.1 (hp x List.mem_cons_self)]
theorem qhk{x:Shf}(hs:ISh x){e f:Nat}(he:e<x.1.length)(h2:(x.1.getD e []).length=2)(hf:f<x.1.length)(h1:(x.1.getD f []).length=1)(hp:qdx (x.1.getD f []) (x.1.getD e [])) :
  ∃ t,t<2∧fc x.1 e t=f∧qaV x f e=mp x.1 x.2.2.2.1 e t:=by
 have h:=hs.1
 have hne:f≠e:=fun hh=>by subst hh;omega
 have D:Down x.1 x.2.1 x.2.2.1 x.2.2.2.1 f e:=⟨h,hf,he,hne,hp⟩
 obtain⟨f1,f2,f3,f4,f5,f6,f7⟩:=D.facts
 have hfl:=qdp h2
 have g:=qaX h.1 he f2
 have hl:(x.1.getD (fc x.1 e (fv x.1 f e)) []).length=1:=by rw[g.2.2,List.length_eraseIdx_of_lt f1];omega
 have ef:=qka h.1 hf f7 h1 hl f5
 refine⟨fv x.1 f e,by omega,ef.symm,?_⟩
 have hs2:=qf5 h hf he hp hne
 rw[← ef,qgd h hf] at hs2
 obtain⟨_,n,_,hn,en,en2⟩:=qpM h f hf
 have hm:=(h.map he f2).2
 rw[← ef] at hm
 rw[hs2]
 exact qnp hm.1 (by rw[hm.2.2.2,en2,Int.toNat_natCast])
theorem qoA{x:Shf}(hs:ISh x){y:Nat→Int}(hy:qlz x y):∀(d:Nat) {f g b:Nat},(x.1.getD b []).length≤d→b<x.1.length→f<x.1.length→g<x.1.length→(x.1.getD f []).length=1→(x.1.getD g []).length=1 →
    qdx (x.1.getD f []) (x.1.getD b [])→qdx (x.1.getD g []) (x.1.getD b [])→∀ i,i<(x.2.2.1.getD b 0).toNat→apM (qaV x f b) (vy x y f) i=apM (qaV x g b) (vy x y g) i
  | 0,f,g,b,hd,hb,_,_,_,_,_,_,_,_=>by have:=(hs.1.1.2.1 b hb).1;omega
  | d+1,f,g,b,hd,hb,hf,hg,f1,g1,pf,pg,i,hi=>by
    have h:=hs.1
    by_cases efg:f=g
    · rw[efg]
    have hvx:=h.1.2.1 b hb
    match ef:x.1.getD f [],eg:x.1.getD g [],f1,g1 with
    | [α],[β],_,_ =>
    have hαβ:α≠β:=fun e=>efg (qhp h.1 hf hg (by rw[ef,eg,e]))
    have ha:=pf α (by rw[ef];exact List.mem_cons_self)
    have hb':=pg β (by rw[eg];exact List.mem_cons_self)
    by_cases h3:3≤(x.1.getD b []).length
    · have r1:=hvx.2.2.1.lt (i:=0) (j:=1) (by omega) (by omega)
      have r2:=hvx.2.2.1.lt (i:=1) (j:=2) (by omega) (by omega)
      obtain⟨t,ht,n1,n2⟩:∃ t,∃ ht:t<(x.1.getD b []).length,(x.1.getD b [])[t]≠α∧(x.1.getD b [])[t]≠β:=by
        generalize e0:(x.1.getD b [])[0]=a0 at *
        generalize e1:(x.1.getD b [])[1]=a1 at *
        generalize e2:(x.1.getD b [])[2]=a2 at *
        rcases(show(a0≠α∧a0≠β)∨(a1≠α∧a1≠β)∨(a2≠α∧a2≠β) by omega) with hh | hh | hh
        · exact⟨0,by omega,by rw[e0];exact hh⟩
        · exact⟨1,by omega,by rw[e1];exact hh⟩
        · exact⟨2,by omega,by rw[e2];exact hh⟩
      have nf:(x.1.getD b [])[t]∉x.1.getD f []:=by rw[ef,List.mem_singleton];exact n1
      have ng:(x.1.getD b [])[t]∉x.1.getD g []:=by rw[eg,List.mem_singleton];exact n2
      obtain⟨q1,q2⟩:=qek hs _ (Nat.le_refl _) hf hb pf ht nf
      obtain⟨_,q3⟩:=qek hs _ (Nat.le_refl _) hg hb pg ht ng
      obtain⟨_,c1,c2⟩:=qaX h.1 hb q1
      have hm:=(h.map hb q1).2
      have ppf:qdx (x.1.getD f []) (x.1.getD (fc x.1 b t) []):=by rw[c2];exact qcK pf ht nf
      have ppg:qdx (x.1.getD g []) (x.1.getD (fc x.1 b t) []):=by rw[c2];exact qcK pg ht ng
      obtain⟨u1,u2,u3,u4⟩:=qa4 h hf c1 ppf
      obtain⟨w1,w2,w3,w4⟩:=qa4 h hg c1 ppg
      have hi2:i<(mp x.1 x.2.2.2.1 b t).2.1.toNat:=by rw[hm.2.2.1];exact hi
      rw[q2,q3,qlG (by rw[hm.2.2.2,u3]) (by rw[hm.2.1,u2]) hi2,qlG (by rw[hm.2.2.2,w3]) (by rw[hm.2.1,w2]) hi2]
      refine qdy fun j hj=>?_
      rw[hm.2.2.2] at hj
      rw[qoA hs hy d (f:=f) (g:=g) (b:=fc x.1 b t) (by rw[c2,List.length_eraseIdx_of_lt ht];omega) c1 hf hg (by rw[ef];rfl) (by rw[eg];rfl) ppf ppg j hj]
    · have h2:(x.1.getD b []).length=2:=by
        refine Classical.byContradiction fun hn=>?_
        have h1:(x.1.getD b []).length=1:=by have:=hvx.1;omega
        have e1:=qka h.1 hf hb (by rw[ef];rfl) h1 pf
        have e2:=qka h.1 hg hb (by rw[eg];rfl) h1 pg
        exact efg (e1.trans e2.symm)
      obtain⟨s,s1,s2,s3⟩:=qhk hs hb h2 hf (by rw[ef];rfl) pf
      obtain⟨t,t1,t2,t3⟩:=qhk hs hb h2 hg (by rw[eg];rfl) pg
      rw[s3,t3]
      have key:=hy b hb h2 i hi
      rcases(show s=0∨s=1 by omega) with rfl | rfl<;>rcases(show t=0∨t=1 by omega) with rfl | rfl
      · exact absurd (s2.symm.trans t2) efg
      · rw[← s2,← t2];exact key
      · rw[← s2,← t2];exact key.symm
      · exact absurd (s2.symm.trans t2) efg
end VeT
open Go Go.Proofs Ve
namespace VeT
end VeT
open Go Go.Proofs Ve
namespace VeT
theorem qqq{x:Shf}{v:Sim}{s:Nat}:(atV x v s).length=(x.2.2.1.getD s 0).toNat:=by unfold atV;exact qcM
theorem qeL.at{c:List Sim}{w:Sim}(hp:qeL c w){i:Nat}(hi:i<w.length):w[i]=((VeT.wN w i:Nat):Int):=by
 have:=(hp.wN hi).1
 rw[List.getElem?_eq_getElem hi] at this
 exact Option.some.inj this
theorem qlo{x:Shf}{v w:Sim}(hs:ISh x)(hp:qeL x.1 w):∀ {n:Nat},n≤w.length→((qiD x v w n).length:Int)=off x.2.2.1 w n
 | 0,_=>by simp[qiD,off]
 | n+1,hn=>by
  have h1:=qcx hs.1.2.2.1.2.1 (wN w n)
  rw[qjd (by omega) (hp.at (by omega)),qeF (by omega) (hp.at (by omega)),List.length_append,qqq]
  have:=qlo (v:=v) hs hp (n:=n) (by omega)
  omega
theorem qfC{x:Shf}{v w:Sim}(hs:ISh x)(hp:qeL x.1 w):∀ {n:Nat},n≤w.length→∀ b i,b<n→i<(x.2.2.1.getD (wN w b) 0).toNat→(qiD x v w n).getD ((off x.2.2.1 w b).toNat+i) 0=(atV x v (wN w b)).getD i 0
 | 0,_,b,i,hb,_=>by omega
 | n+1,hn,b,i,hb,hi=>by
  have hl:=qlo (v:=v) hs hp (n:=n) (by omega)
  rw[qjd (by omega) (hp.at (by omega))]
  by_cases e:b=n
  ·subst e
   rw[List.getD_eq_getElem?_getD,List.getElem?_append_right (by omega),← List.getD_eq_getElem?_getD]
   congr 1;omega
  ·obtain⟨b1,b2,b3,b4,b5⟩:=qel hs hp (show b<w.length by omega)
   have hm:=qfI (w:=w) hs.1.2.2.1.2.1 (show b+1≤n by omega)
   rw[List.getD_eq_getElem?_getD,List.getElem?_append_left (by omega),← List.getD_eq_getElem?_getD]
   exact qfC hs hp (by omega) b i (by omega) hi
theorem qqJ{x:Shf}{v:Sim}{s i:Nat}(hs:ISh x)(hsl:s<x.1.length)(hi:i<(x.2.2.1.getD s 0).toNat):(atV x v s).getD i 0=apM (qaV x (fvx x.1 s) s) (vy x (fun g=>v.getD g 0) (fvx x.1 s)) i:=by
 obtain⟨_,f1,f2,f3,f4⟩:=qib hs.1.1 hsl
 obtain⟨r1,r2,r3,r4⟩:=qa4 hs.1 f1 hsl f4
 have h0:=(qdY (c:=x.1) hs.1.2.2.1.2.1 f1).1
 unfold atV
 rw[qmf hi]
 refine qdy fun j hj=>?_
 rw[r4] at hj
 unfold qiL vy
 rw[List.getD_eq_getElem?_getD,List.getElem?_drop,List.getElem?_take,if_pos (by omega),← List.getD_eq_getElem?_getD]
theorem qpq{x:Shf}{v w:Sim}(hs:ISh x)(hp:qeL x.1 w)(hv:qlz x fun g=>v.getD g 0):qm7 x w fun g=>(qiD x v w w.length).getD g 0:=fun b a hb ha pt i hi=>by
 have hal:a<w.length:=by omega
 have ka:=(hp.wN hal).2
 have kb:=(hp.wN hb).2
 obtain⟨_,f1,f2,f3,f4⟩:=qib hs.1.1 ka
 obtain⟨_,g1,g2,g3,g4⟩:=qib hs.1.1 kb
 obtain⟨r1,r2,r3,r4⟩:=qa4 hs.1 ka kb pt
 obtain⟨q1,q2,q3,q4⟩:=qa4 hs.1 f1 ka f4
 obtain⟨t1,t2,t3,t4⟩:=qa4 hs.1 g1 kb g4
 have hpf:qdx (x.1.getD (fvx x.1 (wN w a)) []) (x.1.getD (wN w b) []):=fun y hy=>pt y (f4 y hy)
 show _=(qiD x v w w.length).getD ((off x.2.2.1 w b).toNat+i) 0%x.2.1
 rw[qfC hs hp (Nat.le_refl _) b i hb hi,qqJ hs kb hi]
 have e1:apM (qaV x (fvx x.1 (wN w b)) (wN w b)) (vy x (fun g=>v.getD g 0) (fvx x.1 (wN w b))) i%x.2.1=apM (qaV x (fvx x.1 (wN w b)) (wN w b)) (vy x (fun g=>v.getD g 0) (fvx x.1 (wN w b))) i:=by
  have:=qqH (m:=qaV x (fvx x.1 (wN w b)) (wN w b)) (y:=vy x (fun g=>v.getD g 0) (fvx x.1 (wN w b))) (i:=i)
  rwa [t2] at this
 rw[e1,← qoA hs hv _ (Nat.le_refl _) kb f1 g1 f3 g3 hpf g4 i hi,qi7 hs _ (Nat.le_refl _) f1 ka kb f4 pt,qlG (by rw[r4,q3]) (by rw[r2,q2]) (by rw[r3];exact hi)]
 refine qdy fun j hj=>?_
 rw[r4] at hj
 show(qiD x v w w.length).getD ((off x.2.2.1 w a).toNat+j) 0%_=_
 rw[qfC hs hp (Nat.le_refl _) a j hal hj,qqJ hs ka hj]
def qdm(n:Nat):Sim:=(List.range n).map fun(i:Nat)=>(i:Int)
theorem qbj{n:Nat}:(qdm n).length=n:=by simp[qdm]
theorem qg9{n i:Nat}(hi:i<n):(qdm n).getD i 0=(i:Int):=by
 unfold qdm
 rw[List.getD_eq_getElem?_getD,List.getElem?_map,List.getElem?_range hi];rfl
theorem qd7{n i:Nat}(hi:i<n):wN (qdm n) i=i:=by
 unfold wN
 rw[qg9 hi,Int.toNat_natCast]
theorem qhF{c:List Sim}:qeL c (qdm c.length):=by
 refine⟨fun j h1 h2=>?_,fun y hy=>?_⟩
 ·rw[qbj] at h2
  rw[qg9 h2,qg9 (by omega)];omega
 ·unfold qdm at hy
  obtain⟨i,hi,rfl⟩:=List.mem_map.1 hy
  have:=List.mem_range.1 hi
  omega
theorem qmZ{c:List Sim}(hv:VC c){g f:Nat}(hf:f<c.length)(hgf:g<f):(c.getD g []).length≤(c.getD f []).length:=by
 have:=hv.srt g f hf hgf
 rw[qad hf,qad (by omega)]
 rcases qe4.1 this with h | h
 ·omega
 ·omega
theorem ql2{c:List Sim}(hv:VC c){g f:Nat}(hf:f<c.length)(h1:(c.getD f []).length=1)(hgf:g<f):(c.getD g []).length=1:=by
 have h2:=qmZ hv hf hgf
 have h3:=(hv.2.1 g (by omega)).1
 omega
theorem qc2{st:Sim}{n m:Nat}(h:m<n):off st (qdm n) (m+1)=off st (qdm n) m+st.getD m 0:=by
 have hl:m<(qdm n).length:=by rw[qbj];exact h
 refine qeF hl ?_
 have:=qg9 h
 rw[qad hl] at this
 exact this
theorem qmF{c:List Sim}{st:Sim}(hv:VC c){f:Nat}(hf:f<c.length)(h1:(c.getD f []).length=1):∀ {m:Nat},m≤f→off st (qdm c.length) m=SDn c st 0 m
 | 0,_=>by simp[off,SDn,qaK]
 | m+1,hm=>by
  rw[qc2 (by omega),qde,qmF hv hf h1 (by omega),if_pos (by rw[ql2 hv hf h1 (by omega)];rfl)]
theorem qmy{c:List Sim}{st:Sim}(hv:VC c){f:Nat}(hf:f<c.length)(h1:(c.getD f []).length=1):off st (qdm c.length) f=FC c st f:=by
 rw[qmF hv hf h1 (Nat.le_refl _),qoU h1]
theorem qoC{c:List Sim}{st:Sim}(hst:∀ x∈st,0≤x∧x≤3):∀ {m:Nat},m≤c.length→SDn c st 0 m≤off st (qdm c.length) m
 | 0,_=>by simp[off,SDn,qaK]
 | m+1,hm=>by
  have:=qoC hst (c:=c) (m:=m) (by omega)
  have h1:=qcx hst m
  rw[qc2 (by omega),qde]
  split<;>omega
theorem qmD{st:Sim}{n c:Nat}(hst:∀ x∈st,0≤x∧x≤3):∀ {m:Nat},m≤n→(c:Int)<off st (qdm n) m→∃ s,s<m∧∃ i,i<(st.getD s 0).toNat∧c=(off st (qdm n) s).toNat+i
 | 0,_,h=>by simp[off] at h;omega
 | m+1,hm,h=>by
  have h1:=qcx hst m
  have h0:=(qfT (w:=qdm n) hst (n:=m)).1
  rw[qc2 (by omega)] at h
  by_cases hc:(c:Int)<off st (qdm n) m
  ·obtain⟨s,hs,h2⟩:=qmD hst (by omega) hc;exact⟨s,by omega,h2⟩
  ·exact⟨m,by omega,c-(off st (qdm n) m).toNat,by omega,by omega⟩
theorem qqn{x:Shf}(hs:ISh x){u:Nat→Int}(h:qm7 x (qdm x.1.length) u):qlz x u:=fun e he h2 i hi=>by
 have hfl:=qdp h2
 have key:∀ t,t<2→apM (mp x.1 x.2.2.2.1 e t) (vy x u (fc x.1 e t)) i=u ((off x.2.2.1 (qdm x.1.length) e).toNat+i)%x.2.1:=fun t ht=>by
  have ht':t<(qaF x.1 e).length:=by omega
  obtain⟨_,g1,g2⟩:=qaX hs.1.1 he ht'
  have l1:(x.1.getD (fc x.1 e t) []).length=1:=by rw[g2,List.length_eraseIdx_of_lt (by omega)];omega
  have pt:qdx (x.1.getD (fc x.1 e t) []) (x.1.getD e []):=fun y hy=>by rw[g2] at hy;exact List.mem_of_mem_eraseIdx hy
  have hlt:=qf7 hs.1.1 g1 he pt fun hh=>by rw[hh] at l1;omega
  have:=h e (fc x.1 e t) (by rw[qbj];exact he) hlt (by rw[qd7 g1,qd7 he];exact pt) i (by rw[qd7 he];exact hi)
  rw[qd7 g1,qd7 he] at this
  obtain⟨s,s1,s2,s3⟩:=qhk hs he h2 g1 l1 pt
  have est:s=t:=qnV hs.1.1 he (by omega) ht' s2
  subst est
  rw[s3,qmy hs.1.1 g1 l1] at this
  exact this
 rw[key 0 (by omega),key 1 (by omega)]
theorem qme{x:Shf}(hs:ISh x){N:Nat}(eN:off x.2.2.1 (qdm x.1.length) x.1.length=(N:Int)){c:Nat}(hc:c<N):Ld x.2.1 N (qm7 x (qdm x.1.length)) c↔Ld x.2.1 (SD x.1 x.2.2.1 0).toNat (qlz x) c:=by
 have hst:=hs.1.2.2.1.2.1
 have hp2:=hs.1.2.1.1
 constructor
 ·rintro⟨_,u,hu,h1,h2⟩
  refine⟨Classical.byContradiction fun hn=>h2 ?_,u,qqn hs hu,h1,h2⟩
  obtain⟨s,hsl,i,hi,rfl⟩:=qmD hst (Nat.le_refl _) (show(c:Int)<off x.2.2.1 (qdm x.1.length) x.1.length by omega)
  obtain⟨_,f1,f2,f3,f4⟩:=qib hs.1.1 hsl
  have hb:=qdY (c:=x.1) hst f1
  rw[f3,show((1:Nat):Int)-1=0 by rfl] at hb
  by_cases e:fvx x.1 s=s
  ·rw[e] at f3 hb
   rw[qmy hs.1.1 hsl f3] at hn
   exact absurd (by omega) hn
  ·have hlt:=qf7 hs.1.1 f1 hsl f4 e
   have:=hu s (fvx x.1 s) (by rw[qbj];exact hsl) hlt (by rw[qd7 f1,qd7 hsl];exact f4) i (by rw[qd7 hsl];exact hi)
   rw[qd7 f1,qd7 hsl] at this
   rw[← this]
   obtain⟨r1,r2,r3,r4⟩:=qa4 hs.1 f1 hsl f4
   refine qpH fun j hj=>?_
   rw[r4] at hj
   rw[r2]
   have hm:=qfI (w:=qdm x.1.length) hst (show fvx x.1 s+1≤s by omega)
   have h0:=(qfT (w:=qdm x.1.length) hst (n:=fvx x.1 s)).1
   rw[qc2 f1] at hm
   exact h1 _ (by omega)
 ·rintro⟨hcn,y,hy,h1,h2⟩
  have hg:∀ j,j<(SD x.1 x.2.2.1 0).toNat→((List.range (SD x.1 x.2.2.1 0).toNat).map fun j=>y j%x.2.1).getD j 0=y j%x.2.1:=fun j hj=>by
   rw[List.getD_eq_getElem?_getD,List.getElem?_map,List.getElem?_range hj];rfl
  generalize hV:(List.range (SD x.1 x.2.2.1 0).toNat).map (fun j=>y j%x.2.1)=v at hg
  have hv:qlz x fun g=>v.getD g 0:=fun e he e2 i hi=>by
   have hfl:=qdp e2
   have key:∀ t,t<2→apM (mp x.1 x.2.2.2.1 e t) (vy x (fun g=>v.getD g 0) (fc x.1 e t)) i=apM (mp x.1 x.2.2.2.1 e t) (vy x y (fc x.1 e t)) i:=fun t ht=>by
    obtain⟨a1,a2,a3,a4,a5,a6,a7⟩:=qdl hs.1 (k:=0) he (by omega) (a:=t) (by omega)
    have hm:=(hs.1.map he (i:=t) (by omega)).2
    refine qdy fun j hj=>?_
    rw[a2] at hj
    show v.getD _ 0%_=y _%_
    rw[hg _ (by omega),hm.2.1,Int.emod_emod_of_dvd _ (Int.dvd_refl _)]
   rw[key 0 (by omega),key 1 (by omega)]
   exact hy e he e2 i hi
  have hpl:=qhF (c:=x.1)
  have hloc:=qpq hs hpl hv
  have hval:∀ g,g<(SD x.1 x.2.2.1 0).toNat→(qiD x v (qdm x.1.length) (qdm x.1.length).length).getD g 0%x.2.1=y g%x.2.1:=fun g hgl=>by
   rw[qly] at hgl
   obtain⟨s,hsl,hd,i,hi,rfl⟩:=qlB hst hgl
   have l1:(x.1.getD s []).length=1:=by omega
   have hb:=qdY (c:=x.1) hst hsl
   rw[l1,show((1:Nat):Int)-1=0 by rfl] at hb
   obtain⟨_,f1,f2,f3,f4⟩:=qib hs.1.1 hsl
   have efs:fvx x.1 s=s:=qka hs.1.1 f1 hsl f3 l1 f4
   rw[← qmy hs.1.1 hsl l1,qfC hs hpl (Nat.le_refl _) s i (by rw[qbj];exact hsl) (by rw[qd7 hsl];exact hi),qd7 hsl,qqJ hs hsl hi,efs,qgd hs.1 hsl,qpK hi]
   show v.getD ((FC x.1 x.2.2.1 s).toNat+i) 0%x.2.1%x.2.1=_
   rw[hg _ (by omega),Int.emod_emod_of_dvd _ (Int.dvd_refl _),Int.emod_emod_of_dvd _ (Int.dvd_refl _),qmy hs.1.1 hsl l1]
  exact⟨hc,_,hloc,fun j hj=>by rw[hval j (by omega)];exact h1 j hj,by rw[hval c hcn];exact h2⟩
theorem qnU{x:Shf}(hs:ISh x):(qp0 x.2.1 (off x.2.2.1 (qdm x.1.length) x.1.length).toNat (lsT x (qdm x.1.length) (off x.2.2.1 (qdm x.1.length) x.1.length).toNat x.1.length)).length=(qqV x 0).length:=by
 have hst:=hs.1.2.2.1.2.1
 have h0:=(qfT (w:=qdm x.1.length) hst (n:=x.1.length)).1
 obtain⟨N,eN⟩:=Int.eq_ofNat_of_zero_le h0
 have hn0:(SD x.1 x.2.2.1 0).toNat≤N:=by
  have:=qoC hst (c:=x.1) (Nat.le_refl _)
  rw[← qly] at this;omega
 rw[eN,Int.toNat_natCast]
 have hr:=(qef (x:=x) (w:=qdm x.1.length) (N:=N) hs.1.2.1.1 hst hs.1.1.1).2
 have k1:(qp0 x.2.1 N (lsT x (qdm x.1.length) N x.1.length)).length=rkV x.2.1 N (qm7 x (qdm x.1.length)):=by
  unfold qp0
  rw[qoR hs.1.2.1 hr.flat.1 hr.flat.2]
  refine qhf fun u=>?_
  rw[qmh fun r hrr=>(hr r hrr).1]
  have:=qoh hs (qhF (c:=x.1)) (N:=N) (u:=u) (by rw[qbj];exact eN)
  rwa [qbj] at this
 have k2:(qqV x 0).length=rkV x.2.1 (SD x.1 x.2.2.1 0).toNat (qlz x):=by
  unfold qqV
  refine(qoR (R:=(SD x.1 x.2.2.1 (0+1)).toNat) hs.1.2.1 (show(qmY x.1 x.2.1 x.2.2.1 x.2.2.2.1 0).length=_ from qhj) (qjj hs.1 0)).trans ?_
  exact qhf fun u=>qqp hs.1
 rw[k1,k2]
 unfold rkV
 rw[qoD hn0 fun c h1 h2 h3=>absurd ((qme hs eN h2).1 h3).1 (by omega)]
 exact qcQ fun c hc=>qme hs eN (by omega)
end VeT
open Go Go.Proofs Ve
namespace VeT
theorem qpx{x:Shf}{w v:Sim}(hs:ISh x)(hp:qeL x.1 w)(hv:v∈(qav x w).1):qcb x w v=(true,())∧¬ Zs v∧v.length≤144:=by
 obtain⟨N,eN,hN,tN⟩:=qqN hs hp
 have hst:=hs.1.2.2.1.2.1
 have hw:w.length≤48:=Nat.le_trans hp.le48 hs.1.1.1
 unfold qav at hv
 rw[if_pos (qe6.2 ⟨hs,hp⟩),tN] at hv
 have hr:=(qef (x:=x) (w:=w) (N:=N) hs.1.2.1.1 hst hw).2
 have hv:v∈qiF x.2.1 (lsT x w N w.length).length N (lsT x w N w.length).flatten:=hv
 have hm:v.length=N∧qaI v x.2.1:=qg8 hs.1.2.1.1 hv
 have hsol:=qmW hs.1.2.1 hr.flat.1 hr.flat.2 hv
 have hloc:=(qoh hs hp eN).1 ((qmh fun r hrr=>(hr r hrr).1).1 hsol)
 have hd:Dat x w v:=⟨hm.2,by rw[eN];omega⟩
 refine⟨?_,fun hz=>?_,by omega⟩
 ·unfold qcb
  rw[qaL ⟨qnR.2 ⟨⟨hs,hp⟩,hd⟩,qpB hs hp hd hloc⟩]
 ·obtain⟨j,hj,e⟩:=qqI hs.1.2.1 hr.flat.1 hr.flat.2 hv
  rw[qad hj] at e
  have:=hz _ (List.getElem_mem hj)
  omega
theorem qoL{x:Shf}(hs:ISh x):(qav x (qdm x.1.length)).2.1=0∧(qa9 x).2.1=0∧(qav x (qdm x.1.length)).1.length=(qa9 x).1.length:=by
 have h:=qnU hs
 unfold qav qa9
 rw[if_pos (qe6.2 ⟨hs,qhF⟩),if_pos hs,qbj]
 exact⟨rfl,rfl,h⟩
theorem ql4(x:List Int)(w:Wf (.sl (.int .u8)) x):Ret E n_Z67 [dB x] ⟨.cons .bool .nil,(true,())⟩:=by
  refine qpN (qbW ?_)
  simp only[run_Z67,Z67.ev]
  refine qaG (ql8 x) (qdg (fun _=>qkb rfl) fun _=>?_)
  refine qa7 (qjN x w) fun(r:List Sim×Int×Sim×List Mat×Sim×Unit) ⟨hx,h48,h100⟩=>?_
  obtain⟨c,p,st,ms,pl,⟨⟩⟩:=r
  simp only at hx h48 h100
  dsimp only
  have hpl:Sm (.sl (.int .i64)) pl:=qeG (by omega)
  have hloc:=qct (c,p,st,ms,()) pl hx hpl
  refine qaG hloc ?_
  by_cases hc:PC (c,p,st,ms,()) pl=0
  · have hh:=qe6.1 hc
    have hs:=hh.1
    have hp:=hh.2
    have hmem:=fun v hv=>qpx (v:=v) hs hp hv
    have hV:(qav (c,p,st,ms,()) pl).2.1=0:=by unfold qav;rw[if_pos hc]
    have hlen:(qav (c,p,st,ms,()) pl).1.length≤1048576:=(qf8 (c,p,st,ms,()) pl hx hpl).1
    generalize qav (c,p,st,ms,()) pl=V at hmem hV hlen
    obtain⟨l,e,⟨⟩⟩:=V
    simp only at hV hmem hlen
    subst hV
    refine qnD (by simp) ?_
    refine EvQ.start 1 (L:=fun φ N=>Z67.l0 (mkR (run E (φ 0))) (φ 0) N pl l 0 c p st ms) ?_ (fun _ _ _=>rfl)
    refine EvQ.loop 1 (σ:=Nat) (L:=fun φ N k=>Z67.l0 (mkR (run E (φ 0))) (φ 0) N pl l (k:Int) c p st ms) (fun _ _ _ _=>rfl) (fun k=>k≤l.length) (fun k=>l.length-k) (fun k hi ih=>?_) 0 (Nat.zero_le _)
    simp only[Z67.l0_succ _ qaf]
    refine qcs (fun h=>?_) fun h=>?_
    · have hk:k<l.length:=by omega
      obtain⟨m1,m2,m3⟩:=hmem _ (List.getElem_mem hk)
      have hsp:=qd9 (c,p,st,ms,()) pl l[k] hx hpl (qeG (by omega))
      rw[m1] at hsp
      refine qbV (qai hk) (qaG hsp (qnD rfl (qbV (qai hk) (qaG (qlt l[k] (by omega)) ?_))))
      rw[qar m2]
      simp only[Z67.j1_eq _ qaf]
      refine qnD rfl ?_
      rw[qae (by omega)]
      exact ih (k+1) hk (by omega)
    · have hgo:∀ m,m≤c.length→EvQ (fun φ=>Z67.l2 (mkR (run E (φ 0))) (φ 0) (φ 1) (m:Int) c p st ms (qdm m)) (.cons .bool .nil) fun(r:Bool×Unit)=>r.1=true :=
        EvQ.loop 1 (σ:=Nat) (L:=fun φ N m=>Z67.l2 (mkR (run E (φ 0))) (φ 0) N (m:Int) c p st ms (qdm m)) (fun _ _ _ _=>rfl) (fun m=>m≤c.length) (fun m=>c.length-m) fun m hi ih=>by
          simp only[Z67.l2_succ _ qaf]
          refine qcs (fun h=>?_) fun h=>?_
          · have hm:m<c.length:=by omega
            refine qaR (decide_eq_true (by rw[qbj];simp;omega)) ?_
            have e:qdm m++[(m:Int)]=qdm (m+1):=by unfold qdm;rw[List.range_succ,List.map_append];rfl
            rw[qae (by omega),e]
            exact ih (m+1) hm (by omega)
          · have hm:m=c.length:=by omega
            subst hm
            obtain⟨w1,w2,w3⟩:=qoL hs
            refine qaG (qct (c,p,st,ms,()) (qdm c.length) hx (qeG (by rw[qbj];omega))) (qaG (qea (c,p,st,ms,()) hx) (qql (by rw[w1];rfl) (qql (by rw[w2];rfl) (qkb ?_))))
            have w3:(qav (c,p,st,ms,()) (qdm c.length)).1.length=(qa9 (c,p,st,ms,())).1.length:=w3
            rw[w3]
            exact beq_self_eq_true _
      have:=hgo 0 (Nat.zero_le _)
      exact EvQ.start 1 (L:=fun φ N=>Z67.l2 (mkR (run E (φ 0))) (φ 0) N 0 c p st ms []) this (fun _ _ _=>rfl)
  · have hV:qav (c,p,st,ms,()) pl=([],PC (c,p,st,ms,()) pl,()):=by unfold qav;rw[if_neg hc]
    rw[hV]
    exact qql (by simpa using hc) (qkb rfl)
theorem qqT(z:((.cons (.sl (.int .u8)) .nil):Ty).T)(h:Wf (.cons (.sl (.int .u8)) .nil) z) :
  Evt fun n=>run E n n_Z67 (qbs _ z)=some ⟨.cons .bool .nil,(true,())⟩:=ql4 z.1 h.1
end VeT
