import Derived.Test.YtjnnliedeobfgaaGreatT7
import Derived.Test.YtjnnliedeobfgaaGreatT6
set_option linter.unusedVariables false
set_option linter.unusedSimpArgs false
open Go Go.Proofs Ve
namespace VeT
theorem qmw{cells:Sim}{R C i:Nat}(hl:cells.length=R*C)(hi:i<R):(cells.take ((i+1)*C)).drop (i*C)=(List.range C).map (qcE cells C i):=by
 have h:=qle (f:=qcE cells C) (C:=C) hi
 rw[qfX hl] at h
 exact h
theorem qm3(p:Int)(R C:Nat)(cells:Sim)(hl:cells.length=R*C)(hR:R≤1048576)(hC:C≤1048576)(hRC:R*C≤1048576):Ret E n_Z73 [dI p,dI (R:Int),dI (C:Int),dL cells] ⟨o_Z73,(qaJ (qcE cells C) R C,())⟩:=by
 refine qai ?_
 simp only[run_Z73,Z73.ev]
 refine Ev.start (p:=fun φ n=>Z73.l0 (mkR (run E (φ 0))) (φ 0) n (R:Int) 0 p (R:Int) (C:Int) cells []=_) 1 ?_ (fun _ _ _ h=>h)
 refine qam 1 (L:=fun φ n k a=>Z73.l0 (mkR (run E (φ 0))) (φ 0) n (R:Int) k p (R:Int) (C:Int) cells a) (len:=R) (fun k=>qaJ (qcE cells C) k C) (fun _ _ _ _ _=>rfl) (fun k r hk ih=>?_) ?_
 ·simp only[Z73.l0_succ _ qae]
  have hle:(k+1)*C≤R*C:=Nat.mul_le_mul_right _ hk
  have e:qaJ (qcE cells C) (k+1) C=qaJ (qcE cells C) k C++[(List.range C).map (qcE cells C k)]:=by
   unfold qaJ;rw[List.range_succ,List.map_append];rfl
  rw[e,← qmw hl hk] at ih
  refine qax (decide_eq_true (by omega)) (qaa (qd9 p _ C cells k (by omega) (by omega) (by omega)) (qaa (qjb _ (by rw[List.length_drop,List.length_take];omega)) (qao (by simp[qaP];omega) ?_)))
  rw[qad (by omega)];exact ih
 ·simp only[Z73.l0_succ _ qae]
  exact qaC (decide_eq_false (by omega)) qal
theorem qlm{rows:List Sim}{k:Nat}(hk:k<rows.length):(rows.take (k+1)).flatten=(rows.take k).flatten++rows[k]:=by
 rw[List.take_succ_eq_append_getElem hk,List.flatten_append];simp
theorem qiD{rows:List Sim}{k:Nat}:(rows.take k).flatten.length≤rows.flatten.length:=by
 conv=>rhs;rw[← List.take_append_drop k rows,List.flatten_append,List.length_append]
 omega
theorem qmT(p n:Int)(rows:List Sim)(h1:rows.length≤1048576)(h2:rows.flatten.length≤1048576):Ret E n_Z159 [dI p,dI n,dLL rows] ⟨o_Z159,(p,(rows.length:Int),n,rows.flatten,())⟩:=by
 refine qai ?_
 simp only[run_Z159,Z159.ev]
 refine Ev.start (p:=fun φ q=>Z159.l0 (mkR (run E (φ 0))) (φ 0) q rows 0 0 0 0 p (rows.length:Int) n []=_) 1 ?_ (fun _ _ _ h=>h)
 refine qam 1 (L:=fun φ q k o=>Z159.l0 (mkR (run E (φ 0))) (φ 0) q rows k 0 0 0 p (rows.length:Int) n o) (len:=rows.length) (fun k=>(rows.take k).flatten) (fun _ _ _ _ _=>rfl) (fun k r hk ih=>?_) ?_
 ·simp only[Z159.l0_succ _ qae]
  have hle:=qiD (rows:=rows) (k:=k+1)
  rw[qlm hk] at ih hle
  rw[List.length_append] at hle
  refine qax (decide_eq_true (by omega)) (qab (qaj hk) (qao (decide_eq_true (by omega)) ?_))
  rw[qad (by omega)];exact ih
 ·simp only[Z159.l0_succ _ qae]
  refine qaC (decide_eq_false (by omega)) (qah ?_)
  rw[List.take_of_length_le (Nat.le_refl _)]
def qsg(p:Int)(pv:List Nat)(F:Ent)(c n:Nat):St:=(List.range n).map fun i=>(pv.getD i 0,(0-F i c)%p)
def qkh(p:Int)(W:Nat)(pv:List Nat)(F:Ent)(c n:Nat):Sim:=qc4 (qsg p pv F c n) ((List.replicate W 0).set c 1)
open Classical in
noncomputable def qgw(p:Int)(W:Nat)(pv:List Nat)(F:Ent):Nat→List Sim
 | 0=>[]
 | c+1=>qgw p W pv F c++if c∈pv then [] else [qkh p W pv F c pv.length]
theorem qdL{p:Int}{W:Nat}{pv:List Nat}{F:Ent}{c n:Nat}:qkh p W pv F c (n+1)=(qkh p W pv F c n).set (pv.getD n 0) ((0-F n c)%p):=by
 unfold qkh qsg
 rw[List.range_succ,List.map_append,qcy];rfl
theorem qbS{p:Int}{W:Nat}{pv:List Nat}{F:Ent}{c n:Nat}:(qkh p W pv F c n).length=W:=by
 unfold qkh;rw[qa2,List.length_set,List.length_replicate]
theorem qdh{p:Int}{W:Nat}{pv:List Nat}{F:Ent}:∀ {n:Nat},(qgw p W pv F n).length≤n
 | 0=>by simp[qgw]
 | n+1=>by
  have:=qdh (p:=p) (W:=W) (pv:=pv) (F:=F) (n:=n)
  rw[qgw,List.length_append];split<;>simp<;>omega
theorem qgk{p:Int}{W:Nat}{pv:List Nat}{F:Ent}(hp:2≤p):∀ {n:Nat} {x:Sim},x∈qgw p W pv F n→x.length=W∧qaD x p
 | 0,x,h=>by simp[qgw] at h
 | n+1,x,h=>by
  rw[qgw,List.mem_append] at h
  rcases h with h | h
  ·exact qgk hp h
  ·split at h
   ·simp at h
   ·rw[List.mem_singleton] at h
    subst h
    refine⟨qbS,qgF (fun y hy=>?_) fun q hq=>?_⟩
    ·rcases List.mem_or_eq_of_mem_set hy with hy | rfl
     ·rw[List.mem_replicate] at hy;omega
     ·omega
    ·obtain⟨i,_,rfl⟩:=List.mem_map.1 hq
     exact qdJ hp
theorem qkG{l:List Nat}{c:Nat}:(c:Int)∈pvL l↔c∈l:=by
  unfold pvL
  rw[List.mem_map]
  exact ⟨fun ⟨a, h, e⟩ => by obtain rfl : a = c := by omega
                             exact h,fun h=>⟨c,h,rfl⟩⟩
theorem qpI{l:List Nat}{i:Nat}(hi:i<l.length):(pvL l)[i]? = some ((l.getD i 0:Nat):Int):=by
 unfold pvL
 rw[List.getElem?_map,List.getElem?_eq_getElem hi,qac hi];rfl
theorem qf1{l:List Nat}{i:Nat}(hi:i<l.length):l.getD i 0∈l:=by
 rw[qac hi];exact List.getElem_mem hi
noncomputable def qjU(p:Int)(R W:Nat)(cells:Sim):List Sim:=qgw p W (elS p R (qcE cells W) W).2 (elS p R (qcE cells W) W).1 W
theorem qoi(p:Int)(R W:Nat)(cells:Sim)(hp:2≤p∧p≤251)(hR:R≤1048576)(hW:W≤1048576)(hRW:R*W≤1048576)(hl:cells.length=R*W)(he:qaD cells p) :
  Ret E n_Z62 [dI p,dI (R:Int),dI (W:Int),dL cells] ⟨o_Z62,(qjU p R W cells,())⟩:=by
 have hA:=qb8 he hl
 obtain⟨det,hel⟩:=qkA (qcE cells W) R W p hp hR hW hA
 obtain⟨hF,hpl,hpc,hpv⟩:=qgs hp.1 hA W
 refine qai ?_
 simp only[run_Z62,Z62.ev]
 refine qaa (qm3 p R W cells hl hR hW hRW) (qaa hel ?_)
 unfold qjU
 generalize elS p R (qcE cells W) W=S at hF hpl hpc hpv
 obtain⟨F,pv⟩:=S
 simp only at hF hpl hpc hpv
 refine Ev.start (p:=fun φ n=>Z62.l0 (mkR (run E (φ 0))) (φ 0) n (pvL pv) (W:Int) 0 p (R:Int) (W:Int) cells [] (qaJ F R W)=_) 1 ?_ (fun _ _ _ h=>h)
 refine qam 1 (L:=fun φ n c o=>Z62.l0 (mkR (run E (φ 0))) (φ 0) n (pvL pv) (W:Int) c p (R:Int) (W:Int) cells o (qaJ F R W)) (len:=W) (fun c=>qgw p W pv F c) (fun _ _ _ _ _=>rfl) (fun c r hc ih=>?_) ?_
 ·simp only[Z62.l0_succ _ qae,Int.toNat_natCast,List.length_replicate]
  rw[qgw] at ih
  refine qax (decide_eq_true (by omega)) (qaa (qeR (pvL pv) (c:Int) (by rw[qa5];omega)) (qbB (fun h=>?_) fun h=>?_))
  ·rw[if_pos (qkG.1 (qaA.1 h)),List.append_nil] at ih
   rw[qad (by omega)];exact ih
  ·rw[if_neg (mt qkG.2 (qaN.1 h))] at ih
   refine qao (by simp only[Bool.and_eq_true,decide_eq_true_eq];omega) (qao (by simp only[Bool.and_eq_true,decide_eq_true_eq];omega) ?_)
   have hkl:=qdh (p:=p) (W:=W) (pv:=pv) (F:=F) (n:=c)
   generalize qgw p W pv F c=K at ih hkl ⊢
   refine Ev.start (p:=fun φ n=>Z62.l1 (mkR (run E (φ 0))) (φ 0) (φ 1) n (pvL pv) (c:Int) (W:Int) (c:Int) (pvL pv) ((pvL pv).length:Int) 0 p (R:Int) (W:Int) cells ((List.replicate W 0).set c 1) K (qaJ F R W)=_) 2 ?_ (fun _ _ _ h=>h)
   refine qam 2 (L:=fun φ n i x=>Z62.l1 (mkR (run E (φ 0))) (φ 0) (φ 1) n (pvL pv) (c:Int) (W:Int) (c:Int) (pvL pv) ((pvL pv).length:Int) i p (R:Int) (W:Int) cells x K (qaJ F R W)) (len:=pv.length) (fun i=>qkh p W pv F c i) (fun _ _ _ _ _=>rfl) (fun i q hi ih2=>?_) ?_
   ·simp only[Z62.l1_succ _ qae,qa5,qaP,Int.toNat_natCast,qbS]
    have hiR:i<R:=by omega
    have hFi:=hF i c hiR hc
    have hpi:=hpv _ (qf1 hi)
    have e0:w64 (0-F i c)=0-F i c:=qag (by omega) (by omega)
    have hred:=qka (0-F i c) p hp.1
    rw[qms hp (by omega)] at hred
    rw[qdL] at ih2
    simp only[qa5] at ih2
    refine qax (decide_eq_true (by omega)) (qab (qaV.trans (qpI hi)) (qao (by simp only[Bool.and_eq_true,decide_eq_true_eq];omega) (qab (qb4 hiR) (qab (qaV.trans (qgH hc)) ?_))))
    simp only[e0,Int.toNat_natCast]
    refine qaa hred (qao (by simp only[Bool.and_eq_true,decide_eq_true_eq];omega) ?_)
    rw[qad (by omega)];exact ih2
   ·simp only[Z62.l1_succ _ qae,qa5]
    refine qaC (decide_eq_false (by omega)) (qao (by simp only[List.length_cons,List.length_nil,decide_eq_true_eq];omega) ?_)
    rw[qad (by omega)];exact ih
 ·simp only[Z62.l0_succ _ qae]
  exact qaC (decide_eq_false (by omega)) qal
theorem qkC(p:Int)(R W:Nat)(cells:Sim)(hp:2≤p∧p≤251)(hR:R≤1048576)(hW:W≤1048576)(hRW:R*W≤1048576)(hl:cells.length=R*W)(he:qaD cells p) :
  Ret E n_Z150 [dM (p,(R:Int),(W:Int),cells,())] ⟨o_Z150,(qjU p R W cells,())⟩:=by
 have hA:=qb8 he hl
 obtain⟨det,hel⟩:=qdE p R W cells hp hR hW hRW hl he
 obtain⟨hF,hpl,hpc,hpv⟩:=qgs hp.1 hA W
 refine qai ?_
 simp only[run_Z150,Z150.ev]
 refine qaa hel ?_
 unfold qjU
 generalize elS p R (qcE cells W) W=S at hF hpl hpc hpv
 obtain⟨F,pv⟩:=S
 simp only at hF hpl hpc hpv
 generalize hMt:(p,(R:Int),(W:Int),cells,())=M
 have M1:M.1=p:=by rw[← hMt]
 have M3:M.2.2.1=(W:Int):=by rw[← hMt]
 refine Ev.start (p:=fun φ n=>Z150.l0 (mkR (run E (φ 0))) (φ 0) n M (pvL pv) 0 p (R:Int) (W:Int) (qas F W R) []=_) 1 ?_ (fun _ _ _ h=>h)
 refine qam 1 (L:=fun φ n c o=>Z150.l0 (mkR (run E (φ 0))) (φ 0) n M (pvL pv) c p (R:Int) (W:Int) (qas F W R) o) (len:=W) (fun c=>qgw p W pv F c) (fun _ _ _ _ _=>rfl) (fun c r hc ih=>?_) ?_
 ·simp only[Z150.l0_succ _ qae,M3,Int.toNat_natCast,List.length_replicate]
  rw[qgw] at ih
  refine qax (decide_eq_true (by omega)) (qaa (qnY (pvL pv) (c:Int) (by rw[qa5];omega)) (qbB (fun h=>?_) fun h=>?_))
  ·rw[if_pos (qkG.1 (qaA.1 h)),List.append_nil] at ih
   rw[qad (by omega)];exact ih
  ·rw[if_neg (mt qkG.2 (qaN.1 h))] at ih
   refine qao (by simp only[Bool.and_eq_true,decide_eq_true_eq];omega) (qao (by simp only[Bool.and_eq_true,decide_eq_true_eq];omega) ?_)
   have hkl:=qdh (p:=p) (W:=W) (pv:=pv) (F:=F) (n:=c)
   generalize qgw p W pv F c=K at ih hkl ⊢
   refine Ev.start (p:=fun φ n=>Z150.l1 (mkR (run E (φ 0))) (φ 0) (φ 1) n M (pvL pv) (c:Int) 0 p (R:Int) (W:Int) (qas F W R) K ((List.replicate W 0).set c 1)=_) 2 ?_ (fun _ _ _ h=>h)
   refine qam 2 (L:=fun φ n i x=>Z150.l1 (mkR (run E (φ 0))) (φ 0) (φ 1) n M (pvL pv) (c:Int) i p (R:Int) (W:Int) (qas F W R) K x) (len:=pv.length) (fun i=>qkh p W pv F c i) (fun _ _ _ _ _=>rfl) (fun i q hi ih2=>?_) ?_
   ·have hiR:i<R:=by omega
    have hlt:=qeY hiR hc
    simp only[Z150.l1_succ _ qae,qa5,M1,M3,qf2 (show i*W+c≤4611686018427387904 by omega),qbS]
    have hFi:=hF i c hiR hc
    have hpi:=hpv _ (qf1 hi)
    have e0:w64 (0-F i c)=0-F i c:=qag (by omega) (by omega)
    have hred:=qjQ (0-F i c) p hp.1
    rw[qms hp (by omega)] at hred
    rw[qdL] at ih2
    refine qax (decide_eq_true (by omega)) (qab (qaV.trans (qpI hi)) (qab (qaV.trans (qbV hiR hc)) ?_))
    simp only[e0,Int.toNat_natCast]
    refine qaa hred (qao (by simp only[Bool.and_eq_true,decide_eq_true_eq];omega) ?_)
    rw[qad (by omega)];exact ih2
   ·simp only[Z150.l1_succ _ qae,qa5]
    refine qaC (decide_eq_false (by omega)) (qao (by simp only[List.length_cons,List.length_nil,decide_eq_true_eq];omega) ?_)
    rw[qad (by omega)];exact ih
 ·simp only[Z150.l0_succ _ qae,M3]
  exact qaC (decide_eq_false (by omega)) qal
def Rws(p:Int)(W:Nat)(rows:List Sim):Prop:=∀ x∈rows,x.length=W∧qaD x p
theorem Rws.flat{p:Int}{W:Nat}{rows:List Sim}(h:Rws p W rows):rows.flatten.length=rows.length*W∧qaD rows.flatten p:=by
 induction rows with
 | nil=>exact⟨by simp,fun x hx=>by simp at hx⟩
 | cons r rows ih =>
  obtain⟨h1,h2⟩:=ih fun x hx=>h x (List.mem_cons_of_mem _ hx)
  obtain⟨h3,h4⟩:=h r List.mem_cons_self
  refine⟨by rw[List.flatten_cons,List.length_append,h1,h3,List.length_cons,Nat.add_mul];omega,fun x hx=>?_⟩
  rw[List.flatten_cons,List.mem_append] at hx
  rcases hx with hx | hx
  ·exact h4 x hx
  ·exact h2 x hx
noncomputable def qsC(p:Int)(W:Nat)(rows:List Sim):List Sim:=qjU p rows.length W rows.flatten
theorem qk3(p:Int)(W:Nat)(rows:List Sim)(hp:2≤p∧p≤251)(hR:rows.length≤1048576)(hW:W≤1048576)(hRW:rows.length*W≤1048576)(hr:Rws p W rows) :
  Ret E n_Z197 [dI p,dI (W:Int),dLL rows] ⟨o_Z197,(qsC p W rows,())⟩:=by
 obtain⟨h1,h2⟩:=hr.flat
 refine qai ?_
 simp only[run_Z197,Z197.ev]
 exact qaa (qmT p (W:Int) rows hR (by omega)) (qaa (qkC p rows.length W rows.flatten hp hR hW hRW h1 h2) qal)
noncomputable def qmu(x:Shf)(k:Int):List Sim:=qjU x.2.1 (SD x.1 x.2.2.1 (k+1)).toNat (SD x.1 x.2.2.1 k).toNat (qev x k).2.2.2.1
theorem qp6{x:Shf}(k:Int)(hs:VS x.1 x.2.1 x.2.2.1 x.2.2.2.1):Ret E n_Z62 [dI (qev x k).1,dI (qev x k).2.1,dI (qev x k).2.2.1,dL (qev x k).2.2.2.1] ⟨o_Z62,(qmu x k,())⟩:=by
 obtain⟨H,eH,bH,tH⟩:=qb3 hs (k+1)
 obtain⟨W,eW,bW,tW⟩:=qb3 hs k
 have hp:2≤x.2.1∧x.2.1≤251:=⟨hs.2.1.1,hs.2.1.2.1⟩
 have hRC:=qcs bH bW
 have hl:(qev x k).2.2.2.1.length=H*W:=by show(qdO _ _ _ _ k).length=_;rw[qbP,tH,tW]
 have he:qaD (qev x k).2.2.2.1 x.2.1:=qbF hs k
 have k1:=qoi x.2.1 H W (qev x k).2.2.2.1 hp (by omega) (by omega) (by omega) hl he
 have eK:qmu x k=qjU x.2.1 H W (qev x k).2.2.2.1:=by unfold qmu;rw[tH,tW]
 have e1:(qev x k).2.1=(H:Int):=eH
 have e2:(qev x k).2.2.1=(W:Int):=eW
 rw[eK,e1,e2]
 exact k1
open Classical in
noncomputable def qa8(x:Shf):List Sim×Int×Unit:=if ISh x then(qmu x 0,0,()) else([],1,())
theorem qeA(x:Shf)(hx:Sm (.st cS) x):Ret E n_Z5 [dLL x.1,dI x.2.1,dL x.2.2.1,dMs x.2.2.2.1] ⟨o_Z5,qa8 x⟩:=by
 refine qai ?_
 simp only[run_Z5,Z5.ev]
 refine qaa (qdm x hx) (qbB (fun h=>qah ?_) fun h=>?_)
 ·rw[qa8,if_neg (qaN.1 (show pb (ISh x)=false by simpa using h))]
 ·have h:=qaA.1 (show pb (ISh x)=true by simpa using h)
  rw[qa8,if_pos h]
  exact qaa (qcP x.1 x.2.1 x.2.2.1 x.2.2.2.1 0 (by omega) hx.1 h.1) (qaa (qp6 0 h.1) qal)
theorem qo3{x:Shf}(hs:VS x.1 x.2.1 x.2.2.1 x.2.2.2.1)(n:Nat):Rws x.2.1 (SD x.1 x.2.2.1 0).toNat (qfc x.1 x.2.1 x.2.2.1 x.2.2.2.1 n):=fun r hr=>by
 unfold qfc at hr
 obtain⟨i,_,rfl⟩:=List.mem_map.1 hr
 refine⟨qdc,fun y hy=>?_⟩
 unfold qma at hy
 obtain⟨g,_,rfl⟩:=List.mem_map.1 hy
 by_cases hg:i*(SD x.1 x.2.2.1 0).toNat+g<(qdO x.1 x.2.1 x.2.2.1 x.2.2.2.1 0).length
 ·rw[qac hg];exact qbF hs 0 _ (List.getElem_mem hg)
 ·rw[List.getD_eq_getElem?_getD,List.getElem?_eq_none (by omega)]
  have:=hs.2.1.1
  show 0≤(0:Int)∧(0:Int)≤_;omega
end VeT
open Go Go.Proofs Ve
namespace VeT
def qsB(A:Ent)(b:Sim)(W:Nat):Ent:=fun i j=>if j=W then b.getD i 0 else A i j
theorem qro{p:Int}{R W:Nat}{A:Ent}{b:Sim}(hA:EIn p R W A)(hb:qaD b p)(hl:b.length=R):EIn p R (W+1) (qsB A b W):=fun i j hi hj=>by
 unfold qsB
 split
 ·rw[qac (by omega)];exact hb _ (List.getElem_mem _)
 ·exact hA i j hi (by omega)
def qsL(cells b:Sim)(W R:Nat):Sim:=qas (qsB (qcE cells W) b W) (W+1) R
theorem qbE{f:Ent}{W R i j:Nat}(hi:i<R)(hj:j<W):qcE (qas f W R) W i j=f i j:=by
 unfold qcE
 rw[List.getD_eq_getElem?_getD,qbV hi hj];rfl
end VeT
open Go Go.Proofs Ve
namespace VeT
theorem qf4{c g h:Nat→Int}:∀ {n:Nat},qaI c (fun i=>g i+h i) n=qaI c g n+qaI c h n
 | 0=>rfl
 | n+1=>by simp only[qaI];rw[qf4,Int.mul_add];omega
theorem qg8{k:Int}{c g:Nat→Int}:∀ {n:Nat},qaI c (fun i=>k*g i) n=k*qaI c g n
 | 0=>by simp[qaI]
 | n+1=>by simp only[qaI];rw[qg8,Int.mul_add,← Int.mul_assoc,Int.mul_comm (c n) k,Int.mul_assoc]
theorem qgR{c:Nat→Int}:∀ {n:Nat},qaI c (fun _=>0) n=0
 | 0=>rfl
 | n+1=>by simp only[qaI];rw[qgR,Int.mul_zero];rfl
theorem qaR{c g:Nat→Int}:∀ {n:Nat},qaI c g n=qaI g c n
 | 0=>rfl
 | n+1=>by simp only[qaI];rw[qaR,Int.mul_comm]
theorem qfQ{y c:Nat→Int}{A:Ent}{W:Nat}:∀ {R:Nat},qaI y (fun j=>qaI c (fun i=>A i j) R) W=qaI c (fun i=>qaI y (A i) W) R
 | 0=>qgR
 | R+1=>by
  simp only[qaI]
  rw[qf4,qfQ,qg8]
theorem qch{p:Int}{c g h:Nat→Int}:∀ {n:Nat},(∀ i,i<n→g i%p=h i%p)→qaI c g n%p=qaI c h n%p
 | 0,_=>rfl
 | n+1,hgh=>by
  simp only[qaI]
  rw[Int.add_emod,qch (n:=n) fun i hi=>hgh i (by omega),Int.mul_emod,hgh n (Nat.lt_succ_self n),← Int.mul_emod,← Int.add_emod]
theorem qaE{c d g h:Nat→Int}:∀ {n:Nat},(∀ i,i<n→c i=d i∧g i=h i)→qaI c g n=qaI d h n
 | 0,_=>rfl
 | n+1,e=>by simp only[qaI];rw[qaE (n:=n) fun i hi=>e i (by omega),(e n (Nat.lt_succ_self n)).1,(e n (Nat.lt_succ_self n)).2]
theorem Spn.orth{p:Int}{R W:Nat}{A:Ent}{x y:Nat→Int}(hy:∀ i,i<R→qaI y (A i) W%p=0)(hx:Spn p R W A x):qaI y x W%p=0:=by
 obtain⟨c,hc⟩:=hx
 rw[← qch (p:=p) (c:=y) (g:=fun j=>qaI c (fun i=>A i j) R) (h:=x) hc,qfQ,qch (p:=p) (h:=fun _=>0) fun i hi=>by rw[hy i hi,Int.zero_emod],qgR,Int.zero_emod]
theorem qnb{y g:Nat→Int}{q:Nat}{v:Int}:∀ {n:Nat},q<n→qaI (fun j=>if j=q then v else y j) g n=qaI y g n+(v-y q)*g q
 | n+1,h=>by
  simp only[qaI]
  by_cases hq:q=n
  ·subst hq
   rw[if_pos rfl,qaE (d:=y) (h:=g) fun i hi=>⟨if_neg (by omega),rfl⟩,Int.sub_mul];omega
  ·rw[qnb (by omega),if_neg (by omega)];omega
theorem qda{o:Sim}{q j:Nat}{v:Int}(hq:q<o.length):(o.set q v).getD j 0=if j=q then v else o.getD j 0:=by
 by_cases e:q=j
 ·subst e
  rw[if_pos rfl,qac (by rw[List.length_set];exact hq),List.getElem_set_self]
 ·rw[if_neg fun e2=>e e2.symm,List.getD_eq_getElem?_getD,List.getElem?_set_ne e,List.getD_eq_getElem?_getD]
end VeT
open Go Go.Proofs Ve
namespace VeT
theorem ql1{c g:Nat→Int}{t:Nat}:∀ {n:Nat},t≤n→(∀ i,t≤i→i<n→g i=0)→qaI c g n=qaI c g t
 | 0,h,_=>by rw[show t=0 by omega]
 | n+1,h,hz=>by
  by_cases ht:t=n+1
  ·rw[ht]
  ·simp only[qaI]
   rw[ql1 (n:=n) (by omega) fun i h1 h2=>hz i h1 (by omega),hz n (by omega) (Nat.lt_succ_self n),Int.mul_zero,Int.add_zero]
def qe7(rows:List Sim):Ent:=fun i j=>(rows.getD i []).getD j 0
theorem qkS{p:Int}{rows:List Sim}{W:Nat}(h:Rws p W rows):EIn p rows.length W (qe7 rows):=fun i j hi hj=>by
 obtain⟨h1,h2⟩:=h _ (List.getElem_mem hi)
 unfold qe7
 rw[qac hi,qac (by omega)]
 exact h2 _ (List.getElem_mem _)
end VeT
open Go Go.Proofs Ve
namespace VeT
def InR(p:Int)(W:Nat)(rows:List Sim)(x:Sim):Prop:=Spn p rows.length W (qe7 rows) (fun j=>x.getD j 0)
end VeT
open Go Go.Proofs Ve
namespace VeT
theorem InR.mem{p:Int}{W:Nat}{rows:List Sim}{r:Sim}(h:r∈rows):InR p W rows r:=by
 obtain⟨i,hi,e⟩:=List.mem_iff_getElem.1 h
 have:qe7 rows i=fun j=>r.getD j 0:=by funext j;unfold qe7;rw[qac hi,e]
 unfold InR
 rw[← this]
 exact Spn.row hi
theorem InR.trans{p:Int}{W:Nat}{A B:List Sim}{y:Sim}(h:∀ r∈A,InR p W B r)(hy:InR p W A y):InR p W B y :=
 Spn.trans (fun i hi=>by
  have e:qe7 A i=fun j=>(A[i]).getD j 0:=by funext j;unfold qe7;rw[qac hi]
  rw[e]
  exact h _ (List.getElem_mem hi)) hy
def qr8(p:Int)(W:Nat)(A B:List Sim):Prop:=∀ y,InR p W A y↔InR p W B y
theorem qr8.refl{p:Int}{W:Nat}{A:List Sim}:qr8 p W A A:=fun _=>Iff.rfl
open Classical in
noncomputable def qq2(p:Int)(W:Nat):List Sim→List Sim→List Sim
 | _,[]=>[]
 | h,x::xs=>if InR p W h x then qq2 p W h xs else x::qq2 p W (h++[x]) xs
end VeT
open Go Go.Proofs Ve
namespace VeT
def qsx(p:Int)(W:Nat)(cells:Sim)(h:List Sim):Prop:=(cells.length=W*h.length∧qaD cells p)∧∀ i j,i<W→j<h.length→qcE cells h.length i j=qe7 h j i
theorem qsx.next{p:Int}{W:Nat}{cells:Sim}{h:List Sim}{v:Sim}(hc:qsx p W cells h)(hv:qaD v p)(hl:v.length=W):qsx p W (qsL cells v h.length W) (h++[v]):=by
 have hlen:(h++[v]).length=h.length+1:=by simp
 have hA0:=qb8 hc.1.2 hc.1.1
 have hA1:=qro hA0 hv hl
 refine⟨⟨by rw[hlen];exact qar,fun x hx=>?_⟩,fun i j hi hj=>?_⟩
 ·unfold qsL at hx
  rw[← qcQ] at hx
  obtain⟨row,hrow,hx⟩:=List.mem_flatten.1 hx
  obtain⟨i,hi,rfl⟩:=List.mem_map.1 hrow
  obtain⟨j,hj,rfl⟩:=List.mem_map.1 hx
  exact hA1 i j (List.mem_range.1 hi) (List.mem_range.1 hj)
 ·rw[hlen] at hj ⊢
  unfold qsL
  rw[qbE hi hj]
  unfold qsB qe7
  by_cases hjh:j<h.length
  ·rw[if_neg (by omega),hc.2 i j hi hjh,List.getD_eq_getElem?_getD (l:=h++[v]),List.getElem?_append_left hjh,← List.getD_eq_getElem?_getD];rfl
  ·obtain rfl:j=h.length:=by omega
   rw[if_pos rfl,List.getD_eq_getElem?_getD (l:=h++[v]),List.getElem?_append_right (Nat.le_refl _)];simp
theorem qox{p:Int}{W C:Nat}{cells:Sim}(hl:cells.length=W*C)(he:qaD cells p):qsx p W cells (qct W C cells)∧(qct W C cells).length=C∧Rws p W (qct W C cells):=by
 have hlen:(qct W C cells).length=C:=by simp[qct]
 have hA:=qb8 he hl
 refine⟨⟨⟨by rw[hlen];exact hl,he⟩,fun i j hi hj=>?_⟩,hlen,fun x hx=>?_⟩
 ·rw[hlen] at hj ⊢
  have e:(qct W C cells).getD j []=(List.range W).map fun i=>cells.getD (i*C+j) 0:=by
   unfold qct
   rw[List.getD_eq_getElem?_getD,List.getElem?_map,List.getElem?_range hj];rfl
  unfold qe7
  rw[e,List.getD_eq_getElem?_getD,List.getElem?_map,List.getElem?_range hi];rfl
 ·obtain⟨i,hi,rfl⟩:=List.mem_map.1 hx
  refine⟨by simp,fun y hy=>?_⟩
  obtain⟨j,hj,rfl⟩:=List.mem_map.1 hy
  exact hA j i (List.mem_range.1 hj) (List.mem_range.1 hi)
noncomputable def qq5(x:Shf)(k:Int):List Sim:=qq2 x.2.1 (SD x.1 x.2.2.1 k).toNat (qct (SD x.1 x.2.2.1 k).toNat (SD x.1 x.2.2.1 (k-1)).toNat (qev x (k-1)).2.2.2.1) (qmu x k)
theorem qnM{x:Shf}{k:Int}(hs:VS x.1 x.2.1 x.2.2.1 x.2.2.2.1):Rws x.2.1 (SD x.1 x.2.2.1 k).toNat (qmu x k)∧(qmu x k).length≤(SD x.1 x.2.2.1 k).toNat :=
 ⟨fun r hr=>qgk hs.2.1.1 hr,qdh⟩
end VeT
open Go Go.Proofs Ve
namespace VeT
theorem InR.left{p:Int}{W:Nat}{A B:List Sim}{x:Sim}(h:InR p W A x):InR p W (A++B) x:=InR.trans (fun r hr=>InR.mem (List.mem_append.2 (.inl hr))) h
end VeT
open Go Go.Proofs Ve
namespace VeT
theorem qpA{p:Int}{W:Nat}{pv:List Nat}{F:Ent}:∀ {n c:Nat},c<n→c∉pv→qkh p W pv F c pv.length∈qgw p W pv F n
 | n+1,c,h,hc=>by
  rw[qgw,List.mem_append]
  by_cases e:c=n
  ·subst e
   right;rw[if_neg hc];exact List.mem_singleton.2 rfl
  ·exact .inl (qpA (by omega) hc)
theorem qps{p:Int}{R W c:Nat}{pv:List Nat}{F:Ent}(hrf:Rf R W F pv):∀ n,n≤pv.length→∀ i,i<n→(qkh p W pv F c n).getD (pv.getD i 0) 0=(0-F i c)%p
 | 0,_,i,hi=>by omega
 | n+1,hn,i,hi=>by
  have hq:=hrf.lt n (by omega)
  rw[qdL,qda (by rw[qbS];exact hq)]
  by_cases e:i=n
  ·subst e;rw[if_pos rfl]
  ·have:=hrf.mono i n (by omega) (by omega)
   rw[if_neg (by omega)];exact qps hrf n (by omega) i (by omega)
theorem qeX{p:Int}{R W c j:Nat}{pv:List Nat}{F:Ent}(hrf:Rf R W F pv)(hj:j<W)(hjp:j∉pv)(hc:c<W):∀ n,n≤pv.length→(qkh p W pv F c n).getD j 0=if j=c then 1 else 0
 | 0,_=>by
  show((List.replicate W (0:Int)).set c 1).getD j 0=_
  rw[qda (by simpa using hc)]
  split
  ·rfl
  ·rw[List.getD_eq_getElem?_getD,List.getElem?_replicate,if_pos hj];rfl
 | n+1,hn=>by
  have hq:=hrf.lt n (by omega)
  rw[qdL,qda (by rw[qbS];exact hq),if_neg fun e=>hjp (by rw[e];exact qf1 (by omega))]
  exact qeX hrf hj hjp hc n (by omega)
theorem qsm{pv:List Nat}{j:Nat}(h:j∈pv):∃ i,i<pv.length∧pv.getD i 0=j:=by
 obtain⟨i,hi,e⟩:=List.mem_iff_getElem.1 h
 exact⟨i,hi,by rw[qac hi];exact e⟩
open Classical in
theorem qoO{p:Int}{R W:Nat}{cells x:Sim}(hp:Pr p)(hl:cells.length=R*W)(he:qaD cells p)(h0:∀ i,i<R→qaI (fun j=>x.getD j 0) (qcE cells W i) W%p=0):InR p W (qjU p R W cells) x:=by
  have hA:=qb8 he hl
  obtain⟨hrf,heq⟩:=qgr hp hA W (Nat.le_refl _)
  have hF0:∀ i,i<R→qaI (fun j=>x.getD j 0) ((elS p R (qcE cells W) W).1 i) W%p=0:=fun i hi=>Spn.orth h0 (heq.1 i hi)
  unfold qjU
  generalize elS p R (qcE cells W) W=S at hrf hF0
  obtain⟨F,pv⟩:=S
  simp only at hrf hF0 ⊢
  let K:Ent:=fun c j=>if c∈pv then 0 else(qkh p W pv F c pv.length).getD j 0
  refine(Spn.sum (c:=fun j=>x.getD j 0) (B:=K) (n:=W) fun c hc=>?_).congr fun j hj=>?_
  · by_cases h:c∈pv
    · rw[show K c=fun _=>0 by funext j;simp[K,h]];exact Spn.zero
    · rw[show K c=fun j=>(qkh p W pv F c pv.length).getD j 0 by funext j;simp[K,h]]
      exact InR.mem (qpA hc h)
  · show qaI (fun j=>x.getD j 0) (fun c=>K c j) W%p=x.getD j 0%p
    by_cases hjp:j∈pv
    · obtain⟨i,hi,rfl⟩:=qsm hjp
      have hiR:i<R:=Nat.lt_of_lt_of_le hi hrf.len
      have e:qaI (fun j=>x.getD j 0) (fun c=>F i c+K c (pv.getD i 0)) W%p=qaI (fun j=>x.getD j 0) (fun c=>if c=pv.getD i 0 then 1 else 0) W%p:=qch fun c hc=>by
        by_cases hcp:c∈pv
        · obtain⟨k,hk,rfl⟩:=qsm hcp
          have h1:=hrf.one i k hiR hk
          rw[show K (pv.getD k 0) (pv.getD i 0)=0 from if_pos hcp,Int.add_zero,h1]
          by_cases hik:i=k
          · subst hik;simp
          · rw[if_neg hik,if_neg]
            intro e
            rcases Nat.lt_or_gt_of_ne hik with h | h
            · have:=hrf.mono i k h hk;omega
            · have:=hrf.mono k i h hi;omega
        · rw[show K c (pv.getD i 0)=(0-F i c)%p from(if_neg hcp).trans (qps hrf pv.length (Nat.le_refl _) i hi),if_neg fun e=>hcp (by rw[e];exact qf1 hi),Int.add_emod,Int.emod_emod_of_dvd _ (Int.dvd_refl p),← Int.add_emod,show F i c+(0-F i c)=0 by omega]
      rw[qf4,Int.add_emod,hF0 i hiR,Int.zero_add,Int.emod_emod_of_dvd _ (Int.dvd_refl p),qaR (g:=fun c=>if c=pv.getD i 0 then 1 else 0),qcF (hrf.lt i hi)] at e
      exact e
    · rw[qaE (d:=fun j=>x.getD j 0) (h:=fun c=>if c=j then 1 else 0) fun c hc=>⟨rfl,by
        by_cases hcp:c∈pv
        · rw[show K c j=0 from if_pos hcp,if_neg fun(e:c=j)=>hjp (by rw[← e];exact hcp)]
        · rw[show K c j=if j=c then 1 else 0 from(if_neg hcp).trans (qeX hrf hj hjp hc pv.length (Nat.le_refl _))]
          by_cases e:j=c
          · rw[if_pos e,if_pos e.symm]
          · rw[if_neg e,if_neg fun e2=>e e2.symm]⟩,qaR,qcF hj]
end VeT
open Go Go.Proofs Ve
namespace VeT
end VeT
open Go Go.Proofs Ve
namespace VeT
open Classical in
noncomputable def cnt(f:Nat→Prop):Nat→Nat
 | 0=>0
 | n+1=>cnt f n+if f n then 1 else 0
theorem qfP{f g:Nat→Prop}:∀ {n:Nat},(∀ c,c<n→f c→g c)→cnt f n≤cnt g n
 | 0,_=>Nat.le_refl _
 | n+1,h=>by
  have:=qfP (n:=n) fun c hc=>h c (by omega)
  unfold cnt
  by_cases hf:f n
  ·rw[if_pos hf,if_pos (h n (by omega) hf)];omega
  ·rw[if_neg hf];omega
theorem qeG{f g:Nat→Prop}{n:Nat}(h:∀ c,c<n→(f c↔g c)):cnt f n=cnt g n :=
 Nat.le_antisymm (qfP fun c hc=>(h c hc).1) (qfP fun c hc=>(h c hc).2)
theorem qnP{f:Nat→Prop}:∀ {n:Nat},(∀ c,c<n→¬ f c)→cnt f n=0
 | 0,_=>rfl
 | n+1,h=>by
  unfold cnt
  rw[qnP fun c hc=>h c (by omega),if_neg (h n (by omega))]
theorem qmE{f:Nat→Prop}{k:Nat}:∀ {n:Nat},k<n→¬ f k→cnt (fun c=>f c∨c=k) n=cnt f n+1
 | 0,h,_=>by omega
 | n+1,h,hk=>by
  unfold cnt
  by_cases e:k=n
  ·subst e
   have:cnt (fun c=>f c∨c=k) k=cnt f k:=qeG fun c hc=>⟨fun h=>h.elim id fun e=>by omega,.inl⟩
   rw[this,if_pos (.inr rfl),if_neg hk]
  ·rw[qmE (by omega) hk]
   by_cases hf:f n
   ·rw[if_pos (.inl hf),if_pos hf]
   ·rw[if_neg (fun h=>h.elim hf fun e'=>e e'.symm),if_neg hf]
theorem qhI{W:Nat}:∀ {l:List Nat},l.Nodup→(∀ c∈l,c<W)→cnt (fun c=>c∈l) W=l.length
 | [],_,_=>qnP fun c _ h=>by cases h
 | a::l,hn,hl=>by
  obtain⟨h1,h2⟩:=List.nodup_cons.1 hn
  have e:=qhI h2 fun c hc=>hl c (List.mem_cons_of_mem _ hc)
  rw[List.length_cons,← e,← qmE (hl a List.mem_cons_self) h1]
  exact qeG fun c _=>by rw[List.mem_cons];exact Or.comm
def Ld(p:Int)(W:Nat)(V:(Nat→Int)→Prop)(c:Nat):Prop:=c<W∧∃ x,V x∧(∀ j,j<c→x j%p=0)∧x c%p≠0
noncomputable def rkV(p:Int)(W:Nat)(V:(Nat→Int)→Prop):Nat:=cnt (Ld p W V) W
theorem Ld.mono{p:Int}{W:Nat}{V V':(Nat→Int)→Prop}(h:∀ x,V x→V' x){c:Nat}:Ld p W V c→Ld p W V' c:=fun⟨h1,x,hx,h2⟩=>⟨h1,x,h x hx,h2⟩
theorem qlV{p:Int}{W:Nat}{V V':(Nat→Int)→Prop}(h:∀ x,V x↔V' x):rkV p W V=rkV p W V':=qeG fun c _=>⟨Ld.mono fun x=>(h x).1,Ld.mono fun x=>(h x).2⟩
theorem qnf{p:Int}{W:Nat}{V V':(Nat→Int)→Prop}(h:∀ x,V x→V' x):rkV p W V≤rkV p W V':=qfP fun c _=>Ld.mono h
theorem qk5{p:Int}{c g:Nat→Int}:∀ {n:Nat},(∀ i,i<n→c i*g i%p=0)→qaI c g n%p=0
 | 0,_=>by simp[qaI]
 | n+1,h=>by
  rw[show qaI c g (n+1)=qaI c g n+c n*g n from rfl,Int.add_emod,qk5 fun i hi=>h i (by omega),h n (by omega)];simp
theorem Rf.nodup{R W:Nat}{F:Ent}{pv:List Nat}(h:Rf R W F pv):pv.Nodup∧∀ c∈pv,c<W:=by
 have hg:∀ i (hi:i<pv.length),pv.getD i 0=pv[i]:=fun i hi=>by rw[List.getD_eq_getElem?_getD,List.getElem?_eq_getElem hi];rfl
 constructor
 ·refine List.pairwise_iff_getElem.2 fun i j hi hj hij=>?_
  have:=h.mono i j hij hj
  rw[hg i hi,hg j hj] at this
  omega
 ·intro c hc
  obtain⟨i,hi,rfl⟩:=List.mem_iff_getElem.1 hc
  have:=h.lt i hi
  rwa [hg i hi] at this
theorem Rf.mem{R W:Nat}{F:Ent}{pv:List Nat}(h:Rf R W F pv){c:Nat}:c∈pv↔∃ i,i<pv.length∧pv.getD i 0=c:=by
 rw[List.mem_iff_getElem]
 constructor
 ·rintro⟨i,hi,rfl⟩;exact⟨i,hi,by rw[List.getD_eq_getElem?_getD,List.getElem?_eq_getElem hi];rfl⟩
 ·rintro⟨i,hi,rfl⟩;exact⟨i,hi,by rw[List.getD_eq_getElem?_getD,List.getElem?_eq_getElem hi];rfl⟩
theorem Rf.coef{p:Int}{R W:Nat}{F:Ent}{pv:List Nat}(h:Rf R W F pv){v:Nat→Int}(hv:Spn p R W F v){j:Nat}(hj:j<W) :
  v j%p=qaI (fun k=>v (pv.getD k 0)) (fun k=>F k j) pv.length%p:=by
 obtain⟨c,hc⟩:=hv
 have h0:∀ j,j<W→qaI c (fun i=>F i j) R=qaI c (fun i=>F i j) pv.length:=fun j hj=>ql1 h.len fun i h1 h2=>h.bot i j h1 h2 hj
 have hk:∀ k,k<pv.length→v (pv.getD k 0)%p=c k%p:=fun k hk=>by
  rw[← hc _ (h.lt k hk),h0 _ (h.lt k hk),qaR]
  congr 1
  rw[← qcF (g:=c) hk]
  exact qaE fun i hi=>⟨h.one i k (Nat.lt_of_lt_of_le hi h.len) hk,rfl⟩
 rw[← hc j hj,h0 j hj,qaR,qaR (c:=fun k=>v (pv.getD k 0))]
 exact qch fun i hi=>(hk i hi).symm
theorem Rf.low0{p:Int}{R W:Nat}{F:Ent}{pv:List Nat}(h:Rf R W F pv){v:Nat→Int}(hv:Spn p R W F v){d:Nat}(hd:d<W)(hn:d∉pv)(h0:∀ k,k<pv.length→pv.getD k 0<d→v (pv.getD k 0)%p=0):∀ j,j≤d→v j%p=0:=by
 intro j hj
 rw[h.coef hv (by omega)]
 refine qk5 fun k hk=>?_
 rcases Nat.lt_trichotomy (pv.getD k 0) d with e | e | e
 ·rw[Int.mul_emod,h0 k hk e];simp
 ·exact absurd (h.mem.2 ⟨k,hk,e⟩) hn
 ·rw[h.low k j hk (by omega)];simp
theorem qrR{p:Int}{R W:Nat}{F:Ent}{pv:List Nat}(hp:2≤p)(h:Rf R W F pv){c:Nat}:Ld p W (Spn p R W F) c↔c∈pv:=by
 constructor
 ·rintro⟨hc,x,hx,h1,h2⟩
  refine Classical.byContradiction fun hn=>h2 ?_
  exact h.low0 hx hc hn (fun k hk e=>h1 _ e) c (Nat.le_refl _)
 ·intro hm
  obtain⟨i,hi,rfl⟩:=h.mem.1 hm
  have hiR:=Nat.lt_of_lt_of_le hi h.len
  refine⟨h.lt i hi,F i,Spn.row hiR,fun j hj=>by rw[h.low i j hi hj];simp,?_⟩
  rw[h.one i i hiR hi,if_pos rfl,Int.emod_eq_of_lt (by omega) (by omega)]
  omega
theorem qr6{p:Int}{R W:Nat}{F:Ent}{pv:List Nat}(hp:2≤p)(h:Rf R W F pv):rkV p W (Spn p R W F)=pv.length:=by
 rw[← qhI h.nodup.1 h.nodup.2]
 exact qeG fun c _=>qrR hp h
noncomputable def rk(p:Int)(W:Nat)(rows:List Sim):Nat:=rkV p W (Spn p rows.length W (qe7 rows))
theorem Eqv.spn{p:Int}{R W:Nat}{A B:Ent}(h:Eqv p R W A B){x:Nat→Int}:Spn p R W A x↔Spn p R W B x:=⟨fun hx=>Spn.trans h.2 hx,fun hx=>Spn.trans h.1 hx⟩
theorem qlh{p:Int}{R W:Nat}{A:Ent}(hp:Pr p)(hA:EIn p R W A):(elS p R A W).2.length=rkV p W (Spn p R W A):=by
 obtain⟨h1,h2⟩:=qgr hp hA W (Nat.le_refl _)
 rw[← qr6 hp.1 h1]
 exact qlV fun x=>h2.spn.symm
theorem InR.spn{p:Int}{W:Nat}{A B:List Sim}(h:∀ r∈A,InR p W B r){x:Nat→Int}(hx:Spn p A.length W (qe7 A) x):Spn p B.length W (qe7 B) x :=
 Spn.trans (fun i hi=>by
  have e:qe7 A i=fun j=>(A[i]).getD j 0:=by funext j;unfold qe7;rw[qac hi]
  rw[e];exact h _ (List.getElem_mem hi)) hx
theorem qqY{p:Int}{W:Nat}{A B:List Sim}(h:∀ r∈A,InR p W B r):rk p W A≤rk p W B:=qnf fun x hx=>InR.spn h hx
theorem qpD{p:Int}{W:Nat}{A B:List Sim}(h:∀ r∈A,InR p W B r)(k:∀ r∈B,InR p W A r):rk p W A=rk p W B:=Nat.le_antisymm (qqY h) (qqY k)
theorem qsa{p:Int}{W:Nat}{A:List Sim}(hp:Pr p)(hA:Rws p W A):rk p W A≤A.length:=by
 have:=qlh hp (qkS hA)
 have h2:=(qgs hp.1 (qkS hA) W).2.1
 unfold rk;omega
theorem qqp{rows:List Sim}{x:Sim}{i:Nat}(hi:i<rows.length):qe7 (rows++[x]) i=qe7 rows i:=by
 have:(rows++[x]).getD i []=rows.getD i []:=by rw[List.getD_eq_getElem?_getD,List.getElem?_append_left hi,← List.getD_eq_getElem?_getD]
 funext j
 unfold qe7
 rw[this]
theorem qo6{rows:List Sim}{x:Sim}:qe7 (rows++[x]) rows.length=fun j=>x.getD j 0:=by
 have:(rows++[x]).getD rows.length []=x:=by rw[List.getD_eq_getElem?_getD,List.getElem?_append_right (Nat.le_refl _),Nat.sub_self];rfl
 funext j
 unfold qe7
 rw[this]
theorem Spn.app{p:Int}{W:Nat}{rows:List Sim}{x:Sim}{z:Nat→Int}(h:Spn p (rows++[x]).length W (qe7 (rows++[x])) z) :
  ∃(a:Int) (v:Nat→Int),Spn p rows.length W (qe7 rows) v∧∀ j,j<W→z j%p=(v j+a*x.getD j 0)%p:=by
 obtain⟨c,hc⟩:=h
 refine⟨c rows.length,fun j=>qaI c (fun i=>qe7 rows i j) rows.length,⟨c,fun j _=>rfl⟩,fun j hj=>?_⟩
 rw[← hc j hj,List.length_append,List.length_singleton]
 show(qaI c _ rows.length+c rows.length*qe7 (rows++[x]) rows.length j)%p=_
 rw[qo6,qaE (d:=c) (h:=fun i=>qe7 rows i j) fun i hi=>⟨rfl,by rw[qqp hi]⟩]
theorem qsJ{f:Nat→Prop}{n:Nat}(h:∃ j,j<n∧f j):∃ c,c<n∧f c∧∀ j,j<c→¬ f j:=by
 induction n with
 | zero=>obtain⟨j,hj,_⟩:=h;omega
 | succ n ih =>
  by_cases h2:∃ j,j<n∧f j
  ·obtain⟨c,h3,h4⟩:=ih h2;exact⟨c,by omega,h4⟩
  ·obtain⟨j,hj,hf⟩:=h
   have:j=n:=Classical.byContradiction fun e=>h2 ⟨j,by omega,hf⟩
   subst this
   exact⟨j,by omega,hf,fun k hk hf'=>h2 ⟨k,hk,hf'⟩⟩
theorem qr9{p a b:Int}(hp:Pr p)(ha:a%p≠0)(hb:b%p≠0):a*b%p≠0:=by
 intro h
 have hp2:2≤p:=hp.1
 have a1:=Int.emod_nonneg a (show p≠0 by omega)
 have a2:=Int.emod_lt_of_pos a (show 0<p by omega)
 have hi:=qm2 hp (a:=a%p) (by omega) (by omega)
 apply hb
 have e:b%p=(a%p*qhz (a%p) p)%p*b%p:=by rw[hi,Int.one_mul]
 generalize qhz (a%p) p=q at e
 have h1:a%p*q%p*b%p=a*q*b%p:=qde ((Int.emod_emod_of_dvd _ (Int.dvd_refl p)).trans (qde (Int.emod_emod_of_dvd _ (Int.dvd_refl p)) rfl)) rfl
 rw[e,h1,show a*q*b=q*(a*b) by rw[Int.mul_comm a q,Int.mul_assoc],qde (p:=p) (x:=q) (x':=q) rfl (h.trans (Int.zero_emod p).symm)]
 simp
theorem qrl{p:Int}{W:Nat}{rows:List Sim}{x:Sim}(hp:Pr p)(hr:Rws p W rows)(hx:¬ InR p W rows x):rk p W (rows++[x])=rk p W rows+1:=by
 have hp2:2≤p:=hp.1
 obtain⟨hrf,heq⟩:=qgr hp (qkS hr) W (Nat.le_refl _)
 have hrk:=qlh hp (qkS hr)
 generalize elS p rows.length (qe7 rows) W=S at hrf heq hrk
 obtain⟨F,pv⟩:=S
 simp only at hrf heq hrk
 -- what is left of x
 let s:Nat→Int:=fun j=>qaI (fun k=>-(x.getD (pv.getD k 0) 0)) (fun k=>F k j) pv.length
 let y:Nat→Int:=fun j=>x.getD j 0+s j
 have hs:Spn p rows.length W (qe7 rows) s:=Spn.sum (B:=F) fun i hi=>heq.1 i (Nat.lt_of_lt_of_le hi hrf.len)
 have hyp:∀ k,k<pv.length→y (pv.getD k 0)=0:=fun k hk=>by
  show x.getD (pv.getD k 0) 0+s (pv.getD k 0)=0
  have:s (pv.getD k 0)=-(x.getD (pv.getD k 0) 0):=by
   show qaI _ _ _=_
   rw[qaR,← qcF (g:=fun k=>-(x.getD (pv.getD k 0) 0)) hk]
   exact qaE fun i hi=>⟨hrf.one i k (Nat.lt_of_lt_of_le hi hrf.len) hk,rfl⟩
  omega
 have hne:∃ j,j<W∧y j%p≠0:=Classical.byContradiction fun hn=>hx <| by
  refine(hs.smul (-1)).congr fun j hj=>?_
  have hy0:y j%p=0:=Classical.byContradiction fun h=>hn ⟨j,hj,h⟩
  have:x.getD j 0=-1*s j+y j:=by show _=_+(_+_);omega
  rw[this,Int.add_emod,hy0,Int.add_zero,Int.emod_emod_of_dvd _ (Int.dvd_refl p)]
 obtain⟨c,hc,hyc,hcl⟩:=qsJ hne
 have hcl:∀ j,j<c→y j%p=0:=fun j hj=>Classical.byContradiction (hcl j hj)
 have hcn:c∉pv:=fun hm=>by
  obtain⟨k,hk,rfl⟩:=hrf.mem.1 hm
  exact hyc (by rw[hyp k hk];simp)
 have hxs:Spn p (rows++[x]).length W (qe7 (rows++[x])) (fun j=>x.getD j 0):=InR.mem (List.mem_append.2 (.inr (List.mem_singleton.2 rfl)))
 have hup:∀ z,Spn p rows.length W (qe7 rows) z→Spn p (rows++[x]).length W (qe7 (rows++[x])) z:=fun z hz=>InR.spn (fun r hr=>InR.mem (List.mem_append.2 (.inl hr))) hz
 have hmain:∀ d,d<W→(Ld p W (Spn p (rows++[x]).length W (qe7 (rows++[x]))) d↔d∈pv∨d=c):=fun d hd=>by
  constructor
  ·rintro⟨_,z,hz,z1,z2⟩
   refine Classical.byContradiction fun hn=>?_
   have hdn:d∉pv:=fun h=>hn (.inl h)
   have hdc:d≠c:=fun h=>hn (.inr h)
   obtain⟨a,v0,hv0,hzv⟩:=Spn.app hz
   -- z = v + a y
   let v:Nat→Int:=fun j=>v0 j+(-a)*s j
   have hv:Spn p rows.length W F v:=heq.spn.1 (hv0.add (hs.smul (-a)))
   have hzy:∀ j,j<W→z j%p=(v j+a*y j)%p:=fun j hj=>by
    rw[hzv j hj]
    congr 1
    show _=v0 j+-a*s j+a*(x.getD j 0+s j)
    rw[Int.mul_add,Int.neg_mul];omega
   have hv0':∀ k,k<pv.length→pv.getD k 0<d→v (pv.getD k 0)%p=0:=fun k hk hkd=>by
    have:=hzy _ (hrf.lt k hk)
    rw[hyp k hk,Int.mul_zero,Int.add_zero,z1 _ hkd] at this
    exact this.symm
   have hvl:=hrf.low0 hv hd hdn hv0'
   have hza:∀ j,j≤d→z j%p=a*y j%p:=fun j hj=>by
    rw[hzy j (by omega),Int.add_emod,hvl j hj,Int.zero_add,Int.emod_emod_of_dvd _ (Int.dvd_refl p)]
   have hyd:y d%p≠0:=fun h=>z2 (by rw[hza d (Nat.le_refl _),Int.mul_emod,h];simp)
   have ha:a%p≠0:=fun h=>z2 (by rw[hza d (Nat.le_refl _),Int.mul_emod,h];simp)
   have hcd:c<d:=by
    rcases Nat.lt_trichotomy c d with h | h | h
    ·exact h
    ·exact absurd h.symm hdc
    ·exact absurd (hcl d h) hyd
   have:=z1 c hcd
   rw[hza c (by omega)] at this
   exact qr9 hp ha hyc this
  ·rintro(hm | rfl)
   ·obtain⟨h1,z,hz,h2⟩:=(qrR hp2 hrf).2 hm
    exact⟨h1,z,hup z (heq.spn.2 hz),h2⟩
   ·exact⟨hd,y,hxs.add (hup s hs),hcl,hyc⟩
 unfold rk rkV
 rw[qeG hmain,qmE hc hcn,qhI hrf.nodup.1 hrf.nodup.2,hrk]
 rfl
theorem qpb{p:Int}{W:Nat}(hp:Pr p):∀ {l h:List Sim},Rws p W h→Rws p W l→rk p W (h++l)=rk p W h+(qq2 p W h l).length
 | [],h,_,_=>by simp[qq2]
 | x::xs,h,hh,hl=>by
  have hx:=hl x List.mem_cons_self
  have hxs:Rws p W xs:=fun r hr=>hl r (List.mem_cons_of_mem _ hr)
  have hhx:Rws p W (h++[x]):=fun r hr=>by
   rcases List.mem_append.1 hr with hr | hr
   ·exact hh r hr
   ·rw[List.mem_singleton] at hr;subst hr;exact hx
  unfold qq2
  by_cases hin:InR p W h x
  ·rw[if_pos hin,← qpb hp hh hxs]
   refine qpD (fun r hr=>?_) fun r hr=>?_
   ·rcases List.mem_append.1 hr with hr | hr
    ·exact InR.mem (List.mem_append.2 (.inl hr))
    ·rcases List.mem_cons.1 hr with rfl | hr
     ·exact InR.trans (fun r hr=>InR.mem (List.mem_append.2 (.inl hr))) hin
     ·exact InR.mem (List.mem_append.2 (.inr hr))
   ·rcases List.mem_append.1 hr with hr | hr
    ·exact InR.mem (List.mem_append.2 (.inl hr))
    ·exact InR.mem (List.mem_append.2 (.inr (List.mem_cons_of_mem _ hr)))
  ·rw[if_neg hin,List.length_cons,show h++x::xs=(h++[x])++xs by simp,qpb hp hhx hxs,qrl hp hh hin]
   omega
end VeT
open Go Go.Proofs Ve
namespace VeT
theorem Spn.nil_at{p:Int}{R W:Nat}{A:Ent}{x:Nat→Int}{j:Nat}(hj:j<W)(h:∀ i,i<R→A i j=0)(hx:Spn p R W A x):x j%p=0:=by
 obtain⟨c,hc⟩:=hx
 rw[← hc j hj]
 exact qk5 fun i hi=>by rw[h i hi,Int.mul_zero];simp
theorem qpq{p:Int}{R W:Nat}{pv:List Nat}{F:Ent}(hrf:Rf R W F pv){n j:Nat}(hj:j<W)(hjp:j∉pv)(hn:n≤j):∀ x∈qgw p W pv F n,x.getD j 0=0:=by
 induction n with
 | zero=>intro x hx;cases hx
 | succ n ih =>
  intro x hx
  rw[qgw,List.mem_append] at hx
  rcases hx with hx | hx
  ·exact ih (by omega) x hx
  ·split at hx
   ·cases hx
   ·rw[List.mem_singleton] at hx
    subst hx
    rw[qeX hrf hj hjp (by omega) _ (Nat.le_refl _),if_neg (by omega)]
theorem qqL{p:Int}{R W:Nat}{pv:List Nat}{F:Ent}(hp:Pr p)(hrf:Rf R W F pv){n:Nat}(hn:n<W)(hnp:n∉pv):¬ InR p W (qgw p W pv F n) (qkh p W pv F n pv.length):=fun h=>by
 have hp2:2≤p:=hp.1
 have h0:=Spn.nil_at hn (fun i hi=>by
  unfold qe7
  rw[qac hi]
  exact qpq hrf hn hnp (Nat.le_refl _) _ (List.getElem_mem hi)) h
 rw[qeX hrf hn hnp hn _ (Nat.le_refl _),if_pos rfl,Int.emod_eq_of_lt (by omega) (by omega)] at h0
 omega
theorem qpi{p:Int}{R W:Nat}{pv:List Nat}{F:Ent}(hp:Pr p)(hrf:Rf R W F pv):∀ {n:Nat},n≤W→rk p W (qgw p W pv F n)=(qgw p W pv F n).length∧(qgw p W pv F n).length+cnt (fun c=>c∈pv) n=n
 | 0,_=>by
  refine⟨?_,rfl⟩
  have:=qsa (W:=W) hp (A:=qgw p W pv F 0) (fun x hx=>by cases hx)
  exact Nat.le_antisymm this (Nat.zero_le _)
 | n+1,hn=>by
  obtain⟨h1,h2⟩:=qpi hp hrf (n:=n) (by omega)
  have hr:Rws p W (qgw p W pv F n):=fun x hx=>qgk hp.1 hx
  unfold cnt
  rw[qgw]
  by_cases h:n∈pv
  ·rw[if_pos h,if_pos h,List.append_nil]
   exact⟨h1,by omega⟩
  ·rw[if_neg h,if_neg h,qrl hp hr (qqL hp hrf (by omega) h),List.length_append,List.length_singleton]
   exact⟨by omega,by omega⟩
noncomputable def rkM(p:Int)(R W:Nat)(cells:Sim):Nat:=(elS p R (qcE cells W) W).2.length
theorem qpr{p:Int}{R W:Nat}{cells:Sim}(hp:Pr p)(hl:cells.length=R*W)(he:qaD cells p):rk p W (qjU p R W cells)=(qjU p R W cells).length∧(qjU p R W cells).length+rkM p R W cells=W:=by
 obtain⟨hrf,_⟩:=qgr hp (qb8 he hl) W (Nat.le_refl _)
 obtain⟨h1,h2⟩:=qpi hp hrf (Nat.le_refl W)
 rw[qhI hrf.nodup.1 hrf.nodup.2] at h2
 exact⟨h1,h2⟩
theorem qjP{A:Ent}{R W i j:Nat}(hi:i<R)(hj:j<W):qe7 (qaJ A R W) i j=A i j:=by
 unfold qe7
 rw[List.getD_eq_getElem?_getD (l:=qaJ A R W),qb4 hi]
 show((List.range W).map (A i)).getD j 0=_
 rw[List.getD_eq_getElem?_getD,qgH hj];rfl
theorem Spn.ent{p:Int}{R W:Nat}{A B:Ent}(h:∀ i j,i<R→j<W→A i j=B i j){x:Nat→Int}(hx:Spn p R W A x):Spn p R W B x:=by
 obtain⟨c,hc⟩:=hx
 exact⟨c,fun j hj=>(by rw[← hc j hj];congr 1;exact qaE fun i hi=>⟨rfl,(h i j hi hj).symm⟩)⟩
theorem qnI{p:Int}{R W:Nat}{A:Ent}:rk p W (qaJ A R W)=rkV p W (Spn p R W A):=by
 unfold rk
 rw[qaP]
 exact qlV fun x=>⟨Spn.ent fun i j hi hj=>qjP hi hj,Spn.ent fun i j hi hj=>(qjP hi hj).symm⟩
theorem qpV{p:Int}{R W:Nat}{A:Ent}(hA:EIn p R W A):Rws p W (qaJ A R W):=fun x hx=>by
 obtain⟨i,hi,rfl⟩:=List.mem_map.1 hx
 refine⟨by simp,fun y hy=>?_⟩
 obtain⟨j,hj,rfl⟩:=List.mem_map.1 hy
 exact hA i j (List.mem_range.1 hi) (List.mem_range.1 hj)
theorem qj6{p:Int}{R W:Nat}{A:Ent}(hp:Pr p)(hA:EIn p R W A):rkV p R (Spn p W R fun j i=>A i j)≤rkV p W (Spn p R W A):=by
 obtain⟨hrf,heq⟩:=qgr hp hA W (Nat.le_refl _)
 have hrk:=qlh hp hA
 generalize elS p R A W=S at hrf heq hrk
 obtain⟨F,pv⟩:=S
 simp only at hrf heq hrk
 rw[← hrk]
 let B:Ent:=fun k i=>A i (pv.getD k 0)
 have hB:EIn p pv.length R B:=fun k i hk hi=>hA i _ hi (hrf.lt k hk)
 have h1:rkV p R (Spn p W R fun j i=>A i j)≤rkV p R (Spn p pv.length R B):=qnf fun x hx=>by
  refine Spn.trans (B:=fun j i=>A i j) (R':=W) (fun j hj=>⟨fun k=>F k j,fun i hi=>?_⟩) hx
  have:=hrf.coef (heq.1 i hi |> fun _=>heq.spn.1 (Spn.row hi)) hj
  show qaI (fun k=>F k j) (fun k=>A i (pv.getD k 0)) pv.length%p=A i j%p
  rw[this,qaR]
 have h2:=qsa hp (qpV hB)
 rw[qnI,qaP] at h2
 omega
theorem qrw{p:Int}{R W:Nat}{A:Ent}(hp:Pr p)(hA:EIn p R W A):rkV p R (Spn p W R fun j i=>A i j)=rkV p W (Spn p R W A) :=
 Nat.le_antisymm (qj6 hp hA) (qj6 (A:=fun j i=>A i j) hp fun i j hi hj=>hA j i hj hi)
theorem qqA{p:Int}{W C:Nat}{cells:Sim}(hp:Pr p)(hl:cells.length=W*C)(he:qaD cells p):rk p W (qct W C cells)=rkM p W C cells:=by
 have hA:=qb8 he hl
 have e:qct W C cells=qaJ (fun j i=>qcE cells C i j) C W:=rfl
 rw[e,qnI,qrw hp hA]
 exact(qlh hp hA).symm
theorem qrG{p:Int}{W C R:Nat}{cb ck:Sim}(hp:Pr p)(hl:cb.length=W*C)(he:qaD cb p)(hlk:ck.length=R*W)(hek:qaD ck p)
  (h0:∀ j,j<C→∀ i,i<R→qaI (fun a=>qcE cb C a j) (qcE ck W i) W%p=0) :
  (qq2 p W (qct W C cb) (qjU p R W ck)).length+rkM p W C cb+rkM p R W ck=W:=by
 have hcr:=(qox hl he).2.2
 have hkr:Rws p W (qjU p R W ck):=fun x hx=>qgk hp.1 hx
 have h1:=qpb hp (l:=qjU p R W ck) hcr hkr
 have h2:rk p W (qct W C cb++qjU p R W ck)=rk p W (qjU p R W ck):=qpD (fun r hr=>by
  rcases List.mem_append.1 hr with hr | hr
  ·obtain⟨j,hj,rfl⟩:=List.mem_map.1 hr
   have hj:=List.mem_range.1 hj
   refine qoO hp hlk hek fun i hi=>?_
   refine Eq.trans (congrArg (·%p) (qaE fun a ha=>⟨?_,rfl⟩)) (h0 j hj i hi)
   show((List.range W).map fun a=>cb.getD (a*C+j) 0).getD a 0=cb.getD (a*C+j) 0
   rw[List.getD_eq_getElem?_getD,List.getElem?_map,List.getElem?_range ha];rfl
  ·exact InR.mem hr) fun r hr=>InR.mem (List.mem_append.2 (.inr hr))
 have h3:=qqA hp hl he
 obtain⟨h4,h5⟩:=qpr hp hlk hek
 omega
end VeT
open Go Go.Proofs Ve
namespace VeT
def sN(f:Nat→Int):Nat→Int
 | 0=>0
 | n+1=>sN f n+f n
theorem qiJ{c g:Nat→Int}:∀ {n:Nat},qaI c g n=sN (fun i=>c i*g i) n
 | 0=>rfl
 | n+1=>by show qaI c g n+c n*g n=_;rw[qiJ];rfl
theorem qf5{f g:Nat→Int}:∀ {n:Nat},(∀ i,i<n→f i=g i)→sN f n=sN g n
 | 0,_=>rfl
 | n+1,h=>by unfold sN;rw[qf5 fun i hi=>h i (by omega),h n (by omega)]
theorem qeW{f:Nat→Int}:∀ {n:Nat},(∀ i,i<n→f i=0)→sN f n=0
 | 0,_=>rfl
 | n+1,h=>by unfold sN;rw[qeW fun i hi=>h i (by omega),h n (by omega)];rfl
theorem qrk{f g:Nat→Int}:∀ {n:Nat},sN (fun i=>f i+g i) n=sN f n+sN g n
 | 0=>rfl
 | n+1=>by unfold sN;rw[qrk];omega
theorem qks{f:Nat→Int}{m:Nat}:∀ {n:Nat},sN f (m+n)=sN f m+sN (fun i=>f (m+i)) n
 | 0=>by simp[sN]
 | n+1=>by
  show sN f (m+n)+f (m+n)=sN f m+(sN (fun i=>f (m+i)) n+f (m+n))
  rw[qks];omega
theorem qpf{f:Nat→Nat→Int}{W:Nat}:∀ {N:Nat},sN (fun a=>sN (fun t=>f a t) N) W=sN (fun t=>sN (fun a=>f a t) W) N
 | 0=>qeW fun _ _=>rfl
 | N+1=>by
  have:sN (fun a=>sN (fun t=>f a t) (N+1)) W=sN (fun a=>sN (fun t=>f a t) N+f a N) W:=rfl
  rw[this,qrk,qpf];rfl
theorem qnz{p:Int}{f g:Nat→Int}:∀ {n:Nat},(∀ i,i<n→f i%p=g i%p)→sN f n%p=sN g n%p
 | 0,_=>rfl
 | n+1,h=>by unfold sN;rw[Int.add_emod,qnz fun i hi=>h i (by omega),h n (by omega),← Int.add_emod]
theorem qpd{f:Nat→Int}{k:Int}:∀ {n:Nat},sN (fun i=>k*f i) n=k*sN f n
 | 0=>by simp[sN]
 | n+1=>by unfold sN;rw[qpd,Int.mul_add]
theorem qnA{f:Nat→Int}{L n W:Nat}(hW:L+n≤W)(h:∀ i,i<W→¬ (L≤i∧i<L+n)→f i=0):sN f W=sN (fun b=>f (L+b)) n:=by
 obtain⟨r,rfl⟩:∃ r,W=L+n+r:=⟨W-(L+n),by omega⟩
 rw[qks,qks,qeW (n:=L) fun i hi=>h i (by omega) (by omega),qeW (n:=r) fun i hi=>h _ (by omega) (by omega)]
 omega
theorem qpu{P:Nat→Prop}[DecidablePred P]{v:Int}{u:Nat}:∀ {N:Nat},u<N→P u→(∀ t,t<N→P t→t=u)→sN (fun t=>if P t then v else 0) N=v
 | 0,hu,_,_=>by omega
 | N+1,hu,hp,h=>by
  show sN (fun t=>if P t then v else 0) N+(if P N then v else 0)=v
  by_cases hN:u=N
  ·subst hN
   rw[if_pos hp,qeW fun t ht=>if_neg fun hpt=>by have:=h t (by omega) hpt;omega];omega
  ·rw[qpu (u:=u) (by omega) hp fun t ht=>h t (by omega),if_neg fun hpt=>hN (h N (by omega) hpt).symm];omega
theorem qqO{f:Nat→Int}{L n:Nat→Nat}{N W:Nat}(hW:∀ t,t<N→L t+n t≤W)(hd:∀ t u i,t<N→u<N→L t≤i→i<L t+n t→L u≤i→i<L u+n u→t=u)
  (h0:∀ i,i<W→(∀ t,t<N→¬ (L t≤i∧i<L t+n t))→f i=0):sN f W=sN (fun t=>sN (fun b=>f (L t+b)) (n t)) N:=by
 classical
 have e:sN f W=sN (fun a=>sN (fun t=>if L t≤a∧a<L t+n t then f a else 0) N) W:=qf5 fun a ha=>by
  by_cases he:∃ t,t<N∧(L t≤a∧a<L t+n t)
  ·obtain⟨u,hu,hau⟩:=he
   exact(qpu hu hau fun t ht hat=>hd t u a ht hu hat.1 hat.2 hau.1 hau.2).symm
  ·rw[h0 a ha fun t ht h=>he ⟨t,ht,h⟩]
   exact(qeW fun t ht=>by split<;>rfl).symm
 rw[e,qpf]
 refine qf5 fun t ht=>?_
 rw[qnA (hW t ht) fun i _ h=>if_neg h]
 exact qf5 fun b hb=>if_pos ⟨by omega,by omega⟩
theorem qm1{c:List Sim}{st:Sim}(hst:∀ x∈st,0≤x∧x≤3){d:Int}{r:Nat}:∀ {n:Nat},r<(SDn c st d n).toNat→∃ s,s<n∧((c.getD s []).length:Int)=d+1∧∃ i,i<(st.getD s 0).toNat∧r=(FC c st s).toNat+i
 | 0,h=>by simp[SDn,qav] at h
 | n+1,h=>by
  have h1:=qgg (c:=c) (d:=d) hst (n:=n)
  have h2:=qcC hst n
  by_cases hr:r<(SDn c st d n).toNat
  ·obtain⟨s,hs,h3⟩:=qm1 hst hr;exact⟨s,by omega,h3⟩
  ·rw[qel] at h
   split at h
   ·rename_i hd
    have e:FC c st n=SDn c st d n:=by unfold FC;rw[show((c.getD n []).length:Int)-1=d by omega]
    exact⟨n,by omega,hd,r-(SDn c st d n).toNat,by omega,by rw[e];omega⟩
   ·omega
theorem qiE{c:List Sim}(h:VC c){a b:Nat}(ha:a<c.length)(hb:b<c.length)(e:c.getD a []=c.getD b []):a=b:=by
 have key:∀ {a b:Nat},a<b→b<c.length→c.getD a []=c.getD b []→False:=fun {a b} hab hb e=>by
  have:=h.srt a b hb hab
  rw[qac (by omega),qac hb] at e
  rw[e,qco.2 rfl] at this
  omega
 rcases Nat.lt_trichotomy a b with h | h | h
 ·exact absurd e fun e=>key h hb e
 ·exact h
 ·exact absurd e.symm fun e=>key h ha e
theorem qse{c:List Sim}{p:Int}{st:Sim}{ms:List Mat}{k i j:Nat}(hij:i<j)(h1:Sq c p st ms k i (j-1))(h2:Sq c p st ms k j i):fc c (fc c k i) (j-1)=fc c (fc c k j) i:=by
 have a:=qaW h1.v.1 h1.fk h1.hj
 have b:=qaW h2.v.1 h2.fk h2.hj
 refine qiE h1.v.1 a.2.1 b.2.1 ?_
 rw[a.2.2,b.2.2,(qaW h1.v.1 h1.kl h1.hi).2.2,(qaW h2.v.1 h2.kl h2.hi).2.2]
 exact(qfp hij).symm
noncomputable def qmY(c:List Sim)(p:Int)(st:Sim)(ms:List Mat)(s i g t u:Nat):Int :=
 if (FC c st (fc c (fc c s t) u)).toNat≤g∧g<(FC c st (fc c (fc c s t) u)).toNat+(st.getD (fc c (fc c s t) u) 0).toNat then
  sgn p t*sgn p u*qaI (fun b=>(mp c ms s t).2.2.2.1.getD (i*(mp c ms s t).2.2.1.toNat+b) 0) (fun b=>(mp c ms (fc c s t) u).2.2.2.1.getD (b*(mp c ms (fc c s t) u).2.2.1.toNat+(g-(FC c st (fc c (fc c s t) u)).toNat)) 0) (mp c ms s t).2.2.1.toNat
 else 0
theorem qqe{x a y b p:Int}:(x*a%p)*(y*b%p)%p=b*a*(y*x)%p:=by
 rw[← Int.mul_emod]
 congr 1
 rw[Int.mul_assoc,Int.mul_comm b a,Int.mul_assoc,Int.mul_left_comm]
 congr 1
 rw[Int.mul_comm y b,Int.mul_left_comm x b,Int.mul_comm x y]
theorem qjC{c:List Sim}{ms:List Mat}(h:qbX c ms=none){k i j:Nat}(hk:k<c.length)(h3:3≤(c.getD k []).length)(hij:i<j)(hj:j<(c.getD k []).length):two c ms k i (j-1)=two c ms k j i:=Classical.byContradiction fun hne=>by
 have hpi:Pi c ms k i:=⟨j,by omega,by omega,hne⟩
 have hpk:Pk c ms k:=⟨h3,i,by omega,by omega,hpi⟩
 have:=qfN h (fun _ _ _=>some ⟨.nil,()⟩) none
 obtain⟨k',h1⟩:=qb2 (P:=Pk c ms) (a:=0) (d:=c.length) ⟨k,by omega,by omega,hpk⟩
 unfold qbX at h
 rw[h1] at h
 simp only[Option.bind_some] at h
 obtain⟨i',h2⟩:=qb2 (qay h1).2.2.2
 rw[h2] at h
 simp only[Option.bind_some] at h
 obtain⟨j',h3⟩:=qb2 (qay h2).2.2
 rw[h3] at h
 cases h
theorem qqc{c:List Sim}{p:Int}{st:Sim}{ms:List Mat}(h:VS c p st ms)(hw:qbX c ms=none){s i g a b:Nat}(hs:s<c.length)(h3:3≤(c.getD s []).length)(hi:i<(st.getD s 0).toNat)(hab:a<b)(hb:b<(c.getD s []).length) :
  (qmY c p st ms s i g a (b-1)+qmY c p st ms s i g b a)%p=0:=by
 have s1:Sq c p st ms s a (b-1):=⟨hs,h3,by omega,by omega,h⟩
 have s2:Sq c p st ms s b a:=⟨hs,h3,by omega,by omega,h⟩
 have e:=qse hab s1 s2
 have ht:=qjC hw hs h3 hab hb
 have hp:2≤p:=h.2.1.1
 unfold qmY
 rw[e]
 split
 ·rename_i hg
  obtain⟨R1,K1,em1,hR1,hK1,_⟩:=s1.b1.nat
  have m1:=(h.map s1.kl s1.hi).2
  have m2:=(h.map s2.kl s2.hi).2
  have n1:=(h.map s1.fk s1.hj).2
  have n2:=(h.map s2.fk s2.hj).2
  rw[e] at n1
  have hc:=congrArg (fun m:Mat=>m.2.2.2.1) ht
  unfold two qdH at hc
  simp only at hc
  rw[m1.2.1,m2.2.1,n1.2.2.2,n2.2.2.2,m1.2.2.1,m2.2.2.1] at hc
  generalize hG:g-(FC c st (fc c (fc c s b) a)).toNat=g' at *
  have hg':g'<(st.getD (fc c (fc c s b) a) 0).toNat:=by omega
  have b1:=s1.b1.2.1
  rw[m1.2.2.1] at b1
  have b2:=s1.b2.2.2.1
  rw[n1.2.2.2] at b2
  have hRC:=qcs (R:=(st.getD s 0).toNat) (C:=(st.getD (fc c (fc c s b) a) 0).toNat) (by omega) (by omega)
  have f1:=(qdD (A:=qiF p (mp c ms s a).2.2.2.1 (mp c ms (fc c s a) (b-1)).2.2.2.1 (mp c ms s a).2.2.1.toNat (st.getD (fc c (fc c s b) a) 0).toNat) hi hg' (by omega)).2
  have f2:=(qdD (A:=qiF p (mp c ms s b).2.2.2.1 (mp c ms (fc c s b) a).2.2.2.1 (mp c ms s b).2.2.1.toNat (st.getD (fc c (fc c s b) a) 0).toNat) hi hg' (by omega)).2
  rw[hc,f2] at f1
  have f1:=Option.some.inj f1
  unfold qiF at f1
  rw[n1.2.2.2,n2.2.2.2]
  generalize qaI (fun l=>(mp c ms s a).2.2.2.1.getD (i*(mp c ms s a).2.2.1.toNat+l) 0) _ _=S1 at f1 ⊢
  generalize qaI (fun l=>(mp c ms s b).2.2.2.1.getD (i*(mp c ms s b).2.2.1.toNat+l) 0) _ _=S2 at f1 ⊢
  have hx:sgn p a*sgn p (b-1)*S1+sgn p b*sgn p a*S2=sgn p a*(sgn p (b-1)*S1+sgn p b*S2):=by
   rw[Int.mul_add,Int.mul_assoc,Int.mul_comm (sgn p b) (sgn p a),Int.mul_assoc]
  rw[hx,Int.mul_emod]
  have hz:(sgn p (b-1)*S1+sgn p b*S2)%p=0:=by
   unfold sgn
   by_cases hpar:b%2=0
   ·rw[if_neg (by omega),if_pos hpar,Int.one_mul,Int.sub_mul,Int.one_mul]
    rw[show p*S1-S1+S2=p*S1+(S2-S1) by omega,Int.mul_add_emod_self_left]
    rw[Int.sub_emod,f1];simp
   ·rw[if_pos (by omega),if_neg hpar,Int.one_mul,Int.sub_mul,Int.one_mul]
    rw[show S1+(p*S2-S2)=p*S2+(S1-S2) by omega,Int.mul_add_emod_self_left]
    rw[Int.sub_emod,f1];simp
  rw[hz];simp
 ·simp
theorem qrr{a b p:Int}(ha:a%p=0)(hb:b%p=0):(a+b)%p=0:=by rw[Int.add_emod,ha,hb];simp
theorem qqi{c:List Sim}{p:Int}{st:Sim}{ms:List Mat}(h:VS c p st ms){k:Int}(hk:1≤k){s i g t:Nat}(hs:s<c.length)(hd:((c.getD s []).length:Int)=k+2)(ht:t<(qaH c s).length)
    (hi:i<(st.getD s 0).toNat) (hg:g<(SD c st (k-1)).toNat) :
    sN (fun b=>(qdO c p st ms (k-1)).getD (((FC c st (fc c s t)).toNat+b)*(SD c st (k-1)).toNat+g) 0*(qdO c p st ms k).getD (((FC c st s).toNat+i)*(SD c st k).toNat+((FC c st (fc c s t)).toNat+b)) 0) (st.getD (fc c s t) 0).toNat%p
      = sN (qmY c p st ms s i g t) (qaH c (fc c s t)).length%p:=by
  have hst:=h.2.2.1.2.1
  obtain⟨g1,g2,g3,g4,g5,g6,g7⟩:=qbQ h hs hd ht
  have hdf:((c.getD (fc c s t) []).length:Int)=(k-1)+2:=by omega
  have hck:∀ b,b<(st.getD (fc c s t) 0).toNat→(qdO c p st ms k).getD (((FC c st s).toNat+i)*(SD c st k).toNat+((FC c st (fc c s t)).toNat+b)) 0=(mp c ms s t).2.2.2.1.getD (i*(mp c ms s t).2.2.1.toNat+b) 0*sgn p t%p:=fun b hb=>qkz h (by omega) hs hd ht hi hb
  by_cases he:∃ u,u<(qaH c (fc c s t)).length∧((FC c st (fc c (fc c s t) u)).toNat≤g∧g<(FC c st (fc c (fc c s t) u)).toNat+(st.getD (fc c (fc c s t) u) 0).toNat)
  · obtain⟨u,hu,hgu⟩:=he
    have huniq:∀ v,v<(qaH c (fc c s t)).length→((FC c st (fc c (fc c s t) v)).toNat≤g∧g<(FC c st (fc c (fc c s t) v)).toNat+(st.getD (fc c (fc c s t) v) 0).toNat)→v=u:=fun v hv hgv=>by
      obtain⟨_,_,w3,w4,_⟩:=qbQ h g3 hdf hv
      obtain⟨_,_,z3,z4,_⟩:=qbQ h g3 hdf hu
      obtain⟨e,_⟩:=qgM (c:=c) (s:=fc c (fc c s t) v) (s':=fc c (fc c s t) u) (i:=g-(FC c st (fc c (fc c s t) v)).toNat) (i':=g-(FC c st (fc c (fc c s t) u)).toNat) hst (by omega) (by omega) (by omega) (by omega)
      exact qny h.1 g3 hv hu e
    have hR:sN (qmY c p st ms s i g t) (qaH c (fc c s t)).length=qmY c p st ms s i g t u:=by
      classical
      have:sN (qmY c p st ms s i g t) (qaH c (fc c s t)).length=sN (fun v=>if v=u then qmY c p st ms s i g t u else 0) (qaH c (fc c s t)).length:=qf5 fun v hv=>by
        by_cases e:v=u
        · subst e;rw[if_pos rfl]
        · rw[if_neg e]
          unfold qmY
          exact if_neg fun hgv=>e (huniq v hv hgv)
      rw[this];exact qpu hu rfl fun t _ e=>e
    rw[hR]
    unfold qmY
    rw[if_pos hgu,g2,qiJ,← qpd]
    refine qnz fun b hb=>?_
    have hcb:=qkz h (k:=k-1) (by omega) g3 hdf hu (i:=b) (j:=g-(FC c st (fc c (fc c s t) u)).toNat) hb (by omega)
    rw[show(FC c st (fc c (fc c s t) u)).toNat+(g-(FC c st (fc c (fc c s t) u)).toNat)=g by omega] at hcb
    rw[hcb,hck b hb,qqe]
    rw[g2]
  · have h1:sN (qmY c p st ms s i g t) (qaH c (fc c s t)).length=0:=qeW fun u hu=>by
      unfold qmY
      exact if_neg fun hgu=>he ⟨u,hu,hgu⟩
    rw[h1]
    rw[qeW fun b hb=>by
      rw[qkZ h (k:=k-1) g3 hdf hb hg fun u hu hgu=>he ⟨u,hu,hgu⟩,Int.zero_mul]]
theorem qrZ{c:List Sim}{p:Int}{st:Sim}{ms:List Mat}(h:VS c p st ms)(hw:qbX c ms=none){k:Int}(hk:1≤k){r g:Nat}(hr:r<(SD c st (k+1)).toNat)(hg:g<(SD c st (k-1)).toNat) :
    qaI (fun a=>(qdO c p st ms (k-1)).getD (a*(SD c st (k-1)).toNat+g) 0) (fun a=>(qdO c p st ms k).getD (r*(SD c st k).toNat+a) 0) (SD c st k).toNat%p=0:=by
  have hst:=h.2.2.1.2.1
  rw[qn9] at hr
  obtain⟨s,hs,hd,i,hi,rfl⟩:=qm1 hst hr
  have hd:((c.getD s []).length:Int)=k+2:=by omega
  have hfl:=qaz (c:=c) (k:=s)
  rw[if_pos (by omega)] at hfl
  have h4:=h.1.len4 hs
  rw[qiJ,qqO (L:=fun t=>(FC c st (fc c s t)).toNat) (n:=fun t=>(st.getD (fc c s t) 0).toNat) (N:=(qaH c s).length) (fun t ht=>by
      obtain⟨g1,g2,g3,g4,g5,g6,g7⟩:=qbQ h hs hd ht
      show(FC c st (fc c s t)).toNat+(st.getD (fc c s t) 0).toNat≤_
      have:=qcC hst (fc c s t)
      omega) (fun t u a ht hu h1 h2 h3 h4=>by
      obtain⟨_,_,w3,w4,_⟩:=qbQ h hs hd ht
      obtain⟨_,_,z3,z4,_⟩:=qbQ h hs hd hu
      obtain⟨e,_⟩:=qgM (c:=c) (s:=fc c s t) (s':=fc c s u) (i:=a-(FC c st (fc c s t)).toNat) (i':=a-(FC c st (fc c s u)).toNat) hst (by omega) (by omega) (by omega) (by omega)
      exact qny h.1 hs ht hu e) (fun a ha hno=>by
      rw[qkZ h hs hd hi ha hno,Int.mul_zero])]
  have e1:sN (fun t=>sN (fun b=>(qdO c p st ms (k-1)).getD (((FC c st (fc c s t)).toNat+b)*(SD c st (k-1)).toNat+g) 0*(qdO c p st ms k).getD (((FC c st s).toNat+i)*(SD c st k).toNat+((FC c st (fc c s t)).toNat+b)) 0) (st.getD (fc c s t) 0).toNat) (qaH c s).length%p
      = sN (fun t=>sN (qmY c p st ms s i g t) ((c.getD s []).length-1)) (qaH c s).length%p:=qnz fun t ht=>by
    rw[qqi h hk hs hd ht hi hg]
    obtain⟨g1,g2,g3,g4,g5,g6,g7⟩:=qbQ h hs hd ht
    have hfl2:=qaz (c:=c) (k:=fc c s t)
    rw[if_pos (by omega)] at hfl2
    rw[hfl2,show(c.getD (fc c s t) []).length=(c.getD s []).length-1 by omega]
  refine e1.trans ?_
  rw[hfl]
  have pr:∀ a b,a<b→b<(c.getD s []).length→(qmY c p st ms s i g a (b-1)+qmY c p st ms s i g b a)%p=0:=fun a b hab hb=>qqc h hw hs (by omega) hi hab hb
  rcases(show(c.getD s []).length=3∨(c.getD s []).length=4 by omega) with e | e
  · rw[e] at pr ⊢
    have p1:=pr 0 1 (by omega) (by omega)
    have p2:=pr 0 2 (by omega) (by omega)
    have p3:=pr 1 2 (by omega) (by omega)
    simp only[show(1:Nat)-1=0 from rfl,show(2:Nat)-1=1 from rfl,show(3:Nat)-1=2 from rfl] at p1 p2 p3 ⊢
    refine Eq.trans (congrArg (·%p) ?_) (qrr (qrr p1 p2) p3)
    simp only[sN]
    omega
  · rw[e] at pr ⊢
    have p1:=pr 0 1 (by omega) (by omega)
    have p2:=pr 0 2 (by omega) (by omega)
    have p3:=pr 1 2 (by omega) (by omega)
    have p4:=pr 0 3 (by omega) (by omega)
    have p5:=pr 1 3 (by omega) (by omega)
    have p6:=pr 2 3 (by omega) (by omega)
    simp only[show(1:Nat)-1=0 from rfl,show(2:Nat)-1=1 from rfl,show(3:Nat)-1=2 from rfl,show(4:Nat)-1=3 from rfl] at p1 p2 p3 p4 p5 p6 ⊢
    refine Eq.trans (congrArg (·%p) ?_) (qrr (qrr (qrr p1 p2) (qrr p3 p4)) (qrr p5 p6))
    simp only[sN]
    omega
end VeT
open Go Go.Proofs Ve
namespace VeT
def mE(m:Mat):Ent:=qcE m.2.2.2.1 m.2.2.1.toNat
theorem VM.pos{m:Mat}(h:VM m):2≤m.1:=h.1.1
theorem VM.num{m:Mat}(h:VM m):m.2.2.2.1.length=m.2.1.toNat*m.2.2.1.toNat:=by
 obtain⟨R,K,e,_,_,hl⟩:=h.nat
 rw[e] at hl ⊢
 simpa using hl
theorem qsO{m:Mat}(h:VM m){i j:Nat}(hi:i<m.2.1.toNat)(hj:j<m.2.2.1.toNat):0≤mE m i j∧mE m i j≤m.1-1:=qb8 h.2.2.2.2 h.num i j hi hj
theorem qrf{m:Mat}(h:VM m){i j:Nat}(hi:i<m.2.1.toNat)(hj:j<m.2.2.1.toNat):mE m i j%m.1=mE m i j:=by
 have:=qsO h hi hj
 have:=h.pos
 exact Int.emod_eq_of_lt (by omega) (by omega)
theorem qkQ{a b:Mat}(ha:VM a)(hb:VM b)(h1:a.1=b.1)(h2:a.2.1=b.2.1)(h3:a.2.2.1=b.2.2.1)(h:∀ i j,i<a.2.1.toNat→j<a.2.2.1.toNat→mE a i j=mE b i j):a=b:=by
 refine qew.2 ⟨h1,h2,h3,?_⟩
 have ea:=qfX ha.num
 have eb:=qfX hb.num
 rw[← h2,← h3] at eb
 rw[← ea,← eb]
 refine qaK fun i j hi hj=>?_
 have:=h i j hi hj
 unfold mE at this
 rwa [← h3] at this
theorem qhm{a b:Mat}{i j:Nat}(hi:i<a.2.1.toNat)(hj:j<b.2.2.1.toNat):mE (qdH a b) i j=qaI (mE a i) (fun l=>mE b l j) a.2.2.1.toNat%a.1:=by
 show qcE (qas (qiF a.1 a.2.2.2.1 b.2.2.2.1 a.2.2.1.toNat b.2.2.1.toNat) b.2.2.1.toNat a.2.1.toNat) b.2.2.1.toNat i j=_
 rw[qbE hi hj];rfl
theorem qm0{p:Int}{n i j:Nat}(hi:i<n)(hj:j<n):mE (qbf p n) i j=if i=j then 1 else 0:=by
 show qcE (qas qbp n n) ((n:Int)).toNat i j=_
 rw[Int.toNat_natCast,qbE hi hj];rfl
theorem qqu{p:Int}{n i j:Nat}(hi:i<n)(hj:j<n):mE (qbf p n) i j=if j=i then 1 else 0:=by
 rw[qm0 hi hj]
 by_cases e:i=j
 ·rw[if_pos e,if_pos e.symm]
 ·rw[if_neg e,if_neg fun h=>e h.symm]
theorem qiK{p:Int}{c g h:Nat→Int}{n:Nat}(H:∀ i,i<n→c i%p=g i%p):qaI c h n%p=qaI g h n%p:=by
 rw[qaR,qaR (c:=g)];exact qch H
theorem qdV{a b d:Mat}(ha:VM a)(hb:VM b)(hd:VM d)(h1:a.2.2.1=b.2.1)(h2:b.2.2.1=d.2.1)(e1:a.1=b.1):qdH (qdH a b) d=qdH a (qdH b d):=by
 refine qkQ (qc6 (qc6 ha hb) hd) (qc6 ha (qc6 hb hd)) rfl rfl rfl fun i j hi hj=>?_
 have hi':i<a.2.1.toNat:=hi
 have hj':j<d.2.2.1.toNat:=hj
 rw[qhm (a:=qdH a b) (b:=d) hi hj',qhm (a:=a) (b:=qdH b d) hi' hj']
 show qaI (mE (qdH a b) i) (fun l=>mE d l j) b.2.2.1.toNat%a.1=qaI (mE a i) (fun l=>mE (qdH b d) l j) a.2.2.1.toNat%a.1
 have l1:qaI (mE (qdH a b) i) (fun l=>mE d l j) b.2.2.1.toNat%a.1=qaI (fun l=>qaI (mE a i) (fun m=>mE b m l) a.2.2.1.toNat) (fun l=>mE d l j) b.2.2.1.toNat%a.1 :=
  qiK fun l hl=>by rw[qhm hi' hl];exact Int.emod_emod_of_dvd _ (Int.dvd_refl _)
 have l2:qaI (mE a i) (fun l=>mE (qdH b d) l j) a.2.2.1.toNat%a.1=qaI (mE a i) (fun m=>qaI (mE b m) (fun l=>mE d l j) b.2.2.1.toNat) a.2.2.1.toNat%a.1 :=
  qch fun m hm=>by rw[qhm (by rw[← h1];exact hm) hj',e1];exact Int.emod_emod_of_dvd _ (Int.dvd_refl _)
 rw[l1,l2]
 congr 1
 have:=qfQ (y:=fun l=>mE d l j) (c:=mE a i) (A:=mE b) (W:=b.2.2.1.toNat) (R:=a.2.2.1.toNat)
 rw[qaR,this]
 exact qaE fun m hm=>⟨rfl,qaR⟩
theorem qjI{m:Mat}{p:Int}{n:Nat}(h:VM m)(hp:m.1=p)(hn:m.2.1=(n:Int)):qdH (qbf p n) m=m:=by
 have h32:=h.2.1.2
 refine qkQ (qc6 (qe8 (hp ▸ h.1) (by omega)) h) h hp.symm hn.symm rfl fun i j hi hj=>?_
 have hi':i<n:=by simpa [qdH,qbf] using hi
 have hj':j<m.2.2.1.toNat:=hj
 rw[qhm (a:=qbf p n) (b:=m) (show i<((n:Int)).toNat by rw[Int.toNat_natCast];exact hi') hj']
 show qaI (mE (qbf p n) i) (fun l=>mE m l j) ((n:Int)).toNat%p=_
 rw[Int.toNat_natCast,qaE (d:=fun l=>if l=i then 1 else 0) (h:=fun l=>mE m l j) fun l hl=>⟨qqu hi' hl,rfl⟩,qcF hi',← hp]
 exact qrf h (by omega) hj'
theorem qoD{m:Mat}{p:Int}{n:Nat}(h:VM m)(hn:m.2.2.1=(n:Int)):qdH m (qbf p n)=m:=by
 have h32:=h.2.2.1.2
 have hsh:(qdH m (qbf p n)).2.2.1=(n:Int):=rfl
 have hV:VM (qdH m (qbf m.1 n)):=qc6 h (qe8 h.1 (by omega))
 have e:qdH m (qbf p n)=qdH m (qbf m.1 n):=rfl
 rw[e]
 refine qkQ hV h rfl rfl hn.symm fun i j hi hj=>?_
 have hi':i<m.2.1.toNat:=hi
 have hj':j<n:=by simpa [qdH,qbf] using hj
 rw[qhm (a:=m) (b:=qbf m.1 n) hi' (show j<((n:Int)).toNat by rw[Int.toNat_natCast];exact hj'),qaR]
 have hk:m.2.2.1.toNat=n:=by omega
 rw[hk,qaE (d:=fun l=>if l=j then 1 else 0) (h:=fun l=>mE m i l) fun l hl=>⟨qm0 hl hj',rfl⟩,qcF hj']
 exact qrf h hi' (by omega)
theorem qlE{m:Mat}{v:Sim}{n i:Nat}(hi:i<n):(qhK m v n).getD i 0=qaI (mE m i) (fun l=>v.getD l 0) m.2.2.1.toNat%m.1:=by
 rw[List.getD_eq_getElem?_getD]
 unfold qhK
 rw[List.getElem?_map,List.getElem?_range hi];rfl
theorem qiV{c:List Sim}{p:Int}{st:Sim}{ms:List Mat}(h:VS c p st ms){f:Nat}(hf:f<c.length):∀(d k:Nat),k<c.length→(c.getD k []).length≤d→qfq (c.getD f []) (c.getD k []) →
  VM (qfa c p st ms f d k)∧(qfa c p st ms f d k).1=p∧(qfa c p st ms f d k).2.1=st.getD k 0∧(qfa c p st ms f d k).2.2.1=st.getD f 0
 | 0,k,hk,hd,hp=>by have:=(h.1.2.1 k hk).1;omega
 | d+1,k,hk,hd,hp=>by
  obtain⟨_,n,_,hn,en,en2⟩:=qqE h f hf
  rw[qfa]
  by_cases e:f=k
  ·subst e
   rw[if_pos rfl,en,en2]
   exact⟨qe8 h.2.1 (by omega),rfl,rfl,rfl⟩
  ·rw[if_neg e]
   have D:Down c p st ms f k:=⟨h,hf,hk,e,hp⟩
   obtain⟨_,f2,_,_,f5,f6,f7⟩:=D.facts
   obtain⟨r1,r2,r3,r4⟩:=qiV h hf d (fc c k (fv c f k)) f7 (by omega) f5
   obtain⟨m1,m2,m3,m4⟩:=(h.map hk f2).2
   exact⟨qc6 m1 r1,m2,m3,r4⟩
theorem qa7{x:Shf}(h:VS x.1 x.2.1 x.2.2.1 x.2.2.2.1){f k:Nat}(hf:f<x.1.length)(hk:k<x.1.length)(hp:qfq (x.1.getD f []) (x.1.getD k [])) :
  VM (qbA x f k)∧(qbA x f k).1=x.2.1∧(qbA x f k).2.1=x.2.2.1.getD k 0∧(qbA x f k).2.2.1=x.2.2.1.getD f 0 :=
 qiV h hf _ k hk (Nat.le_refl _) hp
theorem qjT{x:Shf}(h:VS x.1 x.2.1 x.2.2.1 x.2.2.2.1){f:Nat}(hf:f<x.1.length):qbA x f f=qbf x.2.1 (x.2.2.1.getD f 0).toNat:=by
 unfold qbA
 have:=(h.1.2.1 f hf).1
 obtain⟨n,hn⟩:∃ n,(x.1.getD f []).length=n+1:=⟨_,(Nat.sub_add_cancel this).symm⟩
 rw[hn,qfa,if_pos rfl]
theorem qgI{x:Shf}(h:VS x.1 x.2.1 x.2.2.1 x.2.2.2.1){f k:Nat}(hf:f<x.1.length)(hk:k<x.1.length)(hp:qfq (x.1.getD f []) (x.1.getD k []))(hne:f≠k) :
  qbA x f k=qdH (mp x.1 x.2.2.2.1 k (fv x.1 f k)) (qbA x f (fc x.1 k (fv x.1 f k))):=by
 have D:Down x.1 x.2.1 x.2.2.1 x.2.2.2.1 f k:=⟨h,hf,hk,hne,hp⟩
 obtain⟨f1,f2,_,_,f5,f6,f7⟩:=D.facts
 have hlen:(x.1.getD (fc x.1 k (fv x.1 f k)) []).length=(x.1.getD k []).length-1:=by
  rw[(qaW h.1 hk f2).2.2,List.length_eraseIdx,if_pos f1]
 have:=(h.1.2.1 k hk).1
 obtain⟨n,hn⟩:∃ n,(x.1.getD k []).length=n+1:=⟨_,(Nat.sub_add_cancel this).symm⟩
 unfold qbA
 rw[hlen,hn,qfa,if_neg hne,Nat.add_sub_cancel]
theorem qeK{x:Shf}(hs:ISh x):∀(d:Nat) {f k i:Nat},(x.1.getD k []).length≤d→f<x.1.length→k<x.1.length→qfq (x.1.getD f []) (x.1.getD k [])→(hi:i<(x.1.getD k []).length)→(x.1.getD k [])[i]∉x.1.getD f [] →
  i<(qaH x.1 k).length∧qbA x f k=qdH (mp x.1 x.2.2.2.1 k i) (qbA x f (fc x.1 k i))
 | 0,f,k,i,hd,hf,hk,hp,hi,hn=>by omega
 | d+1,f,k,i,hd,hf,hk,hp,hi,hn=>by
  have h:=hs.1
  have hne:f≠k:=fun e=>hn (by subst e;exact List.getElem_mem hi)
  have D:Down x.1 x.2.1 x.2.2.1 x.2.2.2.1 f k:=⟨h,hf,hk,hne,hp⟩
  obtain⟨f1,f2,f3,f4,f5,f6,f7⟩:=D.facts
  have h2:(qaH x.1 k).length=(x.1.getD k []).length:=by
   have:=qaz (c:=x.1) (k:=k)
   by_cases e:1<(x.1.getD k []).length
   ·rw[if_pos e] at this;exact this
   ·rw[if_neg e] at this;omega
  have hi2:i<(qaH x.1 k).length:=by omega
  refine⟨hi2,?_⟩
  rw[qgI h hf hk hp hne]
  by_cases ei:fv x.1 f k=i
  ·rw[ei]
  generalize fv x.1 f k=j at f1 f2 f3 f4 f5 f6 f7 ei ⊢
  have hji:j<i:=by
   rcases Nat.lt_or_ge i j with hlt | hge
   ·exact absurd (f3 i hlt hi) hn
   ·omega
  have g1:=qaW h.1 hk f2
  have g2:=qaW h.1 hk hi2
  have hpi:qfq (x.1.getD f []) (x.1.getD (fc x.1 k i) []):=by rw[g2.2.2];exact qc1 hp hi hn
  have n3:3≤(x.1.getD k []).length:=by
   have h0:=(h.1.2.1 f hf).1
   have hm:∃ q,∃ hq:q<(x.1.getD k []).length,(x.1.getD k [])[q]∈x.1.getD f []:=by
    have hm:=hp _ (List.getElem_mem (show 0<(x.1.getD f []).length from h0))
    obtain⟨q,hq,e⟩:=List.mem_iff_getElem.1 hm
    exact⟨q,hq,e ▸ List.getElem_mem _⟩
   obtain⟨q,hq,hqm⟩:=hm
   have:q≠i:=fun e=>hn (by subst e;exact hqm)
   have:q≠j:=fun e=>f4 f1 (by subst e;exact hqm)
   omega
  have s1:Sq x.1 x.2.1 x.2.2.1 x.2.2.2.1 k j (i-1):=⟨hk,n3,f1,by omega,h⟩
  have s2:Sq x.1 x.2.1 x.2.2.1 x.2.2.2.1 k i j:=⟨hk,n3,hi,by omega,h⟩
  have lj:(x.1.getD (fc x.1 k j) []).length=(x.1.getD k []).length-1:=by rw[g1.2.2,List.length_eraseIdx,if_pos f1]
  have li:(x.1.getD (fc x.1 k i) []).length=(x.1.getD k []).length-1:=by rw[g2.2.2,List.length_eraseIdx,if_pos hi]
  have e1:(x.1.getD (fc x.1 k j) []).getD (i-1) 0=(x.1.getD k []).getD i 0:=by
   rw[g1.2.2,List.getD_eq_getElem?_getD,List.getElem?_eraseIdx,if_neg (by omega),Nat.sub_add_cancel (by omega),← List.getD_eq_getElem?_getD]
  have e2:(x.1.getD (fc x.1 k i) []).getD j 0=(x.1.getD k []).getD j 0:=by
   rw[g2.2.2,List.getD_eq_getElem?_getD,List.getElem?_eraseIdx,if_pos (by omega),← List.getD_eq_getElem?_getD]
  have a1:=qeK hs d (f:=f) (k:=fc x.1 k j) (i:=i-1) (by omega) hf g1.2.1 f5 (by omega) (by
   rw[← qac (by omega),e1,qac hi];exact hn)
  have a2:=qeK hs d (f:=f) (k:=fc x.1 k i) (i:=j) (by omega) hf g2.2.1 hpi (by omega) (by
   rw[← qac (by omega),e2,qac f1];exact f4 f1)
  rw[a1.2,a2.2]
  have ht:=qjC hs.2 hk n3 hji hi
  have hff:=qse hji s1 s2
  unfold two at ht
  rw[hff]
  obtain⟨_,v2,v3⟩:=qaW h.1 g2.2.1 a2.1
  have hpf:qfq (x.1.getD f []) (x.1.getD (fc x.1 (fc x.1 k i) j) []):=by
   rw[v3];exact qc1 hpi (by omega) (by rw[← qac (by omega),e2,qac f1];exact f4 f1)
  obtain⟨r1,r2,r3,r4⟩:=qa7 h hf v2 hpf
  have b1:=(h.map hk f2).2
  have b2:=(h.map hk hi2).2
  have b3:=(h.map g1.2.1 a1.1).2
  have b4:=(h.map g2.2.1 a2.1).2
  rw[hff] at b3
  rw[← qdV b1.1 b3.1 r1 (by rw[b1.2.2.2,b3.2.2.1]) (by rw[b3.2.2.2,r3]) (by rw[b1.2.1,b3.2.1]),← qdV b2.1 b4.1 r1 (by rw[b2.2.2.2,b4.2.2.1]) (by rw[b4.2.2.2,r3]) (by rw[b2.2.1,b4.2.1]),ht]
theorem qjS{x:Shf}(hs:ISh x):∀(d:Nat) {f g k:Nat},(x.1.getD k []).length≤d→f<x.1.length→g<x.1.length→k<x.1.length→qfq (x.1.getD f []) (x.1.getD g [])→qfq (x.1.getD g []) (x.1.getD k []) →
  qbA x f k=qdH (qbA x g k) (qbA x f g)
 | 0,f,g,k,hd,hf,hg,hk,h1,h2=>by have:=(hs.1.1.2.1 k hk).1;omega
 | d+1,f,g,k,hd,hf,hg,hk,h1,h2=>by
  have h:=hs.1
  obtain⟨r1,r2,r3,r4⟩:=qa7 h hf hg h1
  by_cases e:g=k
  ·subst e
   rw[qjT h hg]
   obtain⟨_,n,_,hn,en,en2⟩:=qqE h g hg
   exact(qjI r1 r2 (by rw[r3,en2,Int.toNat_natCast])).symm
  ·have D:Down x.1 x.2.1 x.2.2.1 x.2.2.2.1 g k:=⟨h,hg,hk,e,h2⟩
   obtain⟨f1,f2,f3,f4,f5,f6,f7⟩:=D.facts
   have hp:qfq (x.1.getD f []) (x.1.getD k []):=fun y hy=>h2 y (h1 y hy)
   have a:=(qeK hs _ (Nat.le_refl _) hf hk hp f1 fun hm=>f4 f1 (h1 _ hm)).2
   rw[a,qgI h hg hk h2 e,qjS hs d (k:=fc x.1 k (fv x.1 g k)) (by omega) hf hg f7 h1 f5]
   obtain⟨q1,q2,q3,q4⟩:=qa7 h hg f7 f5
   have b:=(h.map hk f2).2
   exact(qdV b.1 q1 r1 (by rw[b.2.2.2,q3]) (by rw[q4,r3]) (by rw[b.2.1,q2])).symm
end VeT
open Go Go.Proofs Ve
namespace VeT
theorem qim(c:List Sim)(hc:Sm (.sl (.sl (.int .i64))) c)(hv:VC c):Ret E n_Z172 [dC (c,()),dI 3] ⟨o_Z172,(c,())⟩:=by
 have hl:c.length≤1048576:=hc.1
 refine qai ?_
 simp only[run_Z172,Z172.ev]
 refine Ev.start (p:=fun φ n=>Z172.l0 (mkR (run E (φ 0))) (φ 0) n (c,()) 3 0 []=_) 1 ?_ (fun _ _ _ h=>h)
 refine qam 1 (L:=fun φ n k o=>Z172.l0 (mkR (run E (φ 0))) (φ 0) n (c,()) 3 k o) (len:=c.length) (fun k=>c.take k) (fun _ _ _ _ _=>rfl) (fun k r hk ih=>?_) ?_
 ·simp only[Z172.l0_succ _ qae]
  rw[List.take_succ_eq_append_getElem hk] at ih
  have h4:=hv.len4 hk
  rw[qac hk] at h4
  have e4:w64 ((3:Int)+1)=4:=qag (by omega) (by omega)
  refine qax (decide_eq_true (by show(k:Int)<(c.length:Int);omega)) (qab (qaj hk) (qax (decide_eq_true (by rw[e4];show(c[k].length:Int)≤4;omega)) (qab (qaj hk) (qaa (qcW _ (by show c[k].length≤_;omega)) (qao (by simp only[List.length_take,List.length_singleton,decide_eq_true_eq];omega) ?_)))))
  rw[qad (by omega)];exact ih
 ·simp only[Z172.l0_succ _ qae]
  refine qaC (decide_eq_false (by show ¬ ((c.length:Int)<(c.length:Int));omega)) (qah ?_)
  rw[List.take_of_length_le (Nat.le_refl _)]
def zOf(p:Int)(st:Sim)(a:Arw):Mat:=(p,st.getD a.1.toNat 0,st.getD a.2.2.1.toNat 0,List.replicate ((st.getD a.1.toNat 0).toNat*(st.getD a.2.2.1.toNat 0).toNat) 0,())
theorem qg7{c:List Sim}{st:Sim}(hl:st.length=c.length)(hst:∀ x∈st,0≤x∧x≤3){k:Nat}(hk:k<c.length):∃ n:Nat,n≤3∧st.getD k 0=(n:Int)∧∃ h:k<st.length,st[k]=(n:Int):=by
 have h:k<st.length:=by omega
 obtain⟨h1,h2⟩:=hst _ (List.getElem_mem h)
 exact⟨(st[k]).toNat,by omega,by rw[qac h];omega,h,by omega⟩
theorem qe6{c:List Sim}(hs:Srt c)(hv:VC c){k i:Nat}(hk:k<c.length)(hi:i<(qaH c k).length):∃ f:Nat,f<c.length∧(qaH c k)[i]=(f:Int)∧(qaH c k).getD i 0=(f:Int):=by
 obtain⟨h1,h2,_⟩:=qaW hv hk hi
 have e:(qaH c k)[i]=((fc c k i:Nat):Int):=by rw[qaj hi] at h1;exact Option.some.inj h1
 exact⟨fc c k i,h2,e,by rw[qac hi,e]⟩
end VeT
open Go Go.Proofs Ve
namespace VeT
def Fa(x s:Sim):Prop:=x≠[]∧x.Sublist s
def Cl(c:List Sim):Prop:=∀ y∈c,∀ x,Fa x y→x∈c
theorem qlF:∀ {x s:Sim},x.Sublist s→x≠s→∃ i,i<s.length∧x.Sublist (s.eraseIdx i)
 | _,_,.slnil,h=>absurd rfl h
 | x,_,.cons a h,_=>⟨0,by simp,by simpa using h⟩
 | _,_,.cons_cons (l₁:=l) (l₂:=l') a h,hn=>by
  obtain⟨i,hi,hs⟩:=qlF h fun e=>hn (by rw[e])
  exact⟨i+1,by simp;omega,by simpa using hs⟩
theorem qq8{x s:Sim}:Fa x s↔(x=s∧s≠[])∨∃ i,i<s.length∧Fa x (s.eraseIdx i):=by
 constructor
 ·rintro⟨h1,h2⟩
  by_cases e:x=s
  ·exact .inl ⟨e,e ▸ h1⟩
  ·obtain⟨i,hi,hs⟩:=qlF h2 e
   exact .inr ⟨i,hi,h1,hs⟩
 ·rintro(⟨rfl,h⟩ | ⟨i,hi,h1,h2⟩)
  ·exact⟨h,List.Sublist.refl _⟩
  ·exact⟨h1,h2.trans (List.eraseIdx_sublist _ _)⟩
theorem qkN{x y z:Sim}(h1:Fa x y)(h2:Fa y z):Fa x z:=⟨h1.1,h1.2.trans h2.2⟩
theorem qpj{x s:Sim}(h:Fa x s):x.length≤s.length:=h.2.length_le
def qm9:Nat→Nat
 | 0=>1
 | n+1=>(n+2)*qm9 n+1
theorem qsn{o:List Sim}{s:Sim}(hs:Srt o)(hn:s∉o):∃ t,t≤o.length∧(∀ j (h:j<o.length),j<t→qec o[j] s<0)∧(∀ h:t<o.length,¬ qec o[t] s<0)∧Srt (o.take t++[s]++o.drop t):=by
 refine⟨bs o s,qsf,fun j h hj=>(qkw hs h).1 hj,fun h hlt=>?_,?_⟩
 ·have:=(qkw hs h).2 hlt;omega
 ·have pw:o.Pairwise (fun a b=>qec a b<0):=List.pairwise_iff_getElem.2 fun i j hi hj hij=>hs i j hj hij
  have h1:∀ x∈o.take (bs o s),qec x s<0:=fun x hx=>by
   obtain⟨i,hi,rfl⟩:=List.mem_iff_getElem.1 hx
   rw[List.length_take] at hi
   rw[List.getElem_take]
   exact(qkw hs (by omega)).1 (by omega)
  have h2:∀ x∈o.drop (bs o s),qec s x<0:=fun x hx=>by
   obtain⟨i,hi,rfl⟩:=List.mem_iff_getElem.1 hx
   rw[List.length_drop] at hi
   rw[List.getElem_drop]
   have h3:¬ qec o[bs o s+i] s<0:=fun h=>by
    have:=(qkw hs (show bs o s+i<o.length by omega)).2 h;omega
   have h4:qec o[bs o s+i] s≠0:=fun h=>hn (by rw[← qco.1 h];exact List.getElem_mem _)
   have:=qnQ (a:=o[bs o s+i]) (b:=s)
   omega
  have pwn:(o.take (bs o s)++[s]++o.drop (bs o s)).Pairwise (fun a b=>qec a b<0):=by
   rw[List.pairwise_append]
   refine⟨?_,pw.sublist (List.drop_sublist _ _),fun x hx y hy=>?_⟩
   ·rw[List.pairwise_append]
    refine⟨pw.sublist (List.take_sublist _ _),List.pairwise_singleton _ _,fun x hx y hy=>?_⟩
    rw[List.mem_singleton] at hy;subst hy;exact h1 x hx
   ·rcases List.mem_append.1 hx with hx | hx
    ·exact qgJ (h1 x hx) (h2 y hy)
    ·rw[List.mem_singleton] at hx;subst hx;exact h2 y hy
  exact fun i j hj hij=>List.pairwise_iff_getElem.1 pwn i j (by omega) hj hij
theorem qpw{o:List Sim}{s x:Sim}{t:Nat}:x∈o.take t++[s]++o.drop t↔x∈o∨x=s:=by
 rw[List.mem_append,List.mem_append,List.mem_singleton]
 conv=>rhs;rw[← List.take_append_drop t o]
 rw[List.mem_append]
 constructor
 ·rintro((h | h) | h)
  ·exact .inl (.inl h)
  ·exact .inr h
  ·exact .inl (.inr h)
 ·rintro((h | h) | h)
  ·exact .inl (.inl h)
  ·exact .inr h
  ·exact .inl (.inr h)
theorem qnC(s:Sim)(o:List Sim)(N1:Nat→Nat)(hs1:s.length≤1048576)(ho:Sm (.sl (.sl (.int .i64))) o)(hl:o.length+1≤1048576)(hs:Srt o)(hn:s∉o) :
  ∃ t,t≤o.length∧Srt (o.take t++[s]++o.drop t)∧Ev fun φ=>Z170.l2 (mkR (run E (φ 0))) (φ 0) (φ 2) s 0 o=some ⟨o_Z170,((o.take t++[s]++o.drop t,()),())⟩:=by
 obtain⟨t,ht,h1,h2,h3⟩:=qsn hs hn
 refine⟨t,ht,h3,?_⟩
 have fin:Ev fun φ=>Z170.j3 (mkR (run E (φ 0))) (φ 0) (φ 2) s (t:Int) false o=some ⟨o_Z170,((o.take t++[s]++o.drop t,()),())⟩:=by
  simp only[Z170.j3_eq _ qae]
  refine qaC rfl (qao (by simp only[Bool.and_eq_true,decide_eq_true_eq];omega) ?_)
  simp only[Int.toNat_natCast,List.nil_append]
  refine qao (by simp only[List.length_nil,List.length_take,decide_eq_true_eq];omega) (qaa (qcW s hs1) (qao (by simp only[List.length_take,List.length_singleton,decide_eq_true_eq];omega) (qao (by simp only[Bool.and_eq_true,decide_eq_true_eq];omega) (qao (by simp only[List.length_append,List.length_take,List.length_drop,List.length_singleton,decide_eq_true_eq];omega) qal))))
 have key:∀ d i,i+d=t→Ev fun φ=>Z170.l2 (mkR (run E (φ 0))) (φ 0) (φ 2) s (i:Int) o=some ⟨o_Z170,((o.take t++[s]++o.drop t,()),())⟩:=by
  intro d
  induction d with
  | zero =>
   intro i hi
   obtain rfl:i=t:=by omega
   refine Ev.round 2 (L:=fun φ n=>Z170.l2 (mkR (run E (φ 0))) (φ 0) n s (i:Int) o) ?_ (fun _ _ _=>rfl)
   simp only[Z170.l2_succ _ qae]
   by_cases hlt:i<o.length
   ·refine qax (decide_eq_true (by omega)) (qab (qaj hlt) (qaa (qcU _ s (qbo ho hlt)) ?_))
    rw[qap (h2 hlt)]
    exact fin
   ·exact qaC (decide_eq_false (by omega)) fin
  | succ d ih =>
   intro i hi
   have hlt:i<o.length:=by omega
   refine Ev.round 2 (L:=fun φ n=>Z170.l2 (mkR (run E (φ 0))) (φ 0) n s (i:Int) o) ?_ (fun _ _ _=>rfl)
   simp only[Z170.l2_succ _ qae]
   refine qax (decide_eq_true (by omega)) (qab (qaj hlt) (qaa (qcU _ s (qbo ho hlt)) ?_))
   rw[qaF (h1 i hlt (by omega))]
   simp only[Z170.j3_eq _ qae]
   refine qax rfl ?_
   rw[qad (by omega)]
   exact ih (i+1) (by omega)
 exact key t 0 (by omega)
theorem qrU:∀(n:Nat) (s:Sim) (c:List Sim),s.length=n+1→n≤1048575→c.length+qm9 n≤1048576→Sm (.sl (.sl (.int .i64))) c→Srt c→Cl c →
    ∃ c',Ret E n_Z170 [dC (c,()),dL s] ⟨o_Z170,((c',()),())⟩∧Srt c'∧(∀ x,x∈c'↔x∈c∨Fa x s)∧c'.length≤c.length+qm9 n:=by
  intro n
  induction n with
  | zero =>
    intro s c hn hb hl hc hs hcl
    have hs1:s.length≤1048576:=by omega
    have hne:s≠[]:=fun e=>by rw[e] at hn;simp at hn
    by_cases hm:s∈c
    · refine⟨c,?_,hs,fun x=>⟨.inl,fun h=>h.elim id fun h=>hcl s hm x h⟩,by omega⟩
      refine qai ?_
      simp only[run_Z170,Z170.ev]
      exact qaa (qb6 (c,()) s hc) (qax (decide_eq_true (qa4.2 hm)) qal)
    · obtain⟨t,ht,h3,h4⟩:=qnC s c id hs1 hc (by unfold qm9 at hl;omega) hs hm
      refine⟨_,?_,h3,fun x=>?_,by simp[qm9];omega⟩
      · refine qai ?_
        simp only[run_Z170,Z170.ev]
        refine qaa (qb6 (c,()) s hc) (qaC (decide_eq_false fun h=>hm (qa4.1 h)) ?_)
        have h4:Ev fun φ=>Z170.l2 (mkR (run E (φ 0))) (φ 0) (φ 0) s 0 c=some ⟨o_Z170,((c.take t++[s]++c.drop t,()),())⟩:=Ev.start (p:=fun φ n=>Z170.l2 (mkR (run E (φ 0))) (φ 0) n s 0 c=_) 2 h4 (fun _ _ _ h=>h)
        refine Ev.start (p:=fun φ n=>Z170.l0 (mkR (run E (φ 0))) (φ 0) n s 0 c=_) 1 ?_ (fun _ _ _ h=>h)
        refine Ev.round 1 (L:=fun φ n=>Z170.l0 (mkR (run E (φ 0))) (φ 0) n s 0 c) ?_ (fun _ _ _=>rfl)
        simp only[Z170.l0_succ _ qae,Z170.j1_eq _ qae]
        refine qax (decide_eq_true (by omega)) (qaC (decide_eq_false (by omega)) h4)
      · rw[qpw,qq8]
        constructor
        · rintro(h | h)
          · exact .inl h
          · exact .inr (.inl ⟨h,hne⟩)
        · rintro(h | ⟨h,_⟩ | ⟨i,hi,h1,h2⟩)
          · exact .inl h
          · exact .inr h
          · have:=h2.length_le
            rw[List.length_eraseIdx,if_pos hi] at this
            exact absurd (List.length_eq_zero_iff.1 (by omega)) h1
  | succ n ih =>
    intro s c hn hb hl hc hs hcl
    have hs1:s.length≤1048576:=by omega
    have hne:s≠[]:=fun e=>by rw[e] at hn;simp at hn
    by_cases hm:s∈c
    · refine⟨c,?_,hs,fun x=>⟨.inl,fun h=>h.elim id fun h=>hcl s hm x h⟩,by omega⟩
      refine qai ?_
      simp only[run_Z170,Z170.ev]
      exact qaa (qb6 (c,()) s hc) (qax (decide_eq_true (qa4.2 hm)) qal)
    · have hadd:qm9 (n+1)=(n+1+1)*qm9 n+1:=rfl
      -- the qcu
      have loop:∀ d i (o:List Sim),i+d=s.length→Sm (.sl (.sl (.int .i64))) o→Srt o→Cl o→(∀ x,x∈o↔x∈c∨∃ j,j<i∧Fa x (s.eraseIdx j))→o.length≤c.length+i*qm9 n→s.length*qm9 n+1+c.length≤1048576 →
          ∃ c',(Ev fun φ=>Z170.l0 (mkR (run E (φ 0))) (φ 0) (φ 1) s (i:Int) o=some ⟨o_Z170,((c',()),())⟩)∧Srt c'∧(∀ x,x∈c'↔x∈c∨Fa x s)∧c'.length≤c.length+s.length*qm9 n+1:=by
        intro d
        induction d with
        | zero =>
          intro i o hi ho1 ho2 ho3 ho4 ho5 hbig
          obtain rfl:i=s.length:=by omega
          have hn2:s∉o:=fun h=>by
            rcases(ho4 s).1 h with h | ⟨j,hj,h⟩
            · exact hm h
            · have:=qpj h
              rw[List.length_eraseIdx,if_pos hj] at this
              omega
          obtain⟨t,ht,h3,h4⟩:=qnC s o id hs1 ho1 (by omega) ho2 hn2
          refine⟨_,?_,h3,fun x=>?_,by simp;omega⟩
          · have h4:Ev fun φ=>Z170.l2 (mkR (run E (φ 0))) (φ 0) (φ 0) s 0 o=some ⟨o_Z170,((o.take t++[s]++o.drop t,()),())⟩:=Ev.start (p:=fun φ n=>Z170.l2 (mkR (run E (φ 0))) (φ 0) n s 0 o=_) 2 h4 (fun _ _ _ h=>h)
            refine Ev.round 1 (L:=fun φ n=>Z170.l0 (mkR (run E (φ 0))) (φ 0) n s (s.length:Int) o) ?_ (fun _ _ _=>rfl)
            simp only[Z170.l0_succ _ qae,Z170.j1_eq _ qae]
            exact qaC (decide_eq_false (by omega)) (qaC rfl h4)
          · rw[qpw,ho4,qq8]
            constructor
            · rintro((h | ⟨j,hj,h⟩) | h)
              · exact .inl h
              · exact .inr (.inr ⟨j,hj,h⟩)
              · exact .inr (.inl ⟨h,hne⟩)
            · rintro(h | ⟨h,_⟩ | ⟨j,hj,h⟩)
              · exact .inl (.inl h)
              · exact .inr h
              · exact .inl (.inr ⟨j,hj,h⟩)
        | succ d ihd =>
          intro i o hi ho1 ho2 ho3 ho4 ho5 hbig
          have hil:i<s.length:=by omega
          have hel:(s.eraseIdx i).length=n+1:=by rw[List.length_eraseIdx,if_pos hil];omega
          have hmul:(i+1)*qm9 n≤s.length*qm9 n:=Nat.mul_le_mul_right _ (by omega)
          rw[Nat.add_mul,Nat.one_mul] at hmul
          obtain⟨o',hr,hs',hm',hl'⟩:=ih (s.eraseIdx i) o hel (by omega) (by omega) ho1 ho2 ho3
          obtain⟨c',hc1,hc2⟩:=ihd (i+1) o' (by omega) ⟨by show o'.length≤1048576;omega,fun x hx=>by
              rcases(hm' x).1 hx with h | h
              · exact ho1.2 x h
              · have:=qpj h
                exact⟨by show x.length≤1048576;omega,fun _ _=>trivial⟩⟩ hs' (fun y hy x hx=>(hm' x).2 (by
              rcases(hm' y).1 hy with h | h
              · exact .inl (ho3 y h x hx)
              · exact .inr (qkN hx h))) (fun x=>by
              rw[hm',ho4]
              constructor
              · rintro((h | ⟨j,hj,h⟩) | h)
                · exact .inl h
                · exact .inr ⟨j,by omega,h⟩
                · exact .inr ⟨i,by omega,h⟩
              · rintro(h | ⟨j,hj,h⟩)
                · exact .inl (.inl h)
                · by_cases e:j=i
                  · subst e;exact .inr h
                  · exact .inl (.inr ⟨j,by omega,h⟩)) (by rw[Nat.add_mul,Nat.one_mul];omega) hbig
          refine⟨c',?_,hc2⟩
          refine Ev.round 1 (L:=fun φ n=>Z170.l0 (mkR (run E (φ 0))) (φ 0) n s (i:Int) o) ?_ (fun _ _ _=>rfl)
          simp only[Z170.l0_succ _ qae,Z170.j1_eq _ qae]
          refine qax (decide_eq_true (by omega)) (qax (decide_eq_true (by omega)) (qaa (qej s i hil hs1) (qaa hr ?_)))
          rw[qad (by omega)]
          exact hc1
      have hbig:s.length*qm9 n+1+c.length≤1048576:=by rw[hn];rw[hadd] at hl;omega
      obtain⟨c',h1,h2,h3,h4⟩:=loop s.length 0 c (by omega) hc hs hcl (fun x=>⟨.inl,fun h=>h.elim id fun⟨j,hj,_⟩=>by omega⟩) (by omega) hbig
      refine⟨c',?_,h2,h3,?_⟩
      · refine qai ?_
        simp only[run_Z170,Z170.ev]
        refine qaa (qb6 (c,()) s hc) (qaC (decide_eq_false fun h=>hm (qa4.1 h)) ?_)
        exact Ev.start (p:=fun φ n=>Z170.l0 (mkR (run E (φ 0))) (φ 0) n s 0 c=_) 1 h1 (fun _ _ _ h=>h)
      · rw[hadd,← hn];omega
theorem qmQ(l:List Sim)(hl:l.length≤1024)(hx:∀ s∈l,1≤s.length∧s.length≤4) :
    ∃ c',Ret E n_Z162 [dLL l] ⟨o_Z162,(c',())⟩∧Srt c'∧(∀ x,x∈c'↔∃ s∈l,Fa x s)∧c'.length≤41*l.length:=by
  have loop:∀ d i (o:List Sim),i+d=l.length→Srt o→(∀ x,x∈o↔∃ s∈l.take i,Fa x s)→o.length≤41*i →
      ∃ c',(Ev fun φ=>Z162.l0 (mkR (run E (φ 0))) (φ 0) (φ 1) l (i:Int) o=some ⟨o_Z162,(c',())⟩)∧Srt c'∧(∀ x,x∈c'↔∃ s∈l,Fa x s)∧c'.length≤41*l.length:=by
    intro d
    induction d with
    | zero =>
      intro i o hi h1 h2 h3
      obtain rfl:i=l.length:=by omega
      rw[List.take_length] at h2
      refine⟨o,?_,h1,h2,h3⟩
      refine Ev.round 1 (L:=fun φ n=>Z162.l0 (mkR (run E (φ 0))) (φ 0) n l (l.length:Int) o) ?_ (fun _ _ _=>rfl)
      simp only[Z162.l0_succ _ qae]
      exact qaC (decide_eq_false (by omega)) qal
    | succ d ih =>
      intro i o hi h1 h2 h3
      have hil:i<l.length:=by omega
      obtain⟨g1,g2⟩:=hx _ (List.getElem_mem hil)
      have hadd:qm9 (l[i].length-1)≤41:=by
        have:l[i].length-1=0∨l[i].length-1=1∨l[i].length-1=2∨l[i].length-1=3:=by omega
        rcases this with e | e | e | e<;>rw[e]<;>decide
      have hlen:∀ x∈o,x.length≤4:=fun x hx'=>by
        obtain⟨s,hs,hf⟩:=(h2 x).1 hx'
        have:=(hx s (List.mem_of_mem_take hs)).2
        have:=qpj hf
        omega
      obtain⟨o',hr,hs',hm',hl'⟩:=qrU (l[i].length-1) l[i] o (by omega) (by omega) (by omega) ⟨by show o.length≤1048576;omega,fun x hx'=>by have:=hlen x hx';exact⟨by show x.length≤1048576;omega,fun _ _=>trivial⟩⟩ h1 (fun y hy x hxy=>by
        obtain⟨s,hs,hf⟩:=(h2 y).1 hy
        exact(h2 x).2 ⟨s,hs,qkN hxy hf⟩)
      obtain⟨c',hc1,hc2⟩:=ih (i+1) o' (by omega) hs' (fun x=>by
        rw[hm',h2,List.take_succ_eq_append_getElem hil]
        constructor
        · rintro(⟨s,hs,h⟩ | h)
          · exact⟨s,List.mem_append.2 (.inl hs),h⟩
          · exact⟨_,List.mem_append.2 (.inr (List.mem_singleton.2 rfl)),h⟩
        · rintro⟨s,hs,h⟩
          rcases List.mem_append.1 hs with hs | hs
          · exact .inl ⟨s,hs,h⟩
          · rw[List.mem_singleton] at hs;subst hs;exact .inr h) (by omega)
      refine⟨c',?_,hc2⟩
      refine Ev.round 1 (L:=fun φ n=>Z162.l0 (mkR (run E (φ 0))) (φ 0) n l (i:Int) o) ?_ (fun _ _ _=>rfl)
      simp only[Z162.l0_succ _ qae]
      refine qax (decide_eq_true (by omega)) (qab (qaj hil) (qaa hr ?_))
      rw[qad (by omega)]
      exact hc1
  obtain⟨c',h1,h2⟩:=loop l.length 0 [] (by omega) (fun i j hj=>by simp at hj) (fun x=>by simp) (by simp)
  refine⟨c',?_,h2⟩
  refine qai ?_
  simp only[run_Z162,Z162.ev]
  exact Ev.start (p:=fun φ n=>Z162.l0 (mkR (run E (φ 0))) (φ 0) n l 0 []=_) 1 h1 (fun _ _ _ h=>h)
end VeT
open Go Go.Proofs Ve
namespace VeT
def EvQ(A:(Nat→Nat)→Option Dv)(out:Ty)(Q:out.T→Prop):Prop:=∃ x,(Ev fun φ=>A φ=some ⟨out,x⟩)∧Q x
def qjc(f:Nat)(args:List Dv)(out:Ty)(Q:out.T→Prop):Prop:=∃ x,Ret E f args ⟨out,x⟩∧Q x
theorem qbI{f:Nat}{args:List Dv}{out:Ty}{Q:out.T→Prop}(h:EvQ (fun φ=>run E (φ 0+1) f args) out Q):qjc f args out Q:=let ⟨x,h1,h2⟩:=h;⟨x,qai h1,h2⟩
theorem qaS{out:Ty}{Q:out.T→Prop}{x:out.T}(h:Q x):EvQ (fun _=>some ⟨out,x⟩) out Q:=⟨x,qal,h⟩
theorem qaw{f:Nat}{o:Ty}{args:List Dv}{x:o.T}{out:Ty}{Q:out.T→Prop}{K:(Nat→Nat)→o.T→Option Dv}(h:Ret E f args ⟨o,x⟩)(k:EvQ (fun φ=>K φ x) out Q) :
  EvQ (fun φ=>(Option.bind (qlI (mkR (run E (φ 0))) f o args) fun y=>K φ y)) out Q:=let ⟨z,h1,h2⟩:=k;⟨z,qaa h h1,h2⟩
theorem qaX{f:Nat}{o:Ty}{args:List Dv}{P:o.T→Prop}{out:Ty}{Q:out.T→Prop}{K:(Nat→Nat)→o.T→Option Dv}(h:qjc f args o P)(k:∀ x,P x→EvQ (fun φ=>K φ x) out Q) :
  EvQ (fun φ=>(Option.bind (qlI (mkR (run E (φ 0))) f o args) fun y=>K φ y)) out Q:=let ⟨x,h1,h2⟩:=h;qaw h1 (k x h2)
theorem qbe{α:Type}{c:Option α}{x:α}{K:(Nat→Nat)→α→Option Dv}{out:Ty}{Q:out.T→Prop}(h:c=some x)(k:EvQ (fun φ=>K φ x) out Q) :
  EvQ (fun φ=>(Option.bind c fun y=>K φ y)) out Q:=let ⟨z,h1,h2⟩:=k;⟨z,qab h h1,h2⟩
theorem qaO{b:Bool}{K:(Nat→Nat)→Unit→Option Dv}{out:Ty}{Q:out.T→Prop}(h:b=true)(k:EvQ (fun φ=>K φ ()) out Q) :
  EvQ (fun φ=>(Option.bind (chk b) fun y=>K φ y)) out Q:=let ⟨z,h1,h2⟩:=k;⟨z,qao h h1,h2⟩
theorem qp5{b:Bool}{A B:(Nat→Nat)→Option Dv}{out:Ty}{Q:out.T→Prop}(h:b=true)(k:EvQ A out Q):EvQ (fun φ=>bif b then A φ else B φ) out Q:=by subst h;exact k
theorem qdP{b:Bool}{A B:(Nat→Nat)→Option Dv}{out:Ty}{Q:out.T→Prop}(h:b=false)(k:EvQ B out Q):EvQ (fun φ=>bif b then A φ else B φ) out Q:=by subst h;exact k
theorem qc9{b:Bool}{A B:(Nat→Nat)→Option Dv}{out:Ty}{Q:out.T→Prop}(t:b=true→EvQ A out Q)(f:b=false→EvQ B out Q):EvQ (fun φ=>bif b then A φ else B φ) out Q:=by
 cases b
 ·exact f rfl
 ·exact t rfl
theorem qcr{p:Prop}[Decidable p]{A B:(Nat→Nat)→Option Dv}{out:Ty}{Q:out.T→Prop}(t:p→EvQ A out Q)(f:¬ p→EvQ B out Q):EvQ (fun φ=>bif decide p then A φ else B φ) out Q :=
 qc9 (fun h=>t (of_decide_eq_true h)) fun h=>f (of_decide_eq_false h)
theorem EvQ.round(l:Nat){L:(Nat→Nat)→Nat→Option Dv}{out:Ty}{Q:out.T→Prop}(h:EvQ (fun φ=>L φ (φ l+1)) out Q)(hind:∀ φ n n',L (fup φ l n') n=L φ n):EvQ (fun φ=>L φ (φ l)) out Q :=
 let ⟨z,h1,h2⟩:=h;⟨z,Ev.round l h1 hind,h2⟩
theorem EvQ.start(l:Nat){L:(Nat→Nat)→Nat→Option Dv}{out:Ty}{Q:out.T→Prop}(h:EvQ (fun φ=>L φ (φ l)) out Q)(hind:∀ φ n n',L (fup φ l n') n=L φ n):EvQ (fun φ=>L φ (φ 0)) out Q :=
 let ⟨z,h1,h2⟩:=h;⟨z,Ev.start (p:=fun φ n=>L φ n=_) l h1 (fun φ n n' h=>by rw[hind] at h;exact h),h2⟩
theorem EvQ.loop(l:Nat){σ:Type}{L:(Nat→Nat)→Nat→σ→Option Dv}{out:Ty}{Q:out.T→Prop}(hind:∀ φ n n' s,L (fup φ l n') n s=L φ n s)(Inv:σ→Prop)(μ:σ→Nat)
  (step:∀ s,Inv s→(∀ s',Inv s'→μ s'<μ s→EvQ (fun φ=>L φ (φ l) s') out Q)→EvQ (fun φ=>L φ (φ l+1) s) out Q):∀ s,Inv s→EvQ (fun φ=>L φ (φ l) s) out Q:=by
 have key:∀ d s,μ s<d→Inv s→EvQ (fun φ=>L φ (φ l) s) out Q:=by
  intro d
  induction d with
  | zero=>intro s h;omega
  | succ d ih =>
   intro s hd hi
   exact EvQ.round l (L:=fun φ n=>L φ n s) (step s hi fun s' hi' hl=>ih s' (by omega) hi') (fun φ n n'=>hind φ n n' s)
 exact fun s=>key _ s (Nat.lt_succ_self _)
abbrev Src:=List Int×Int×Int×Unit
abbrev cR:Ty:=.cons (.sl (.int .u8)) (.cons (.int .i64) (.cons (.int .u64) .nil))
abbrev dR(s:Src):Dv:=⟨.ptr cR,s⟩
abbrev dB(s:List Int):Dv:=⟨.sl (.int .u8),s⟩
def SO(n:Nat)(s:Src):Prop:=(∀ b∈s.1,0≤b∧b≤255)∧0≤s.2.1∧s.2.1≤(n:Int)
theorem SO.le{n m:Nat}{s:Src}(h:SO n s)(hm:n≤m):SO m s:=⟨h.1,h.2.1,by have:=h.2.2;omega⟩
theorem qi7(c:List Int):Ret E n_Z128 [dB c] ⟨o_Z128,((c,0,0,()),())⟩:=by
 refine qai ?_
 simp only[run_Z128,Z128.ev]
 exact Ev.of fun _=>trivial
theorem qq9(x:BitVec (IntKind.bits .u64)):0≤w64 (IntKind.wrap .u64 (BitVec.toNat (x &&& BitVec.ofInt (IntKind.bits .u64) (255:Int))))∧w64 (IntKind.wrap .u64 (BitVec.toNat (x &&& BitVec.ofInt (IntKind.bits .u64) (255:Int))))≤255:=by
 have h:(x &&& BitVec.ofInt (IntKind.bits .u64) (255:Int)).toNat≤255:=by
  rw[BitVec.toNat_and]
  have:(BitVec.ofInt (IntKind.bits .u64) (255:Int)).toNat=255:=by decide
  rw[this]
  exact Nat.and_le_right
 rw[qlO (by omega) (by omega),qag (by omega) (by omega)]
 omega
theorem qnt(n:Nat)(s:Src)(hn:n≤1152921504606846976)(hs:SO n s):qjc n_Z137 [dR s] o_Z137 fun(r:Int×Src×Unit)=>0≤r.1∧r.1≤255∧SO (n+1) r.2.1:=by
 obtain⟨c,a,g,⟨⟩⟩:=s
 obtain⟨h1,h2,h3⟩:=hs
 simp only at h1 h2 h3
 have ha:w64 (a+1)=a+1:=qag (by omega) (by omega)
 have hj:∀ b:Int,0≤b→b≤255→EvQ (fun φ=>Z137.j0 (mkR (run E (φ 0))) (φ 0) b c a g) o_Z137 fun(r:Int×Src×Unit)=>0≤r.1∧r.1≤255∧SO (n+1) r.2.1:=by
  intro b hb1 hb2
  simp only[Z137.j0_eq _ qae,ha]
  refine qcr (fun h=>qaS ⟨hb1,hb2,h1,?_,?_⟩) fun h=>?_
  ·show 0≤a+1;omega
  ·show a+1≤((n+1:Nat):Int);omega
  ·refine qaO (by decide) (qaS ⟨?_,?_,h1,?_,?_⟩)
   ·exact(qq9 _).1
   ·exact(qq9 _).2
   ·show 0≤a+1;omega
   ·show a+1≤((n+1:Nat):Int);omega
 refine qbI ?_
 simp only[run_Z137,Z137.ev]
 refine qcr (fun h=>?_) fun h=>hj 0 (by omega) (by omega)
 obtain⟨k,rfl⟩:∃ k:Nat,a=(k:Int):=⟨a.toNat,by omega⟩
 have hk:k<c.length:=by omega
 have hb:=h1 _ (List.getElem_mem hk)
 refine qbe (qaj hk) ?_
 have e:w64 c[k]=c[k]:=qag (by omega) (by omega)
 have:=hj _ hb.1 hb.2
 rw[← e] at this
 exact this
theorem qa1(n:Nat)(s:Src)(k:Int)(hn:n≤1000000000000)(hs:SO n s):qjc n_Z139 [dR s,dI k] o_Z139 fun(r:Int×Src×Unit)=>0≤r.1∧(r.1<k∨r.1=0)∧r.1≤65535∧SO (n+2) r.2.1:=by
 obtain⟨c,a,g,⟨⟩⟩:=s
 refine qbI ?_
 simp only[run_Z139,Z139.ev]
 refine qcr (fun h=>qaS ⟨Int.le_refl _,.inr rfl,(by show(0:Int)≤65535;decide),hs.le (by omega)⟩) fun h=>?_
 have hk:0<k:=by omega
 have tm:∀ x:Int,0≤x→0≤Int.tmod x k∧Int.tmod x k<k∧Int.tmod x k≤x:=fun x hx=>by
  rw[Int.tmod_eq_emod_of_nonneg hx]
  have h1:=Int.mul_ediv_add_emod x k
  have h2:0≤k*(x / k):=Int.mul_nonneg (by omega) (Int.ediv_nonneg hx (by omega))
  generalize k*(x / k)=y at h1 h2
  exact⟨Int.emod_nonneg _ (by omega),Int.emod_lt_of_pos _ hk,by omega⟩
 have hne:(k != 0)=true:=by simp;omega
 refine qaX (qnt n _ (by omega) hs) fun(r:Int×Src×Unit) ⟨r1,r2,r3⟩=>?_
 refine qcr (fun h2=>?_) fun h2=>?_
 ·refine qaX (qnt (n+1) _ (by omega) r3) fun(q:Int×Src×Unit) ⟨q1,q2,q3⟩=>?_
  refine qaO hne (qaS ?_)
  have e1:w64 (r.1*256)=r.1*256:=qag (by omega) (by omega)
  have e2:w64 (r.1*256+q.1)=r.1*256+q.1:=qag (by omega) (by omega)
  have:=tm (r.1*256+q.1) (by omega)
  refine⟨?_,.inl ?_,?_,q3⟩
  ·show 0≤Int.tmod _ _;rw[e1,e2];exact this.1
  ·show Int.tmod _ _<_;rw[e1,e2];exact this.2.1
  ·show Int.tmod _ _≤_;rw[e1,e2];omega
 ·have:=tm r.1 r1
  exact qaO hne (qaS ⟨this.1,.inl this.2.1,(by show Int.tmod _ _≤_;omega),r3.le (by omega)⟩)
theorem qgA(n:Nat)(s:Src)(k:Int)(hn:n≤1000000000000)(hs:SO n s):qjc n_Z138 [dR s,dI k] o_Z138 fun(r:Bool×Src×Unit)=>SO (n+2) r.2.1:=by
 obtain⟨c,a,g,⟨⟩⟩:=s
 refine qbI ?_
 simp only[run_Z138,Z138.ev]
 exact qaX (qa1 n _ k hn hs) fun(r:Int×Src×Unit) ⟨r1,r2,r3,r4⟩=>qaS r4
theorem qdZ(n:Nat)(s:Src)(l:List Int)(hl:l≠[])(hn:n≤1000000000000)(hs:SO n s):qjc n_Z136 [dR s,dL l] o_Z136 fun(r:Int×Src×Unit)=>r.1∈l∧SO (n+2) r.2.1:=by
 obtain⟨c,a,g,⟨⟩⟩:=s
 have:0<l.length:=List.length_pos_iff.2 hl
 refine qbI ?_
 simp only[run_Z136,Z136.ev]
 refine qaX (qa1 n _ _ hn hs) fun(r:Int×Src×Unit) ⟨r1,r2,r3,r4⟩=>?_
 obtain⟨k,hk⟩:∃ k:Nat,r.1=(k:Int):=⟨r.1.toNat,by omega⟩
 have hkl:k<l.length:=by omega
 rw[hk]
 exact qbe (qaj hkl) (qaS ⟨List.getElem_mem hkl,r4⟩)
end VeT
open Go Go.Proofs Ve
namespace VeT
theorem qef{c:List Sim}(hv:VC c):(qb1 c c.length).length≤192:=by
 have h:=hv.plc (k:=c.length) (Nat.le_refl _)
 have:=hv.1
 unfold plc at h
 omega
theorem qgB(c:List Sim)(p:Int)(st:Sim)(hc:Sm (.sl (.sl (.int .i64))) c)(hv:VC c)(hl:st.length=c.length)(hst:∀ x∈st,0≤x∧x≤3) :
  Ret E n_Z185 [dC (c,()),dI p,dL st] ⟨o_Z185,(c,p,st,(qb1 c c.length).map (zOf p st),())⟩:=by
 have hs:=hv.srt
 have h192:=qef hv
 have h48:=hv.1
 refine qai ?_
 simp only[run_Z185,Z185.ev]
 refine qaa (qim c hc hv) (qaa (qcW st (by omega)) ?_)
 refine Ev.start (p:=fun φ n=>Z185.l0 (mkR (run E (φ 0))) (φ 0) n (c,()) p st 0 0 p [] c st=_) 1 ?_ (fun _ _ _ h=>h)
 refine qam 1 (L:=fun φ n k o=>Z185.l0 (mkR (run E (φ 0))) (φ 0) n (c,()) p st k 0 p o c st) (len:=c.length) (fun k=>(qb1 c k).map (zOf p st)) (fun _ _ _ _ _=>rfl) (fun k r hk ih=>?_) ?_
 ·simp only[Z185.l0_succ _ qae]
  have hpl:=hv.plc (k:=k) (by omega)
  unfold plc at hpl
  have hf4:=hv.fIdx4 hk
  refine qax (decide_eq_true (by show(k:Int)<(c.length:Int);omega)) (qaa (qca c k hk hc) ?_)
  refine Ev.start (p:=fun φ n=>Z185.l1 (mkR (run E (φ 0))) (φ 0) (φ 1) n (c,()) p st (k:Int) (qaH c k) 0 0 p ((qb1 c k).map (zOf p st)) c st=_) 2 ?_ (fun _ _ _ h=>h)
  have:=qam 2 (L:=fun φ n j o=>Z185.l1 (mkR (run E (φ 0))) (φ 0) (φ 1) n (c,()) p st (k:Int) (qaH c k) j 0 p o c st) (len:=(qaH c k).length) (fun j=>(qb1 c k++qmV c k j).map (zOf p st)) (r:=r) (fun _ _ _ _ _=>rfl) (fun j r hj ih=>?_) ?_
  ·simpa [qmV] using this
  ·simp only[Z185.l1_succ _ qae]
   obtain⟨f,f1,f2,f3⟩:=qe6 hs hv hk hj
   obtain⟨a,ha,ea,hka,eka⟩:=qg7 hl hst hk
   obtain⟨b,hb,eb,hfb,efb⟩:=qg7 hl hst f1
   have hz:=qb5 p a b (by omega) (by omega)
   have e2:zOf p st ((k:Int),(j:Int),(qaH c k).getD j 0,())=(p,(a:Int),(b:Int),List.replicate (a*b) 0,()):=by
    unfold zOf
    simp only[Int.toNat_natCast,ea,eb,f3]
   have erow:qmV c k (j+1)=qmV c k j++[((k:Int),(j:Int),(qaH c k).getD j 0,())]:=by
    unfold qmV
    rw[List.range_succ,List.map_append,List.map_singleton]
   rw[erow,← List.append_assoc,List.map_append (l₂:=[_]),List.map_singleton,e2] at ih
   refine qax (decide_eq_true (by omega)) (qab (qaj hka) (qab (qaj hj) ?_))
   simp only[eka,f2]
   refine qab (qaj hfb) ?_
   simp only[efb]
   refine qaa hz (qao (by simp only[List.length_map,List.length_append,qem,List.length_singleton,decide_eq_true_eq];omega) ?_)
   rw[qad (by omega)];exact ih
  ·simp only[Z185.l1_succ _ qae]
   refine qaC (decide_eq_false (by omega)) ?_
   rw[qad (by omega)]
   have:qb1 c (k+1)=qb1 c k++qmV c k (qaH c k).length:=rfl
   rw[this] at ih
   exact ih
 ·simp only[Z185.l0_succ _ qae]
  exact qaC (decide_eq_false (by show ¬ ((c.length:Int)<(c.length:Int));omega)) qal
theorem qcf(c:List Sim)(p:Int)(n:Nat)(hn:n≤3)(hc:Sm (.sl (.sl (.int .i64))) c)(hv:VC c) :
  Ret E n_Z177 [dC (c,()),dI p,dI (n:Int)] ⟨o_Z177,(c,p,List.replicate c.length (n:Int),List.replicate (qb1 c c.length).length (qbf p n),())⟩:=by
 have h192:=qef hv
 have h48:=hv.1
 refine qai ?_
 simp only[run_Z177,Z177.ev]
 refine Ev.start (p:=fun φ q=>Z177.l0 (mkR (run E (φ 0))) (φ 0) q (c,()) p (n:Int) 0 0 []=_) 1 ?_ (fun _ _ _ h=>h)
 refine qam 1 (L:=fun φ q k o=>Z177.l0 (mkR (run E (φ 0))) (φ 0) q (c,()) p (n:Int) k 0 o) (len:=c.length) (fun k=>List.replicate k (n:Int)) (fun _ _ _ _ _=>rfl) (fun k r hk ih=>?_) ?_
 ·simp only[Z177.l0_succ _ qae]
  rw[List.replicate_succ'] at ih
  refine qax (decide_eq_true (by show(k:Int)<(c.length:Int);omega)) (qao (by simp only[List.length_replicate,List.length_singleton,decide_eq_true_eq];omega) ?_)
  rw[qad (by omega)];exact ih
 ·simp only[Z177.l0_succ _ qae]
  have hnew:=qgB c p (List.replicate c.length (n:Int)) hc hv (by simp) fun x hx=>by
   rw[List.eq_of_mem_replicate hx];omega
  refine qaC (decide_eq_false (by show ¬ ((c.length:Int)<(c.length:Int));omega)) (qaa hnew ?_)
  obtain⟨M,hM⟩:∃ M,M=(qb1 c c.length).map (zOf p (List.replicate c.length (n:Int))):=⟨_,rfl⟩
  rw[← hM]
  have hMl:M.length=(qb1 c c.length).length:=by rw[hM,List.length_map]
  rw[← hMl] at h192 ⊢
  refine Ev.start (p:=fun φ q=>Z177.l1 (mkR (run E (φ 0))) (φ 0) q p (n:Int) 0 0 p M c (List.replicate c.length (n:Int))=_) 1 ?_ (fun _ _ _ h=>h)
  have:=qam 1 (L:=fun φ q k o=>Z177.l1 (mkR (run E (φ 0))) (φ 0) q p (n:Int) k 0 p o c (List.replicate c.length (n:Int))) (len:=M.length) (fun k=>List.replicate k (qbf p n)++M.drop k) (r:=some ⟨o_Z177,(c,p,List.replicate c.length (n:Int),List.replicate M.length (qbf p n),())⟩) (fun _ _ _ _ _=>rfl) (fun k r hk ih=>?_) ?_
  ·simpa using this
  ·simp only[Z177.l1_succ _ qae]
   have hlen:(List.replicate k (qbf p n)++M.drop k).length=M.length:=by simp;omega
   have hset:(List.replicate k (qbf p n)++M.drop k).set k (qbf p n)=List.replicate (k+1) (qbf p n)++M.drop (k+1):=by
    rw[List.set_append_right _ _ (by simp),List.length_replicate,Nat.sub_self,List.drop_eq_getElem_cons hk,List.set_cons_zero,List.replicate_succ',List.append_assoc,List.singleton_append]
   refine qax (decide_eq_true (by rw[hlen];omega)) (qaa (qfC p n (by omega)) (qao (by simp only[hlen,Bool.and_eq_true,decide_eq_true_eq];omega) ?_))
   rw[qad (by omega),Int.toNat_natCast]
   have e:((qbf p n).1,(qbf p n).2.1,(qbf p n).2.2.1,(qbf p n).2.2.2.1,())=qbf p n:=rfl
   show Ev fun φ=>Z177.l1 (mkR (run E (φ 0))) (φ 0) (φ 1) p (n:Int) ((k+1:Nat):Int) 0 p (List.set (List.replicate k (qbf p n)++M.drop k) k (qbf p n)) c (List.replicate c.length (n:Int))=r
   rw[hset]
   exact ih
  ·simp only[Z177.l1_succ _ qae]
   refine qaC (decide_eq_false (by simp)) (qah ?_)
   simp
end VeT
open Go Go.Proofs Ve
namespace VeT
def qhw:List Int→Int→List Int
 | [],n=>[n]
 | x::r,n=>if x<n then x::qhw r n else if n<x then n::x::r else x::r
theorem qhJ:∀ {l:List Int} {n y:Int},y∈qhw l n↔y=n∨y∈l
 | [],n,y=>by simp[qhw]
 | x::r,n,y=>by
  unfold qhw
  split
  ·rw[List.mem_cons,qhJ,List.mem_cons]
   constructor
   ·rintro(h | h | h)
    ·exact .inr (.inl h)
    ·exact .inl h
    ·exact .inr (.inr h)
   ·rintro(h | h | h)
    ·exact .inr (.inl h)
    ·exact .inl h
    ·exact .inr (.inr h)
  ·split
   ·rw[List.mem_cons]
   ·have:x=n:=by omega
    subst this
    rw[List.mem_cons]
    exact⟨fun h=>.inr h,fun h=>h.elim (fun h=>.inl h) id⟩
theorem qlY:∀ {l:List Int} {n:Int},l.Pairwise (·<·)→(qhw l n).Pairwise (·<·)
 | [],n,_=>by simp[qhw]
 | x::r,n,h=>by
  rw[List.pairwise_cons] at h
  unfold qhw
  split
  ·rw[List.pairwise_cons]
   refine⟨fun y hy=>?_,qlY h.2⟩
   rcases qhJ.1 hy with rfl | hy
   ·assumption
   ·exact h.1 y hy
  ·split
   ·rw[List.pairwise_cons]
    refine⟨fun y hy=>?_,List.pairwise_cons.2 h⟩
    rcases List.mem_cons.1 hy with rfl | hy
    ·assumption
    ·have:=h.1 y hy;omega
   ·exact List.pairwise_cons.2 h
theorem qit:∀ {l:List Int} {n:Int},(qhw l n).length≤l.length+1
 | [],n=>by simp[qhw]
 | x::r,n=>by
  unfold qhw
  split
  ·have:=qit (l:=r) (n:=n);simp;exact this
  ·split<;>simp
theorem VC.get{c:List Sim}(h:VC c){s:Sim}(hs:s∈c):Vx s:=by
 obtain⟨k,hk,rfl⟩:=List.mem_iff_getElem.1 hs
 have:=h.2.1 k hk
 rwa [qac hk] at this
noncomputable def qs0(vs im:List Int)(v:Int):Int:=match vs.findIdx? (fun x=>pb (x=v)) with
 | some i=>im.getD i (-1)
 | none=>-1
noncomputable def img(vs im s:List Int):List Int:=(s.map (qs0 vs im)).foldl qhw []
theorem qos(l:Sim)(n:Int)(hl:l.length≤1048576):Ret E n_Z133 [dL l,dI n] ⟨o_Z133,(qhw l n,())⟩:=by
  refine qai ?_
  simp only[run_Z133,Z133.ev]
  refine Ev.start (p:=fun φ N=>Z133.l0 (mkR (run E (φ 0))) (φ 0) N l n false 0 []=_) 1 ?_ (fun _ _ _ h=>h)
  refine(qfd 1 (σ:=Bool×Nat×List Int) (L:=fun φ N st=>Z133.l0 (mkR (run E (φ 0))) (φ 0) N l n st.1 (st.2.1:Int) st.2.2) (fun _ _ _ _=>rfl) (fun st=>st.2.1≤l.length∧st.2.2.length≤st.2.1+(bif st.1 then 1 else 0))
    (fun st=>some ⟨o_Z133,(st.2.2++(bif st.1 then l.drop st.2.1 else qhw (l.drop st.2.1) n),())⟩) (fun st=>l.length-st.2.1) (fun st hi ih=>?_) (false,0,[]) ⟨Nat.zero_le _,Nat.zero_le _⟩).to (by simp only[List.nil_append,cond_false,List.drop_zero])
  obtain⟨d,i,o⟩:=st
  obtain⟨h1,h2⟩:=hi
  simp only at h1 h2 ih ⊢
  by_cases hlt:i<l.length
  · have ol:o.length≤i+1:=by cases d<;>simp at h2<;>omega
    have hd:l.drop i=l[i]::l.drop (i+1):=List.drop_eq_getElem_cons hlt
    -- what follows
    have step:∀(d':Bool) (o' X:List Int),o'.length≤i+(bif d' then 1 else 0)→(o'++[l[i]])++(bif d' then l.drop (i+1) else qhw (l.drop (i+1)) n)=X →
        Ev fun φ=>Z133.j2 (mkR (run E (φ 0))) (φ 0) (φ 1) l n d' (i:Int) o'=some ⟨o_Z133,(X,())⟩:=fun d' o' X hol hX=>by
      have ho2:o'.length≤i+1:=by cases d'<;>simp at hol<;>omega
      have:=ih (d',i+1,o'++[l[i]]) ⟨by show i+1≤_;omega,by
        simp only[List.length_append,List.length_singleton]
        cases d'<;>simp at hol ⊢<;>omega⟩ (by simp only;omega)
      simp only at this
      rw[hX] at this
      simp only[Z133.j2_eq _ qae]
      rw[qad (by omega)]
      exact qab (qaj hlt) (qao (by simp;omega) this)
    simp only[Z133.l0_succ _ qae]
    refine qax (decide_eq_true (by omega)) ?_
    cases d with
    | true =>
      refine qaC rfl ?_
      have e:o++List.drop i l=(o++[l[i]])++l.drop (i+1):=by rw[hd];simp
      simp only[cond_true] at h2 ⊢
      rw[e]
      simp only[Z133.j1_eq _ qae]
      refine qaC rfl ?_
      exact step true o _ h2 (by simp only[cond_true])
    | false =>
      refine qax rfl (qab (qaj hlt) ?_)
      simp only[cond_false,Nat.add_zero] at h2 ⊢
      simp only[Z133.j1_eq _ qae]
      refine qdG (fun hge=>?_) fun hge=>?_
      · have hge:l[i]≥n:=hge
        refine qab (qaj hlt) (qdG (fun hgt=>?_) fun hgt=>?_)
        · have e:o++qhw (List.drop i l) n=((o++[n])++[l[i]])++l.drop (i+1):=by
            rw[hd,qhw,if_neg (by omega),if_pos (show n<l[i] from hgt)];simp
          rw[e]
          exact qao (by simp;omega) (step true (o++[n]) _ (by simp;omega) (by simp only[cond_true]))
        · have hgt:¬ l[i]>n:=hgt
          have e:o++qhw (List.drop i l) n=(o++[l[i]])++l.drop (i+1):=by
            rw[hd,qhw,if_neg (by omega),if_neg (by omega)];simp
          rw[e]
          exact step true o _ (by simp;omega) (by simp only[cond_true])
      · have hge:¬ l[i]≥n:=hge
        have e:o++qhw (List.drop i l) n=(o++[l[i]])++qhw (l.drop (i+1)) n:=by
          rw[hd,qhw,if_pos (by omega)];simp
        rw[e]
        exact step false o _ (by simp;omega) (by simp only[cond_false])
  · have hi:i=l.length:=by omega
    subst hi
    simp only[Z133.l0_succ _ qae,List.drop_length]
    refine qaC (decide_eq_false (by omega)) ?_
    cases d with
    | true=>exact qaC rfl (qah (by simp only[cond_true,List.append_nil]))
    | false =>
      simp only[cond_false,Nat.add_zero] at h2 ⊢
      exact qax rfl (qao (by simp;omega) qal)
end VeT
open Go Go.Proofs Ve
namespace VeT
def qqa:Sim→List Sim
 | []=>[[]]
 | a::s=>qqa s++(qqa s).map (a::·)
theorem qia:∀ {s:Sim},(qqa s).length=2 ^ s.length
 | []=>rfl
 | a::s=>by rw[qqa,List.length_append,List.length_map,qia,List.length_cons,Nat.pow_succ];omega
theorem qhM:∀ {x s:Sim},x.Sublist s→x∈qqa s
 | _,_,.slnil=>by simp[qqa]
 | _,_,.cons a h=>by rw[qqa];exact List.mem_append.2 (.inl (qhM h))
 | _,_,.cons_cons a h=>by rw[qqa];exact List.mem_append.2 (.inr (List.mem_map.2 ⟨_,qhM h,rfl⟩))
theorem qiR{α:Type}[DecidableEq α]:∀ {c d:List α},c.Nodup→(∀ x∈c,x∈d)→c.length≤d.length
 | [],d,_,_=>Nat.zero_le _
 | x::c,d,h,hs=>by
  obtain⟨h1,h2⟩:=List.nodup_cons.1 h
  have hx:=hs x List.mem_cons_self
  have:=qiR h2 (d:=d.erase x) fun y hy=>(List.mem_erase_of_ne (fun e=>h1 (by rw[← e];exact hy))).2 (hs y (List.mem_cons_of_mem _ hy))
  rw[List.length_erase_of_mem hx] at this
  have:=List.length_pos_of_mem hx
  rw[List.length_cons];omega
theorem Srt.nodup{c:List Sim}(h:Srt c):c.Nodup:=by
 rw[List.nodup_iff_pairwise_ne,List.pairwise_iff_getElem]
 intro i j hi hj hij e
 have:=h i j hj hij
 rw[e,qco.2 rfl] at this
 omega
theorem Vx.fa{x s:Sim}(h:Vx s)(hf:Fa x s):Vx x:=by
 refine⟨List.length_pos_iff.2 hf.1,?_,qdq (h.2.2.1.pairwise.sublist hf.2),fun y hy=>h.2.2.2 y (hf.2.subset hy)⟩
 have:=hf.2.length_le
 have:=h.2.1
 omega
theorem qio{l c:List Sim}(hs:Srt c)(hm:∀ x,x∈c↔∃ s∈l,Fa x s):c.length≤(l.map fun s=>2 ^ s.length).sum:=by
 have h:=qiR hs.nodup (d:=l.flatMap qqa) fun x hx=>by
  obtain⟨s,hs,hf⟩:=(hm x).1 hx
  exact List.mem_flatMap.2 ⟨s,hs,qhM hf.2⟩
 rw[List.length_flatMap] at h
 simp only[qia] at h
 exact h
theorem qjY(l:List Sim)(hl:l.length≤1024)(hx:∀ s∈l,Vx s)(hn:∀ c:List Sim,Srt c→(∀ x,x∈c↔∃ s∈l,Fa x s)→c.length≤48) :
  qjc n_Z162 [dLL l] o_Z162 fun(r:List Sim×Unit)=>VC r.1∧∀ x,x∈r.1↔∃ s∈l,Fa x s:=by
 obtain⟨c',h1,h2,h3,_⟩:=qmQ l hl fun s hs=>⟨(hx s hs).1,(hx s hs).2.1⟩
 have hv:∀ x∈c',Vx x:=fun x hx'=>by
  obtain⟨s,hs,hf⟩:=(h3 x).1 hx'
  exact(hx s hs).fa hf
 have hg:∀ k,k<c'.length→c'.getD k []∈c':=fun k hk=>by
  rw[List.getD_eq_getElem?_getD,List.getElem?_eq_getElem hk];exact List.getElem_mem hk
 refine⟨(c',()),h1,⟨hn c' h2 h3, fun k hk=>hv _ (hg k hk),fun k hk1 (hk:k<c'.length)=>?_,fun k (hk:k<c'.length) f hf=>?_⟩,h3⟩
 ·have:=h2 (k-1) k hk (by omega)
  rw[List.getD_eq_getElem?_getD,List.getD_eq_getElem?_getD,List.getElem?_eq_getElem hk,List.getElem?_eq_getElem (show k-1<c'.length by omega)]
  exact this
 ·obtain⟨s,hs,hfa⟩:=(h3 _).1 (hg k hk)
  obtain⟨h1,i,hi,rfl⟩:=qcK.1 hf
  refine(h3 _).2 ⟨s,hs,qkN ⟨fun e=>?_,List.eraseIdx_sublist _ _⟩ hfa⟩
  have:=congrArg List.length e
  rw[List.length_eraseIdx_of_lt hi] at this
  rw[List.length_nil] at this
  omega
theorem VC.sm{c:List Sim}(h:VC c):Sm (.sl (.sl (.int .i64))) c:=by
 refine⟨by have:=h.1;show c.length≤1048576;omega,fun s hs=>?_⟩
 obtain⟨k,hk,rfl⟩:=List.getElem_of_mem hs
 have:=h.2.1 k hk
 rw[List.getD_eq_getElem?_getD,List.getElem?_eq_getElem hk] at this
 have:=this.2.1
 refine⟨?_,fun _ _=>trivial⟩
 show(c[k]).length≤1048576
 simp at this
 omega
theorem qiT(n:Nat)(s:Src)(v most:Int)(hn:n≤100000000000)(hs:SO n s)(hm:1≤most∧most≤4)(hv:1≤v∧v≤10) :
  qjc n_Z164 [dR s,dI v,dI most] o_Z164 fun(r:Sim×Src×Unit)=>Vx r.1∧(r.1.length:Int)≤most∧(∀ x∈r.1,x<v)∧SO (n+12) r.2.1:=by
 obtain⟨c,a,g,⟨⟩⟩:=s
 refine qbI ?_
 simp only[run_Z164,Z164.ev]
 refine qaX (qa1 n _ most (by omega) hs) fun(r:Int×Src×Unit) ⟨r1,r2,r3,r4⟩=>?_
 obtain⟨k0,hk0⟩:∃ k:Nat,(r.1:Int)=(k:Int):=⟨Int.toNat r.1,(Int.toNat_of_nonneg r1).symm⟩
 have e0:w64 (1+r.1)=((k0+1:Nat):Int):=by rw[hk0,qag (by omega) (by omega)];omega
 refine EvQ.start 1 (L:=fun φ N=>Z164.l0 (mkR (run E (φ 0))) (φ 0) N v [] (w64 (1+r.1)) r.2.1.1 r.2.1.2.1 r.2.1.2.2.1) ?_ (fun _ _ _=>rfl)
 rw[e0]
 refine EvQ.loop 1 (σ:=Sim×Nat×Src) (L:=fun φ N st=>Z164.l0 (mkR (run E (φ 0))) (φ 0) N v st.1 (st.2.1:Int) st.2.2.1 st.2.2.2.1 st.2.2.2.2.1) (fun _ _ _ _=>rfl)
  (fun st=>st.1.Pairwise (·<·)∧(∀ x∈st.1,0≤x∧x<v)∧((st.1.length+st.2.1:Nat):Int)≤most∧1≤st.1.length+st.2.1∧SO (n+10-2*st.2.1) st.2.2) (fun st=>st.2.1) (fun st hi ih=>?_) ([],k0+1,r.2.1) ⟨List.Pairwise.nil,fun x hx=>by simp at hx,?_,?_,?_⟩
 ·obtain⟨o,k,s1⟩:=st
  obtain⟨i1,i2,i3,i4,i5⟩:=hi
  simp only at i1 i2 i3 i4 i5 ih ⊢
  simp only[Z164.l0_succ _ qae]
  refine qcr (fun h=>?_) fun h=>?_
  ·refine qaX (qa1 _ s1 v (by omega) i5) fun(q:Int×Src×Unit) ⟨q1,q2,q3,q4⟩=>?_
   refine qaw (qos o q.1 (by omega)) ?_
   rw[show w64 ((k:Int)-1)=((k-1:Nat):Int) by rw[qag (by omega) (by omega)];omega]
   refine ih (qhw o q.1,k-1,q.2.1) ⟨qlY i1,fun x hx=>?_,?_,?_,?_⟩ (by show k-1<k;omega)
   ·rcases qhJ.1 hx with rfl | hx
    ·omega
    ·exact i2 x hx
   ·have:=qit (l:=o) (n:=q.1)
    show((((qhw o q.1).length+(k-1):Nat)):Int)≤most
    omega
   ·have:1≤(qhw o q.1).length:=List.length_pos_of_mem (qhJ.2 (.inl rfl))
    show 1≤(qhw o q.1).length+(k-1)
    omega
   ·exact q4.le (by show n+10-2*k+2≤n+10-2*(k-1);omega)
  ·refine qaS ⟨⟨by show 1≤o.length;omega,by show o.length≤4;omega,qdq i1,fun x hx=>⟨(i2 x hx).1,by have:=(i2 x hx).2;omega⟩⟩,by show(o.length:Int)≤most;omega,fun x hx=>(i2 x hx).2,i5.le (by omega)⟩
 ·show((([]:Sim).length+(k0+1):Nat):Int)≤most
  simp;omega
 ·show 1≤([]:Sim).length+(k0+1)
  simp
 ·exact r4.le (by show n+2≤n+10-2*(k0+1);omega)
def S5(c:List Sim):Prop:=∀ x∈c,x.length≤3∧∀ v∈x,v<5
theorem qlC(n:Nat)(s:Src)(hn:n≤10000000000)(hs:SO n s) :
    qjc n_Z179 [dR s] o_Z179 fun(r:List Sim×Src×Unit)=>VC r.1∧S5 r.1∧SO (n+50) r.2.1:=by
  obtain⟨c,a,g,⟨⟩⟩:=s
  have fixed:∀(l:List Sim),l.length≤1024→(∀ s∈l,Vx s)→(l.map fun s=>2 ^ s.length).sum≤48→(∀ s∈l,s.length≤3∧∀ v∈s,v<5) →
      qjc n_Z162 [dLL l] o_Z162 fun(r:List Sim×Unit)=>VC r.1∧S5 r.1:=fun l h1 h2 h3 h5=>by
    obtain⟨r,g1,g2,g3⟩:=qjY l h1 h2 fun c hs hm=>Nat.le_trans (qio hs hm) h3
    refine⟨r,g1,g2,fun x hx=>?_⟩
    obtain⟨s,hs,hf⟩:=(g3 x).1 hx
    have:=hf.2.length_le
    have:=(h5 s hs).1
    exact⟨by omega,fun v hv=>(h5 s hs).2 v (hf.2.subset hv)⟩
  have vx2:∀ a b:Int,0≤a→a<b→b≤9→Vx [a,b]:=fun a b h1 h2 h3=>⟨by simp,by simp,qdq (by simp;exact h2),fun x hx=>by simp at hx;rcases hx with rfl | rfl<;>omega⟩
  have vx3:∀ a b c:Int,0≤a→a<b→b<c→c≤9→Vx [a,b,c]:=fun a b c h1 h2 h3 h4=>⟨by simp,by simp,qdq (by simp;omega),fun x hx=>by simp at hx;rcases hx with rfl | rfl | rfl<;>omega⟩
  refine qbI ?_
  simp only[run_Z179,Z179.ev]
  refine qaX (qa1 n _ 6 (by omega) hs) fun(r:Int×Src×Unit) ⟨r1,r2,r3,r4⟩=>?_
  refine qc9 (fun _=>qaX (fixed _ (by decide) (fun s hs=>?_) (by decide) (by decide)) fun(q:List Sim×Unit) ⟨q1,q2⟩=>qaS ⟨q1,q2,r4.le (by omega)⟩) fun _=>?_
  · simp at hs;rcases hs with rfl | rfl | rfl<;>exact vx2 _ _ (by decide) (by decide) (by decide)
  refine qc9 (fun _=>qaX (fixed _ (by decide) (fun s hs=>?_) (by decide) (by decide)) fun(q:List Sim×Unit) ⟨q1,q2⟩=>qaS ⟨q1,q2,r4.le (by omega)⟩) fun _=>?_
  · simp at hs;rcases hs with rfl | rfl<;>exact vx3 _ _ _ (by decide) (by decide) (by decide) (by decide)
  refine qc9 (fun _=>qaX (fixed _ (by decide) (fun s hs=>?_) (by decide) (by decide)) fun(q:List Sim×Unit) ⟨q1,q2⟩=>qaS ⟨q1,q2,r4.le (by omega)⟩) fun _=>?_
  · simp at hs;rcases hs with rfl | rfl | rfl | rfl<;>exact vx3 _ _ _ (by decide) (by decide) (by decide) (by decide)
  refine qc9 (fun _=>qaX (fixed _ (by decide) (fun s hs=>?_) (by decide) (by decide)) fun(q:List Sim×Unit) ⟨q1,q2⟩=>qaS ⟨q1,q2,r4.le (by omega)⟩) fun _=>?_
  · simp at hs;rcases hs with rfl | rfl | rfl | rfl | rfl<;>exact vx2 _ _ (by decide) (by decide) (by decide)
  refine qaX (qa1 (n+2) _ 4 (by omega) r4) fun(q:Int×Src×Unit) ⟨q1,q2,q3,q4⟩=>?_
  obtain⟨k0,hk0⟩:∃ k:Nat,(q.1:Int)=(k:Int):=⟨Int.toNat q.1,(Int.toNat_of_nonneg q1).symm⟩
  refine EvQ.start 1 (L:=fun φ N=>Z179.l0 (mkR (run E (φ 0))) (φ 0) N q.1 [] q.2.1.1 q.2.1.2.1 q.2.1.2.2.1) ?_ (fun _ _ _=>rfl)
  rw[hk0]
  refine EvQ.loop 1 (σ:=Nat×List Sim×Src) (L:=fun φ N st=>Z179.l0 (mkR (run E (φ 0))) (φ 0) N (st.1:Int) st.2.1 st.2.2.1 st.2.2.2.1 st.2.2.2.2.1) (fun _ _ _ _=>rfl)
    (fun st=>(∀ x∈st.2.1,Vx x∧x.length≤3∧∀ v∈x,v<5)∧st.2.1.length+st.1≤3∧SO (n+40-12*st.1) st.2.2) (fun st=>st.1) (fun st hi ih=>?_) (k0,[],q.2.1) ⟨fun x hx=>by simp at hx,by simp;omega,q4.le (by show n+2+2≤n+40-12*k0;omega)⟩
  obtain⟨k,o,s1⟩:=st
  obtain⟨i1,i2,i3⟩:=hi
  simp only at i1 i2 i3 ih ⊢
  simp only[Z179.l0_succ _ qae]
  refine qcr (fun h=>?_) fun h=>?_
  · refine qaX (qiT _ s1 5 3 (by omega) i3 (by decide) (by decide)) fun(t:Sim×Src×Unit) ⟨t1,t2,t3,t4⟩=>?_
    refine qaO (decide_eq_true (by simp;omega)) ?_
    rw[show w64 ((k:Int)-1)=((k-1:Nat):Int) by rw[qag (by omega) (by omega)];omega]
    refine ih (k-1,o++[t.1],t.2.1) ⟨fun x hx=>?_,?_,?_⟩ (by show k-1<k;omega)
    · rcases List.mem_append.1 hx with hx | hx
      · exact i1 x hx
      · rw[List.mem_singleton] at hx;subst hx;exact⟨t1,by omega,t3⟩
    · show(o++[t.1]).length+(k-1)≤3
      simp;omega
    · exact t4.le (by show n+40-12*k+12≤n+40-12*(k-1);omega)
  · refine qaX (fixed o (by omega) (fun s hs=>(i1 s hs).1) ?_ fun s hs=>(i1 s hs).2) fun(q:List Sim×Unit) ⟨q1,q2⟩=>qaS ⟨q1,q2,i3.le (by omega)⟩
    have:∀(l:List Sim),(∀ x∈l,x.length≤3)→(l.map fun s=>2 ^ s.length).sum≤8*l.length:=by
      intro l
      induction l with
      | nil=>intro _;simp
      | cons x l ih =>
        intro h
        have h1:=h x List.mem_cons_self
        have h2:=ih fun y hy=>h y (List.mem_cons_of_mem _ hy)
        have h3:2 ^ x.length≤2 ^ 3:=Nat.pow_le_pow_right (by decide) h1
        simp only[List.map_cons,List.sum_cons,List.length_cons]
        omega
    have:=this o fun x hx=>(i1 x hx).2.1
    omega
end VeT
open Go Go.Proofs Ve
namespace VeT
noncomputable def rkX(x:Shf)(k:Int):Nat:=rkM x.2.1 (SD x.1 x.2.2.1 (k+1)).toNat (SD x.1 x.2.2.1 k).toNat (qev x k).2.2.2.1
theorem qh5{x:Shf}(hs:ISh x){k:Int}(hk:0≤k∧k≤3):((qq5 x k).length:Int)=SD x.1 x.2.2.1 k-(rkX x k:Int)-(rkX x (k-1):Int):=by
 obtain⟨h,hw⟩:=hs
 obtain⟨W,eW,bW,tW⟩:=qb3 h k
 have hl:(qdO x.1 x.2.1 x.2.2.1 x.2.2.2.1 (k-1)).length=(SD x.1 x.2.2.1 k).toNat*(SD x.1 x.2.2.1 (k-1)).toNat:=by rw[qbP,Int.sub_add_cancel]
 have:=qrG h.2.1 hl (qbF h (k-1)) qbP (qbF h k) fun j hj i hi=>by
  by_cases h1:1≤k
  ·exact qrZ h hw h1 hi hj
  ·rw[qk6 h.1 _ (by omega)] at hj
   exact absurd hj (by simp)
 have e1:rkX x (k-1)=rkM x.2.1 (SD x.1 x.2.2.1 k).toNat (SD x.1 x.2.2.1 (k-1)).toNat (qdO x.1 x.2.1 x.2.2.1 x.2.2.2.1 (k-1)):=by unfold rkX;rw[Int.sub_add_cancel];rfl
 have e2:rkX x k=rkM x.2.1 (SD x.1 x.2.2.1 (k+1)).toNat (SD x.1 x.2.2.1 k).toNat (qdO x.1 x.2.1 x.2.2.1 x.2.2.2.1 k):=rfl
 have e3:(qq5 x k).length=(qq2 x.2.1 (SD x.1 x.2.2.1 k).toNat (qct (SD x.1 x.2.2.1 k).toNat (SD x.1 x.2.2.1 (k-1)).toNat (qdO x.1 x.2.1 x.2.2.1 x.2.2.2.1 (k-1))) (qjU x.2.1 (SD x.1 x.2.2.1 (k+1)).toNat (SD x.1 x.2.2.1 k).toNat (qdO x.1 x.2.1 x.2.2.1 x.2.2.2.1 k))).length:=rfl
 rw[← e1,← e2,← e3,tW] at this
 omega
end VeT
open Go Go.Proofs Ve
namespace VeT
theorem qfL(p:Int)(R W:Nat)(cells:Sim)(hp:2≤p∧p≤251)(hR:R≤1048576)(hW:W≤1048576)(hRW:R*W≤1048576)(hl:cells.length=R*W)(he:qaD cells p) :
  Ret E n_Z153 [dM (p,(R:Int),(W:Int),cells,())] ⟨o_Z153,((rkM p R W cells:Int),())⟩:=by
 obtain⟨det,h⟩:=qdE p R W cells hp hR hW hRW hl he
 refine qai ?_
 simp only[run_Z153,Z153.ev]
 refine qaa h (qah ?_)
 simp only[qa5]
 rfl
theorem qpl(x:Shf)(k:Int)(hs:VS x.1 x.2.1 x.2.2.1 x.2.2.2.1):Ret E n_Z153 [dM (qev x k)] ⟨o_Z153,((rkX x k:Int),())⟩∧rkX x k≤32:=by
 obtain⟨H,eH,bH,tH⟩:=qb3 hs (k+1)
 obtain⟨W,eW,bW,tW⟩:=qb3 hs k
 have hp:2≤x.2.1∧x.2.1≤251:=⟨hs.2.1.1,hs.2.1.2.1⟩
 have hRC:=qcs bH bW
 have hl:(qev x k).2.2.2.1.length=H*W:=by show(qdO _ _ _ _ k).length=_;rw[qbP,tH,tW]
 have he:qaD (qev x k).2.2.2.1 x.2.1:=qbF hs k
 have hM:qev x k=(x.2.1,(H:Int),(W:Int),(qev x k).2.2.2.1,()):=by
  show(_,SD x.1 x.2.2.1 (k+1),SD x.1 x.2.2.1 k,_,_)=_
  rw[eH,eW];rfl
 have h:=qfL x.2.1 H W (qev x k).2.2.2.1 hp (by omega) (by omega) (by omega) hl he
 rw[← hM] at h
 have e:rkX x k=rkM x.2.1 H W (qev x k).2.2.2.1:=by unfold rkX;rw[tH,tW]
 rw[e]
 refine⟨h,?_⟩
 have:=(qgs hp.1 (qb8 he hl) W).2.1
 unfold rkM;omega
theorem qop(x:Shf)(k:Int)(hx:Sm (.st cS) x)(hk:0≤k∧k≤3)(hs:ISh x):Ret E n_Z205 [dS x,dI k] ⟨o_Z205,(((qq5 x k).length:Int),())⟩:=by
 obtain⟨W,eW,bW,tW⟩:=qb3 hs.1 k
 obtain⟨h1,b1⟩:=qpl x k hs.1
 obtain⟨h2,b2⟩:=qpl x (k-1) hs.1
 have e2:(qev x k).2.2.1=(W:Int):=eW
 rw[qh5 hs hk]
 refine qai ?_
 simp only[run_Z205,Z205.ev,qag (n:=k-1) (by omega) (by omega)]
 refine qaa (qeo x k (by omega) hx.1 hs.1) (qaa (qeo x (k-1) (by omega) hx.1 hs.1) (qaa h1 (qaa h2 (qah ?_))))
 show some (⟨o_Z205,(w64 (w64 ((qev x k).2.2.1-(rkX x k:Int))-(rkX x (k-1):Int)),())⟩:Dv)=_
 rw[e2,eW,qag (n:=(W:Int)-(rkX x k:Int)) (by omega) (by omega),qag (by omega) (by omega)]
noncomputable def qqH(x:Shf)(n:Nat):Sim:=(List.range n).map fun(k:Nat)=>((qq5 x (k:Int)).length:Int)
theorem qpv{x:Shf}{n:Nat}:qqH x (n+1)=qqH x n++[((qq5 x (n:Int)).length:Int)]:=by unfold qqH;rw[List.range_succ,List.map_append];rfl
theorem qhX{x:Shf}{n:Nat}:(qqH x n).length=n:=by simp[qqH]
open Classical in
noncomputable def qcm(x:Shf):Sim×Int×Unit:=if ISh x then(qqH x 4,0,()) else([],1,())
theorem qeB(x:Shf)(hx:Sm (.st cS) x):Ret E n_Z121 [dLL x.1,dI x.2.1,dL x.2.2.1,dMs x.2.2.2.1] ⟨o_Z121,qcm x⟩:=by
 refine qai ?_
 simp only[run_Z121,Z121.ev]
 refine qaa (qgm x hx) ?_
 unfold qcm
 by_cases h:ISh x
 ·rw[if_pos h]
  refine qaC (by rw[qaF h];rfl) ?_
  refine Ev.start (p:=fun φ n=>Z121.l0 (mkR (run E (φ 0))) (φ 0) n 0 x.1 x.2.1 x.2.2.1 x.2.2.2.1 []=_) 1 ?_ (fun _ _ _ h=>h)
  refine qam 1 (L:=fun φ n k o=>Z121.l0 (mkR (run E (φ 0))) (φ 0) n k x.1 x.2.1 x.2.2.1 x.2.2.2.1 o) (len:=4) (fun k=>qqH x k) (fun _ _ _ _ _=>rfl) (fun k r hk ih=>?_) ?_
  ·simp only[Z121.l0_succ _ qae]
   rw[qpv] at ih
   refine qax (decide_eq_true (by omega)) (qaa (qop x k hx (by omega) h) (qao (by simp only[qhX,List.length_singleton,decide_eq_true_eq];omega) ?_))
   rw[qad (by omega)]
   exact ih
  ·simp only[Z121.l0_succ _ qae]
   exact qaC (decide_eq_false (by omega)) qal
 ·rw[if_neg h]
  exact qax (by rw[qap h];rfl) qal
end VeT
open Go Go.Proofs Ve
namespace VeT
theorem qaD.set{l:Sim}{p x:Int}(h:qaD l p)(hx:0≤x∧x≤p-1)(i:Nat):qaD (l.set i x) p:=fun y hy=>by
 rcases List.mem_or_eq_of_mem_set hy with hy | rfl
 ·exact h y hy
 ·exact hx
theorem qaD.zeros{p:Int}(hp:2≤p)(n:Nat):qaD (List.replicate n 0) p:=fun x hx=>by
 rw[(List.mem_replicate.1 hx).2];omega
theorem qkB(n:Nat)(s:Src)(p:Int)(R C:Nat)(hn:n≤10000000000)(hs:SO n s)(hp:2≤p∧p≤251)(hR:R≤4)(hC:C≤4) :
  qjc n_Z147 [dR s,dI p,dI (R:Int),dI (C:Int)] o_Z147 fun(r:Int×Int×Int×Sim×Src×Unit)=>∃ cells s',r=(p,(R:Int),(C:Int),cells,s',())∧cells.length=R*C∧qaD cells p∧SO (n+70) s':=by
 obtain⟨c,a,g,⟨⟩⟩:=s
 have hRC:R*C≤16:=Nat.mul_le_mul hR hC
 refine qbI ?_
 simp only[run_Z147,Z147.ev]
 refine qaw (qb5 p R C (by omega) (by omega)) ?_
 have fin:∀(cells:Sim) (s1:Src) (m:Nat),cells.length=R*C→qaD cells p→m≤n+70→SO m s1→EvQ (fun φ=>Z147.j3 (mkR (run E (φ 0))) (φ 0) 0 0 0 p (R:Int) (C:Int) s1.1 s1.2.1 s1.2.2.1 cells) o_Z147 fun(r:Int×Int×Int×Sim×Src×Unit)=>∃ cells s',r=(p,(R:Int),(C:Int),cells,s',())∧cells.length=R*C∧qaD cells p∧SO (n+70) s':=by
  intro cells s1 m h1 h2 h3 h4
  simp only[Z147.j3_eq _ qae]
  exact qaS ⟨cells,s1,rfl,h1,h2,h4.le h3⟩
 have fold2:∀(cells:Sim) (s1:Src) (m:Nat) (b:Bool),cells.length=R*C→qaD cells p→m≤n+70→SO m s1→(b=true→1<R)→EvQ (fun φ=>Z147.j1 (mkR (run E (φ 0))) (φ 0) p (R:Int) (C:Int) b 0 0 0 p (R:Int) (C:Int) s1.1 s1.2.1 s1.2.2.1 cells) o_Z147 fun(r:Int×Int×Int×Sim×Src×Unit)=>∃ cells s',r=(p,(R:Int),(C:Int),cells,s',())∧cells.length=R*C∧qaD cells p∧SO (n+70) s':=by
  intro cells s1 m b h1 h2 h3 h4 h5
  simp only[Z147.j1_eq _ qae]
  refine qc9 (fun hb=>?_) fun _=>fin cells s1 m h1 h2 h3 h4
  have hR1:=h5 hb
  refine EvQ.start 1 (L:=fun φ N=>Z147.l2 (mkR (run E (φ 0))) (φ 0) N p (R:Int) (C:Int) 0 0 0 0 p (R:Int) (C:Int) s1.1 s1.2.1 s1.2.2.1 cells) ?_ (fun _ _ _=>rfl)
  refine EvQ.loop 1 (σ:=Nat×Sim) (L:=fun φ N st=>Z147.l2 (mkR (run E (φ 0))) (φ 0) N p (R:Int) (C:Int) (st.1:Int) 0 0 0 p (R:Int) (C:Int) s1.1 s1.2.1 s1.2.2.1 st.2) (fun _ _ _ _=>rfl)
   (fun st=>st.1≤C∧st.2.length=R*C∧qaD st.2 p) (fun st=>C-st.1) (fun st hi ih=>?_) (0,cells) ⟨Nat.zero_le _,h1,h2⟩
  obtain⟨k,o⟩:=st
  obtain⟨i1,i2,i3⟩:=hi
  simp only at i1 i2 i3 ih ⊢
  simp only[Z147.l2_succ _ qae]
  refine qcr (fun h=>?_) fun h=>fin o s1 m i2 i3 h3 h4
  have hk:k<C:=by omega
  have hCR:C≤R*C:=by have:=Nat.mul_le_mul_right C (show 1≤R by omega);omega
  have hix:=qeY (R:=R) (C:=C) (show R-1<R by omega) hk
  have e1:w64 ((R:Int)-1)=((R-1:Nat):Int):=by rw[qag (by omega) (by omega)];omega
  have e2:w64 (w64 (((R-1:Nat):Int)*(C:Int))+(k:Int))=(((R-1)*C+k:Nat):Int):=qf2 (by omega)
  have hkl:k<o.length:=by omega
  have ho:=i3 _ (List.getElem_mem hkl)
  rw[e1,e2,Int.toNat_natCast,Int.toNat_natCast]
  refine qaO (by simp only[Bool.and_eq_true,decide_eq_true_eq];omega) (qbe (List.getElem?_eq_getElem hkl) (qaO (by simp;omega) (qaO (by simp only[Bool.and_eq_true,decide_eq_true_eq];omega) ?_)))
  rw[qad (by omega)]
  refine ih (k+1,_) ⟨by show k+1≤C;omega,by rw[List.length_set];exact i2,i3.set ?_ _⟩ (by show C-(k+1)<C-k;omega)
  have e3:w64 (o[k]*2)=o[k]*2:=qag (by omega) (by omega)
  rw[e3,Int.tmod_eq_emod_of_nonneg (by omega)]
  exact qdJ hp.1
 refine EvQ.start 1 (L:=fun φ N=>Z147.l0 (mkR (run E (φ 0))) (φ 0) N p (R:Int) (C:Int) 0 0 0 0 p (R:Int) (C:Int) c a g (List.replicate (R*C) 0)) ?_ (fun _ _ _=>rfl)
 refine EvQ.loop 1 (σ:=Nat×Src×Sim) (L:=fun φ N st=>Z147.l0 (mkR (run E (φ 0))) (φ 0) N p (R:Int) (C:Int) (st.1:Int) 0 0 0 p (R:Int) (C:Int) st.2.1.1 st.2.1.2.1 st.2.1.2.2.1 st.2.2) (fun _ _ _ _=>rfl)
  (fun st=>st.1≤R*C∧SO (n+4*st.1) st.2.1∧st.2.2.length=R*C∧qaD st.2.2 p) (fun st=>R*C-st.1) (fun st hi ih=>?_) (0,(c,a,g,()),List.replicate (R*C) 0) ⟨Nat.zero_le _,hs,by simp,qaD.zeros hp.1 _⟩
 obtain⟨i,s1,o⟩:=st
 obtain⟨i1,i2,i3,i4⟩:=hi
 simp only at i1 i2 i3 i4 ih ⊢
 simp only[Z147.l0_succ _ qae]
 refine qcr (fun h=>?_) fun h=>?_
 ·have hi:i<R*C:=by omega
  refine qaX (qa1 _ s1 3 (by omega) i2) fun(r:Int×Src×Unit) ⟨r1,r2,r3,r4⟩=>?_
  rw[qad (by omega),Int.toNat_natCast]
  refine qcr (fun h2=>?_) fun h2=>?_
  ·refine qaX (qa1 _ r.2.1 p (by omega) r4) fun(q:Int×Src×Unit) ⟨q1,q2,q3,q4⟩=>?_
   refine qaO (by simp only[Bool.and_eq_true,decide_eq_true_eq];omega) ?_
   exact ih (i+1,q.2.1,o.set i q.1) ⟨by show i+1≤R*C;omega,q4.le (by show n+4*i+2+2≤n+4*(i+1);omega),by rw[List.length_set];exact i3,i4.set (by omega) _⟩ (by show R*C-(i+1)<R*C-i;omega)
  ·exact ih (i+1,r.2.1,o) ⟨by show i+1≤R*C;omega,r4.le (by show n+4*i+2≤n+4*(i+1);omega),i3,i4⟩ (by show R*C-(i+1)<R*C-i;omega)
 ·refine qcr (fun h2=>?_) fun h2=>?_
  ·exact qaX (qgA _ s1 3 (by omega) i2) fun(r:Bool×Src×Unit) r4=>fold2 o r.2.1 _ r.1 i3 i4 (by omega) r4 fun _=>by omega
  ·exact fold2 o s1 _ false i3 i4 (by omega) i2 fun h=>by cases h
end VeT
open Go Go.Proofs Ve
namespace VeT
def qk9(a b:Sim)(W V:Nat):Ent:=fun i j=>if j<W then qcE a W i j else qcE b V i (j-W)
def qfJ(a b:Sim)(W V R:Nat):Sim:=qas (qk9 a b W V) (W+V) R
theorem qo2{a b:Sim}{W V i:Nat}:(List.range (W+V)).map (qk9 a b W V i)=(List.range W).map (qcE a W i)++(List.range V).map (qcE b V i):=by
 rw[List.range_add,List.map_append,List.map_map]
 congr 1
 ·refine List.map_congr_left fun j hj=>?_
  have:=List.mem_range.1 hj
  simp[qk9,this]
 ·refine List.map_congr_left fun j hj=>?_
  show(if W+j<W then qcE a W i (W+j) else qcE b V i (W+j-W))=_
  rw[if_neg (by omega),Nat.add_sub_cancel_left]
theorem qpH(p:Int)(R W V:Nat)(cells b:Sim)(hR:R≤32)(hW:W≤32)(hV:V≤32)(hl:cells.length=R*W)(hbl:b.length=R*V) :
  Ret E n_Z149 [dM (p,(R:Int),(W:Int),cells,()),dM (p,(R:Int),(V:Int),b,())] ⟨o_Z149,(p,(R:Int),((W+V:Nat):Int),qfJ cells b W V R,())⟩:=by
 have hRW:=qcs hR hW
 have hRV:=qcs hR hV
 refine qai ?_
 simp only[run_Z149,Z149.ev,Z149.j0_eq _ qae]
 rw[show w64 ((W:Int)+(V:Int))=((W+V:Nat):Int) by rw[qag (by omega) (by omega)];omega]
 generalize hMt:(p,(R:Int),(W:Int),cells,())=M
 generalize hNt:(p,(R:Int),(V:Int),b,())=N
 have M2:M.2.1=(R:Int):=by rw[← hMt]
 have M3:M.2.2.1=(W:Int):=by rw[← hMt]
 have M4:M.2.2.2.1=cells:=by rw[← hMt]
 have N3:N.2.2.1=(V:Int):=by rw[← hNt]
 have N4:N.2.2.2.1=b:=by rw[← hNt]
 have one:Ev fun φ=>Z149.l1 (mkR (run E (φ 0))) (φ 0) (φ 0) M N 0 0 0 0 p (R:Int) ((W+V:Nat):Int) []=some ⟨o_Z149,(p,(R:Int),((W+V:Nat):Int),qfJ cells b W V R,())⟩:=by
  refine Ev.start (p:=fun φ n=>Z149.l1 (mkR (run E (φ 0))) (φ 0) n M N 0 0 0 0 p (R:Int) ((W+V:Nat):Int) []=_) 1 ?_ (fun _ _ _ h=>h)
  refine qam 1 (L:=fun φ n i o=>Z149.l1 (mkR (run E (φ 0))) (φ 0) n M N i 0 0 0 p (R:Int) ((W+V:Nat):Int) o) (len:=R) (fun i=>qas (qk9 cells b W V) (W+V) i) (fun _ _ _ _ _=>rfl) (fun i r hi ih=>?_) ?_
  ·have hle:(i+1)*W≤R*W:=Nat.mul_le_mul_right _ hi
   have hle2:(i+1)*V≤R*V:=Nat.mul_le_mul_right _ hi
   have e1:(i+1)*W=i*W+W:=Nat.succ_mul _ _
   have e2:(i+1)*V=i*V+V:=Nat.succ_mul _ _
   have c1:w64 ((i:Int)*(W:Int))=((i*W:Nat):Int):=by rw[qaY];exact qag (by omega) (by omega)
   have c2:w64 (((i+1:Nat):Int)*(W:Int))=(((i+1)*W:Nat):Int):=by rw[qaY];exact qag (by omega) (by omega)
   have c3:w64 ((i:Int)*(V:Int))=((i*V:Nat):Int):=by rw[qaY];exact qag (by omega) (by omega)
   have c4:w64 (((i+1:Nat):Int)*(V:Int))=(((i+1)*V:Nat):Int):=by rw[qaY];exact qag (by omega) (by omega)
   have hr1:=qmw hl hi
   have hr2:=qmw hbl hi
   have hfl:=qar (f:=qk9 cells b W V) (C:=W+V) (n:=i)
   have hfl2:i*(W+V)≤32*64:=Nat.mul_le_mul (by omega) (by omega)
   simp only[Z149.l1_succ _ qae,M2,M3,M4,N3,N4,qad (k:=i) (by omega),c1,c2,c3,c4,Int.toNat_natCast,hr1,hr2]
   rw[qas,qo2,← List.append_assoc] at ih
   refine qax (decide_eq_true (by omega)) (qao (by simp only[Bool.and_eq_true,decide_eq_true_eq];omega) (qao (by simp only[List.length_map,List.length_range,decide_eq_true_eq];omega) (qao (by simp only[Bool.and_eq_true,decide_eq_true_eq];omega) (qao (by simp only[List.length_append,List.length_map,List.length_range,decide_eq_true_eq];omega) ih))))
  ·simp only[Z149.l1_succ _ qae,M2]
   exact qaC (decide_eq_false (by omega)) qal
 exact qbL one one
def Tri(n:Nat)(A:Ent):Prop:=(∀ i j,j<i→i<n→A i j=0)∧∀ i,i<n→A i i≠0
theorem qpk{p:Int}{n:Nat}{A:Ent}(h:Tri n A):∀ c,c≤n→(elS p n A c).2=List.range c∧∀ i j,c≤i→i<n→(elS p n A c).1 i j=A i j
 | 0,_=>⟨rfl,fun _ _ _ _=>rfl⟩
 | c+1,hc=>by
  obtain⟨h1,h2⟩:=qpk h c (by omega)
  rw[elS,elP]
  generalize elS p n A c=S at h1 h2
  have hl:S.2.length=c:=by rw[h1,List.length_range]
  have hf:qaM (fun i=>S.1 i c≠0) S.2.length (n-S.2.length)=some c:=by
   rw[hl]
   obtain⟨k,hk⟩:=qb2 (P:=fun i=>S.1 i c≠0) (d:=n-c) (a:=c) ⟨c,Nat.le_refl _,by omega,by rw[h2 c c (Nat.le_refl _) (by omega)];exact h.2 c (by omega)⟩
   have h3:=qay hk
   have h4:=qc0 hk c (Nat.le_refl _)
   have:k=c:=by
    rcases Nat.lt_or_ge c k with hlt | hge
    ·exact absurd (by rw[h2 c c (Nat.le_refl _) (by omega)];exact h.2 c (by omega)) (h4 hlt)
    ·omega
   rw[hk,this]
  rw[hf]
  simp only
  rw[hl]
  refine⟨by rw[h1,List.range_succ],fun i j hi hin=>?_⟩
  have hsw:∀ k,qcG c c S.1 k=S.1 k:=fun k=>by
   unfold qcG
   by_cases e:k=c
   ·rw[if_pos e,e]
   ·rw[if_neg e,if_neg e]
  unfold elF
  rw[if_neg (by omega),hsw i]
  rw[if_neg (by rw[h2 i c (by omega) hin,h.1 i c (by omega) hin];exact fun h=>h rfl)]
  exact h2 i j (by omega) hin
theorem qqW{p:Int}{n:Nat}{A:Ent}(h:Tri n A):rkM p n n (qas A n n)=n:=by
 have h':Tri n (qcE (qas A n n) n):=⟨fun i j hji hi=>by rw[qbE hi (by omega)];exact h.1 i j hji hi,fun i hi=>by rw[qbE hi hi];exact h.2 i hi⟩
 unfold rkM
 rw[(qpk h' n (Nat.le_refl _)).1,List.length_range]
theorem qaD.flat{A:Ent}{R C:Nat}{p:Int}(h:EIn p R C A):qaD (qas A C R) p:=fun x hx=>by
 rw[← qcQ] at hx
 obtain⟨row,hrow,hx⟩:=List.mem_flatten.1 hx
 obtain⟨i,hi,rfl⟩:=List.mem_map.1 hrow
 obtain⟨j,hj,rfl⟩:=List.mem_map.1 hx
 exact h i j (List.mem_range.1 hi) (List.mem_range.1 hj)
theorem qjn(n:Nat)(s:Src)(p:Int)(d:Nat)(hn:n≤1000000000)(hs:SO n s)(hp:2≤p∧p≤251)(hd:d≤4) :
    qjc n_Z182 [dR s,dI p,dI (d:Int)] o_Z182 fun(r:Int×Int×Int×Sim×Src×Unit)=>∃ cells s',r=(p,(d:Int),(d:Int),cells,s',())∧cells.length=d*d∧qaD cells p∧rkM p d d cells=d∧SO (n+150) s':=by
  obtain⟨c,a,g,⟨⟩⟩:=s
  have hdd:d*d≤16:=Nat.mul_le_mul hd hd
  refine qbI ?_
  simp only[run_Z182,Z182.ev]
  refine qaX (qkB n _ p d d (by omega) hs hp hd hd) fun r ⟨cells,s1,e,h1,h2,h3⟩=>?_
  subst e
  refine qaw (qfL p d d cells hp (by omega) (by omega) (by omega) h1 h2) ?_
  refine qc9 (fun h=>qaS ⟨cells,s1,rfl,h1,h2,?_,h3.le (by omega)⟩) fun _=>?_
  · have:((rkM p d d cells:Nat):Int)=(d:Int):=by simpa using h
    omega
  refine qaw (qfC p d (by omega)) ?_
  refine EvQ.start 1 (L:=fun φ N=>Z182.l0 (mkR (run E (φ 0))) (φ 0) N p (d:Int) 0 0 0 0 p (d:Int) (d:Int) s1.1 s1.2.1 s1.2.2.1 (qas qbp d d)) ?_ (fun _ _ _=>rfl)
  refine EvQ.loop 1 (σ:=Nat×Src×Ent) (L:=fun φ N st=>Z182.l0 (mkR (run E (φ 0))) (φ 0) N p (d:Int) (st.1:Int) 0 0 0 p (d:Int) (d:Int) st.2.1.1 st.2.1.2.1 st.2.1.2.2.1 (qas st.2.2 d d)) (fun _ _ _ _=>rfl)
    (fun st=>st.1≤d∧SO (n+70+10*st.1) st.2.1∧EIn p d d st.2.2∧Tri d st.2.2) (fun st=>d-st.1) (fun st hi ih=>?_) (0,s1,qbp) ⟨Nat.zero_le _,h3,fun i j _ _=>by show 0≤qbp i j∧qbp i j≤p-1;unfold qbp;split<;>omega,fun i j hj _=>by show qbp i j=0;unfold qbp;rw[if_neg (by omega)],fun i _=>by show qbp i i≠0;simp[qbp]⟩
  obtain⟨i,s2,A⟩:=st
  obtain⟨i1,i2,i3,i4⟩:=hi
  simp only at i1 i2 i3 i4 ih ⊢
  simp only[Z182.l0_succ _ qae]
  refine qcr (fun h=>?_) fun h=>qaS ⟨qas A d d,s2,rfl,qar,qaD.flat i3,qqW i4,i2.le (by omega)⟩
  have hid:i<d:=by omega
  have hp1:w64 (p-1)=p-1:=qag (by omega) (by omega)
  rw[hp1]
  refine qaX (qa1 _ s2 (p-1) (by omega) i2) fun(q:Int×Src×Unit) ⟨q1,q2,q3,q4⟩=>?_
  have hx:=qeY hid hid
  have e1:w64 (1+q.1)=1+q.1:=qag (by omega) (by omega)
  have hfl:=qar (f:=A) (C:=d) (n:=d)
  rw[qf2 (by omega),e1,Int.toNat_natCast,qad (by omega),qdl hid hid]
  refine qaO (by simp only[Bool.and_eq_true,decide_eq_true_eq];omega) ?_
  have hA1:EIn p d d (fun k l=>if k=i∧l=i then 1+q.1 else A k l):=fun k l hk hl=>by
    show 0≤(if k=i∧l=i then 1+q.1 else A k l)∧(if k=i∧l=i then 1+q.1 else A k l)≤p-1
    split
    · omega
    · exact i3 k l hk hl
  have hA2:Tri d (fun k l=>if k=i∧l=i then 1+q.1 else A k l):=⟨fun k l hlk hk=>by
      show(if k=i∧l=i then 1+q.1 else A k l)=0
      rw[if_neg (by omega)];exact i4.1 k l hlk hk,fun k hk=>by
      show(if k=i∧k=i then 1+q.1 else A k k)≠0
      split
      · omega
      · exact i4.2 k hk⟩
  generalize (fun k l=>if k=i∧l=i then 1+q.1 else A k l)=A1 at hA1 hA2
  refine EvQ.start 2 (L:=fun φ N=>Z182.l1 (mkR (run E (φ 0))) (φ 0) (φ 1) N p (d:Int) (i:Int) ((i+1:Nat):Int) 0 0 0 p (d:Int) (d:Int) q.2.1.1 q.2.1.2.1 q.2.1.2.2.1 (qas A1 d d)) ?_ (fun _ _ _=>rfl)
  refine EvQ.loop 2 (σ:=Nat×Src×Ent) (L:=fun φ N st=>Z182.l1 (mkR (run E (φ 0))) (φ 0) (φ 1) N p (d:Int) (i:Int) (st.1:Int) 0 0 0 p (d:Int) (d:Int) st.2.1.1 st.2.1.2.1 st.2.1.2.2.1 (qas st.2.2 d d)) (fun _ _ _ _=>rfl)
    (fun st=>i+1≤st.1∧st.1≤d∧SO (n+70+10*i+2*st.1) st.2.1∧EIn p d d st.2.2∧Tri d st.2.2) (fun st=>d-st.1) (fun st hi ih2=>?_) (i+1,q.2.1,A1) ⟨Nat.le_refl _,hid,q4.le (by show n+70+10*i+2≤n+70+10*i+2*(i+1);omega),hA1,hA2⟩
  obtain⟨k,s3,B⟩:=st
  obtain⟨k0,k1,k2,k3,k4⟩:=hi
  simp only at k0 k1 k2 k3 k4 ih2 ⊢
  simp only[Z182.l1_succ _ qae]
  refine qcr (fun h=>?_) fun h=>?_
  · have hkd:k<d:=by omega
    refine qaX (qa1 _ s3 p (by omega) k2) fun(t:Int×Src×Unit) ⟨t1,t2,t3,t4⟩=>?_
    have hx:=qeY hid hkd
    have hfl:=qar (f:=B) (C:=d) (n:=d)
    rw[qf2 (by omega),Int.toNat_natCast,qad (by omega),qdl hid hkd]
    refine qaO (by simp only[Bool.and_eq_true,decide_eq_true_eq];omega) ?_
    refine ih2 (k+1,t.2.1,_) ⟨by show i+1≤k+1;omega,by show k+1≤d;omega,t4.le (by show n+70+10*i+2*k+2≤n+70+10*i+2*(k+1);omega),fun x l hx' hl=>?_,fun x l hlx hx'=>?_,fun x hx'=>?_⟩ (by show d-(k+1)<d-k;omega)
    · show 0≤(if x=i∧l=k then t.1 else B x l)∧(if x=i∧l=k then t.1 else B x l)≤p-1
      split
      · omega
      · exact k3 x l hx' hl
    · show(if x=i∧l=k then t.1 else B x l)=0
      rw[if_neg (by omega)];exact k4.1 x l hlx hx'
    · show(if x=i∧x=k then t.1 else B x x)≠0
      rw[if_neg (by omega)];exact k4.2 x hx'
  · have:k=d:=by omega
    rw[qad (by omega)]
    exact ih (i+1,s3,B) ⟨hid,k2.le (by show n+70+10*i+2*k≤n+70+10*(i+1);omega),k3,k4⟩ (by show d-(i+1)<d-i;omega)
end VeT
open Go Go.Proofs Ve
namespace VeT
noncomputable def qgX(p:Int)(d:Nat)(cells:Sim):Ent:=(elS p d (qcE (qfJ cells (qas qbp d d) d d d) (d+d)) (d+d)).1
noncomputable def qq4(p:Int)(d:Nat)(cells:Sim):Sim:=qas (fun i k=>qgX p d cells i (d+k)) d d
theorem qm6{p:Int}{a b:Sim}{W V R:Nat}(ha:qaD a p)(hb:qaD b p)(hl:a.length=R*W)(hbl:b.length=R*V):EIn p R (W+V) (qk9 a b W V):=fun i j hi hj=>by
 unfold qk9
 split
 ·exact qb8 ha hl i j hi (by omega)
 ·exact qb8 hb hbl i (j-W) hi (by omega)
theorem qm5{p:Int}(hp:2≤p){d:Nat}:EIn p d d qbp:=fun i j _ _=>by
 show 0≤qbp i j∧qbp i j≤p-1
 unfold qbp;split<;>omega
theorem qpC{p:Int}(hp:2≤p){d:Nat}{cells:Sim}(hl:cells.length=d*d)(he:qaD cells p):EIn p d (d+d) (qcE (qfJ cells (qas qbp d d) d d d) (d+d)):=fun i j hi hj=>by
 unfold qfJ;rw[qbE hi hj]
 exact qm6 he (qaD.flat (qm5 hp)) hl qar i j hi hj
theorem qpB{p:Int}(hp:2≤p){d:Nat}{cells:Sim}(hl:cells.length=d*d)(he:qaD cells p):qaD (qq4 p d cells) p∧(qq4 p d cells).length=d*d:=by
 refine⟨qaD.flat fun i j hi hj=>?_,qar⟩
 exact(qgs hp (qpC hp hl he) (d+d)).1 i (d+j) hi (by omega)
theorem qgT(p:Int)(d:Nat)(cells:Sim)(hp:Pr p)(hd:d≤4)(hl:cells.length=d*d)(he:qaD cells p)(hr:rkM p d d cells=d) :
  qjc n_Z124 [dI p,dI (d:Int),dI (d:Int),dL cells] o_Z124 fun(r:Int×Int×Int×Sim×Int×Unit)=>r=(p,(d:Int),(d:Int),qq4 p d cells,0,()):=by
 have hp2:2≤p∧p≤251:=⟨hp.1,hp.2.1⟩
 have hdd:d*d≤16:=Nat.mul_le_mul hd hd
 have hd2:d*(d+d)≤32:=Nat.mul_le_mul hd (show d+d≤8 by omega)
 have hVM:VM (p,(d:Int),(d:Int),cells,()):=⟨hp,⟨by show(0:Int)≤d;omega,by show(d:Int)≤32;omega⟩,⟨by show(0:Int)≤d;omega,by show(d:Int)≤32;omega⟩,by show(cells.length:Int)=d*d;rw[hl];simp,he⟩
 have hSm:Sm (.st cM) (p,(d:Int),(d:Int),cells,()):=⟨trivial,trivial,trivial,⟨by show cells.length≤1048576;omega,fun _ _=>trivial⟩,trivial⟩
 refine qbI ?_
 simp only[run_Z124,Z124.ev]
 refine qaw (qlz _ hSm) (qdP (by simp[qaF hVM]) (qdP (by simp) ?_))
 refine qaw (qfL p d d cells hp2 (by omega) (by omega) (by omega) hl he) (qdP (by simp[hr]) ?_)
 refine qaw (qfC p d (by omega)) ?_
 refine qaw (qpH p d d d cells (qas qbp d d) (by omega) (by omega) (by omega) hl qar) ?_
 have hJ:qaD (qfJ cells (qas qbp d d) d d d) p:=qaD.flat (qm6 he (qaD.flat (qm5 hp2.1)) hl qar)
 obtain⟨det,hred⟩:=qdE p d (d+d) (qfJ cells (qas qbp d d) d d d) hp2 (by omega) (by omega) (by omega) qar hJ
 refine qaw hred ?_
 refine qaw (qb5 p d d (by omega) (by omega)) ?_
 have hF:(elS p d (qcE (qfJ cells (qas qbp d d) d d d) (d+d)) (d+d)).1=qgX p d cells:=rfl
 simp only[hF]
 have hz:List.replicate (d*d) (0:Int)=qas (fun _ _=>0) d d:=by
  refine(List.eq_replicate_iff.2 ⟨qar,fun x hx=>?_⟩).symm
  rw[← qcQ] at hx
  obtain⟨row,hrow,hx⟩:=List.mem_flatten.1 hx
  obtain⟨i,hi,rfl⟩:=List.mem_map.1 hrow
  obtain⟨j,hj,rfl⟩:=List.mem_map.1 hx
  rfl
 rw[hz]
 have hFl:=qar (f:=qgX p d cells) (C:=d+d) (n:=d)
 refine EvQ.start 1 (L:=fun φ N=>Z124.l0 (mkR (run E (φ 0))) (φ 0) N 0 p (d:Int) (d:Int) cells 0 0 0 p (d:Int) ((d+d:Nat):Int) (qfJ cells (qas qbp d d) d d d) p (d:Int) ((d+d:Nat):Int) (qas (qgX p d cells) (d+d) d) p (d:Int) (d:Int) (qas (fun _ _=>0) d d)) ?_ (fun _ _ _=>rfl)
 refine EvQ.loop 1 (σ:=Nat×Ent) (L:=fun φ N st=>Z124.l0 (mkR (run E (φ 0))) (φ 0) N (st.1:Int) p (d:Int) (d:Int) cells 0 0 0 p (d:Int) ((d+d:Nat):Int) (qfJ cells (qas qbp d d) d d d) p (d:Int) ((d+d:Nat):Int) (qas (qgX p d cells) (d+d) d) p (d:Int) (d:Int) (qas st.2 d d)) (fun _ _ _ _=>rfl)
  (fun st=>st.1≤d∧∀ i j,i<st.1→j<d→st.2 i j=qgX p d cells i (d+j)) (fun st=>d-st.1) (fun st hi ih=>?_) (0,fun _ _=>0) ⟨Nat.zero_le _,fun i j h=>by omega⟩
 obtain⟨i,B⟩:=st
 obtain⟨i1,i2⟩:=hi
 simp only at i1 i2 ih ⊢
 simp only[Z124.l0_succ _ qae]
 refine qcr (fun h=>?_) fun h=>qaS ?_
 ·have hid:i<d:=by omega
  refine EvQ.start 2 (L:=fun φ N=>Z124.l1 (mkR (run E (φ 0))) (φ 0) (φ 1) N (i:Int) 0 p (d:Int) (d:Int) cells 0 0 0 p (d:Int) ((d+d:Nat):Int) (qfJ cells (qas qbp d d) d d d) p (d:Int) ((d+d:Nat):Int) (qas (qgX p d cells) (d+d) d) p (d:Int) (d:Int) (qas B d d)) ?_ (fun _ _ _=>rfl)
  refine EvQ.loop 2 (σ:=Nat×Ent) (L:=fun φ N st=>Z124.l1 (mkR (run E (φ 0))) (φ 0) (φ 1) N (i:Int) (st.1:Int) p (d:Int) (d:Int) cells 0 0 0 p (d:Int) ((d+d:Nat):Int) (qfJ cells (qas qbp d d) d d d) p (d:Int) ((d+d:Nat):Int) (qas (qgX p d cells) (d+d) d) p (d:Int) (d:Int) (qas st.2 d d)) (fun _ _ _ _=>rfl)
   (fun st=>st.1≤d∧(∀ i' j,i'<i→j<d→st.2 i' j=qgX p d cells i' (d+j))∧∀ j,j<st.1→st.2 i j=qgX p d cells i (d+j)) (fun st=>d-st.1) (fun st hk ih2=>?_) (0,B) ⟨Nat.zero_le _,i2,fun j h=>by omega⟩
  obtain⟨k,D⟩:=st
  obtain⟨k1,k2,k3⟩:=hk
  simp only at k1 k2 k3 ih2 ⊢
  simp only[Z124.l1_succ _ qae]
  refine qcr (fun h=>?_) fun h=>?_
  ·have hkd:k<d:=by omega
   have hx:=qeY hid hkd
   have hx2:=qeY (R:=d) (C:=d+d) hid (show d+k<d+d by omega)
   have hDl:=qar (f:=D) (C:=d) (n:=d)
   have e1:w64 (w64 (w64 ((i:Int)*((d+d:Nat):Int))+(d:Int))+(k:Int))=((i*(d+d)+(d+k):Nat):Int):=by
    rw[qf2 (by omega),qag (by omega) (by omega)];omega
   rw[e1,qf2 (by omega),Int.toNat_natCast,qad (by omega)]
   refine qbe (qaV.trans (qbV hid (show d+k<d+d by omega))) (qaO (by simp only[Bool.and_eq_true,decide_eq_true_eq];omega) ?_)
   rw[qdl hid hkd]
   refine ih2 (k+1,_) ⟨hkd,fun i' j hi' hj=>?_,fun j hj=>?_⟩ (by show d-(k+1)<d-k;omega)
   ·show(if i'=i∧j=k then _ else D i' j)=_
    rw[if_neg (by omega)];exact k2 i' j hi' hj
   ·show(if i=i∧j=k then qgX p d cells i (d+k) else D i j)=_
    by_cases e:j=k
    ·rw[if_pos ⟨rfl,e⟩,e]
    ·rw[if_neg (by omega)];exact k3 j (by have:j<k+1:=hj;omega)
  ·have:k=d:=by omega
   subst this
   rw[qad (by omega)]
   refine ih (i+1,D) ⟨hid,fun i' j hi' hj=>?_⟩ (by show k-(i+1)<k-i;omega)
   by_cases e:i'=i
   ·subst e;exact k3 j hj
   ·exact k2 i' j (by have:i'<i+1:=hi';omega) hj
 ·have:i=d:=by omega
  subst this
  show(p,(i:Int),(i:Int),qas B i i,(0:Int),())=_
  rw[qaK fun i' j hi' hj=>i2 i' j hi' hj]
  rfl
end VeT
open Go Go.Proofs Ve
namespace VeT
def BOk(p:Int)(d:Nat)(m:Mat):Prop:=∃ cells,m=(p,(d:Int),(d:Int),cells,())∧cells.length=d*d∧qaD cells p∧rkM p d d cells=d
noncomputable def qoE(p:Int)(d:Nat)(m:Mat):Mat:=(p,(d:Int),(d:Int),qq4 p d m.2.2.2.1,())
theorem qsi{p:Int}{d:Nat}{cells:Sim}(hp:Pr p)(hd:d≤4)(hl:cells.length=d*d)(he:qaD cells p):VM (p,(d:Int),(d:Int),cells,()) :=
 ⟨hp,⟨by show(0:Int)≤d;omega,by show(d:Int)≤32;omega⟩,⟨by show(0:Int)≤d;omega,by show(d:Int)≤32;omega⟩,by show(cells.length:Int)=d*d;rw[hl];simp,he⟩
theorem BOk.vm{p:Int}{d:Nat}{m:Mat}(hp:Pr p)(hd:d≤4)(h:BOk p d m):VM m∧VM (qoE p d m):=by
 obtain⟨cells,rfl,h1,h2,h3⟩:=h
 exact⟨qsi hp hd h1 h2,qsi hp hd (qpB hp.1 h1 h2).2 (qpB hp.1 h1 h2).1⟩
theorem qnr{c:List Sim}{a b:Nat}(h:a≤b):plc c a≤plc c b:=by
  induction b with
  | zero => obtain rfl : a = 0 := by omega
            exact Nat.le_refl _
  | succ b ih =>
    rcases Nat.lt_or_ge b a with h1 | h1
    · obtain rfl:a=b+1:=by omega
      exact Nat.le_refl _
    · rw[qe4];exact Nat.le_trans (ih h1) (Nat.le_add_right _ _)
noncomputable def chM(c:List Sim)(p:Int)(d:Nat)(bs:List Mat)(k i:Nat):Mat:=qdH (bs.getD k mz) (qoE p d (bs.getD ((qaH c k).getD i 0).toNat mz))
theorem qmt(n:Nat)(s:Src)(c:List Sim)(p:Int)(d:Nat)(hn:n≤100000000)(hs:SO n s)(hv:VC c)(hp:Pr p)(hd:d≤3) :
    qjc n_Z176 [dR s,dC (c,()),dI p,dI (d:Int)] o_Z176 fun(r:List Sim×Int×Sim×List Mat×Src×Unit)=>∃ ms s' bs,r=(c,p,List.replicate c.length (d:Int),ms,s',())∧ms.length=plc c c.length ∧
      bs.length=c.length∧(∀ m∈bs,BOk p d m)∧(∀ k i,k<c.length→i<(qaH c k).length→ms.getD (plc c k+i) mz=chM c p d bs k i)∧SO (n+7300) s':=by
  obtain⟨c0,a,g,⟨⟩⟩:=s
  have hp2:2≤p∧p≤251:=⟨hp.1,hp.2.1⟩
  have h48:=hv.1
  have hsr:=hv.srt
  have h192:=qef hv
  refine qbI ?_
  simp only[run_Z176,Z176.ev]
  refine qaw (qcf c p d hd hv.sm hv) ?_
  -- the bases
  refine EvQ.start 1 (L:=fun φ N=>Z176.l0 (mkR (run E (φ 0))) (φ 0) N (c,()) p (d:Int) 0 0 p [] c0 a g (List.replicate (qb1 c c.length).length (qbf p d)) c (List.replicate c.length (d:Int))) ?_ (fun _ _ _=>rfl)
  refine EvQ.loop 1 (σ:=Nat×List Mat×Src) (L:=fun φ N st=>Z176.l0 (mkR (run E (φ 0))) (φ 0) N (c,()) p (d:Int) (st.1:Int) 0 p st.2.1 st.2.2.1 st.2.2.2.1 st.2.2.2.2.1 (List.replicate (qb1 c c.length).length (qbf p d)) c (List.replicate c.length (d:Int))) (fun _ _ _ _=>rfl)
    (fun st=>st.1≤c.length∧st.2.1.length=st.1∧(∀ m∈st.2.1,BOk p d m)∧SO (n+150*st.1) st.2.2) (fun st=>c.length-st.1) (fun st hi ih=>?_) (0,[],(c0,a,g,())) ⟨Nat.zero_le _,rfl,fun m hm=>by simp at hm,hs⟩
  obtain⟨k,bs,s1⟩:=st
  obtain⟨i1,i2,i3,i4⟩:=hi
  simp only at i1 i2 i3 i4 ih ⊢
  simp only[Z176.l0_succ _ qae]
  refine qcr (fun h=>?_) fun h=>?_
  · have hk : k < c.length := by have h : (k : Int) < (c.length : Int) := h
                                 omega
    refine qaX (qjn _ s1 p d (by omega) i4 hp2 (by omega)) fun r ⟨cells,s2,e,h1,h2,h3,h4⟩=>?_
    subst e
    refine qaO (decide_eq_true (by simp;omega)) ?_
    rw[qad (by omega)]
    exact ih (k+1,bs++[(p,(d:Int),(d:Int),cells,())],s2) ⟨hk,by simp[i2],fun m hm=>by
      rcases List.mem_append.1 hm with hm | hm
      · exact i3 m hm
      · rw[List.mem_singleton] at hm;exact⟨cells,hm,h1,h2,h3⟩,h4.le (by show n+150*k+150≤n+150*(k+1);omega)⟩ (by show c.length-(k+1)<c.length-k;omega)
  have hkl : k = c.length := by have h : ¬ (k : Int) < (c.length : Int) := h
                                omega
  subst hkl
  clear ih
  have hbs:∀ f,f<c.length→bs[f]? = some (bs.getD f mz)∧BOk p d (bs.getD f mz):=fun f hf=>by
    have:f<bs.length:=by omega
    rw[List.getD_eq_getElem?_getD,List.getElem?_eq_getElem this]
    exact⟨rfl,i3 _ (List.getElem_mem this)⟩
  -- the maps
  have hpl:plc c c.length=(qb1 c c.length).length:=rfl
  refine EvQ.start 1 (L:=fun φ N=>Z176.l1 (mkR (run E (φ 0))) (φ 0) N (c,()) 0 0 p bs s1.1 s1.2.1 s1.2.2.1 (List.replicate (qb1 c c.length).length (qbf p d)) c (List.replicate c.length (d:Int))) ?_ (fun _ _ _=>rfl)
  refine EvQ.loop 1 (σ:=Nat×List Mat) (L:=fun φ N st=>Z176.l1 (mkR (run E (φ 0))) (φ 0) N (c,()) (st.1:Int) 0 p bs s1.1 s1.2.1 s1.2.2.1 st.2 c (List.replicate c.length (d:Int))) (fun _ _ _ _=>rfl)
    (fun st=>st.1≤c.length∧st.2.length=plc c c.length∧∀ k i,k<st.1→i<(qaH c k).length→st.2.getD (plc c k+i) mz=chM c p d bs k i) (fun st=>c.length-st.1) (fun st hi ih=>?_) (0,List.replicate (qb1 c c.length).length (qbf p d)) ⟨Nat.zero_le _,by rw[hpl];simp,fun k i h=>by omega⟩
  obtain⟨k,ms⟩:=st
  obtain⟨j1,j2,j3⟩:=hi
  simp only at j1 j2 j3 ih ⊢
  simp only[Z176.l1_succ _ qae]
  refine qcr (fun h=>?_) fun h=>?_
  · have hk : k < c.length := by have h : (k : Int) < (c.length : Int) := h
                                 omega
    have hf4:=hv.fIdx4 hk
    refine qaw (qca c k hk hv.sm) ?_
    refine EvQ.start 2 (L:=fun φ N=>Z176.l2 (mkR (run E (φ 0))) (φ 0) (φ 1) N (c,()) (k:Int) (qaH c k) 0 0 p bs s1.1 s1.2.1 s1.2.2.1 ms c (List.replicate c.length (d:Int))) ?_ (fun _ _ _=>rfl)
    refine EvQ.loop 2 (σ:=Nat×List Mat) (L:=fun φ N st=>Z176.l2 (mkR (run E (φ 0))) (φ 0) (φ 1) N (c,()) (k:Int) (qaH c k) (st.1:Int) 0 p bs s1.1 s1.2.1 s1.2.2.1 st.2 c (List.replicate c.length (d:Int))) (fun _ _ _ _=>rfl)
      (fun st=>st.1≤(qaH c k).length∧st.2.length=plc c c.length∧(∀ k' i,k'<k→i<(qaH c k').length→st.2.getD (plc c k'+i) mz=chM c p d bs k' i)∧∀ i,i<st.1→st.2.getD (plc c k+i) mz=chM c p d bs k i) (fun st=>(qaH c k).length-st.1) (fun st hi ih2=>?_) (0,ms) ⟨Nat.zero_le _,j2,j3,fun i h=>by omega⟩
    obtain⟨i,o⟩:=st
    obtain⟨l1,l2,l3,l4⟩:=hi
    simp only at l1 l2 l3 l4 ih2 ⊢
    simp only[Z176.l2_succ _ qae]
    refine qcr (fun h=>?_) fun h=>?_
    · have hi:i<(qaH c k).length:=by omega
      obtain⟨f,f1,f2,f3⟩:=qe6 hsr hv hk hi
      have f3':((qaH c k).getD i 0).toNat=f:=by first | exact f3 | (rw[f3];rfl)
      obtain⟨b1,cells,b2,b3,b4,b5⟩:=hbs f f1
      obtain⟨b6,cells2,b7,b8,b9,b10⟩:=hbs k hk
      obtain⟨v1,v2⟩:=BOk.vm hp (by omega) (hbs f f1).2
      obtain⟨v3,_⟩:=BOk.vm hp (by omega) (hbs k hk).2
      have hplt:plc c k+i<plc c c.length:=by
        have:=qnr (c:=c) (show k+1≤c.length from hk)
        rw[qe4] at this;omega
      have hple:=hv.plc (k:=c.length) (Nat.le_refl _)
      refine qbe (qaj hi) ?_
      simp only[f2,Int.toNat_natCast]
      refine qaO (by simp only[Bool.and_eq_true,decide_eq_true_eq];omega) (qbe b1 ?_)
      rw[b2]
      refine qaX (qgT p d cells hp (by omega) b3 b4 b5) fun r hr=>?_
      subst hr
      refine qaO (by simp only[Bool.and_eq_true,decide_eq_true_eq];omega) ?_
      refine qaw (qdr c k i (by omega) (by omega) hv) ?_
      have e1:List.getD bs k (qqG cM)=bs.getD k mz:=by
        rw[List.getD_eq_getElem?_getD,List.getD_eq_getElem?_getD,b6];rfl
      have e2:qoE p d (bs.getD f mz)=(p,(d:Int),(d:Int),qq4 p d cells,()):=by rw[b2];rfl
      have hT:=qhh (bs.getD k mz) (qoE p d (bs.getD f mz)) v3 v2 (by rw[b7];rfl)
      rw[e2] at hT
      rw[e1]
      refine qaw hT (qaO (show(decide ((0:Int)≤((plc c k+i:Nat):Int))&&decide (((plc c k+i:Nat):Int)<(o.length:Int)))=true by rw[l2];simp only[Bool.and_eq_true,decide_eq_true_eq];omega) ?_)
      rw[qad (by omega),Int.toNat_natCast]
      have e3:qdH (bs.getD k mz) (p,(d:Int),(d:Int),qq4 p d cells,())=chM c p d bs k i:=by
        unfold chM;rw[f3',e2]
      rw[e3]
      refine ih2 (i+1,o.set (plc c k+i) (chM c p d bs k i)) ⟨hi,by rw[List.length_set];exact l2,fun k' i' hk' hi'=>?_,fun i' hi'=>?_⟩ (by show(qaH c k).length-(i+1)<(qaH c k).length-i;omega)
      · have:=qnr (c:=c) (show k'+1≤k from hk')
        rw[qe4] at this
        rw[List.getD_eq_getElem?_getD,List.getElem?_set_ne (by omega),← List.getD_eq_getElem?_getD]
        exact l3 k' i' hk' hi'
      · rw[List.getD_eq_getElem?_getD]
        by_cases e:i'=i
        · subst e
          rw[List.getElem?_set_self (by rw[l2];exact hplt)];rfl
        · rw[List.getElem?_set_ne (by omega),← List.getD_eq_getElem?_getD]
          exact l4 i' (by have:i'<i+1:=hi';omega)
    · have:i=(qaH c k).length:=by omega
      subst this
      rw[qad (by omega)]
      refine ih (k+1,o) ⟨hk,l2,fun k' i' hk' hi'=>?_⟩ (by show c.length-(k+1)<c.length-k;omega)
      by_cases e:k'=k
      · subst e;exact l4 i' hi'
      · exact l3 k' i' (by have:k'<k+1:=hk';omega) hi'
  · have hkl : k = c.length := by have h : ¬ (k : Int) < (c.length : Int) := h
                                  omega
    subst hkl
    exact qaS ⟨ms,s1,bs,rfl,j2,i2,i3,fun k' i' hk' hi'=>j3 k' i' hk' hi',i4.le (by omega)⟩
end VeT
open Go Go.Proofs Ve
namespace VeT
theorem qk0:∀ {l x:Sim},x.Pairwise (·<·)→l.Pairwise (·<·)→(∀ v∈x,v∈l)→x.Sublist l
 | [],x,_,_,h=>by
  cases x with
  | nil=>exact .slnil
  | cons y x=>exact absurd (h y List.mem_cons_self) (by simp)
 | a::l,[],_,_,_=>List.nil_sublist _
 | a::l,y::x,hx,hl,h=>by
  obtain⟨x1,x2⟩:=List.pairwise_cons.1 hx
  obtain⟨l1,l2⟩:=List.pairwise_cons.1 hl
  by_cases e:y=a
  ·subst e
   refine .cons_cons _ (qk0 x2 l2 fun v hv=>?_)
   have:=x1 v hv
   rcases List.mem_cons.1 (h v (List.mem_cons_of_mem _ hv)) with h1 | h1
   ·omega
   ·exact h1
  ·have hy:y∈l:=(List.mem_cons.1 (h y List.mem_cons_self)).resolve_left e
   have hya:=l1 y hy
   refine .cons _ (qk0 hx l2 fun v hv=>?_)
   rcases List.mem_cons.1 (h v hv) with h1 | h1
   ·rcases List.mem_cons.1 hv with h2 | h2
    ·omega
    ·have:=x1 v h2;omega
   ·exact h1
theorem qhs{c:List Sim}{d:Nat}:∀ {k:Nat},k≤c.length→(qav c (d:Int) k).length=((c.take k).filter fun x=>x.length==d+1).length
 | 0,_=>by simp[qav]
 | k+1,hk=>by
  rw[qcA,List.length_append,qhs (by omega),List.take_succ_eq_append_getElem (by omega),List.filter_append,List.length_append]
  congr 1
  have e:c.getD k []=c[k]:=by rw[List.getD_eq_getElem?_getD,List.getElem?_eq_getElem (by omega)];rfl
  rw[e]
  by_cases h:(c[k]).length=d+1
  ·rw[if_pos (by omega),List.filter_cons_of_pos (by simp[h])];rfl
  ·rw[if_neg (by omega),List.filter_cons_of_neg (by simp[h])];rfl
theorem qif{c:List Sim}{st:Sim}{d:Int}(hst:∀ x∈st,0≤x∧x≤3):∀ {n:Nat},SDn c st d n≤3*((qav c d n).length:Int)
 | 0=>by simp[SDn,qav]
 | n+1=>by
  have h:=qif hst (c:=c) (d:=d) (n:=n)
  have h2:=qcC hst n
  rw[qel,qcA,List.length_append]
  split
  ·simp only[List.length_singleton];omega
  ·simp only[List.length_nil];omega
theorem qnR{c:List Sim}(hv:VC c)(h5:S5 c){d:Nat}(hd:d<4):(qav c (d:Int) c.length).length≤10:=by
 rw[qhs (Nat.le_refl _),List.take_length]
 refine Nat.le_trans (qiR (d:=(qqa [0,1,2,3,4]).filter fun x=>x.length==d+1) (hv.srt.nodup.filter _) fun x hx=>?_) ?_
 ·obtain⟨h1,h2⟩:=List.mem_filter.1 hx
  refine List.mem_filter.2 ⟨qhM (qk0 ?_ (by decide) fun v hvx=>?_),h2⟩
  ·obtain⟨k,hk,rfl⟩:=List.getElem_of_mem h1
   have:=hv.2.1 k hk
   rw[List.getD_eq_getElem?_getD,List.getElem?_eq_getElem hk] at this
   exact this.2.2.1.pairwise
  ·obtain⟨k,hk,rfl⟩:=List.getElem_of_mem h1
   have:=hv.2.1 k hk
   rw[List.getD_eq_getElem?_getD,List.getElem?_eq_getElem hk] at this
   have a1:=(this.2.2.2 v hvx).1
   have a2:=(h5 _ h1).2 v hvx
   simp only[List.mem_cons,List.not_mem_nil,or_false]
   omega
 ·have:d=0∨d=1∨d=2∨d=3:=by omega
  rcases this with rfl | rfl | rfl | rfl<;>decide
theorem qsN{c:List Sim}(hv:VC c)(h5:S5 c){st:Sim}(hl:st.length=c.length)(hst:∀ x∈st,0≤x∧x≤3):SK c st:=by
 refine⟨hl,hst,fun d hd=>?_⟩
 have h1:=qnR hv h5 hd
 have h2:=qif hst (c:=c) (d:=(d:Int)) (n:=c.length)
 rw[qn9]
 omega
theorem qrW{c:List Sim}{p:Int}{st:Sim}{ms:List Mat}(hv:VC c)(h5:S5 c)(hp:Pr p)(hl:st.length=c.length)(hst:∀ x∈st,0≤x∧x≤3)(hm:ms.length=plc c c.length)
  (hq:∀ k,k<c.length→∀ i,i<(qaH c k).length→Bt (ms.getD (plc c k+i) mz) p (st.getD ((qaH c k).getD i 0).toNat 0) (st.getD k 0)):VS c p st ms :=
 ⟨hv,hp,qsN hv h5 hl hst,hm.symm,hq⟩
end VeT
open Go Go.Proofs Ve
namespace VeT
theorem qnN{p:Int}{a b:Nat}{cells:Sim}(hp:Pr p)(ha:a≤32)(hb:b≤32)(hl:cells.length=a*b)(he:qaD cells p):VM (p,(a:Int),(b:Int),cells,()) :=
 ⟨hp,⟨by show(0:Int)≤a;omega,by show(a:Int)≤32;omega⟩,⟨by show(0:Int)≤b;omega,by show(b:Int)≤32;omega⟩,by show(cells.length:Int)=a*b;rw[hl];simp,he⟩
theorem qpF{c:List Sim}{p:Int}{st:Sim}(hv:VC c)(hp:Pr p)(hl:st.length=c.length)(hst:∀ x∈st,0≤x∧x≤3){k i:Nat}(hk:k<c.length)(hi:i<(qaH c k).length) :
  Bt (((qb1 c c.length).map (zOf p st)).getD (plc c k+i) mz) p (st.getD ((qaH c k).getD i 0).toNat 0) (st.getD k 0):=by
 have hg:=qcI (n:=c.length) hk hi
 obtain⟨f,f1,f2,f3⟩:=qe6 hv.srt hv hk hi
 obtain⟨a,ha,ea,hka,eka⟩:=qg7 hl hst hk
 obtain⟨b,hb,eb,hfb,efb⟩:=qg7 hl hst f1
 rw[List.getD_eq_getElem?_getD,List.getElem?_map,hg]
 show Bt (zOf p st ((k:Int),(i:Int),(qaH c k).getD i 0,())) p _ _
 unfold zOf
 simp only[f3,Int.toNat_natCast,ea,eb]
 exact⟨qnN hp (by omega) (by omega) (by simp) (qaD.zeros hp.1 _),rfl,rfl,rfl⟩
theorem qn2{c:List Sim}{p:Int}{d:Nat}{bs:List Mat}(hv:VC c)(hp:Pr p)(hd:d≤4)(hbl:bs.length=c.length)(hb:∀ m∈bs,BOk p d m){k i:Nat}(hk:k<c.length)(hi:i<(qaH c k).length) :
  Bt (chM c p d bs k i) p ((List.replicate c.length (d:Int)).getD ((qaH c k).getD i 0).toNat 0) ((List.replicate c.length (d:Int)).getD k 0):=by
 obtain⟨f,f1,f2,f3⟩:=qe6 hv.srt hv hk hi
 have hbs:∀ f,f<c.length→BOk p d (bs.getD f mz):=fun f hf=>by
  have:f<bs.length:=by omega
  rw[List.getD_eq_getElem?_getD,List.getElem?_eq_getElem this]
  exact hb _ (List.getElem_mem this)
 have hr:∀ f,f<c.length→(List.replicate c.length (d:Int)).getD f 0=(d:Int):=fun f hf=>by
  rw[List.getD_eq_getElem?_getD,List.getElem?_replicate,if_pos hf];rfl
 rw[f3,Int.toNat_natCast,hr f f1,hr k hk]
 unfold chM
 rw[f3,Int.toNat_natCast]
 obtain⟨v1,v2⟩:=BOk.vm hp hd (hbs f f1)
 obtain⟨v3,_⟩:=BOk.vm hp hd (hbs k hk)
 obtain⟨cells,e,_⟩:=hbs k hk
 refine⟨qc6 v3 v2,?_,?_,rfl⟩
 ·rw[e];rfl
 ·rw[e];rfl
end VeT
open Go Go.Proofs Ve
namespace VeT
def sk1(c:List Sim):List Sim:=c.filter fun x=>decide (x.length≤2)
theorem qo4(c:List Sim)(hv:VC c):Ret E n_Z172 [dC (c,()),dI 1] ⟨o_Z172,(sk1 c,())⟩:=by
 have hl:=hv.1
 refine qai ?_
 simp only[run_Z172,Z172.ev]
 refine Ev.start (p:=fun φ n=>Z172.l0 (mkR (run E (φ 0))) (φ 0) n (c,()) 1 0 []=_) 1 ?_ (fun _ _ _ h=>h)
 refine qam 1 (L:=fun φ n k o=>Z172.l0 (mkR (run E (φ 0))) (φ 0) n (c,()) 1 k o) (len:=c.length) (fun k=>sk1 (c.take k)) (fun _ _ _ _ _=>rfl) (fun k r hk ih=>?_) ?_
 ·simp only[Z172.l0_succ _ qae]
  have h4:=hv.len4 hk
  rw[qac hk] at h4
  have e4:w64 ((1:Int)+1)=2:=qag (by omega) (by omega)
  have hlen:(sk1 (c.take k)).length≤c.length:=Nat.le_trans (List.length_filter_le _ _) (by rw[List.length_take];omega)
  have e:sk1 (c.take (k+1))=sk1 (c.take k)++if c[k].length≤2 then [c[k]] else []:=by
   unfold sk1
   rw[List.take_succ_eq_append_getElem hk,List.filter_append]
   congr 1
   by_cases h:c[k].length≤2
   ·rw[if_pos h,List.filter_cons_of_pos (by simp[h])];rfl
   ·rw[if_neg h,List.filter_cons_of_neg (by simp[h])];rfl
  rw[e] at ih
  refine qax (decide_eq_true (by show(k:Int)<(c.length:Int);omega)) (qab (qaj hk) ?_)
  by_cases h:c[k].length≤2
  ·rw[if_pos h] at ih
   refine qax (decide_eq_true (by rw[e4];show(c[k].length:Int)≤2;omega)) (qab (qaj hk) (qaa (qcW _ (by show c[k].length≤_;omega)) (qao (by simp only[List.length_singleton,decide_eq_true_eq];omega) ?_)))
   rw[qad (by omega)];exact ih
  ·rw[if_neg h,List.append_nil] at ih
   refine qaC (decide_eq_false (by rw[e4];show ¬ (c[k].length:Int)≤2;omega)) ?_
   rw[qad (by omega)];exact ih
 ·simp only[Z172.l0_succ _ qae]
  refine qaC (decide_eq_false (by show ¬ ((c.length:Int)<(c.length:Int));omega)) (qah ?_)
  rw[List.take_of_length_le (Nat.le_refl _)]
end VeT
open Go Go.Proofs Ve
namespace VeT
theorem qo9{f:Nat→Prop}:∀ {n:Nat},cnt f n=n→∀ c,c<n→f c
 | 0,_,c,h=>by omega
 | n+1,h,c,hc=>by
  have hle:cnt f n≤n:=by
   have h1:cnt f n≤cnt (fun _=>True) n:=qfP fun _ _ _=>trivial
   have h2:∀ n,cnt (fun _=>True) n≤n:=by
    intro n
    induction n with
    | zero=>exact Nat.le_refl _
    | succ n ih=>unfold cnt;split<;>omega
   exact Nat.le_trans h1 (h2 n)
  unfold cnt at h
  by_cases hf:f n
  ·rw[if_pos hf] at h
   by_cases e:c=n
   ·subst e;exact hf
   ·exact qo9 (n:=n) (by omega) c (by omega)
  ·rw[if_neg hf] at h;omega
theorem qrH{R W d:Nat}{F:Ent}{pv:List Nat}(h:Rf R W F pv)(hall:∀ c,c<d→c∈pv):∀ i,i<d→i<pv.length∧pv.getD i 0=i:=by
 intro i
 induction i using Nat.strongRecOn with
 | ind i ih =>
  intro hi
  obtain⟨k,hk,e⟩:=h.mem.1 (hall i hi)
  rcases Nat.lt_trichotomy k i with hlt | rfl | hgt
  ·have:=(ih k hlt (by omega)).2;omega
  ·exact⟨hk,e⟩
  ·refine⟨by omega,?_⟩
   have hm:=h.mono i k hgt hk
   rw[e] at hm
   -- pv i < i, so it is one of the earlier places
   have h2:=(ih (pv.getD i 0) hm (by omega)).2
   have h3:=(ih (pv.getD i 0) hm (by omega)).1
   have h4:=h.mono (pv.getD i 0) i hm (by omega)
   omega
theorem qpm{p:Int}{d:Nat}{m:Mat}(hp:Pr p)(hd:d≤4)(h:BOk p d m):qdH (qoE p d m) m=qbf p d:=by
 obtain⟨v1,v2⟩:=h.vm hp hd
 obtain⟨cells,e,hl,he,hr⟩:=h
 have hin:=qpC hp.1 hl he
 have hun:=qe8 hp (show d≤32 by omega)
 subst e
 refine qkQ (qc6 v2 v1) hun rfl rfl rfl fun i j hi hj=>?_
 have hi':i<d:=by simpa [qdH,qoE] using hi
 have hj':j<d:=by simpa [qdH,qoE] using hj
 rw[qhm (a:=qoE p d (p,(d:Int),(d:Int),cells,())) (b:=(p,(d:Int),(d:Int),cells,())) hi hj,qm0 hi' hj']
 generalize hA:qcE (qfJ cells (qas qbp d d) d d d) (d+d)=A at hin
 obtain⟨hrf,heq⟩:=qgr hp hin (d+d) (Nat.le_refl _)
 have hF:qgX p d cells=(elS p d A (d+d)).1:=by unfold qgX;rw[hA]
 have hAl:∀ i j,i<d→j<d→A i j=qcE cells d i j:=fun i j hi hj=>by
  rw[← hA];unfold qfJ
  rw[qbE hi (by omega)];unfold qk9;rw[if_pos hj]
 have hAr:∀ i j,i<d→j<d→A i (d+j)=if i=j then 1 else 0:=fun i j hi hj=>by
  rw[← hA];unfold qfJ
  rw[qbE hi (by omega)];unfold qk9;rw[if_neg (by omega),Nat.add_sub_cancel_left,qbE hi hj];rfl
 -- all of the first places are pivots
 have hrk:rkV p d (Spn p d d (qcE cells d))=d:=by
  rw[← qlh hp (qb8 he hl)];exact hr
 have hall:∀ c,c<d→c∈(elS p d A (d+d)).2:=fun c hc=>by
  obtain⟨_,x,⟨co,hco⟩,x1,x2⟩:=qo9 hrk c hc
  rw[← qrR hp.1 hrf]
  have hag:∀ j,j<d→qaI co (fun l=>A l j) d%p=x j%p:=fun j hj=>by
   rw[← hco j hj,qaE (d:=co) (h:=fun l=>qcE cells d l j) fun l hl=>⟨rfl,hAl l j hl hj⟩]
  refine⟨by omega,fun j=>qaI co (fun l=>A l j) d,heq.spn.1 ⟨co,fun j _=>rfl⟩,fun j hj=>?_,?_⟩
  ·show qaI co (fun l=>A l j) d%p=0
   rw[hag j (by omega)];exact x1 j hj
  ·show qaI co (fun l=>A l c) d%p≠0
   rw[hag c hc];exact x2
 have hpv:=qrH hrf hall
 generalize (elS p d A (d+d)).1=F at hF hrf heq
 generalize (elS p d A (d+d)).2=pv at hrf hall hpv
 obtain⟨co,hco⟩:=heq.1 i hi'
 have hFe:∀ k,k<d→F i (d+k)%p=co k%p:=fun k hk=>by
  rw[← hco (d+k) (by omega),qaR]
  rw[qaE (d:=fun l=>if l=k then 1 else 0) (h:=co) fun l hl=>⟨hAr l k hl hk,rfl⟩,qcF hk]
 have hFj:F i j=if i=j then 1 else 0:=by
  have:=hrf.one i j hi' (hpv j hj').1
  rwa [(hpv j hj').2] at this
 show qaI (mE (qoE p d (p,(d:Int),(d:Int),cells,())) i) (fun l=>qcE cells ((d:Int)).toNat l j) ((d:Int)).toNat%p=_
 rw[Int.toNat_natCast]
 have e1:∀ l,l<d→mE (qoE p d (p,(d:Int),(d:Int),cells,())) i l=F i (d+l):=fun l hl=>by
  show qcE (qq4 p d cells) ((d:Int)).toNat i l=_
  rw[Int.toNat_natCast];unfold qq4
  rw[qbE hi' hl,hF]
 rw[qiK (g:=co) fun l hl=>by rw[e1 l hl];exact hFe l hl]
 have:=hco j (by omega)
 rw[qaE (d:=co) (h:=fun l=>qcE cells d l j) fun l hl=>⟨rfl,hAl l j hl hj'⟩,hFj] at this
 rw[this]
 have:=hp.1
 split
 ·exact Int.emod_eq_of_lt (by omega) (by omega)
 ·exact Int.zero_emod _
theorem qe3{c:List Sim}{ms:List Mat}(h:∀ k i j,k<c.length→3≤(c.getD k []).length→i<j→j<(c.getD k []).length→two c ms k i (j-1)=two c ms k j i):qbX c ms=none:=by
 cases e:qbX c ms with
 | none=>rfl
 | some t =>
  obtain⟨k,i,j⟩:=t
  obtain⟨h1,h2,h3,h4,_⟩:=qfG e
  unfold qbX at e
  obtain⟨k',hk,e⟩:=Option.bind_eq_some_iff.1 e
  obtain⟨i',hi,e⟩:=Option.bind_eq_some_iff.1 e
  obtain⟨j',hj,e⟩:=Option.map_eq_some_iff.1 e
  simp only[Prod.mk.injEq] at e
  obtain⟨rfl,rfl,rfl⟩:=e
  exact absurd (h _ _ _ h1 h2 h3 h4) (qay hj).2.2
theorem qoj{c:List Sim}{ms:List Mat}{m:Mat}(hv:VC c)(h:∀ k i,k<c.length→i<(qaH c k).length→mp c ms k i=m):qbX c ms=none:=qe3 fun k i j hk h3 hij hj=>by
 have hl:=qaz (c:=c) (k:=k)
 rw[if_pos (by omega)] at hl
 obtain⟨_,a2,a3⟩:=qaW hv hk (show i<(qaH c k).length by omega)
 obtain⟨_,b2,b3⟩:=qaW hv hk (show j<(qaH c k).length by omega)
 have la:=qaz (c:=c) (k:=fc c k i)
 have lb:=qaz (c:=c) (k:=fc c k j)
 rw[a3,List.length_eraseIdx_of_lt (by omega),if_pos (by omega)] at la
 rw[b3,List.length_eraseIdx_of_lt (by omega),if_pos (by omega)] at lb
 unfold two
 rw[h k i hk (by omega),h k j hk (by omega),h _ (j-1) a2 (by omega),h _ i b2 (by omega)]
theorem qn8{c:List Sim}{ms:List Mat}(h:∀ x∈c,x.length≤2):qbX c ms=none:=qe3 fun k i j hk h3 _ _=>by
 rw[qac hk] at h3
 have:=h _ (List.getElem_mem hk)
 omega
theorem qkt{c:List Sim}{p:Int}{d:Nat}{bs ms:List Mat}(hv:VC c)(hp:Pr p)(hd:d≤4)(hbl:bs.length=c.length)(hb:∀ m∈bs,BOk p d m)
  (hm:∀ k i,k<c.length→i<(qaH c k).length→ms.getD (plc c k+i) mz=chM c p d bs k i):qbX c ms=none:=by
 have hbs:∀ f,f<c.length→BOk p d (bs.getD f mz):=fun f hf=>by
  have:f<bs.length:=by omega
  rw[List.getD_eq_getElem?_getD,List.getElem?_eq_getElem this]
  exact hb _ (List.getElem_mem this)
 have hmp:∀ k i,k<c.length→i<(qaH c k).length→mp c ms k i=qdH (bs.getD k mz) (qoE p d (bs.getD (fc c k i) mz)):=fun k i hk hi=>hm k i hk hi
 have key:∀ k i j,k<c.length→i<(qaH c k).length→j<(qaH c (fc c k i)).length→two c ms k i j=qdH (bs.getD k mz) (qoE p d (bs.getD (fc c (fc c k i) j) mz)):=fun k i j hk hi hj=>by
  obtain⟨_,a2,a3⟩:=qaW hv hk hi
  obtain⟨_,b2,b3⟩:=qaW hv a2 hj
  unfold two
  rw[hmp k i hk hi,hmp _ j a2 hj]
  have B1:=hbs k hk
  have B2:=hbs _ a2
  have B3:=hbs _ b2
  generalize fc c (fc c k i) j=g at *
  generalize fc c k i=f at *
  obtain⟨v1,w1⟩:=B1.vm hp hd
  obtain⟨v2,w2⟩:=B2.vm hp hd
  obtain⟨v3,w3⟩:=B3.vm hp hd
  obtain⟨_,e1,_⟩:=B1
  have B2':=B2
  obtain⟨_,e2,_⟩:=B2
  obtain⟨_,e3,_⟩:=B3
  have s1:(bs.getD k mz).1=p∧(bs.getD k mz).2.1=(d:Int)∧(bs.getD k mz).2.2.1=(d:Int):=by rw[e1];exact⟨rfl,rfl,rfl⟩
  have s2:(bs.getD f mz).1=p∧(bs.getD f mz).2.1=(d:Int)∧(bs.getD f mz).2.2.1=(d:Int):=by rw[e2];exact⟨rfl,rfl,rfl⟩
  rw[qdV v1 w2 (qc6 v2 w3) s1.2.2 s2.2.1.symm s1.1,← qdV w2 v2 w3 s2.2.1.symm s2.2.2 s2.1.symm,qpm hp hd B2',qjI (p:=p) (n:=d) w3 rfl rfl]
 refine qe3 fun k i j hk h3 hij hj=>?_
 have hl:=qaz (c:=c) (k:=k)
 rw[if_pos (by omega)] at hl
 obtain⟨_,a2,a3⟩:=qaW hv hk (show i<(qaH c k).length by omega)
 obtain⟨_,b2,b3⟩:=qaW hv hk (show j<(qaH c k).length by omega)
 have la:=qaz (c:=c) (k:=fc c k i)
 have lb:=qaz (c:=c) (k:=fc c k j)
 rw[a3,List.length_eraseIdx_of_lt (by omega),if_pos (by omega)] at la
 rw[b3,List.length_eraseIdx_of_lt (by omega),if_pos (by omega)] at lb
 rw[key k i (j-1) hk (by omega) (by omega),key k j i hk (by omega) (by omega)]
 have:fc c (fc c k i) (j-1)=fc c (fc c k j) i:=by
  obtain⟨_,u2,u3⟩:=qaW hv a2 (show j-1<(qaH c (fc c k i)).length by omega)
  obtain⟨_,w2,w3⟩:=qaW hv b2 (show i<(qaH c (fc c k j)).length by omega)
  refine qiE hv u2 w2 ?_
  rw[u3,w3,a3,b3]
  exact(qfp hij).symm
 rw[this]
def zm(p:Int)(a b:Nat):Mat:=(p,(a:Int),(b:Int),List.replicate (a*b) 0,())
theorem qjX{g:Nat→Int}:∀ {n:Nat},qaI (fun _=>0) g n=0
 | 0=>rfl
 | n+1=>by show qaI (fun _=>0) g n+0*g n=0;rw[qjX];simp
theorem qrF{p:Int}{a b d:Nat}{m:Mat}(hm:m.2.2.1=(d:Int)):qdH (zm p a b) m=zm p a d:=by
 refine qew.2 ⟨rfl,rfl,hm,?_⟩
 show qas (qiF p (List.replicate (a*b) 0) m.2.2.2.1 ((b:Int)).toNat m.2.2.1.toNat) m.2.2.1.toNat ((a:Int)).toNat=List.replicate (a*d) 0
 rw[hm,Int.toNat_natCast,Int.toNat_natCast,Int.toNat_natCast]
 refine Eq.trans (qaK fun i j hi hj=>(?_:_=(0:Int))) qgG
 unfold qiF
 rw[qaE (d:=fun _=>0) (h:=fun l=>m.2.2.2.1.getD (l*d+j) 0) fun l hl=>⟨by rw[List.getD_eq_getElem?_getD,List.getElem?_replicate];split<;>rfl,rfl⟩,qjX,Int.zero_emod]
theorem qrb{c:List Sim}{p:Int}{st:Sim}(hv:VC c)(hl:st.length=c.length)(hst:∀ x∈st,0≤x∧x≤3){k i:Nat}(hk:k<c.length)(hi:i<(qaH c k).length) :
  mp c ((qb1 c c.length).map (zOf p st)) k i=zm p (st.getD k 0).toNat (st.getD (fc c k i) 0).toNat:=by
 have hg:=qcI (n:=c.length) hk hi
 obtain⟨f,f1,f2,f3⟩:=qe6 hv.srt hv hk hi
 obtain⟨a,ha,ea,hka,eka⟩:=qg7 hl hst hk
 obtain⟨b,hb,eb,hfb,efb⟩:=qg7 hl hst f1
 unfold mp fc
 rw[List.getD_eq_getElem?_getD,List.getElem?_map,hg]
 show zOf p st ((k:Int),(i:Int),(qaH c k).getD i 0,())=_
 unfold zOf zm
 simp only[f3,Int.toNat_natCast,ea,eb]
theorem qo8{c:List Sim}{p:Int}{st:Sim}(hv:VC c)(hl:st.length=c.length)(hst:∀ x∈st,0≤x∧x≤3):qbX c ((qb1 c c.length).map (zOf p st))=none:=by
 have key:∀ k i j,k<c.length→i<(qaH c k).length→j<(qaH c (fc c k i)).length→two c ((qb1 c c.length).map (zOf p st)) k i j=zm p (st.getD k 0).toNat (st.getD (fc c (fc c k i) j) 0).toNat:=fun k i j hk hi hj=>by
  obtain⟨_,a2,a3⟩:=qaW hv hk hi
  unfold two
  rw[qrb hv hl hst hk hi,qrb hv hl hst a2 hj]
  exact qrF rfl
 refine qe3 fun k i j hk h3 hij hj=>?_
 have hl:=qaz (c:=c) (k:=k)
 rw[if_pos (by omega)] at hl
 obtain⟨_,a2,a3⟩:=qaW hv hk (show i<(qaH c k).length by omega)
 obtain⟨_,b2,b3⟩:=qaW hv hk (show j<(qaH c k).length by omega)
 have la:=qaz (c:=c) (k:=fc c k i)
 have lb:=qaz (c:=c) (k:=fc c k j)
 rw[a3,List.length_eraseIdx_of_lt (by omega),if_pos (by omega)] at la
 rw[b3,List.length_eraseIdx_of_lt (by omega),if_pos (by omega)] at lb
 rw[key k i (j-1) hk (by omega) (by omega),key k j i hk (by omega) (by omega)]
 have:fc c (fc c k i) (j-1)=fc c (fc c k j) i:=by
  obtain⟨_,u2,u3⟩:=qaW hv a2 (show j-1<(qaH c (fc c k i)).length by omega)
  obtain⟨_,w2,w3⟩:=qaW hv b2 (show i<(qaH c (fc c k j)).length by omega)
  refine qiE hv u2 w2 ?_
  rw[u3,w3,a3,b3]
  exact(qfp hij).symm
 rw[this]
theorem qiB{c:List Sim}{x:Sim}:x∈sk1 c↔x∈c∧x.length≤2:=by
 unfold sk1
 rw[List.mem_filter]
 simp
theorem qsl{c:List Sim}(hv:VC c):VC (sk1 c):=by
 have hsub:(sk1 c).Sublist c:=List.filter_sublist
 have hg:∀ k,k<(sk1 c).length→(sk1 c).getD k []∈sk1 c:=fun k hk=>by rw[qac hk];exact List.getElem_mem hk
 have hvx:∀ x∈c,Vx x:=fun x hx=>by
  obtain⟨k,hk,rfl⟩:=List.getElem_of_mem hx
  have:=hv.2.1 k hk
  rwa [qac hk] at this
 have hpw:c.Pairwise fun a b=>qec a b<0:=List.pairwise_iff_getElem.2 fun i j hi hj hij=>hv.srt i j hj hij
 have hpw2:=hpw.sublist hsub
 refine⟨Nat.le_trans hsub.length_le hv.1,fun k hk=>hvx _ (qiB.1 (hg k hk)).1,fun k h1 (hk:k<(sk1 c).length)=>?_,fun k (hk:k<(sk1 c).length) f hf=>?_⟩
 ·rw[qac (show k-1<(sk1 c).length by omega),qac hk]
  exact List.pairwise_iff_getElem.1 hpw2 (k-1) k (by omega) hk (by omega)
 ·obtain⟨h1,h2⟩:=qiB.1 (hg k hk)
  obtain⟨q,hq,e⟩:=List.getElem_of_mem h1
  refine qiB.2 ⟨hv.2.2.2 q hq f (by rw[qac hq,e];exact hf),?_⟩
  obtain⟨h3,i,hi,rfl⟩:=qcK.1 hf
  rw[List.length_eraseIdx_of_lt hi];omega
theorem qst{c:List Sim}(h:S5 c):S5 (sk1 c):=fun x hx=>h x (qiB.1 hx).1
end VeT
open Go Go.Proofs Ve
namespace VeT
theorem qsQ{p:Int}(h:2≤p∧p≤251∧∀ k∈List.range 16,2≤k→(k:Int)*k≤p→p%k≠0):Pr p:=⟨h.1,h.2.1,fun k h1 h2=>by
 by_cases hk:k<16
 ·exact h.2.2 k (List.mem_range.2 hk) h1 h2
 ·have:16*16≤k*k:=Nat.mul_le_mul (by omega) (by omega)
  have e:(k:Int)*k=((k*k:Nat):Int):=(qaY ..).symm
  rw[e] at h2
  have:=h.2.1
  omega⟩
theorem pr5{p:Int}(h:p∈([2,3,5,7,251]:List Int)):Pr p:=by
 simp only[List.mem_cons,List.not_mem_nil,or_false] at h
 rcases h with rfl | rfl | rfl | rfl | rfl<;>exact qsQ (by decide)
theorem VS.at{c:List Sim}{p:Int}{st:Sim}{ms:List Mat}(h:VS c p st ms){t:Nat}(ht:t<ms.length):∃ a b:Nat,a≤3∧b≤3∧VM (ms.getD t mz)∧(ms.getD t mz).1=p∧(ms.getD t mz).2.1=(a:Int)∧(ms.getD t mz).2.2.1=(b:Int):=by
 have hl:=h.2.2.2.1
 have ht':t<(qb1 c c.length).length:=by unfold plc at hl;omega
 obtain⟨k,i,h1,h2,h3⟩:=qiM ht'
 have hb:=(h.map h1 h2).2
 unfold mp at hb
 rw[← h3] at hb
 obtain⟨a1,a2⟩:=qcC h.2.2.1.2.1 k
 obtain⟨b1,b2⟩:=qcC h.2.2.1.2.1 (fc c k i)
 exact⟨(st.getD k 0).toNat,(st.getD (fc c k i) 0).toNat,by omega,by omega,hb.1,hb.2.1,by rw[hb.2.2.1];omega,by rw[hb.2.2.2];omega⟩
theorem qdp{l:Sim}(h:l.length≤1048576):Sm (.sl (.int .i64)) l:=⟨h,fun _ _=>trivial⟩
theorem qpn{ms:List Mat}(h:ms.length≤1048576)(h2:∀ m∈ms,m.2.2.2.1.length≤1048576):Sm (.sl (.st cM)) ms:=⟨h,fun m hm=>⟨trivial,trivial,trivial,qdp (h2 m hm),trivial⟩⟩
theorem VS.plc_le{c:List Sim}{p:Int}{st:Sim}{ms:List Mat}(h:VS c p st ms):ms.length≤192:=by
 rw[← h.2.2.2.1];exact qef h.1
theorem VS.cells{c:List Sim}{p:Int}{st:Sim}{ms:List Mat}(h:VS c p st ms):∀ m∈ms,m.2.2.2.1.length≤9:=fun m hm=>by
 obtain⟨t,ht,rfl⟩:=List.getElem_of_mem hm
 obtain⟨a,b,ha,hb,hv,_,e1,e2⟩:=h.at ht
 rw[qac ht] at hv e1 e2
 have:=hv.num
 rw[e1,e2,Int.toNat_natCast,Int.toNat_natCast] at this
 have:=Nat.mul_le_mul ha hb
 omega
theorem VS.sm{c:List Sim}{p:Int}{st:Sim}{ms:List Mat}(h:VS c p st ms):Sm (.st cS) (c,p,st,ms,()):=by
 have h48:=h.1.1
 have hl:=h.2.2.1.1
 have h192:=h.plc_le
 exact⟨h.1.sm,trivial,qdp (by show st.length≤_;omega),qpn (by show ms.length≤_;omega) fun m hm=>by have:=h.cells m hm;omega,trivial⟩
abbrev Drw:=List Sim×Int×Sim×List Mat×Src×Unit
def qso(n:Nat)(r:Drw):Prop:=ISh (r.1,r.2.1,r.2.2.1,r.2.2.2.1,())∧S5 r.1∧SO n r.2.2.2.2.1
theorem qrP{p:Int}{d:Nat}(hp:Pr p)(hd:d≤3):Bt (qbf p d) p (d:Int) (d:Int):=⟨qe8 hp (by omega),rfl,rfl,rfl⟩
theorem qhL{α:Type}{n i:Nat}{a d:α}(h:i<n):(List.replicate n a).getD i d=a:=by
 rw[List.getD_eq_getElem?_getD,List.getElem?_replicate,if_pos h];rfl
theorem qqy{c:List Sim}{p:Int}{d:Nat}(hv:VC c)(h5:∀ k:Nat,k<4→SD c (List.replicate c.length (d:Int)) k≤32)(hp:Pr p)(hd:d≤3):ISh (c,p,List.replicate c.length (d:Int),List.replicate (qb1 c c.length).length (qbf p d),()):=by
 have hpl:∀ k i,k<c.length→i<(qaH c k).length→plc c k+i<(qb1 c c.length).length:=fun k i hk hi=>by
  have:=qcI (n:=c.length) hk hi
  rcases Nat.lt_or_ge (plc c k+i) (qb1 c c.length).length with h | h
  ·exact h
  ·rw[List.getElem?_eq_none h] at this;cases this
 refine⟨⟨hv,hp,⟨by simp,fun x hx=>by rw[(List.mem_replicate.1 hx).2];omega,fun k hk=>h5 k hk⟩,?_,fun k hk i hi=>?_⟩,?_⟩
 ·show(qb1 c c.length).length=(List.replicate _ _).length
  simp
 ·obtain⟨f,f1,f2,f3⟩:=qe6 hv.srt hv hk hi
  show Bt ((List.replicate _ _).getD (plc c k+i) mz) p ((List.replicate _ _).getD ((qaH c k).getD i 0).toNat 0) ((List.replicate _ _).getD k 0)
  rw[f3,Int.toNat_natCast,qhL (hpl k i hk hi),qhL f1,qhL hk]
  exact qrP hp hd
 ·exact qoj (m:=qbf p d) hv fun k i hk hi=>qhL (hpl k i hk hi)
theorem qsG{c:List Sim}(hv:VC c)(h5:S5 c){st:Sim}(hst:∀ x∈st,0≤x∧x≤3):∀ k:Nat,k<4→SD c st k≤32:=fun k hk=>by
 have h1:=qnR hv h5 hk
 have h2:=qif hst (c:=c) (d:=(k:Int)) (n:=c.length)
 rw[qn9];omega
theorem qob(n:Nat)(s:Src)(hn:n≤10000000)(hs:SO n s):qjc n_Z180 [dR s] o_Z180 fun(r:Drw)=>qso (n+20000) r:=by
  obtain⟨c0,a,g,⟨⟩⟩:=s
  refine qbI ?_
  simp only[run_Z180,Z180.ev]
  refine qaX (qlC n _ (by omega) hs) fun(r:List Sim×Src×Unit) ⟨b1,b2,b3⟩=>?_
  obtain⟨c,s1,⟨⟩⟩:=r
  simp only at b1 b2 b3
  dsimp only
  have h48:=b1.1
  have h192:=qef b1
  refine qaX (qdZ (n+50) _ _ (by simp) (by omega) b3) fun(r:Int×Src×Unit) ⟨p1,p2⟩=>?_
  obtain⟨p,s2,⟨⟩⟩:=r
  simp only at p1 p2
  have hp:=pr5 p1
  refine qaX (qa1 (n+52) _ 5 (by omega) p2) fun(r:Int×Src×Unit) ⟨q1,q2,q3,q4⟩=>?_
  obtain⟨w,s3,⟨⟩⟩:=r
  simp only at q1 q2 q3 q4
  dsimp only
  -- the constant sheaf
  refine qc9 (fun _=>?_) fun _=>?_
  · refine qaX (qa1 (n+54) _ 2 (by omega) q4) fun(r:Int×Src×Unit) ⟨r1,r2,r3,r4⟩=>?_
    obtain⟨d0,s4,⟨⟩⟩:=r
    simp only at r1 r2 r3 r4
    have ed:w64 (1+d0)=((d0.toNat+1:Nat):Int):=by rw[qag (by omega) (by omega)];omega
    rw[ed]
    refine qaw (qcf c p (d0.toNat+1) (by omega) b1.sm b1) (qaS ⟨?_,b2,r4.le (by omega)⟩)
    exact qqy b1 (qsG b1 b2 fun x hx=>by rw[(List.mem_replicate.1 hx).2];omega) hp (by omega)
  -- in other bases
  refine qc9 (fun _=>?_) fun _=>?_
  · refine qaX (qa1 (n+54) _ 2 (by omega) q4) fun(r:Int×Src×Unit) ⟨r1,r2,r3,r4⟩=>?_
    obtain⟨d0,s4,⟨⟩⟩:=r
    simp only at r1 r2 r3 r4
    have ed:w64 (1+d0)=((d0.toNat+1:Nat):Int):=by rw[qag (by omega) (by omega)];omega
    rw[ed]
    refine qaX (qmt (n+56) s4 c p (d0.toNat+1) (by omega) (by exact r4) b1 hp (by omega)) fun r ⟨ms,s5,bs,e,m1,m2,m3,m4,m5⟩=>?_
    subst e
    refine qaS ⟨⟨qrW b1 b2 hp (by simp) (fun x hx=>by rw[(List.mem_replicate.1 hx).2];omega) m1 fun k hk i hi=>?_,?_⟩,b2,m5.le (by omega)⟩
    · show Bt (ms.getD (plc c k+i) mz) p ((List.replicate _ _).getD ((qaH c k).getD i 0).toNat 0) ((List.replicate _ _).getD k 0)
      rw[m4 k i hk hi]
      exact qn2 b1 hp (by omega) m2 m3 hk hi
    · exact qkt b1 hp (d:=d0.toNat+1) (by omega) m2 m3 fun k i hk hi=>m4 k i hk hi
  -- at one place
  refine qc9 (fun _=>?_) fun _=>?_
  · have hj:∀(st:Sim) (s5:Src) (m:Nat),st.length=c.length→(∀ x∈st,0≤x∧x≤3)→m≤n+20000→SO m s5→EvQ (fun φ=>Z180.j0 (mkR (run E (φ 0))) (φ 0) p 0 c st s5.1 s5.2.1 s5.2.2.1) o_Z180 fun(r:Drw)=>qso (n+20000) r:=fun st s5 m hl hst hm h5=>by
      simp only[Z180.j0_eq _ qae]
      refine qaw (qgB c p st b1.sm b1 hl hst) (qaS ⟨⟨qrW b1 b2 hp hl hst (by show((qb1 c c.length).map _).length=_;rw[List.length_map];rfl) fun k hk i hi=>qpF b1 hp hl hst hk hi,qo8 b1 hl hst⟩,b2,h5.le hm⟩)
    rw[Int.toNat_natCast]
    refine qaO (by simp only[Bool.and_eq_true,decide_eq_true_eq];omega) ?_
    have hrl:(List.replicate c.length (0:Int)).length=c.length:=List.length_replicate
    refine qcr (fun h=>?_) fun h=>hj _ s3 (n+54) (by simp) (fun x hx=>by rw[(List.mem_replicate.1 hx).2];omega) (by omega) q4
    refine qaX (qa1 (n+54) s3 _ (by omega) q4) fun(r:Int×Src×Unit) ⟨r1,r2,r3,r4⟩=>?_
    obtain⟨k0,s4,⟨⟩⟩:=r
    simp only at r1 r2 r3 r4
    refine qaX (qa1 (n+56) s4 3 (by omega) r4) fun(r:Int×Src×Unit) ⟨t1,t2,t3,t4⟩=>?_
    obtain⟨d0,s5,⟨⟩⟩:=r
    simp only at t1 t2 t3 t4
    rw[hrl] at r2 h
    have hk:k0<(c.length:Int):=by omega
    refine qaO (show(decide ((0:Int)≤k0)&&decide (k0<((List.replicate c.length (0:Int)).length:Int)))=true by rw[hrl];simp only[Bool.and_eq_true,decide_eq_true_eq];omega) ?_
    refine hj _ s5 (n+58) (by simp) (fun x hx=>?_) (by omega) t4
    rcases List.mem_or_eq_of_mem_set hx with hx | rfl
    · rw[(List.mem_replicate.1 hx).2];omega
    · rw[qag (by omega) (by omega)];omega
  -- of dimension 1
  refine qaw (qo4 c b1) ?_
  have v1:=qsl b1
  have f1:=qst b2
  have k48:=v1.1
  have k192:=qef v1
  have hfl:∀ x∈sk1 c,x.length≤2:=fun x hx=>(qiB.1 hx).2
  generalize sk1 c=c1 at v1 f1 k48 k192 hfl ⊢
  refine EvQ.start 1 (L:=fun φ N=>Z180.l1 (mkR (run E (φ 0))) (φ 0) N p 0 0 c1 [] s3.1 s3.2.1 s3.2.2.1) ?_ (fun _ _ _=>rfl)
  refine EvQ.loop 1 (σ:=Nat×Sim×Src) (L:=fun φ N st=>Z180.l1 (mkR (run E (φ 0))) (φ 0) N p (st.1:Int) 0 c1 st.2.1 st.2.2.1 st.2.2.2.1 st.2.2.2.2.1) (fun _ _ _ _=>rfl)
    (fun st=>st.1≤c1.length∧st.2.1.length=st.1∧(∀ x∈st.2.1,0≤x∧x≤3)∧SO (n+60+2*st.1) st.2.2) (fun st=>c1.length-st.1) (fun st hi ih=>?_) (0,[],s3) ⟨Nat.zero_le _,rfl,fun x hx=>by simp at hx,q4.le (by show n+52+2≤n+60+2*0;omega)⟩
  obtain⟨k,st,s4⟩:=st
  obtain⟨i1,i2,i3,i4⟩:=hi
  simp only at i1 i2 i3 i4 ih ⊢
  simp only[Z180.l1_succ _ qae]
  refine qcr (fun h=>?_) fun h=>?_
  · refine qaX (qa1 _ s4 4 (by omega) i4) fun(r:Int×Src×Unit) ⟨r1,r2,r3,r4⟩=>?_
    obtain⟨y,s5,⟨⟩⟩:=r
    simp only at r1 r2 r3 r4
    refine qaO (decide_eq_true (by simp;omega)) ?_
    rw[qad (by omega)]
    refine ih (k+1,st++[y],s5) ⟨by show k+1≤c1.length;omega,by simp[i2],fun x hx=>?_,r4.le (by show n+60+2*k+2≤n+60+2*(k+1);omega)⟩ (by show c1.length-(k+1)<c1.length-k;omega)
    rcases List.mem_append.1 hx with hx | hx
    · exact i3 x hx
    · rw[List.mem_singleton] at hx;subst hx;omega
  have hk:k=c1.length:=by omega
  subst hk
  clear ih
  refine qaw (qgB c1 p st v1.sm v1 i2 i3) ?_
  have hol:((qb1 c1 c1.length).map (zOf p st)).length=(qb1 c1 c1.length).length:=by rw[List.length_map]
  have horig:∀ t,t<(qb1 c1 c1.length).length→∃ a b:Nat,a≤3∧b≤3∧VM (((qb1 c1 c1.length).map (zOf p st)).getD t mz)∧(((qb1 c1 c1.length).map (zOf p st)).getD t mz).2.1=(a:Int)∧(((qb1 c1 c1.length).map (zOf p st)).getD t mz).2.2.1=(b:Int):=fun t ht=>by
    obtain⟨k,i,h1,h2,h3⟩:=qiM ht
    have hb:=qpF v1 hp i2 i3 h1 h2
    rw[← h3] at hb
    obtain⟨a1,a2⟩:=qcC i3 k
    obtain⟨b1,b2⟩:=qcC i3 ((qaH c1 k).getD i 0).toNat
    exact⟨(st.getD k 0).toNat,(st.getD ((qaH c1 k).getD i 0).toNat 0).toNat,by omega,by omega,hb.1,by rw[hb.2.2.1];omega,by rw[hb.2.2.2];omega⟩
  have hbt:=fun k (hk:k<c1.length) i (hi:i<(qaH c1 k).length)=>qpF v1 hp i2 i3 hk hi
  generalize (qb1 c1 c1.length).map (zOf p st)=og at hol horig hbt ⊢
  refine EvQ.start 1 (L:=fun φ N=>Z180.l2 (mkR (run E (φ 0))) (φ 0) N p 0 0 p s4.1 s4.2.1 s4.2.2.1 og c1 st) ?_ (fun _ _ _=>rfl)
  refine EvQ.loop 1 (σ:=Nat×List Mat×Src) (L:=fun φ N x=>Z180.l2 (mkR (run E (φ 0))) (φ 0) N p (x.1:Int) 0 p x.2.2.1 x.2.2.2.1 x.2.2.2.2.1 x.2.1 c1 st) (fun _ _ _ _=>rfl)
    (fun x=>x.1≤og.length∧x.2.1.length=og.length∧(∀ t,t<og.length→VM (x.2.1.getD t mz)∧((x.2.1.getD t mz).1=(og.getD t mz).1∨(x.2.1.getD t mz).1=p)∧(x.2.1.getD t mz).2.1=(og.getD t mz).2.1∧(x.2.1.getD t mz).2.2.1=(og.getD t mz).2.2.1)∧SO (n+200+70*x.1) x.2.2) (fun x=>og.length-x.1) (fun x hi ih=>?_) (0,og,s4)
    ⟨Nat.zero_le _,rfl,fun t ht=>⟨by obtain⟨_,_,_,_,hv,_⟩:=horig t (by omega);exact hv,.inl rfl,rfl,rfl⟩,i4.le (by show n+60+2*c1.length≤n+200+70*0;omega)⟩
  obtain⟨k,ms,s5⟩:=x
  obtain⟨j1,j2,j3,j4⟩:=hi
  simp only at j1 j2 j3 j4 ih ⊢
  simp only[Z180.l2_succ _ qae]
  refine qcr (fun h=>?_) fun h=>?_
  · have hk:k<og.length:=by omega
    have hkm:k<ms.length:=by omega
    obtain⟨ra,rb,ha,hb,hv,ea,eb⟩:=horig k (by omega)
    obtain⟨u1,u2,u3,u4⟩:=j3 k hk
    have eg:ms[k]=ms.getD k mz:=(qac hkm).symm
    rw[Int.toNat_natCast]
    have hc:(decide ((0:Int)≤(k:Int))&&decide ((k:Int)<(ms.length:Int)))=true:=by simp only[Bool.and_eq_true,decide_eq_true_eq];omega
    refine qaO hc (qbe (List.getElem?_eq_getElem hkm) (qaO hc (qbe (List.getElem?_eq_getElem hkm) ?_)))
    rw[eg,u3,u4,ea,eb]
    refine qaX (qkB _ s5 p ra rb (by omega) j4 ⟨hp.1,hp.2.1⟩ (by omega) (by omega)) fun r ⟨cells,s6,e,c1',c2,c3⟩=>?_
    subst e
    refine qaO hc ?_
    rw[qad (by omega)]
    refine ih (k+1,ms.set k (p,(ra:Int),(rb:Int),cells,()),s6) ⟨hk,by rw[List.length_set];exact j2,fun t ht=>?_,c3.le (by show n+200+70*k+70≤n+200+70*(k+1);omega)⟩ (by show og.length-(k+1)<og.length-k;omega)
    show VM ((ms.set k (p,(ra:Int),(rb:Int),cells,())).getD t mz)∧_
    by_cases e:t=k
    · subst e
      rw[List.getD_eq_getElem?_getD,List.getElem?_set_self hkm]
      exact⟨qnN hp (by omega) (by omega) c1' c2,.inr rfl,by rw[ea];rfl,by rw[eb];rfl⟩
    · rw[List.getD_eq_getElem?_getD,List.getElem?_set_ne (fun h=>e h.symm),← List.getD_eq_getElem?_getD]
      exact j3 t ht
  · refine qaS ⟨⟨qrW v1 f1 hp i2 i3 (by show ms.length=(qb1 c1 c1.length).length;omega) fun k hk i hi=>?_,qn8 hfl⟩,f1,j4.le (by show n+200+70*k≤n+20000;omega)⟩
    have hb:=hbt k hk i hi
    have hlt:plc c1 k+i<og.length:=by
      rw[hol]
      have:=qcI (n:=c1.length) hk hi
      rcases Nat.lt_or_ge (plc c1 k+i) (qb1 c1 c1.length).length with h | h
      · exact h
      · rw[List.getElem?_eq_none h] at this;cases this
    obtain⟨u1,u2,u3,u4⟩:=j3 _ hlt
    exact⟨u1,by rcases u2 with u2 | u2<;>rw[u2];exact hb.2.1,by rw[u3];exact hb.2.2.1,by rw[u4];exact hb.2.2.2⟩
end VeT
open Go Go.Proofs Ve
namespace VeT
theorem qqF{f:Nat}{args:List Dv}(h:qjc f args (.cons .bool .nil) fun(r:Bool×Unit)=>r.1=true):Ret E f args ⟨.cons .bool .nil,(true,())⟩:=by
 obtain⟨⟨b,⟨⟩⟩,h1,h2⟩:=h
 have h2:b=true:=h2
 subst h2
 exact h1
theorem qfT{b:Bool}(h:b=true):EvQ (fun _=>some ⟨.cons .bool .nil,(b,())⟩) (.cons .bool .nil) fun(r:Bool×Unit)=>r.1=true:=qaS h
theorem qsh{c:List Int}(h:Wf (.sl (.int .u8)) c):SO 0 (c,0,0,()):=⟨fun b hb=>by
 have:=h.2 b hb
 simp only[Wf,Lit.wf,IntKind.min,IntKind.max,IntKind.signed,IntKind.bits,Bool.and_eq_true,decide_eq_true_eq] at this
 simp at this
 omega,by show(0:Int)≤0;omega,by show(0:Int)≤((0:Nat):Int);omega⟩
def Bnt(n:Nat)(r:Drw):Prop:=Sm (.st cS) (r.1,r.2.1,r.2.2.1,r.2.2.2.1,())∧r.1.length≤48∧SO n r.2.2.2.2.1
theorem qns(n:Nat)(s:Src)(hn:n≤1000000)(hs:SO n s):qjc n_Z175 [dR s] o_Z175 fun(r:Drw)=>Bnt (n+30000) r:=by
  obtain⟨c0,a,g,⟨⟩⟩:=s
  refine qbI ?_
  simp only[run_Z175,Z175.ev]
  refine qaX (qob n _ (by omega) hs) fun(r:Drw) ⟨⟨vs,_⟩,_,so⟩=>?_
  obtain⟨c,p,st,ms,s1,⟨⟩⟩:=r
  simp only at vs so
  dsimp only
  have h48:=vs.1.1
  have hsl:st.length=c.length:=vs.2.2.1.1
  have h192:=vs.plc_le
  have hce:=vs.cells
  have hp:=vs.2.1
  have fin:∀(c:List Sim) (p:Int) (st:Sim) (ms:List Mat) (s5:Src) (m:Nat),c.length≤48→Sm (.sl (.sl (.int .i64))) c→st.length≤100→ms.length≤192→(∀ m∈ms,m.2.2.2.1.length≤100)→m≤n+30000→SO m s5 →
      EvQ (fun φ=>Z175.j0 (mkR (run E (φ 0))) (φ 0) 0 c p st ms s5.1 s5.2.1 s5.2.2.1) o_Z175 fun(r:Drw)=>Bnt (n+30000) r:=fun c p st ms s5 m h1 h2 h3 h4 h5 h6 h7=>by
    simp only[Z175.j0_eq _ qae]
    exact qaS ⟨⟨h2,trivial,qdp (by show st.length≤_;omega),qpn (by show ms.length≤_;omega) fun m hm=>by have:=h5 m hm;omega,trivial⟩,h1,h7.le h6⟩
  have smc:=vs.1.sm
  have hce':∀ m∈ms,m.2.2.2.1.length≤100:=fun m hm=>by have:=hce m hm;omega
  refine qaX (qa1 (n+20000) s1 16 (by omega) so) fun(r:Int×Src×Unit) ⟨q1,q2,q3,q4⟩=>?_
  obtain⟨w,s2,⟨⟩⟩:=r
  simp only at q1 q2 q3 q4
  dsimp only
  refine qc9 (fun _=>?_) fun _=>?_
  · exact qaX (qdZ (n+20002) s2 _ (by simp) (by omega) q4) fun(r:Int×Src×Unit) ⟨p1,p2⟩=>fin c r.1 st ms r.2.1 (n+20004) h48 smc (by omega) h192 hce' (by omega) p2
  refine qc9 (fun _=>?_) fun _=>?_
  · exact qaO (decide_eq_true (by simp;omega)) (fin c p (st++[0]) ms s2 (n+20002) h48 smc (by simp;omega) h192 hce' (by omega) q4)
  refine qc9 (fun _=>?_) fun _=>?_
  · refine qcr (fun h=>?_) fun _=>fin c p st ms s2 (n+20002) h48 smc (by omega) h192 hce' (by omega) q4
    exact qaX (qdZ (n+20002) s2 _ (by simp) (by omega) q4) fun(r:Int×Src×Unit) ⟨p1,p2⟩=>qaO (by simp only[Bool.and_eq_true,decide_eq_true_eq];omega) (fin c p _ ms r.2.1 (n+20004) h48 smc (by rw[List.length_set];omega) h192 hce' (by omega) p2)
  refine qc9 (fun _=>?_) fun _=>?_
  · refine qcr (fun h=>?_) fun _=>fin c p st ms s2 (n+20002) h48 smc (by omega) h192 hce' (by omega) q4
    exact qaO (by simp only[Bool.and_eq_true,decide_eq_true_eq];omega) (fin c p st _ s2 (n+20002) h48 smc (by omega) (by rw[List.length_drop,List.length_take];omega) (fun m hm=>hce' m (List.mem_of_mem_take (List.mem_of_mem_drop hm))) (by omega) q4)
  have vx2:∀ a b:Int,0≤a→a<b→b≤9→Vx [a,b]:=fun a b h1 h2 h3=>⟨by simp,by simp,qdq (by simp;exact h2),fun x hx=>by simp at hx;rcases hx with rfl | rfl<;>omega⟩
  have vx3:∀ a b c:Int,0≤a→a<b→b<c→c≤9→Vx [a,b,c]:=fun a b c h1 h2 h3 h4=>⟨by simp,by simp,qdq (by simp;omega),fun x hx=>by simp at hx;rcases hx with rfl | rfl | rfl<;>omega⟩
  have fixed:∀(l:List Sim),l.length≤1024→(∀ s∈l,Vx s)→(l.map fun s=>2 ^ s.length).sum≤48→qjc n_Z162 [dLL l] o_Z162 fun(r:List Sim×Unit)=>VC r.1:=fun l h1 h2 h3=>by
    obtain⟨r,g1,g2,g3⟩:=qjY l h1 h2 fun c hs hm=>Nat.le_trans (qio hs hm) h3
    exact⟨r,g1,g2⟩
  have j2:∀ b:Bool,EvQ (fun φ=>Z175.j2 (mkR (run E (φ 0))) (φ 0) w b 0 p s2.1 s2.2.1 s2.2.2.1 c st ms) o_Z175 fun(r:Drw)=>Bnt (n+30000) r:=fun b=>by
    simp only[Z175.j2_eq _ qae]
    refine qc9 (fun _=>?_) fun _=>?_
    · refine qcr (fun h=>?_) fun _=>fin c p st ms s2 (n+20002) h48 smc (by omega) h192 hce' (by omega) q4
      refine qaX (qa1 (n+20002) s2 _ (by omega) q4) fun(r:Int×Src×Unit) ⟨r1,r2,r3,r4⟩=>?_
      obtain⟨k0,s3,⟨⟩⟩:=r
      simp only at r1 r2 r3 r4
      obtain⟨k,rfl⟩:=Int.eq_ofNat_of_zero_le r1
      have hk:k<ms.length:=by omega
      have hc:(decide ((0:Int)≤(k:Int))&&decide ((k:Int)<(ms.length:Int)))=true:=by simp only[Bool.and_eq_true,decide_eq_true_eq];omega
      obtain⟨ra,rb,ha,hb,hv,_,ea,eb⟩:=vs.at hk
      rw[qac hk] at ea eb
      dsimp only
      rw[Int.toNat_natCast]
      refine qaO hc (qbe (List.getElem?_eq_getElem hk) (qaO hc (qbe (List.getElem?_eq_getElem hk) ?_)))
      rw[ea,eb]
      refine qaX (qkB (n+20004) s3 p ra rb (by omega) r4 ⟨hp.1,hp.2.1⟩ (by omega) (by omega)) fun r ⟨cells,s6,e,c1',c2,c3⟩=>?_
      subst e
      refine qaO hc (fin c p st _ s6 _ h48 smc (by omega) (by rw[List.length_set];omega) (fun m hm=>?_) (by omega) c3)
      rcases List.mem_or_eq_of_mem_set hm with hm | rfl
      · exact hce' m hm
      · show cells.length≤100
        have:=Nat.mul_le_mul ha hb
        omega
    · refine qc9 (fun _=>?_) fun _=>fin c p st ms s2 (n+20002) h48 smc (by omega) h192 hce' (by omega) q4
      refine qaX (fixed _ (by decide) (fun s hs=>?_) (by decide)) fun(r:List Sim×Unit) v1=>?_
      · simp at hs;rcases hs with rfl | rfl | rfl | rfl<;>exact vx3 _ _ _ (by decide) (by decide) (by decide) (by decide)
      obtain⟨c1,⟨⟩⟩:=r
      have v1:VC c1:=v1
      have konst:∀(c1:List Sim) (s3:Src),VC c1→SO (n+20004) s3→EvQ (fun φ=>Z175.j0 (mkR (run E (φ 0))) (φ 0) 0 c1 3 (List.replicate c1.length ((3:Nat):Int)) (List.replicate (qb1 c1 c1.length).length (qbf 3 3)) s3.1 s3.2.1 s3.2.2.1) o_Z175 fun(r:Drw)=>Bnt (n+30000) r:=fun c1 s3 v1 so=>by
        have a1:=v1.1
        have a2:=qef v1
        exact fin c1 3 _ _ s3 (n+20004) a1 v1.sm (by rw[List.length_replicate];omega) (by rw[List.length_replicate];omega) (fun m hm=>by rw[(List.mem_replicate.1 hm).2];show(qas qbp 3 3).length≤100;rw[qar];omega) (by omega) so
      refine qaw (qcf c1 3 3 (by omega) v1.sm v1) ?_
      refine qaX (qgA (n+20002) s2 2 (by omega) q4) fun(r:Bool×Src×Unit) r4=>?_
      refine qc9 (fun _=>?_) fun _=>konst c1 r.2.1 v1 r4
      refine qaX (fixed _ (by decide) (fun s hs=>?_) (by decide)) fun(r2:List Sim×Unit) v2=>?_
      · simp at hs;rcases hs with rfl | rfl | rfl | rfl | rfl | rfl | rfl<;>first | exact vx3 _ _ _ (by decide) (by decide) (by decide) (by decide) | exact vx2 _ _ (by decide) (by decide) (by decide)
      obtain⟨c2,⟨⟩⟩:=r2
      have v2:VC c2:=v2
      exact qaw (qcf c2 3 3 (by omega) v2.sm v2) (konst c2 r.2.1 v2 r4)
  simp only[Z175.j1_eq _ qae]
  exact qc9 (fun _=>j2 _) fun _=>j2 _
theorem qjo(n:Nat)(s:Src)(t:Shf)(hn:n≤10000000)(hs:SO n s)(ht:t.1.length≤48):qjc n_Z194 [dR s,dS t] o_Z194 fun(r:Sim×Src×Unit)=>r.1.length≤100∧SO (n+200) r.2.1:=by
 obtain⟨c0,a,g,⟨⟩⟩:=s
 refine qbI ?_
 simp only[run_Z194,Z194.ev]
 refine qaX (qdZ n _ _ (by simp) (by omega) hs) fun(r:Int×Src×Unit) ⟨p1,p2⟩=>?_
 obtain⟨many,s1,⟨⟩⟩:=r
 simp only at p1 p2
 refine EvQ.start 1 (L:=fun φ N=>Z194.l0 (mkR (run E (φ 0))) (φ 0) N t many 0 [] s1.1 s1.2.1 s1.2.2.1) ?_ (fun _ _ _=>rfl)
 refine EvQ.loop 1 (σ:=Nat×Sim×Src) (L:=fun φ N st=>Z194.l0 (mkR (run E (φ 0))) (φ 0) N t many (st.1:Int) st.2.1 st.2.2.1 st.2.2.2.1 st.2.2.2.2.1) (fun _ _ _ _=>rfl)
  (fun st=>st.1≤t.1.length∧st.2.1.length≤st.1∧SO (n+2+2*st.1) st.2.2) (fun st=>t.1.length-st.1) (fun st hi ih=>?_) (0,[],s1) ⟨Nat.zero_le _,Nat.le_refl _,p2⟩
 obtain⟨k,o,s2⟩:=st
 obtain⟨i1,i2,i3⟩:=hi
 simp only at i1 i2 i3 ih ⊢
 simp only[Z194.l0_succ _ qae]
 refine qcr (fun h=>?_) fun h=>?_
 ·refine qaX (qgA _ s2 many (by omega) i3) fun(r:Bool×Src×Unit) r4=>?_
  obtain⟨b,s3,⟨⟩⟩:=r
  simp only at r4
  have go:∀ o':Sim,o'.length≤k+1→EvQ (fun φ=>Z194.l0 (mkR (run E (φ 0))) (φ 0) (φ 1) t many (w64 ((k:Int)+1)) o' s3.1 s3.2.1 s3.2.2.1) o_Z194 fun(r:Sim×Src×Unit)=>r.1.length≤100∧SO (n+200) r.2.1:=fun o' ho=>by
   rw[qad (by omega)]
   exact ih (k+1,o',s3) ⟨by show k+1≤t.1.length;omega,ho,r4.le (by show n+2+2*k+2≤n+2+2*(k+1);omega)⟩ (by show t.1.length-(k+1)<t.1.length-k;omega)
  refine qc9 (fun _=>qaO (decide_eq_true (by simp;omega)) (go _ (by simp;omega))) fun _=>go _ (by omega)
 ·refine qaX (qgA _ s2 14 (by omega) i3) fun(r:Bool×Src×Unit) r4=>?_
  refine qc9 (fun _=>?_) fun _=>qaS ⟨by show o.length≤100;omega,r4.le (by omega)⟩
  refine qaX (qdZ (n+2+2*k+2) r.2.1 _ (by simp) (by omega) r4) fun(q:Int×Src×Unit) ⟨q1,q2⟩=>qaO (decide_eq_true (by simp;omega)) (qaS ⟨?_,q2.le (by omega)⟩)
  show(o++[q.1]).length≤100
  simp;omega
theorem qid(x:List Int):Ret E n_Z90 [dB x] ⟨o_Z90,(decide ((x.length:Int)>1048576),())⟩:=by
 refine qai ?_
 simp only[run_Z90,Z90.ev]
 exact Ev.of fun _=>trivial
theorem qh1(v:Sim)(hv:v.length≤1048576):Ret E n_Z93 [dL v] ⟨o_Z93,(pb (Zs v),())⟩:=by
 refine qai ?_
 simp only[run_Z93,Z93.ev]
 refine Ev.start (p:=fun φ n=>Z93.l0 (mkR (run E (φ 0))) (φ 0) n v 0=_) 1 ?_ (fun _ _ _ h=>h)
 rw[← qrv]
 refine qcj 1 (L:=fun φ n k=>Z93.l0 (mkR (run E (φ 0))) (φ 0) n v k) (len:=v.length) 0 (by omega) (fun j=>v.getD j 0=0) (fun b=>some ⟨o_Z93,(b,())⟩) (fun _ _ _ _=>rfl) (fun k h1 h2 hP _=>?_) (fun k r h1 h2 hP _ ih=>?_) (fun _=>?_)
 ·simp only[Z93.l0_succ _ qae]
  rw[qac h2] at hP
  exact qax (decide_eq_true (by omega)) (qab (qaj h2) (qax (by simpa using hP) qal))
 ·simp only[Z93.l0_succ _ qae]
  rw[qac h2] at hP
  refine qax (decide_eq_true (by omega)) (qab (qaj h2) (qaC (by simpa using hP) ?_))
  rw[qad (by omega)];exact ih
 ·simp only[Z93.l0_succ _ qae]
  exact qaC (decide_eq_false (by omega)) qal
end VeT
open Go Go.Proofs Ve
namespace VeT
def qoK(p:Int)(R W:Nat)(A:Ent)(x:Nat→Int):Prop:=∀ i,i<R→qaI x (A i) W%p=0
theorem qmA{p:Int}{W:Nat}{pv:List Nat}{F:Ent}:∀ {n:Nat} {x:Sim},x∈qgw p W pv F n→∃ c,c<n∧c∉pv∧x=qkh p W pv F c pv.length
 | 0,x,h=>by simp[qgw] at h
 | n+1,x,h=>by
  rw[qgw,List.mem_append] at h
  rcases h with h | h
  ·obtain⟨c,h1,h2⟩:=qmA h;exact⟨c,by omega,h2⟩
  ·by_cases e:n∈pv
   ·rw[if_pos e] at h;simp at h
   ·rw[if_neg e,List.mem_singleton] at h;exact⟨n,by omega,e,h⟩
theorem qnn{p:Int}{R W c:Nat}{pv:List Nat}{F:Ent}(hrf:Rf R W F pv)(hc:c<W)(hcp:c∉pv):∀ n,n≤pv.length→∀ m,n≤m→m<pv.length→(qkh p W pv F c n).getD (pv.getD m 0) 0=0
 | 0,_,m,_,hm=>by
  show((List.replicate W (0:Int)).set c 1).getD (pv.getD m 0) 0=_
  rw[qda (by simpa using hc),if_neg fun e=>hcp (by rw[← e];exact qf1 hm),List.getD_eq_getElem?_getD,List.getElem?_replicate]
  split<;>rfl
 | n+1,hn,m,h1,hm=>by
  have hq:=hrf.lt n (by omega)
  have:=hrf.mono n m (by omega) hm
  rw[qdL,qda (by rw[qbS];exact hq),if_neg (by omega)]
  exact qnn hrf hc hcp n (by omega) m (by omega) hm
theorem qnu{p:Int}{R W c i:Nat}{pv:List Nat}{F:Ent}(hrf:Rf R W F pv)(hc:c<W)(hcp:c∉pv)(hi:i<R):∀ n,n≤pv.length →
  qaI (fun j=>(qkh p W pv F c n).getD j 0) (F i) W%p=(F i c+if i<n then 0-F i c else 0)%p
 | 0,_=>by
  rw[if_neg (by omega),Int.add_zero]
  congr 1
  rw[qaE (d:=fun j=>if j=c then 1 else 0) (h:=F i) fun j hj=>⟨by
   show((List.replicate W (0:Int)).set c 1).getD j 0=_
   rw[qda (by simpa using hc),List.getD_eq_getElem?_getD,List.getElem?_replicate,if_pos hj];rfl,rfl⟩,qcF hc]
 | n+1,hn=>by
  have hq:=hrf.lt n (by omega)
  have hn':n<pv.length:=by omega
  rw[qaE (d:=fun j=>if j=pv.getD n 0 then(0-F n c)%p else(qkh p W pv F c n).getD j 0) (h:=F i) fun j hj=>⟨by
   rw[qdL,qda (by rw[qbS];exact hq)],rfl⟩,qnb hq,qnn hrf hc hcp n (by omega) n (Nat.le_refl _) hn',hrf.one i n hi hn',Int.add_emod,qnu hrf hc hcp hi n (by omega),← Int.add_emod,Int.sub_zero]
  by_cases e:i=n
  ·subst e
   rw[if_neg (by omega),if_pos (by omega),if_pos (show i<i+1 by omega),Int.mul_one,Int.add_zero,Int.add_emod_emod]
  ·rw[if_neg e,Int.mul_zero,Int.add_zero]
   by_cases h:i<n
   ·rw[if_pos h,if_pos (by omega)]
   ·rw[if_neg h,if_neg (by omega)]
theorem qqR{p:Int}{R W c:Nat}{pv:List Nat}{F:Ent}(hrf:Rf R W F pv)(hc:c<W)(hcp:c∉pv):qoK p R W F fun j=>(qkh p W pv F c pv.length).getD j 0:=fun i hi=>by
 rw[qnu hrf hc hcp hi pv.length (Nat.le_refl _)]
 by_cases h:i<pv.length
 ·rw[if_pos h,show F i c+(0-F i c)=0 by omega,Int.zero_emod]
 ·rw[if_neg h,hrf.bot i c (by omega) hi hc];simp
theorem qqT{p:Int}{R W:Nat}{cells:Sim}(hp:Pr p)(hl:cells.length=R*W)(he:qaD cells p){x:Sim}(hx:x∈qjU p R W cells):qoK p R W (qcE cells W) fun j=>x.getD j 0:=fun i hi=>by
 obtain⟨hrf,heq⟩:=qgr hp (qb8 he hl) W (Nat.le_refl _)
 obtain⟨c,h1,h2,rfl⟩:=qmA hx
 exact Spn.orth (qqR hrf h1 h2) (heq.2 i hi)
theorem qrD{p:Int}{R W:Nat}{cells:Sim}(hp:Pr p)(hl:cells.length=R*W)(he:qaD cells p){x:Sim}(hx:x∈qjU p R W cells):∃ j,j<x.length∧x.getD j 0=1:=by
 obtain⟨hrf,heq⟩:=qgr hp (qb8 he hl) W (Nat.le_refl _)
 obtain⟨c,h1,h2,rfl⟩:=qmA hx
 refine⟨c,by rw[qbS];exact h1,?_⟩
 rw[qeX hrf h1 h2 h1 _ (Nat.le_refl _),if_pos rfl]
end VeT
open Go Go.Proofs Ve
namespace VeT
end VeT
open Go Go.Proofs Ve
namespace VeT
def wN(w:Sim)(i:Nat):Nat:=(w.getD i 0).toNat
theorem qfO.wN{c:List Sim}{w:Sim}(h:qfO c w){i:Nat}(hi:i<w.length):w[i]? = some ((wN w i:Nat):Int)∧wN w i<c.length:=by
 obtain⟨n,hn,hl⟩:=h.get hi
 have e:VeT.wN w i=n:=by unfold VeT.wN;rw[qac hi,hn,Int.toNat_natCast]
 rw[e,List.getElem?_eq_getElem hi,hn]
 exact⟨rfl,hl⟩
theorem qfO.wN_lt{c:List Sim}{w:Sim}(h:qfO c w){i j:Nat}(hj:j<w.length)(hij:i<j):VeT.wN w i<VeT.wN w j:=by
 have hi:i<w.length:=by omega
 have:=h.1.lt hj hij
 have h0:=(h.2 _ (List.getElem_mem hi)).1
 unfold VeT.wN
 rw[qac hi,qac hj]
 omega
def qmH(st w v:Sim)(i:Nat):Sim:=(v.take (off st w i+st.getD (wN w i) 0).toNat).drop (off st w i).toNat
noncomputable def qri(x:Shf)(w v:Sim)(b a:Nat):Sim:=qhK (qbA x (wN w a) (wN w b)) (qmH x.2.2.1 w v a) (x.2.2.1.getD (wN w b) 0).toNat
def Cf(x:Shf)(w v:Sim)(b a:Nat):Prop:=qfq (x.1.getD (wN w a) []) (x.1.getD (wN w b) [])∧qri x w v b a≠qmH x.2.2.1 w v b
def CfB(x:Shf)(w v:Sim)(b:Nat):Prop:=∃ a,0≤a∧a<0+b∧Cf x w v b a
noncomputable def qmC(x:Shf)(w v:Sim)(out:Nat→Nat→Option Dv)(b:Nat)(rn:Option Dv):Option Dv:=orN (fun a=>out a b) rn (qaM (Cf x w v b) 0 b)
noncomputable def qo7(x:Shf)(w v:Sim)(out:Nat→Nat→Option Dv)(rn:Option Dv):Option Dv:=orN (fun b=>qmC x w v out b none) rn (qaM (CfB x w v) 0 w.length)
theorem qqv{x w v b}{out:Nat→Nat→Option Dv}{rn:Option Dv}(h:¬ CfB x w v b):qmC x w v out b rn=rn:=by
 unfold qmC
 cases hf:qaM (Cf x w v b) 0 b with
 | none=>rfl
 | some a =>
  have:=qay hf
  exact absurd ⟨a,this⟩ h
noncomputable def qfM(x:Shf)(w v:Sim):Option (Nat×Nat) :=
 match qaM (CfB x w v) 0 w.length with
 | some b=>(qaM (Cf x w v b) 0 b).map fun a=>(a,b)
 | none=>none
theorem qkd{x w v a b}(h:qfM x w v=some (a,b)):a<b∧b<w.length∧∀ out rn,qo7 x w v out rn=out a b:=by
 unfold qfM at h
 cases hb:qaM (CfB x w v) 0 w.length with
 | none=>rw[hb] at h;cases h
 | some b' =>
  rw[hb] at h
  simp only at h
  cases ha:qaM (Cf x w v b') 0 b' with
  | none=>rw[ha] at h;cases h
  | some a' =>
   rw[ha] at h
   have e:=Option.some.inj h
   obtain⟨rfl,rfl⟩:=Prod.mk.inj e
   have h1:=qay hb
   have h2:=qay ha
   refine⟨by omega,by omega,fun out rn=>?_⟩
   unfold qo7
   rw[hb]
   show qmC x w v out b' none=_
   unfold qmC
   rw[ha];rfl
theorem qoy{x w v}(h:qfM x w v=none):∀ out rn,qo7 x w v out rn=rn:=by
 intro out rn
 unfold qfM at h
 cases hb:qaM (CfB x w v) 0 w.length with
 | none=>unfold qo7;rw[hb];rfl
 | some b' =>
  rw[hb] at h
  simp only at h
  have h1:=qay hb
  obtain⟨a,ha⟩:=qb2 h1.2.2
  rw[ha] at h;cases h
structure CfS (x:Shf) (w v:Sim) (b a:Nat):Prop where
 hs:ISh x
 hp:qfO x.1 w
 hd:Dat x w v
 hb:b<w.length
 ha:a<b
 pt:qfq (x.1.getD (wN w a) []) (x.1.getD (wN w b) [])
theorem ql6{x:Shf}{w v:Sim}(hs:ISh x)(hp:qfO x.1 w)(hd:Dat x w v){i:Nat}(hi:i<w.length):0≤off x.2.2.1 w i∧off x.2.2.1 w i≤off x.2.2.1 w i+x.2.2.1.getD (wN w i) 0∧off x.2.2.1 w i+x.2.2.1.getD (wN w i) 0≤v.length∧wN w i<x.2.2.1.length∧x.2.2.1.getD (wN w i) 0≤3:=by
 have hst:=hs.1.2.2.1.2.1
 have h1:=hp.wN hi
 have h2:=qcC hst (wN w i)
 have h3:=qnL (w:=w) hst (n:=i)
 have hw:w[i]=((wN w i:Nat):Int):=by have:=h1.1;rw[List.getElem?_eq_getElem hi] at this;exact Option.some.inj this
 have h4:=qku (w:=w) hst (show i+1≤w.length by omega)
 rw[qhR hi hw,← hd.2] at h4
 exact⟨h3.1,by omega,h4,by rw[hs.1.2.2.1.1];exact h1.2,by omega⟩
theorem qfF{x:Shf}{w v:Sim}(hs:ISh x)(hp:qfO x.1 w)(hd:Dat x w v){i:Nat}(hi:i<w.length):((qmH x.2.2.1 w v i).length:Int)=x.2.2.1.getD (wN w i) 0:=by
 obtain⟨h1,h2,h3,_⟩:=ql6 hs hp hd hi
 unfold qmH
 rw[List.length_drop,List.length_take];omega
theorem qjp(x:Shf)(w v:Sim)(i:Nat)(hi:i<w.length)(hs:ISh x)(hp:qfO x.1 w)(hd:Dat x w v)(hv:v.length≤1048576) :
  Ret E n_Z34 [dI (i:Int),⟨.ptr (.cons (.sl (.int .i64)) .nil),(v,())⟩,⟨.ptr (.cons (.sl (.int .i64)) .nil),(qeu x.2.2.1 w w.length,())⟩,dS x,⟨.ptr (.cons (.sl (.int .i64)) .nil),(w,())⟩] ⟨o_Z34,(qmH x.2.2.1 w v i,())⟩:=by
 obtain⟨h1,h2,h3,h4,h5⟩:=ql6 hs hp hd hi
 have hg:=(hp.wN hi).1
 have hsg:(qeu x.2.2.1 w w.length)[i]? = some (off x.2.2.1 w i):=by
  unfold qeu;rw[List.getElem?_map,List.getElem?_range hi];rfl
 have e:w64 (off x.2.2.1 w i+x.2.2.1.getD (wN w i) 0)=off x.2.2.1 w i+x.2.2.1.getD (wN w i) 0:=qag (by omega) (by omega)
 rw[qac h4] at e h2 h3
 refine qai ?_
 simp only[run_Z34,Z34.ev]
 refine qab (qaV.trans hsg) (qab (qaV.trans hsg) (qab (qaV.trans hg) (qab (qaj h4) ?_)))
 simp only[e]
 refine qao (by simp only[Bool.and_eq_true,decide_eq_true_eq];exact⟨⟨h1,h2⟩,h3⟩) (qah ?_)
 rw[qmH,qac h4]
theorem CfS.img{x:Shf}{w v:Sim}{b a:Nat}(h:CfS x w v b a)(hx:Sm (.st cS) x) :
  Ret E n_Z71 [dLL x.1,dI x.2.1,dL x.2.2.1,dMs x.2.2.2.1,dI ((wN w a:Nat):Int),dI ((wN w b:Nat):Int)] ⟨o_Z71,qbA x (wN w a) (wN w b)⟩ ∧
  Ret E n_Z23 [dI (qbA x (wN w a) (wN w b)).1,dI (qbA x (wN w a) (wN w b)).2.1,dI (qbA x (wN w a) (wN w b)).2.2.1,dL (qbA x (wN w a) (wN w b)).2.2.2.1,dL (qmH x.2.2.1 w v a)] ⟨o_Z23,(qri x w v b a,())⟩:=by
 have ha:a<w.length:=by have:=h.ha;have:=h.hb;omega
 have hst:=h.hs.1.2.2.1.2.1
 have hp2:2≤x.2.1∧x.2.1≤251:=⟨h.hs.1.2.1.1,h.hs.1.2.1.2.1⟩
 obtain⟨⟨hVM,hR⟩,r1⟩:=ql7 x.1 x.2.1 x.2.2.1 x.2.2.2.1 hx.1 h.hs.1 (wN w a) (h.hp.wN ha).2 _ (wN w b) (h.hp.wN h.hb).2 (Nat.le_refl _) h.pt
 have hc:(qbA x (wN w a) (wN w b)).2.2.1≤(qmH x.2.2.1 w v a).length:=by
  unfold qbA;rw[qgQ hst,qfF h.hs h.hp h.hd ha];exact Int.le_refl _
 have he:∀ y∈qmH x.2.2.1 w v a,0≤y∧y≤250:=fun y hy=>h.hd.1.mem hp2 y (List.mem_of_mem_take (List.mem_of_mem_drop hy))
 have a1:=qis (qbA x (wN w a) (wN w b)) (qmH x.2.2.1 w v a) hVM hc he
 rw[show(qbA x (wN w a) (wN w b)).2.1=x.2.2.1.getD (wN w b) 0 from hR] at a1
 refine⟨r1,?_⟩
 rw[show(qbA x (wN w a) (wN w b)).2.1=x.2.2.1.getD (wN w b) 0 from hR]
 exact a1
theorem qh6{x:Shf}{w v:Sim}{b a:Nat}(hs:ISh x):(qri x w v b a).length≤3:=by
 have:=qcC hs.1.2.2.1.2.1 (wN w b)
 unfold qri;rw[qa9];omega
noncomputable def qsw(w:Sim)(a b:Nat):Option Dv:=some ⟨o_Z33,(((wN w a:Nat):Int),((wN w b:Nat):Int),true,())⟩
theorem qk4(x:Shf)(w v:Sim)(hx:Sm (.st cS) x)(hw:Sm (.sl (.int .i64)) w)(hv:Sm (.sl (.int .i64)) v)(hs:ISh x)(hp:qfO x.1 w)(hd:Dat x w v) :
    Ev fun φ=>run E (φ 0+1) n_Z33 [dLL x.1,dI x.2.1,dL x.2.2.1,dMs x.2.2.2.1,dL w,dL v]=qo7 x w v (qsw w) (some ⟨o_Z33,(0,0,false,())⟩):=by
  have hw1:w.length≤1048576:=hw.1
  have hc:Sm (.sl (.sl (.int .i64))) x.1:=hx.1
  have of:=qhW x w hs.1.2.2.1.1 hs.1.2.2.1.2.1 hw.1 fun i hi=>hp.get hi
  have ec:=fun i hi=>qjp x w v i hi hs hp hd hv.1
  simp only[run_Z33,Z33.ev]
  refine qaa of ?_
  generalize qeu x.2.2.1 w w.length=S at ec
  refine Ev.start (p:=fun φ n=>Z33.l0 (mkR (run E (φ 0))) (φ 0) n ((v,()),(S,()),x,(w,()),()) w (w.length:Int) 0 x.1 x.2.1 x.2.2.1 x.2.2.2.1 w=_) 1 ?_ (fun _ _ _ h=>h)
  have inner:∀(b:Nat) (hb:b<w.length) (rn:Option Dv),(¬ CfB x w v b→Ev fun φ=>Z33.l0 (mkR (run E (φ 0))) (φ 0) (φ 1) ((v,()),(S,()),x,(w,()),()) w (w.length:Int) ((b+1:Nat):Int) x.1 x.2.1 x.2.2.1 x.2.2.2.1 w=rn) →
      Ev fun φ=>Z33.l1 (mkR (run E (φ 0))) (φ 0) (φ 1) (φ 0) ((v,()),(S,()),x,(w,()),()) (b:Int) ((wN w b:Nat):Int) w (w.length:Int) (b:Int) w (w.length:Int) 0 x.1 x.2.1 x.2.2.1 x.2.2.2.1 w=qmC x w v (qsw w) b rn:=fun b hb rn hrn=>by
    refine Ev.start (p:=fun φ n=>Z33.l1 (mkR (run E (φ 0))) (φ 0) (φ 1) n ((v,()),(S,()),x,(w,()),()) (b:Int) ((wN w b:Nat):Int) w (w.length:Int) (b:Int) w (w.length:Int) 0 x.1 x.2.1 x.2.2.1 x.2.2.2.1 w=_) 2 ?_ (fun _ _ _ h=>h)
    have hwb:=hp.wN hb
    have hbl:wN w b<x.1.length:=hwb.2
    refine(qcc 2 (L:=fun φ n i=>Z33.l1 (mkR (run E (φ 0))) (φ 0) (φ 1) n ((v,()),(S,()),x,(w,()),()) (b:Int) ((wN w b:Nat):Int) w (w.length:Int) (b:Int) w (w.length:Int) i x.1 x.2.1 x.2.2.1 x.2.2.2.1 w) (len:=w.length) (fun i=>i<b∧Cf x w v b i) (fun a=>qsw w a b) rn (fun _ _ _ _=>rfl) 0 (fun i h1 h2 hP=>?_) (fun i q h1 h2 hP ih=>?_) (fun hno=>?_) w.length (by omega)).to ?_
    · obtain⟨hib,hC⟩:=hP
      have hwi:=hp.wN h2
      have hil:wN w i<x.1.length:=hwi.2
      have hlt:=hp.wN_lt hb hib
      have C:CfS x w v b i:=⟨hs,hp,hd,hb,hib,hC.1⟩
      obtain⟨i1,i3⟩:=C.img hx
      have hpt:=hC.1
      rw[qac hil,qac hbl] at hpt
      simp only[Z33.l1_succ _ qae]
      refine qax (decide_eq_true (by omega)) (qab (qaV.trans hwi.1) (qaC (by simp;omega) (qab (qaj hil) (qab (qaj hbl) (qaa (qjG _ _ (qbo hc hil).1 (qbo hc hbl).1) ?_)))))
      simp only[qaF hpt,Bool.not_true,Z33.j2_eq _ qae,cond_false]
      refine qaa i1 (qaa (ec i h2) (qaa i3 (qaa (ec b hb) (qaa (qgP (qri x w v b i) (qmH x.2.2.1 w v b) (by have:=qh6 (w:=w) (v:=v) (b:=b) (a:=i) hs;omega)) (qax ?_ qal)))))
      rw[qap hC.2];rfl
    · have hwi:=hp.wN h2
      have hil:wN w i<x.1.length:=hwi.2
      simp only[Z33.l1_succ _ qae]
      refine qax (decide_eq_true (by omega)) (qab (qaV.trans hwi.1) ?_)
      by_cases he:wN w i=wN w b
      · refine qax (by simp[he]) ?_
        simp only[Z33.j2_eq _ qae,cond_true]
        rw[qad (by omega)];exact ih
      · refine qaC (by simp;omega) (qab (qaj hil) (qab (qaj hbl) (qaa (qjG _ _ (qbo hc hil).1 (qbo hc hbl).1) ?_)))
        by_cases hpt:qfq x.1[wN w i] x.1[wN w b]
        · have hpt':qfq (x.1.getD (wN w i) []) (x.1.getD (wN w b) []):=by rw[qac hil,qac hbl];exact hpt
          have hlt:=qn4 hs.1.1 hil hbl hpt' he
          have hib:i<b:=by
            rcases Nat.lt_trichotomy i b with h | h | h
            · exact h
            · exact absurd (by rw[h]) he
            · have:=hp.wN_lt h2 h;omega
          have C:CfS x w v b i:=⟨hs,hp,hd,hb,hib,hpt'⟩
          obtain⟨i1,i3⟩:=C.img hx
          have heq:qri x w v b i=qmH x.2.2.1 w v b:=Classical.byContradiction fun hne=>hP ⟨hib,hpt',hne⟩
          simp only[qaF hpt,Bool.not_true,Z33.j2_eq _ qae,cond_false]
          refine qaa i1 (qaa (ec i h2) (qaa i3 (qaa (ec b hb) (qaa (qgP (qri x w v b i) (qmH x.2.2.1 w v b) (by have:=qh6 (w:=w) (v:=v) (b:=b) (a:=i) hs;omega)) (qaC ?_ ?_)))))
          · rw[qaF heq];rfl
          · rw[qad (by omega)];exact ih
        · simp only[qap hpt,Bool.not_false,Z33.j2_eq _ qae,cond_true]
          rw[qad (by omega)];exact ih
    · simp only[Z33.l1_succ _ qae]
      refine qaC (decide_eq_false (by omega)) ?_
      rw[qad (by omega)]
      exact hrn fun⟨a,_,h2,h3⟩=>hno a (by omega) (by omega) ⟨by omega,h3⟩
    · rw[qoB (by omega)];rfl
  refine qcc 1 (L:=fun φ n k=>Z33.l0 (mkR (run E (φ 0))) (φ 0) n ((v,()),(S,()),x,(w,()),()) w (w.length:Int) k x.1 x.2.1 x.2.2.1 x.2.2.2.1 w) (len:=w.length) (CfB x w v) (fun b=>qmC x w v (qsw w) b none) _ (fun _ _ _ _=>rfl) 0 (fun b h1 h2 hP=>?_) (fun b q h1 h2 hP ih=>?_) (fun hno=>?_) w.length (by omega)
  · simp only[Z33.l0_succ _ qae]
    exact qax (decide_eq_true (by omega)) (qab (qaV.trans (hp.wN h2).1) (inner b h2 none fun hn=>absurd hP hn))
  · simp only[Z33.l0_succ _ qae]
    exact qax (decide_eq_true (by omega)) (qab (qaV.trans (hp.wN h2).1) ((inner b h2 q fun _=>ih).to (qqv hP)))
  · simp only[Z33.l0_succ _ qae]
    exact qaC (decide_eq_false (by omega)) qal
noncomputable def cfI(x:Shf)(w v:Sim):Int×Int×Bool×Unit:=match qfM x w v with
 | some (a,b)=>(((wN w a:Nat):Int),((wN w b:Nat):Int),true,())
 | none=>(0,0,false,())
noncomputable def cfS(x:Shf)(w v:Sim):Int×Int×Unit:=match qfM x w v with
 | some (a,b)=>((a:Int),(b:Int),())
 | none=>(-1,-1,())
theorem qlg(x:Shf)(w v:Sim)(hx:Sm (.st cS) x)(hw:Sm (.sl (.int .i64)) w)(hv:Sm (.sl (.int .i64)) v)(hs:ISh x)(hp:qfO x.1 w)(hd:Dat x w v) :
  Ret E n_Z33 [dLL x.1,dI x.2.1,dL x.2.2.1,dMs x.2.2.2.1,dL w,dL v] ⟨o_Z33,cfI x w v⟩:=by
 refine qai ((qk4 x w v hx hw hv hs hp hd).to ?_)
 cases hc:qfM x w v with
 | none=>rw[qoy hc,cfI,hc]
 | some t =>
  obtain⟨a,b⟩:=t
  rw[(qkd hc).2.2,cfI,hc];rfl
noncomputable def qcq(x:Shf)(w v:Sim):Bool×Unit:=(pb (LC x w v=0∧qfM x w v=none),())
theorem qex(x:Shf)(w v:Sim)(hx:Sm (.st cS) x)(hw:Sm (.sl (.int .i64)) w)(hv:Sm (.sl (.int .i64)) v):Ret E n_Z6 [dLL x.1,dI x.2.1,dL x.2.2.1,dMs x.2.2.2.1,dL w,dL v] ⟨o_Z6,qcq x w v⟩:=by
 refine qai ?_
 simp only[run_Z6,Z6.ev]
 refine qaa (qkg x w v hx hw hv) (qbB (fun h=>qah ?_) fun h=>?_)
 ·have h:¬ LC x w v=0:=by simpa using h
  rw[qcq,qap fun e=>h e.1]
 ·have h:LC x w v=0:=by simpa using h
  obtain⟨⟨hs,hp⟩,hd⟩:=qpY.1 h
  refine qaa (qlg x w v hx hw hv hs hp hd) (qah ?_)
  have:(!(cfI x w v).2.2.1)=pb (LC x w v=0∧qfM x w v=none):=qfE (by
   unfold cfI
   cases hc:qfM x w v with
   | none=>simp[h]
   | some t=>simp)
  rw[this];rfl
end VeT
open Go Go.Proofs Ve
namespace VeT
theorem qgW{x:Shf}{w:Sim}(hs:ISh x)(hp:qfO x.1 w){i:Nat}(hi:i<w.length):0≤off x.2.2.1 w i∧off x.2.2.1 w (i+1)=off x.2.2.1 w i+x.2.2.1.getD (wN w i) 0∧off x.2.2.1 w (i+1)≤off x.2.2.1 w w.length∧0≤x.2.2.1.getD (wN w i) 0∧x.2.2.1.getD (wN w i) 0≤3:=by
 have hst:=hs.1.2.2.1.2.1
 have h1:=hp.wN hi
 have h2:=qcC hst (wN w i)
 have hw:w[i]=((wN w i:Nat):Int):=by have:=h1.1;rw[List.getElem?_eq_getElem hi] at this;exact Option.some.inj this
 exact⟨(qnL hst).1,qhR hi hw,qku hst (by omega),h2.1,h2.2⟩
end VeT
open Go Go.Proofs Ve
namespace VeT
def apM(m:Mat)(y:Nat→Int)(i:Nat):Int:=qaI (mE m i) y m.2.2.1.toNat%m.1
theorem qgq{m:Mat}{y z:Nat→Int}{i:Nat}(h:∀ j,j<m.2.2.1.toNat→y j%m.1=z j%m.1):apM m y i=apM m z i:=qch h
theorem qrs{m:Mat}{y:Nat→Int}{i:Nat}:apM m y i%m.1=apM m y i:=Int.emod_emod_of_dvd _ (Int.dvd_refl _)
theorem qmz{a b:Mat}{y:Nat→Int}{i:Nat}(h1:a.2.2.1=b.2.1)(e1:a.1=b.1)(hi:i<a.2.1.toNat):apM (qdH a b) y i=apM a (apM b y) i:=by
 unfold apM
 show qaI (mE (qdH a b) i) y b.2.2.1.toNat%a.1=qaI (mE a i) (fun l=>qaI (mE b l) y b.2.2.1.toNat%b.1) a.2.2.1.toNat%a.1
 have l1:qaI (mE (qdH a b) i) y b.2.2.1.toNat%a.1=qaI (fun l=>qaI (mE a i) (fun m=>mE b m l) a.2.2.1.toNat) y b.2.2.1.toNat%a.1 :=
  qiK fun l hl=>by rw[qhm hi hl];exact Int.emod_emod_of_dvd _ (Int.dvd_refl _)
 have l2:qaI (mE a i) (fun l=>qaI (mE b l) y b.2.2.1.toNat%b.1) a.2.2.1.toNat%a.1=qaI (mE a i) (fun m=>qaI (mE b m) y b.2.2.1.toNat) a.2.2.1.toNat%a.1 :=
  qch fun m hm=>by rw[e1];exact Int.emod_emod_of_dvd _ (Int.dvd_refl _)
 rw[l1,l2]
 congr 1
 have:=qfQ (y:=y) (c:=mE a i) (A:=mE b) (W:=b.2.2.1.toNat) (R:=a.2.2.1.toNat)
 rw[qaR,this]
 exact qaE fun m hm=>⟨rfl,qaR⟩
theorem qkj{m:Mat}{v:Sim}{n i:Nat}(hi:i<n):(qhK m v n).getD i 0=apM m (fun l=>v.getD l 0) i:=qlE hi
theorem qnE{m:Mat}{a n i:Nat}{t:Int}{u:Nat→Int}(h:a+m.2.2.1.toNat≤n):qaI u (fun g=>(qjB m a n t i).getD g 0) n%m.1=t*qaI (mE m i) (fun j=>u (a+j)) m.2.2.1.toNat%m.1:=by
 rw[qiJ,qnA (L:=a) (n:=m.2.2.1.toNat) h fun g hg hno=>by rw[qeE hno,Int.mul_zero],qiJ,← qpd]
 refine qnz fun j hj=>?_
 rw[qkk hj (by omega),Int.mul_emod,Int.emod_emod_of_dvd _ (Int.dvd_refl _),← Int.mul_emod]
 congr 1
 show u (a+j)*(mE m i j*t)=t*(mE m i j*u (a+j))
 rw[Int.mul_comm (mE m i j) t,Int.mul_left_comm,Int.mul_comm (u (a+j))]
theorem qqP{a b:Sim}{c p:Int}{W:Nat}{u:Nat→Int}(ha:a.length=W):qaI u (fun g=>(qmq a b c p).getD g 0) W%p=(qaI u (fun g=>a.getD g 0) W+c*qaI u (fun g=>b.getD g 0) W)%p:=by
 rw[qch (h:=fun g=>a.getD g 0+c*b.getD g 0) fun g hg=>by rw[qni (by omega)];exact Int.emod_emod_of_dvd _ (Int.dvd_refl _),qf4,qg8]
theorem qrn{p a b:Int}:(a+(p-1)*b)%p=0↔a%p=b%p:=by
 rw[Int.sub_mul,Int.one_mul,show a+(p*b-b)=a-b+p*b by omega,Int.add_mul_emod_self_left]
 exact Int.emod_eq_emod_iff_emod_sub_eq_zero.symm
def qsu(x:Shf)(w:Sim)(u:Nat→Int):Prop:=∀ b a,b<w.length→a<b→qfq (x.1.getD (wN w a) []) (x.1.getD (wN w b) [])→∀ i,i<(x.2.2.1.getD (wN w b) 0).toNat →
 apM (qbA x (wN w a) (wN w b)) (fun j=>u ((off x.2.2.1 w a).toNat+j)) i=u ((off x.2.2.1 w b).toNat+i)%x.2.1
theorem qpo{x:Shf}{w v:Sim}(h:∀ b a,b<w.length→a<b→¬ Cf x w v b a):qfM x w v=none:=by
 cases e:qfM x w v with
 | none=>rfl
 | some t =>
  obtain⟨a,b⟩:=t
  obtain⟨h1,h2,_⟩:=qkd e
  unfold qfM at e
  split at e
  ·rename_i b' hb
   obtain⟨a',ha,e⟩:=Option.map_eq_some_iff.1 e
   simp only[Prod.mk.injEq] at e
   obtain⟨rfl,rfl⟩:=e
   exact absurd (qay ha).2.2 (h _ _ h2 h1)
  ·cases e
theorem qqg{x:Shf}{w v:Sim}(hs:ISh x)(hp:qfO x.1 w)(hd:Dat x w v)(h:qsu x w fun g=>v.getD g 0):qfM x w v=none:=qpo fun b a hb ha ⟨pt,hne⟩=>hne (by
 have hal:a<w.length:=by omega
 obtain⟨a1,a2,a3,a4,a5⟩:=qgW hs hp hal
 obtain⟨b1,b2,b3,b4,b5⟩:=qgW hs hp hb
 have la:=qfF hs hp hd hal
 have lb:=qfF hs hp hd hb
 obtain⟨r1,r2,r3,r4⟩:=qa7 hs.1 (hp.wN hal).2 (hp.wN hb).2 pt
 unfold qri
 refine qhQ (by rw[qa9];omega) fun i hi=>?_
 rw[qa9] at hi
 have hg:∀ i j,i<w.length→j<(x.2.2.1.getD (wN w i) 0).toNat→(qmH x.2.2.1 w v i).getD j 0=v.getD ((off x.2.2.1 w i).toNat+j) 0:=fun i j hi hj=>by
  unfold qmH
  obtain⟨c1,c2,c3,c4,c5⟩:=qgW hs hp hi
  rw[List.getD_eq_getElem?_getD,List.getElem?_drop,List.getElem?_take,if_pos (by omega),← List.getD_eq_getElem?_getD]
 rw[qkj hi,hg b i hb hi]
 have e:apM (qbA x (wN w a) (wN w b)) (fun j=>v.getD ((off x.2.2.1 w a).toNat+j) 0) i=v.getD ((off x.2.2.1 w b).toNat+i) 0%x.2.1:=h b a hb ha pt i hi
 rw[qgq (z:=fun j=>v.getD ((off x.2.2.1 w a).toNat+j) 0) fun j hj=>by rw[hg a j hal (by rw[r4] at hj;exact hj)],e]
 have hb1:=hd.2
 have hlt:(off x.2.2.1 w b).toNat+i<v.length:=by omega
 rw[qac hlt]
 have:=hd.1 _ (List.getElem_mem hlt)
 have:=hs.1.2.1.1
 exact Int.emod_eq_of_lt (by omega) (by omega))
noncomputable def vy(x:Shf)(y:Nat→Int)(f j:Nat):Int:=y ((FC x.1 x.2.2.1 f).toNat+j)
def qqS(x:Shf)(y:Nat→Int):Prop:=∀ e,e<x.1.length→(x.1.getD e []).length=2→∀ i,i<(x.2.2.1.getD e 0).toNat→apM (mp x.1 x.2.2.2.1 e 0) (vy x y (fc x.1 e 0)) i=apM (mp x.1 x.2.2.2.1 e 1) (vy x y (fc x.1 e 1)) i
theorem qpc{x:Shf}(h:VS x.1 x.2.1 x.2.2.1 x.2.2.2.1){e i:Nat}(he:e<x.1.length)(h2:(x.1.getD e []).length=2)(hi:i<(x.2.2.1.getD e 0).toNat){y:Nat→Int} :
  qaI y (fun g=>(qma x.1 x.2.1 x.2.2.1 x.2.2.2.1 0 ((FC x.1 x.2.2.1 e).toNat+i)).getD g 0) (SD x.1 x.2.2.1 0).toNat%x.2.1=0↔apM (mp x.1 x.2.2.2.1 e 0) (vy x y (fc x.1 e 0)) i=apM (mp x.1 x.2.2.2.1 e 1) (vy x y (fc x.1 e 1)) i:=by
 have hfl:=qgo h2
 have hd:((x.1.getD e []).length:Int)=0+2:=by omega
 obtain⟨a1,a2,a3,a4,a5,a6,a7⟩:=qbQ h he hd (a:=0) (by omega)
 obtain⟨b1,b2,b3,b4,b5,b6,b7⟩:=qbQ h he hd (a:=1) (by omega)
 obtain⟨_,A⟩:=h.map he (i:=0) (by omega)
 obtain⟨_,B⟩:=h.map he (i:=1) (by omega)
 have hst:=h.2.2.1.2.1
 have na:=qcC hst (fc x.1 e 0)
 have nb:=qcC hst (fc x.1 e 1)
 rw[← qnJ h he h2 hi,qqP qdi,Int.one_mul,Int.add_emod]
 have RA:=qnE (m:=mp x.1 x.2.2.2.1 e 0) (a:=(FC x.1 x.2.2.1 (fc x.1 e 0)).toNat) (n:=(SD x.1 x.2.2.1 0).toNat) (t:=1) (i:=i) (u:=y) (by rw[a2];omega)
 have RB:=qnE (m:=mp x.1 x.2.2.2.1 e 1) (a:=(FC x.1 x.2.2.1 (fc x.1 e 1)).toNat) (n:=(SD x.1 x.2.2.1 0).toNat) (t:=x.2.1-1) (i:=i) (u:=y) (by rw[b2];omega)
 rw[A.2.1] at RA
 rw[B.2.1] at RB
 rw[RA,RB,← Int.add_emod,Int.one_mul,qrn]
 unfold apM
 rw[A.2.1,B.2.1]
 exact Iff.rfl
theorem qrq{x:Shf}(h:VS x.1 x.2.1 x.2.2.1 x.2.2.2.1){y:Nat→Int}:qoK x.2.1 (SD x.1 x.2.2.1 1).toNat (SD x.1 x.2.2.1 0).toNat (qcE (qev x 0).2.2.2.1 (SD x.1 x.2.2.1 0).toNat) y↔qqS x y:=by
 have hst:=h.2.2.1.2.1
 have hrow:∀ r,qaI y (qcE (qev x 0).2.2.2.1 (SD x.1 x.2.2.1 0).toNat r) (SD x.1 x.2.2.1 0).toNat=qaI y (fun g=>(qma x.1 x.2.1 x.2.2.1 x.2.2.2.1 0 r).getD g 0) (SD x.1 x.2.2.1 0).toNat:=fun r =>
  qaE fun g hg=>⟨rfl,(qkX hg).symm⟩
 constructor
 ·intro hs e he h2 i hi
  have hb:=(qeb hst he).2
  have hn:=(qeb hst he).1
  rw[show((x.1.getD e []).length:Int)-1=1 by omega] at hb
  refine(qpc h he h2 hi).1 ?_
  rw[← hrow]
  exact hs _ (by omega)
 ·intro hs r hr
  rw[qn9] at hr
  obtain⟨e,he,hd,i,hi,rfl⟩:=qm1 hst hr
  rw[hrow]
  exact(qpc h he (by omega) hi).2 (hs e he (by omega) i hi)
theorem qmW{c:List Sim}(hv:VC c){f b:Nat}(hf:f<c.length)(hb:b<c.length)(h1:(c.getD f []).length=1)(h2:(c.getD b []).length=1)(hp:qfq (c.getD f []) (c.getD b [])):f=b:=by
 refine qiE hv hf hb ?_
 match ef:c.getD f [],eb:c.getD b [],h1,h2,hp with
 | [x],[y],_,_,hp=>rw[List.mem_singleton.1 (hp x List.mem_cons_self)]
theorem qlQ{x:Shf}(hs:ISh x){e f:Nat}(he:e<x.1.length)(h2:(x.1.getD e []).length=2)(hf:f<x.1.length)(h1:(x.1.getD f []).length=1)(hp:qfq (x.1.getD f []) (x.1.getD e [])) :
  ∃ t,t<2∧fc x.1 e t=f∧qbA x f e=mp x.1 x.2.2.2.1 e t:=by
 have h:=hs.1
 have hne:f≠e:=fun hh=>by subst hh;omega
 have D:Down x.1 x.2.1 x.2.2.1 x.2.2.2.1 f e:=⟨h,hf,he,hne,hp⟩
 obtain⟨f1,f2,f3,f4,f5,f6,f7⟩:=D.facts
 have hfl:=qgo h2
 have g:=qaW h.1 he f2
 have hl:(x.1.getD (fc x.1 e (fv x.1 f e)) []).length=1:=by rw[g.2.2,List.length_eraseIdx_of_lt f1];omega
 have ef:=qmW h.1 hf f7 h1 hl f5
 refine⟨fv x.1 f e,by omega,ef.symm,?_⟩
 have hs2:=qgI h hf he hp hne
 rw[← ef,qjT h hf] at hs2
 obtain⟨_,n,_,hn,en,en2⟩:=qqE h f hf
 have hm:=(h.map he f2).2
 rw[← ef] at hm
 rw[hs2]
 exact qoD hm.1 (by rw[hm.2.2.2,en2,Int.toNat_natCast])
theorem qpt{x:Shf}(hs:ISh x){y:Nat→Int}(hy:qqS x y):∀(d:Nat) {f g b:Nat},(x.1.getD b []).length≤d→b<x.1.length→f<x.1.length→g<x.1.length→(x.1.getD f []).length=1→(x.1.getD g []).length=1 →
    qfq (x.1.getD f []) (x.1.getD b [])→qfq (x.1.getD g []) (x.1.getD b [])→∀ i,i<(x.2.2.1.getD b 0).toNat→apM (qbA x f b) (vy x y f) i=apM (qbA x g b) (vy x y g) i
  | 0,f,g,b,hd,hb,_,_,_,_,_,_,_,_=>by have:=(hs.1.1.2.1 b hb).1;omega
  | d+1,f,g,b,hd,hb,hf,hg,f1,g1,pf,pg,i,hi=>by
    have h:=hs.1
    by_cases efg:f=g
    · rw[efg]
    have hvx:=h.1.2.1 b hb
    match ef:x.1.getD f [],eg:x.1.getD g [],f1,g1 with
    | [α],[β],_,_ =>
    have hαβ:α≠β:=fun e=>efg (qiE h.1 hf hg (by rw[ef,eg,e]))
    have ha:=pf α (by rw[ef];exact List.mem_cons_self)
    have hb':=pg β (by rw[eg];exact List.mem_cons_self)
    by_cases h3:3≤(x.1.getD b []).length
    · have r1:=hvx.2.2.1.lt (i:=0) (j:=1) (by omega) (by omega)
      have r2:=hvx.2.2.1.lt (i:=1) (j:=2) (by omega) (by omega)
      obtain⟨t,ht,n1,n2⟩:∃ t,∃ ht:t<(x.1.getD b []).length,(x.1.getD b [])[t]≠α∧(x.1.getD b [])[t]≠β:=by
        generalize e0:(x.1.getD b [])[0]=a0 at *
        generalize e1:(x.1.getD b [])[1]=a1 at *
        generalize e2:(x.1.getD b [])[2]=a2 at *
        rcases(show(a0≠α∧a0≠β)∨(a1≠α∧a1≠β)∨(a2≠α∧a2≠β) by omega) with hh | hh | hh
        · exact⟨0,by omega,by rw[e0];exact hh⟩
        · exact⟨1,by omega,by rw[e1];exact hh⟩
        · exact⟨2,by omega,by rw[e2];exact hh⟩
      have nf:(x.1.getD b [])[t]∉x.1.getD f []:=by rw[ef,List.mem_singleton];exact n1
      have ng:(x.1.getD b [])[t]∉x.1.getD g []:=by rw[eg,List.mem_singleton];exact n2
      obtain⟨q1,q2⟩:=qeK hs _ (Nat.le_refl _) hf hb pf ht nf
      obtain⟨_,q3⟩:=qeK hs _ (Nat.le_refl _) hg hb pg ht ng
      obtain⟨_,c1,c2⟩:=qaW h.1 hb q1
      have hm:=(h.map hb q1).2
      have ppf:qfq (x.1.getD f []) (x.1.getD (fc x.1 b t) []):=by rw[c2];exact qc1 pf ht nf
      have ppg:qfq (x.1.getD g []) (x.1.getD (fc x.1 b t) []):=by rw[c2];exact qc1 pg ht ng
      obtain⟨u1,u2,u3,u4⟩:=qa7 h hf c1 ppf
      obtain⟨w1,w2,w3,w4⟩:=qa7 h hg c1 ppg
      have hi2:i<(mp x.1 x.2.2.2.1 b t).2.1.toNat:=by rw[hm.2.2.1];exact hi
      rw[q2,q3,qmz (by rw[hm.2.2.2,u3]) (by rw[hm.2.1,u2]) hi2,qmz (by rw[hm.2.2.2,w3]) (by rw[hm.2.1,w2]) hi2]
      refine qgq fun j hj=>?_
      rw[hm.2.2.2] at hj
      rw[qpt hs hy d (f:=f) (g:=g) (b:=fc x.1 b t) (by rw[c2,List.length_eraseIdx_of_lt ht];omega) c1 hf hg (by rw[ef];rfl) (by rw[eg];rfl) ppf ppg j hj]
    · have h2:(x.1.getD b []).length=2:=by
        refine Classical.byContradiction fun hn=>?_
        have h1:(x.1.getD b []).length=1:=by have:=hvx.1;omega
        have e1:=qmW h.1 hf hb (by rw[ef];rfl) h1 pf
        have e2:=qmW h.1 hg hb (by rw[eg];rfl) h1 pg
        exact efg (e1.trans e2.symm)
      obtain⟨s,s1,s2,s3⟩:=qlQ hs hb h2 hf (by rw[ef];rfl) pf
      obtain⟨t,t1,t2,t3⟩:=qlQ hs hb h2 hg (by rw[eg];rfl) pg
      rw[s3,t3]
      have key:=hy b hb h2 i hi
      rcases(show s=0∨s=1 by omega) with rfl | rfl<;>rcases(show t=0∨t=1 by omega) with rfl | rfl
      · exact absurd (s2.symm.trans t2) efg
      · rw[← s2,← t2];exact key
      · rw[← s2,← t2];exact key.symm
      · exact absurd (s2.symm.trans t2) efg
end VeT
open Go Go.Proofs Ve
namespace VeT
end VeT
