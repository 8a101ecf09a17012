import Derived.Test.YtjnnliedeobfgaaGreatT7
import Derived.Test.YtjnnliedeobfgaaGreatT6
set_option linter.unusedVariables false
set_option linter.unusedSimpArgs false
open Go Go.Proofs Ve
namespace VeT
theorem qmW{cells:Sim}{R C i:Nat}(hl:cells.length=R*C)(hi:i<R):(cells.take ((i+1)*C)).drop (i*C)=(List.range C).map (qbe cells C i):=by
 have h:=qlS (f:=qbe cells C) (C:=C) hi
 rw[qeN hl] at h
 exact h
theorem qek(p:Int)(R C:Nat)(cells:Sim)(hl:cells.length=R*C)(hR:R≤1048576)(hC:C≤1048576)(hRC:R*C≤1048576):Ret E n_Z76 [dI p,dI (R:Int),dI (C:Int),dL cells] ⟨o_Z76,(qaF (qbe cells C) R C,())⟩:=by
 refine qai ?_
 simp only[run_Z76,Z76.ev]
 refine Ev.start (p:=fun φ n=>Z76.l0 (mkR (run E (φ 0))) (φ 0) n (R:Int) 0 p (R:Int) (C:Int) cells []=_) 1 ?_ (fun _ _ _ h=>h)
 refine qam 1 (L:=fun φ n k a=>Z76.l0 (mkR (run E (φ 0))) (φ 0) n (R:Int) k p (R:Int) (C:Int) cells a) (len:=R) (fun k=>qaF (qbe cells C) k C) (fun _ _ _ _ _=>rfl) (fun k r hk ih=>?_) ?_
 ·simp only[Z76.l0_succ _ qae]
  have hle:(k+1)*C≤R*C:=zaq _ hk
  have e:qaF (qbe cells C) (k+1) C=qaF (qbe cells C) k C++[(List.range C).map (qbe cells C k)]:=by
   unfold qaF;rw[zaA,zat];rfl
  rw[e,← qmW hl hk] at ih
  refine qax (zac (by omega)) (qaa (qeg p _ C cells k (by omega) (by omega) (by omega)) (qaa (qja _ (by rw[zbn,zax];omega)) (qao (by simp[qaO];omega) ?_)))
  rw[qad (by omega)];exact ih
 ·simp only[Z76.l0_succ _ qae]
  exact qaB (zae (by omega)) qal
theorem qlH(p n:Int)(rows:List Sim)(h1:rows.length≤1048576)(h2:rows.flatten.length≤1048576):Ret E n_Z66 [dI p,dI n,dLL rows] ⟨o_Z66,(p,(rows.length:Int),n,rows.flatten,())⟩:=by
 refine qai ?_
 simp only[run_Z66,Z66.ev]
 exact qaa (qgi rows) (qaa (qgP rows h1 h2) qal)
theorem qlc{rows:List Sim}{k:Nat}(hk:k<rows.length):(rows.take (k+1)).flatten=(rows.take k).flatten++rows[k]:=by
 rw[zay hk,zbN];simp
theorem qik{rows:List Sim}{k:Nat}:(rows.take k).flatten.length≤rows.flatten.length:=by
 conv=>rhs;rw[← List.take_append_drop k rows,zbN,zal]
 omega
theorem qmO(p n:Int)(rows:List Sim)(h1:rows.length≤1048576)(h2:rows.flatten.length≤1048576):Ret E n_Z156 [dI p,dI n,dLL rows] ⟨o_Z156,(p,(rows.length:Int),n,rows.flatten,())⟩:=by
 refine qai ?_
 simp only[run_Z156,Z156.ev]
 refine Ev.start (p:=fun φ q=>Z156.l0 (mkR (run E (φ 0))) (φ 0) q rows 0 0 0 0 p (rows.length:Int) n []=_) 1 ?_ (fun _ _ _ h=>h)
 refine qam 1 (L:=fun φ q k o=>Z156.l0 (mkR (run E (φ 0))) (φ 0) q rows k 0 0 0 p (rows.length:Int) n o) (len:=rows.length) (fun k=>(rows.take k).flatten) (fun _ _ _ _ _=>rfl) (fun k r hk ih=>?_) ?_
 ·simp only[Z156.l0_succ _ qae]
  have hle:=qik (rows:=rows) (k:=k+1)
  rw[qlc hk] at ih hle
  rw[zal] at hle
  refine qax (zac (by omega)) (qab (qak hk) (qao (zac (by omega)) ?_))
  rw[qad (by omega)];exact ih
 ·simp only[Z156.l0_succ _ qae]
  refine qaB (zae (by omega)) (qah ?_)
  rw[zav (zaf _)]
def qr6(p:Int)(pv:List Nat)(F:Ent)(c n:Nat):St:=(List.range n).map fun i=>(pv.getD i 0,(0-F i c)%p)
def qkg(p:Int)(W:Nat)(pv:List Nat)(F:Ent)(c n:Nat):Sim:=qed (qr6 p pv F c n) ((List.replicate W 0).set c 1)
open Classical in
noncomputable def qgD(p:Int)(W:Nat)(pv:List Nat)(F:Ent):Nat→List Sim
 | 0=>[]
 | c+1=>qgD p W pv F c++if c∈pv then [] else [qkg p W pv F c pv.length]
theorem qdX{p:Int}{W:Nat}{pv:List Nat}{F:Ent}{c n:Nat}:qkg p W pv F c (n+1)=(qkg p W pv F c n).set (pv.getD n 0) ((0-F n c)%p):=by
 unfold qkg qr6
 rw[zaA,zat,qcD];rfl
theorem qca{p:Int}{W:Nat}{pv:List Nat}{F:Ent}{c n:Nat}:(qkg p W pv F c n).length=W:=by
 unfold qkg;rw[qbR,zaN,zas]
theorem qem{p:Int}{W:Nat}{pv:List Nat}{F:Ent}:∀ {n:Nat},(qgD p W pv F n).length≤n
 | 0=>by simp[qgD]
 | n+1=>by
  have:=qem (p:=p) (W:=W) (pv:=pv) (F:=F) (n:=n)
  rw[qgD,zal];split<;>simp<;>omega
theorem qkp{p:Int}{W:Nat}{pv:List Nat}{F:Ent}(hp:2≤p):∀ {n:Nat} {x:Sim},x∈qgD p W pv F n→x.length=W∧qaC x p
 | 0,x,h=>by simp[qgD] at h
 | n+1,x,h=>by
  rw[qgD,zam] at h
  rcases h with h | h
  ·exact qkp hp h
  ·split at h
   ·simp at h
   ·rw[zaI] at h
    subst h
    refine⟨qca,qgW (fun y hy=>?_) fun q hq=>?_⟩
    ·rcases zbR hy with hy | rfl
     ·rw[zbe] at hy;omega
     ·omega
    ·obtain⟨i,_,rfl⟩:=zaO.1 hq
     exact qdK hp
theorem qk7{l:List Nat}{c:Nat}:(c:Int)∈pvL l↔c∈l:=by
  unfold pvL
  rw[zaO]
  exact ⟨fun ⟨a, h, e⟩ => by obtain rfl : a = c := by omega
                             exact h,fun h=>⟨c,h,rfl⟩⟩
theorem qmR{l:List Nat}{i:Nat}(hi:i<l.length):(pvL l)[i]? = some ((l.getD i 0:Nat):Int):=by
 unfold pvL
 rw[zaD,zag hi,qac hi];rfl
theorem qd3{l:List Nat}{i:Nat}(hi:i<l.length):l.getD i 0∈l:=by
 rw[qac hi];exact zaj hi
noncomputable def qml(p:Int)(R W:Nat)(cells:Sim):List Sim:=qgD p W (elS p R (qbe cells W) W).2 (elS p R (qbe cells W) W).1 W
theorem qnX(p:Int)(R W:Nat)(cells:Sim)(hp:2≤p∧p≤251)(hR:R≤1048576)(hW:W≤1048576)(hRW:R*W≤1048576)(hl:cells.length=R*W)(he:qaC cells p) :
  Ret E n_Z64 [dI p,dI (R:Int),dI (W:Int),dL cells] ⟨o_Z64,(qml p R W cells,())⟩:=by
 have hA:=qcn he hl
 obtain⟨det,hel⟩:=qgs (qbe cells W) R W p hp hR hW hA
 obtain⟨hF,hpl,hpc,hpv⟩:=qfl hp.1 hA W
 refine qai ?_
 simp only[run_Z64,Z64.ev]
 refine qaa (qek p R W cells hl hR hW hRW) (qaa hel ?_)
 unfold qml
 generalize elS p R (qbe cells W) W=S at hF hpl hpc hpv
 obtain⟨F,pv⟩:=S
 simp only at hF hpl hpc hpv
 refine Ev.start (p:=fun φ n=>Z64.l0 (mkR (run E (φ 0))) (φ 0) n (pvL pv) (W:Int) 0 p (R:Int) (W:Int) cells [] (qaF F R W)=_) 1 ?_ (fun _ _ _ h=>h)
 refine qam 1 (L:=fun φ n c o=>Z64.l0 (mkR (run E (φ 0))) (φ 0) n (pvL pv) (W:Int) c p (R:Int) (W:Int) cells o (qaF F R W)) (len:=W) (fun c=>qgD p W pv F c) (fun _ _ _ _ _=>rfl) (fun c r hc ih=>?_) ?_
 ·simp only[Z64.l0_succ _ qae,zai,zas]
  rw[qgD] at ih
  refine qax (zac (by omega)) (qaa (qeV (pvL pv) (c:Int) (by rw[qa8];omega)) (qbS (fun h=>?_) fun h=>?_))
  ·rw[if_pos (qk7.1 (qaD.1 h)),zbm] at ih
   rw[qad (by omega)];exact ih
  ·rw[if_neg (mt qk7.2 (qa0.1 h))] at ih
   refine qao (by simp only[zah,decide_eq_true_eq];omega) (qao (by simp only[zah,decide_eq_true_eq];omega) ?_)
   have hkl:=qem (p:=p) (W:=W) (pv:=pv) (F:=F) (n:=c)
   generalize qgD p W pv F c=K at ih hkl ⊢
   refine Ev.start (p:=fun φ n=>Z64.l1 (mkR (run E (φ 0))) (φ 0) (φ 1) n (pvL pv) (c:Int) (W:Int) (c:Int) (pvL pv) ((pvL pv).length:Int) 0 p (R:Int) (W:Int) cells ((List.replicate W 0).set c 1) K (qaF F R W)=_) 2 ?_ (fun _ _ _ h=>h)
   refine qam 2 (L:=fun φ n i x=>Z64.l1 (mkR (run E (φ 0))) (φ 0) (φ 1) n (pvL pv) (c:Int) (W:Int) (c:Int) (pvL pv) ((pvL pv).length:Int) i p (R:Int) (W:Int) cells x K (qaF F R W)) (len:=pv.length) (fun i=>qkg p W pv F c i) (fun _ _ _ _ _=>rfl) (fun i q hi ih2=>?_) ?_
   ·simp only[Z64.l1_succ _ qae,qa8,qaO,zai,qca]
    have hiR:i<R:=by omega
    have hFi:=hF i c hiR hc
    have hpi:=hpv _ (qd3 hi)
    have e0:w64 (0-F i c)=0-F i c:=qag (by omega) (by omega)
    have hred:=qjV (0-F i c) p hp.1
    rw[qmH hp (by omega)] at hred
    rw[qdX] at ih2
    simp only[qa8] at ih2
    refine qax (zac (by omega)) (qab (qaT.trans (qmR hi)) (qao (by simp only[zah,decide_eq_true_eq];omega) (qab (qbH hiR) (qab (qaT.trans (qfT hc)) ?_))))
    simp only[e0,zai]
    refine qaa hred (qao (by simp only[zah,decide_eq_true_eq];omega) ?_)
    rw[qad (by omega)];exact ih2
   ·simp only[Z64.l1_succ _ qae,qa8]
    refine qaB (zae (by omega)) (qao (by simp only[zbh,zbE,decide_eq_true_eq];omega) ?_)
    rw[qad (by omega)];exact ih
 ·simp only[Z64.l0_succ _ qae]
  exact qaB (zae (by omega)) qal
theorem qkw(p:Int)(R W:Nat)(cells:Sim)(hp:2≤p∧p≤251)(hR:R≤1048576)(hW:W≤1048576)(hRW:R*W≤1048576)(hl:cells.length=R*W)(he:qaC cells p) :
  Ret E n_Z147 [dM (p,(R:Int),(W:Int),cells,())] ⟨o_Z147,(qml p R W cells,())⟩:=by
 have hA:=qcn he hl
 obtain⟨det,hel⟩:=qdG p R W cells hp hR hW hRW hl he
 obtain⟨hF,hpl,hpc,hpv⟩:=qfl hp.1 hA W
 refine qai ?_
 simp only[run_Z147,Z147.ev]
 refine qaa hel ?_
 unfold qml
 generalize elS p R (qbe cells W) W=S at hF hpl hpc hpv
 obtain⟨F,pv⟩:=S
 simp only at hF hpl hpc hpv
 generalize hMt:(p,(R:Int),(W:Int),cells,())=M
 have M1:M.1=p:=by rw[← hMt]
 have M3:M.2.2.1=(W:Int):=by rw[← hMt]
 refine Ev.start (p:=fun φ n=>Z147.l0 (mkR (run E (φ 0))) (φ 0) n M (pvL pv) 0 p (R:Int) (W:Int) (qar F W R) []=_) 1 ?_ (fun _ _ _ h=>h)
 refine qam 1 (L:=fun φ n c o=>Z147.l0 (mkR (run E (φ 0))) (φ 0) n M (pvL pv) c p (R:Int) (W:Int) (qar F W R) o) (len:=W) (fun c=>qgD p W pv F c) (fun _ _ _ _ _=>rfl) (fun c r hc ih=>?_) ?_
 ·simp only[Z147.l0_succ _ qae,M3,zai,zas]
  rw[qgD] at ih
  refine qax (zac (by omega)) (qaa (qjQ (pvL pv) (c:Int) (by rw[qa8];omega)) (qbS (fun h=>?_) fun h=>?_))
  ·rw[if_pos (qk7.1 (qaD.1 h)),zbm] at ih
   rw[qad (by omega)];exact ih
  ·rw[if_neg (mt qk7.2 (qa0.1 h))] at ih
   refine qao (by simp only[zah,decide_eq_true_eq];omega) (qao (by simp only[zah,decide_eq_true_eq];omega) ?_)
   have hkl:=qem (p:=p) (W:=W) (pv:=pv) (F:=F) (n:=c)
   generalize qgD p W pv F c=K at ih hkl ⊢
   refine Ev.start (p:=fun φ n=>Z147.l1 (mkR (run E (φ 0))) (φ 0) (φ 1) n M (pvL pv) (c:Int) 0 p (R:Int) (W:Int) (qar F W R) K ((List.replicate W 0).set c 1)=_) 2 ?_ (fun _ _ _ h=>h)
   refine qam 2 (L:=fun φ n i x=>Z147.l1 (mkR (run E (φ 0))) (φ 0) (φ 1) n M (pvL pv) (c:Int) i p (R:Int) (W:Int) (qar F W R) K x) (len:=pv.length) (fun i=>qkg p W pv F c i) (fun _ _ _ _ _=>rfl) (fun i q hi ih2=>?_) ?_
   ·have hiR:i<R:=by omega
    have hlt:=qeU hiR hc
    simp only[Z147.l1_succ _ qae,qa8,M1,M3,qgm (show i*W+c≤4611686018427387904 by omega),qca]
    have hFi:=hF i c hiR hc
    have hpi:=hpv _ (qd3 hi)
    have e0:w64 (0-F i c)=0-F i c:=qag (by omega) (by omega)
    have hred:=qjG (0-F i c) p hp.1
    rw[qmH hp (by omega)] at hred
    rw[qdX] at ih2
    refine qax (zac (by omega)) (qab (qaT.trans (qmR hi)) (qab (qaT.trans (qbX hiR hc)) ?_))
    simp only[e0,zai]
    refine qaa hred (qao (by simp only[zah,decide_eq_true_eq];omega) ?_)
    rw[qad (by omega)];exact ih2
   ·simp only[Z147.l1_succ _ qae,qa8]
    refine qaB (zae (by omega)) (qao (by simp only[zbh,zbE,decide_eq_true_eq];omega) ?_)
    rw[qad (by omega)];exact ih
 ·simp only[Z147.l0_succ _ qae,M3]
  exact qaB (zae (by omega)) qal
def Rws(p:Int)(W:Nat)(rows:List Sim):Prop:=∀ x∈rows,x.length=W∧qaC x p
theorem Rws.flat{p:Int}{W:Nat}{rows:List Sim}(h:Rws p W rows):rows.flatten.length=rows.length*W∧qaC rows.flatten p:=by
 induction rows with
 | nil=>exact⟨by simp,fun x hx=>by simp at hx⟩
 | cons r rows ih =>
  obtain⟨h1,h2⟩:=ih fun x hx=>h x (zbc _ hx)
  obtain⟨h3,h4⟩:=h r zaS
  refine⟨by rw[List.flatten_cons,zal,h1,h3,zbh,zar];omega,fun x hx=>?_⟩
  rw[List.flatten_cons,zam] at hx
  rcases hx with hx | hx
  ·exact h4 x hx
  ·exact h2 x hx
noncomputable def qqU(p:Int)(W:Nat)(rows:List Sim):List Sim:=qml p rows.length W rows.flatten
theorem qf2(p:Int)(W:Nat)(rows:List Sim)(hp:2≤p∧p≤251)(hR:rows.length≤1048576)(hW:W≤1048576)(hRW:rows.length*W≤1048576)(hr:Rws p W rows) :
  Ret E n_Z195 [dI p,dI (W:Int),dLL rows] ⟨o_Z195,(qqU p W rows,())⟩:=by
 obtain⟨h1,h2⟩:=hr.flat
 refine qai ?_
 simp only[run_Z195,Z195.ev]
 exact qaa (qmO p (W:Int) rows hR (by omega)) (qaa (qkw p rows.length W rows.flatten hp hR hW hRW h1 h2) qal)
theorem qmz(p:Int)(W:Nat)(rows:List Sim)(hp:2≤p∧p≤251)(hR:rows.length≤1048576)(hW:W≤1048576)(hRW:rows.length*W≤1048576)(hr:Rws p W rows) :
  Ret E n_Z64 [dI p,dI (rows.length:Int),dI (W:Int),dL rows.flatten] ⟨o_Z64,(qqU p W rows,())⟩:=by
 obtain⟨h1,h2⟩:=hr.flat
 exact qnX p rows.length W rows.flatten hp hR hW hRW h1 h2
noncomputable def qr4(x:Shf)(k:Int):List Sim:=qml x.2.1 (SD x.1 x.2.2.1 (k+1)).toNat (SD x.1 x.2.2.1 k).toNat (qnC x k).2.2.2.1
open Classical in
noncomputable def qbO(x:Shf):List Sim×Int×Unit:=if ISh x then(qr4 x 0,0,()) else([],1,())
theorem qiR{x:Shf}{n:Nat}:qcs x.1 x.2.1 x.2.2.1 x.2.2.2.1 n=qaF (qbe (qnC x 0).2.2.2.1 (SD x.1 x.2.2.1 0).toNat) n (SD x.1 x.2.2.1 0).toNat:=rfl
theorem qnL{x:Shf}(hs:VS x.1 x.2.1 x.2.2.1 x.2.2.2.1):(qcs x.1 x.2.1 x.2.2.1 x.2.2.2.1 (SD x.1 x.2.2.1 1).toNat).flatten=(qnC x 0).2.2.2.1:=by
 rw[qiR,qbF,qeN]
 exact qfY (c:=x.1) (p:=x.2.1) (st:=x.2.2.1) (ms:=x.2.2.2.1) (k:=0)
theorem qhW{x:Shf}(hs:VS x.1 x.2.1 x.2.2.1 x.2.2.2.1)(n:Nat):Rws x.2.1 (SD x.1 x.2.2.1 0).toNat (qcs x.1 x.2.1 x.2.2.1 x.2.2.2.1 n):=fun r hr=>by
 unfold qcs at hr
 obtain⟨i,_,rfl⟩:=zaO.1 hr
 refine⟨qdh,fun y hy=>?_⟩
 unfold qkJ at hy
 obtain⟨g,_,rfl⟩:=zaO.1 hy
 by_cases hg:i*(SD x.1 x.2.2.1 0).toNat+g<(qjq x.1 x.2.1 x.2.2.1 x.2.2.2.1 0).length
 ·rw[qac hg];exact qg4 hs 0 _ (zaj hg)
 ·rw[zaa,zaw (by omega)]
  have:=hs.2.1.1
  show 0≤(0:Int)∧(0:Int)≤_;omega
theorem qeD(x:Shf)(hx:Sm (.st cS) x):Ret E n_Z121 [dLL x.1,dI x.2.1,dL x.2.2.1,dMs x.2.2.2.1] ⟨o_Z121,qbO x⟩:=by
 refine qai ?_
 simp only[run_Z121,Z121.ev]
 refine qaa (qeS x hx) (qbS (fun h=>qah ?_) fun h=>?_)
 ·rw[qbO,if_neg (qa0.1 (show pb (ISh x)=false by simpa using h))]
 ·have h:=qaD.1 (show pb (ISh x)=true by simpa using h)
  rw[qbO,if_pos h]
  obtain⟨W,eW,bW,tW⟩:=qbY h.1 0
  obtain⟨H,eH,bH,tH⟩:=qbY h.1 1
  have hp:2≤x.2.1∧x.2.1≤251:=⟨h.1.2.1.1,h.1.2.1.2.1⟩
  have hRC:=qcP bH bW
  have all:=qfb x hx.1 h.1
  rw[eW] at all
  have hrw:=qhW h.1 (SD x.1 x.2.2.1 1).toNat
  have hfl:=qnL h.1
  have hcl:(qcs x.1 x.2.1 x.2.2.1 x.2.2.2.1 (SD x.1 x.2.2.1 1).toNat).length=H:=by rw[qbA,tH]
  rw[tW] at hrw
  have hk:=qf2 x.2.1 W _ hp (by rw[hcl];omega) (by omega) (by rw[hcl];omega) hrw
  have eK:qqU x.2.1 W (qcs x.1 x.2.1 x.2.2.1 x.2.2.2.1 (SD x.1 x.2.2.1 1).toNat)=qr4 x 0:=by
   unfold qqU qr4
   rw[hfl,hcl,tW,show SD x.1 x.2.2.1 (0+1)=SD x.1 x.2.2.1 1 from rfl,tH]
  rw[eK] at hk
  exact qaa all (qaa (qcF x hx.1 h.1) (qaa hk qal))
end VeT
open Go Go.Proofs Ve
namespace VeT
def qnU(A:Ent)(b:Sim)(W:Nat):Ent:=fun i j=>if j=W then b.getD i 0 else A i j
theorem qkP{p:Int}{R W:Nat}{A:Ent}{b:Sim}(hA:EIn p R W A)(hb:qaC b p)(hl:b.length=R):EIn p R (W+1) (qnU A b W):=fun i j hi hj=>by
 unfold qnU
 split
 ·rw[qac (by omega)];exact hb _ (zaj _)
 ·exact hA i j hi (by omega)
theorem qqL{A:Ent}{b:Sim}{W i:Nat}:(List.range (W+1)).map (qnU A b W i)=(List.range W).map (A i)++[b.getD i 0]:=by
  rw[zaA,zat]
  congr 1
  · exact zbu fun j hj=>by
      have:=zaG.1 hj
      unfold qnU;rw[if_neg (by omega)]
  · simp[qnU]
def qlM(cells b:Sim)(W R:Nat):Sim:=qar (qnU (qbe cells W) b W) (W+1) R
theorem qaW{f:Ent}{W R i j:Nat}(hi:i<R)(hj:j<W):qbe (qar f W R) W i j=f i j:=by
 unfold qbe
 rw[zaa,qbX hi hj];rfl
def qng(A:Ent)(b:Sim)(R W n:Nat):List Sim:=(List.range R).map fun i=>if i<n then(List.range (W+1)).map (qnU A b W i) else(List.range W).map (A i)
theorem qpq{A:Ent}{b:Sim}{R W:Nat}:qng A b R W 0=qaF A R W:=by simp[qng,qaF]
theorem qqj{A:Ent}{b:Sim}{R W:Nat}:qng A b R W R=qaF (qnU A b W) R (W+1) :=
 zbu fun i hi=>by rw[if_pos (zaG.1 hi)]
theorem qiv{A:Ent}{b:Sim}{R W n:Nat}:(qng A b R W n).length=R:=by simp[qng]
theorem qqQ{A:Ent}{b:Sim}{R W n:Nat}(hn:n<R):(qng A b R W n)[n]? = some ((List.range W).map (A n)):=by
 unfold qng
 rw[zaD,zbg hn]
 simp
theorem qqe{A:Ent}{b:Sim}{R W n:Nat}:(qng A b R W n).set n ((List.range W).map (A n)++[b.getD n 0])=qng A b R W (n+1):=by
 rw[← qqL]
 apply zbF
 intro k
 rw[List.getElem?_set]
 unfold qng
 by_cases hk:n=k
 ·subst hk
  by_cases hR:n<R
  ·simp[hR]
  ·simp[hR]
 ·rw[if_neg hk]
  by_cases hR:k<R
  ·simp only[zaD,zbg hR,zbO]
   by_cases h:k<n
   ·rw[if_pos h,if_pos (by omega)]
   ·rw[if_neg h,if_neg (by omega)]
  ·rw[zaw (by simp;omega),zaw (by simp;omega)]
def qmF(F:Ent)(W:Nat):List Nat→Nat→Sim→Option Sim
 | [],_,o=>some o
 | q::qs,i,o=>if q=W then none else qmF F W qs (i+1) (o.set q (F i W))
def qsP:Option Sim→Sim×Bool×Unit
 | some o=>(o,true,())
 | none=>([],false,())
noncomputable def qp0(p:Int)(R W:Nat)(cells b:Sim):Option Sim :=
 qmF (elS p R (qbe (qlM cells b W R) (W+1)) (W+1)).1 W (elS p R (qbe (qlM cells b W R) (W+1)) (W+1)).2 0 (List.replicate W 0)
theorem qfC{F:Ent}{W:Nat}:∀ {qs:List Nat} {i:Nat} {o y:Sim},qmF F W qs i o=some y→y.length=o.length
 | [],i,o,y,h=>by obtain rfl:=zad h;rfl
 | q::qs,i,o,y,h=>by
  unfold qmF at h
  split at h
  ·cases h
  ·rw[qfC h,zaN]
theorem qpl(p:Int)(R W:Nat)(cells b:Sim)(hp:2≤p∧p≤251)(hR:R≤1048576)(hW:W<1048576)(hRW:R*W≤1048576)(hl:cells.length=R*W)(he:qaC cells p)(hbl:b.length=R)(hb:qaC b p) :
    Ret E n_Z80 [dI p,dI (R:Int),dI (W:Int),dL cells,dL b] ⟨o_Z80,qsP (qp0 p R W cells b)⟩:=by
  have hA0:=qcn he hl
  have hA1:=qkP hA0 hb hbl
  have hrows:qaF (qnU (qbe cells W) b W) R (W+1)=qaF (qbe (qlM cells b W R) (W+1)) R (W+1):=qbN fun i j hi hj=>(qaW hi hj).symm
  have hA:EIn p R (W+1) (qbe (qlM cells b W R) (W+1)):=fun i j hi hj=>by
    unfold qlM;rw[qaW hi hj];exact hA1 i j hi hj
  unfold qp0
  generalize qbe (qlM cells b W R) (W+1)=A at hA hrows
  obtain⟨det,hel⟩:=qgs A R (W+1) p hp hR (by omega) hA
  obtain⟨hF,hpl,hpc,hpv⟩:=qfl hp.1 hA (W+1)
  refine qai ?_
  simp only[run_Z80,Z80.ev]
  refine qaa (qek p R W cells hl hR (by omega) hRW) ?_
  rw[← qpq (b:=b)]
  simp only[qiv]
  refine Ev.start (p:=fun φ n=>Z80.l0 (mkR (run E (φ 0))) (φ 0) n b (R:Int) 0 p (R:Int) (W:Int) cells (qng (qbe cells W) b R W 0)=_) 1 ?_ (fun _ _ _ h=>h)
  refine qam 1 (L:=fun φ n i rows=>Z80.l0 (mkR (run E (φ 0))) (φ 0) n b (R:Int) i p (R:Int) (W:Int) cells rows) (len:=R) (fun i=>qng (qbe cells W) b R W i) (fun _ _ _ _ _=>rfl) (fun i r hi ih=>?_) ?_
  · simp only[Z80.l0_succ _ qae,qiv,zai]
    have hbi:b[i]? = some (b.getD i 0):=by rw[qac (by omega)];exact zag _
    have one:Ev fun φ=>(((qng (qbe cells W) b R W i)[i]?).bind fun y=>(chk (decide ((y.length+[b.getD i 0].length)*8≤70368744177664))).bind fun _=>(chk (decide (0≤(i:Int))&&decide ((i:Int)<(R:Int)))).bind fun _=>(chk (decide True)).bind fun _ =>
        Z80.l0 (mkR (run E (φ 0))) (φ 0) (φ 1) b (R:Int) (w64 ((i:Int)+1)) p (R:Int) (W:Int) cells ((qng (qbe cells W) b R W i).set i (y++[b.getD i 0])))=r:=by
      refine qab (qqQ hi) (qao (by simp;omega) (qao (by simp;omega) (qao (zac trivial) ?_)))
      rw[qqe,qad (by omega)];exact ih
    exact qax (zac (by omega)) (qao (by simp;omega) (qab (qaT.trans hbi) (qb8 one one)))
  · simp only[Z80.l0_succ _ qae]
    rw[qqj,hrows,qad (k:=W) (by omega)]
    refine qaB (zae (by omega)) (qaa hel (qao (by simp;omega) ?_))
    generalize elS p R A (W+1)=S at hF hpl hpc hpv
    obtain⟨F,pv⟩:=S
    simp only at hF hpl hpc hpv
    simp only[qa8,zai]
    have key:∀ d i o,i+d=pv.length→o.length=W→Ev fun φ=>Z80.l1 (mkR (run E (φ 0))) (φ 0) (φ 2) (pvL pv) (pv.length:Int) (i:Int) p (R:Int) (W:Int) cells o (qaF F R (W+1))=some ⟨o_Z80,qsP (qmF F W (pv.drop i) i o)⟩:=by
      intro d
      induction d with
      | zero =>
        intro i o hi ho
        refine Ev.round 2 (L:=fun φ n=>Z80.l1 (mkR (run E (φ 0))) (φ 0) n (pvL pv) (pv.length:Int) (i:Int) p (R:Int) (W:Int) cells o (qaF F R (W+1))) ?_ (fun _ _ _=>rfl)
        simp only[Z80.l1_succ _ qae]
        rw[zbk (by omega)]
        exact qaB (zae (by omega)) (qah rfl)
      | succ d ih =>
        intro i o hi ho
        have hil:i<pv.length:=by omega
        refine Ev.round 2 (L:=fun φ n=>Z80.l1 (mkR (run E (φ 0))) (φ 0) n (pvL pv) (pv.length:Int) (i:Int) p (R:Int) (W:Int) cells o (qaF F R (W+1))) ?_ (fun _ _ _=>rfl)
        simp only[Z80.l1_succ _ qae,qaO,zai]
        have hq:=hpv _ (qd3 hil)
        have hdrop:pv.drop i=pv.getD i 0::pv.drop (i+1):=by rw[zby hil,qac hil]
        refine qax (zac (by omega)) (qab (qaT.trans (qmR hil)) ?_)
        rw[hdrop,qmF]
        refine qbS (fun h=>qah ?_) fun h=>?_
        · have h : pv.getD i 0 = W := by have : ((pv.getD i 0 : Nat) : Int) = (W : Int) := by simpa using h
                                         omega
          rw[if_pos h];rfl
        · have h:pv.getD i 0≠W:=fun e=>by rw[e] at h;simp at h
          rw[if_neg h]
          refine qao (by simp;omega) (qab (qbH (by omega)) (qab (qaT.trans (qfT (zbK W))) (qao (by simp only[zah,decide_eq_true_eq];omega) ?_)))
          simp only[zai]
          rw[qad (by omega)]
          exact ih (i+1) _ (by omega) (by rw[zaN];exact ho)
    refine Ev.start (p:=fun φ n=>Z80.l1 (mkR (run E (φ 0))) (φ 0) n (pvL pv) (pv.length:Int) 0 p (R:Int) (W:Int) cells (List.replicate W 0) (qaF F R (W+1))=_) 2 ?_ (fun _ _ _ h=>h)
    exact key pv.length 0 (List.replicate W 0) (by omega) (by simp)
end VeT
open Go Go.Proofs Ve
namespace VeT
theorem qf3{c g h:Nat→Int}:∀ {n:Nat},qaG c (fun i=>g i+h i) n=qaG c g n+qaG c h n
 | 0=>rfl
 | n+1=>by simp only[qaG];rw[qf3,Int.mul_add];omega
theorem qg6{k:Int}{c g:Nat→Int}:∀ {n:Nat},qaG c (fun i=>k*g i) n=k*qaG c g n
 | 0=>by simp[qaG]
 | n+1=>by simp only[qaG];rw[qg6,Int.mul_add,← zcc,zbV (c n) k,zcc]
theorem qdN{c:Nat→Int}:∀ {n:Nat},qaG c (fun _=>0) n=0
 | 0=>rfl
 | n+1=>by simp only[qaG];rw[qdN,zcj];rfl
theorem qaM{c g:Nat→Int}:∀ {n:Nat},qaG c g n=qaG g c n
 | 0=>rfl
 | n+1=>by simp only[qaG];rw[qaM,zbV]
theorem qf6{y c:Nat→Int}{A:Ent}{W:Nat}:∀ {R:Nat},qaG y (fun j=>qaG c (fun i=>A i j) R) W=qaG c (fun i=>qaG y (A i) W) R
 | 0=>qdN
 | R+1=>by
  simp only[qaG]
  rw[qf3,qf6,qg6]
theorem qb6{p:Int}{c g h:Nat→Int}:∀ {n:Nat},(∀ i,i<n→g i%p=h i%p)→qaG c g n%p=qaG c h n%p
 | 0,_=>rfl
 | n+1,hgh=>by
  simp only[qaG]
  rw[zbo,qb6 (n:=n) fun i hi=>hgh i (by omega),zbH,hgh n (zbK n),← zbH,← zbo]
theorem qaw{c d g h:Nat→Int}:∀ {n:Nat},(∀ i,i<n→c i=d i∧g i=h i)→qaG c g n=qaG d h n
 | 0,_=>rfl
 | n+1,e=>by simp only[qaG];rw[qaw (n:=n) fun i hi=>e i (by omega),(e n (zbK n)).1,(e n (zbK n)).2]
theorem Spn.orth{p:Int}{R W:Nat}{A:Ent}{x y:Nat→Int}(hy:∀ i,i<R→qaG y (A i) W%p=0)(hx:Spn p R W A x):qaG y x W%p=0:=by
 obtain⟨c,hc⟩:=hx
 rw[← qb6 (p:=p) (c:=y) (g:=fun j=>qaG c (fun i=>A i j) R) (h:=x) hc,qf6,qb6 (p:=p) (h:=fun _=>0) fun i hi=>by rw[hy i hi,zcd],qdN,zcd]
theorem qkO{y g:Nat→Int}{q:Nat}{v:Int}:∀ {n:Nat},q<n→qaG (fun j=>if j=q then v else y j) g n=qaG y g n+(v-y q)*g q
 | n+1,h=>by
  simp only[qaG]
  by_cases hq:q=n
  ·subst hq
   rw[if_pos rfl,qaw (d:=y) (h:=g) fun i hi=>⟨if_neg (by omega),rfl⟩,Int.sub_mul];omega
  ·rw[qkO (by omega),if_neg (by omega)];omega
def Slv(p:Int)(R W:Nat)(A:Ent)(b:Nat→Int):Prop:=∃ y:Nat→Int,∀ i,i<R→qaG y (A i) W%p=b i%p
theorem qhX{F:Ent}{W:Nat}:∀ {qs:List Nat} {i:Nat} {o:Sim},qmF F W qs i o=none↔W∈qs
 | [],i,o=>by simp[qmF]
 | q::qs,i,o=>by
  unfold qmF
  split
  ·rename_i h;simp[h]
  ·rename_i h
   rw[qhX,zaM]
   exact⟨.inr,fun h'=>h'.resolve_left (fun e=>h e.symm)⟩
theorem qcT{o:Sim}{q j:Nat}{v:Int}(hq:q<o.length):(o.set q v).getD j 0=if j=q then v else o.getD j 0:=by
 by_cases e:q=j
 ·subst e
  rw[if_pos rfl,qac (by rw[zaN];exact hq),List.getElem_set_self]
 ·rw[if_neg fun e2=>e e2.symm,zaa,zaV e,zaa]
theorem qqu{F:Ent}{W R:Nat}{pv:List Nat}(h1:∀ j,j<pv.length→pv.getD j 0<W)(hm:∀ i j,i<j→j<pv.length→pv.getD i 0<pv.getD j 0)(ho:∀ i j,i<R→j<pv.length→F i (pv.getD j 0)=if i=j then 1 else 0) :
  ∀ d n o y,n+d=pv.length→o.length=W→(∀ k,n≤k→k<pv.length→o.getD (pv.getD k 0) 0=0)→(∀ i,i<R→qaG (fun j=>o.getD j 0) (F i) W=if i<n then F i W else 0) →
   qmF F W (pv.drop n) n o=some y→∀ i,i<R→qaG (fun j=>y.getD j 0) (F i) W=if i<pv.length then F i W else 0:=by
 intro d
 induction d with
 | zero =>
  intro n o y hn ho2 _ hd h i hi
  rw[zbk (by omega)] at h
  obtain rfl:=zad h
  rw[show pv.length=n by omega];exact hd i hi
 | succ d ih =>
  intro n o y hn ho2 hz hd h i hi
  have hnl:n<pv.length:=by omega
  have hdrop:pv.drop n=pv.getD n 0::pv.drop (n+1):=by rw[zby hnl,qac hnl]
  have hq:=h1 n hnl
  have hget:∀(v:Int) (j:Nat),(o.set (pv.getD n 0) v).getD j 0=if j=pv.getD n 0 then v else o.getD j 0:=fun v j=>qcT (by omega)
  rw[hdrop,qmF,if_neg (by omega)] at h
  refine ih (n+1) _ y (by omega) (by rw[zaN];exact ho2) (fun k hk hkl=>?_) (fun i hi=>?_) h i hi
  ·have:=hm n k (by omega) hkl
   rw[hget,if_neg (by omega)];exact hz k (by omega) hkl
  ·rw[qaw (d:=fun j=>if j=pv.getD n 0 then F n W else o.getD j 0) (h:=F i) fun j _=>⟨hget _ j,rfl⟩,qkO hq,hd i hi,hz n (zaf _) hnl,ho i n hi hnl]
   by_cases e:i=n
   ·subst e;simp
   ·rw[if_neg e,zcj,zbL]
    by_cases e2:i<n
    ·rw[if_pos e2,if_pos (by omega)]
    ·rw[if_neg e2,if_neg (by omega)]
theorem qp3{p:Int}{R W:Nat}{cells b:Sim}(hp:Pr p)(hl:cells.length=R*W)(he:qaC cells p)(hbl:b.length=R)(hb:qaC b p) :
    (qp0 p R W cells b≠none↔Slv p R W (qbe cells W) (fun i=>b.getD i 0))∧∀ y,qp0 p R W cells b=some y→∀ i,i<R→qaG (fun j=>y.getD j 0) (qbe cells W i) W%p=b.getD i 0%p:=by
  have hA0:=qcn he hl
  have hA1:=qkP hA0 hb hbl
  have hA:EIn p R (W+1) (qbe (qlM cells b W R) (W+1)):=fun i j hi hj=>by
    unfold qlM;rw[qaW hi hj];exact hA1 i j hi hj
  have hent:∀ i j,i<R→j<W+1→qbe (qlM cells b W R) (W+1) i j=qnU (qbe cells W) b W i j:=fun i j hi hj=>by unfold qlM;exact qaW hi hj
  obtain⟨hrf,heq⟩:=qhs hp hA (W+1) (zaf _)
  unfold qp0
  generalize elS p R (qbe (qlM cells b W R) (W+1)) (W+1)=S at hrf heq
  obtain⟨F,pv⟩:=S
  simp only at hrf heq ⊢
  -- a solution beside -1 is what is orthogonal to the rows
  have aug:∀(y:Nat→Int) (G:Ent),∀ i,qaG (fun j=>if j=W then -1 else y j) (G i) (W+1)=qaG y (G i) W-G i W:=fun y G i=>by
    simp only[qaG]
    rw[if_pos trivial,qaw (d:=y) (h:=G i) fun j hj=>⟨if_neg (by omega),rfl⟩];omega
  have key:∀ y:Nat→Int,(∀ i,i<R→qaG y (qbe cells W i) W%p=b.getD i 0%p)↔∀ i,i<R→(qaG y (F i) W-F i W)%p=0:=by
    intro y
    have e1:∀ i,i<R→(qaG (fun j=>if j=W then -1 else y j) (qbe (qlM cells b W R) (W+1) i) (W+1)=qaG y (qbe cells W i) W-b.getD i 0):=fun i hi=>by
      rw[aug,qaw (d:=y) (h:=qbe cells W i) fun j hj=>⟨rfl,by rw[hent i j hi (by omega)];unfold qnU;rw[if_neg (by omega)]⟩,hent i W hi (by omega)]
      unfold qnU;rw[if_pos rfl]
    constructor
    · intro h i hi
      rw[← aug]
      exact Spn.orth (fun k hk=>by rw[e1 k hk];exact Int.emod_eq_emod_iff_emod_sub_eq_zero.1 (h k hk)) (heq.1 i hi)
    · intro h i hi
      refine Int.emod_eq_emod_iff_emod_sub_eq_zero.2 ?_
      rw[← e1 i hi]
      exact Spn.orth (fun k hk=>by rw[aug];exact h k hk) (heq.2 i hi)
  have good:∀ y,qmF F W pv 0 (List.replicate W 0)=some y→∀ i,i<R→qaG (fun j=>y.getD j 0) (qbe cells W i) W%p=b.getD i 0%p:=by
    intro y hy
    have hW:W∉pv:=fun h=>by rw[qhX.2 h] at hy;cases hy
    refine(key _).2 fun i hi=>?_
    have hz0:∀ j,(List.replicate W (0:Int)).getD j 0=0:=fun j=>by
      rw[zaa,zaB];split<;>rfl
    have hd:=qqu (F:=F) (W:=W) (R:=R) (pv:=pv) (fun j hj=>by
        have h1:=hrf.lt j hj
        have h2:pv.getD j 0≠W:=fun e=>hW (by rw[← e];exact qd3 hj)
        omega) hrf.mono hrf.one pv.length 0 (List.replicate W 0) y (by omega) (by simp) (fun k _ _=>hz0 _) (fun i _=>by
        rw[qaw (d:=fun _=>0) (h:=F i) fun j _=>⟨hz0 j,rfl⟩,qaM,qdN,if_neg (by omega)]) (by rw[zcp];exact hy) i hi
    rw[hd]
    split
    · rw[Int.sub_self,zcd]
    · rename_i h;rw[hrf.bot i W (by omega) hi (by omega)];rfl
  refine⟨⟨fun h=>?_,fun⟨y,hy⟩ h=>?_⟩,good⟩
  · cases hs:qmF F W pv 0 (List.replicate W 0) with
    | none=>exact absurd hs h
    | some y=>exact⟨fun j=>y.getD j 0,good y hs⟩
  · obtain⟨k,hk,hkW⟩:=zaC.1 (qhX.1 h)
    have hkd:pv.getD k 0=W:=by rw[qac hk];exact hkW
    have hkR:k<R:=zaK hk hrf.len
    have h1:=(key y).1 hy k hkR
    have h2:=hrf.one k k hkR hk
    rw[hkd,if_pos rfl] at h2
    rw[qaw (d:=y) (h:=fun _=>0) fun j hj=>⟨rfl,hrf.low k j hk (by omega)⟩,qdN,h2] at h1
    have hp2:=hp.1
    have:(0-1:Int)%p=p-1:=by
      rw[show(0-1:Int)=(p-1)+p*(-1) by omega,zbZ]
      exact zbD (by omega) (by omega)
    omega
end VeT
open Go Go.Proofs Ve
namespace VeT
theorem qmh{c g:Nat→Int}{t:Nat}:∀ {n:Nat},t≤n→(∀ i,t≤i→i<n→g i=0)→qaG c g n=qaG c g t
 | 0,h,_=>by rw[show t=0 by omega]
 | n+1,h,hz=>by
  by_cases ht:t=n+1
  ·rw[ht]
  ·simp only[qaG]
   rw[qmh (n:=n) (by omega) fun i h1 h2=>hz i h1 (by omega),hz n (by omega) (zbK n),zcj,zbL]
def qd0(rows:List Sim):Ent:=fun i j=>(rows.getD i []).getD j 0
theorem qjr{rows:List Sim}{W:Nat}(h:∀ x∈rows,x.length=W):qaF (qd0 rows) rows.length W=rows:=by
 apply zbB
 ·rw[qaO]
 ·intro i h1 h2
  have e:=qbH (A:=qd0 rows) (W:=W) h2
  rw[zag h1] at e
  rw[zad e]
  apply zbB
  ·rw[zaR,zaU];exact(h _ (zaj h2)).symm
  ·intro j h3 h4
   rw[List.getElem_map,List.getElem_range]
   unfold qd0
   rw[qac h2,qac h4]
theorem qkI{p:Int}{rows:List Sim}{W:Nat}(h:Rws p W rows):EIn p rows.length W (qd0 rows):=fun i j hi hj=>by
 obtain⟨h1,h2⟩:=h _ (zaj hi)
 unfold qd0
 rw[qac hi,qac (by omega)]
 exact h2 _ (zaj _)
end VeT
open Go Go.Proofs Ve
namespace VeT
def InR(p:Int)(W:Nat)(rows:List Sim)(x:Sim):Prop:=Spn p rows.length W (qd0 rows) (fun j=>x.getD j 0)
end VeT
open Go Go.Proofs Ve
namespace VeT
theorem InR.mem{p:Int}{W:Nat}{rows:List Sim}{r:Sim}(h:r∈rows):InR p W rows r:=by
 obtain⟨i,hi,e⟩:=zaC.1 h
 have:qd0 rows i=fun j=>r.getD j 0:=by funext j;unfold qd0;rw[qac hi,e]
 unfold InR
 rw[← this]
 exact Spn.row hi
theorem InR.trans{p:Int}{W:Nat}{A B:List Sim}{y:Sim}(h:∀ r∈A,InR p W B r)(hy:InR p W A y):InR p W B y :=
 Spn.trans (fun i hi=>by
  have e:qd0 A i=fun j=>(A[i]).getD j 0:=by funext j;unfold qd0;rw[qac hi]
  rw[e]
  exact h _ (zaj hi)) hy
def qsi(p:Int)(W:Nat)(A B:List Sim):Prop:=∀ y,InR p W A y↔InR p W B y
theorem qsi.refl{p:Int}{W:Nat}{A:List Sim}:qsi p W A A:=fun _=>Iff.rfl
end VeT
open Go Go.Proofs Ve
namespace VeT
def qsI(p:Int)(W:Nat)(cells:Sim)(h:List Sim):Prop:=(cells.length=W*h.length∧qaC cells p)∧∀ i j,i<W→j<h.length→qbe cells h.length i j=qd0 h j i
theorem qsI.next{p:Int}{W:Nat}{cells:Sim}{h:List Sim}{v:Sim}(hc:qsI p W cells h)(hv:qaC v p)(hl:v.length=W):qsI p W (qlM cells v h.length W) (h++[v]):=by
 have hlen:(h++[v]).length=h.length+1:=by simp
 have hA0:=qcn hc.1.2 hc.1.1
 have hA1:=qkP hA0 hv hl
 refine⟨⟨by rw[hlen];exact qas,fun x hx=>?_⟩,fun i j hi hj=>?_⟩
 ·unfold qlM at hx
  rw[← qbF] at hx
  obtain⟨row,hrow,hx⟩:=List.mem_flatten.1 hx
  obtain⟨i,hi,rfl⟩:=zaO.1 hrow
  obtain⟨j,hj,rfl⟩:=zaO.1 hx
  exact hA1 i j (zaG.1 hi) (zaG.1 hj)
 ·rw[hlen] at hj ⊢
  unfold qlM
  rw[qaW hi hj]
  unfold qnU qd0
  by_cases hjh:j<h.length
  ·rw[if_neg (by omega),hc.2 i j hi hjh,zaa (l:=h++[v]),zao hjh,← zaa];rfl
  ·obtain rfl:j=h.length:=by omega
   rw[if_pos rfl,zaa (l:=h++[v]),zap (zaf _)];simp
end VeT
open Go Go.Proofs Ve
namespace VeT
theorem InR.left{p:Int}{W:Nat}{A B:List Sim}{x:Sim}(h:InR p W A x):InR p W (A++B) x:=InR.trans (fun r hr=>InR.mem (zam.2 (.inl hr))) h
end VeT
open Go Go.Proofs Ve
namespace VeT
theorem qpG{p:Int}{W:Nat}{pv:List Nat}{F:Ent}:∀ {n c:Nat},c<n→c∉pv→qkg p W pv F c pv.length∈qgD p W pv F n
 | n+1,c,h,hc=>by
  rw[qgD,zam]
  by_cases e:c=n
  ·subst e
   right;rw[if_neg hc];exact zaI.2 rfl
  ·exact .inl (qpG (by omega) hc)
theorem qoU{p:Int}{R W c:Nat}{pv:List Nat}{F:Ent}(hrf:Rf R W F pv):∀ n,n≤pv.length→∀ i,i<n→(qkg p W pv F c n).getD (pv.getD i 0) 0=(0-F i c)%p
 | 0,_,i,hi=>by omega
 | n+1,hn,i,hi=>by
  have hq:=hrf.lt n (by omega)
  rw[qdX,qcT (by rw[qca];exact hq)]
  by_cases e:i=n
  ·subst e;rw[if_pos rfl]
  ·have:=hrf.mono i n (by omega) (by omega)
   rw[if_neg (by omega)];exact qoU hrf n (by omega) i (by omega)
theorem qgp{p:Int}{R W c j:Nat}{pv:List Nat}{F:Ent}(hrf:Rf R W F pv)(hj:j<W)(hjp:j∉pv)(hc:c<W):∀ n,n≤pv.length→(qkg p W pv F c n).getD j 0=if j=c then 1 else 0
 | 0,_=>by
  show((List.replicate W (0:Int)).set c 1).getD j 0=_
  rw[qcT (by simpa using hc)]
  split
  ·rfl
  ·rw[zaa,zaB,if_pos hj];rfl
 | n+1,hn=>by
  have hq:=hrf.lt n (by omega)
  rw[qdX,qcT (by rw[qca];exact hq),if_neg fun e=>hjp (by rw[e];exact qd3 (by omega))]
  exact qgp hrf hj hjp hc n (by omega)
theorem qsm{pv:List Nat}{j:Nat}(h:j∈pv):∃ i,i<pv.length∧pv.getD i 0=j:=by
 obtain⟨i,hi,e⟩:=zaC.1 h
 exact⟨i,hi,by rw[qac hi];exact e⟩
open Classical in
theorem qpB{p:Int}{R W:Nat}{cells x:Sim}(hp:Pr p)(hl:cells.length=R*W)(he:qaC cells p)(h0:∀ i,i<R→qaG (fun j=>x.getD j 0) (qbe cells W i) W%p=0):InR p W (qml p R W cells) x:=by
  have hA:=qcn he hl
  obtain⟨hrf,heq⟩:=qhs hp hA W (zaf _)
  have hF0:∀ i,i<R→qaG (fun j=>x.getD j 0) ((elS p R (qbe cells W) W).1 i) W%p=0:=fun i hi=>Spn.orth h0 (heq.1 i hi)
  unfold qml
  generalize elS p R (qbe cells W) W=S at hrf hF0
  obtain⟨F,pv⟩:=S
  simp only at hrf hF0 ⊢
  let K:Ent:=fun c j=>if c∈pv then 0 else(qkg p W pv F c pv.length).getD j 0
  refine(Spn.sum (c:=fun j=>x.getD j 0) (B:=K) (n:=W) fun c hc=>?_).congr fun j hj=>?_
  · by_cases h:c∈pv
    · rw[show K c=fun _=>0 by funext j;simp[K,h]];exact Spn.zero
    · rw[show K c=fun j=>(qkg p W pv F c pv.length).getD j 0 by funext j;simp[K,h]]
      exact InR.mem (qpG hc h)
  · show qaG (fun j=>x.getD j 0) (fun c=>K c j) W%p=x.getD j 0%p
    by_cases hjp:j∈pv
    · obtain⟨i,hi,rfl⟩:=qsm hjp
      have hiR:i<R:=zaK hi hrf.len
      have e:qaG (fun j=>x.getD j 0) (fun c=>F i c+K c (pv.getD i 0)) W%p=qaG (fun j=>x.getD j 0) (fun c=>if c=pv.getD i 0 then 1 else 0) W%p:=qb6 fun c hc=>by
        by_cases hcp:c∈pv
        · obtain⟨k,hk,rfl⟩:=qsm hcp
          have h1:=hrf.one i k hiR hk
          rw[show K (pv.getD k 0) (pv.getD i 0)=0 from if_pos hcp,zbL,h1]
          by_cases hik:i=k
          · subst hik;simp
          · rw[if_neg hik,if_neg]
            intro e
            rcases Nat.lt_or_gt_of_ne hik with h | h
            · have:=hrf.mono i k h hk;omega
            · have:=hrf.mono k i h hi;omega
        · rw[show K c (pv.getD i 0)=(0-F i c)%p from(if_neg hcp).trans (qoU hrf pv.length (zaf _) i hi),if_neg fun e=>hcp (by rw[e];exact qd3 hi),zbo,zau _ (zaT p),← zbo,show F i c+(0-F i c)=0 by omega]
      rw[qf3,zbo,hF0 i hiR,Int.zero_add,zau _ (zaT p),qaM (g:=fun c=>if c=pv.getD i 0 then 1 else 0),qcI (hrf.lt i hi)] at e
      exact e
    · rw[qaw (d:=fun j=>x.getD j 0) (h:=fun c=>if c=j then 1 else 0) fun c hc=>⟨rfl,by
        by_cases hcp:c∈pv
        · rw[show K c j=0 from if_pos hcp,if_neg fun(e:c=j)=>hjp (by rw[← e];exact hcp)]
        · rw[show K c j=if j=c then 1 else 0 from(if_neg hcp).trans (qgp hrf hj hjp hc pv.length (zaf _))]
          by_cases e:j=c
          · rw[if_pos e,if_pos e.symm]
          · rw[if_neg e,if_neg fun e2=>e e2.symm]⟩,qaM,qcI hj]
end VeT
open Go Go.Proofs Ve
namespace VeT
theorem qjU{p:Int}{F:Ent}{W:Nat}:∀ {qs:List Nat} {i:Nat} {o y:Sim},(∀ k,i≤k→k<i+qs.length→0≤F k W∧F k W≤p-1)→qaC o p→qmF F W qs i o=some y→qaC y p
 | [],i,o,y,_,ho,h=>by obtain rfl:=zad h;exact ho
 | q::qs,i,o,y,hF,ho,h=>by
  unfold qmF at h
  split at h
  ·cases h
  ·refine qjU (fun k h1 h2=>hF k (by omega) (by simp;omega)) (fun z hz=>?_) h
   rcases zbR hz with hz | rfl
   ·exact ho z hz
   ·exact hF i (zaf _) (by simp)
theorem qn1{p:Int}{R W:Nat}{cells b y:Sim}(hp:Pr p)(hl:cells.length=R*W)(he:qaC cells p)(hbl:b.length=R)(hb:qaC b p)(h:qp0 p R W cells b=some y):y.length=W∧qaC y p:=by
 have hA0:=qcn he hl
 have hA1:=qkP hA0 hb hbl
 have hA:EIn p R (W+1) (qbe (qlM cells b W R) (W+1)):=fun i j hi hj=>by
  unfold qlM;rw[qaW hi hj];exact hA1 i j hi hj
 obtain⟨hF,h1,h2,h3⟩:=qfl hp.1 hA (W+1)
 have hpp:=hp.1
 unfold qp0 at h
 refine⟨by rw[qfC h,zas],qjU (fun k _ hk=>hF k W (by omega) (by omega)) (fun z hz=>?_) h⟩
 have:z=0:=(zbe.1 hz).2
 subst this
 omega
end VeT
open Go Go.Proofs Ve
namespace VeT
open Classical in
noncomputable def cnt(f:Nat→Prop):Nat→Nat
 | 0=>0
 | n+1=>cnt f n+if f n then 1 else 0
theorem qgf{f g:Nat→Prop}:∀ {n:Nat},(∀ c,c<n→f c→g c)→cnt f n≤cnt g n
 | 0,_=>zaf _
 | n+1,h=>by
  have:=qgf (n:=n) fun c hc=>h c (by omega)
  unfold cnt
  by_cases hf:f n
  ·rw[if_pos hf,if_pos (h n (by omega) hf)];omega
  ·rw[if_neg hf];omega
theorem qdZ{f g:Nat→Prop}{n:Nat}(h:∀ c,c<n→(f c↔g c)):cnt f n=cnt g n :=
 Nat.le_antisymm (qgf fun c hc=>(h c hc).1) (qgf fun c hc=>(h c hc).2)
theorem qnv{f:Nat→Prop}:∀ {n:Nat},(∀ c,c<n→¬ f c)→cnt f n=0
 | 0,_=>rfl
 | n+1,h=>by
  unfold cnt
  rw[qnv fun c hc=>h c (by omega),if_neg (h n (by omega))]
theorem qms{f:Nat→Prop}{k:Nat}:∀ {n:Nat},k<n→¬ f k→cnt (fun c=>f c∨c=k) n=cnt f n+1
 | 0,h,_=>by omega
 | n+1,h,hk=>by
  unfold cnt
  by_cases e:k=n
  ·subst e
   have:cnt (fun c=>f c∨c=k) k=cnt f k:=qdZ fun c hc=>⟨fun h=>h.elim id fun e=>by omega,.inl⟩
   rw[this,if_pos (.inr rfl),if_neg hk]
  ·rw[qms (by omega) hk]
   by_cases hf:f n
   ·rw[if_pos (.inl hf),if_pos hf]
   ·rw[if_neg (fun h=>h.elim hf fun e'=>e e'.symm),if_neg hf]
theorem qhL{W:Nat}:∀ {l:List Nat},l.Nodup→(∀ c∈l,c<W)→cnt (fun c=>c∈l) W=l.length
 | [],_,_=>qnv fun c _ h=>by cases h
 | a::l,hn,hl=>by
  obtain⟨h1,h2⟩:=List.nodup_cons.1 hn
  have e:=qhL h2 fun c hc=>hl c (zbc _ hc)
  rw[zbh,← e,← qms (hl a zaS) h1]
  exact qdZ fun c _=>by rw[zaM];exact Or.comm
def Ld(p:Int)(W:Nat)(V:(Nat→Int)→Prop)(c:Nat):Prop:=c<W∧∃ x,V x∧(∀ j,j<c→x j%p=0)∧x c%p≠0
noncomputable def rkV(p:Int)(W:Nat)(V:(Nat→Int)→Prop):Nat:=cnt (Ld p W V) W
theorem Ld.mono{p:Int}{W:Nat}{V V':(Nat→Int)→Prop}(h:∀ x,V x→V' x){c:Nat}:Ld p W V c→Ld p W V' c:=fun⟨h1,x,hx,h2⟩=>⟨h1,x,h x hx,h2⟩
theorem qjd{p:Int}{W:Nat}{V V':(Nat→Int)→Prop}(h:∀ x,V x↔V' x):rkV p W V=rkV p W V':=qdZ fun c _=>⟨Ld.mono fun x=>(h x).1,Ld.mono fun x=>(h x).2⟩
theorem qqM{p:Int}{W:Nat}{V V':(Nat→Int)→Prop}(h:∀ x,V x→V' x):rkV p W V≤rkV p W V':=qgf fun c _=>Ld.mono h
theorem qkC{p:Int}{c g:Nat→Int}:∀ {n:Nat},(∀ i,i<n→c i*g i%p=0)→qaG c g n%p=0
 | 0,_=>by simp[qaG]
 | n+1,h=>by
  rw[show qaG c g (n+1)=qaG c g n+c n*g n from rfl,zbo,qkC fun i hi=>h i (by omega),h n (by omega)];simp
theorem Rf.nodup{R W:Nat}{F:Ent}{pv:List Nat}(h:Rf R W F pv):pv.Nodup∧∀ c∈pv,c<W:=by
 have hg:∀ i (hi:i<pv.length),pv.getD i 0=pv[i]:=fun i hi=>by rw[zaa,zag hi];rfl
 constructor
 ·refine zbp.2 fun i j hi hj hij=>?_
  have:=h.mono i j hij hj
  rw[hg i hi,hg j hj] at this
  omega
 ·intro c hc
  obtain⟨i,hi,rfl⟩:=zaC.1 hc
  have:=h.lt i hi
  rwa [hg i hi] at this
theorem Rf.mem{R W:Nat}{F:Ent}{pv:List Nat}(h:Rf R W F pv){c:Nat}:c∈pv↔∃ i,i<pv.length∧pv.getD i 0=c:=by
 rw[zaC]
 constructor
 ·rintro⟨i,hi,rfl⟩;exact⟨i,hi,by rw[zaa,zag hi];rfl⟩
 ·rintro⟨i,hi,rfl⟩;exact⟨i,hi,by rw[zaa,zag hi];rfl⟩
theorem Rf.coef{p:Int}{R W:Nat}{F:Ent}{pv:List Nat}(h:Rf R W F pv){v:Nat→Int}(hv:Spn p R W F v){j:Nat}(hj:j<W) :
  v j%p=qaG (fun k=>v (pv.getD k 0)) (fun k=>F k j) pv.length%p:=by
 obtain⟨c,hc⟩:=hv
 have h0:∀ j,j<W→qaG c (fun i=>F i j) R=qaG c (fun i=>F i j) pv.length:=fun j hj=>qmh h.len fun i h1 h2=>h.bot i j h1 h2 hj
 have hk:∀ k,k<pv.length→v (pv.getD k 0)%p=c k%p:=fun k hk=>by
  rw[← hc _ (h.lt k hk),h0 _ (h.lt k hk),qaM]
  congr 1
  rw[← qcI (g:=c) hk]
  exact qaw fun i hi=>⟨h.one i k (zaK hi h.len) hk,rfl⟩
 rw[← hc j hj,h0 j hj,qaM,qaM (c:=fun k=>v (pv.getD k 0))]
 exact qb6 fun i hi=>(hk i hi).symm
theorem Rf.low0{p:Int}{R W:Nat}{F:Ent}{pv:List Nat}(h:Rf R W F pv){v:Nat→Int}(hv:Spn p R W F v){d:Nat}(hd:d<W)(hn:d∉pv)(h0:∀ k,k<pv.length→pv.getD k 0<d→v (pv.getD k 0)%p=0):∀ j,j≤d→v j%p=0:=by
 intro j hj
 rw[h.coef hv (by omega)]
 refine qkC fun k hk=>?_
 rcases zbw (pv.getD k 0) d with e | e | e
 ·rw[zbH,h0 k hk e];simp
 ·exact absurd (h.mem.2 ⟨k,hk,e⟩) hn
 ·rw[h.low k j hk (by omega)];simp
theorem qry{p:Int}{R W:Nat}{F:Ent}{pv:List Nat}(hp:2≤p)(h:Rf R W F pv){c:Nat}:Ld p W (Spn p R W F) c↔c∈pv:=by
 constructor
 ·rintro⟨hc,x,hx,h1,h2⟩
  refine Classical.byContradiction fun hn=>h2 ?_
  exact h.low0 hx hc hn (fun k hk e=>h1 _ e) c (zaf _)
 ·intro hm
  obtain⟨i,hi,rfl⟩:=h.mem.1 hm
  have hiR:=zaK hi h.len
  refine⟨h.lt i hi,F i,Spn.row hiR,fun j hj=>by rw[h.low i j hi hj];simp,?_⟩
  rw[h.one i i hiR hi,if_pos rfl,zbD (by omega) (by omega)]
  omega
theorem qsp{p:Int}{R W:Nat}{F:Ent}{pv:List Nat}(hp:2≤p)(h:Rf R W F pv):rkV p W (Spn p R W F)=pv.length:=by
 rw[← qhL h.nodup.1 h.nodup.2]
 exact qdZ fun c _=>qry hp h
noncomputable def rk(p:Int)(W:Nat)(rows:List Sim):Nat:=rkV p W (Spn p rows.length W (qd0 rows))
theorem Eqv.spn{p:Int}{R W:Nat}{A B:Ent}(h:Eqv p R W A B){x:Nat→Int}:Spn p R W A x↔Spn p R W B x:=⟨fun hx=>Spn.trans h.2 hx,fun hx=>Spn.trans h.1 hx⟩
theorem qoN{p:Int}{R W:Nat}{A:Ent}(hp:Pr p)(hA:EIn p R W A):(elS p R A W).2.length=rkV p W (Spn p R W A):=by
 obtain⟨h1,h2⟩:=qhs hp hA W (zaf _)
 rw[← qsp hp.1 h1]
 exact qjd fun x=>h2.spn.symm
theorem InR.spn{p:Int}{W:Nat}{A B:List Sim}(h:∀ r∈A,InR p W B r){x:Nat→Int}(hx:Spn p A.length W (qd0 A) x):Spn p B.length W (qd0 B) x :=
 Spn.trans (fun i hi=>by
  have e:qd0 A i=fun j=>(A[i]).getD j 0:=by funext j;unfold qd0;rw[qac hi]
  rw[e];exact h _ (zaj hi)) hx
theorem qsW{p:Int}{W:Nat}{A:List Sim}(hp:Pr p)(hA:Rws p W A):rk p W A≤A.length:=by
 have:=qoN hp (qkI hA)
 have h2:=(qfl hp.1 (qkI hA) W).2.1
 unfold rk;omega
theorem qqf{rows:List Sim}{x:Sim}{i:Nat}(hi:i<rows.length):qd0 (rows++[x]) i=qd0 rows i:=by
 have:(rows++[x]).getD i []=rows.getD i []:=by rw[zaa,zao hi,← zaa]
 funext j
 unfold qd0
 rw[this]
theorem qpR{rows:List Sim}{x:Sim}:qd0 (rows++[x]) rows.length=fun j=>x.getD j 0:=by
 have:(rows++[x]).getD rows.length []=x:=by rw[zaa,zap (zaf _),zbW];rfl
 funext j
 unfold qd0
 rw[this]
theorem Spn.app{p:Int}{W:Nat}{rows:List Sim}{x:Sim}{z:Nat→Int}(h:Spn p (rows++[x]).length W (qd0 (rows++[x])) z) :
  ∃(a:Int) (v:Nat→Int),Spn p rows.length W (qd0 rows) v∧∀ j,j<W→z j%p=(v j+a*x.getD j 0)%p:=by
 obtain⟨c,hc⟩:=h
 refine⟨c rows.length,fun j=>qaG c (fun i=>qd0 rows i j) rows.length,⟨c,fun j _=>rfl⟩,fun j hj=>?_⟩
 rw[← hc j hj,zal,zaz]
 show(qaG c _ rows.length+c rows.length*qd0 (rows++[x]) rows.length j)%p=_
 rw[qpR,qaw (d:=c) (h:=fun i=>qd0 rows i j) fun i hi=>⟨rfl,by rw[qqf hi]⟩]
theorem qsd{f:Nat→Prop}{n:Nat}(h:∃ j,j<n∧f j):∃ c,c<n∧f c∧∀ j,j<c→¬ f j:=by
 induction n with
 | zero=>obtain⟨j,hj,_⟩:=h;omega
 | succ n ih =>
  by_cases h2:∃ j,j<n∧f j
  ·obtain⟨c,h3,h4⟩:=ih h2;exact⟨c,by omega,h4⟩
  ·obtain⟨j,hj,hf⟩:=h
   have:j=n:=Classical.byContradiction fun e=>h2 ⟨j,by omega,hf⟩
   subst this
   exact⟨j,by omega,hf,fun k hk hf'=>h2 ⟨k,hk,hf'⟩⟩
theorem qsr{p a b:Int}(hp:Pr p)(ha:a%p≠0)(hb:b%p≠0):a*b%p≠0:=by
 intro h
 have hp2:2≤p:=hp.1
 have a1:=zbI a (show p≠0 by omega)
 have a2:=zbA a (show 0<p by omega)
 have hi:=qmw hp (a:=a%p) (by omega) (by omega)
 apply hb
 have e:b%p=(a%p*qhy (a%p) p)%p*b%p:=by rw[hi,zco]
 generalize qhy (a%p) p=q at e
 have h1:a%p*q%p*b%p=a*q*b%p:=qdg ((zau _ (zaT p)).trans (qdg (zau _ (zaT p)) rfl)) rfl
 rw[e,h1,show a*q*b=q*(a*b) by rw[zbV a q,zcc],qdg (p:=p) (x:=q) (x':=q) rfl (h.trans (zcd p).symm)]
 simp
theorem qsk{p:Int}{W:Nat}{rows:List Sim}{x:Sim}(hp:Pr p)(hr:Rws p W rows)(hx:¬ InR p W rows x):rk p W (rows++[x])=rk p W rows+1:=by
 have hp2:2≤p:=hp.1
 obtain⟨hrf,heq⟩:=qhs hp (qkI hr) W (zaf _)
 have hrk:=qoN hp (qkI hr)
 generalize elS p rows.length (qd0 rows) W=S at hrf heq hrk
 obtain⟨F,pv⟩:=S
 simp only at hrf heq hrk
 -- what is left of x
 let s:Nat→Int:=fun j=>qaG (fun k=>-(x.getD (pv.getD k 0) 0)) (fun k=>F k j) pv.length
 let y:Nat→Int:=fun j=>x.getD j 0+s j
 have hs:Spn p rows.length W (qd0 rows) s:=Spn.sum (B:=F) fun i hi=>heq.1 i (zaK hi hrf.len)
 have hyp:∀ k,k<pv.length→y (pv.getD k 0)=0:=fun k hk=>by
  show x.getD (pv.getD k 0) 0+s (pv.getD k 0)=0
  have:s (pv.getD k 0)=-(x.getD (pv.getD k 0) 0):=by
   show qaG _ _ _=_
   rw[qaM,← qcI (g:=fun k=>-(x.getD (pv.getD k 0) 0)) hk]
   exact qaw fun i hi=>⟨hrf.one i k (zaK hi hrf.len) hk,rfl⟩
  omega
 have hne:∃ j,j<W∧y j%p≠0:=Classical.byContradiction fun hn=>hx <| by
  refine(hs.smul (-1)).congr fun j hj=>?_
  have hy0:y j%p=0:=Classical.byContradiction fun h=>hn ⟨j,hj,h⟩
  have:x.getD j 0=-1*s j+y j:=by show _=_+(_+_);omega
  rw[this,zbo,hy0,zbL,zau _ (zaT p)]
 obtain⟨c,hc,hyc,hcl⟩:=qsd hne
 have hcl:∀ j,j<c→y j%p=0:=fun j hj=>Classical.byContradiction (hcl j hj)
 have hcn:c∉pv:=fun hm=>by
  obtain⟨k,hk,rfl⟩:=hrf.mem.1 hm
  exact hyc (by rw[hyp k hk];simp)
 have hxs:Spn p (rows++[x]).length W (qd0 (rows++[x])) (fun j=>x.getD j 0):=InR.mem (zam.2 (.inr (zaI.2 rfl)))
 have hup:∀ z,Spn p rows.length W (qd0 rows) z→Spn p (rows++[x]).length W (qd0 (rows++[x])) z:=fun z hz=>InR.spn (fun r hr=>InR.mem (zam.2 (.inl hr))) hz
 have hmain:∀ d,d<W→(Ld p W (Spn p (rows++[x]).length W (qd0 (rows++[x]))) d↔d∈pv∨d=c):=fun d hd=>by
  constructor
  ·rintro⟨_,z,hz,z1,z2⟩
   refine Classical.byContradiction fun hn=>?_
   have hdn:d∉pv:=fun h=>hn (.inl h)
   have hdc:d≠c:=fun h=>hn (.inr h)
   obtain⟨a,v0,hv0,hzv⟩:=Spn.app hz
   -- z = v + a y
   let v:Nat→Int:=fun j=>v0 j+(-a)*s j
   have hv:Spn p rows.length W F v:=heq.spn.1 (hv0.add (hs.smul (-a)))
   have hzy:∀ j,j<W→z j%p=(v j+a*y j)%p:=fun j hj=>by
    rw[hzv j hj]
    congr 1
    show _=v0 j+-a*s j+a*(x.getD j 0+s j)
    rw[Int.mul_add,Int.neg_mul];omega
   have hv0':∀ k,k<pv.length→pv.getD k 0<d→v (pv.getD k 0)%p=0:=fun k hk hkd=>by
    have:=hzy _ (hrf.lt k hk)
    rw[hyp k hk,zcj,zbL,z1 _ hkd] at this
    exact this.symm
   have hvl:=hrf.low0 hv hd hdn hv0'
   have hza:∀ j,j≤d→z j%p=a*y j%p:=fun j hj=>by
    rw[hzy j (by omega),zbo,hvl j hj,Int.zero_add,zau _ (zaT p)]
   have hyd:y d%p≠0:=fun h=>z2 (by rw[hza d (zaf _),zbH,h];simp)
   have ha:a%p≠0:=fun h=>z2 (by rw[hza d (zaf _),zbH,h];simp)
   have hcd:c<d:=by
    rcases zbw c d with h | h | h
    ·exact h
    ·exact absurd h.symm hdc
    ·exact absurd (hcl d h) hyd
   have:=z1 c hcd
   rw[hza c (by omega)] at this
   exact qsr hp ha hyc this
  ·rintro(hm | rfl)
   ·obtain⟨h1,z,hz,h2⟩:=(qry hp2 hrf).2 hm
    exact⟨h1,z,hup z (heq.spn.2 hz),h2⟩
   ·exact⟨hd,y,hxs.add (hup s hs),hcl,hyc⟩
 unfold rk rkV
 rw[qdZ hmain,qms hc hcn,qhL hrf.nodup.1 hrf.nodup.2,hrk]
 rfl
end VeT
open Go Go.Proofs Ve
namespace VeT
theorem Spn.nil_at{p:Int}{R W:Nat}{A:Ent}{x:Nat→Int}{j:Nat}(hj:j<W)(h:∀ i,i<R→A i j=0)(hx:Spn p R W A x):x j%p=0:=by
 obtain⟨c,hc⟩:=hx
 rw[← hc j hj]
 exact qkC fun i hi=>by rw[h i hi,zcj];simp
theorem qpd{p:Int}{R W:Nat}{pv:List Nat}{F:Ent}(hrf:Rf R W F pv){n j:Nat}(hj:j<W)(hjp:j∉pv)(hn:n≤j):∀ x∈qgD p W pv F n,x.getD j 0=0:=by
 induction n with
 | zero=>intro x hx;cases hx
 | succ n ih =>
  intro x hx
  rw[qgD,zam] at hx
  rcases hx with hx | hx
  ·exact ih (by omega) x hx
  ·split at hx
   ·cases hx
   ·rw[zaI] at hx
    subst hx
    rw[qgp hrf hj hjp (by omega) _ (zaf _),if_neg (by omega)]
theorem qqV{p:Int}{R W:Nat}{pv:List Nat}{F:Ent}(hp:Pr p)(hrf:Rf R W F pv){n:Nat}(hn:n<W)(hnp:n∉pv):¬ InR p W (qgD p W pv F n) (qkg p W pv F n pv.length):=fun h=>by
 have hp2:2≤p:=hp.1
 have h0:=Spn.nil_at hn (fun i hi=>by
  unfold qd0
  rw[qac hi]
  exact qpd hrf hn hnp (zaf _) _ (zaj hi)) h
 rw[qgp hrf hn hnp hn _ (zaf _),if_pos rfl,zbD (by omega) (by omega)] at h0
 omega
theorem qps{p:Int}{R W:Nat}{pv:List Nat}{F:Ent}(hp:Pr p)(hrf:Rf R W F pv):∀ {n:Nat},n≤W→rk p W (qgD p W pv F n)=(qgD p W pv F n).length∧(qgD p W pv F n).length+cnt (fun c=>c∈pv) n=n
 | 0,_=>by
  refine⟨?_,rfl⟩
  have:=qsW (W:=W) hp (A:=qgD p W pv F 0) (fun x hx=>by cases hx)
  exact Nat.le_antisymm this (zaE _)
 | n+1,hn=>by
  obtain⟨h1,h2⟩:=qps hp hrf (n:=n) (by omega)
  have hr:Rws p W (qgD p W pv F n):=fun x hx=>qkp hp.1 hx
  unfold cnt
  rw[qgD]
  by_cases h:n∈pv
  ·rw[if_pos h,if_pos h,zbm]
   exact⟨h1,by omega⟩
  ·rw[if_neg h,if_neg h,qsk hp hr (qqV hp hrf (by omega) h),zal,zaz]
   exact⟨by omega,by omega⟩
noncomputable def rkM(p:Int)(R W:Nat)(cells:Sim):Nat:=(elS p R (qbe cells W) W).2.length
theorem qrw{p:Int}{R W:Nat}{cells:Sim}(hp:Pr p)(hl:cells.length=R*W)(he:qaC cells p):rk p W (qml p R W cells)=(qml p R W cells).length∧(qml p R W cells).length+rkM p R W cells=W:=by
 obtain⟨hrf,_⟩:=qhs hp (qcn he hl) W (zaf _)
 obtain⟨h1,h2⟩:=qps hp hrf (zaf W)
 rw[qhL hrf.nodup.1 hrf.nodup.2] at h2
 exact⟨h1,h2⟩
end VeT
open Go Go.Proofs Ve
namespace VeT
def sN(f:Nat→Int):Nat→Int
 | 0=>0
 | n+1=>sN f n+f n
theorem qm1{c g:Nat→Int}:∀ {n:Nat},qaG c g n=sN (fun i=>c i*g i) n
 | 0=>rfl
 | n+1=>by show qaG c g n+c n*g n=_;rw[qm1];rfl
theorem qmL{f:Nat→Int}:∀ {n:Nat},(∀ i,i<n→f i=0)→sN f n=0
 | 0,_=>rfl
 | n+1,h=>by unfold sN;rw[qmL fun i hi=>h i (by omega),h n (by omega)];rfl
theorem qky{f:Nat→Int}{m:Nat}:∀ {n:Nat},sN f (m+n)=sN f m+sN (fun i=>f (m+i)) n
 | 0=>by simp[sN]
 | n+1=>by
  show sN f (m+n)+f (m+n)=sN f m+(sN (fun i=>f (m+i)) n+f (m+n))
  rw[qky];omega
theorem qrc{p:Int}{f g:Nat→Int}:∀ {n:Nat},(∀ i,i<n→f i%p=g i%p)→sN f n%p=sN g n%p
 | 0,_=>rfl
 | n+1,h=>by unfold sN;rw[zbo,qrc fun i hi=>h i (by omega),h n (by omega),← zbo]
theorem qrf{f:Nat→Int}{k:Int}:∀ {n:Nat},sN (fun i=>k*f i) n=k*sN f n
 | 0=>by simp[sN]
 | n+1=>by unfold sN;rw[qrf,Int.mul_add]
theorem qp8{f:Nat→Int}{L n W:Nat}(hW:L+n≤W)(h:∀ i,i<W→¬ (L≤i∧i<L+n)→f i=0):sN f W=sN (fun b=>f (L+b)) n:=by
 obtain⟨r,rfl⟩:∃ r,W=L+n+r:=⟨W-(L+n),by omega⟩
 rw[qky,qky,qmL (n:=L) fun i hi=>h i (by omega) (by omega),qmL (n:=r) fun i hi=>h _ (by omega) (by omega)]
 omega
theorem qow{c:List Sim}{st:Sim}(hst:∀ x∈st,0≤x∧x≤3){d:Int}{r:Nat}:∀ {n:Nat},r<(SDn c st d n).toNat→∃ s,s<n∧((c.getD s []).length:Int)=d+1∧∃ i,i<(st.getD s 0).toNat∧r=(FC c st s).toNat+i
 | 0,h=>by simp[SDn,qay] at h
 | n+1,h=>by
  have h1:=qhb (c:=c) (d:=d) hst (n:=n)
  have h2:=qcl hst n
  by_cases hr:r<(SDn c st d n).toNat
  ·obtain⟨s,hs,h3⟩:=qow hst hr;exact⟨s,by omega,h3⟩
  ·rw[qfc] at h
   split at h
   ·rename_i hd
    have e:FC c st n=SDn c st d n:=by unfold FC;rw[show((c.getD n []).length:Int)-1=d by omega]
    exact⟨n,by omega,hd,r-(SDn c st d n).toNat,by omega,by rw[e];omega⟩
   ·omega
theorem qiD{c:List Sim}(h:VC c){a b:Nat}(ha:a<c.length)(hb:b<c.length)(e:c.getD a []=c.getD b []):a=b:=by
 have key:∀ {a b:Nat},a<b→b<c.length→c.getD a []=c.getD b []→False:=fun {a b} hab hb e=>by
  have:=h.srt a b hb hab
  rw[qac (by omega),qac hb] at e
  rw[e,qcr.2 rfl] at this
  omega
 rcases zbw a b with h | h | h
 ·exact absurd e fun e=>key h hb e
 ·exact h
 ·exact absurd e.symm fun e=>key h ha e
theorem qsQ{c:List Sim}{p:Int}{st:Sim}{ms:List Mat}{k i j:Nat}(hij:i<j)(h1:Sq c p st ms k i (j-1))(h2:Sq c p st ms k j i):fc c (fc c k i) (j-1)=fc c (fc c k j) i:=by
 have a:=qa1 h1.v.1 h1.fk h1.hj
 have b:=qa1 h2.v.1 h2.fk h2.hj
 refine qiD h1.v.1 a.2.1 b.2.1 ?_
 rw[a.2.2,b.2.2,(qa1 h1.v.1 h1.kl h1.hi).2.2,(qa1 h2.v.1 h2.kl h2.hi).2.2]
 exact(qfX hij).symm
theorem qoo{c:List Sim}{ms:List Mat}(h:qcf c ms=none){k i j:Nat}(hk:k<c.length)(h3:3≤(c.getD k []).length)(hij:i<j)(hj:j<(c.getD k []).length):two c ms k i (j-1)=two c ms k j i:=Classical.byContradiction fun hne=>by
 have hpi:Pi c ms k i:=⟨j,by omega,by omega,hne⟩
 have hpk:Pk c ms k:=⟨h3,i,by omega,by omega,hpi⟩
 have:=qfO h (fun _ _ _=>some ⟨.nil,()⟩) none
 obtain⟨k',h1⟩:=qb3 (P:=Pk c ms) (a:=0) (d:=c.length) ⟨k,by omega,by omega,hpk⟩
 unfold qcf at h
 rw[h1] at h
 simp only[zbr] at h
 obtain⟨i',h2⟩:=qb3 (qaz h1).2.2.2
 rw[h2] at h
 simp only[zbr] at h
 obtain⟨j',h3⟩:=qb3 (qaz h2).2.2
 rw[h3] at h
 cases h
end VeT
open Go Go.Proofs Ve
namespace VeT
def mE(m:Mat):Ent:=qbe m.2.2.2.1 m.2.2.1.toNat
theorem VM.pos{m:Mat}(h:VM m):2≤m.1:=h.1.1
theorem VM.num{m:Mat}(h:VM m):m.2.2.2.1.length=m.2.1.toNat*m.2.2.1.toNat:=by
 obtain⟨R,K,e,_,_,hl⟩:=h.nat
 rw[e] at hl ⊢
 simpa using hl
theorem qsF{m:Mat}(h:VM m){i j:Nat}(hi:i<m.2.1.toNat)(hj:j<m.2.2.1.toNat):0≤mE m i j∧mE m i j≤m.1-1:=qcn h.2.2.2.2 h.num i j hi hj
theorem qrh{m:Mat}(h:VM m){i j:Nat}(hi:i<m.2.1.toNat)(hj:j<m.2.2.1.toNat):mE m i j%m.1=mE m i j:=by
 have:=qsF h hi hj
 have:=h.pos
 exact zbD (by omega) (by omega)
theorem qk0{a b:Mat}(ha:VM a)(hb:VM b)(h1:a.1=b.1)(h2:a.2.1=b.2.1)(h3:a.2.2.1=b.2.2.1)(h:∀ i j,i<a.2.1.toNat→j<a.2.2.1.toNat→mE a i j=mE b i j):a=b:=by
 refine qev.2 ⟨h1,h2,h3,?_⟩
 have ea:=qeN ha.num
 have eb:=qeN hb.num
 rw[← h2,← h3] at eb
 rw[← ea,← eb]
 refine qaL fun i j hi hj=>?_
 have:=h i j hi hj
 unfold mE at this
 rwa [← h3] at this
theorem qhj{a b:Mat}{i j:Nat}(hi:i<a.2.1.toNat)(hj:j<b.2.2.1.toNat):mE (qdM a b) i j=qaG (mE a i) (fun l=>mE b l j) a.2.2.1.toNat%a.1:=by
 show qbe (qar (qj2 a.1 a.2.2.2.1 b.2.2.2.1 a.2.2.1.toNat b.2.2.1.toNat) b.2.2.1.toNat a.2.1.toNat) b.2.2.1.toNat i j=_
 rw[qaW hi hj];rfl
theorem qmD{p:Int}{n i j:Nat}(hi:i<n)(hj:j<n):mE (qbl p n) i j=if i=j then 1 else 0:=by
 show qbe (qar qbu n n) ((n:Int)).toNat i j=_
 rw[zai,qaW hi hj];rfl
theorem qqd{p:Int}{n i j:Nat}(hi:i<n)(hj:j<n):mE (qbl p n) i j=if j=i then 1 else 0:=by
 rw[qmD hi hj]
 by_cases e:i=j
 ·rw[if_pos e,if_pos e.symm]
 ·rw[if_neg e,if_neg fun h=>e h.symm]
theorem qh4{p:Int}{c g h:Nat→Int}{n:Nat}(H:∀ i,i<n→c i%p=g i%p):qaG c h n%p=qaG g h n%p:=by
 rw[qaM,qaM (c:=g)];exact qb6 H
theorem qdW{a b d:Mat}(ha:VM a)(hb:VM b)(hd:VM d)(h1:a.2.2.1=b.2.1)(h2:b.2.2.1=d.2.1)(e1:a.1=b.1):qdM (qdM a b) d=qdM a (qdM b d):=by
 refine qk0 (qcz (qcz ha hb) hd) (qcz ha (qcz hb hd)) rfl rfl rfl fun i j hi hj=>?_
 have hi':i<a.2.1.toNat:=hi
 have hj':j<d.2.2.1.toNat:=hj
 rw[qhj (a:=qdM a b) (b:=d) hi hj',qhj (a:=a) (b:=qdM b d) hi' hj']
 show qaG (mE (qdM a b) i) (fun l=>mE d l j) b.2.2.1.toNat%a.1=qaG (mE a i) (fun l=>mE (qdM b d) l j) a.2.2.1.toNat%a.1
 have l1:qaG (mE (qdM a b) i) (fun l=>mE d l j) b.2.2.1.toNat%a.1=qaG (fun l=>qaG (mE a i) (fun m=>mE b m l) a.2.2.1.toNat) (fun l=>mE d l j) b.2.2.1.toNat%a.1 :=
  qh4 fun l hl=>by rw[qhj hi' hl];exact zau _ (zaT _)
 have l2:qaG (mE a i) (fun l=>mE (qdM b d) l j) a.2.2.1.toNat%a.1=qaG (mE a i) (fun m=>qaG (mE b m) (fun l=>mE d l j) b.2.2.1.toNat) a.2.2.1.toNat%a.1 :=
  qb6 fun m hm=>by rw[qhj (by rw[← h1];exact hm) hj',e1];exact zau _ (zaT _)
 rw[l1,l2]
 congr 1
 have:=qf6 (y:=fun l=>mE d l j) (c:=mE a i) (A:=mE b) (W:=b.2.2.1.toNat) (R:=a.2.2.1.toNat)
 rw[qaM,this]
 exact qaw fun m hm=>⟨rfl,qaM⟩
theorem qjW{m:Mat}{p:Int}{n:Nat}(h:VM m)(hp:m.1=p)(hn:m.2.1=(n:Int)):qdM (qbl p n) m=m:=by
 have h32:=h.2.1.2
 refine qk0 (qcz (qdC (hp ▸ h.1) (by omega)) h) h hp.symm hn.symm rfl fun i j hi hj=>?_
 have hi':i<n:=by simpa [qdM,qbl] using hi
 have hj':j<m.2.2.1.toNat:=hj
 rw[qhj (a:=qbl p n) (b:=m) (show i<((n:Int)).toNat by rw[zai];exact hi') hj']
 show qaG (mE (qbl p n) i) (fun l=>mE m l j) ((n:Int)).toNat%p=_
 rw[zai,qaw (d:=fun l=>if l=i then 1 else 0) (h:=fun l=>mE m l j) fun l hl=>⟨qqd hi' hl,rfl⟩,qcI hi',← hp]
 exact qrh h (by omega) hj'
theorem qol{m:Mat}{p:Int}{n:Nat}(h:VM m)(hn:m.2.2.1=(n:Int)):qdM m (qbl p n)=m:=by
 have h32:=h.2.2.1.2
 have hsh:(qdM m (qbl p n)).2.2.1=(n:Int):=rfl
 have hV:VM (qdM m (qbl m.1 n)):=qcz h (qdC h.1 (by omega))
 have e:qdM m (qbl p n)=qdM m (qbl m.1 n):=rfl
 rw[e]
 refine qk0 hV h rfl rfl hn.symm fun i j hi hj=>?_
 have hi':i<m.2.1.toNat:=hi
 have hj':j<n:=by simpa [qdM,qbl] using hj
 rw[qhj (a:=m) (b:=qbl m.1 n) hi' (show j<((n:Int)).toNat by rw[zai];exact hj'),qaM]
 have hk:m.2.2.1.toNat=n:=by omega
 rw[hk,qaw (d:=fun l=>if l=j then 1 else 0) (h:=fun l=>mE m i l) fun l hl=>⟨qmD hl hj',rfl⟩,qcI hj']
 exact qrh h hi' (by omega)
theorem qoB{m:Mat}{v:Sim}{n i:Nat}(hi:i<n):(qhN m v n).getD i 0=qaG (mE m i) (fun l=>v.getD l 0) m.2.2.1.toNat%m.1:=by
 rw[zaa]
 unfold qhN
 rw[zaD,zbg hi];rfl
theorem qiA{c:List Sim}{p:Int}{st:Sim}{ms:List Mat}(h:VS c p st ms){f:Nat}(hf:f<c.length):∀(d k:Nat),k<c.length→(c.getD k []).length≤d→qeI (c.getD f []) (c.getD k []) →
  VM (qcM c p st ms f d k)∧(qcM c p st ms f d k).1=p∧(qcM c p st ms f d k).2.1=st.getD k 0∧(qcM c p st ms f d k).2.2.1=st.getD f 0
 | 0,k,hk,hd,hp=>by have:=(h.1.2.1 k hk).1;omega
 | d+1,k,hk,hd,hp=>by
  obtain⟨_,n,_,hn,en,en2⟩:=qnN h f hf
  rw[qcM]
  by_cases e:f=k
  ·subst e
   rw[if_pos rfl,en,en2]
   exact⟨qdC h.2.1 (by omega),rfl,rfl,rfl⟩
  ·rw[if_neg e]
   have D:Down c p st ms f k:=⟨h,hf,hk,e,hp⟩
   obtain⟨_,f2,_,_,f5,f6,f7⟩:=D.facts
   obtain⟨r1,r2,r3,r4⟩:=qiA h hf d (fc c k (fv c f k)) f7 (by omega) f5
   obtain⟨m1,m2,m3,m4⟩:=(h.map hk f2).2
   exact⟨qcz m1 r1,m2,m3,r4⟩
theorem qa9{x:Shf}(h:VS x.1 x.2.1 x.2.2.1 x.2.2.2.1){f k:Nat}(hf:f<x.1.length)(hk:k<x.1.length)(hp:qeI (x.1.getD f []) (x.1.getD k [])) :
  VM (qa2 x f k)∧(qa2 x f k).1=x.2.1∧(qa2 x f k).2.1=x.2.2.1.getD k 0∧(qa2 x f k).2.2.1=x.2.2.1.getD f 0 :=
 qiA h hf _ k hk (zaf _) hp
theorem qjI{x:Shf}(h:VS x.1 x.2.1 x.2.2.1 x.2.2.2.1){f:Nat}(hf:f<x.1.length):qa2 x f f=qbl x.2.1 (x.2.2.1.getD f 0).toNat:=by
 unfold qa2
 have:=(h.1.2.1 f hf).1
 obtain⟨n,hn⟩:∃ n,(x.1.getD f []).length=n+1:=⟨_,(Nat.sub_add_cancel this).symm⟩
 rw[hn,qcM,if_pos rfl]
theorem qgT{x:Shf}(h:VS x.1 x.2.1 x.2.2.1 x.2.2.2.1){f k:Nat}(hf:f<x.1.length)(hk:k<x.1.length)(hp:qeI (x.1.getD f []) (x.1.getD k []))(hne:f≠k) :
  qa2 x f k=qdM (mp x.1 x.2.2.2.1 k (fv x.1 f k)) (qa2 x f (fc x.1 k (fv x.1 f k))):=by
 have D:Down x.1 x.2.1 x.2.2.1 x.2.2.2.1 f k:=⟨h,hf,hk,hne,hp⟩
 obtain⟨f1,f2,_,_,f5,f6,f7⟩:=D.facts
 have hlen:(x.1.getD (fc x.1 k (fv x.1 f k)) []).length=(x.1.getD k []).length-1:=by
  rw[(qa1 h.1 hk f2).2.2,zbs,if_pos f1]
 have:=(h.1.2.1 k hk).1
 obtain⟨n,hn⟩:∃ n,(x.1.getD k []).length=n+1:=⟨_,(Nat.sub_add_cancel this).symm⟩
 unfold qa2
 rw[hlen,hn,qcM,if_neg hne,Nat.add_sub_cancel]
theorem qeP{x:Shf}(hs:ISh x):∀(d:Nat) {f k i:Nat},(x.1.getD k []).length≤d→f<x.1.length→k<x.1.length→qeI (x.1.getD f []) (x.1.getD k [])→(hi:i<(x.1.getD k []).length)→(x.1.getD k [])[i]∉x.1.getD f [] →
  i<(qaI x.1 k).length∧qa2 x f k=qdM (mp x.1 x.2.2.2.1 k i) (qa2 x f (fc x.1 k i))
 | 0,f,k,i,hd,hf,hk,hp,hi,hn=>by omega
 | d+1,f,k,i,hd,hf,hk,hp,hi,hn=>by
  have h:=hs.1
  have hne:f≠k:=fun e=>hn (by subst e;exact zaj hi)
  have D:Down x.1 x.2.1 x.2.2.1 x.2.2.2.1 f k:=⟨h,hf,hk,hne,hp⟩
  obtain⟨f1,f2,f3,f4,f5,f6,f7⟩:=D.facts
  have h2:(qaI x.1 k).length=(x.1.getD k []).length:=by
   have:=qaE (c:=x.1) (k:=k)
   by_cases e:1<(x.1.getD k []).length
   ·rw[if_pos e] at this;exact this
   ·rw[if_neg e] at this;omega
  have hi2:i<(qaI x.1 k).length:=by omega
  refine⟨hi2,?_⟩
  rw[qgT h hf hk hp hne]
  by_cases ei:fv x.1 f k=i
  ·rw[ei]
  generalize fv x.1 f k=j at f1 f2 f3 f4 f5 f6 f7 ei ⊢
  have hji:j<i:=by
   rcases zbt i j with hlt | hge
   ·exact absurd (f3 i hlt hi) hn
   ·omega
  have g1:=qa1 h.1 hk f2
  have g2:=qa1 h.1 hk hi2
  have hpi:qeI (x.1.getD f []) (x.1.getD (fc x.1 k i) []):=by rw[g2.2.2];exact qc4 hp hi hn
  have n3:3≤(x.1.getD k []).length:=by
   have h0:=(h.1.2.1 f hf).1
   have hm:∃ q,∃ hq:q<(x.1.getD k []).length,(x.1.getD k [])[q]∈x.1.getD f []:=by
    have hm:=hp _ (zaj (show 0<(x.1.getD f []).length from h0))
    obtain⟨q,hq,e⟩:=zaC.1 hm
    exact⟨q,hq,e ▸ zaj _⟩
   obtain⟨q,hq,hqm⟩:=hm
   have:q≠i:=fun e=>hn (by subst e;exact hqm)
   have:q≠j:=fun e=>f4 f1 (by subst e;exact hqm)
   omega
  have s1:Sq x.1 x.2.1 x.2.2.1 x.2.2.2.1 k j (i-1):=⟨hk,n3,f1,by omega,h⟩
  have s2:Sq x.1 x.2.1 x.2.2.1 x.2.2.2.1 k i j:=⟨hk,n3,hi,by omega,h⟩
  have lj:(x.1.getD (fc x.1 k j) []).length=(x.1.getD k []).length-1:=by rw[g1.2.2,zbs,if_pos f1]
  have li:(x.1.getD (fc x.1 k i) []).length=(x.1.getD k []).length-1:=by rw[g2.2.2,zbs,if_pos hi]
  have e1:(x.1.getD (fc x.1 k j) []).getD (i-1) 0=(x.1.getD k []).getD i 0:=by
   rw[g1.2.2,zaa,zba,if_neg (by omega),Nat.sub_add_cancel (by omega),← zaa]
  have e2:(x.1.getD (fc x.1 k i) []).getD j 0=(x.1.getD k []).getD j 0:=by
   rw[g2.2.2,zaa,zba,if_pos (by omega),← zaa]
  have a1:=qeP hs d (f:=f) (k:=fc x.1 k j) (i:=i-1) (by omega) hf g1.2.1 f5 (by omega) (by
   rw[← qac (by omega),e1,qac hi];exact hn)
  have a2:=qeP hs d (f:=f) (k:=fc x.1 k i) (i:=j) (by omega) hf g2.2.1 hpi (by omega) (by
   rw[← qac (by omega),e2,qac f1];exact f4 f1)
  rw[a1.2,a2.2]
  have ht:=qoo hs.2 hk n3 hji hi
  have hff:=qsQ hji s1 s2
  unfold two at ht
  rw[hff]
  obtain⟨_,v2,v3⟩:=qa1 h.1 g2.2.1 a2.1
  have hpf:qeI (x.1.getD f []) (x.1.getD (fc x.1 (fc x.1 k i) j) []):=by
   rw[v3];exact qc4 hpi (by omega) (by rw[← qac (by omega),e2,qac f1];exact f4 f1)
  obtain⟨r1,r2,r3,r4⟩:=qa9 h hf v2 hpf
  have b1:=(h.map hk f2).2
  have b2:=(h.map hk hi2).2
  have b3:=(h.map g1.2.1 a1.1).2
  have b4:=(h.map g2.2.1 a2.1).2
  rw[hff] at b3
  rw[← qdW b1.1 b3.1 r1 (by rw[b1.2.2.2,b3.2.2.1]) (by rw[b3.2.2.2,r3]) (by rw[b1.2.1,b3.2.1]),← qdW b2.1 b4.1 r1 (by rw[b2.2.2.2,b4.2.2.1]) (by rw[b4.2.2.2,r3]) (by rw[b2.2.1,b4.2.1]),ht]
theorem qjB{x:Shf}(hs:ISh x):∀(d:Nat) {f g k:Nat},(x.1.getD k []).length≤d→f<x.1.length→g<x.1.length→k<x.1.length→qeI (x.1.getD f []) (x.1.getD g [])→qeI (x.1.getD g []) (x.1.getD k []) →
  qa2 x f k=qdM (qa2 x g k) (qa2 x f g)
 | 0,f,g,k,hd,hf,hg,hk,h1,h2=>by have:=(hs.1.1.2.1 k hk).1;omega
 | d+1,f,g,k,hd,hf,hg,hk,h1,h2=>by
  have h:=hs.1
  obtain⟨r1,r2,r3,r4⟩:=qa9 h hf hg h1
  by_cases e:g=k
  ·subst e
   rw[qjI h hg]
   obtain⟨_,n,_,hn,en,en2⟩:=qnN h g hg
   exact(qjW r1 r2 (by rw[r3,en2,zai])).symm
  ·have D:Down x.1 x.2.1 x.2.2.1 x.2.2.2.1 g k:=⟨h,hg,hk,e,h2⟩
   obtain⟨f1,f2,f3,f4,f5,f6,f7⟩:=D.facts
   have hp:qeI (x.1.getD f []) (x.1.getD k []):=fun y hy=>h2 y (h1 y hy)
   have a:=(qeP hs _ (zaf _) hf hk hp f1 fun hm=>f4 f1 (h1 _ hm)).2
   rw[a,qgT h hg hk h2 e,qjB hs d (k:=fc x.1 k (fv x.1 g k)) (by omega) hf hg f7 h1 f5]
   obtain⟨q1,q2,q3,q4⟩:=qa9 h hg f7 f5
   have b:=(h.map hk f2).2
   exact(qdW b.1 q1 r1 (by rw[b.2.2.2,q3]) (by rw[q4,r3]) (by rw[b.2.1,q2])).symm
end VeT
open Go Go.Proofs Ve
namespace VeT
theorem qix(c:List Sim)(hc:Sm (.sl (.sl (.int .i64))) c)(hv:VC c):Ret E n_Z168 [dC (c,()),dI 3] ⟨o_Z168,(c,())⟩:=by
 have hl:c.length≤1048576:=hc.1
 refine qai ?_
 simp only[run_Z168,Z168.ev]
 refine Ev.start (p:=fun φ n=>Z168.l0 (mkR (run E (φ 0))) (φ 0) n (c,()) 3 0 []=_) 1 ?_ (fun _ _ _ h=>h)
 refine qam 1 (L:=fun φ n k o=>Z168.l0 (mkR (run E (φ 0))) (φ 0) n (c,()) 3 k o) (len:=c.length) (fun k=>c.take k) (fun _ _ _ _ _=>rfl) (fun k r hk ih=>?_) ?_
 ·simp only[Z168.l0_succ _ qae]
  rw[zay hk] at ih
  have h4:=hv.len4 hk
  rw[qac hk] at h4
  have e4:w64 ((3:Int)+1)=4:=qag (by omega) (by omega)
  refine qax (zac (by show(k:Int)<(c.length:Int);omega)) (qab (qak hk) (qax (zac (by rw[e4];show(c[k].length:Int)≤4;omega)) (qab (qak hk) (qaa (qc1 _ (by show c[k].length≤_;omega)) (qao (by simp only[zax,zaz,decide_eq_true_eq];omega) ?_)))))
  rw[qad (by omega)];exact ih
 ·simp only[Z168.l0_succ _ qae]
  refine qaB (zae (by show ¬ ((c.length:Int)<(c.length:Int));omega)) (qah ?_)
  rw[zav (zaf _)]
def zOf(p:Int)(st:Sim)(a:Arw):Mat:=(p,st.getD a.1.toNat 0,st.getD a.2.2.1.toNat 0,List.replicate ((st.getD a.1.toNat 0).toNat*(st.getD a.2.2.1.toNat 0).toNat) 0,())
theorem qg3{c:List Sim}{st:Sim}(hl:st.length=c.length)(hst:∀ x∈st,0≤x∧x≤3){k:Nat}(hk:k<c.length):∃ n:Nat,n≤3∧st.getD k 0=(n:Int)∧∃ h:k<st.length,st[k]=(n:Int):=by
 have h:k<st.length:=by omega
 obtain⟨h1,h2⟩:=hst _ (zaj h)
 exact⟨(st[k]).toNat,by omega,by rw[qac h];omega,h,by omega⟩
theorem qff{c:List Sim}(hs:Srt c)(hv:VC c){k i:Nat}(hk:k<c.length)(hi:i<(qaI c k).length):∃ f:Nat,f<c.length∧(qaI c k)[i]=(f:Int)∧(qaI c k).getD i 0=(f:Int):=by
 obtain⟨h1,h2,_⟩:=qa1 hv hk hi
 have e:(qaI c k)[i]=((fc c k i:Nat):Int):=by rw[qak hi] at h1;exact zad h1
 exact⟨fc c k i,h2,e,by rw[qac hi,e]⟩
end VeT
open Go Go.Proofs Ve
namespace VeT
def Fa(x s:Sim):Prop:=x≠[]∧x.Sublist s
def Cl(c:List Sim):Prop:=∀ y∈c,∀ x,Fa x y→x∈c
theorem qlG:∀ {x s:Sim},x.Sublist s→x≠s→∃ i,i<s.length∧x.Sublist (s.eraseIdx i)
 | _,_,.slnil,h=>absurd rfl h
 | x,_,.cons a h,_=>⟨0,by simp,by simpa using h⟩
 | _,_,.cons_cons (l₁:=l) (l₂:=l') a h,hn=>by
  obtain⟨i,hi,hs⟩:=qlG h fun e=>hn (by rw[e])
  exact⟨i+1,by simp;omega,by simpa using hs⟩
theorem qq4{x s:Sim}:Fa x s↔(x=s∧s≠[])∨∃ i,i<s.length∧Fa x (s.eraseIdx i):=by
 constructor
 ·rintro⟨h1,h2⟩
  by_cases e:x=s
  ·exact .inl ⟨e,e ▸ h1⟩
  ·obtain⟨i,hi,hs⟩:=qlG h2 e
   exact .inr ⟨i,hi,h1,hs⟩
 ·rintro(⟨rfl,h⟩ | ⟨i,hi,h1,h2⟩)
  ·exact⟨h,List.Sublist.refl _⟩
  ·exact⟨h1,h2.trans (List.eraseIdx_sublist _ _)⟩
theorem qk3{x y z:Sim}(h1:Fa x y)(h2:Fa y z):Fa x z:=⟨h1.1,h1.2.trans h2.2⟩
theorem qpK{x s:Sim}(h:Fa x s):x.length≤s.length:=h.2.length_le
def qnx:Nat→Nat
 | 0=>1
 | n+1=>(n+2)*qnx n+1
theorem qsa{o:List Sim}{s:Sim}(hs:Srt o)(hn:s∉o):∃ t,t≤o.length∧(∀ j (h:j<o.length),j<t→qd7 o[j] s<0)∧(∀ h:t<o.length,¬ qd7 o[t] s<0)∧Srt (o.take t++[s]++o.drop t):=by
 refine⟨bs o s,qsq,fun j h hj=>(qkx hs h).1 hj,fun h hlt=>?_,?_⟩
 ·have:=(qkx hs h).2 hlt;omega
 ·have pw:o.Pairwise (fun a b=>qd7 a b<0):=zbp.2 fun i j hi hj hij=>hs i j hj hij
  have h1:∀ x∈o.take (bs o s),qd7 x s<0:=fun x hx=>by
   obtain⟨i,hi,rfl⟩:=zaC.1 hx
   rw[zax] at hi
   rw[zcb]
   exact(qkx hs (by omega)).1 (by omega)
  have h2:∀ x∈o.drop (bs o s),qd7 s x<0:=fun x hx=>by
   obtain⟨i,hi,rfl⟩:=zaC.1 hx
   rw[zbn] at hi
   rw[List.getElem_drop]
   have h3:¬ qd7 o[bs o s+i] s<0:=fun h=>by
    have:=(qkx hs (show bs o s+i<o.length by omega)).2 h;omega
   have h4:qd7 o[bs o s+i] s≠0:=fun h=>hn (by rw[← qcr.1 h];exact zaj _)
   have:=qnd (a:=o[bs o s+i]) (b:=s)
   omega
  have pwn:(o.take (bs o s)++[s]++o.drop (bs o s)).Pairwise (fun a b=>qd7 a b<0):=by
   rw[List.pairwise_append]
   refine⟨?_,pw.sublist (List.drop_sublist _ _),fun x hx y hy=>?_⟩
   ·rw[List.pairwise_append]
    refine⟨pw.sublist (List.take_sublist _ _),List.pairwise_singleton _ _,fun x hx y hy=>?_⟩
    rw[zaI] at hy;subst hy;exact h1 x hx
   ·rcases zam.1 hx with hx | hx
    ·exact qgV (h1 x hx) (h2 y hy)
    ·rw[zaI] at hx;subst hx;exact h2 y hy
  exact fun i j hj hij=>zbp.1 pwn i j (by omega) hj hij
theorem qpa{o:List Sim}{s x:Sim}{t:Nat}:x∈o.take t++[s]++o.drop t↔x∈o∨x=s:=by
 rw[zam,zam,zaI]
 conv=>rhs;rw[← List.take_append_drop t o]
 rw[zam]
 constructor
 ·rintro((h | h) | h)
  ·exact .inl (.inl h)
  ·exact .inr h
  ·exact .inl (.inr h)
 ·rintro((h | h) | h)
  ·exact .inl (.inl h)
  ·exact .inr h
  ·exact .inl (.inr h)
theorem qnp(s:Sim)(o:List Sim)(N1:Nat→Nat)(hs1:s.length≤1048576)(ho:Sm (.sl (.sl (.int .i64))) o)(hl:o.length+1≤1048576)(hs:Srt o)(hn:s∉o) :
  ∃ t,t≤o.length∧Srt (o.take t++[s]++o.drop t)∧Ev fun φ=>Z166.l2 (mkR (run E (φ 0))) (φ 0) (φ 2) s 0 o=some ⟨o_Z166,((o.take t++[s]++o.drop t,()),())⟩:=by
 obtain⟨t,ht,h1,h2,h3⟩:=qsa hs hn
 refine⟨t,ht,h3,?_⟩
 have fin:Ev fun φ=>Z166.j3 (mkR (run E (φ 0))) (φ 0) (φ 2) s (t:Int) false o=some ⟨o_Z166,((o.take t++[s]++o.drop t,()),())⟩:=by
  simp only[Z166.j3_eq _ qae]
  refine qaB rfl (qao (by simp only[zah,decide_eq_true_eq];omega) ?_)
  simp only[zai,zcm]
  refine qao (by simp only[zbE,zax,decide_eq_true_eq];omega) (qaa (qc1 s hs1) (qao (by simp only[zax,zaz,decide_eq_true_eq];omega) (qao (by simp only[zah,decide_eq_true_eq];omega) (qao (by simp only[zal,zax,zbn,zaz,decide_eq_true_eq];omega) qal))))
 have key:∀ d i,i+d=t→Ev fun φ=>Z166.l2 (mkR (run E (φ 0))) (φ 0) (φ 2) s (i:Int) o=some ⟨o_Z166,((o.take t++[s]++o.drop t,()),())⟩:=by
  intro d
  induction d with
  | zero =>
   intro i hi
   obtain rfl:i=t:=by omega
   refine Ev.round 2 (L:=fun φ n=>Z166.l2 (mkR (run E (φ 0))) (φ 0) n s (i:Int) o) ?_ (fun _ _ _=>rfl)
   simp only[Z166.l2_succ _ qae]
   by_cases hlt:i<o.length
   ·refine qax (zac (by omega)) (qab (qak hlt) (qaa (qcX _ s (qbk ho hlt)) ?_))
    rw[qaq (h2 hlt)]
    exact fin
   ·exact qaB (zae (by omega)) fin
  | succ d ih =>
   intro i hi
   have hlt:i<o.length:=by omega
   refine Ev.round 2 (L:=fun φ n=>Z166.l2 (mkR (run E (φ 0))) (φ 0) n s (i:Int) o) ?_ (fun _ _ _=>rfl)
   simp only[Z166.l2_succ _ qae]
   refine qax (zac (by omega)) (qab (qak hlt) (qaa (qcX _ s (qbk ho hlt)) ?_))
   rw[qaK (h1 i hlt (by omega))]
   simp only[Z166.j3_eq _ qae]
   refine qax rfl ?_
   rw[qad (by omega)]
   exact ih (i+1) (by omega)
 exact key t 0 (by omega)
theorem qrp:∀(n:Nat) (s:Sim) (c:List Sim),s.length=n+1→n≤1048575→c.length+qnx n≤1048576→Sm (.sl (.sl (.int .i64))) c→Srt c→Cl c →
    ∃ c',Ret E n_Z166 [dC (c,()),dL s] ⟨o_Z166,((c',()),())⟩∧Srt c'∧(∀ x,x∈c'↔x∈c∨Fa x s)∧c'.length≤c.length+qnx n:=by
  intro n
  induction n with
  | zero =>
    intro s c hn hb hl hc hs hcl
    have hs1:s.length≤1048576:=by omega
    have hne:s≠[]:=fun e=>by rw[e] at hn;simp at hn
    by_cases hm:s∈c
    · refine⟨c,?_,hs,fun x=>⟨.inl,fun h=>h.elim id fun h=>hcl s hm x h⟩,by omega⟩
      refine qai ?_
      simp only[run_Z166,Z166.ev]
      exact qaa (qbP (c,()) s hc) (qax (zac (qbb.2 hm)) qal)
    · obtain⟨t,ht,h3,h4⟩:=qnp s c id hs1 hc (by unfold qnx at hl;omega) hs hm
      refine⟨_,?_,h3,fun x=>?_,by simp[qnx];omega⟩
      · refine qai ?_
        simp only[run_Z166,Z166.ev]
        refine qaa (qbP (c,()) s hc) (qaB (zae fun h=>hm (qbb.1 h)) ?_)
        have h4:Ev fun φ=>Z166.l2 (mkR (run E (φ 0))) (φ 0) (φ 0) s 0 c=some ⟨o_Z166,((c.take t++[s]++c.drop t,()),())⟩:=Ev.start (p:=fun φ n=>Z166.l2 (mkR (run E (φ 0))) (φ 0) n s 0 c=_) 2 h4 (fun _ _ _ h=>h)
        refine Ev.start (p:=fun φ n=>Z166.l0 (mkR (run E (φ 0))) (φ 0) n s 0 c=_) 1 ?_ (fun _ _ _ h=>h)
        refine Ev.round 1 (L:=fun φ n=>Z166.l0 (mkR (run E (φ 0))) (φ 0) n s 0 c) ?_ (fun _ _ _=>rfl)
        simp only[Z166.l0_succ _ qae,Z166.j1_eq _ qae]
        refine qax (zac (by omega)) (qaB (zae (by omega)) h4)
      · rw[qpa,qq4]
        constructor
        · rintro(h | h)
          · exact .inl h
          · exact .inr (.inl ⟨h,hne⟩)
        · rintro(h | ⟨h,_⟩ | ⟨i,hi,h1,h2⟩)
          · exact .inl h
          · exact .inr h
          · have:=h2.length_le
            rw[zbs,if_pos hi] at this
            exact absurd (zaW.1 (by omega)) h1
  | succ n ih =>
    intro s c hn hb hl hc hs hcl
    have hs1:s.length≤1048576:=by omega
    have hne:s≠[]:=fun e=>by rw[e] at hn;simp at hn
    by_cases hm:s∈c
    · refine⟨c,?_,hs,fun x=>⟨.inl,fun h=>h.elim id fun h=>hcl s hm x h⟩,by omega⟩
      refine qai ?_
      simp only[run_Z166,Z166.ev]
      exact qaa (qbP (c,()) s hc) (qax (zac (qbb.2 hm)) qal)
    · have hadd:qnx (n+1)=(n+1+1)*qnx n+1:=rfl
      -- the qcv
      have loop:∀ d i (o:List Sim),i+d=s.length→Sm (.sl (.sl (.int .i64))) o→Srt o→Cl o→(∀ x,x∈o↔x∈c∨∃ j,j<i∧Fa x (s.eraseIdx j))→o.length≤c.length+i*qnx n→s.length*qnx n+1+c.length≤1048576 →
          ∃ c',(Ev fun φ=>Z166.l0 (mkR (run E (φ 0))) (φ 0) (φ 1) s (i:Int) o=some ⟨o_Z166,((c',()),())⟩)∧Srt c'∧(∀ x,x∈c'↔x∈c∨Fa x s)∧c'.length≤c.length+s.length*qnx n+1:=by
        intro d
        induction d with
        | zero =>
          intro i o hi ho1 ho2 ho3 ho4 ho5 hbig
          obtain rfl:i=s.length:=by omega
          have hn2:s∉o:=fun h=>by
            rcases(ho4 s).1 h with h | ⟨j,hj,h⟩
            · exact hm h
            · have:=qpK h
              rw[zbs,if_pos hj] at this
              omega
          obtain⟨t,ht,h3,h4⟩:=qnp s o id hs1 ho1 (by omega) ho2 hn2
          refine⟨_,?_,h3,fun x=>?_,by simp;omega⟩
          · have h4:Ev fun φ=>Z166.l2 (mkR (run E (φ 0))) (φ 0) (φ 0) s 0 o=some ⟨o_Z166,((o.take t++[s]++o.drop t,()),())⟩:=Ev.start (p:=fun φ n=>Z166.l2 (mkR (run E (φ 0))) (φ 0) n s 0 o=_) 2 h4 (fun _ _ _ h=>h)
            refine Ev.round 1 (L:=fun φ n=>Z166.l0 (mkR (run E (φ 0))) (φ 0) n s (s.length:Int) o) ?_ (fun _ _ _=>rfl)
            simp only[Z166.l0_succ _ qae,Z166.j1_eq _ qae]
            exact qaB (zae (by omega)) (qaB rfl h4)
          · rw[qpa,ho4,qq4]
            constructor
            · rintro((h | ⟨j,hj,h⟩) | h)
              · exact .inl h
              · exact .inr (.inr ⟨j,hj,h⟩)
              · exact .inr (.inl ⟨h,hne⟩)
            · rintro(h | ⟨h,_⟩ | ⟨j,hj,h⟩)
              · exact .inl (.inl h)
              · exact .inr h
              · exact .inl (.inr ⟨j,hj,h⟩)
        | succ d ihd =>
          intro i o hi ho1 ho2 ho3 ho4 ho5 hbig
          have hil:i<s.length:=by omega
          have hel:(s.eraseIdx i).length=n+1:=by rw[zbs,if_pos hil];omega
          have hmul:(i+1)*qnx n≤s.length*qnx n:=zaq _ (by omega)
          rw[zar,Nat.one_mul] at hmul
          obtain⟨o',hr,hs',hm',hl'⟩:=ih (s.eraseIdx i) o hel (by omega) (by omega) ho1 ho2 ho3
          obtain⟨c',hc1,hc2⟩:=ihd (i+1) o' (by omega) ⟨by show o'.length≤1048576;omega,fun x hx=>by
              rcases(hm' x).1 hx with h | h
              · exact ho1.2 x h
              · have:=qpK h
                exact⟨by show x.length≤1048576;omega,fun _ _=>trivial⟩⟩ hs' (fun y hy x hx=>(hm' x).2 (by
              rcases(hm' y).1 hy with h | h
              · exact .inl (ho3 y h x hx)
              · exact .inr (qk3 hx h))) (fun x=>by
              rw[hm',ho4]
              constructor
              · rintro((h | ⟨j,hj,h⟩) | h)
                · exact .inl h
                · exact .inr ⟨j,by omega,h⟩
                · exact .inr ⟨i,by omega,h⟩
              · rintro(h | ⟨j,hj,h⟩)
                · exact .inl (.inl h)
                · by_cases e:j=i
                  · subst e;exact .inr h
                  · exact .inl (.inr ⟨j,by omega,h⟩)) (by rw[zar,Nat.one_mul];omega) hbig
          refine⟨c',?_,hc2⟩
          refine Ev.round 1 (L:=fun φ n=>Z166.l0 (mkR (run E (φ 0))) (φ 0) n s (i:Int) o) ?_ (fun _ _ _=>rfl)
          simp only[Z166.l0_succ _ qae,Z166.j1_eq _ qae]
          refine qax (zac (by omega)) (qax (zac (by omega)) (qaa (qd4 s i hil hs1) (qaa hr ?_)))
          rw[qad (by omega)]
          exact hc1
      have hbig:s.length*qnx n+1+c.length≤1048576:=by rw[hn];rw[hadd] at hl;omega
      obtain⟨c',h1,h2,h3,h4⟩:=loop s.length 0 c (by omega) hc hs hcl (fun x=>⟨.inl,fun h=>h.elim id fun⟨j,hj,_⟩=>by omega⟩) (by omega) hbig
      refine⟨c',?_,h2,h3,?_⟩
      · refine qai ?_
        simp only[run_Z166,Z166.ev]
        refine qaa (qbP (c,()) s hc) (qaB (zae fun h=>hm (qbb.1 h)) ?_)
        exact Ev.start (p:=fun φ n=>Z166.l0 (mkR (run E (φ 0))) (φ 0) n s 0 c=_) 1 h1 (fun _ _ _ h=>h)
      · rw[hadd,← hn];omega
theorem qmt(l:List Sim)(hl:l.length≤1024)(hx:∀ s∈l,1≤s.length∧s.length≤4) :
    ∃ c',Ret E n_Z159 [dLL l] ⟨o_Z159,(c',())⟩∧Srt c'∧(∀ x,x∈c'↔∃ s∈l,Fa x s)∧c'.length≤41*l.length:=by
  have loop:∀ d i (o:List Sim),i+d=l.length→Srt o→(∀ x,x∈o↔∃ s∈l.take i,Fa x s)→o.length≤41*i →
      ∃ c',(Ev fun φ=>Z159.l0 (mkR (run E (φ 0))) (φ 0) (φ 1) l (i:Int) o=some ⟨o_Z159,(c',())⟩)∧Srt c'∧(∀ x,x∈c'↔∃ s∈l,Fa x s)∧c'.length≤41*l.length:=by
    intro d
    induction d with
    | zero =>
      intro i o hi h1 h2 h3
      obtain rfl:i=l.length:=by omega
      rw[zcq] at h2
      refine⟨o,?_,h1,h2,h3⟩
      refine Ev.round 1 (L:=fun φ n=>Z159.l0 (mkR (run E (φ 0))) (φ 0) n l (l.length:Int) o) ?_ (fun _ _ _=>rfl)
      simp only[Z159.l0_succ _ qae]
      exact qaB (zae (by omega)) qal
    | succ d ih =>
      intro i o hi h1 h2 h3
      have hil:i<l.length:=by omega
      obtain⟨g1,g2⟩:=hx _ (zaj hil)
      have hadd:qnx (l[i].length-1)≤41:=by
        have:l[i].length-1=0∨l[i].length-1=1∨l[i].length-1=2∨l[i].length-1=3:=by omega
        rcases this with e | e | e | e<;>rw[e]<;>decide
      have hlen:∀ x∈o,x.length≤4:=fun x hx'=>by
        obtain⟨s,hs,hf⟩:=(h2 x).1 hx'
        have:=(hx s (zbx hs)).2
        have:=qpK hf
        omega
      obtain⟨o',hr,hs',hm',hl'⟩:=qrp (l[i].length-1) l[i] o (by omega) (by omega) (by omega) ⟨by show o.length≤1048576;omega,fun x hx'=>by have:=hlen x hx';exact⟨by show x.length≤1048576;omega,fun _ _=>trivial⟩⟩ h1 (fun y hy x hxy=>by
        obtain⟨s,hs,hf⟩:=(h2 y).1 hy
        exact(h2 x).2 ⟨s,hs,qk3 hxy hf⟩)
      obtain⟨c',hc1,hc2⟩:=ih (i+1) o' (by omega) hs' (fun x=>by
        rw[hm',h2,zay hil]
        constructor
        · rintro(⟨s,hs,h⟩ | h)
          · exact⟨s,zam.2 (.inl hs),h⟩
          · exact⟨_,zam.2 (.inr (zaI.2 rfl)),h⟩
        · rintro⟨s,hs,h⟩
          rcases zam.1 hs with hs | hs
          · exact .inl ⟨s,hs,h⟩
          · rw[zaI] at hs;subst hs;exact .inr h) (by omega)
      refine⟨c',?_,hc2⟩
      refine Ev.round 1 (L:=fun φ n=>Z159.l0 (mkR (run E (φ 0))) (φ 0) n l (i:Int) o) ?_ (fun _ _ _=>rfl)
      simp only[Z159.l0_succ _ qae]
      refine qax (zac (by omega)) (qab (qak hil) (qaa hr ?_))
      rw[qad (by omega)]
      exact hc1
  obtain⟨c',h1,h2⟩:=loop l.length 0 [] (by omega) (fun i j hj=>by simp at hj) (fun x=>by simp) (by simp)
  refine⟨c',?_,h2⟩
  refine qai ?_
  simp only[run_Z159,Z159.ev]
  exact Ev.start (p:=fun φ n=>Z159.l0 (mkR (run E (φ 0))) (φ 0) n l 0 []=_) 1 h1 (fun _ _ _ h=>h)
end VeT
open Go Go.Proofs Ve
namespace VeT
def EvQ(A:(Nat→Nat)→Option Dv)(out:Ty)(Q:out.T→Prop):Prop:=∃ x,(Ev fun φ=>A φ=some ⟨out,x⟩)∧Q x
def qhz(f:Nat)(args:List Dv)(out:Ty)(Q:out.T→Prop):Prop:=∃ x,Ret E f args ⟨out,x⟩∧Q x
theorem qbs{f:Nat}{args:List Dv}{out:Ty}{Q:out.T→Prop}(h:EvQ (fun φ=>run E (φ 0+1) f args) out Q):qhz f args out Q:=let ⟨x,h1,h2⟩:=h;⟨x,qai h1,h2⟩
theorem qaH{out:Ty}{Q:out.T→Prop}{x:out.T}(h:Q x):EvQ (fun _=>some ⟨out,x⟩) out Q:=⟨x,qal,h⟩
theorem qau{f:Nat}{o:Ty}{args:List Dv}{x:o.T}{out:Ty}{Q:out.T→Prop}{K:(Nat→Nat)→o.T→Option Dv}(h:Ret E f args ⟨o,x⟩)(k:EvQ (fun φ=>K φ x) out Q) :
  EvQ (fun φ=>(Option.bind (qlP (mkR (run E (φ 0))) f o args) fun y=>K φ y)) out Q:=let ⟨z,h1,h2⟩:=k;⟨z,qaa h h1,h2⟩
theorem qaU{f:Nat}{o:Ty}{args:List Dv}{P:o.T→Prop}{out:Ty}{Q:out.T→Prop}{K:(Nat→Nat)→o.T→Option Dv}(h:qhz f args o P)(k:∀ x,P x→EvQ (fun φ=>K φ x) out Q) :
  EvQ (fun φ=>(Option.bind (qlP (mkR (run E (φ 0))) f o args) fun y=>K φ y)) out Q:=let ⟨x,h1,h2⟩:=h;qau h1 (k x h2)
theorem qbT{α:Type}{c:Option α}{x:α}{K:(Nat→Nat)→α→Option Dv}{out:Ty}{Q:out.T→Prop}(h:c=some x)(k:EvQ (fun φ=>K φ x) out Q) :
  EvQ (fun φ=>(Option.bind c fun y=>K φ y)) out Q:=let ⟨z,h1,h2⟩:=k;⟨z,qab h h1,h2⟩
theorem qaJ{b:Bool}{K:(Nat→Nat)→Unit→Option Dv}{out:Ty}{Q:out.T→Prop}(h:b=true)(k:EvQ (fun φ=>K φ ()) out Q) :
  EvQ (fun φ=>(Option.bind (chk b) fun y=>K φ y)) out Q:=let ⟨z,h1,h2⟩:=k;⟨z,qao h h1,h2⟩
theorem qgB{b:Bool}{A B:(Nat→Nat)→Option Dv}{out:Ty}{Q:out.T→Prop}(h:b=true)(k:EvQ A out Q):EvQ (fun φ=>bif b then A φ else B φ) out Q:=by subst h;exact k
theorem qbU{b:Bool}{A B:(Nat→Nat)→Option Dv}{out:Ty}{Q:out.T→Prop}(h:b=false)(k:EvQ B out Q):EvQ (fun φ=>bif b then A φ else B φ) out Q:=by subst h;exact k
theorem qcH{b:Bool}{A B:(Nat→Nat)→Option Dv}{out:Ty}{Q:out.T→Prop}(t:b=true→EvQ A out Q)(f:b=false→EvQ B out Q):EvQ (fun φ=>bif b then A φ else B φ) out Q:=by
 cases b
 ·exact f rfl
 ·exact t rfl
theorem qck{p:Prop}[Decidable p]{A B:(Nat→Nat)→Option Dv}{out:Ty}{Q:out.T→Prop}(t:p→EvQ A out Q)(f:¬ p→EvQ B out Q):EvQ (fun φ=>bif decide p then A φ else B φ) out Q :=
 qcH (fun h=>t (of_decide_eq_true h)) fun h=>f (of_decide_eq_false h)
theorem EvQ.round(l:Nat){L:(Nat→Nat)→Nat→Option Dv}{out:Ty}{Q:out.T→Prop}(h:EvQ (fun φ=>L φ (φ l+1)) out Q)(hind:∀ φ n n',L (fup φ l n') n=L φ n):EvQ (fun φ=>L φ (φ l)) out Q :=
 let ⟨z,h1,h2⟩:=h;⟨z,Ev.round l h1 hind,h2⟩
theorem EvQ.start(l:Nat){L:(Nat→Nat)→Nat→Option Dv}{out:Ty}{Q:out.T→Prop}(h:EvQ (fun φ=>L φ (φ l)) out Q)(hind:∀ φ n n',L (fup φ l n') n=L φ n):EvQ (fun φ=>L φ (φ 0)) out Q :=
 let ⟨z,h1,h2⟩:=h;⟨z,Ev.start (p:=fun φ n=>L φ n=_) l h1 (fun φ n n' h=>by rw[hind] at h;exact h),h2⟩
theorem EvQ.loop(l:Nat){σ:Type}{L:(Nat→Nat)→Nat→σ→Option Dv}{out:Ty}{Q:out.T→Prop}(hind:∀ φ n n' s,L (fup φ l n') n s=L φ n s)(Inv:σ→Prop)(μ:σ→Nat)
  (step:∀ s,Inv s→(∀ s',Inv s'→μ s'<μ s→EvQ (fun φ=>L φ (φ l) s') out Q)→EvQ (fun φ=>L φ (φ l+1) s) out Q):∀ s,Inv s→EvQ (fun φ=>L φ (φ l) s) out Q:=by
 have key:∀ d s,μ s<d→Inv s→EvQ (fun φ=>L φ (φ l) s) out Q:=by
  intro d
  induction d with
  | zero=>intro s h;omega
  | succ d ih =>
   intro s hd hi
   exact EvQ.round l (L:=fun φ n=>L φ n s) (step s hi fun s' hi' hl=>ih s' (by omega) hi') (fun φ n n'=>hind φ n n' s)
 exact fun s=>key _ s (zbK _)
abbrev Src:=List Int×Int×Int×Unit
abbrev cR:Ty:=.cons (.sl (.int .u8)) (.cons (.int .i64) (.cons (.int .u64) .nil))
abbrev dR(s:Src):Dv:=⟨.ptr cR,s⟩
abbrev dB(s:List Int):Dv:=⟨.sl (.int .u8),s⟩
def SO(n:Nat)(s:Src):Prop:=(∀ b∈s.1,0≤b∧b≤255)∧0≤s.2.1∧s.2.1≤(n:Int)
theorem SO.le{n m:Nat}{s:Src}(h:SO n s)(hm:n≤m):SO m s:=⟨h.1,h.2.1,by have:=h.2.2;omega⟩
theorem qis(c:List Int):Ret E n_Z125 [dB c] ⟨o_Z125,((c,0,0,()),())⟩:=by
 refine qai ?_
 simp only[run_Z125,Z125.ev]
 exact Ev.of fun _=>trivial
theorem qqY(x:BitVec (IntKind.bits .u64)):0≤w64 (IntKind.wrap .u64 (BitVec.toNat (x &&& BitVec.ofInt (IntKind.bits .u64) (255:Int))))∧w64 (IntKind.wrap .u64 (BitVec.toNat (x &&& BitVec.ofInt (IntKind.bits .u64) (255:Int))))≤255:=by
 have h:(x &&& BitVec.ofInt (IntKind.bits .u64) (255:Int)).toNat≤255:=by
  rw[BitVec.toNat_and]
  have:(BitVec.ofInt (IntKind.bits .u64) (255:Int)).toNat=255:=by decide
  rw[this]
  exact Nat.and_le_right
 rw[qmg (by omega) (by omega),qag (by omega) (by omega)]
 omega
theorem qnk(n:Nat)(s:Src)(hn:n≤1152921504606846976)(hs:SO n s):qhz n_Z134 [dR s] o_Z134 fun(r:Int×Src×Unit)=>0≤r.1∧r.1≤255∧SO (n+1) r.2.1:=by
 obtain⟨c,a,g,⟨⟩⟩:=s
 obtain⟨h1,h2,h3⟩:=hs
 simp only at h1 h2 h3
 have ha:w64 (a+1)=a+1:=qag (by omega) (by omega)
 have hj:∀ b:Int,0≤b→b≤255→EvQ (fun φ=>Z134.j0 (mkR (run E (φ 0))) (φ 0) b c a g) o_Z134 fun(r:Int×Src×Unit)=>0≤r.1∧r.1≤255∧SO (n+1) r.2.1:=by
  intro b hb1 hb2
  simp only[Z134.j0_eq _ qae,ha]
  refine qck (fun h=>qaH ⟨hb1,hb2,h1,?_,?_⟩) fun h=>?_
  ·show 0≤a+1;omega
  ·show a+1≤((n+1:Nat):Int);omega
  ·refine qaJ (by decide) (qaH ⟨?_,?_,h1,?_,?_⟩)
   ·exact(qqY _).1
   ·exact(qqY _).2
   ·show 0≤a+1;omega
   ·show a+1≤((n+1:Nat):Int);omega
 refine qbs ?_
 simp only[run_Z134,Z134.ev]
 refine qck (fun h=>?_) fun h=>hj 0 (by omega) (by omega)
 obtain⟨k,rfl⟩:∃ k:Nat,a=(k:Int):=⟨a.toNat,by omega⟩
 have hk:k<c.length:=by omega
 have hb:=h1 _ (zaj hk)
 refine qbT (qak hk) ?_
 have e:w64 c[k]=c[k]:=qag (by omega) (by omega)
 have:=hj _ hb.1 hb.2
 rw[← e] at this
 exact this
theorem qa5(n:Nat)(s:Src)(k:Int)(hn:n≤1000000000000)(hs:SO n s):qhz n_Z136 [dR s,dI k] o_Z136 fun(r:Int×Src×Unit)=>0≤r.1∧(r.1<k∨r.1=0)∧r.1≤65535∧SO (n+2) r.2.1:=by
 obtain⟨c,a,g,⟨⟩⟩:=s
 refine qbs ?_
 simp only[run_Z136,Z136.ev]
 refine qck (fun h=>qaH ⟨Int.le_refl _,.inr rfl,(by show(0:Int)≤65535;decide),hs.le (by omega)⟩) fun h=>?_
 have hk:0<k:=by omega
 have tm:∀ x:Int,0≤x→0≤Int.tmod x k∧Int.tmod x k<k∧Int.tmod x k≤x:=fun x hx=>by
  rw[zaH hx]
  have h1:=Int.mul_ediv_add_emod x k
  have h2:0≤k*(x / k):=Int.mul_nonneg (by omega) (Int.ediv_nonneg hx (by omega))
  generalize k*(x / k)=y at h1 h2
  exact⟨zbI _ (by omega),zbA _ hk,by omega⟩
 have hne:(k != 0)=true:=by simp;omega
 refine qaU (qnk n _ (by omega) hs) fun(r:Int×Src×Unit) ⟨r1,r2,r3⟩=>?_
 refine qck (fun h2=>?_) fun h2=>?_
 ·refine qaU (qnk (n+1) _ (by omega) r3) fun(q:Int×Src×Unit) ⟨q1,q2,q3⟩=>?_
  refine qaJ hne (qaH ?_)
  have e1:w64 (r.1*256)=r.1*256:=qag (by omega) (by omega)
  have e2:w64 (r.1*256+q.1)=r.1*256+q.1:=qag (by omega) (by omega)
  have:=tm (r.1*256+q.1) (by omega)
  refine⟨?_,.inl ?_,?_,q3⟩
  ·show 0≤Int.tmod _ _;rw[e1,e2];exact this.1
  ·show Int.tmod _ _<_;rw[e1,e2];exact this.2.1
  ·show Int.tmod _ _≤_;rw[e1,e2];omega
 ·have:=tm r.1 r1
  exact qaJ hne (qaH ⟨this.1,.inl this.2.1,(by show Int.tmod _ _≤_;omega),r3.le (by omega)⟩)
theorem qe9(n:Nat)(s:Src)(k:Int)(hn:n≤1000000000000)(hs:SO n s):qhz n_Z135 [dR s,dI k] o_Z135 fun(r:Bool×Src×Unit)=>SO (n+2) r.2.1:=by
 obtain⟨c,a,g,⟨⟩⟩:=s
 refine qbs ?_
 simp only[run_Z135,Z135.ev]
 exact qaU (qa5 n _ k hn hs) fun(r:Int×Src×Unit) ⟨r1,r2,r3,r4⟩=>qaH r4
theorem qcS(n:Nat)(s:Src)(l:List Int)(hl:l≠[])(hn:n≤1000000000000)(hs:SO n s):qhz n_Z133 [dR s,dL l] o_Z133 fun(r:Int×Src×Unit)=>r.1∈l∧SO (n+2) r.2.1:=by
 obtain⟨c,a,g,⟨⟩⟩:=s
 have:0<l.length:=List.length_pos_iff.2 hl
 refine qbs ?_
 simp only[run_Z133,Z133.ev]
 refine qaU (qa5 n _ _ hn hs) fun(r:Int×Src×Unit) ⟨r1,r2,r3,r4⟩=>?_
 obtain⟨k,hk⟩:∃ k:Nat,r.1=(k:Int):=⟨r.1.toNat,by omega⟩
 have hkl:k<l.length:=by omega
 rw[hk]
 exact qbT (qak hkl) (qaH ⟨zaj hkl,r4⟩)
end VeT
open Go Go.Proofs Ve
namespace VeT
theorem qeh{c:List Sim}(hv:VC c):(qb2 c c.length).length≤192:=by
 have h:=hv.plc (k:=c.length) (zaf _)
 have:=hv.1
 unfold plc at h
 omega
theorem qgZ(c:List Sim)(p:Int)(st:Sim)(hc:Sm (.sl (.sl (.int .i64))) c)(hv:VC c)(hl:st.length=c.length)(hst:∀ x∈st,0≤x∧x≤3) :
  Ret E n_Z179 [dC (c,()),dI p,dL st] ⟨o_Z179,(c,p,st,(qb2 c c.length).map (zOf p st),())⟩:=by
 have hs:=hv.srt
 have h192:=qeh hv
 have h48:=hv.1
 refine qai ?_
 simp only[run_Z179,Z179.ev]
 refine qaa (qix c hc hv) (qaa (qc1 st (by omega)) ?_)
 refine Ev.start (p:=fun φ n=>Z179.l0 (mkR (run E (φ 0))) (φ 0) n (c,()) p st 0 0 p [] c st=_) 1 ?_ (fun _ _ _ h=>h)
 refine qam 1 (L:=fun φ n k o=>Z179.l0 (mkR (run E (φ 0))) (φ 0) n (c,()) p st k 0 p o c st) (len:=c.length) (fun k=>(qb2 c k).map (zOf p st)) (fun _ _ _ _ _=>rfl) (fun k r hk ih=>?_) ?_
 ·simp only[Z179.l0_succ _ qae]
  have hpl:=hv.plc (k:=k) (by omega)
  unfold plc at hpl
  have hf4:=hv.fIdx4 hk
  refine qax (zac (by show(k:Int)<(c.length:Int);omega)) (qaa (qcj c k hk hc) ?_)
  refine Ev.start (p:=fun φ n=>Z179.l1 (mkR (run E (φ 0))) (φ 0) (φ 1) n (c,()) p st (k:Int) (qaI c k) 0 0 p ((qb2 c k).map (zOf p st)) c st=_) 2 ?_ (fun _ _ _ h=>h)
  have:=qam 2 (L:=fun φ n j o=>Z179.l1 (mkR (run E (φ 0))) (φ 0) (φ 1) n (c,()) p st (k:Int) (qaI c k) j 0 p o c st) (len:=(qaI c k).length) (fun j=>(qb2 c k++qmm c k j).map (zOf p st)) (r:=r) (fun _ _ _ _ _=>rfl) (fun j r hj ih=>?_) ?_
  ·simpa [qmm] using this
  ·simp only[Z179.l1_succ _ qae]
   obtain⟨f,f1,f2,f3⟩:=qff hs hv hk hj
   obtain⟨a,ha,ea,hka,eka⟩:=qg3 hl hst hk
   obtain⟨b,hb,eb,hfb,efb⟩:=qg3 hl hst f1
   have hz:=qcC p a b (by omega) (by omega)
   have e2:zOf p st ((k:Int),(j:Int),(qaI c k).getD j 0,())=(p,(a:Int),(b:Int),List.replicate (a*b) 0,()):=by
    unfold zOf
    simp only[zai,ea,eb,f3]
   have erow:qmm c k (j+1)=qmm c k j++[((k:Int),(j:Int),(qaI c k).getD j 0,())]:=by
    unfold qmm
    rw[zaA,zat,zca]
   rw[erow,← zaF,zat (l₂:=[_]),zca,e2] at ih
   refine qax (zac (by omega)) (qab (qak hka) (qab (qak hj) ?_))
   simp only[eka,f2]
   refine qab (qak hfb) ?_
   simp only[efb]
   refine qaa hz (qao (by simp only[zaR,zal,qef,zaz,decide_eq_true_eq];omega) ?_)
   rw[qad (by omega)];exact ih
  ·simp only[Z179.l1_succ _ qae]
   refine qaB (zae (by omega)) ?_
   rw[qad (by omega)]
   have:qb2 c (k+1)=qb2 c k++qmm c k (qaI c k).length:=rfl
   rw[this] at ih
   exact ih
 ·simp only[Z179.l0_succ _ qae]
  exact qaB (zae (by show ¬ ((c.length:Int)<(c.length:Int));omega)) qal
theorem qct(c:List Sim)(p:Int)(n:Nat)(hn:n≤3)(hc:Sm (.sl (.sl (.int .i64))) c)(hv:VC c) :
  Ret E n_Z171 [dC (c,()),dI p,dI (n:Int)] ⟨o_Z171,(c,p,List.replicate c.length (n:Int),List.replicate (qb2 c c.length).length (qbl p n),())⟩:=by
 have h192:=qeh hv
 have h48:=hv.1
 refine qai ?_
 simp only[run_Z171,Z171.ev]
 refine Ev.start (p:=fun φ q=>Z171.l0 (mkR (run E (φ 0))) (φ 0) q (c,()) p (n:Int) 0 0 []=_) 1 ?_ (fun _ _ _ h=>h)
 refine qam 1 (L:=fun φ q k o=>Z171.l0 (mkR (run E (φ 0))) (φ 0) q (c,()) p (n:Int) k 0 o) (len:=c.length) (fun k=>List.replicate k (n:Int)) (fun _ _ _ _ _=>rfl) (fun k r hk ih=>?_) ?_
 ·simp only[Z171.l0_succ _ qae]
  rw[List.replicate_succ'] at ih
  refine qax (zac (by show(k:Int)<(c.length:Int);omega)) (qao (by simp only[zas,zaz,decide_eq_true_eq];omega) ?_)
  rw[qad (by omega)];exact ih
 ·simp only[Z171.l0_succ _ qae]
  have hnew:=qgZ c p (List.replicate c.length (n:Int)) hc hv (by simp) fun x hx=>by
   rw[List.eq_of_mem_replicate hx];omega
  refine qaB (zae (by show ¬ ((c.length:Int)<(c.length:Int));omega)) (qaa hnew ?_)
  obtain⟨M,hM⟩:∃ M,M=(qb2 c c.length).map (zOf p (List.replicate c.length (n:Int))):=⟨_,rfl⟩
  rw[← hM]
  have hMl:M.length=(qb2 c c.length).length:=by rw[hM,zaR]
  rw[← hMl] at h192 ⊢
  refine Ev.start (p:=fun φ q=>Z171.l1 (mkR (run E (φ 0))) (φ 0) q p (n:Int) 0 0 p M c (List.replicate c.length (n:Int))=_) 1 ?_ (fun _ _ _ h=>h)
  have:=qam 1 (L:=fun φ q k o=>Z171.l1 (mkR (run E (φ 0))) (φ 0) q p (n:Int) k 0 p o c (List.replicate c.length (n:Int))) (len:=M.length) (fun k=>List.replicate k (qbl p n)++M.drop k) (r:=some ⟨o_Z171,(c,p,List.replicate c.length (n:Int),List.replicate M.length (qbl p n),())⟩) (fun _ _ _ _ _=>rfl) (fun k r hk ih=>?_) ?_
  ·simpa using this
  ·simp only[Z171.l1_succ _ qae]
   have hlen:(List.replicate k (qbl p n)++M.drop k).length=M.length:=by simp;omega
   have hset:(List.replicate k (qbl p n)++M.drop k).set k (qbl p n)=List.replicate (k+1) (qbl p n)++M.drop (k+1):=by
    rw[List.set_append_right _ _ (by simp),zas,zbW,zby hk,List.set_cons_zero,List.replicate_succ',zaF,List.singleton_append]
   refine qax (zac (by rw[hlen];omega)) (qaa (qea p n (by omega)) (qao (by simp only[hlen,zah,decide_eq_true_eq];omega) ?_))
   rw[qad (by omega),zai]
   have e:((qbl p n).1,(qbl p n).2.1,(qbl p n).2.2.1,(qbl p n).2.2.2.1,())=qbl p n:=rfl
   show Ev fun φ=>Z171.l1 (mkR (run E (φ 0))) (φ 0) (φ 1) p (n:Int) ((k+1:Nat):Int) 0 p (List.set (List.replicate k (qbl p n)++M.drop k) k (qbl p n)) c (List.replicate c.length (n:Int))=r
   rw[hset]
   exact ih
  ·simp only[Z171.l1_succ _ qae]
   refine qaB (zae (by simp)) (qah ?_)
   simp
end VeT
open Go Go.Proofs Ve
namespace VeT
def qhD:List Int→Int→List Int
 | [],n=>[n]
 | x::r,n=>if x<n then x::qhD r n else if n<x then n::x::r else x::r
theorem qhJ:∀ {l:List Int} {n y:Int},y∈qhD l n↔y=n∨y∈l
 | [],n,y=>by simp[qhD]
 | x::r,n,y=>by
  unfold qhD
  split
  ·rw[zaM,qhJ,zaM]
   constructor
   ·rintro(h | h | h)
    ·exact .inr (.inl h)
    ·exact .inl h
    ·exact .inr (.inr h)
   ·rintro(h | h | h)
    ·exact .inr (.inl h)
    ·exact .inl h
    ·exact .inr (.inr h)
  ·split
   ·rw[zaM]
   ·have:x=n:=by omega
    subst this
    rw[zaM]
    exact⟨fun h=>.inr h,fun h=>h.elim (fun h=>.inl h) id⟩
theorem qle:∀ {l:List Int} {n:Int},l.Pairwise (·<·)→(qhD l n).Pairwise (·<·)
 | [],n,_=>by simp[qhD]
 | x::r,n,h=>by
  rw[zbS] at h
  unfold qhD
  split
  ·rw[zbS]
   refine⟨fun y hy=>?_,qle h.2⟩
   rcases qhJ.1 hy with rfl | hy
   ·assumption
   ·exact h.1 y hy
  ·split
   ·rw[zbS]
    refine⟨fun y hy=>?_,zbS.2 h⟩
    rcases zaM.1 hy with rfl | hy
    ·assumption
    ·have:=h.1 y hy;omega
   ·exact zbS.2 h
theorem qiK:∀ {l:List Int} {n:Int},(qhD l n).length≤l.length+1
 | [],n=>by simp[qhD]
 | x::r,n=>by
  unfold qhD
  split
  ·have:=qiK (l:=r) (n:=n);simp;exact this
  ·split<;>simp
def vxN(c:List Sim):Nat→List Int
 | 0=>[]
 | k+1=>if (c.getD k []).length=1 then vxN c k++[(c.getD k []).getD 0 0] else vxN c k
abbrev vxs(c:List Sim):List Int:=vxN c c.length
theorem qfd{c:List Sim}:∀ {k:Nat},(vxN c k).length≤k
 | 0=>by simp[vxN]
 | k+1=>by
  have:=qfd (c:=c) (k:=k)
  unfold vxN
  split
  ·simp;exact this
  ·omega
theorem qjg(c:List Sim)(hc:Sm (.sl (.sl (.int .i64))) c):Ret E n_Z86 [dLL c] ⟨o_Z86,(vxs c,())⟩:=by
 have hc1:c.length≤1048576:=hc.1
 refine qai ?_
 simp only[run_Z86,Z86.ev]
 refine Ev.start (p:=fun φ n=>Z86.l0 (mkR (run E (φ 0))) (φ 0) n c (c.length:Int) 0 []=_) 1 ?_ (fun _ _ _ h=>h)
 refine qam 1 (L:=fun φ n k a=>Z86.l0 (mkR (run E (φ 0))) (φ 0) n c (c.length:Int) k a) (len:=c.length) (fun k=>vxN c k) (fun _ _ _ _ _=>rfl) (fun k r hk ih=>?_) ?_
 ·simp only[Z86.l0_succ _ qae]
  rw[qad (by omega)]
  refine qax (zac (by omega)) (qab (qak hk) ?_)
  have hl:=qfd (c:=c) (k:=k)
  rw[vxN,qac hk] at ih
  by_cases h1:(c[k]).length=1
  ·rw[if_pos h1,qac (by omega)] at ih
   refine qax (by simp[h1]) (qab (qak (k:=0) (by show 0<(c[k]).length;omega)) (qao (by simp;omega) ?_))
   exact ih
  ·rw[if_neg h1] at ih
   exact qaB (by simp;omega) ih
 ·simp only[Z86.l0_succ _ qae]
  exact qaB (zae (by omega)) qal
theorem VC.get{c:List Sim}(h:VC c){s:Sim}(hs:s∈c):Vx s:=by
 obtain⟨k,hk,rfl⟩:=zaC.1 hs
 have:=h.2.1 k hk
 rwa [qac hk] at this
noncomputable def qta(vs im:List Int)(v:Int):Int:=match vs.findIdx? (fun x=>pb (x=v)) with
 | some i=>im.getD i (-1)
 | none=>-1
noncomputable def img(vs im s:List Int):List Int:=(s.map (qta vs im)).foldl qhD []
theorem qnG(l:Sim)(n:Int)(hl:l.length≤1048576):Ret E n_Z130 [dL l,dI n] ⟨o_Z130,(qhD l n,())⟩:=by
  refine qai ?_
  simp only[run_Z130,Z130.ev]
  refine Ev.start (p:=fun φ N=>Z130.l0 (mkR (run E (φ 0))) (φ 0) N l n false 0 []=_) 1 ?_ (fun _ _ _ h=>h)
  refine(qe4 1 (σ:=Bool×Nat×List Int) (L:=fun φ N st=>Z130.l0 (mkR (run E (φ 0))) (φ 0) N l n st.1 (st.2.1:Int) st.2.2) (fun _ _ _ _=>rfl) (fun st=>st.2.1≤l.length∧st.2.2.length≤st.2.1+(bif st.1 then 1 else 0))
    (fun st=>some ⟨o_Z130,(st.2.2++(bif st.1 then l.drop st.2.1 else qhD (l.drop st.2.1) n),())⟩) (fun st=>l.length-st.2.1) (fun st hi ih=>?_) (false,0,[]) ⟨zaE _,zaE _⟩).to (by simp only[zcm,cond_false,zcp])
  obtain⟨d,i,o⟩:=st
  obtain⟨h1,h2⟩:=hi
  simp only at h1 h2 ih ⊢
  by_cases hlt:i<l.length
  · have ol:o.length≤i+1:=by cases d<;>simp at h2<;>omega
    have hd:l.drop i=l[i]::l.drop (i+1):=zby hlt
    -- what follows
    have step:∀(d':Bool) (o' X:List Int),o'.length≤i+(bif d' then 1 else 0)→(o'++[l[i]])++(bif d' then l.drop (i+1) else qhD (l.drop (i+1)) n)=X →
        Ev fun φ=>Z130.j2 (mkR (run E (φ 0))) (φ 0) (φ 1) l n d' (i:Int) o'=some ⟨o_Z130,(X,())⟩:=fun d' o' X hol hX=>by
      have ho2:o'.length≤i+1:=by cases d'<;>simp at hol<;>omega
      have:=ih (d',i+1,o'++[l[i]]) ⟨by show i+1≤_;omega,by
        simp only[zal,zaz]
        cases d'<;>simp at hol ⊢<;>omega⟩ (by simp only;omega)
      simp only at this
      rw[hX] at this
      simp only[Z130.j2_eq _ qae]
      rw[qad (by omega)]
      exact qab (qak hlt) (qao (by simp;omega) this)
    simp only[Z130.l0_succ _ qae]
    refine qax (zac (by omega)) ?_
    cases d with
    | true =>
      refine qaB rfl ?_
      have e:o++List.drop i l=(o++[l[i]])++l.drop (i+1):=by rw[hd];simp
      simp only[cond_true] at h2 ⊢
      rw[e]
      simp only[Z130.j1_eq _ qae]
      refine qaB rfl ?_
      exact step true o _ h2 (by simp only[cond_true])
    | false =>
      refine qax rfl (qab (qak hlt) ?_)
      simp only[cond_false,zbv] at h2 ⊢
      simp only[Z130.j1_eq _ qae]
      refine qew (fun hge=>?_) fun hge=>?_
      · have hge:l[i]≥n:=hge
        refine qab (qak hlt) (qew (fun hgt=>?_) fun hgt=>?_)
        · have e:o++qhD (List.drop i l) n=((o++[n])++[l[i]])++l.drop (i+1):=by
            rw[hd,qhD,if_neg (by omega),if_pos (show n<l[i] from hgt)];simp
          rw[e]
          exact qao (by simp;omega) (step true (o++[n]) _ (by simp;omega) (by simp only[cond_true]))
        · have hgt:¬ l[i]>n:=hgt
          have e:o++qhD (List.drop i l) n=(o++[l[i]])++l.drop (i+1):=by
            rw[hd,qhD,if_neg (by omega),if_neg (by omega)];simp
          rw[e]
          exact step true o _ (by simp;omega) (by simp only[cond_true])
      · have hge:¬ l[i]≥n:=hge
        have e:o++qhD (List.drop i l) n=(o++[l[i]])++qhD (l.drop (i+1)) n:=by
          rw[hd,qhD,if_pos (by omega)];simp
        rw[e]
        exact step false o _ (by simp;omega) (by simp only[cond_false])
  · have hi:i=l.length:=by omega
    subst hi
    simp only[Z130.l0_succ _ qae,List.drop_length]
    refine qaB (zae (by omega)) ?_
    cases d with
    | true=>exact qaB rfl (qah (by simp only[cond_true,zbm]))
    | false =>
      simp only[cond_false,zbv] at h2 ⊢
      exact qax rfl (qao (by simp;omega) qal)
end VeT
open Go Go.Proofs Ve
namespace VeT
def qpW:Sim→List Sim
 | []=>[[]]
 | a::s=>qpW s++(qpW s).map (a::·)
theorem qil:∀ {s:Sim},(qpW s).length=2 ^ s.length
 | []=>rfl
 | a::s=>by rw[qpW,zal,zaR,qil,zbh,Nat.pow_succ];omega
theorem qhI:∀ {x s:Sim},x.Sublist s→x∈qpW s
 | _,_,.slnil=>by simp[qpW]
 | _,_,.cons a h=>by rw[qpW];exact zam.2 (.inl (qhI h))
 | _,_,.cons_cons a h=>by rw[qpW];exact zam.2 (.inr (zaO.2 ⟨_,qhI h,rfl⟩))
theorem qid{α:Type}[DecidableEq α]:∀ {c d:List α},c.Nodup→(∀ x∈c,x∈d)→c.length≤d.length
 | [],d,_,_=>zaE _
 | x::c,d,h,hs=>by
  obtain⟨h1,h2⟩:=List.nodup_cons.1 h
  have hx:=hs x zaS
  have:=qid h2 (d:=d.erase x) fun y hy=>(List.mem_erase_of_ne (fun e=>h1 (by rw[← e];exact hy))).2 (hs y (zbc _ hy))
  rw[List.length_erase_of_mem hx] at this
  have:=List.length_pos_of_mem hx
  rw[zbh];omega
theorem Srt.nodup{c:List Sim}(h:Srt c):c.Nodup:=by
 rw[List.nodup_iff_pairwise_ne,zbp]
 intro i j hi hj hij e
 have:=h i j hj hij
 rw[e,qcr.2 rfl] at this
 omega
theorem Vx.fa{x s:Sim}(h:Vx s)(hf:Fa x s):Vx x:=by
 refine⟨List.length_pos_iff.2 hf.1,?_,qcZ (h.2.2.1.pairwise.sublist hf.2),fun y hy=>h.2.2.2 y (hf.2.subset hy)⟩
 have:=hf.2.length_le
 have:=h.2.1
 omega
theorem qiw{l c:List Sim}(hs:Srt c)(hm:∀ x,x∈c↔∃ s∈l,Fa x s):c.length≤(l.map fun s=>2 ^ s.length).sum:=by
 have h:=qid hs.nodup (d:=l.flatMap qpW) fun x hx=>by
  obtain⟨s,hs,hf⟩:=(hm x).1 hx
  exact zbq.2 ⟨s,hs,qhI hf.2⟩
 rw[List.length_flatMap] at h
 simp only[qil] at h
 exact h
theorem qjE(l:List Sim)(hl:l.length≤1024)(hx:∀ s∈l,Vx s)(hn:∀ c:List Sim,Srt c→(∀ x,x∈c↔∃ s∈l,Fa x s)→c.length≤48) :
  qhz n_Z159 [dLL l] o_Z159 fun(r:List Sim×Unit)=>VC r.1∧∀ x,x∈r.1↔∃ s∈l,Fa x s:=by
 obtain⟨c',h1,h2,h3,_⟩:=qmt l hl fun s hs=>⟨(hx s hs).1,(hx s hs).2.1⟩
 have hv:∀ x∈c',Vx x:=fun x hx'=>by
  obtain⟨s,hs,hf⟩:=(h3 x).1 hx'
  exact(hx s hs).fa hf
 have hg:∀ k,k<c'.length→c'.getD k []∈c':=fun k hk=>by
  rw[zaa,zag hk];exact zaj hk
 refine⟨(c',()),h1,⟨hn c' h2 h3, fun k hk=>hv _ (hg k hk),fun k hk1 (hk:k<c'.length)=>?_,fun k (hk:k<c'.length) f hf=>?_⟩,h3⟩
 ·have:=h2 (k-1) k hk (by omega)
  rw[zaa,zaa,zag hk,zag (show k-1<c'.length by omega)]
  exact this
 ·obtain⟨s,hs,hfa⟩:=(h3 _).1 (hg k hk)
  obtain⟨h1,i,hi,rfl⟩:=qcN.1 hf
  refine(h3 _).2 ⟨s,hs,qk3 ⟨fun e=>?_,List.eraseIdx_sublist _ _⟩ hfa⟩
  have:=congrArg List.length e
  rw[zbb hi] at this
  rw[zbE] at this
  omega
theorem VC.sm{c:List Sim}(h:VC c):Sm (.sl (.sl (.int .i64))) c:=by
 refine⟨by have:=h.1;show c.length≤1048576;omega,fun s hs=>?_⟩
 obtain⟨k,hk,rfl⟩:=zbC hs
 have:=h.2.1 k hk
 rw[zaa,zag hk] at this
 have:=this.2.1
 refine⟨?_,fun _ _=>trivial⟩
 show(c[k]).length≤1048576
 simp at this
 omega
theorem qh3(n:Nat)(s:Src)(v most:Int)(hn:n≤100000000000)(hs:SO n s)(hm:1≤most∧most≤4)(hv:1≤v∧v≤10) :
  qhz n_Z160 [dR s,dI v,dI most] o_Z160 fun(r:Sim×Src×Unit)=>Vx r.1∧(r.1.length:Int)≤most∧(∀ x∈r.1,x<v)∧SO (n+12) r.2.1:=by
 obtain⟨c,a,g,⟨⟩⟩:=s
 refine qbs ?_
 simp only[run_Z160,Z160.ev]
 refine qaU (qa5 n _ most (by omega) hs) fun(r:Int×Src×Unit) ⟨r1,r2,r3,r4⟩=>?_
 obtain⟨k0,hk0⟩:∃ k:Nat,(r.1:Int)=(k:Int):=⟨Int.toNat r.1,(Int.toNat_of_nonneg r1).symm⟩
 have e0:w64 (1+r.1)=((k0+1:Nat):Int):=by rw[hk0,qag (by omega) (by omega)];omega
 refine EvQ.start 1 (L:=fun φ N=>Z160.l0 (mkR (run E (φ 0))) (φ 0) N v [] (w64 (1+r.1)) r.2.1.1 r.2.1.2.1 r.2.1.2.2.1) ?_ (fun _ _ _=>rfl)
 rw[e0]
 refine EvQ.loop 1 (σ:=Sim×Nat×Src) (L:=fun φ N st=>Z160.l0 (mkR (run E (φ 0))) (φ 0) N v st.1 (st.2.1:Int) st.2.2.1 st.2.2.2.1 st.2.2.2.2.1) (fun _ _ _ _=>rfl)
  (fun st=>st.1.Pairwise (·<·)∧(∀ x∈st.1,0≤x∧x<v)∧((st.1.length+st.2.1:Nat):Int)≤most∧1≤st.1.length+st.2.1∧SO (n+10-2*st.2.1) st.2.2) (fun st=>st.2.1) (fun st hi ih=>?_) ([],k0+1,r.2.1) ⟨List.Pairwise.nil,fun x hx=>by simp at hx,?_,?_,?_⟩
 ·obtain⟨o,k,s1⟩:=st
  obtain⟨i1,i2,i3,i4,i5⟩:=hi
  simp only at i1 i2 i3 i4 i5 ih ⊢
  simp only[Z160.l0_succ _ qae]
  refine qck (fun h=>?_) fun h=>?_
  ·refine qaU (qa5 _ s1 v (by omega) i5) fun(q:Int×Src×Unit) ⟨q1,q2,q3,q4⟩=>?_
   refine qau (qnG o q.1 (by omega)) ?_
   rw[show w64 ((k:Int)-1)=((k-1:Nat):Int) by rw[qag (by omega) (by omega)];omega]
   refine ih (qhD o q.1,k-1,q.2.1) ⟨qle i1,fun x hx=>?_,?_,?_,?_⟩ (by show k-1<k;omega)
   ·rcases qhJ.1 hx with rfl | hx
    ·omega
    ·exact i2 x hx
   ·have:=qiK (l:=o) (n:=q.1)
    show((((qhD o q.1).length+(k-1):Nat)):Int)≤most
    omega
   ·have:1≤(qhD o q.1).length:=List.length_pos_of_mem (qhJ.2 (.inl rfl))
    show 1≤(qhD o q.1).length+(k-1)
    omega
   ·exact q4.le (by show n+10-2*k+2≤n+10-2*(k-1);omega)
  ·refine qaH ⟨⟨by show 1≤o.length;omega,by show o.length≤4;omega,qcZ i1,fun x hx=>⟨(i2 x hx).1,by have:=(i2 x hx).2;omega⟩⟩,by show(o.length:Int)≤most;omega,fun x hx=>(i2 x hx).2,i5.le (by omega)⟩
 ·show((([]:Sim).length+(k0+1):Nat):Int)≤most
  simp;omega
 ·show 1≤([]:Sim).length+(k0+1)
  simp
 ·exact r4.le (by show n+2≤n+10-2*(k0+1);omega)
def S5(c:List Sim):Prop:=∀ x∈c,x.length≤3∧∀ v∈x,v<5
theorem qlw(n:Nat)(s:Src)(hn:n≤10000000000)(hs:SO n s) :
    qhz n_Z173 [dR s] o_Z173 fun(r:List Sim×Src×Unit)=>VC r.1∧S5 r.1∧SO (n+50) r.2.1:=by
  obtain⟨c,a,g,⟨⟩⟩:=s
  have fixed:∀(l:List Sim),l.length≤1024→(∀ s∈l,Vx s)→(l.map fun s=>2 ^ s.length).sum≤48→(∀ s∈l,s.length≤3∧∀ v∈s,v<5) →
      qhz n_Z159 [dLL l] o_Z159 fun(r:List Sim×Unit)=>VC r.1∧S5 r.1:=fun l h1 h2 h3 h5=>by
    obtain⟨r,g1,g2,g3⟩:=qjE l h1 h2 fun c hs hm=>zaP (qiw hs hm) h3
    refine⟨r,g1,g2,fun x hx=>?_⟩
    obtain⟨s,hs,hf⟩:=(g3 x).1 hx
    have:=hf.2.length_le
    have:=(h5 s hs).1
    exact⟨by omega,fun v hv=>(h5 s hs).2 v (hf.2.subset hv)⟩
  have vx2:∀ a b:Int,0≤a→a<b→b≤9→Vx [a,b]:=fun a b h1 h2 h3=>⟨by simp,by simp,qcZ (by simp;exact h2),fun x hx=>by simp at hx;rcases hx with rfl | rfl<;>omega⟩
  have vx3:∀ a b c:Int,0≤a→a<b→b<c→c≤9→Vx [a,b,c]:=fun a b c h1 h2 h3 h4=>⟨by simp,by simp,qcZ (by simp;omega),fun x hx=>by simp at hx;rcases hx with rfl | rfl | rfl<;>omega⟩
  refine qbs ?_
  simp only[run_Z173,Z173.ev]
  refine qaU (qa5 n _ 6 (by omega) hs) fun(r:Int×Src×Unit) ⟨r1,r2,r3,r4⟩=>?_
  refine qcH (fun _=>qaU (fixed _ (by decide) (fun s hs=>?_) (by decide) (by decide)) fun(q:List Sim×Unit) ⟨q1,q2⟩=>qaH ⟨q1,q2,r4.le (by omega)⟩) fun _=>?_
  · simp at hs;rcases hs with rfl | rfl | rfl<;>exact vx2 _ _ (by decide) (by decide) (by decide)
  refine qcH (fun _=>qaU (fixed _ (by decide) (fun s hs=>?_) (by decide) (by decide)) fun(q:List Sim×Unit) ⟨q1,q2⟩=>qaH ⟨q1,q2,r4.le (by omega)⟩) fun _=>?_
  · simp at hs;rcases hs with rfl | rfl<;>exact vx3 _ _ _ (by decide) (by decide) (by decide) (by decide)
  refine qcH (fun _=>qaU (fixed _ (by decide) (fun s hs=>?_) (by decide) (by decide)) fun(q:List Sim×Unit) ⟨q1,q2⟩=>qaH ⟨q1,q2,r4.le (by omega)⟩) fun _=>?_
  · simp at hs;rcases hs with rfl | rfl | rfl | rfl<;>exact vx3 _ _ _ (by decide) (by decide) (by decide) (by decide)
  refine qcH (fun _=>qaU (fixed _ (by decide) (fun s hs=>?_) (by decide) (by decide)) fun(q:List Sim×Unit) ⟨q1,q2⟩=>qaH ⟨q1,q2,r4.le (by omega)⟩) fun _=>?_
  · simp at hs;rcases hs with rfl | rfl | rfl | rfl | rfl<;>exact vx2 _ _ (by decide) (by decide) (by decide)
  refine qaU (qa5 (n+2) _ 4 (by omega) r4) fun(q:Int×Src×Unit) ⟨q1,q2,q3,q4⟩=>?_
  obtain⟨k0,hk0⟩:∃ k:Nat,(q.1:Int)=(k:Int):=⟨Int.toNat q.1,(Int.toNat_of_nonneg q1).symm⟩
  refine EvQ.start 1 (L:=fun φ N=>Z173.l0 (mkR (run E (φ 0))) (φ 0) N q.1 [] q.2.1.1 q.2.1.2.1 q.2.1.2.2.1) ?_ (fun _ _ _=>rfl)
  rw[hk0]
  refine EvQ.loop 1 (σ:=Nat×List Sim×Src) (L:=fun φ N st=>Z173.l0 (mkR (run E (φ 0))) (φ 0) N (st.1:Int) st.2.1 st.2.2.1 st.2.2.2.1 st.2.2.2.2.1) (fun _ _ _ _=>rfl)
    (fun st=>(∀ x∈st.2.1,Vx x∧x.length≤3∧∀ v∈x,v<5)∧st.2.1.length+st.1≤3∧SO (n+40-12*st.1) st.2.2) (fun st=>st.1) (fun st hi ih=>?_) (k0,[],q.2.1) ⟨fun x hx=>by simp at hx,by simp;omega,q4.le (by show n+2+2≤n+40-12*k0;omega)⟩
  obtain⟨k,o,s1⟩:=st
  obtain⟨i1,i2,i3⟩:=hi
  simp only at i1 i2 i3 ih ⊢
  simp only[Z173.l0_succ _ qae]
  refine qck (fun h=>?_) fun h=>?_
  · refine qaU (qh3 _ s1 5 3 (by omega) i3 (by decide) (by decide)) fun(t:Sim×Src×Unit) ⟨t1,t2,t3,t4⟩=>?_
    refine qaJ (zac (by simp;omega)) ?_
    rw[show w64 ((k:Int)-1)=((k-1:Nat):Int) by rw[qag (by omega) (by omega)];omega]
    refine ih (k-1,o++[t.1],t.2.1) ⟨fun x hx=>?_,?_,?_⟩ (by show k-1<k;omega)
    · rcases zam.1 hx with hx | hx
      · exact i1 x hx
      · rw[zaI] at hx;subst hx;exact⟨t1,by omega,t3⟩
    · show(o++[t.1]).length+(k-1)≤3
      simp;omega
    · exact t4.le (by show n+40-12*k+12≤n+40-12*(k-1);omega)
  · refine qaU (fixed o (by omega) (fun s hs=>(i1 s hs).1) ?_ fun s hs=>(i1 s hs).2) fun(q:List Sim×Unit) ⟨q1,q2⟩=>qaH ⟨q1,q2,i3.le (by omega)⟩
    have:∀(l:List Sim),(∀ x∈l,x.length≤3)→(l.map fun s=>2 ^ s.length).sum≤8*l.length:=by
      intro l
      induction l with
      | nil=>intro _;simp
      | cons x l ih =>
        intro h
        have h1:=h x zaS
        have h2:=ih fun y hy=>h y (zbc _ hy)
        have h3:2 ^ x.length≤2 ^ 3:=Nat.pow_le_pow_right (by decide) h1
        simp only[zbi,List.sum_cons,zbh]
        omega
    have:=this o fun x hx=>(i1 x hx).2.1
    omega
end VeT
open Go Go.Proofs Ve
namespace VeT
end VeT
open Go Go.Proofs Ve
namespace VeT
theorem qi0(p:Int)(R W:Nat)(cells:Sim)(hp:2≤p∧p≤251)(hR:R≤1048576)(hW:W≤1048576)(hRW:R*W≤1048576)(hl:cells.length=R*W)(he:qaC cells p) :
  Ret E n_Z150 [dM (p,(R:Int),(W:Int),cells,())] ⟨o_Z150,((rkM p R W cells:Int),())⟩:=by
 obtain⟨det,h⟩:=qdG p R W cells hp hR hW hRW hl he
 refine qai ?_
 simp only[run_Z150,Z150.ev]
 refine qaa h (qah ?_)
 simp only[qa8]
 rfl
end VeT
open Go Go.Proofs Ve
namespace VeT
theorem qaC.set{l:Sim}{p x:Int}(h:qaC l p)(hx:0≤x∧x≤p-1)(i:Nat):qaC (l.set i x) p:=fun y hy=>by
 rcases zbR hy with hy | rfl
 ·exact h y hy
 ·exact hx
theorem qaC.zeros{p:Int}(hp:2≤p)(n:Nat):qaC (List.replicate n 0) p:=fun x hx=>by
 rw[(zbe.1 hx).2];omega
theorem qkk(n:Nat)(s:Src)(p:Int)(R C:Nat)(hn:n≤10000000000)(hs:SO n s)(hp:2≤p∧p≤251)(hR:R≤4)(hC:C≤4) :
  qhz n_Z144 [dR s,dI p,dI (R:Int),dI (C:Int)] o_Z144 fun(r:Int×Int×Int×Sim×Src×Unit)=>∃ cells s',r=(p,(R:Int),(C:Int),cells,s',())∧cells.length=R*C∧qaC cells p∧SO (n+70) s':=by
 obtain⟨c,a,g,⟨⟩⟩:=s
 have hRC:R*C≤16:=zbd hR hC
 refine qbs ?_
 simp only[run_Z144,Z144.ev]
 refine qau (qcC p R C (by omega) (by omega)) ?_
 have fin:∀(cells:Sim) (s1:Src) (m:Nat),cells.length=R*C→qaC cells p→m≤n+70→SO m s1→EvQ (fun φ=>Z144.j3 (mkR (run E (φ 0))) (φ 0) 0 0 0 p (R:Int) (C:Int) s1.1 s1.2.1 s1.2.2.1 cells) o_Z144 fun(r:Int×Int×Int×Sim×Src×Unit)=>∃ cells s',r=(p,(R:Int),(C:Int),cells,s',())∧cells.length=R*C∧qaC cells p∧SO (n+70) s':=by
  intro cells s1 m h1 h2 h3 h4
  simp only[Z144.j3_eq _ qae]
  exact qaH ⟨cells,s1,rfl,h1,h2,h4.le h3⟩
 have fold2:∀(cells:Sim) (s1:Src) (m:Nat) (b:Bool),cells.length=R*C→qaC cells p→m≤n+70→SO m s1→(b=true→1<R)→EvQ (fun φ=>Z144.j1 (mkR (run E (φ 0))) (φ 0) p (R:Int) (C:Int) b 0 0 0 p (R:Int) (C:Int) s1.1 s1.2.1 s1.2.2.1 cells) o_Z144 fun(r:Int×Int×Int×Sim×Src×Unit)=>∃ cells s',r=(p,(R:Int),(C:Int),cells,s',())∧cells.length=R*C∧qaC cells p∧SO (n+70) s':=by
  intro cells s1 m b h1 h2 h3 h4 h5
  simp only[Z144.j1_eq _ qae]
  refine qcH (fun hb=>?_) fun _=>fin cells s1 m h1 h2 h3 h4
  have hR1:=h5 hb
  refine EvQ.start 1 (L:=fun φ N=>Z144.l2 (mkR (run E (φ 0))) (φ 0) N p (R:Int) (C:Int) 0 0 0 0 p (R:Int) (C:Int) s1.1 s1.2.1 s1.2.2.1 cells) ?_ (fun _ _ _=>rfl)
  refine EvQ.loop 1 (σ:=Nat×Sim) (L:=fun φ N st=>Z144.l2 (mkR (run E (φ 0))) (φ 0) N p (R:Int) (C:Int) (st.1:Int) 0 0 0 p (R:Int) (C:Int) s1.1 s1.2.1 s1.2.2.1 st.2) (fun _ _ _ _=>rfl)
   (fun st=>st.1≤C∧st.2.length=R*C∧qaC st.2 p) (fun st=>C-st.1) (fun st hi ih=>?_) (0,cells) ⟨zaE _,h1,h2⟩
  obtain⟨k,o⟩:=st
  obtain⟨i1,i2,i3⟩:=hi
  simp only at i1 i2 i3 ih ⊢
  simp only[Z144.l2_succ _ qae]
  refine qck (fun h=>?_) fun h=>fin o s1 m i2 i3 h3 h4
  have hk:k<C:=by omega
  have hCR:C≤R*C:=by have:=zaq C (show 1≤R by omega);omega
  have hix:=qeU (R:=R) (C:=C) (show R-1<R by omega) hk
  have e1:w64 ((R:Int)-1)=((R-1:Nat):Int):=by rw[qag (by omega) (by omega)];omega
  have e2:w64 (w64 (((R-1:Nat):Int)*(C:Int))+(k:Int))=(((R-1)*C+k:Nat):Int):=qgm (by omega)
  have hkl:k<o.length:=by omega
  have ho:=i3 _ (zaj hkl)
  rw[e1,e2,zai,zai]
  refine qaJ (by simp only[zah,decide_eq_true_eq];omega) (qbT (zag hkl) (qaJ (by simp;omega) (qaJ (by simp only[zah,decide_eq_true_eq];omega) ?_)))
  rw[qad (by omega)]
  refine ih (k+1,_) ⟨by show k+1≤C;omega,by rw[zaN];exact i2,i3.set ?_ _⟩ (by show C-(k+1)<C-k;omega)
  have e3:w64 (o[k]*2)=o[k]*2:=qag (by omega) (by omega)
  rw[e3,zaH (by omega)]
  exact qdK hp.1
 refine EvQ.start 1 (L:=fun φ N=>Z144.l0 (mkR (run E (φ 0))) (φ 0) N p (R:Int) (C:Int) 0 0 0 0 p (R:Int) (C:Int) c a g (List.replicate (R*C) 0)) ?_ (fun _ _ _=>rfl)
 refine EvQ.loop 1 (σ:=Nat×Src×Sim) (L:=fun φ N st=>Z144.l0 (mkR (run E (φ 0))) (φ 0) N p (R:Int) (C:Int) (st.1:Int) 0 0 0 p (R:Int) (C:Int) st.2.1.1 st.2.1.2.1 st.2.1.2.2.1 st.2.2) (fun _ _ _ _=>rfl)
  (fun st=>st.1≤R*C∧SO (n+4*st.1) st.2.1∧st.2.2.length=R*C∧qaC st.2.2 p) (fun st=>R*C-st.1) (fun st hi ih=>?_) (0,(c,a,g,()),List.replicate (R*C) 0) ⟨zaE _,hs,by simp,qaC.zeros hp.1 _⟩
 obtain⟨i,s1,o⟩:=st
 obtain⟨i1,i2,i3,i4⟩:=hi
 simp only at i1 i2 i3 i4 ih ⊢
 simp only[Z144.l0_succ _ qae]
 refine qck (fun h=>?_) fun h=>?_
 ·have hi:i<R*C:=by omega
  refine qaU (qa5 _ s1 3 (by omega) i2) fun(r:Int×Src×Unit) ⟨r1,r2,r3,r4⟩=>?_
  rw[qad (by omega),zai]
  refine qck (fun h2=>?_) fun h2=>?_
  ·refine qaU (qa5 _ r.2.1 p (by omega) r4) fun(q:Int×Src×Unit) ⟨q1,q2,q3,q4⟩=>?_
   refine qaJ (by simp only[zah,decide_eq_true_eq];omega) ?_
   exact ih (i+1,q.2.1,o.set i q.1) ⟨by show i+1≤R*C;omega,q4.le (by show n+4*i+2+2≤n+4*(i+1);omega),by rw[zaN];exact i3,i4.set (by omega) _⟩ (by show R*C-(i+1)<R*C-i;omega)
  ·exact ih (i+1,r.2.1,o) ⟨by show i+1≤R*C;omega,r4.le (by show n+4*i+2≤n+4*(i+1);omega),i3,i4⟩ (by show R*C-(i+1)<R*C-i;omega)
 ·refine qck (fun h2=>?_) fun h2=>?_
  ·exact qaU (qe9 _ s1 3 (by omega) i2) fun(r:Bool×Src×Unit) r4=>fold2 o r.2.1 _ r.1 i3 i4 (by omega) r4 fun _=>by omega
  ·exact fold2 o s1 _ false i3 i4 (by omega) i2 fun h=>by cases h
end VeT
open Go Go.Proofs Ve
namespace VeT
def qkb(a b:Sim)(W V:Nat):Ent:=fun i j=>if j<W then qbe a W i j else qbe b V i (j-W)
def qfZ(a b:Sim)(W V R:Nat):Sim:=qar (qkb a b W V) (W+V) R
theorem qpf{a b:Sim}{W V i:Nat}:(List.range (W+V)).map (qkb a b W V i)=(List.range W).map (qbe a W i)++(List.range V).map (qbe b V i):=by
 rw[List.range_add,zat,List.map_map]
 congr 1
 ·refine zbu fun j hj=>?_
  have:=zaG.1 hj
  simp[qkb,this]
 ·refine zbu fun j hj=>?_
  show(if W+j<W then qbe a W i (W+j) else qbe b V i (W+j-W))=_
  rw[if_neg (by omega),zaQ]
theorem qoV(p:Int)(R W V:Nat)(cells b:Sim)(hR:R≤32)(hW:W≤32)(hV:V≤32)(hl:cells.length=R*W)(hbl:b.length=R*V) :
  Ret E n_Z146 [dM (p,(R:Int),(W:Int),cells,()),dM (p,(R:Int),(V:Int),b,())] ⟨o_Z146,(p,(R:Int),((W+V:Nat):Int),qfZ cells b W V R,())⟩:=by
 have hRW:=qcP hR hW
 have hRV:=qcP hR hV
 refine qai ?_
 simp only[run_Z146,Z146.ev,Z146.j0_eq _ qae]
 rw[show w64 ((W:Int)+(V:Int))=((W+V:Nat):Int) by rw[qag (by omega) (by omega)];omega]
 generalize hMt:(p,(R:Int),(W:Int),cells,())=M
 generalize hNt:(p,(R:Int),(V:Int),b,())=N
 have M2:M.2.1=(R:Int):=by rw[← hMt]
 have M3:M.2.2.1=(W:Int):=by rw[← hMt]
 have M4:M.2.2.2.1=cells:=by rw[← hMt]
 have N3:N.2.2.1=(V:Int):=by rw[← hNt]
 have N4:N.2.2.2.1=b:=by rw[← hNt]
 have one:Ev fun φ=>Z146.l1 (mkR (run E (φ 0))) (φ 0) (φ 0) M N 0 0 0 0 p (R:Int) ((W+V:Nat):Int) []=some ⟨o_Z146,(p,(R:Int),((W+V:Nat):Int),qfZ cells b W V R,())⟩:=by
  refine Ev.start (p:=fun φ n=>Z146.l1 (mkR (run E (φ 0))) (φ 0) n M N 0 0 0 0 p (R:Int) ((W+V:Nat):Int) []=_) 1 ?_ (fun _ _ _ h=>h)
  refine qam 1 (L:=fun φ n i o=>Z146.l1 (mkR (run E (φ 0))) (φ 0) n M N i 0 0 0 p (R:Int) ((W+V:Nat):Int) o) (len:=R) (fun i=>qar (qkb cells b W V) (W+V) i) (fun _ _ _ _ _=>rfl) (fun i r hi ih=>?_) ?_
  ·have hle:(i+1)*W≤R*W:=zaq _ hi
   have hle2:(i+1)*V≤R*V:=zaq _ hi
   have e1:(i+1)*W=i*W+W:=Nat.succ_mul _ _
   have e2:(i+1)*V=i*V+V:=Nat.succ_mul _ _
   have c1:w64 ((i:Int)*(W:Int))=((i*W:Nat):Int):=by rw[qa3];exact qag (by omega) (by omega)
   have c2:w64 (((i+1:Nat):Int)*(W:Int))=(((i+1)*W:Nat):Int):=by rw[qa3];exact qag (by omega) (by omega)
   have c3:w64 ((i:Int)*(V:Int))=((i*V:Nat):Int):=by rw[qa3];exact qag (by omega) (by omega)
   have c4:w64 (((i+1:Nat):Int)*(V:Int))=(((i+1)*V:Nat):Int):=by rw[qa3];exact qag (by omega) (by omega)
   have hr1:=qmW hl hi
   have hr2:=qmW hbl hi
   have hfl:=qas (f:=qkb cells b W V) (C:=W+V) (n:=i)
   have hfl2:i*(W+V)≤32*64:=zbd (by omega) (by omega)
   simp only[Z146.l1_succ _ qae,M2,M3,M4,N3,N4,qad (k:=i) (by omega),c1,c2,c3,c4,zai,hr1,hr2]
   rw[qar,qpf,← zaF] at ih
   refine qax (zac (by omega)) (qao (by simp only[zah,decide_eq_true_eq];omega) (qao (by simp only[zaR,zaU,decide_eq_true_eq];omega) (qao (by simp only[zah,decide_eq_true_eq];omega) (qao (by simp only[zal,zaR,zaU,decide_eq_true_eq];omega) ih))))
  ·simp only[Z146.l1_succ _ qae,M2]
   exact qaB (zae (by omega)) qal
 exact qb8 one one
def Tri(n:Nat)(A:Ent):Prop:=(∀ i j,j<i→i<n→A i j=0)∧∀ i,i<n→A i i≠0
theorem qpv{p:Int}{n:Nat}{A:Ent}(h:Tri n A):∀ c,c≤n→(elS p n A c).2=List.range c∧∀ i j,c≤i→i<n→(elS p n A c).1 i j=A i j
 | 0,_=>⟨rfl,fun _ _ _ _=>rfl⟩
 | c+1,hc=>by
  obtain⟨h1,h2⟩:=qpv h c (by omega)
  rw[elS,elP]
  generalize elS p n A c=S at h1 h2
  have hl:S.2.length=c:=by rw[h1,zaU]
  have hf:qaP (fun i=>S.1 i c≠0) S.2.length (n-S.2.length)=some c:=by
   rw[hl]
   obtain⟨k,hk⟩:=qb3 (P:=fun i=>S.1 i c≠0) (d:=n-c) (a:=c) ⟨c,zaf _,by omega,by rw[h2 c c (zaf _) (by omega)];exact h.2 c (by omega)⟩
   have h3:=qaz hk
   have h4:=qc7 hk c (zaf _)
   have:k=c:=by
    rcases zbt c k with hlt | hge
    ·exact absurd (by rw[h2 c c (zaf _) (by omega)];exact h.2 c (by omega)) (h4 hlt)
    ·omega
   rw[hk,this]
  rw[hf]
  simp only
  rw[hl]
  refine⟨by rw[h1,zaA],fun i j hi hin=>?_⟩
  have hsw:∀ k,qcJ c c S.1 k=S.1 k:=fun k=>by
   unfold qcJ
   by_cases e:k=c
   ·rw[if_pos e,e]
   ·rw[if_neg e,if_neg e]
  unfold elF
  rw[if_neg (by omega),hsw i]
  rw[if_neg (by rw[h2 i c (by omega) hin,h.1 i c (by omega) hin];exact fun h=>h rfl)]
  exact h2 i j (by omega) hin
theorem qqO{p:Int}{n:Nat}{A:Ent}(h:Tri n A):rkM p n n (qar A n n)=n:=by
 have h':Tri n (qbe (qar A n n) n):=⟨fun i j hji hi=>by rw[qaW hi (by omega)];exact h.1 i j hji hi,fun i hi=>by rw[qaW hi hi];exact h.2 i hi⟩
 unfold rkM
 rw[(qpv h' n (zaf _)).1,zaU]
theorem qaC.flat{A:Ent}{R C:Nat}{p:Int}(h:EIn p R C A):qaC (qar A C R) p:=fun x hx=>by
 rw[← qbF] at hx
 obtain⟨row,hrow,hx⟩:=List.mem_flatten.1 hx
 obtain⟨i,hi,rfl⟩:=zaO.1 hrow
 obtain⟨j,hj,rfl⟩:=zaO.1 hx
 exact h i j (zaG.1 hi) (zaG.1 hj)
theorem qjo(n:Nat)(s:Src)(p:Int)(d:Nat)(hn:n≤1000000000)(hs:SO n s)(hp:2≤p∧p≤251)(hd:d≤4) :
    qhz n_Z176 [dR s,dI p,dI (d:Int)] o_Z176 fun(r:Int×Int×Int×Sim×Src×Unit)=>∃ cells s',r=(p,(d:Int),(d:Int),cells,s',())∧cells.length=d*d∧qaC cells p∧rkM p d d cells=d∧SO (n+150) s':=by
  obtain⟨c,a,g,⟨⟩⟩:=s
  have hdd:d*d≤16:=zbd hd hd
  refine qbs ?_
  simp only[run_Z176,Z176.ev]
  refine qaU (qkk n _ p d d (by omega) hs hp hd hd) fun r ⟨cells,s1,e,h1,h2,h3⟩=>?_
  subst e
  refine qau (qi0 p d d cells hp (by omega) (by omega) (by omega) h1 h2) ?_
  refine qcH (fun h=>qaH ⟨cells,s1,rfl,h1,h2,?_,h3.le (by omega)⟩) fun _=>?_
  · have:((rkM p d d cells:Nat):Int)=(d:Int):=by simpa using h
    omega
  refine qau (qea p d (by omega)) ?_
  refine EvQ.start 1 (L:=fun φ N=>Z176.l0 (mkR (run E (φ 0))) (φ 0) N p (d:Int) 0 0 0 0 p (d:Int) (d:Int) s1.1 s1.2.1 s1.2.2.1 (qar qbu d d)) ?_ (fun _ _ _=>rfl)
  refine EvQ.loop 1 (σ:=Nat×Src×Ent) (L:=fun φ N st=>Z176.l0 (mkR (run E (φ 0))) (φ 0) N p (d:Int) (st.1:Int) 0 0 0 p (d:Int) (d:Int) st.2.1.1 st.2.1.2.1 st.2.1.2.2.1 (qar st.2.2 d d)) (fun _ _ _ _=>rfl)
    (fun st=>st.1≤d∧SO (n+70+10*st.1) st.2.1∧EIn p d d st.2.2∧Tri d st.2.2) (fun st=>d-st.1) (fun st hi ih=>?_) (0,s1,qbu) ⟨zaE _,h3,fun i j _ _=>by show 0≤qbu i j∧qbu i j≤p-1;unfold qbu;split<;>omega,fun i j hj _=>by show qbu i j=0;unfold qbu;rw[if_neg (by omega)],fun i _=>by show qbu i i≠0;simp[qbu]⟩
  obtain⟨i,s2,A⟩:=st
  obtain⟨i1,i2,i3,i4⟩:=hi
  simp only at i1 i2 i3 i4 ih ⊢
  simp only[Z176.l0_succ _ qae]
  refine qck (fun h=>?_) fun h=>qaH ⟨qar A d d,s2,rfl,qas,qaC.flat i3,qqO i4,i2.le (by omega)⟩
  have hid:i<d:=by omega
  have hp1:w64 (p-1)=p-1:=qag (by omega) (by omega)
  rw[hp1]
  refine qaU (qa5 _ s2 (p-1) (by omega) i2) fun(q:Int×Src×Unit) ⟨q1,q2,q3,q4⟩=>?_
  have hx:=qeU hid hid
  have e1:w64 (1+q.1)=1+q.1:=qag (by omega) (by omega)
  have hfl:=qas (f:=A) (C:=d) (n:=d)
  rw[qgm (by omega),e1,zai,qad (by omega),qdc hid hid]
  refine qaJ (by simp only[zah,decide_eq_true_eq];omega) ?_
  have hA1:EIn p d d (fun k l=>if k=i∧l=i then 1+q.1 else A k l):=fun k l hk hl=>by
    show 0≤(if k=i∧l=i then 1+q.1 else A k l)∧(if k=i∧l=i then 1+q.1 else A k l)≤p-1
    split
    · omega
    · exact i3 k l hk hl
  have hA2:Tri d (fun k l=>if k=i∧l=i then 1+q.1 else A k l):=⟨fun k l hlk hk=>by
      show(if k=i∧l=i then 1+q.1 else A k l)=0
      rw[if_neg (by omega)];exact i4.1 k l hlk hk,fun k hk=>by
      show(if k=i∧k=i then 1+q.1 else A k k)≠0
      split
      · omega
      · exact i4.2 k hk⟩
  generalize (fun k l=>if k=i∧l=i then 1+q.1 else A k l)=A1 at hA1 hA2
  refine EvQ.start 2 (L:=fun φ N=>Z176.l1 (mkR (run E (φ 0))) (φ 0) (φ 1) N p (d:Int) (i:Int) ((i+1:Nat):Int) 0 0 0 p (d:Int) (d:Int) q.2.1.1 q.2.1.2.1 q.2.1.2.2.1 (qar A1 d d)) ?_ (fun _ _ _=>rfl)
  refine EvQ.loop 2 (σ:=Nat×Src×Ent) (L:=fun φ N st=>Z176.l1 (mkR (run E (φ 0))) (φ 0) (φ 1) N p (d:Int) (i:Int) (st.1:Int) 0 0 0 p (d:Int) (d:Int) st.2.1.1 st.2.1.2.1 st.2.1.2.2.1 (qar st.2.2 d d)) (fun _ _ _ _=>rfl)
    (fun st=>i+1≤st.1∧st.1≤d∧SO (n+70+10*i+2*st.1) st.2.1∧EIn p d d st.2.2∧Tri d st.2.2) (fun st=>d-st.1) (fun st hi ih2=>?_) (i+1,q.2.1,A1) ⟨zaf _,hid,q4.le (by show n+70+10*i+2≤n+70+10*i+2*(i+1);omega),hA1,hA2⟩
  obtain⟨k,s3,B⟩:=st
  obtain⟨k0,k1,k2,k3,k4⟩:=hi
  simp only at k0 k1 k2 k3 k4 ih2 ⊢
  simp only[Z176.l1_succ _ qae]
  refine qck (fun h=>?_) fun h=>?_
  · have hkd:k<d:=by omega
    refine qaU (qa5 _ s3 p (by omega) k2) fun(t:Int×Src×Unit) ⟨t1,t2,t3,t4⟩=>?_
    have hx:=qeU hid hkd
    have hfl:=qas (f:=B) (C:=d) (n:=d)
    rw[qgm (by omega),zai,qad (by omega),qdc hid hkd]
    refine qaJ (by simp only[zah,decide_eq_true_eq];omega) ?_
    refine ih2 (k+1,t.2.1,_) ⟨by show i+1≤k+1;omega,by show k+1≤d;omega,t4.le (by show n+70+10*i+2*k+2≤n+70+10*i+2*(k+1);omega),fun x l hx' hl=>?_,fun x l hlx hx'=>?_,fun x hx'=>?_⟩ (by show d-(k+1)<d-k;omega)
    · show 0≤(if x=i∧l=k then t.1 else B x l)∧(if x=i∧l=k then t.1 else B x l)≤p-1
      split
      · omega
      · exact k3 x l hx' hl
    · show(if x=i∧l=k then t.1 else B x l)=0
      rw[if_neg (by omega)];exact k4.1 x l hlx hx'
    · show(if x=i∧x=k then t.1 else B x x)≠0
      rw[if_neg (by omega)];exact k4.2 x hx'
  · have:k=d:=by omega
    rw[qad (by omega)]
    exact ih (i+1,s3,B) ⟨hid,k2.le (by show n+70+10*i+2*k≤n+70+10*(i+1);omega),k3,k4⟩ (by show d-(i+1)<d-i;omega)
end VeT
open Go Go.Proofs Ve
namespace VeT
noncomputable def qgN(p:Int)(d:Nat)(cells:Sim):Ent:=(elS p d (qbe (qfZ cells (qar qbu d d) d d d) (d+d)) (d+d)).1
noncomputable def qq8(p:Int)(d:Nat)(cells:Sim):Sim:=qar (fun i k=>qgN p d cells i (d+k)) d d
theorem qm6{p:Int}{a b:Sim}{W V R:Nat}(ha:qaC a p)(hb:qaC b p)(hl:a.length=R*W)(hbl:b.length=R*V):EIn p R (W+V) (qkb a b W V):=fun i j hi hj=>by
 unfold qkb
 split
 ·exact qcn ha hl i j hi (by omega)
 ·exact qcn hb hbl i (j-W) hi (by omega)
theorem qni{p:Int}(hp:2≤p){d:Nat}:EIn p d d qbu:=fun i j _ _=>by
 show 0≤qbu i j∧qbu i j≤p-1
 unfold qbu;split<;>omega
theorem qoS{p:Int}(hp:2≤p){d:Nat}{cells:Sim}(hl:cells.length=d*d)(he:qaC cells p):EIn p d (d+d) (qbe (qfZ cells (qar qbu d d) d d d) (d+d)):=fun i j hi hj=>by
 unfold qfZ;rw[qaW hi hj]
 exact qm6 he (qaC.flat (qni hp)) hl qas i j hi hj
theorem qpe{p:Int}(hp:2≤p){d:Nat}{cells:Sim}(hl:cells.length=d*d)(he:qaC cells p):qaC (qq8 p d cells) p∧(qq8 p d cells).length=d*d:=by
 refine⟨qaC.flat fun i j hi hj=>?_,qas⟩
 exact(qfl hp (qoS hp hl he) (d+d)).1 i (d+j) hi (by omega)
theorem qgX(p:Int)(d:Nat)(cells:Sim)(hp:Pr p)(hd:d≤4)(hl:cells.length=d*d)(he:qaC cells p)(hr:rkM p d d cells=d) :
  qhz n_Z122 [dI p,dI (d:Int),dI (d:Int),dL cells] o_Z122 fun(r:Int×Int×Int×Sim×Int×Unit)=>r=(p,(d:Int),(d:Int),qq8 p d cells,0,()):=by
 have hp2:2≤p∧p≤251:=⟨hp.1,hp.2.1⟩
 have hdd:d*d≤16:=zbd hd hd
 have hd2:d*(d+d)≤32:=zbd hd (show d+d≤8 by omega)
 have hVM:VM (p,(d:Int),(d:Int),cells,()):=⟨hp,⟨by show(0:Int)≤d;omega,by show(d:Int)≤32;omega⟩,⟨by show(0:Int)≤d;omega,by show(d:Int)≤32;omega⟩,by show(cells.length:Int)=d*d;rw[hl];simp,he⟩
 have hSm:Sm (.st cM) (p,(d:Int),(d:Int),cells,()):=⟨trivial,trivial,trivial,⟨by show cells.length≤1048576;omega,fun _ _=>trivial⟩,trivial⟩
 refine qbs ?_
 simp only[run_Z122,Z122.ev]
 refine qau (qlr _ hSm) (qbU (by simp[qaK hVM]) (qbU (by simp) ?_))
 refine qau (qi0 p d d cells hp2 (by omega) (by omega) (by omega) hl he) (qbU (by simp[hr]) ?_)
 refine qau (qea p d (by omega)) ?_
 refine qau (qoV p d d d cells (qar qbu d d) (by omega) (by omega) (by omega) hl qas) ?_
 have hJ:qaC (qfZ cells (qar qbu d d) d d d) p:=qaC.flat (qm6 he (qaC.flat (qni hp2.1)) hl qas)
 obtain⟨det,hred⟩:=qdG p d (d+d) (qfZ cells (qar qbu d d) d d d) hp2 (by omega) (by omega) (by omega) qas hJ
 refine qau hred ?_
 refine qau (qcC p d d (by omega) (by omega)) ?_
 have hF:(elS p d (qbe (qfZ cells (qar qbu d d) d d d) (d+d)) (d+d)).1=qgN p d cells:=rfl
 simp only[hF]
 have hz:List.replicate (d*d) (0:Int)=qar (fun _ _=>0) d d:=by
  refine(List.eq_replicate_iff.2 ⟨qas,fun x hx=>?_⟩).symm
  rw[← qbF] at hx
  obtain⟨row,hrow,hx⟩:=List.mem_flatten.1 hx
  obtain⟨i,hi,rfl⟩:=zaO.1 hrow
  obtain⟨j,hj,rfl⟩:=zaO.1 hx
  rfl
 rw[hz]
 have hFl:=qas (f:=qgN p d cells) (C:=d+d) (n:=d)
 refine EvQ.start 1 (L:=fun φ N=>Z122.l0 (mkR (run E (φ 0))) (φ 0) N 0 p (d:Int) (d:Int) cells 0 0 0 p (d:Int) ((d+d:Nat):Int) (qfZ cells (qar qbu d d) d d d) p (d:Int) ((d+d:Nat):Int) (qar (qgN p d cells) (d+d) d) p (d:Int) (d:Int) (qar (fun _ _=>0) d d)) ?_ (fun _ _ _=>rfl)
 refine EvQ.loop 1 (σ:=Nat×Ent) (L:=fun φ N st=>Z122.l0 (mkR (run E (φ 0))) (φ 0) N (st.1:Int) p (d:Int) (d:Int) cells 0 0 0 p (d:Int) ((d+d:Nat):Int) (qfZ cells (qar qbu d d) d d d) p (d:Int) ((d+d:Nat):Int) (qar (qgN p d cells) (d+d) d) p (d:Int) (d:Int) (qar st.2 d d)) (fun _ _ _ _=>rfl)
  (fun st=>st.1≤d∧∀ i j,i<st.1→j<d→st.2 i j=qgN p d cells i (d+j)) (fun st=>d-st.1) (fun st hi ih=>?_) (0,fun _ _=>0) ⟨zaE _,fun i j h=>by omega⟩
 obtain⟨i,B⟩:=st
 obtain⟨i1,i2⟩:=hi
 simp only at i1 i2 ih ⊢
 simp only[Z122.l0_succ _ qae]
 refine qck (fun h=>?_) fun h=>qaH ?_
 ·have hid:i<d:=by omega
  refine EvQ.start 2 (L:=fun φ N=>Z122.l1 (mkR (run E (φ 0))) (φ 0) (φ 1) N (i:Int) 0 p (d:Int) (d:Int) cells 0 0 0 p (d:Int) ((d+d:Nat):Int) (qfZ cells (qar qbu d d) d d d) p (d:Int) ((d+d:Nat):Int) (qar (qgN p d cells) (d+d) d) p (d:Int) (d:Int) (qar B d d)) ?_ (fun _ _ _=>rfl)
  refine EvQ.loop 2 (σ:=Nat×Ent) (L:=fun φ N st=>Z122.l1 (mkR (run E (φ 0))) (φ 0) (φ 1) N (i:Int) (st.1:Int) p (d:Int) (d:Int) cells 0 0 0 p (d:Int) ((d+d:Nat):Int) (qfZ cells (qar qbu d d) d d d) p (d:Int) ((d+d:Nat):Int) (qar (qgN p d cells) (d+d) d) p (d:Int) (d:Int) (qar st.2 d d)) (fun _ _ _ _=>rfl)
   (fun st=>st.1≤d∧(∀ i' j,i'<i→j<d→st.2 i' j=qgN p d cells i' (d+j))∧∀ j,j<st.1→st.2 i j=qgN p d cells i (d+j)) (fun st=>d-st.1) (fun st hk ih2=>?_) (0,B) ⟨zaE _,i2,fun j h=>by omega⟩
  obtain⟨k,D⟩:=st
  obtain⟨k1,k2,k3⟩:=hk
  simp only at k1 k2 k3 ih2 ⊢
  simp only[Z122.l1_succ _ qae]
  refine qck (fun h=>?_) fun h=>?_
  ·have hkd:k<d:=by omega
   have hx:=qeU hid hkd
   have hx2:=qeU (R:=d) (C:=d+d) hid (show d+k<d+d by omega)
   have hDl:=qas (f:=D) (C:=d) (n:=d)
   have e1:w64 (w64 (w64 ((i:Int)*((d+d:Nat):Int))+(d:Int))+(k:Int))=((i*(d+d)+(d+k):Nat):Int):=by
    rw[qgm (by omega),qag (by omega) (by omega)];omega
   rw[e1,qgm (by omega),zai,qad (by omega)]
   refine qbT (qaT.trans (qbX hid (show d+k<d+d by omega))) (qaJ (by simp only[zah,decide_eq_true_eq];omega) ?_)
   rw[qdc hid hkd]
   refine ih2 (k+1,_) ⟨hkd,fun i' j hi' hj=>?_,fun j hj=>?_⟩ (by show d-(k+1)<d-k;omega)
   ·show(if i'=i∧j=k then _ else D i' j)=_
    rw[if_neg (by omega)];exact k2 i' j hi' hj
   ·show(if i=i∧j=k then qgN p d cells i (d+k) else D i j)=_
    by_cases e:j=k
    ·rw[if_pos ⟨rfl,e⟩,e]
    ·rw[if_neg (by omega)];exact k3 j (by have:j<k+1:=hj;omega)
  ·have:k=d:=by omega
   subst this
   rw[qad (by omega)]
   refine ih (i+1,D) ⟨hid,fun i' j hi' hj=>?_⟩ (by show k-(i+1)<k-i;omega)
   by_cases e:i'=i
   ·subst e;exact k3 j hj
   ·exact k2 i' j (by have:i'<i+1:=hi';omega) hj
 ·have:i=d:=by omega
  subst this
  show(p,(i:Int),(i:Int),qar B i i,(0:Int),())=_
  rw[qaL fun i' j hi' hj=>i2 i' j hi' hj]
  rfl
end VeT
open Go Go.Proofs Ve
namespace VeT
def BOk(p:Int)(d:Nat)(m:Mat):Prop:=∃ cells,m=(p,(d:Int),(d:Int),cells,())∧cells.length=d*d∧qaC cells p∧rkM p d d cells=d
noncomputable def qop(p:Int)(d:Nat)(m:Mat):Mat:=(p,(d:Int),(d:Int),qq8 p d m.2.2.2.1,())
theorem qso{p:Int}{d:Nat}{cells:Sim}(hp:Pr p)(hd:d≤4)(hl:cells.length=d*d)(he:qaC cells p):VM (p,(d:Int),(d:Int),cells,()) :=
 ⟨hp,⟨by show(0:Int)≤d;omega,by show(d:Int)≤32;omega⟩,⟨by show(0:Int)≤d;omega,by show(d:Int)≤32;omega⟩,by show(cells.length:Int)=d*d;rw[hl];simp,he⟩
theorem BOk.vm{p:Int}{d:Nat}{m:Mat}(hp:Pr p)(hd:d≤4)(h:BOk p d m):VM m∧VM (qop p d m):=by
 obtain⟨cells,rfl,h1,h2,h3⟩:=h
 exact⟨qso hp hd h1 h2,qso hp hd (qpe hp.1 h1 h2).2 (qpe hp.1 h1 h2).1⟩
theorem qnf{c:List Sim}{a b:Nat}(h:a≤b):plc c a≤plc c b:=by
  induction b with
  | zero => obtain rfl : a = 0 := by omega
            exact zaf _
  | succ b ih =>
    rcases zbt b a with h1 | h1
    · obtain rfl:a=b+1:=by omega
      exact zaf _
    · rw[qfg];exact zaP (ih h1) (Nat.le_add_right _ _)
noncomputable def chM(c:List Sim)(p:Int)(d:Nat)(bs:List Mat)(k i:Nat):Mat:=qdM (bs.getD k mz) (qop p d (bs.getD ((qaI c k).getD i 0).toNat mz))
theorem qmI(n:Nat)(s:Src)(c:List Sim)(p:Int)(d:Nat)(hn:n≤100000000)(hs:SO n s)(hv:VC c)(hp:Pr p)(hd:d≤3) :
    qhz n_Z170 [dR s,dC (c,()),dI p,dI (d:Int)] o_Z170 fun(r:List Sim×Int×Sim×List Mat×Src×Unit)=>∃ ms s' bs,r=(c,p,List.replicate c.length (d:Int),ms,s',())∧ms.length=plc c c.length ∧
      bs.length=c.length∧(∀ m∈bs,BOk p d m)∧(∀ k i,k<c.length→i<(qaI c k).length→ms.getD (plc c k+i) mz=chM c p d bs k i)∧SO (n+7300) s':=by
  obtain⟨c0,a,g,⟨⟩⟩:=s
  have hp2:2≤p∧p≤251:=⟨hp.1,hp.2.1⟩
  have h48:=hv.1
  have hsr:=hv.srt
  have h192:=qeh hv
  refine qbs ?_
  simp only[run_Z170,Z170.ev]
  refine qau (qct c p d hd hv.sm hv) ?_
  -- the bases
  refine EvQ.start 1 (L:=fun φ N=>Z170.l0 (mkR (run E (φ 0))) (φ 0) N (c,()) p (d:Int) 0 0 p [] c0 a g (List.replicate (qb2 c c.length).length (qbl p d)) c (List.replicate c.length (d:Int))) ?_ (fun _ _ _=>rfl)
  refine EvQ.loop 1 (σ:=Nat×List Mat×Src) (L:=fun φ N st=>Z170.l0 (mkR (run E (φ 0))) (φ 0) N (c,()) p (d:Int) (st.1:Int) 0 p st.2.1 st.2.2.1 st.2.2.2.1 st.2.2.2.2.1 (List.replicate (qb2 c c.length).length (qbl p d)) c (List.replicate c.length (d:Int))) (fun _ _ _ _=>rfl)
    (fun st=>st.1≤c.length∧st.2.1.length=st.1∧(∀ m∈st.2.1,BOk p d m)∧SO (n+150*st.1) st.2.2) (fun st=>c.length-st.1) (fun st hi ih=>?_) (0,[],(c0,a,g,())) ⟨zaE _,rfl,fun m hm=>by simp at hm,hs⟩
  obtain⟨k,bs,s1⟩:=st
  obtain⟨i1,i2,i3,i4⟩:=hi
  simp only at i1 i2 i3 i4 ih ⊢
  simp only[Z170.l0_succ _ qae]
  refine qck (fun h=>?_) fun h=>?_
  · have hk : k < c.length := by have h : (k : Int) < (c.length : Int) := h
                                 omega
    refine qaU (qjo _ s1 p d (by omega) i4 hp2 (by omega)) fun r ⟨cells,s2,e,h1,h2,h3,h4⟩=>?_
    subst e
    refine qaJ (zac (by simp;omega)) ?_
    rw[qad (by omega)]
    exact ih (k+1,bs++[(p,(d:Int),(d:Int),cells,())],s2) ⟨hk,by simp[i2],fun m hm=>by
      rcases zam.1 hm with hm | hm
      · exact i3 m hm
      · rw[zaI] at hm;exact⟨cells,hm,h1,h2,h3⟩,h4.le (by show n+150*k+150≤n+150*(k+1);omega)⟩ (by show c.length-(k+1)<c.length-k;omega)
  have hkl : k = c.length := by have h : ¬ (k : Int) < (c.length : Int) := h
                                omega
  subst hkl
  clear ih
  have hbs:∀ f,f<c.length→bs[f]? = some (bs.getD f mz)∧BOk p d (bs.getD f mz):=fun f hf=>by
    have:f<bs.length:=by omega
    rw[zaa,zag this]
    exact⟨rfl,i3 _ (zaj this)⟩
  -- the maps
  have hpl:plc c c.length=(qb2 c c.length).length:=rfl
  refine EvQ.start 1 (L:=fun φ N=>Z170.l1 (mkR (run E (φ 0))) (φ 0) N (c,()) 0 0 p bs s1.1 s1.2.1 s1.2.2.1 (List.replicate (qb2 c c.length).length (qbl p d)) c (List.replicate c.length (d:Int))) ?_ (fun _ _ _=>rfl)
  refine EvQ.loop 1 (σ:=Nat×List Mat) (L:=fun φ N st=>Z170.l1 (mkR (run E (φ 0))) (φ 0) N (c,()) (st.1:Int) 0 p bs s1.1 s1.2.1 s1.2.2.1 st.2 c (List.replicate c.length (d:Int))) (fun _ _ _ _=>rfl)
    (fun st=>st.1≤c.length∧st.2.length=plc c c.length∧∀ k i,k<st.1→i<(qaI c k).length→st.2.getD (plc c k+i) mz=chM c p d bs k i) (fun st=>c.length-st.1) (fun st hi ih=>?_) (0,List.replicate (qb2 c c.length).length (qbl p d)) ⟨zaE _,by rw[hpl];simp,fun k i h=>by omega⟩
  obtain⟨k,ms⟩:=st
  obtain⟨j1,j2,j3⟩:=hi
  simp only at j1 j2 j3 ih ⊢
  simp only[Z170.l1_succ _ qae]
  refine qck (fun h=>?_) fun h=>?_
  · have hk : k < c.length := by have h : (k : Int) < (c.length : Int) := h
                                 omega
    have hf4:=hv.fIdx4 hk
    refine qau (qcj c k hk hv.sm) ?_
    refine EvQ.start 2 (L:=fun φ N=>Z170.l2 (mkR (run E (φ 0))) (φ 0) (φ 1) N (c,()) (k:Int) (qaI c k) 0 0 p bs s1.1 s1.2.1 s1.2.2.1 ms c (List.replicate c.length (d:Int))) ?_ (fun _ _ _=>rfl)
    refine EvQ.loop 2 (σ:=Nat×List Mat) (L:=fun φ N st=>Z170.l2 (mkR (run E (φ 0))) (φ 0) (φ 1) N (c,()) (k:Int) (qaI c k) (st.1:Int) 0 p bs s1.1 s1.2.1 s1.2.2.1 st.2 c (List.replicate c.length (d:Int))) (fun _ _ _ _=>rfl)
      (fun st=>st.1≤(qaI c k).length∧st.2.length=plc c c.length∧(∀ k' i,k'<k→i<(qaI c k').length→st.2.getD (plc c k'+i) mz=chM c p d bs k' i)∧∀ i,i<st.1→st.2.getD (plc c k+i) mz=chM c p d bs k i) (fun st=>(qaI c k).length-st.1) (fun st hi ih2=>?_) (0,ms) ⟨zaE _,j2,j3,fun i h=>by omega⟩
    obtain⟨i,o⟩:=st
    obtain⟨l1,l2,l3,l4⟩:=hi
    simp only at l1 l2 l3 l4 ih2 ⊢
    simp only[Z170.l2_succ _ qae]
    refine qck (fun h=>?_) fun h=>?_
    · have hi:i<(qaI c k).length:=by omega
      obtain⟨f,f1,f2,f3⟩:=qff hsr hv hk hi
      have f3':((qaI c k).getD i 0).toNat=f:=by first | exact f3 | (rw[f3];rfl)
      obtain⟨b1,cells,b2,b3,b4,b5⟩:=hbs f f1
      obtain⟨b6,cells2,b7,b8,b9,b10⟩:=hbs k hk
      obtain⟨v1,v2⟩:=BOk.vm hp (by omega) (hbs f f1).2
      obtain⟨v3,_⟩:=BOk.vm hp (by omega) (hbs k hk).2
      have hplt:plc c k+i<plc c c.length:=by
        have:=qnf (c:=c) (show k+1≤c.length from hk)
        rw[qfg] at this;omega
      have hple:=hv.plc (k:=c.length) (zaf _)
      refine qbT (qak hi) ?_
      simp only[f2,zai]
      refine qaJ (by simp only[zah,decide_eq_true_eq];omega) (qbT b1 ?_)
      rw[b2]
      refine qaU (qgX p d cells hp (by omega) b3 b4 b5) fun r hr=>?_
      subst hr
      refine qaJ (by simp only[zah,decide_eq_true_eq];omega) ?_
      refine qau (qdy c k i (by omega) (by omega) hv) ?_
      have e1:List.getD bs k (qpZ cM)=bs.getD k mz:=by
        rw[zaa,zaa,b6];rfl
      have e2:qop p d (bs.getD f mz)=(p,(d:Int),(d:Int),qq8 p d cells,()):=by rw[b2];rfl
      have hT:=qeR (bs.getD k mz) (qop p d (bs.getD f mz)) v3 v2 (by rw[b7];rfl)
      rw[e2] at hT
      rw[e1]
      refine qau hT (qaJ (show(decide ((0:Int)≤((plc c k+i:Nat):Int))&&decide (((plc c k+i:Nat):Int)<(o.length:Int)))=true by rw[l2];simp only[zah,decide_eq_true_eq];omega) ?_)
      rw[qad (by omega),zai]
      have e3:qdM (bs.getD k mz) (p,(d:Int),(d:Int),qq8 p d cells,())=chM c p d bs k i:=by
        unfold chM;rw[f3',e2]
      rw[e3]
      refine ih2 (i+1,o.set (plc c k+i) (chM c p d bs k i)) ⟨hi,by rw[zaN];exact l2,fun k' i' hk' hi'=>?_,fun i' hi'=>?_⟩ (by show(qaI c k).length-(i+1)<(qaI c k).length-i;omega)
      · have:=qnf (c:=c) (show k'+1≤k from hk')
        rw[qfg] at this
        rw[zaa,zaV (by omega),← zaa]
        exact l3 k' i' hk' hi'
      · rw[zaa]
        by_cases e:i'=i
        · subst e
          rw[zaJ (by rw[l2];exact hplt)];rfl
        · rw[zaV (by omega),← zaa]
          exact l4 i' (by have:i'<i+1:=hi';omega)
    · have:i=(qaI c k).length:=by omega
      subst this
      rw[qad (by omega)]
      refine ih (k+1,o) ⟨hk,l2,fun k' i' hk' hi'=>?_⟩ (by show c.length-(k+1)<c.length-k;omega)
      by_cases e:k'=k
      · subst e;exact l4 i' hi'
      · exact l3 k' i' (by have:k'<k+1:=hk';omega) hi'
  · have hkl : k = c.length := by have h : ¬ (k : Int) < (c.length : Int) := h
                                  omega
    subst hkl
    exact qaH ⟨ms,s1,bs,rfl,j2,i2,i3,fun k' i' hk' hi'=>j3 k' i' hk' hi',i4.le (by omega)⟩
end VeT
open Go Go.Proofs Ve
namespace VeT
theorem qkl:∀ {l x:Sim},x.Pairwise (·<·)→l.Pairwise (·<·)→(∀ v∈x,v∈l)→x.Sublist l
 | [],x,_,_,h=>by
  cases x with
  | nil=>exact .slnil
  | cons y x=>exact absurd (h y zaS) (by simp)
 | a::l,[],_,_,_=>List.nil_sublist _
 | a::l,y::x,hx,hl,h=>by
  obtain⟨x1,x2⟩:=zbS.1 hx
  obtain⟨l1,l2⟩:=zbS.1 hl
  by_cases e:y=a
  ·subst e
   refine .cons_cons _ (qkl x2 l2 fun v hv=>?_)
   have:=x1 v hv
   rcases zaM.1 (h v (zbc _ hv)) with h1 | h1
   ·omega
   ·exact h1
  ·have hy:y∈l:=(zaM.1 (h y zaS)).resolve_left e
   have hya:=l1 y hy
   refine .cons _ (qkl hx l2 fun v hv=>?_)
   rcases zaM.1 (h v hv) with h1 | h1
   ·rcases zaM.1 hv with h2 | h2
    ·omega
    ·have:=x1 v h2;omega
   ·exact h1
theorem qg8{c:List Sim}{d:Nat}:∀ {k:Nat},k≤c.length→(qay c (d:Int) k).length=((c.take k).filter fun x=>x.length==d+1).length
 | 0,_=>by simp[qay]
 | k+1,hk=>by
  rw[qcG,zal,qg8 (by omega),zay (by omega),List.filter_append,zal]
  congr 1
  have e:c.getD k []=c[k]:=by rw[zaa,zag (by omega)];rfl
  rw[e]
  by_cases h:(c[k]).length=d+1
  ·rw[if_pos (by omega),List.filter_cons_of_pos (by simp[h])];rfl
  ·rw[if_neg (by omega),List.filter_cons_of_neg (by simp[h])];rfl
theorem qh5{c:List Sim}{st:Sim}{d:Int}(hst:∀ x∈st,0≤x∧x≤3):∀ {n:Nat},SDn c st d n≤3*((qay c d n).length:Int)
 | 0=>by simp[SDn,qay]
 | n+1=>by
  have h:=qh5 hst (c:=c) (d:=d) (n:=n)
  have h2:=qcl hst n
  rw[qfc,qcG,zal]
  split
  ·simp only[zaz];omega
  ·simp only[zbE];omega
theorem qne{c:List Sim}(hv:VC c)(h5:S5 c){d:Nat}(hd:d<4):(qay c (d:Int) c.length).length≤10:=by
 rw[qg8 (zaf _),zcq]
 refine zaP (qid (d:=(qpW [0,1,2,3,4]).filter fun x=>x.length==d+1) (hv.srt.nodup.filter _) fun x hx=>?_) ?_
 ·obtain⟨h1,h2⟩:=zbQ.1 hx
  refine zbQ.2 ⟨qhI (qkl ?_ (by decide) fun v hvx=>?_),h2⟩
  ·obtain⟨k,hk,rfl⟩:=zbC h1
   have:=hv.2.1 k hk
   rw[zaa,zag hk] at this
   exact this.2.2.1.pairwise
  ·obtain⟨k,hk,rfl⟩:=zbC h1
   have:=hv.2.1 k hk
   rw[zaa,zag hk] at this
   have a1:=(this.2.2.2 v hvx).1
   have a2:=(h5 _ h1).2 v hvx
   simp only[zaM,List.not_mem_nil,or_false]
   omega
 ·have:d=0∨d=1∨d=2∨d=3:=by omega
  rcases this with rfl | rfl | rfl | rfl<;>decide
theorem qsR{c:List Sim}(hv:VC c)(h5:S5 c){st:Sim}(hl:st.length=c.length)(hst:∀ x∈st,0≤x∧x≤3):SK c st:=by
 refine⟨hl,hst,fun d hd=>?_⟩
 have h1:=qne hv h5 hd
 have h2:=qh5 hst (c:=c) (d:=(d:Int)) (n:=c.length)
 rw[qoM]
 omega
theorem qrv{c:List Sim}{p:Int}{st:Sim}{ms:List Mat}(hv:VC c)(h5:S5 c)(hp:Pr p)(hl:st.length=c.length)(hst:∀ x∈st,0≤x∧x≤3)(hm:ms.length=plc c c.length)
  (hq:∀ k,k<c.length→∀ i,i<(qaI c k).length→Bt (ms.getD (plc c k+i) mz) p (st.getD ((qaI c k).getD i 0).toNat 0) (st.getD k 0)):VS c p st ms :=
 ⟨hv,hp,qsR hv h5 hl hst,hm.symm,hq⟩
end VeT
open Go Go.Proofs Ve
namespace VeT
theorem qnu{p:Int}{a b:Nat}{cells:Sim}(hp:Pr p)(ha:a≤32)(hb:b≤32)(hl:cells.length=a*b)(he:qaC cells p):VM (p,(a:Int),(b:Int),cells,()) :=
 ⟨hp,⟨by show(0:Int)≤a;omega,by show(a:Int)≤32;omega⟩,⟨by show(0:Int)≤b;omega,by show(b:Int)≤32;omega⟩,by show(cells.length:Int)=a*b;rw[hl];simp,he⟩
theorem qpu{c:List Sim}{p:Int}{st:Sim}(hv:VC c)(hp:Pr p)(hl:st.length=c.length)(hst:∀ x∈st,0≤x∧x≤3){k i:Nat}(hk:k<c.length)(hi:i<(qaI c k).length) :
  Bt (((qb2 c c.length).map (zOf p st)).getD (plc c k+i) mz) p (st.getD ((qaI c k).getD i 0).toNat 0) (st.getD k 0):=by
 have hg:=qcL (n:=c.length) hk hi
 obtain⟨f,f1,f2,f3⟩:=qff hv.srt hv hk hi
 obtain⟨a,ha,ea,hka,eka⟩:=qg3 hl hst hk
 obtain⟨b,hb,eb,hfb,efb⟩:=qg3 hl hst f1
 rw[zaa,zaD,hg]
 show Bt (zOf p st ((k:Int),(i:Int),(qaI c k).getD i 0,())) p _ _
 unfold zOf
 simp only[f3,zai,ea,eb]
 exact⟨qnu hp (by omega) (by omega) (by simp) (qaC.zeros hp.1 _),rfl,rfl,rfl⟩
theorem qnW{c:List Sim}{p:Int}{d:Nat}{bs:List Mat}(hv:VC c)(hp:Pr p)(hd:d≤4)(hbl:bs.length=c.length)(hb:∀ m∈bs,BOk p d m){k i:Nat}(hk:k<c.length)(hi:i<(qaI c k).length) :
  Bt (chM c p d bs k i) p ((List.replicate c.length (d:Int)).getD ((qaI c k).getD i 0).toNat 0) ((List.replicate c.length (d:Int)).getD k 0):=by
 obtain⟨f,f1,f2,f3⟩:=qff hv.srt hv hk hi
 have hbs:∀ f,f<c.length→BOk p d (bs.getD f mz):=fun f hf=>by
  have:f<bs.length:=by omega
  rw[zaa,zag this]
  exact hb _ (zaj this)
 have hr:∀ f,f<c.length→(List.replicate c.length (d:Int)).getD f 0=(d:Int):=fun f hf=>by
  rw[zaa,zaB,if_pos hf];rfl
 rw[f3,zai,hr f f1,hr k hk]
 unfold chM
 rw[f3,zai]
 obtain⟨v1,v2⟩:=BOk.vm hp hd (hbs f f1)
 obtain⟨v3,_⟩:=BOk.vm hp hd (hbs k hk)
 obtain⟨cells,e,_⟩:=hbs k hk
 refine⟨qcz v3 v2,?_,?_,rfl⟩
 ·rw[e];rfl
 ·rw[e];rfl
end VeT
open Go Go.Proofs Ve
namespace VeT
def sk1(c:List Sim):List Sim:=c.filter fun x=>decide (x.length≤2)
theorem qpD(c:List Sim)(hv:VC c):Ret E n_Z168 [dC (c,()),dI 1] ⟨o_Z168,(sk1 c,())⟩:=by
 have hl:=hv.1
 refine qai ?_
 simp only[run_Z168,Z168.ev]
 refine Ev.start (p:=fun φ n=>Z168.l0 (mkR (run E (φ 0))) (φ 0) n (c,()) 1 0 []=_) 1 ?_ (fun _ _ _ h=>h)
 refine qam 1 (L:=fun φ n k o=>Z168.l0 (mkR (run E (φ 0))) (φ 0) n (c,()) 1 k o) (len:=c.length) (fun k=>sk1 (c.take k)) (fun _ _ _ _ _=>rfl) (fun k r hk ih=>?_) ?_
 ·simp only[Z168.l0_succ _ qae]
  have h4:=hv.len4 hk
  rw[qac hk] at h4
  have e4:w64 ((1:Int)+1)=2:=qag (by omega) (by omega)
  have hlen:(sk1 (c.take k)).length≤c.length:=zaP (List.length_filter_le _ _) (by rw[zax];omega)
  have e:sk1 (c.take (k+1))=sk1 (c.take k)++if c[k].length≤2 then [c[k]] else []:=by
   unfold sk1
   rw[zay hk,List.filter_append]
   congr 1
   by_cases h:c[k].length≤2
   ·rw[if_pos h,List.filter_cons_of_pos (by simp[h])];rfl
   ·rw[if_neg h,List.filter_cons_of_neg (by simp[h])];rfl
  rw[e] at ih
  refine qax (zac (by show(k:Int)<(c.length:Int);omega)) (qab (qak hk) ?_)
  by_cases h:c[k].length≤2
  ·rw[if_pos h] at ih
   refine qax (zac (by rw[e4];show(c[k].length:Int)≤2;omega)) (qab (qak hk) (qaa (qc1 _ (by show c[k].length≤_;omega)) (qao (by simp only[zaz,decide_eq_true_eq];omega) ?_)))
   rw[qad (by omega)];exact ih
  ·rw[if_neg h,zbm] at ih
   refine qaB (zae (by rw[e4];show ¬ (c[k].length:Int)≤2;omega)) ?_
   rw[qad (by omega)];exact ih
 ·simp only[Z168.l0_succ _ qae]
  refine qaB (zae (by show ¬ ((c.length:Int)<(c.length:Int));omega)) (qah ?_)
  rw[zav (zaf _)]
end VeT
open Go Go.Proofs Ve
namespace VeT
theorem qpA{f:Nat→Prop}:∀ {n:Nat},cnt f n=n→∀ c,c<n→f c
 | 0,_,c,h=>by omega
 | n+1,h,c,hc=>by
  have hle:cnt f n≤n:=by
   have h1:cnt f n≤cnt (fun _=>True) n:=qgf fun _ _ _=>trivial
   have h2:∀ n,cnt (fun _=>True) n≤n:=by
    intro n
    induction n with
    | zero=>exact zaf _
    | succ n ih=>unfold cnt;split<;>omega
   exact zaP h1 (h2 n)
  unfold cnt at h
  by_cases hf:f n
  ·rw[if_pos hf] at h
   by_cases e:c=n
   ·subst e;exact hf
   ·exact qpA (n:=n) (by omega) c (by omega)
  ·rw[if_neg hf] at h;omega
theorem qrR{R W d:Nat}{F:Ent}{pv:List Nat}(h:Rf R W F pv)(hall:∀ c,c<d→c∈pv):∀ i,i<d→i<pv.length∧pv.getD i 0=i:=by
 intro i
 induction i using Nat.strongRecOn with
 | ind i ih =>
  intro hi
  obtain⟨k,hk,e⟩:=h.mem.1 (hall i hi)
  rcases zbw k i with hlt | rfl | hgt
  ·have:=(ih k hlt (by omega)).2;omega
  ·exact⟨hk,e⟩
  ·refine⟨by omega,?_⟩
   have hm:=h.mono i k hgt hk
   rw[e] at hm
   -- pv i < i, so it is one of the earlier places
   have h2:=(ih (pv.getD i 0) hm (by omega)).2
   have h3:=(ih (pv.getD i 0) hm (by omega)).1
   have h4:=h.mono (pv.getD i 0) i hm (by omega)
   omega
theorem qpC{p:Int}{d:Nat}{m:Mat}(hp:Pr p)(hd:d≤4)(h:BOk p d m):qdM (qop p d m) m=qbl p d:=by
 obtain⟨v1,v2⟩:=h.vm hp hd
 obtain⟨cells,e,hl,he,hr⟩:=h
 have hin:=qoS hp.1 hl he
 have hun:=qdC hp (show d≤32 by omega)
 subst e
 refine qk0 (qcz v2 v1) hun rfl rfl rfl fun i j hi hj=>?_
 have hi':i<d:=by simpa [qdM,qop] using hi
 have hj':j<d:=by simpa [qdM,qop] using hj
 rw[qhj (a:=qop p d (p,(d:Int),(d:Int),cells,())) (b:=(p,(d:Int),(d:Int),cells,())) hi hj,qmD hi' hj']
 generalize hA:qbe (qfZ cells (qar qbu d d) d d d) (d+d)=A at hin
 obtain⟨hrf,heq⟩:=qhs hp hin (d+d) (zaf _)
 have hF:qgN p d cells=(elS p d A (d+d)).1:=by unfold qgN;rw[hA]
 have hAl:∀ i j,i<d→j<d→A i j=qbe cells d i j:=fun i j hi hj=>by
  rw[← hA];unfold qfZ
  rw[qaW hi (by omega)];unfold qkb;rw[if_pos hj]
 have hAr:∀ i j,i<d→j<d→A i (d+j)=if i=j then 1 else 0:=fun i j hi hj=>by
  rw[← hA];unfold qfZ
  rw[qaW hi (by omega)];unfold qkb;rw[if_neg (by omega),zaQ,qaW hi hj];rfl
 -- all of the first places are pivots
 have hrk:rkV p d (Spn p d d (qbe cells d))=d:=by
  rw[← qoN hp (qcn he hl)];exact hr
 have hall:∀ c,c<d→c∈(elS p d A (d+d)).2:=fun c hc=>by
  obtain⟨_,x,⟨co,hco⟩,x1,x2⟩:=qpA hrk c hc
  rw[← qry hp.1 hrf]
  have hag:∀ j,j<d→qaG co (fun l=>A l j) d%p=x j%p:=fun j hj=>by
   rw[← hco j hj,qaw (d:=co) (h:=fun l=>qbe cells d l j) fun l hl=>⟨rfl,hAl l j hl hj⟩]
  refine⟨by omega,fun j=>qaG co (fun l=>A l j) d,heq.spn.1 ⟨co,fun j _=>rfl⟩,fun j hj=>?_,?_⟩
  ·show qaG co (fun l=>A l j) d%p=0
   rw[hag j (by omega)];exact x1 j hj
  ·show qaG co (fun l=>A l c) d%p≠0
   rw[hag c hc];exact x2
 have hpv:=qrR hrf hall
 generalize (elS p d A (d+d)).1=F at hF hrf heq
 generalize (elS p d A (d+d)).2=pv at hrf hall hpv
 obtain⟨co,hco⟩:=heq.1 i hi'
 have hFe:∀ k,k<d→F i (d+k)%p=co k%p:=fun k hk=>by
  rw[← hco (d+k) (by omega),qaM]
  rw[qaw (d:=fun l=>if l=k then 1 else 0) (h:=co) fun l hl=>⟨hAr l k hl hk,rfl⟩,qcI hk]
 have hFj:F i j=if i=j then 1 else 0:=by
  have:=hrf.one i j hi' (hpv j hj').1
  rwa [(hpv j hj').2] at this
 show qaG (mE (qop p d (p,(d:Int),(d:Int),cells,())) i) (fun l=>qbe cells ((d:Int)).toNat l j) ((d:Int)).toNat%p=_
 rw[zai]
 have e1:∀ l,l<d→mE (qop p d (p,(d:Int),(d:Int),cells,())) i l=F i (d+l):=fun l hl=>by
  show qbe (qq8 p d cells) ((d:Int)).toNat i l=_
  rw[zai];unfold qq8
  rw[qaW hi' hl,hF]
 rw[qh4 (g:=co) fun l hl=>by rw[e1 l hl];exact hFe l hl]
 have:=hco j (by omega)
 rw[qaw (d:=co) (h:=fun l=>qbe cells d l j) fun l hl=>⟨rfl,hAl l j hl hj'⟩,hFj] at this
 rw[this]
 have:=hp.1
 split
 ·exact zbD (by omega) (by omega)
 ·exact zcd _
theorem qfe{c:List Sim}{ms:List Mat}(h:∀ k i j,k<c.length→3≤(c.getD k []).length→i<j→j<(c.getD k []).length→two c ms k i (j-1)=two c ms k j i):qcf c ms=none:=by
 cases e:qcf c ms with
 | none=>rfl
 | some t =>
  obtain⟨k,i,j⟩:=t
  obtain⟨h1,h2,h3,h4,_⟩:=qfG e
  unfold qcf at e
  obtain⟨k',hk,e⟩:=zab.1 e
  obtain⟨i',hi,e⟩:=zab.1 e
  obtain⟨j',hj,e⟩:=zan.1 e
  simp only[Prod.mk.injEq] at e
  obtain⟨rfl,rfl,rfl⟩:=e
  exact absurd (h _ _ _ h1 h2 h3 h4) (qaz hj).2.2
theorem qnD{c:List Sim}{ms:List Mat}{m:Mat}(hv:VC c)(h:∀ k i,k<c.length→i<(qaI c k).length→mp c ms k i=m):qcf c ms=none:=qfe fun k i j hk h3 hij hj=>by
 have hl:=qaE (c:=c) (k:=k)
 rw[if_pos (by omega)] at hl
 obtain⟨_,a2,a3⟩:=qa1 hv hk (show i<(qaI c k).length by omega)
 obtain⟨_,b2,b3⟩:=qa1 hv hk (show j<(qaI c k).length by omega)
 have la:=qaE (c:=c) (k:=fc c k i)
 have lb:=qaE (c:=c) (k:=fc c k j)
 rw[a3,zbb (by omega),if_pos (by omega)] at la
 rw[b3,zbb (by omega),if_pos (by omega)] at lb
 unfold two
 rw[h k i hk (by omega),h k j hk (by omega),h _ (j-1) a2 (by omega),h _ i b2 (by omega)]
theorem qnP{c:List Sim}{ms:List Mat}(h:∀ x∈c,x.length≤2):qcf c ms=none:=qfe fun k i j hk h3 _ _=>by
 rw[qac hk] at h3
 have:=h _ (zaj hk)
 omega
theorem qkS{c:List Sim}{p:Int}{d:Nat}{bs ms:List Mat}(hv:VC c)(hp:Pr p)(hd:d≤4)(hbl:bs.length=c.length)(hb:∀ m∈bs,BOk p d m)
  (hm:∀ k i,k<c.length→i<(qaI c k).length→ms.getD (plc c k+i) mz=chM c p d bs k i):qcf c ms=none:=by
 have hbs:∀ f,f<c.length→BOk p d (bs.getD f mz):=fun f hf=>by
  have:f<bs.length:=by omega
  rw[zaa,zag this]
  exact hb _ (zaj this)
 have hmp:∀ k i,k<c.length→i<(qaI c k).length→mp c ms k i=qdM (bs.getD k mz) (qop p d (bs.getD (fc c k i) mz)):=fun k i hk hi=>hm k i hk hi
 have key:∀ k i j,k<c.length→i<(qaI c k).length→j<(qaI c (fc c k i)).length→two c ms k i j=qdM (bs.getD k mz) (qop p d (bs.getD (fc c (fc c k i) j) mz)):=fun k i j hk hi hj=>by
  obtain⟨_,a2,a3⟩:=qa1 hv hk hi
  obtain⟨_,b2,b3⟩:=qa1 hv a2 hj
  unfold two
  rw[hmp k i hk hi,hmp _ j a2 hj]
  have B1:=hbs k hk
  have B2:=hbs _ a2
  have B3:=hbs _ b2
  generalize fc c (fc c k i) j=g at *
  generalize fc c k i=f at *
  obtain⟨v1,w1⟩:=B1.vm hp hd
  obtain⟨v2,w2⟩:=B2.vm hp hd
  obtain⟨v3,w3⟩:=B3.vm hp hd
  obtain⟨_,e1,_⟩:=B1
  have B2':=B2
  obtain⟨_,e2,_⟩:=B2
  obtain⟨_,e3,_⟩:=B3
  have s1:(bs.getD k mz).1=p∧(bs.getD k mz).2.1=(d:Int)∧(bs.getD k mz).2.2.1=(d:Int):=by rw[e1];exact⟨rfl,rfl,rfl⟩
  have s2:(bs.getD f mz).1=p∧(bs.getD f mz).2.1=(d:Int)∧(bs.getD f mz).2.2.1=(d:Int):=by rw[e2];exact⟨rfl,rfl,rfl⟩
  rw[qdW v1 w2 (qcz v2 w3) s1.2.2 s2.2.1.symm s1.1,← qdW w2 v2 w3 s2.2.1.symm s2.2.2 s2.1.symm,qpC hp hd B2',qjW (p:=p) (n:=d) w3 rfl rfl]
 refine qfe fun k i j hk h3 hij hj=>?_
 have hl:=qaE (c:=c) (k:=k)
 rw[if_pos (by omega)] at hl
 obtain⟨_,a2,a3⟩:=qa1 hv hk (show i<(qaI c k).length by omega)
 obtain⟨_,b2,b3⟩:=qa1 hv hk (show j<(qaI c k).length by omega)
 have la:=qaE (c:=c) (k:=fc c k i)
 have lb:=qaE (c:=c) (k:=fc c k j)
 rw[a3,zbb (by omega),if_pos (by omega)] at la
 rw[b3,zbb (by omega),if_pos (by omega)] at lb
 rw[key k i (j-1) hk (by omega) (by omega),key k j i hk (by omega) (by omega)]
 have:fc c (fc c k i) (j-1)=fc c (fc c k j) i:=by
  obtain⟨_,u2,u3⟩:=qa1 hv a2 (show j-1<(qaI c (fc c k i)).length by omega)
  obtain⟨_,w2,w3⟩:=qa1 hv b2 (show i<(qaI c (fc c k j)).length by omega)
  refine qiD hv u2 w2 ?_
  rw[u3,w3,a3,b3]
  exact(qfX hij).symm
 rw[this]
def zm(p:Int)(a b:Nat):Mat:=(p,(a:Int),(b:Int),List.replicate (a*b) 0,())
theorem qjS{g:Nat→Int}:∀ {n:Nat},qaG (fun _=>0) g n=0
 | 0=>rfl
 | n+1=>by show qaG (fun _=>0) g n+0*g n=0;rw[qjS];simp
theorem qrQ{p:Int}{a b d:Nat}{m:Mat}(hm:m.2.2.1=(d:Int)):qdM (zm p a b) m=zm p a d:=by
 refine qev.2 ⟨rfl,rfl,hm,?_⟩
 show qar (qj2 p (List.replicate (a*b) 0) m.2.2.2.1 ((b:Int)).toNat m.2.2.1.toNat) m.2.2.1.toNat ((a:Int)).toNat=List.replicate (a*d) 0
 rw[hm,zai,zai,zai]
 refine Eq.trans (qaL fun i j hi hj=>(?_:_=(0:Int))) qgI
 unfold qj2
 rw[qaw (d:=fun _=>0) (h:=fun l=>m.2.2.2.1.getD (l*d+j) 0) fun l hl=>⟨by rw[zaa,zaB];split<;>rfl,rfl⟩,qjS,zcd]
theorem qq1{c:List Sim}{p:Int}{st:Sim}(hv:VC c)(hl:st.length=c.length)(hst:∀ x∈st,0≤x∧x≤3){k i:Nat}(hk:k<c.length)(hi:i<(qaI c k).length) :
  mp c ((qb2 c c.length).map (zOf p st)) k i=zm p (st.getD k 0).toNat (st.getD (fc c k i) 0).toNat:=by
 have hg:=qcL (n:=c.length) hk hi
 obtain⟨f,f1,f2,f3⟩:=qff hv.srt hv hk hi
 obtain⟨a,ha,ea,hka,eka⟩:=qg3 hl hst hk
 obtain⟨b,hb,eb,hfb,efb⟩:=qg3 hl hst f1
 unfold mp fc
 rw[zaa,zaD,hg]
 show zOf p st ((k:Int),(i:Int),(qaI c k).getD i 0,())=_
 unfold zOf zm
 simp only[f3,zai,ea,eb]
theorem qpQ{c:List Sim}{p:Int}{st:Sim}(hv:VC c)(hl:st.length=c.length)(hst:∀ x∈st,0≤x∧x≤3):qcf c ((qb2 c c.length).map (zOf p st))=none:=by
 have key:∀ k i j,k<c.length→i<(qaI c k).length→j<(qaI c (fc c k i)).length→two c ((qb2 c c.length).map (zOf p st)) k i j=zm p (st.getD k 0).toNat (st.getD (fc c (fc c k i) j) 0).toNat:=fun k i j hk hi hj=>by
  obtain⟨_,a2,a3⟩:=qa1 hv hk hi
  unfold two
  rw[qq1 hv hl hst hk hi,qq1 hv hl hst a2 hj]
  exact qrQ rfl
 refine qfe fun k i j hk h3 hij hj=>?_
 have hl:=qaE (c:=c) (k:=k)
 rw[if_pos (by omega)] at hl
 obtain⟨_,a2,a3⟩:=qa1 hv hk (show i<(qaI c k).length by omega)
 obtain⟨_,b2,b3⟩:=qa1 hv hk (show j<(qaI c k).length by omega)
 have la:=qaE (c:=c) (k:=fc c k i)
 have lb:=qaE (c:=c) (k:=fc c k j)
 rw[a3,zbb (by omega),if_pos (by omega)] at la
 rw[b3,zbb (by omega),if_pos (by omega)] at lb
 rw[key k i (j-1) hk (by omega) (by omega),key k j i hk (by omega) (by omega)]
 have:fc c (fc c k i) (j-1)=fc c (fc c k j) i:=by
  obtain⟨_,u2,u3⟩:=qa1 hv a2 (show j-1<(qaI c (fc c k i)).length by omega)
  obtain⟨_,w2,w3⟩:=qa1 hv b2 (show i<(qaI c (fc c k j)).length by omega)
  refine qiD hv u2 w2 ?_
  rw[u3,w3,a3,b3]
  exact(qfX hij).symm
 rw[this]
theorem qiO{c:List Sim}{x:Sim}:x∈sk1 c↔x∈c∧x.length≤2:=by
 unfold sk1
 rw[zbQ]
 simp
theorem qr9{c:List Sim}(hv:VC c):VC (sk1 c):=by
 have hsub:(sk1 c).Sublist c:=List.filter_sublist
 have hg:∀ k,k<(sk1 c).length→(sk1 c).getD k []∈sk1 c:=fun k hk=>by rw[qac hk];exact zaj hk
 have hvx:∀ x∈c,Vx x:=fun x hx=>by
  obtain⟨k,hk,rfl⟩:=zbC hx
  have:=hv.2.1 k hk
  rwa [qac hk] at this
 have hpw:c.Pairwise fun a b=>qd7 a b<0:=zbp.2 fun i j hi hj hij=>hv.srt i j hj hij
 have hpw2:=hpw.sublist hsub
 refine⟨zaP hsub.length_le hv.1,fun k hk=>hvx _ (qiO.1 (hg k hk)).1,fun k h1 (hk:k<(sk1 c).length)=>?_,fun k (hk:k<(sk1 c).length) f hf=>?_⟩
 ·rw[qac (show k-1<(sk1 c).length by omega),qac hk]
  exact zbp.1 hpw2 (k-1) k (by omega) hk (by omega)
 ·obtain⟨h1,h2⟩:=qiO.1 (hg k hk)
  obtain⟨q,hq,e⟩:=zbC h1
  refine qiO.2 ⟨hv.2.2.2 q hq f (by rw[qac hq,e];exact hf),?_⟩
  obtain⟨h3,i,hi,rfl⟩:=qcN.1 hf
  rw[zbb hi];omega
theorem qsc{c:List Sim}(h:S5 c):S5 (sk1 c):=fun x hx=>h x (qiO.1 hx).1
end VeT
open Go Go.Proofs Ve
namespace VeT
theorem qsM{p:Int}(h:2≤p∧p≤251∧∀ k∈List.range 16,2≤k→(k:Int)*k≤p→p%k≠0):Pr p:=⟨h.1,h.2.1,fun k h1 h2=>by
 by_cases hk:k<16
 ·exact h.2.2 k (zaG.2 hk) h1 h2
 ·have:16*16≤k*k:=zbd (by omega) (by omega)
  have e:(k:Int)*k=((k*k:Nat):Int):=(qa3 ..).symm
  rw[e] at h2
  have:=h.2.1
  omega⟩
theorem pr5{p:Int}(h:p∈([2,3,5,7,251]:List Int)):Pr p:=by
 simp only[zaM,List.not_mem_nil,or_false] at h
 rcases h with rfl | rfl | rfl | rfl | rfl<;>exact qsM (by decide)
theorem VS.at{c:List Sim}{p:Int}{st:Sim}{ms:List Mat}(h:VS c p st ms){t:Nat}(ht:t<ms.length):∃ a b:Nat,a≤3∧b≤3∧VM (ms.getD t mz)∧(ms.getD t mz).1=p∧(ms.getD t mz).2.1=(a:Int)∧(ms.getD t mz).2.2.1=(b:Int):=by
 have hl:=h.2.2.2.1
 have ht':t<(qb2 c c.length).length:=by unfold plc at hl;omega
 obtain⟨k,i,h1,h2,h3⟩:=qhZ ht'
 have hb:=(h.map h1 h2).2
 unfold mp at hb
 rw[← h3] at hb
 obtain⟨a1,a2⟩:=qcl h.2.2.1.2.1 k
 obtain⟨b1,b2⟩:=qcl h.2.2.1.2.1 (fc c k i)
 exact⟨(st.getD k 0).toNat,(st.getD (fc c k i) 0).toNat,by omega,by omega,hb.1,hb.2.1,by rw[hb.2.2.1];omega,by rw[hb.2.2.2];omega⟩
theorem qb7{l:Sim}(h:l.length≤1048576):Sm (.sl (.int .i64)) l:=⟨h,fun _ _=>trivial⟩
theorem qov{ms:List Mat}(h:ms.length≤1048576)(h2:∀ m∈ms,m.2.2.2.1.length≤1048576):Sm (.sl (.st cM)) ms:=⟨h,fun m hm=>⟨trivial,trivial,trivial,qb7 (h2 m hm),trivial⟩⟩
theorem VS.plc_le{c:List Sim}{p:Int}{st:Sim}{ms:List Mat}(h:VS c p st ms):ms.length≤192:=by
 rw[← h.2.2.2.1];exact qeh h.1
theorem VS.cells{c:List Sim}{p:Int}{st:Sim}{ms:List Mat}(h:VS c p st ms):∀ m∈ms,m.2.2.2.1.length≤9:=fun m hm=>by
 obtain⟨t,ht,rfl⟩:=zbC hm
 obtain⟨a,b,ha,hb,hv,_,e1,e2⟩:=h.at ht
 rw[qac ht] at hv e1 e2
 have:=hv.num
 rw[e1,e2,zai,zai] at this
 have:=zbd ha hb
 omega
theorem VS.sm{c:List Sim}{p:Int}{st:Sim}{ms:List Mat}(h:VS c p st ms):Sm (.st cS) (c,p,st,ms,()):=by
 have h48:=h.1.1
 have hl:=h.2.2.1.1
 have h192:=h.plc_le
 exact⟨h.1.sm,trivial,qb7 (by show st.length≤_;omega),qov (by show ms.length≤_;omega) fun m hm=>by have:=h.cells m hm;omega,trivial⟩
abbrev Drw:=List Sim×Int×Sim×List Mat×Src×Unit
def qsj(n:Nat)(r:Drw):Prop:=ISh (r.1,r.2.1,r.2.2.1,r.2.2.2.1,())∧S5 r.1∧SO n r.2.2.2.2.1
theorem qrN{p:Int}{d:Nat}(hp:Pr p)(hd:d≤3):Bt (qbl p d) p (d:Int) (d:Int):=⟨qdC hp (by omega),rfl,rfl,rfl⟩
theorem qhP{α:Type}{n i:Nat}{a d:α}(h:i<n):(List.replicate n a).getD i d=a:=by
 rw[zaa,zaB,if_pos h];rfl
theorem qqi{c:List Sim}{p:Int}{d:Nat}(hv:VC c)(h5:∀ k:Nat,k<4→SD c (List.replicate c.length (d:Int)) k≤32)(hp:Pr p)(hd:d≤3):ISh (c,p,List.replicate c.length (d:Int),List.replicate (qb2 c c.length).length (qbl p d),()):=by
 have hpl:∀ k i,k<c.length→i<(qaI c k).length→plc c k+i<(qb2 c c.length).length:=fun k i hk hi=>by
  have:=qcL (n:=c.length) hk hi
  rcases zbt (plc c k+i) (qb2 c c.length).length with h | h
  ·exact h
  ·rw[zaw h] at this;cases this
 refine⟨⟨hv,hp,⟨by simp,fun x hx=>by rw[(zbe.1 hx).2];omega,fun k hk=>h5 k hk⟩,?_,fun k hk i hi=>?_⟩,?_⟩
 ·show(qb2 c c.length).length=(List.replicate _ _).length
  simp
 ·obtain⟨f,f1,f2,f3⟩:=qff hv.srt hv hk hi
  show Bt ((List.replicate _ _).getD (plc c k+i) mz) p ((List.replicate _ _).getD ((qaI c k).getD i 0).toNat 0) ((List.replicate _ _).getD k 0)
  rw[f3,zai,qhP (hpl k i hk hi),qhP f1,qhP hk]
  exact qrN hp hd
 ·exact qnD (m:=qbl p d) hv fun k i hk hi=>qhP (hpl k i hk hi)
theorem qsV{c:List Sim}(hv:VC c)(h5:S5 c){st:Sim}(hst:∀ x∈st,0≤x∧x≤3):∀ k:Nat,k<4→SD c st k≤32:=fun k hk=>by
 have h1:=qne hv h5 hk
 have h2:=qh5 hst (c:=c) (d:=(k:Int)) (n:=c.length)
 rw[qoM];omega
theorem qod(n:Nat)(s:Src)(hn:n≤10000000)(hs:SO n s):qhz n_Z174 [dR s] o_Z174 fun(r:Drw)=>qsj (n+20000) r:=by
  obtain⟨c0,a,g,⟨⟩⟩:=s
  refine qbs ?_
  simp only[run_Z174,Z174.ev]
  refine qaU (qlw n _ (by omega) hs) fun(r:List Sim×Src×Unit) ⟨b1,b2,b3⟩=>?_
  obtain⟨c,s1,⟨⟩⟩:=r
  simp only at b1 b2 b3
  dsimp only
  have h48:=b1.1
  have h192:=qeh b1
  refine qaU (qcS (n+50) _ _ (by simp) (by omega) b3) fun(r:Int×Src×Unit) ⟨p1,p2⟩=>?_
  obtain⟨p,s2,⟨⟩⟩:=r
  simp only at p1 p2
  have hp:=pr5 p1
  refine qaU (qa5 (n+52) _ 5 (by omega) p2) fun(r:Int×Src×Unit) ⟨q1,q2,q3,q4⟩=>?_
  obtain⟨w,s3,⟨⟩⟩:=r
  simp only at q1 q2 q3 q4
  dsimp only
  -- the constant sheaf
  refine qcH (fun _=>?_) fun _=>?_
  · refine qaU (qa5 (n+54) _ 2 (by omega) q4) fun(r:Int×Src×Unit) ⟨r1,r2,r3,r4⟩=>?_
    obtain⟨d0,s4,⟨⟩⟩:=r
    simp only at r1 r2 r3 r4
    have ed:w64 (1+d0)=((d0.toNat+1:Nat):Int):=by rw[qag (by omega) (by omega)];omega
    rw[ed]
    refine qau (qct c p (d0.toNat+1) (by omega) b1.sm b1) (qaH ⟨?_,b2,r4.le (by omega)⟩)
    exact qqi b1 (qsV b1 b2 fun x hx=>by rw[(zbe.1 hx).2];omega) hp (by omega)
  -- in other bases
  refine qcH (fun _=>?_) fun _=>?_
  · refine qaU (qa5 (n+54) _ 2 (by omega) q4) fun(r:Int×Src×Unit) ⟨r1,r2,r3,r4⟩=>?_
    obtain⟨d0,s4,⟨⟩⟩:=r
    simp only at r1 r2 r3 r4
    have ed:w64 (1+d0)=((d0.toNat+1:Nat):Int):=by rw[qag (by omega) (by omega)];omega
    rw[ed]
    refine qaU (qmI (n+56) s4 c p (d0.toNat+1) (by omega) (by exact r4) b1 hp (by omega)) fun r ⟨ms,s5,bs,e,m1,m2,m3,m4,m5⟩=>?_
    subst e
    refine qaH ⟨⟨qrv b1 b2 hp (by simp) (fun x hx=>by rw[(zbe.1 hx).2];omega) m1 fun k hk i hi=>?_,?_⟩,b2,m5.le (by omega)⟩
    · show Bt (ms.getD (plc c k+i) mz) p ((List.replicate _ _).getD ((qaI c k).getD i 0).toNat 0) ((List.replicate _ _).getD k 0)
      rw[m4 k i hk hi]
      exact qnW b1 hp (by omega) m2 m3 hk hi
    · exact qkS b1 hp (d:=d0.toNat+1) (by omega) m2 m3 fun k i hk hi=>m4 k i hk hi
  -- at one place
  refine qcH (fun _=>?_) fun _=>?_
  · have hj:∀(st:Sim) (s5:Src) (m:Nat),st.length=c.length→(∀ x∈st,0≤x∧x≤3)→m≤n+20000→SO m s5→EvQ (fun φ=>Z174.j0 (mkR (run E (φ 0))) (φ 0) p 0 c st s5.1 s5.2.1 s5.2.2.1) o_Z174 fun(r:Drw)=>qsj (n+20000) r:=fun st s5 m hl hst hm h5=>by
      simp only[Z174.j0_eq _ qae]
      refine qau (qgZ c p st b1.sm b1 hl hst) (qaH ⟨⟨qrv b1 b2 hp hl hst (by show((qb2 c c.length).map _).length=_;rw[zaR];rfl) fun k hk i hi=>qpu b1 hp hl hst hk hi,qpQ b1 hl hst⟩,b2,h5.le hm⟩)
    rw[zai]
    refine qaJ (by simp only[zah,decide_eq_true_eq];omega) ?_
    have hrl:(List.replicate c.length (0:Int)).length=c.length:=zas
    refine qck (fun h=>?_) fun h=>hj _ s3 (n+54) (by simp) (fun x hx=>by rw[(zbe.1 hx).2];omega) (by omega) q4
    refine qaU (qa5 (n+54) s3 _ (by omega) q4) fun(r:Int×Src×Unit) ⟨r1,r2,r3,r4⟩=>?_
    obtain⟨k0,s4,⟨⟩⟩:=r
    simp only at r1 r2 r3 r4
    refine qaU (qa5 (n+56) s4 3 (by omega) r4) fun(r:Int×Src×Unit) ⟨t1,t2,t3,t4⟩=>?_
    obtain⟨d0,s5,⟨⟩⟩:=r
    simp only at t1 t2 t3 t4
    rw[hrl] at r2 h
    have hk:k0<(c.length:Int):=by omega
    refine qaJ (show(decide ((0:Int)≤k0)&&decide (k0<((List.replicate c.length (0:Int)).length:Int)))=true by rw[hrl];simp only[zah,decide_eq_true_eq];omega) ?_
    refine hj _ s5 (n+58) (by simp) (fun x hx=>?_) (by omega) t4
    rcases zbR hx with hx | rfl
    · rw[(zbe.1 hx).2];omega
    · rw[qag (by omega) (by omega)];omega
  -- of dimension 1
  refine qau (qpD c b1) ?_
  have v1:=qr9 b1
  have f1:=qsc b2
  have k48:=v1.1
  have k192:=qeh v1
  have hfl:∀ x∈sk1 c,x.length≤2:=fun x hx=>(qiO.1 hx).2
  generalize sk1 c=c1 at v1 f1 k48 k192 hfl ⊢
  refine EvQ.start 1 (L:=fun φ N=>Z174.l1 (mkR (run E (φ 0))) (φ 0) N p 0 0 c1 [] s3.1 s3.2.1 s3.2.2.1) ?_ (fun _ _ _=>rfl)
  refine EvQ.loop 1 (σ:=Nat×Sim×Src) (L:=fun φ N st=>Z174.l1 (mkR (run E (φ 0))) (φ 0) N p (st.1:Int) 0 c1 st.2.1 st.2.2.1 st.2.2.2.1 st.2.2.2.2.1) (fun _ _ _ _=>rfl)
    (fun st=>st.1≤c1.length∧st.2.1.length=st.1∧(∀ x∈st.2.1,0≤x∧x≤3)∧SO (n+60+2*st.1) st.2.2) (fun st=>c1.length-st.1) (fun st hi ih=>?_) (0,[],s3) ⟨zaE _,rfl,fun x hx=>by simp at hx,q4.le (by show n+52+2≤n+60+2*0;omega)⟩
  obtain⟨k,st,s4⟩:=st
  obtain⟨i1,i2,i3,i4⟩:=hi
  simp only at i1 i2 i3 i4 ih ⊢
  simp only[Z174.l1_succ _ qae]
  refine qck (fun h=>?_) fun h=>?_
  · refine qaU (qa5 _ s4 4 (by omega) i4) fun(r:Int×Src×Unit) ⟨r1,r2,r3,r4⟩=>?_
    obtain⟨y,s5,⟨⟩⟩:=r
    simp only at r1 r2 r3 r4
    refine qaJ (zac (by simp;omega)) ?_
    rw[qad (by omega)]
    refine ih (k+1,st++[y],s5) ⟨by show k+1≤c1.length;omega,by simp[i2],fun x hx=>?_,r4.le (by show n+60+2*k+2≤n+60+2*(k+1);omega)⟩ (by show c1.length-(k+1)<c1.length-k;omega)
    rcases zam.1 hx with hx | hx
    · exact i3 x hx
    · rw[zaI] at hx;subst hx;omega
  have hk:k=c1.length:=by omega
  subst hk
  clear ih
  refine qau (qgZ c1 p st v1.sm v1 i2 i3) ?_
  have hol:((qb2 c1 c1.length).map (zOf p st)).length=(qb2 c1 c1.length).length:=by rw[zaR]
  have horig:∀ t,t<(qb2 c1 c1.length).length→∃ a b:Nat,a≤3∧b≤3∧VM (((qb2 c1 c1.length).map (zOf p st)).getD t mz)∧(((qb2 c1 c1.length).map (zOf p st)).getD t mz).2.1=(a:Int)∧(((qb2 c1 c1.length).map (zOf p st)).getD t mz).2.2.1=(b:Int):=fun t ht=>by
    obtain⟨k,i,h1,h2,h3⟩:=qhZ ht
    have hb:=qpu v1 hp i2 i3 h1 h2
    rw[← h3] at hb
    obtain⟨a1,a2⟩:=qcl i3 k
    obtain⟨b1,b2⟩:=qcl i3 ((qaI c1 k).getD i 0).toNat
    exact⟨(st.getD k 0).toNat,(st.getD ((qaI c1 k).getD i 0).toNat 0).toNat,by omega,by omega,hb.1,by rw[hb.2.2.1];omega,by rw[hb.2.2.2];omega⟩
  have hbt:=fun k (hk:k<c1.length) i (hi:i<(qaI c1 k).length)=>qpu v1 hp i2 i3 hk hi
  generalize (qb2 c1 c1.length).map (zOf p st)=og at hol horig hbt ⊢
  refine EvQ.start 1 (L:=fun φ N=>Z174.l2 (mkR (run E (φ 0))) (φ 0) N p 0 0 p s4.1 s4.2.1 s4.2.2.1 og c1 st) ?_ (fun _ _ _=>rfl)
  refine EvQ.loop 1 (σ:=Nat×List Mat×Src) (L:=fun φ N x=>Z174.l2 (mkR (run E (φ 0))) (φ 0) N p (x.1:Int) 0 p x.2.2.1 x.2.2.2.1 x.2.2.2.2.1 x.2.1 c1 st) (fun _ _ _ _=>rfl)
    (fun x=>x.1≤og.length∧x.2.1.length=og.length∧(∀ t,t<og.length→VM (x.2.1.getD t mz)∧((x.2.1.getD t mz).1=(og.getD t mz).1∨(x.2.1.getD t mz).1=p)∧(x.2.1.getD t mz).2.1=(og.getD t mz).2.1∧(x.2.1.getD t mz).2.2.1=(og.getD t mz).2.2.1)∧SO (n+200+70*x.1) x.2.2) (fun x=>og.length-x.1) (fun x hi ih=>?_) (0,og,s4)
    ⟨zaE _,rfl,fun t ht=>⟨by obtain⟨_,_,_,_,hv,_⟩:=horig t (by omega);exact hv,.inl rfl,rfl,rfl⟩,i4.le (by show n+60+2*c1.length≤n+200+70*0;omega)⟩
  obtain⟨k,ms,s5⟩:=x
  obtain⟨j1,j2,j3,j4⟩:=hi
  simp only at j1 j2 j3 j4 ih ⊢
  simp only[Z174.l2_succ _ qae]
  refine qck (fun h=>?_) fun h=>?_
  · have hk:k<og.length:=by omega
    have hkm:k<ms.length:=by omega
    obtain⟨ra,rb,ha,hb,hv,ea,eb⟩:=horig k (by omega)
    obtain⟨u1,u2,u3,u4⟩:=j3 k hk
    have eg:ms[k]=ms.getD k mz:=(qac hkm).symm
    rw[zai]
    have hc:(decide ((0:Int)≤(k:Int))&&decide ((k:Int)<(ms.length:Int)))=true:=by simp only[zah,decide_eq_true_eq];omega
    refine qaJ hc (qbT (zag hkm) (qaJ hc (qbT (zag hkm) ?_)))
    rw[eg,u3,u4,ea,eb]
    refine qaU (qkk _ s5 p ra rb (by omega) j4 ⟨hp.1,hp.2.1⟩ (by omega) (by omega)) fun r ⟨cells,s6,e,c1',c2,c3⟩=>?_
    subst e
    refine qaJ hc ?_
    rw[qad (by omega)]
    refine ih (k+1,ms.set k (p,(ra:Int),(rb:Int),cells,()),s6) ⟨hk,by rw[zaN];exact j2,fun t ht=>?_,c3.le (by show n+200+70*k+70≤n+200+70*(k+1);omega)⟩ (by show og.length-(k+1)<og.length-k;omega)
    show VM ((ms.set k (p,(ra:Int),(rb:Int),cells,())).getD t mz)∧_
    by_cases e:t=k
    · subst e
      rw[zaa,zaJ hkm]
      exact⟨qnu hp (by omega) (by omega) c1' c2,.inr rfl,by rw[ea];rfl,by rw[eb];rfl⟩
    · rw[zaa,zaV (fun h=>e h.symm),← zaa]
      exact j3 t ht
  · refine qaH ⟨⟨qrv v1 f1 hp i2 i3 (by show ms.length=(qb2 c1 c1.length).length;omega) fun k hk i hi=>?_,qnP hfl⟩,f1,j4.le (by show n+200+70*k≤n+20000;omega)⟩
    have hb:=hbt k hk i hi
    have hlt:plc c1 k+i<og.length:=by
      rw[hol]
      have:=qcL (n:=c1.length) hk hi
      rcases zbt (plc c1 k+i) (qb2 c1 c1.length).length with h | h
      · exact h
      · rw[zaw h] at this;cases this
    obtain⟨u1,u2,u3,u4⟩:=j3 _ hlt
    exact⟨u1,by rcases u2 with u2 | u2<;>rw[u2];exact hb.2.1,by rw[u3];exact hb.2.2.1,by rw[u4];exact hb.2.2.2⟩
end VeT
open Go Go.Proofs Ve
namespace VeT
theorem qqN{f:Nat}{args:List Dv}(h:qhz f args (.cons .bool .nil) fun(r:Bool×Unit)=>r.1=true):Ret E f args ⟨.cons .bool .nil,(true,())⟩:=by
 obtain⟨⟨b,⟨⟩⟩,h1,h2⟩:=h
 have h2:b=true:=h2
 subst h2
 exact h1
theorem qsn{c:List Int}(h:Wf (.sl (.int .u8)) c):SO 0 (c,0,0,()):=⟨fun b hb=>by
 have:=h.2 b hb
 simp only[Wf,Lit.wf,IntKind.min,IntKind.max,IntKind.signed,IntKind.bits,zah,decide_eq_true_eq] at this
 simp at this
 omega,by show(0:Int)≤0;omega,by show(0:Int)≤((0:Nat):Int);omega⟩
def Bnt(n:Nat)(r:Drw):Prop:=Sm (.st cS) (r.1,r.2.1,r.2.2.1,r.2.2.2.1,())∧r.1.length≤48∧SO n r.2.2.2.2.1
theorem qm4(n:Nat)(s:Src)(hn:n≤1000000)(hs:SO n s):qhz n_Z169 [dR s] o_Z169 fun(r:Drw)=>Bnt (n+30000) r:=by
  obtain⟨c0,a,g,⟨⟩⟩:=s
  refine qbs ?_
  simp only[run_Z169,Z169.ev]
  refine qaU (qod n _ (by omega) hs) fun(r:Drw) ⟨⟨vs,_⟩,_,so⟩=>?_
  obtain⟨c,p,st,ms,s1,⟨⟩⟩:=r
  simp only at vs so
  dsimp only
  have h48:=vs.1.1
  have hsl:st.length=c.length:=vs.2.2.1.1
  have h192:=vs.plc_le
  have hce:=vs.cells
  have hp:=vs.2.1
  have fin:∀(c:List Sim) (p:Int) (st:Sim) (ms:List Mat) (s5:Src) (m:Nat),c.length≤48→Sm (.sl (.sl (.int .i64))) c→st.length≤100→ms.length≤192→(∀ m∈ms,m.2.2.2.1.length≤100)→m≤n+30000→SO m s5 →
      EvQ (fun φ=>Z169.j0 (mkR (run E (φ 0))) (φ 0) 0 c p st ms s5.1 s5.2.1 s5.2.2.1) o_Z169 fun(r:Drw)=>Bnt (n+30000) r:=fun c p st ms s5 m h1 h2 h3 h4 h5 h6 h7=>by
    simp only[Z169.j0_eq _ qae]
    exact qaH ⟨⟨h2,trivial,qb7 (by show st.length≤_;omega),qov (by show ms.length≤_;omega) fun m hm=>by have:=h5 m hm;omega,trivial⟩,h1,h7.le h6⟩
  have smc:=vs.1.sm
  have hce':∀ m∈ms,m.2.2.2.1.length≤100:=fun m hm=>by have:=hce m hm;omega
  refine qaU (qa5 (n+20000) s1 16 (by omega) so) fun(r:Int×Src×Unit) ⟨q1,q2,q3,q4⟩=>?_
  obtain⟨w,s2,⟨⟩⟩:=r
  simp only at q1 q2 q3 q4
  dsimp only
  refine qcH (fun _=>?_) fun _=>?_
  · exact qaU (qcS (n+20002) s2 _ (by simp) (by omega) q4) fun(r:Int×Src×Unit) ⟨p1,p2⟩=>fin c r.1 st ms r.2.1 (n+20004) h48 smc (by omega) h192 hce' (by omega) p2
  refine qcH (fun _=>?_) fun _=>?_
  · exact qaJ (zac (by simp;omega)) (fin c p (st++[0]) ms s2 (n+20002) h48 smc (by simp;omega) h192 hce' (by omega) q4)
  refine qcH (fun _=>?_) fun _=>?_
  · refine qck (fun h=>?_) fun _=>fin c p st ms s2 (n+20002) h48 smc (by omega) h192 hce' (by omega) q4
    exact qaU (qcS (n+20002) s2 _ (by simp) (by omega) q4) fun(r:Int×Src×Unit) ⟨p1,p2⟩=>qaJ (by simp only[zah,decide_eq_true_eq];omega) (fin c p _ ms r.2.1 (n+20004) h48 smc (by rw[zaN];omega) h192 hce' (by omega) p2)
  refine qcH (fun _=>?_) fun _=>?_
  · refine qck (fun h=>?_) fun _=>fin c p st ms s2 (n+20002) h48 smc (by omega) h192 hce' (by omega) q4
    exact qaJ (by simp only[zah,decide_eq_true_eq];omega) (fin c p st _ s2 (n+20002) h48 smc (by omega) (by rw[zbn,zax];omega) (fun m hm=>hce' m (zbx (zbJ hm))) (by omega) q4)
  have vx2:∀ a b:Int,0≤a→a<b→b≤9→Vx [a,b]:=fun a b h1 h2 h3=>⟨by simp,by simp,qcZ (by simp;exact h2),fun x hx=>by simp at hx;rcases hx with rfl | rfl<;>omega⟩
  have vx3:∀ a b c:Int,0≤a→a<b→b<c→c≤9→Vx [a,b,c]:=fun a b c h1 h2 h3 h4=>⟨by simp,by simp,qcZ (by simp;omega),fun x hx=>by simp at hx;rcases hx with rfl | rfl | rfl<;>omega⟩
  have fixed:∀(l:List Sim),l.length≤1024→(∀ s∈l,Vx s)→(l.map fun s=>2 ^ s.length).sum≤48→qhz n_Z159 [dLL l] o_Z159 fun(r:List Sim×Unit)=>VC r.1:=fun l h1 h2 h3=>by
    obtain⟨r,g1,g2,g3⟩:=qjE l h1 h2 fun c hs hm=>zaP (qiw hs hm) h3
    exact⟨r,g1,g2⟩
  have j2:∀ b:Bool,EvQ (fun φ=>Z169.j2 (mkR (run E (φ 0))) (φ 0) w b 0 p s2.1 s2.2.1 s2.2.2.1 c st ms) o_Z169 fun(r:Drw)=>Bnt (n+30000) r:=fun b=>by
    simp only[Z169.j2_eq _ qae]
    refine qcH (fun _=>?_) fun _=>?_
    · refine qck (fun h=>?_) fun _=>fin c p st ms s2 (n+20002) h48 smc (by omega) h192 hce' (by omega) q4
      refine qaU (qa5 (n+20002) s2 _ (by omega) q4) fun(r:Int×Src×Unit) ⟨r1,r2,r3,r4⟩=>?_
      obtain⟨k0,s3,⟨⟩⟩:=r
      simp only at r1 r2 r3 r4
      obtain⟨k,rfl⟩:=zaL r1
      have hk:k<ms.length:=by omega
      have hc:(decide ((0:Int)≤(k:Int))&&decide ((k:Int)<(ms.length:Int)))=true:=by simp only[zah,decide_eq_true_eq];omega
      obtain⟨ra,rb,ha,hb,hv,_,ea,eb⟩:=vs.at hk
      rw[qac hk] at ea eb
      dsimp only
      rw[zai]
      refine qaJ hc (qbT (zag hk) (qaJ hc (qbT (zag hk) ?_)))
      rw[ea,eb]
      refine qaU (qkk (n+20004) s3 p ra rb (by omega) r4 ⟨hp.1,hp.2.1⟩ (by omega) (by omega)) fun r ⟨cells,s6,e,c1',c2,c3⟩=>?_
      subst e
      refine qaJ hc (fin c p st _ s6 _ h48 smc (by omega) (by rw[zaN];omega) (fun m hm=>?_) (by omega) c3)
      rcases zbR hm with hm | rfl
      · exact hce' m hm
      · show cells.length≤100
        have:=zbd ha hb
        omega
    · refine qcH (fun _=>?_) fun _=>fin c p st ms s2 (n+20002) h48 smc (by omega) h192 hce' (by omega) q4
      refine qaU (fixed _ (by decide) (fun s hs=>?_) (by decide)) fun(r:List Sim×Unit) v1=>?_
      · simp at hs;rcases hs with rfl | rfl | rfl | rfl<;>exact vx3 _ _ _ (by decide) (by decide) (by decide) (by decide)
      obtain⟨c1,⟨⟩⟩:=r
      have v1:VC c1:=v1
      have konst:∀(c1:List Sim) (s3:Src),VC c1→SO (n+20004) s3→EvQ (fun φ=>Z169.j0 (mkR (run E (φ 0))) (φ 0) 0 c1 3 (List.replicate c1.length ((3:Nat):Int)) (List.replicate (qb2 c1 c1.length).length (qbl 3 3)) s3.1 s3.2.1 s3.2.2.1) o_Z169 fun(r:Drw)=>Bnt (n+30000) r:=fun c1 s3 v1 so=>by
        have a1:=v1.1
        have a2:=qeh v1
        exact fin c1 3 _ _ s3 (n+20004) a1 v1.sm (by rw[zas];omega) (by rw[zas];omega) (fun m hm=>by rw[(zbe.1 hm).2];show(qar qbu 3 3).length≤100;rw[qas];omega) (by omega) so
      refine qau (qct c1 3 3 (by omega) v1.sm v1) ?_
      refine qaU (qe9 (n+20002) s2 2 (by omega) q4) fun(r:Bool×Src×Unit) r4=>?_
      refine qcH (fun _=>?_) fun _=>konst c1 r.2.1 v1 r4
      refine qaU (fixed _ (by decide) (fun s hs=>?_) (by decide)) fun(r2:List Sim×Unit) v2=>?_
      · simp at hs;rcases hs with rfl | rfl | rfl | rfl | rfl | rfl | rfl<;>first | exact vx3 _ _ _ (by decide) (by decide) (by decide) (by decide) | exact vx2 _ _ (by decide) (by decide) (by decide)
      obtain⟨c2,⟨⟩⟩:=r2
      have v2:VC c2:=v2
      exact qau (qct c2 3 3 (by omega) v2.sm v2) (konst c2 r.2.1 v2 r4)
  simp only[Z169.j1_eq _ qae]
  exact qcH (fun _=>j2 _) fun _=>j2 _
theorem qjh(n:Nat)(s:Src)(t:Shf)(hn:n≤10000000)(hs:SO n s)(ht:t.1.length≤48):qhz n_Z191 [dR s,dS t] o_Z191 fun(r:Sim×Src×Unit)=>r.1.length≤100∧SO (n+200) r.2.1:=by
 obtain⟨c0,a,g,⟨⟩⟩:=s
 refine qbs ?_
 simp only[run_Z191,Z191.ev]
 refine qaU (qcS n _ _ (by simp) (by omega) hs) fun(r:Int×Src×Unit) ⟨p1,p2⟩=>?_
 obtain⟨many,s1,⟨⟩⟩:=r
 simp only at p1 p2
 refine EvQ.start 1 (L:=fun φ N=>Z191.l0 (mkR (run E (φ 0))) (φ 0) N t many 0 [] s1.1 s1.2.1 s1.2.2.1) ?_ (fun _ _ _=>rfl)
 refine EvQ.loop 1 (σ:=Nat×Sim×Src) (L:=fun φ N st=>Z191.l0 (mkR (run E (φ 0))) (φ 0) N t many (st.1:Int) st.2.1 st.2.2.1 st.2.2.2.1 st.2.2.2.2.1) (fun _ _ _ _=>rfl)
  (fun st=>st.1≤t.1.length∧st.2.1.length≤st.1∧SO (n+2+2*st.1) st.2.2) (fun st=>t.1.length-st.1) (fun st hi ih=>?_) (0,[],s1) ⟨zaE _,zaf _,p2⟩
 obtain⟨k,o,s2⟩:=st
 obtain⟨i1,i2,i3⟩:=hi
 simp only at i1 i2 i3 ih ⊢
 simp only[Z191.l0_succ _ qae]
 refine qck (fun h=>?_) fun h=>?_
 ·refine qaU (qe9 _ s2 many (by omega) i3) fun(r:Bool×Src×Unit) r4=>?_
  obtain⟨b,s3,⟨⟩⟩:=r
  simp only at r4
  have go:∀ o':Sim,o'.length≤k+1→EvQ (fun φ=>Z191.l0 (mkR (run E (φ 0))) (φ 0) (φ 1) t many (w64 ((k:Int)+1)) o' s3.1 s3.2.1 s3.2.2.1) o_Z191 fun(r:Sim×Src×Unit)=>r.1.length≤100∧SO (n+200) r.2.1:=fun o' ho=>by
   rw[qad (by omega)]
   exact ih (k+1,o',s3) ⟨by show k+1≤t.1.length;omega,ho,r4.le (by show n+2+2*k+2≤n+2+2*(k+1);omega)⟩ (by show t.1.length-(k+1)<t.1.length-k;omega)
  refine qcH (fun _=>qaJ (zac (by simp;omega)) (go _ (by simp;omega))) fun _=>go _ (by omega)
 ·refine qaU (qe9 _ s2 14 (by omega) i3) fun(r:Bool×Src×Unit) r4=>?_
  refine qcH (fun _=>?_) fun _=>qaH ⟨by show o.length≤100;omega,r4.le (by omega)⟩
  refine qaU (qcS (n+2+2*k+2) r.2.1 _ (by simp) (by omega) r4) fun(q:Int×Src×Unit) ⟨q1,q2⟩=>qaJ (zac (by simp;omega)) (qaH ⟨?_,q2.le (by omega)⟩)
  show(o++[q.1]).length≤100
  simp;omega
theorem qiE(x:List Int):Ret E n_Z92 [dB x] ⟨o_Z92,(decide ((x.length:Int)>1048576),())⟩:=by
 refine qai ?_
 simp only[run_Z92,Z92.ev]
 exact Ev.of fun _=>trivial
end VeT
open Go Go.Proofs Ve
namespace VeT
def qoi(p:Int)(R W:Nat)(A:Ent)(x:Nat→Int):Prop:=∀ i,i<R→qaG x (A i) W%p=0
theorem qpp{p:Int}{W:Nat}{pv:List Nat}{F:Ent}:∀ {n:Nat} {x:Sim},x∈qgD p W pv F n→∃ c,c<n∧c∉pv∧x=qkg p W pv F c pv.length
 | 0,x,h=>by simp[qgD] at h
 | n+1,x,h=>by
  rw[qgD,zam] at h
  rcases h with h | h
  ·obtain⟨c,h1,h2⟩:=qpp h;exact⟨c,by omega,h2⟩
  ·by_cases e:n∈pv
   ·rw[if_pos e] at h;simp at h
   ·rw[if_neg e,zaI] at h;exact⟨n,by omega,e,h⟩
theorem qm2{p:Int}{R W c:Nat}{pv:List Nat}{F:Ent}(hrf:Rf R W F pv)(hc:c<W)(hcp:c∉pv):∀ n,n≤pv.length→∀ m,n≤m→m<pv.length→(qkg p W pv F c n).getD (pv.getD m 0) 0=0
 | 0,_,m,_,hm=>by
  show((List.replicate W (0:Int)).set c 1).getD (pv.getD m 0) 0=_
  rw[qcT (by simpa using hc),if_neg fun e=>hcp (by rw[← e];exact qd3 hm),zaa,zaB]
  split<;>rfl
 | n+1,hn,m,h1,hm=>by
  have hq:=hrf.lt n (by omega)
  have:=hrf.mono n m (by omega) hm
  rw[qdX,qcT (by rw[qca];exact hq),if_neg (by omega)]
  exact qm2 hrf hc hcp n (by omega) m (by omega) hm
theorem qns{p:Int}{R W c i:Nat}{pv:List Nat}{F:Ent}(hrf:Rf R W F pv)(hc:c<W)(hcp:c∉pv)(hi:i<R):∀ n,n≤pv.length →
  qaG (fun j=>(qkg p W pv F c n).getD j 0) (F i) W%p=(F i c+if i<n then 0-F i c else 0)%p
 | 0,_=>by
  rw[if_neg (by omega),zbL]
  congr 1
  rw[qaw (d:=fun j=>if j=c then 1 else 0) (h:=F i) fun j hj=>⟨by
   show((List.replicate W (0:Int)).set c 1).getD j 0=_
   rw[qcT (by simpa using hc),zaa,zaB,if_pos hj];rfl,rfl⟩,qcI hc]
 | n+1,hn=>by
  have hq:=hrf.lt n (by omega)
  have hn':n<pv.length:=by omega
  rw[qaw (d:=fun j=>if j=pv.getD n 0 then(0-F n c)%p else(qkg p W pv F c n).getD j 0) (h:=F i) fun j hj=>⟨by
   rw[qdX,qcT (by rw[qca];exact hq)],rfl⟩,qkO hq,qm2 hrf hc hcp n (by omega) n (zaf _) hn',hrf.one i n hi hn',zbo,qns hrf hc hcp hi n (by omega),← zbo,Int.sub_zero]
  by_cases e:i=n
  ·subst e
   rw[if_neg (by omega),if_pos (by omega),if_pos (show i<i+1 by omega),Int.mul_one,zbL,Int.add_emod_emod]
  ·rw[if_neg e,zcj,zbL]
   by_cases h:i<n
   ·rw[if_pos h,if_pos (by omega)]
   ·rw[if_neg h,if_neg (by omega)]
theorem qqb{p:Int}{R W c:Nat}{pv:List Nat}{F:Ent}(hrf:Rf R W F pv)(hc:c<W)(hcp:c∉pv):qoi p R W F fun j=>(qkg p W pv F c pv.length).getD j 0:=fun i hi=>by
 rw[qns hrf hc hcp hi pv.length (zaf _)]
 by_cases h:i<pv.length
 ·rw[if_pos h,show F i c+(0-F i c)=0 by omega,zcd]
 ·rw[if_neg h,hrf.bot i c (by omega) hi hc];simp
theorem qp4{p:Int}{R W:Nat}{cells:Sim}(hp:Pr p)(hl:cells.length=R*W)(he:qaC cells p){x:Sim}(hx:x∈qml p R W cells):qoi p R W (qbe cells W) fun j=>x.getD j 0:=fun i hi=>by
 obtain⟨hrf,heq⟩:=qhs hp (qcn he hl) W (zaf _)
 obtain⟨c,h1,h2,rfl⟩:=qpp hx
 exact Spn.orth (qqb hrf h1 h2) (heq.2 i hi)
theorem qoO{p:Int}{R W:Nat}{cells:Sim}(hp:Pr p)(hl:cells.length=R*W)(he:qaC cells p):(qml p R W cells).length=rkV p W (qoi p R W (qbe cells W)):=by
 rw[← (qrw hp hl he).1]
 refine qdZ fun c hc=>⟨Ld.mono fun x hx=>?_,?_⟩
 ·intro i hi
  rw[qaM]
  refine Spn.orth (fun k hk=>?_) hx
  rw[qaM]
  have:=qp4 hp hl he (zaj hk) i hi
  have e:qd0 (qml p R W cells) k=fun j=>((qml p R W cells)[k]).getD j 0:=by
   funext j;unfold qd0;rw[zaa (l:=qml p R W cells),zag hk];rfl
  rw[e];exact this
 ·rintro⟨_,x,hx,h1,h2⟩
  have hg:∀ j,j<W→((List.range W).map fun j=>x j%p).getD j 0=x j%p:=fun j hj=>by
   rw[zaa,zaD,zbg hj];rfl
  have hs:=qpB (x:=(List.range W).map fun j=>x j%p) hp hl he fun i hi=>by
   refine Eq.trans ?_ (hx i hi)
   rw[qaM,qaM (c:=x)]
   exact qb6 fun j hj=>by rw[hg j hj,zau _ (zaT _)]
  refine⟨hc,_,hs,fun j hj=>?_,?_⟩
  ·show((List.range W).map fun j=>x j%p).getD j 0%p=0
   rw[hg j (by omega),zau _ (zaT _)];exact h1 j hj
  ·show((List.range W).map fun j=>x j%p).getD c 0%p≠0
   rw[hg c hc,zau _ (zaT _)];exact h2
def Sol(p:Int)(W:Nat)(rows:List Sim)(x:Nat→Int):Prop:=∀ r∈rows,qaG x (fun j=>r.getD j 0) W%p=0
theorem qqc{p:Int}{W:Nat}{rows:List Sim}(hr:∀ r∈rows,r.length=W){x:Nat→Int}:qoi p rows.length W (qbe rows.flatten W) x↔Sol p W rows x:=by
 have key:∀ i (hi:i<rows.length) j,j<W→qbe rows.flatten W i j=(rows[i]).getD j 0:=fun i hi j hj=>by
  have e1:=qjr hr
  have e2:rows.flatten=qar (qd0 rows) W rows.length:=by rw[← qbF,e1]
  rw[e2,qaW hi hj];unfold qd0
  rw[zaa (l:=rows),zag hi];rfl
 constructor
 ·intro h r hr
  obtain⟨i,hi,rfl⟩:=zbC hr
  refine Eq.trans ?_ (h i hi)
  congr 1
  exact qaw fun j hj=>⟨rfl,(key i hi j hj).symm⟩
 ·intro h i hi
  refine Eq.trans ?_ (h _ (zaj hi))
  congr 1
  exact qaw fun j hj=>⟨rfl,key i hi j hj⟩
end VeT
open Go Go.Proofs Ve
namespace VeT
theorem qqB{m:Mat}{a n i R C:Nat}(hm:VM m)(eR:m.2.1=(R:Int))(eC:m.2.2.1=(C:Int))(hi:i<R)(ha:a+C≤n) :
  List.take a (List.replicate n (0:Int))++List.take (n-a) ((List.range C).map (qbe m.2.2.2.1 C i))++List.drop (a+(List.take (n-a) ((List.range C).map (qbe m.2.2.2.1 C i))).length) (List.replicate n (0:Int))=qhA m a n 1 i:=by
 have hp:=hm.1.1
 have el:=hm.2.2.2.2
 have hlc:m.2.2.2.1.length=R*C:=by
  have:=hm.2.2.2.1
  rw[eR,eC,qa3] at this;omega
 have htk:List.take (n-a) ((List.range C).map (qbe m.2.2.2.1 C i))=(List.range C).map (qbe m.2.2.2.1 C i):=zav (by rw[zaR,zaU];omega)
 have hC:m.2.2.1.toNat=C:=by rw[eC];rfl
 rw[htk,zaR,zaU]
 have hl1:(List.take a (List.replicate n (0:Int))).length=a:=by rw[zax,zas];omega
 refine qgj (by rw[qb9];simp;omega) fun g hg=>?_
 have hgn:g<n:=by
  have:g<(List.take a (List.replicate n (0:Int))++(List.range C).map (qbe m.2.2.2.1 C i)++List.drop (a+C) (List.replicate n (0:Int))).length:=hg
  simp at this;omega
 have hz:∀ k q:Nat,(List.replicate k (0:Int))[q]?.getD 0=0:=fun k q=>by rw[zaB];split<;>rfl
 rw[zaa]
 by_cases h1:g<a
 ·rw[qda (by omega),zao (by rw[zal,hl1];omega),zao (by rw[hl1];exact h1),zbf,if_pos h1]
  exact hz _ _
 ·by_cases h2:g<a+C
  ·obtain⟨j,rfl⟩:∃ j,g=a+j:=⟨g-a,by omega⟩
   have hj:j<C:=by omega
   rw[qhH (by rw[hC];exact hj) hgn,zao (by rw[zal,hl1,zaR,zaU];omega),zap (by rw[hl1];omega),hl1,zaQ,qfT hj,hC]
   have hlt:=qeU hi hj
   have he:0≤qbe m.2.2.2.1 C i j∧qbe m.2.2.2.1 C i j≤m.1-1:=by unfold qbe;rw[qac (by omega)];exact el _ (zaj _)
   show qbe m.2.2.2.1 C i j=qbe m.2.2.2.1 C i j*1%m.1
   rw[Int.mul_one,zbD he.1 (by omega)]
  ·rw[qda (by omega),zap (by rw[zal,hl1,zaR,zaU];omega),zaY]
   exact hz _ _
noncomputable def gvR(x:Shf)(s n:Nat):List Sim:=(List.range n).map (qhA (qa2 x (fvx x.1 s) s) (FC x.1 x.2.2.1 (fvx x.1 s)).toNat (SD x.1 x.2.2.1 0).toNat 1)
noncomputable def gvL(x:Shf)(w:Sim)(n:Nat):List Sim:=qcs x.1 x.2.1 x.2.2.1 x.2.2.2.1 (SD x.1 x.2.2.1 1).toNat++((w.take n).map fun k=>gvR x k.toNat (x.2.2.1.getD k.toNat 0).toNat).flatten
theorem qfi{x:Shf}{w:Sim}{n:Nat}(hn:n<w.length){s:Nat}(hs:w[n]=(s:Int)):gvL x w (n+1)=gvL x w n++gvR x s (x.2.2.1.getD s 0).toNat:=by
 unfold gvL
 rw[zay hn,zat,zbN,hs,zaF]
 simp
structure Gv (x:Shf) (s W:Nat):Prop where
 vm:VM (qa2 x (fvx x.1 s) s)
 eR:(qa2 x (fvx x.1 s) s).2.1=x.2.2.1.getD s 0
 eC:(qa2 x (fvx x.1 s) s).2.2.1=x.2.2.1.getD (fvx x.1 s) 0
 e1:(qa2 x (fvx x.1 s) s).1=x.2.1
 fl:fvx x.1 s<x.1.length
 f1:(x.1.getD (fvx x.1 s) []).length=1
 pt:qeI (x.1.getD (fvx x.1 s) []) (x.1.getD s [])
 hF:0≤FC x.1 x.2.2.1 (fvx x.1 s)∧FC x.1 x.2.2.1 (fvx x.1 s)+x.2.2.1.getD (fvx x.1 s) 0≤W
 h3:0≤x.2.2.1.getD s 0∧x.2.2.1.getD s 0≤3
 h3f:0≤x.2.2.1.getD (fvx x.1 s) 0∧x.2.2.1.getD (fvx x.1 s) 0≤3
theorem qrl{c:List Sim}{p:Int}{st:Sim}{ms:List Mat}{f:Nat}(h:VS c p st ms)(hf:f<c.length):∀ {d k:Nat},k<c.length→(c.getD k []).length≤d→qeI (c.getD f []) (c.getD k [])→(qcM c p st ms f d k).1=p
 | 0,k,_,_,_=>rfl
 | d+1,k,hk,hd,hpt=>by
  rw[qcM]
  by_cases hfk:f=k
  ·rw[if_pos hfk];rfl
  ·rw[if_neg hfk]
   have D:Down c p st ms f k:=⟨h,hf,hk,hfk,hpt⟩
   obtain⟨_,f2,_⟩:=D.facts
   exact(h.map hk f2).2.2.1
theorem qsb{x:Shf}{s W:Nat}(hx:Sm (.st cS) x)(h:VS x.1 x.2.1 x.2.2.1 x.2.2.2.1)(hs:s<x.1.length)(eW:SD x.1 x.2.2.1 0=(W:Int)):Gv x s W:=by
 obtain⟨_,hf,_,hf1,hpt⟩:=qej h.1 hs
 have hst:=h.2.2.1.2.1
 obtain⟨hVM,hR⟩:=qoJ h hf _ s hs (zaf _) hpt
 have hb:=qdr hst hf
 rw[show((x.1.getD (fvx x.1 s) []).length:Int)-1=0 by omega,eW] at hb
 exact⟨hVM,hR,qfh hst,qrl h hf hs (zaf _) hpt,hf,hf1,hpt,hb,qcl hst s,qcl hst _⟩
theorem qrq{x:Shf}{s W n:Nat}(g:Gv x s W)(hp:2≤x.2.1)(tW:(SD x.1 x.2.2.1 0).toNat=W):Rws x.2.1 W (gvR x s n):=fun r hr=>by
 unfold gvR at hr
 obtain⟨i,_,rfl⟩:=zaO.1 hr
 refine⟨by rw[qb9,tW],?_⟩
 have:=qjM (m:=qa2 x (fvx x.1 s) s) (a:=(FC x.1 x.2.2.1 (fvx x.1 s)).toNat) (n:=(SD x.1 x.2.2.1 0).toNat) (t:=1) (i:=i) (by rw[g.e1];exact hp)
 rw[g.e1] at this
 exact this
theorem qeQ{x:Shf}{w:Sim}{W H:Nat}(hx:Sm (.st cS) x)(h:VS x.1 x.2.1 x.2.2.1 x.2.2.2.1)(hw:qdo x.1 w)(eW:SD x.1 x.2.2.1 0=(W:Int))(eH:SD x.1 x.2.2.1 1=(H:Int)) :
  ∀ n,n≤w.length→(gvL x w n).length≤H+3*n∧Rws x.2.1 W (gvL x w n):=by
 have tW:(SD x.1 x.2.2.1 0).toNat=W:=by omega
 intro n
 induction n with
 | zero =>
  intro _
  have e:gvL x w 0=qcs x.1 x.2.1 x.2.2.1 x.2.2.2.1 (SD x.1 x.2.2.1 1).toNat:=by simp[gvL]
  rw[e]
  have:=qhW h (SD x.1 x.2.2.1 1).toNat
  rw[tW] at this
  exact⟨by rw[qbA];omega,this⟩
 | succ n ih =>
  intro hn
  obtain⟨h1,h2⟩:=ih (by omega)
  obtain⟨s,hs,hsl⟩:=hw.get (show n<w.length by omega)
  have g:=qsb hx h hsl eW
  rw[qfi (by omega) hs]
  refine⟨?_,fun r hr=>?_⟩
  ·have:=g.h3
   have hl:(gvR x s (x.2.2.1.getD s 0).toNat).length=(x.2.2.1.getD s 0).toNat:=by simp[gvR]
   rw[zal,hl];omega
  ·rcases zam.1 hr with hr | hr
   ·exact h2 r hr
   ·exact qrq g h.2.1.1 tW r hr
theorem qfw(x:Shf)(w:Sim)(hx:Sm (.st cS) x)(hw1:Sm (.sl (.int .i64)) w)(h:VS x.1 x.2.1 x.2.2.1 x.2.2.2.1)(hw:qdo x.1 w) :
  Ret E n_Z33 [dLL x.1,dI x.2.1,dL x.2.2.1,dMs x.2.2.2.1,dL w] ⟨o_Z33,(x.2.1,((gvL x w w.length).length:Int),SD x.1 x.2.2.1 0,(gvL x w w.length).flatten,())⟩:=by
 obtain⟨W,eW,bW,tW⟩:=qbY h 0
 obtain⟨H,eH,bH,tH⟩:=qbY h 1
 have hst:=h.2.2.1.2.1
 have hRC:=qcP bH bW
 have h48:=h.1.1
 have hwl:=hw.le48
 have facts:=qeQ hx h hw eW eH
 have s0:=qcd x.1 x.2.2.1 0 x.2.1 x.2.2.2.1 hx.1 h.2.2.1.1 hst (by omega)
 rw[show qgx x.1 x.2.2.1 0 (qay x.1 0 x.1.length).length=(W:Int) from eW] at s0
 have hrows:=qek x.2.1 H W (qnC x 0).2.2.2.1 (by show(qjq _ _ _ _ 0).length=_;rw[qfY,show SD x.1 x.2.2.1 (0+1)=SD x.1 x.2.2.1 1 from rfl,tH,tW]) (by omega) (by omega) (by omega)
 rw[eW]
 refine qai ?_
 simp only[run_Z33,Z33.ev]
 refine qaa s0 (qaa (qfk x.1 x.2.1 x.2.2.1 x.2.2.2.1 0 (by omega) hx.1 h) ?_)
 have e1:(qqX x.1 x.2.1 x.2.2.1 x.2.2.2.1 0).1=x.2.1:=rfl
 have e2:(qqX x.1 x.2.1 x.2.2.1 x.2.2.2.1 0).2.1=(H:Int):=eH
 have e3:(qqX x.1 x.2.1 x.2.2.1 x.2.2.2.1 0).2.2.1=(W:Int):=eW
 have e4:(qqX x.1 x.2.1 x.2.2.1 x.2.2.2.1 0).2.2.2.1=(qnC x 0).2.2.2.1:=rfl
 simp only[e1,e2,e3,e4]
 refine qaa hrows ?_
 have e0:qaF (qbe (qnC x 0).2.2.2.1 W) H W=gvL x w 0:=by
  have:gvL x w 0=qcs x.1 x.2.1 x.2.2.1 x.2.2.2.1 (SD x.1 x.2.2.1 1).toNat:=by simp[gvL]
  rw[this,qiR,tW,tH]
 rw[e0]
 refine Ev.start (p:=fun φ n=>Z33.l0 (mkR (run E (φ 0))) (φ 0) n (W:Int) w (w.length:Int) 0 x.1 x.2.1 x.2.2.1 x.2.2.2.1 0 0 0 (gvL x w 0)=_) 1 ?_ (fun _ _ _ h=>h)
 refine qam 1 (L:=fun φ n k o=>Z33.l0 (mkR (run E (φ 0))) (φ 0) n (W:Int) w (w.length:Int) k x.1 x.2.1 x.2.2.1 x.2.2.2.1 0 0 0 o) (len:=w.length) (fun k=>gvL x w k) (fun _ _ _ _ _=>rfl) (fun k r hk ih=>?_) ?_
 ·simp only[Z33.l0_succ _ qae]
  obtain⟨s,hs,hsl⟩:=hw.get hk
  have hg:w[k]? = some (s:Int):=by rw[zag hk,hs]
  have g:=qsb hx h hsl eW
  obtain⟨_,r1⟩:=ql4 x.1 x.2.1 x.2.2.1 x.2.2.2.1 hx.1 h (fvx x.1 s) g.fl _ s hsl (zaf _) g.pt
  obtain⟨R,C,em,hR,hC,hlen⟩:=g.vm.nat
  have eR:(qa2 x (fvx x.1 s) s).2.1=(R:Int):=congrArg (fun m:Mat=>m.2.1) em
  have eC:(qa2 x (fvx x.1 s) s).2.2.1=(C:Int):=congrArg (fun m:Mat=>m.2.2.1) em
  have hRC2:=qcP hR hC
  have rr:=qek (qa2 x (fvx x.1 s) s).1 R C (qa2 x (fvx x.1 s) s).2.2.2.1 hlen (by omega) (by omega) (by omega)
  rw[← eR,← eC] at rr
  obtain⟨T,eT⟩:=zaL g.hF.1
  have hTC:T+C≤W:=by have:=g.hF.2;have:=g.eC;omega
  have fc:=qde x.1 x.2.1 x.2.2.1 x.2.2.2.1 (fvx x.1 s) g.fl hx.1 h.2.2.1.1 hst
  rw[eT] at fc
  have hRs:(x.2.2.1.getD s 0).toNat=R:=by have:=g.eR;omega
  obtain⟨hf1,hf2⟩:=facts k (by omega)
  rw[qfi hk hs,hRs] at ih
  refine qax (zac (by omega)) (qab (qaT.trans hg) (qaa (qi4 x s hsl hx.1 h.1) (qaa r1 (qaa rr ?_))))
  generalize hB:gvL x w k=B at ih hf1 ⊢
  have hgv:gvR x s R=(List.range R).map (qhA (qa2 x (fvx x.1 s) s) T W 1):=by unfold gvR;rw[eT,tW];rfl
  rw[hgv] at ih
  rw[qaO]
  refine Ev.start (p:=fun φ n=>Z33.l1 (mkR (run E (φ 0))) (φ 0) (φ 1) n (W:Int) ((fvx x.1 s:Nat):Int) w (w.length:Int) (k:Int) (qaF (qbe (qa2 x (fvx x.1 s) s).2.2.2.1 C) R C) (R:Int) 0 x.1 x.2.1 x.2.2.1 x.2.2.2.1 0 0 0 B=_) 2 ?_ (fun _ _ _ h=>h)
  have:=qam 2 (L:=fun φ n i o=>Z33.l1 (mkR (run E (φ 0))) (φ 0) (φ 1) n (W:Int) ((fvx x.1 s:Nat):Int) w (w.length:Int) (k:Int) (qaF (qbe (qa2 x (fvx x.1 s) s).2.2.2.1 C) R C) (R:Int) i x.1 x.2.1 x.2.2.1 x.2.2.2.1 0 0 0 o) (len:=R) (fun i=>B++(List.range i).map (qhA (qa2 x (fvx x.1 s) s) T W 1)) (r:=r) (fun _ _ _ _ _=>rfl) (fun i q hi ih2=>?_) ?_
  ·simpa using this
  ·simp only[Z33.l1_succ _ qae,zai,zas]
   rw[zaA,zat,zca,← zaF] at ih2
   have hcp:=qqB g.vm eR eC hi hTC
   refine qax (zac (by omega)) (qab (qaT.trans (qbH hi)) (qao (by simp only[zah,decide_eq_true_eq];omega) (qaa fc ?_)))
   simp only[zai,hcp]
   have hT0:(0:Int)≤(T:Int):=by omega
   have hTW:(T:Int)≤(W:Int):=by omega
   refine qao (by simp only[zah,decide_eq_true_eq];exact⟨hT0,hTW⟩) (qao (by simp only[zah,decide_eq_true_eq];omega) (qao (by simp only[zal,zaR,zaU,zbh,zbE,decide_eq_true_eq];omega) ?_))
   rw[qad (by omega)];exact ih2
  ·simp only[Z33.l1_succ _ qae]
   refine qaB (zae (by omega)) ?_
   rw[qad (by omega)];exact ih
 ·simp only[Z33.l0_succ _ qae]
  obtain⟨hf1,hf2⟩:=facts w.length (zaf _)
  obtain⟨hl1,hl2⟩:=hf2.flat
  have hmul:(gvL x w w.length).length*W≤176*32:=zbd (by omega) bW
  exact qaB (zae (by omega)) (qaa (qlH x.2.1 (W:Int) (gvL x w w.length) (by omega) (by omega)) qal)
noncomputable def qdp(x:Shf)(w:Sim):Int:=((qqU x.2.1 (SD x.1 x.2.2.1 0).toNat (gvL x w w.length)).length:Int)
theorem qiU(x:Shf)(w:Sim)(hx:Sm (.st cS) x)(hw1:Sm (.sl (.int .i64)) w)(h:VS x.1 x.2.1 x.2.2.1 x.2.2.2.1)(hw:qdo x.1 w) :
  Ret E n_Z52 [dLL x.1,dI x.2.1,dL x.2.2.1,dMs x.2.2.2.1,dL w] ⟨o_Z52,(qdp x w,())⟩:=by
 obtain⟨W,eW,bW,tW⟩:=qbY h 0
 obtain⟨H,eH,bH,tH⟩:=qbY h 1
 have hp:2≤x.2.1∧x.2.1≤251:=⟨h.2.1.1,h.2.1.2.1⟩
 have h48:=h.1.1
 have hwl:=hw.le48
 obtain⟨hf1,hf2⟩:=qeQ hx h hw eW eH w.length (zaf _)
 have hmul:(gvL x w w.length).length*W≤176*32:=zbd (by omega) bW
 have hc:=qfw x w hx hw1 h hw
 rw[eW] at hc
 refine qai ?_
 simp only[run_Z52,Z52.ev]
 unfold qdp
 rw[tW]
 exact qaa hc (qaa (qmz x.2.1 W (gvL x w w.length) hp (by omega) (by omega) (by omega) hf2) (qaa (qgi _) qal))
open Classical in
noncomputable def qaR(x:Shf)(w:Sim):Int×Int×Unit:=if PC x w=0 then(qdp x w,0,()) else(0,PC x w,())
theorem qa7(x:Shf)(w:Sim)(hx:Sm (.st cS) x)(hw:Sm (.sl (.int .i64)) w):Ret E n_Z6 [dLL x.1,dI x.2.1,dL x.2.2.1,dMs x.2.2.2.1,dL w] ⟨o_Z6,qaR x w⟩:=by
 refine qai ?_
 simp only[run_Z6,Z6.ev]
 refine qaa (qjX x w hx hw) (qbS (fun h=>qah ?_) fun h=>?_)
 ·have h:¬ PC x w=0:=by simpa using h
  rw[qaR,if_neg h]
 ·have h:PC x w=0:=by simpa using h
  obtain⟨hs,hpl⟩:=qd2.1 h
  rw[qaR,if_pos h]
  exact qaa (qiU x w hx hw hs.1 hpl) qal
end VeT
open Go Go.Proofs Ve
namespace VeT
def wN(w:Sim)(i:Nat):Nat:=(w.getD i 0).toNat
theorem qdo.wN{c:List Sim}{w:Sim}(h:qdo c w){i:Nat}(hi:i<w.length):w[i]? = some ((wN w i:Nat):Int)∧wN w i<c.length:=by
 obtain⟨n,hn,hl⟩:=h.get hi
 have e:VeT.wN w i=n:=by unfold VeT.wN;rw[qac hi,hn,zai]
 rw[e,zag hi,hn]
 exact⟨rfl,hl⟩
theorem qdo.wN_lt{c:List Sim}{w:Sim}(h:qdo c w){i j:Nat}(hj:j<w.length)(hij:i<j):VeT.wN w i<VeT.wN w j:=by
 have hi:i<w.length:=by omega
 have:=h.1.lt hj hij
 have h0:=(h.2 _ (zaj hi)).1
 unfold VeT.wN
 rw[qac hi,qac hj]
 omega
def qmS(st w v:Sim)(i:Nat):Sim:=(v.take (off st w i+st.getD (wN w i) 0).toNat).drop (off st w i).toNat
noncomputable def qq5(x:Shf)(w v:Sim)(b a:Nat):Sim:=qhN (qa2 x (wN w a) (wN w b)) (qmS x.2.2.1 w v a) (x.2.2.1.getD (wN w b) 0).toNat
def Cf(x:Shf)(w v:Sim)(b a:Nat):Prop:=qeI (x.1.getD (wN w a) []) (x.1.getD (wN w b) [])∧qq5 x w v b a≠qmS x.2.2.1 w v b
def CfB(x:Shf)(w v:Sim)(b:Nat):Prop:=∃ a,0≤a∧a<0+b∧Cf x w v b a
noncomputable def qmx(x:Shf)(w v:Sim)(out:Nat→Nat→Option Dv)(b:Nat)(rn:Option Dv):Option Dv:=orN (fun a=>out a b) rn (qaP (Cf x w v b) 0 b)
noncomputable def qpP(x:Shf)(w v:Sim)(out:Nat→Nat→Option Dv)(rn:Option Dv):Option Dv:=orN (fun b=>qmx x w v out b none) rn (qaP (CfB x w v) 0 w.length)
theorem qqT{x w v b}{out:Nat→Nat→Option Dv}{rn:Option Dv}(h:¬ CfB x w v b):qmx x w v out b rn=rn:=by
 unfold qmx
 cases hf:qaP (Cf x w v b) 0 b with
 | none=>rfl
 | some a =>
  have:=qaz hf
  exact absurd ⟨a,this⟩ h
noncomputable def qeE(x:Shf)(w v:Sim):Option (Nat×Nat) :=
 match qaP (CfB x w v) 0 w.length with
 | some b=>(qaP (Cf x w v b) 0 b).map fun a=>(a,b)
 | none=>none
theorem qjx{x w v a b}(h:qeE x w v=some (a,b)):a<b∧b<w.length∧∀ out rn,qpP x w v out rn=out a b:=by
 unfold qeE at h
 cases hb:qaP (CfB x w v) 0 w.length with
 | none=>rw[hb] at h;cases h
 | some b' =>
  rw[hb] at h
  simp only at h
  cases ha:qaP (Cf x w v b') 0 b' with
  | none=>rw[ha] at h;cases h
  | some a' =>
   rw[ha] at h
   have e:=zad h
   obtain⟨rfl,rfl⟩:=Prod.mk.inj e
   have h1:=qaz hb
   have h2:=qaz ha
   refine⟨by omega,by omega,fun out rn=>?_⟩
   unfold qpP
   rw[hb]
   show qmx x w v out b' none=_
   unfold qmx
   rw[ha];rfl
theorem qnI{x w v}(h:qeE x w v=none):∀ out rn,qpP x w v out rn=rn:=by
 intro out rn
 unfold qeE at h
 cases hb:qaP (CfB x w v) 0 w.length with
 | none=>unfold qpP;rw[hb];rfl
 | some b' =>
  rw[hb] at h
  simp only at h
  have h1:=qaz hb
  obtain⟨a,ha⟩:=qb3 h1.2.2
  rw[ha] at h;cases h
structure CfS (x:Shf) (w v:Sim) (b a:Nat):Prop where
 hs:ISh x
 hp:qdo x.1 w
 hd:Dat x w v
 hb:b<w.length
 ha:a<b
 pt:qeI (x.1.getD (wN w a) []) (x.1.getD (wN w b) [])
theorem ql7{x:Shf}{w v:Sim}(hs:ISh x)(hp:qdo x.1 w)(hd:Dat x w v){i:Nat}(hi:i<w.length):0≤off x.2.2.1 w i∧off x.2.2.1 w i≤off x.2.2.1 w i+x.2.2.1.getD (wN w i) 0∧off x.2.2.1 w i+x.2.2.1.getD (wN w i) 0≤v.length∧wN w i<x.2.2.1.length∧x.2.2.1.getD (wN w i) 0≤3:=by
 have hst:=hs.1.2.2.1.2.1
 have h1:=hp.wN hi
 have h2:=qcl hst (wN w i)
 have h3:=qgh (w:=w) hst (n:=i)
 have hw:w[i]=((wN w i:Nat):Int):=by have:=h1.1;rw[zag hi] at this;exact zad this
 have h4:=qhK (w:=w) hst (show i+1≤w.length by omega)
 rw[qen hi hw,← hd.2] at h4
 exact⟨h3.1,by omega,h4,by rw[hs.1.2.2.1.1];exact h1.2,by omega⟩
theorem qfF{x:Shf}{w v:Sim}(hs:ISh x)(hp:qdo x.1 w)(hd:Dat x w v){i:Nat}(hi:i<w.length):((qmS x.2.2.1 w v i).length:Int)=x.2.2.1.getD (wN w i) 0:=by
 obtain⟨h1,h2,h3,_⟩:=ql7 hs hp hd hi
 unfold qmS
 rw[zbn,zax];omega
theorem qjl(x:Shf)(w v:Sim)(i:Nat)(hi:i<w.length)(hs:ISh x)(hp:qdo x.1 w)(hd:Dat x w v)(hv:v.length≤1048576) :
  Ret E n_Z35 [dI (i:Int),⟨.ptr (.cons (.sl (.int .i64)) .nil),(v,())⟩,⟨.ptr (.cons (.sl (.int .i64)) .nil),(qey x.2.2.1 w w.length,())⟩,dS x,⟨.ptr (.cons (.sl (.int .i64)) .nil),(w,())⟩] ⟨o_Z35,(qmS x.2.2.1 w v i,())⟩:=by
 obtain⟨h1,h2,h3,h4,h5⟩:=ql7 hs hp hd hi
 have hg:=(hp.wN hi).1
 have hsg:(qey x.2.2.1 w w.length)[i]? = some (off x.2.2.1 w i):=by
  unfold qey;rw[zaD,zbg hi];rfl
 have e:w64 (off x.2.2.1 w i+x.2.2.1.getD (wN w i) 0)=off x.2.2.1 w i+x.2.2.1.getD (wN w i) 0:=qag (by omega) (by omega)
 rw[qac h4] at e h2 h3
 refine qai ?_
 simp only[run_Z35,Z35.ev]
 refine qab (qaT.trans hsg) (qab (qaT.trans hsg) (qab (qaT.trans hg) (qab (qak h4) ?_)))
 simp only[e]
 refine qao (by simp only[zah,decide_eq_true_eq];exact⟨⟨h1,h2⟩,h3⟩) (qah ?_)
 rw[qmS,qac h4]
theorem CfS.img{x:Shf}{w v:Sim}{b a:Nat}(h:CfS x w v b a)(hx:Sm (.st cS) x) :
  Ret E n_Z74 [dLL x.1,dI x.2.1,dL x.2.2.1,dMs x.2.2.2.1,dI ((wN w a:Nat):Int),dI ((wN w b:Nat):Int)] ⟨o_Z74,qa2 x (wN w a) (wN w b)⟩ ∧
  Ret E n_Z23 [dI (qa2 x (wN w a) (wN w b)).1,dI (qa2 x (wN w a) (wN w b)).2.1,dI (qa2 x (wN w a) (wN w b)).2.2.1,dL (qa2 x (wN w a) (wN w b)).2.2.2.1,dL (qmS x.2.2.1 w v a)] ⟨o_Z23,(qq5 x w v b a,())⟩:=by
 have ha:a<w.length:=by have:=h.ha;have:=h.hb;omega
 have hst:=h.hs.1.2.2.1.2.1
 have hp2:2≤x.2.1∧x.2.1≤251:=⟨h.hs.1.2.1.1,h.hs.1.2.1.2.1⟩
 obtain⟨⟨hVM,hR⟩,r1⟩:=ql4 x.1 x.2.1 x.2.2.1 x.2.2.2.1 hx.1 h.hs.1 (wN w a) (h.hp.wN ha).2 _ (wN w b) (h.hp.wN h.hb).2 (zaf _) h.pt
 have hc:(qa2 x (wN w a) (wN w b)).2.2.1≤(qmS x.2.2.1 w v a).length:=by
  unfold qa2;rw[qfh hst,qfF h.hs h.hp h.hd ha];exact Int.le_refl _
 have he:∀ y∈qmS x.2.2.1 w v a,0≤y∧y≤250:=fun y hy=>h.hd.1.mem hp2 y (zbx (zbJ hy))
 have a1:=qox (qa2 x (wN w a) (wN w b)) (qmS x.2.2.1 w v a) hVM hc he
 rw[show(qa2 x (wN w a) (wN w b)).2.1=x.2.2.1.getD (wN w b) 0 from hR] at a1
 refine⟨r1,?_⟩
 rw[show(qa2 x (wN w a) (wN w b)).2.1=x.2.2.1.getD (wN w b) 0 from hR]
 exact a1
theorem qiQ{x:Shf}{w v:Sim}{b a:Nat}(hs:ISh x):(qq5 x w v b a).length≤3:=by
 have:=qcl hs.1.2.2.1.2.1 (wN w b)
 unfold qq5;rw[qbm];omega
noncomputable def qsE(w:Sim)(a b:Nat):Option Dv:=some ⟨o_Z34,(((wN w a:Nat):Int),((wN w b:Nat):Int),true,())⟩
theorem qkQ(x:Shf)(w v:Sim)(hx:Sm (.st cS) x)(hw:Sm (.sl (.int .i64)) w)(hv:Sm (.sl (.int .i64)) v)(hs:ISh x)(hp:qdo x.1 w)(hd:Dat x w v) :
    Ev fun φ=>run E (φ 0+1) n_Z34 [dLL x.1,dI x.2.1,dL x.2.2.1,dMs x.2.2.2.1,dL w,dL v]=qpP x w v (qsE w) (some ⟨o_Z34,(0,0,false,())⟩):=by
  have hw1:w.length≤1048576:=hw.1
  have hc:Sm (.sl (.sl (.int .i64))) x.1:=hx.1
  have of:=qig x w hs.1.2.2.1.1 hs.1.2.2.1.2.1 hw.1 fun i hi=>hp.get hi
  have ec:=fun i hi=>qjl x w v i hi hs hp hd hv.1
  simp only[run_Z34,Z34.ev]
  refine qaa of ?_
  generalize qey x.2.2.1 w w.length=S at ec
  refine Ev.start (p:=fun φ n=>Z34.l0 (mkR (run E (φ 0))) (φ 0) n ((v,()),(S,()),x,(w,()),()) w (w.length:Int) 0 x.1 x.2.1 x.2.2.1 x.2.2.2.1 w=_) 1 ?_ (fun _ _ _ h=>h)
  have inner:∀(b:Nat) (hb:b<w.length) (rn:Option Dv),(¬ CfB x w v b→Ev fun φ=>Z34.l0 (mkR (run E (φ 0))) (φ 0) (φ 1) ((v,()),(S,()),x,(w,()),()) w (w.length:Int) ((b+1:Nat):Int) x.1 x.2.1 x.2.2.1 x.2.2.2.1 w=rn) →
      Ev fun φ=>Z34.l1 (mkR (run E (φ 0))) (φ 0) (φ 1) (φ 0) ((v,()),(S,()),x,(w,()),()) (b:Int) ((wN w b:Nat):Int) w (w.length:Int) (b:Int) w (w.length:Int) 0 x.1 x.2.1 x.2.2.1 x.2.2.2.1 w=qmx x w v (qsE w) b rn:=fun b hb rn hrn=>by
    refine Ev.start (p:=fun φ n=>Z34.l1 (mkR (run E (φ 0))) (φ 0) (φ 1) n ((v,()),(S,()),x,(w,()),()) (b:Int) ((wN w b:Nat):Int) w (w.length:Int) (b:Int) w (w.length:Int) 0 x.1 x.2.1 x.2.2.1 x.2.2.2.1 w=_) 2 ?_ (fun _ _ _ h=>h)
    have hwb:=hp.wN hb
    have hbl:wN w b<x.1.length:=hwb.2
    refine(qce 2 (L:=fun φ n i=>Z34.l1 (mkR (run E (φ 0))) (φ 0) (φ 1) n ((v,()),(S,()),x,(w,()),()) (b:Int) ((wN w b:Nat):Int) w (w.length:Int) (b:Int) w (w.length:Int) i x.1 x.2.1 x.2.2.1 x.2.2.2.1 w) (len:=w.length) (fun i=>i<b∧Cf x w v b i) (fun a=>qsE w a b) rn (fun _ _ _ _=>rfl) 0 (fun i h1 h2 hP=>?_) (fun i q h1 h2 hP ih=>?_) (fun hno=>?_) w.length (by omega)).to ?_
    · obtain⟨hib,hC⟩:=hP
      have hwi:=hp.wN h2
      have hil:wN w i<x.1.length:=hwi.2
      have hlt:=hp.wN_lt hb hib
      have C:CfS x w v b i:=⟨hs,hp,hd,hb,hib,hC.1⟩
      obtain⟨i1,i3⟩:=C.img hx
      have hpt:=hC.1
      rw[qac hil,qac hbl] at hpt
      simp only[Z34.l1_succ _ qae]
      refine qax (zac (by omega)) (qab (qaT.trans hwi.1) (qaB (by simp;omega) (qab (qak hil) (qab (qak hbl) (qaa (qjP _ _ (qbk hc hil).1 (qbk hc hbl).1) ?_)))))
      simp only[qaK hpt,Bool.not_true,Z34.j2_eq _ qae,cond_false]
      refine qaa i1 (qaa (ec i h2) (qaa i3 (qaa (ec b hb) (qaa (qgF (qq5 x w v b i) (qmS x.2.2.1 w v b) (by have:=qiQ (w:=w) (v:=v) (b:=b) (a:=i) hs;omega)) (qax ?_ qal)))))
      rw[qaq hC.2];rfl
    · have hwi:=hp.wN h2
      have hil:wN w i<x.1.length:=hwi.2
      simp only[Z34.l1_succ _ qae]
      refine qax (zac (by omega)) (qab (qaT.trans hwi.1) ?_)
      by_cases he:wN w i=wN w b
      · refine qax (by simp[he]) ?_
        simp only[Z34.j2_eq _ qae,cond_true]
        rw[qad (by omega)];exact ih
      · refine qaB (by simp;omega) (qab (qak hil) (qab (qak hbl) (qaa (qjP _ _ (qbk hc hil).1 (qbk hc hbl).1) ?_)))
        by_cases hpt:qeI x.1[wN w i] x.1[wN w b]
        · have hpt':qeI (x.1.getD (wN w i) []) (x.1.getD (wN w b) []):=by rw[qac hil,qac hbl];exact hpt
          have hlt:=qn6 hs.1.1 hil hbl hpt' he
          have hib:i<b:=by
            rcases zbw i b with h | h | h
            · exact h
            · exact absurd (by rw[h]) he
            · have:=hp.wN_lt h2 h;omega
          have C:CfS x w v b i:=⟨hs,hp,hd,hb,hib,hpt'⟩
          obtain⟨i1,i3⟩:=C.img hx
          have heq:qq5 x w v b i=qmS x.2.2.1 w v b:=Classical.byContradiction fun hne=>hP ⟨hib,hpt',hne⟩
          simp only[qaK hpt,Bool.not_true,Z34.j2_eq _ qae,cond_false]
          refine qaa i1 (qaa (ec i h2) (qaa i3 (qaa (ec b hb) (qaa (qgF (qq5 x w v b i) (qmS x.2.2.1 w v b) (by have:=qiQ (w:=w) (v:=v) (b:=b) (a:=i) hs;omega)) (qaB ?_ ?_)))))
          · rw[qaK heq];rfl
          · rw[qad (by omega)];exact ih
        · simp only[qaq hpt,Bool.not_false,Z34.j2_eq _ qae,cond_true]
          rw[qad (by omega)];exact ih
    · simp only[Z34.l1_succ _ qae]
      refine qaB (zae (by omega)) ?_
      rw[qad (by omega)]
      exact hrn fun⟨a,_,h2,h3⟩=>hno a (by omega) (by omega) ⟨by omega,h3⟩
    · rw[qnS (by omega)];rfl
  refine qce 1 (L:=fun φ n k=>Z34.l0 (mkR (run E (φ 0))) (φ 0) n ((v,()),(S,()),x,(w,()),()) w (w.length:Int) k x.1 x.2.1 x.2.2.1 x.2.2.2.1 w) (len:=w.length) (CfB x w v) (fun b=>qmx x w v (qsE w) b none) _ (fun _ _ _ _=>rfl) 0 (fun b h1 h2 hP=>?_) (fun b q h1 h2 hP ih=>?_) (fun hno=>?_) w.length (by omega)
  · simp only[Z34.l0_succ _ qae]
    exact qax (zac (by omega)) (qab (qaT.trans (hp.wN h2).1) (inner b h2 none fun hn=>absurd hP hn))
  · simp only[Z34.l0_succ _ qae]
    exact qax (zac (by omega)) (qab (qaT.trans (hp.wN h2).1) ((inner b h2 q fun _=>ih).to (qqT hP)))
  · simp only[Z34.l0_succ _ qae]
    exact qaB (zae (by omega)) qal
noncomputable def cfI(x:Shf)(w v:Sim):Int×Int×Bool×Unit:=match qeE x w v with
 | some (a,b)=>(((wN w a:Nat):Int),((wN w b:Nat):Int),true,())
 | none=>(0,0,false,())
noncomputable def cfS(x:Shf)(w v:Sim):Int×Int×Unit:=match qeE x w v with
 | some (a,b)=>((a:Int),(b:Int),())
 | none=>(-1,-1,())
theorem qht(x:Shf)(w v:Sim)(hx:Sm (.st cS) x)(hw:Sm (.sl (.int .i64)) w)(hv:Sm (.sl (.int .i64)) v)(hs:ISh x)(hp:qdo x.1 w)(hd:Dat x w v) :
  Ret E n_Z34 [dLL x.1,dI x.2.1,dL x.2.2.1,dMs x.2.2.2.1,dL w,dL v] ⟨o_Z34,cfI x w v⟩:=by
 refine qai ((qkQ x w v hx hw hv hs hp hd).to ?_)
 cases hc:qeE x w v with
 | none=>rw[qnI hc,cfI,hc]
 | some t =>
  obtain⟨a,b⟩:=t
  rw[(qjx hc).2.2,cfI,hc];rfl
noncomputable def qbt(x:Shf)(w v:Sim):Bool×Unit:=(pb (LC x w v=0∧qeE x w v=none),())
theorem qeC(x:Shf)(w v:Sim)(hx:Sm (.st cS) x)(hw:Sm (.sl (.int .i64)) w)(hv:Sm (.sl (.int .i64)) v):Ret E n_Z9 [dLL x.1,dI x.2.1,dL x.2.2.1,dMs x.2.2.2.1,dL w,dL v] ⟨o_Z9,qbt x w v⟩:=by
 refine qai ?_
 simp only[run_Z9,Z9.ev]
 refine qaa (qer x w v hx hw hv) (qbS (fun h=>qah ?_) fun h=>?_)
 ·have h:¬ LC x w v=0:=by simpa using h
  rw[qbt,qaq fun e=>h e.1]
 ·have h:LC x w v=0:=by simpa using h
  obtain⟨⟨hs,hp⟩,hd⟩:=qgM.1 h
  refine qaa (qht x w v hx hw hv hs hp hd) (qah ?_)
  have:(!(cfI x w v).2.2.1)=pb (LC x w v=0∧qeE x w v=none):=qfy (by
   unfold cfI
   cases hc:qeE x w v with
   | none=>simp[h]
   | some t=>simp)
  rw[this];rfl
open Classical in
noncomputable def qaV(x:Shf)(w v:Sim):Int×Int×Int×Unit:=if LC x w v=0 then(match qeE x w v with
 | some (a,b)=>(((wN w a:Nat):Int),((wN w b:Nat):Int),0,())
 | none=>(0,0,3,())) else(0,0,LC x w v,())
theorem qeW(x:Shf)(w v:Sim)(hx:Sm (.st cS) x)(hw:Sm (.sl (.int .i64)) w)(hv:Sm (.sl (.int .i64)) v):Ret E n_Z8 [dLL x.1,dI x.2.1,dL x.2.2.1,dMs x.2.2.2.1,dL w,dL v] ⟨o_Z8,qaV x w v⟩:=by
 refine qai ?_
 simp only[run_Z8,Z8.ev]
 refine qaa (qer x w v hx hw hv) (qbS (fun h=>qah ?_) fun h=>?_)
 ·have h:¬ LC x w v=0:=by simpa using h
  rw[qaV,if_neg h]
 ·have h:LC x w v=0:=by simpa using h
  obtain⟨⟨hs,hp⟩,hd⟩:=qgM.1 h
  refine qaa (qht x w v hx hw hv hs hp hd) ?_
  rw[qaV,if_pos h]
  cases hc:qeE x w v with
  | none=>rw[cfI,hc];exact qax rfl qal
  | some t=>rw[cfI,hc];exact qaB rfl qal
end VeT
open Go Go.Proofs Ve
namespace VeT
theorem qkc{x:Shf}{w:Sim}(hs:ISh x)(hp:qdo x.1 w){i:Nat}(hi:i<w.length):0≤off x.2.2.1 w i∧off x.2.2.1 w (i+1)=off x.2.2.1 w i+x.2.2.1.getD (wN w i) 0∧off x.2.2.1 w (i+1)≤off x.2.2.1 w w.length∧0≤x.2.2.1.getD (wN w i) 0∧x.2.2.1.getD (wN w i) 0≤3:=by
 have hst:=hs.1.2.2.1.2.1
 have h1:=hp.wN hi
 have h2:=qcl hst (wN w i)
 have hw:w[i]=((wN w i:Nat):Int):=by have:=h1.1;rw[zag hi] at this;exact zad this
 exact⟨(qgh hst).1,qen hi hw,qhK hst (by omega),h2.1,h2.2⟩
end VeT
