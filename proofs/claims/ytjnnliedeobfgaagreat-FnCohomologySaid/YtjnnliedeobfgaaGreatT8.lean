import Derived.Test.YtjnnliedeobfgaaGreatT7
import Derived.Test.YtjnnliedeobfgaaGreatT6
set_option linter.unusedVariables false
set_option linter.unusedSimpArgs false
open Go Go.Proofs Ve
namespace VeT
theorem qrr{c:List Sim}{k p:Int}(F:BdF c k p):bdR c k p≤32:=by
 have hB:EIn p (qak c (k-1) c.length).length (qak c k c.length).length (qbp (bdM c k p).2.2.2.1 (qak c k c.length).length):=qbo (qdT F.hp) qch
 have h:(elS p (qak c (k-1) c.length).length (qbp (bdM c k p).2.2.2.1 (qak c k c.length).length) (qak c k c.length).length).2.length≤(qak c (k-1) c.length).length:=(qc7 F.pr.1 hB _).2.1
 have:=F.ll
 unfold bdR rkM
 omega
theorem qjH{c:List Sim}{k p:Int}(F:BdF c k p):Ret E n_Z152 [dM (bdM c k p)] ⟨o_Z152,((bdR c k p:Int),())⟩:=by
 have h1:=F.lu
 have h2:=F.ll
 have:=Nat.mul_le_mul h2 h1
 exact qfQ p (qak c (k-1) c.length).length (qak c k c.length).length (bdM c k p).2.2.2.1 F.hp (by omega) (by omega) (by omega) qch (qdT F.hp)
theorem qlK{c:List Sim}{k p:Int}(F:BdF c k p)(F2:BdF c (k+1) p):Ret E n_Z170 [dC (c,()),dI k,dI p] ⟨o_Z170,(ql1 c p k,())⟩:=by
 have hk:=F.hk
 have r1:=qrr F
 have r2:=qrr F2
 have lu:=F.lu
 refine qal ?_
 simp only[run_Z170,Z170.ev,qad (n:=k+1) (by omega) (by omega)]
 refine qaa (qeX c k p F) (qaa (qeX c (k+1) p F2) (qaa (qjH F) (qaa (qjH F2) (qai ?_))))
 show some (⟨o_Z170,(w64 (w64 (((qak c k c.length).length:Int)-(bdR c k p:Int))-(bdR c (k+1) p:Int)),())⟩:Dv)=_
 rw[qad (n:=((qak c k c.length).length:Int)-(bdR c k p:Int)) (by omega) (by omega),qad (by omega) (by omega)]
 rfl
noncomputable def qdz(c:List Sim)(p:Int)(n:Nat):Sim:=(List.range n).map fun(k:Nat)=>ql1 c p (k:Int)
theorem qmA{c:List Sim}{p:Int}{n:Nat}:qdz c p (n+1)=qdz c p n++[ql1 c p (n:Int)]:=by unfold qdz;rw[List.range_succ,List.map_append];rfl
theorem qfW{c:List Sim}{p:Int}{n:Nat}:(qdz c p n).length=n:=by simp[qdz]
theorem qhn(c:List Sim)(p:Int)(hv:VC c)(hp:Pr p)(h32:∀ k:Int,(qak c k c.length).length≤32):Ret E n_Z129 [dLL c,dI p] ⟨o_Z129,(qdz c p 4,0,())⟩:=by
 have sc:=hv.sm
 have hH:∀ k:Int,0≤k→k≤3→HC c k p=0:=fun k h1 h2=>by
  unfold HC
  rw[if_pos ⟨hv,hp⟩,if_pos ⟨h1,h2⟩,if_pos (show Sm3 c k from fun t _ _=>h32 _)]
 have go:Ev fun φ=>Z129.j0 (mkR (run E (φ 0))) (φ 0) p false c=some ⟨o_Z129,(qdz c p 4,0,())⟩:=by
  simp only[Z129.j0_eq _ qag]
  refine qaJ rfl ?_
  refine Ev.start (p:=fun φ n=>Z129.l1 (mkR (run E (φ 0))) (φ 0) n p 0 c []=_) 1 ?_ (fun _ _ _ h=>h)
  refine qaq 1 (L:=fun φ n k o=>Z129.l1 (mkR (run E (φ 0))) (φ 0) n p k c o) (len:=4) (fun k=>qdz c p k) (fun _ _ _ _ _=>rfl) (fun k r hk ih=>?_) ?_
  ·simp only[Z129.l1_succ _ qag]
   rw[qmA] at ih
   have hz:=hH (k:Int) (by omega) (by omega)
   obtain⟨F,F2⟩:=qth sc hz
   refine qaD (decide_eq_true (by omega)) (qaa (qnV (c,()) k p sc) (qaJ (by rw[hz];rfl) (qaa (qlK F F2) (qar (decide_eq_true (by rw[qfW];simp;omega)) ?_))))
   rw[qae (by omega)]
   exact ih
  ·simp only[Z129.l1_succ _ qag]
   exact qaJ (decide_eq_false (by omega)) qam
 refine qal ?_
 simp only[run_Z129,Z129.ev]
 have h1:=qi5 (c,()) sc
 rw[qaI hv] at h1
 have h2:=qbS p
 rw[qaI hp] at h2
 exact qaa h1 (qaJ rfl (qaa h2 go))
theorem qsI{c:List Sim}(hv:VC c)(h5:S5 c)(k:Int):(qak c k c.length).length≤32:=by
 by_cases hk:0≤k∧k<4
 ·obtain⟨j,rfl⟩:=Int.eq_ofNat_of_zero_le hk.1
  have:=qkT hv h5 (d:=j) (by omega)
  omega
 ·have h:=qfN hv (List.replicate c.length ((1:Nat):Int)) (d:=k) (by omega)
  rw[qjq] at h;omega
theorem qhA(x y:List Int)(wx:Wf (.sl (.int .u8)) x)(wy:Wf (.sl (.int .u8)) y):Ret E n_Z98 [dB x,dB y] ⟨.cons .bool .nil,(true,())⟩:=by
 refine qqI (qb5 ?_)
 simp only[run_Z98,Z98.ev]
 refine qbL (qof x y) fun _ _=>qi3 (fun _=>qnb rfl) fun _=>?_
 refine qbL (qmW x wx) fun(r:List Sim×Int×Sim×List Mat×Unit) ⟨hs,h5⟩=>?_
 obtain⟨c,p,st,ms,⟨⟩⟩:=r
 simp only at h5
 have hx:=hs.1.sm
 have hp:2≤p∧p≤251:=⟨hs.1.2.1.1,hs.1.2.1.2.1⟩
 refine qbL (qqC y 0 3 (qq1 wy) (by omega)) fun(r:Int×Unit) ⟨k1,k2,_⟩=>?_
 obtain⟨k,⟨⟩⟩:=r
 simp only at k1 k2
 dsimp only
 have hk:0≤k∧k≤3:=by omega
 have hk2:k≤2:=by omega
 obtain⟨W,eW,bW,tW⟩:=qc5 hs.1 k
 have eW':SD c st k=(W:Int):=eW
 have hst:=qho (c,p,st,ms,()) k hx
 rw[show qdK (c,p,st,ms,()) k=((W:Int),0,()) by unfold qdK;rw[if_pos hs.1,if_pos hk];exact congrArg (fun z=>(z,(0:Int),())) eW] at hst
 refine qaH hst ?_
 refine qbL (qnW y wy W p (by omega) hp) fun(r:Sim×Unit) ⟨w1,w2⟩=>?_
 obtain⟨v,⟨⟩⟩:=r
 simp only at w1 w2
 have hvc:qmm (c,p,st,ms,()) k v:=⟨w2,by show(v.length:Int)=SD c st k;omega⟩
 have c1:=qfk (c,p,st,ms,()) k v hx (qfc (by omega))
 rw[show qbC (c,p,st,ms,()) k v=(qes (c,p,st,ms,()) k v,0,()) by unfold qbC;rw[if_pos (qeE.2 ⟨⟨hs,hk⟩,hvc⟩)]] at c1
 have c2:=qcy (c,p,st,ms,()) hx
 rw[show qbw (c,p,st,ms,())=(qmo (c,p,st,ms,()) 4,0,()) by unfold qbw;rw[if_pos hs]] at c2
 have c3:=qga (c,p,st,ms,()) hx
 rw[show qlm (c,p,st,ms,())=(EuN c st c.length,0,()) by unfold qlm;rw[if_pos hs]] at c3
 have c4:=qd7 (c,p,st,ms,()) k hx
 rw[show qb8 (c,p,st,ms,()) k=(qe2 (c,p,st,ms,()) k,0,()) by unfold qb8;rw[if_pos (qgK.2 ⟨hs,hk⟩)]] at c4
 have c5:=qfh (c,p,st,ms,()) k hx
 rw[show qcl (c,p,st,ms,()) k=(qml (c,p,st,ms,()) k,0,()) by unfold qcl;rw[if_pos (qgK.2 ⟨hs,hk⟩)]] at c5
 refine qaH c1 (qaH c2 (qaH c3 (qaH c4 (qaH c5 (qfl rfl ?_)))))
 dsimp only
 rw[qad (n:=k+1) (by omega) (by omega)]
 have hdc:=qlG (k:=k) (v:=v) hs.1
 have hdl:(qes (c,p,st,ms,()) k v).length≤32:=qil hs
 have hz:Zs (qes (c,p,st,ms,()) (k+1) (qes (c,p,st,ms,()) k v)):=by
  have:=qsz (k:=k+1) (y:=v) hs (by omega)
  rwa [show k+1-1=k by omega] at this
 have hprim:(qbV (c,p,st,ms,()) (k+1) (qes (c,p,st,ms,()) k v)).2.1=0:=by
  obtain⟨b,h1,_⟩:=qql (k:=k+1) (y:=v) hs (by omega)
  rw[show k+1-1=k by omega] at h1
  rw[h1]
 have d1:=qdP (c,p,st,ms,()) (k+1) (qes (c,p,st,ms,()) k v) hx (qfc (by omega))
 rw[show qcD (c,p,st,ms,()) (k+1) (qes (c,p,st,ms,()) k v)=(true,()) by unfold qcD;rw[qaI ⟨qeE.2 ⟨⟨hs,by omega,by omega⟩,hdc⟩,hz⟩]] at d1
 have d2:=qfm (c,p,st,ms,()) (k+1) (qes (c,p,st,ms,()) k v) hx (qfc (by omega))
 rw[show qd1 (c,p,st,ms,()) (k+1) (qes (c,p,st,ms,()) k v)=(true,()) by unfold qd1;rw[hprim];rfl] at d2
 have hsz:∀ j:Int,0≤j→j≤3→(qe2 (c,p,st,ms,()) j).length≤32:=fun j h1 h2=>by
  obtain⟨V,_,bV,tV⟩:=qc5 hs.1 j
  have h1:(qe2 (c,p,st,ms,()) j).length≤(qml (c,p,st,ms,()) j).length:=qd5
  have h2:(qml (c,p,st,ms,()) j).length≤V:=by
   have:=(qhN (k:=j) hs.1).2
   rw[tV] at this
   exact this
  omega
 have z0:=hsz 0 (by omega) (by omega)
 have z1:=hsz 1 (by omega) (by omega)
 have z2:=hsz 2 (by omega) (by omega)
 have z3:=hsz 3 (by omega) (by omega)
 have heu:((qe2 (c,p,st,ms,()) 0).length:Int)-((qe2 (c,p,st,ms,()) 1).length:Int)+((qe2 (c,p,st,ms,()) 2).length:Int)-((qe2 (c,p,st,ms,()) 3).length:Int)=EuN c st c.length:=qnS hs
 have i0:idx? (qmo (c,p,st,ms,()) 4) 0=some ((qe2 (c,p,st,ms,()) 0).length:Int):=rfl
 have i1:idx? (qmo (c,p,st,ms,()) 4) 1=some ((qe2 (c,p,st,ms,()) 1).length:Int):=rfl
 have i2:idx? (qmo (c,p,st,ms,()) 4) 2=some ((qe2 (c,p,st,ms,()) 2).length:Int):=rfl
 have i3:idx? (qmo (c,p,st,ms,()) 4) 3=some ((qe2 (c,p,st,ms,()) 3).length:Int):=rfl
 have ik:idx? (qmo (c,p,st,ms,()) 4) k=some ((qe2 (c,p,st,ms,()) k).length:Int):=by
  rcases(show k=0∨k=1∨k=2 by omega) with rfl | rfl | rfl
  ·exact i0
  ·exact i1
  ·exact i2
 have hck:(qe2 (c,p,st,ms,()) k).length≤(qml (c,p,st,ms,()) k).length:=qd5
 have hmem:=fun u hu=>qq2 (k:=k) (v:=u) hs.1 hu
 have hkl:(qml (c,p,st,ms,()) k).length≤W:=by
  have:=(qhN (k:=k) hs.1).2
  rw[tW] at this
  exact this
 refine qaH d1 (qfl rfl (qaH d2 (qfl rfl (qfl rfl (qfl (by rw[qiW];rfl) (qfl rfl (qbF i0 (qbF i1 (qbF i2 (qbF i3 ?_))))))))))
 refine qfl (by
  show(w64 (w64 (w64 (((qe2 (c,p,st,ms,()) 0).length:Int)-((qe2 (c,p,st,ms,()) 1).length:Int))+((qe2 (c,p,st,ms,()) 2).length:Int))-((qe2 (c,p,st,ms,()) 3).length:Int)) != EuN c st c.length)=false
  rw[qad (n:=((qe2 (c,p,st,ms,()) 0).length:Int)-((qe2 (c,p,st,ms,()) 1).length:Int)) (by omega) (by omega),qad (n:=((qe2 (c,p,st,ms,()) 0).length:Int)-((qe2 (c,p,st,ms,()) 1).length:Int)+((qe2 (c,p,st,ms,()) 2).length:Int)) (by omega) (by omega),qad (by omega) (by omega),heu]
  exact bne_self_eq_false _) (qfl rfl (qbF ik (qfl (bne_self_eq_false _) (qfl rfl ?_))))
 have hlt:decide (((qml (c,p,st,ms,()) k).length:Int)<((qe2 (c,p,st,ms,()) k).length:Int))=false:=decide_eq_false (by omega)
 rw[hlt]
 generalize qml (c,p,st,ms,()) k=ker at hmem hkl
 simp only[Z98.j0_eq _ qag]
 refine qfl rfl ?_
 refine EvQ.start 1 (L:=fun φ N=>Z98.l1 (mkR (run E (φ 0))) (φ 0) N k ker 0 c p st ms) ?_ (fun _ _ _=>rfl)
 refine EvQ.loop 1 (σ:=Nat) (L:=fun φ N i=>Z98.l1 (mkR (run E (φ 0))) (φ 0) N k ker (i:Int) c p st ms) (fun _ _ _ _=>rfl) (fun i=>i≤ker.length) (fun i=>ker.length-i) (fun i hi ih=>?_) 0 (Nat.zero_le _)
 simp only[Z98.l1_succ _ qag]
 refine qcU (fun h=>?_) fun h=>?_
 ·have hi':i<ker.length:=by omega
  obtain⟨m1,m2,m3⟩:=hmem _ (List.getElem_mem hi')
  have hl:ker[i].length≤1048576:=by have:(ker[i].length:Int)=SD c st k:=m1.2;omega
  have e1:=qdP (c,p,st,ms,()) k ker[i] hx (qfc hl)
  rw[show qcD (c,p,st,ms,()) k ker[i]=(true,()) by unfold qcD;rw[qaI ⟨qeE.2 ⟨⟨hs,hk⟩,m1⟩,m2⟩]] at e1
  refine qbF (qap hi') (qaH e1 (qfl rfl ?_))
  rw[qae (by omega)]
  exact ih (i+1) hi' (by omega)
 ·have hT:ISh (qd3 c p):=qnH hs.1.1 (qsv hs.1.1 h5 fun z hz=>by rw[(List.mem_replicate.1 hz).2];omega) hs.1.2.1 (by omega)
  have t1:=qeI (c,()) p 1 ⟨hs.1.1.sm,trivial⟩
  rw[show qbO (c,()) p 1=(c,p,List.replicate c.length ((1:Nat):Int),List.replicate (qbB c c.length).length (qbe p 1),0,()) by
   unfold qbO
   rw[if_pos ⟨hs.1.1,hs.1.2.1⟩,if_pos (by omega),if_pos (show SK c (List.replicate c.length (1:Int)) from hT.1.2.2.1)];rfl] at t1
  have t2:=qcy (qd3 c p) hT.1.sm
  rw[show qbw (qd3 c p)=(qmo (qd3 c p) 4,0,()) by unfold qbw;rw[if_pos hT]] at t2
  have t3:=qhn c p hs.1.1 hs.1.2.1 (qsI hs.1.1 h5)
  have e:qmo (qd3 c p) 4=qdz c p 4:=by
   unfold qmo qdz
   refine List.map_congr_left fun j hj=>?_
   have:=List.mem_range.1 hj
   exact qm5 hT (by omega)
  rw[e] at t2
  have t4:=qn5 (qdz c p 4) (qdz c p 4) (by rw[qfW];omega)
  rw[qaI (show qdz c p 4=qdz c p 4 from rfl)] at t4
  exact qaH t1 (qaH t2 (qaH t3 (qqo rfl (qqo rfl (qqo rfl (qaH t4 (qnb rfl)))))))
theorem qpw(z:((.cons (.sl (.int .u8)) (.cons (.sl (.int .u8)) .nil)):Ty).T)(h:Wf (.cons (.sl (.int .u8)) (.cons (.sl (.int .u8)) .nil)) z) :
  Evt fun n=>run E n n_Z98 (qbv _ z)=some ⟨.cons .bool .nil,(true,())⟩:=qhA z.1 z.2.1 h.1 h.2.1
end VeT
