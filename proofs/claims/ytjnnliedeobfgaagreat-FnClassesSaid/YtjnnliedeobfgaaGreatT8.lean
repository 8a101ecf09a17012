import Derived.Test.YtjnnliedeobfgaaGreatT7
import Derived.Test.YtjnnliedeobfgaaGreatT6
set_option linter.unusedVariables false
set_option linter.unusedSimpArgs false
open Go Go.Proofs Ve
namespace VeT
theorem qnG(a b:List Int):qi1 n_Z90 [dB a,dB b] o_Z90 fun _=>True:=by
 refine qbZ ?_
 simp only[run_Z90,Z90.ev]
 exact qcJ (fun _=>qaU trivial) fun _=>qaU trivial
theorem qpR(c:List Int)(k n:Int)(hc:∀ b∈c,0≤b∧b≤255)(hk:0≤k):qi1 n_Z89 [dB c,dI k,dI n] o_Z89 fun(r:Int×Unit)=>0≤r.1∧(r.1<n∨r.1=0)∧r.1≤255:=by
 have jt:EvQ (fun φ=>Z89.j0 (mkR (run E (φ 0))) (φ 0) c k n true) o_Z89 fun(r:Int×Unit)=>0≤r.1∧(r.1<n∨r.1=0)∧r.1≤255:=by
  simp only[Z89.j0_eq _ qae]
  exact qlc rfl (qaU ⟨Int.le_refl _,.inr rfl,(by show(0:Int)≤255;omega)⟩)
 refine qbZ ?_
 simp only[run_Z89,Z89.ev]
 refine qcJ (fun _=>jt) fun hn=>?_
 by_cases hl:k≥(c.length:Int)
 ·have:decide (k≥(c.length:Int))=true:=decide_eq_true hl
  rw[← this] at jt;exact jt
 ·rw[decide_eq_false hl]
  simp only[Z89.j0_eq _ qae]
  obtain⟨j,rfl⟩:=Int.eq_ofNat_of_zero_le hk
  have hj:j<c.length:=by omega
  obtain⟨h1,h2⟩:=hc _ (List.getElem_mem hj)
  refine qiG rfl (qa9 (qak hj) (qaQ (by simp;omega) (qaU ?_)))
  have e:w64 c[j]=c[j]:=qaf (by omega) (by omega)
  show 0≤Int.tmod (w64 c[j]) n∧_
  have hn:1<n:=by omega
  have h3:=Int.emod_nonneg c[j] (show n≠0 by omega)
  have h4:=Int.emod_lt_of_pos c[j] (show 0<n by omega)
  have h5:c[j]%n≤c[j]:=by
   have h6:=Int.mul_ediv_add_emod c[j] n
   have h7:0≤n*(c[j] / n):=Int.mul_nonneg (by omega) (Int.ediv_nonneg h1 (by omega))
   generalize n*(c[j] / n)=y at h6 h7
   omega
  rw[e,Int.tmod_eq_emod_of_nonneg h1]
  exact⟨h3,.inl h4,by omega⟩
theorem qpS{c:List Int}(h:Wf (.sl (.int .u8)) c):∀ b∈c,0≤b∧b≤255:=(qre h).1
theorem qgv(a b:Sim)(hl:a.length≤1048576):Ret E n_Z91 [dL a,dL b] ⟨o_Z91,(pb (a=b),())⟩:=by
 refine qaj ?_
 simp only[run_Z91,Z91.ev]
 by_cases he:a.length=b.length
 ·refine qaI (by simp[he]) ?_
  refine Ev.start (p:=fun φ m=>Z91.l0 (mkR (run E (φ 0))) (φ 0) m a b 0=_) 1 ?_ (fun _ _ _ h=>h)
  have e:pb (a=b)=pb (∀ j,0≤j→j<a.length→a.getD j 0=b.getD j 0):=qaN ⟨fun h j _ _=>by rw[h],fun h=>qfF he fun i hi=>h i (by omega) hi⟩
  rw[e]
  refine qdN 1 (L:=fun φ m k=>Z91.l0 (mkR (run E (φ 0))) (φ 0) m a b k) (len:=a.length) 0 (by omega) (fun j=>a.getD j 0=b.getD j 0) (fun b=>some ⟨o_Z91,(b,())⟩) (fun _ _ _ _=>rfl) (fun k h1 h2 hP _=>?_) (fun k r h1 h2 hP _ ih=>?_) (fun _=>?_)
  ·simp only[Z91.l0_succ _ qae]
   have h3:k<b.length:=by omega
   rw[qag h2,qag h3] at hP
   exact qaC (decide_eq_true (by omega)) (qac (qak h2) (qac (qak h3) (qaC (by simpa using hP) qal)))
  ·simp only[Z91.l0_succ _ qae]
   have h3:k<b.length:=by omega
   rw[qag h2,qag h3] at hP
   refine qaC (decide_eq_true (by omega)) (qac (qak h2) (qac (qak h3) (qaI (by simpa using hP) ?_)))
   rw[qad (by omega)];exact ih
  ·simp only[Z91.l0_succ _ qae]
   exact qaI (decide_eq_false (by omega)) qal
 ·rw[qat fun e=>he (by rw[e])]
  exact qaC (by simp;omega) qal
theorem ql2(x:List Int)(h:Wf (.sl (.int .u8)) x):qi1 n_Z122 [dB x] o_Z122 fun(r:List Sim×Int×Sim×List Mat×Unit)=>ISh r∧S5 r.1:=by
 refine qbZ ?_
 simp only[run_Z122,Z122.ev]
 refine qaD (qiC x) ?_
 exact qbw (qnz 0 (x,0,0,()) (by omega) (qre h)) fun(r:Drw) ⟨b1,b2,b3⟩=>qaU ⟨b1,b2⟩
theorem qji(x:List Int)(h:Wf (.sl (.int .u8)) x)(W:Nat)(p:Int)(hW:W≤1000)(hp:2≤p∧p≤251):qi1 n_Z121 [dB x,dI (W:Int),dI p] o_Z121 fun(r:Sim×Unit)=>r.1.length=W∧qax r.1 p:=by
 refine qbZ ?_
 simp only[run_Z121,Z121.ev]
 refine qaD (qiC x) ?_
 refine EvQ.start 1 (L:=fun φ N=>Z121.l0 (mkR (run E (φ 0))) (φ 0) N (W:Int) p 0 [] x 0 0) ?_ (fun _ _ _=>rfl)
 refine EvQ.loop 1 (σ:=Nat×Sim×Src) (L:=fun φ N st=>Z121.l0 (mkR (run E (φ 0))) (φ 0) N (W:Int) p (st.1:Int) st.2.1 st.2.2.1 st.2.2.2.1 st.2.2.2.2.1) (fun _ _ _ _=>rfl)
  (fun st=>st.1≤W∧st.2.1.length=st.1∧qax st.2.1 p∧SO (2*st.1) st.2.2) (fun st=>W-st.1) (fun st hi ih=>?_) (0,[],(x,0,0,())) ⟨Nat.zero_le _,rfl,fun y hy=>by simp at hy,qre h⟩
 obtain⟨k,o,s2⟩:=st
 obtain⟨i1,i2,i3,i4⟩:=hi
 simp only at i1 i2 i3 i4 ih ⊢
 simp only[Z121.l0_succ _ qae]
 refine qcJ (fun h=>?_) fun h=>?_
 ·refine qbw (qbc _ s2 p (by omega) i4) fun(r:Int×Src×Unit) ⟨r1,r2,r3,r4⟩=>?_
  refine qaQ (decide_eq_true (by simp;omega)) ?_
  rw[qad (by omega)]
  refine ih (k+1,o++[r.1],r.2.1) ⟨by show k+1≤W;omega,by simp[i2],fun y hy=>?_,r4.le (by show 2*k+2≤2*(k+1);omega)⟩ (by show W-(k+1)<W-k;omega)
  rcases List.mem_append.1 hy with hy | hy
  ·exact i3 y hy
  ·rw[List.mem_singleton] at hy;subst hy;omega
 ·have:k=W:=by omega
  subst this
  exact qaU ⟨i2,i3⟩
theorem qpE{p s w b:Int}(hp:2≤p∧p≤251)(hw:0≤w∧w≤p-1)(hb:0≤b∧b≤p-1):Int.tmod (w64 (s%p+w64 (w*b))) p=(s+w*b)%p:=by
 have h0:=Int.emod_nonneg s (show p≠0 by omega)
 have h1:=Int.emod_lt_of_pos s (show 0<p by omega)
 have h2:0≤w*b:=Int.mul_nonneg hw.1 hb.1
 have h3:w*b≤250*250:=Int.mul_le_mul (by omega) (by omega) hb.1 (by omega)
 rw[qaf (n:=w*b) (by omega) (by omega),qaf (by omega) (by omega),Int.tmod_eq_emod_of_nonneg (by omega),Int.emod_add_emod]
theorem qo7{p s b:Int}(hp:2≤p∧p≤251)(hs:0≤s∧s≤p-1)(hb:0≤b∧b≤p-1):Int.tmod (w64 (s+b)) p=(s+b)%p:=by
 rw[qaf (by omega) (by omega),Int.tmod_eq_emod_of_nonneg (by omega)]
theorem qjU(x y:List Int)(wx:Wf (.sl (.int .u8)) x)(wy:Wf (.sl (.int .u8)) y):Ret E n_Z88 [dB x,dB y] ⟨.cons .bool .nil,(true,())⟩:=by
 refine qpQ (qbZ ?_)
 simp only[run_Z88,Z88.ev]
 refine qbw (qnG x y) fun _ _=>qg3 (fun _=>qks rfl) fun _=>?_
 refine qbw (ql2 x wx) fun(r:List Sim×Int×Sim×List Mat×Unit) ⟨hs,h5⟩=>?_
 obtain⟨c,p,st,ms,⟨⟩⟩:=r
 simp only at h5
 have hx:=hs.1.sm
 have hp:2≤p∧p≤251:=⟨hs.1.2.1.1,hs.1.2.1.2.1⟩
 refine qbw (qpR y 0 2 (qpS wy) (by omega)) fun(r:Int×Unit) ⟨k1,k2,_⟩=>?_
 obtain⟨k,⟨⟩⟩:=r
 simp only at k1 k2
 dsimp only
 have hk:0≤k∧k≤3:=by omega
 obtain⟨W,eW,bW,tW⟩:=qcb hs.1 k
 have eW':SD c st k=(W:Int):=eW
 have hB:qb5 (c,p,st,ms,()) k=(qeT (c,p,st,ms,()) k,0,()):=by unfold qb5;rw[if_pos (qhq.2 ⟨hs,hk⟩)]
 have hSS:∀ j:Int,0≤j→j≤3→qdB (c,p,st,ms,()) j=(SD c st j,0,()):=fun j h1 h2=>by unfold qdB;rw[if_pos hs.1,if_pos ⟨h1,h2⟩]
 have hcb:=qd7 (c,p,st,ms,()) k hx
 have hst:=qed (c,p,st,ms,()) k hx
 rw[hB] at hcb
 rw[hSS k k1 hk.2,eW'] at hst
 refine qaD hcb (qaD hst (qiG rfl ?_))
 have hbl:(qeT (c,p,st,ms,()) k).length≤W:=by
  have h1:=qea (p:=p) (W:=(SD c st k).toNat) (l:=qmr (c,p,st,ms,()) k) (h:=qct (c,p,st,ms,()) k)
  have h2:(qmr (c,p,st,ms,()) k).length≤W:=by
   have:=(qhg (k:=k) hs.1).2
   rw[tW] at this
   exact this
  have h1:(qeT (c,p,st,ms,()) k).length≤(qmr (c,p,st,ms,()) k).length:=h1
  omega
 refine qbw (qji y wy (qeT (c,p,st,ms,()) k).length p (by omega) hp) fun(r:Sim×Unit) ⟨w1,w2⟩=>?_
 obtain⟨want,⟨⟩⟩:=r
 simp only at w1 w2
 dsimp only
 have hmem:=fun v hv=>qj2 (k:=k) (v:=v) hs.1 hv
 have hno:=fun v hv=>qrl (k:=k) (v:=v) hs.1 hv
 have hsum:=qoA hs hk w1 w2
 have hplus:=fun(hk1:1≤k) (z:Sim)=>qny (y:=z) hs ⟨hk1,hk.2⟩ w1 w2
 rw[tW] at hsum hplus
 have hWt:(SD c st k).toNat=W:=tW
 generalize qeT (c,p,st,ms,()) k=bs at hmem hno hsum hplus hbl w1 ⊢
 rw[Int.toNat_natCast]
 refine qaQ (show(decide ((0:Int)≤(W:Int))&&decide ((W:Int)*8≤70368744177664))=true by simp only[Bool.and_eq_true,decide_eq_true_eq];omega) ?_
 have hrep:List.replicate W (0:Int)=qge p W bs want 0:=by
  refine qfF (by rw[qcy,List.length_replicate]) fun i hi=>?_
  rw[List.length_replicate] at hi
  rw[qeU hi,qfQ hi]
  exact(Int.zero_emod _).symm
 rw[hrep]
 -- the whole sum
 refine EvQ.start 1 (L:=fun φ N=>Z88.l0 (mkR (run E (φ 0))) (φ 0) N x k bs (W:Int) want 0 c p st ms (qge p W bs want 0)) ?_ (fun _ _ _=>rfl)
 refine EvQ.loop 1 (σ:=Nat) (L:=fun φ N i=>Z88.l0 (mkR (run E (φ 0))) (φ 0) N x k bs (W:Int) want (i:Int) c p st ms (qge p W bs want i)) (fun _ _ _ _=>rfl) (fun i=>i≤bs.length) (fun i=>bs.length-i) (fun i hi ih=>?_) 0 (Nat.zero_le _)
 simp only[Z88.l0_succ _ qae]
 refine qcJ (fun h=>?_) fun h=>?_
 ·have hib:i<bs.length:=by omega
  obtain⟨m1,m2,m3⟩:=hmem _ (List.getElem_mem hib)
  have m1l:bs[i].length=W:=by have:(bs[i].length:Int)=SD c st k:=m1.2;omega
  have hcob:=qeY (c,p,st,ms,()) k bs[i] hx (qcC (by omega))
  rw[hno _ (List.getElem_mem hib)] at hcob
  refine qa9 (qak hib) (qiG (by simp[m1l]) (qa9 (qak hib) (qaD hcob ?_)))
  simp only[Z88.j1_eq _ qae]
  refine qiG rfl ?_
  have hiw:i<want.length:=by omega
  have hwi:=w2 _ (List.getElem_mem hiw)
  refine EvQ.start 2 (L:=fun φ N=>Z88.l2 (mkR (run E (φ 0))) (φ 0) (φ 1) N x k bs (W:Int) want (i:Int) 0 c p st ms (qge p W bs want i)) ?_ (fun _ _ _=>rfl)
  refine EvQ.loop 2 (σ:=Nat×Sim) (L:=fun φ N s=>Z88.l2 (mkR (run E (φ 0))) (φ 0) (φ 1) N x k bs (W:Int) want (i:Int) (s.1:Int) c p st ms s.2) (fun _ _ _ _=>rfl)
   (fun s=>s.1≤W∧s.2.length=W∧∀ t,t<W→s.2.getD t 0=if t<s.1 then(qge p W bs want (i+1)).getD t 0 else(qge p W bs want i).getD t 0) (fun s=>W-s.1) (fun s hs2 ih2=>?_) (0,qge p W bs want i) ⟨Nat.zero_le _,qcy,fun t _=>by rw[if_neg (by show ¬ t<0;omega)]⟩
  obtain⟨j,o⟩:=s
  obtain⟨j1,j2,j3⟩:=hs2
  simp only at j1 j2 j3 ih2 ⊢
  simp only[Z88.l2_succ _ qae]
  refine qcJ (fun h2=>?_) fun h2=>?_
  ·have hj:j<o.length:=by omega
   have hjb:j<bs[i].length:=by omega
   have hbj:=m1.1 _ (List.getElem_mem hjb)
   have hc:(decide ((0:Int)≤(j:Int))&&decide ((j:Int)<(o.length:Int)))=true:=by simp only[Bool.and_eq_true,decide_eq_true_eq];omega
   have hoj:o[j]=(qge p W bs want i).getD j 0:=by
    have:=j3 j (by omega)
    rw[if_neg (by omega),qag hj] at this
    exact this
   rw[Int.toNat_natCast]
   refine qaQ hc (qa9 (List.getElem?_eq_getElem hj) (qa9 (qak hiw) (qa9 (qak hib) (qa9 (qak hjb) (qaQ (by simp;omega) (qaQ hc ?_))))))
   have hv:Int.tmod (w64 (o[j]+w64 ((want[i],()).1*(bs[i][j],()).1))) p=(qge p W bs want (i+1)).getD j 0:=by
    rw[hoj,qeU (by omega),qeU (by omega)]
    show Int.tmod (w64 (_+w64 (want[i]*bs[i][j]))) p=_
    rw[qpE hp hwi hbj]
    show _=(qaB (fun i=>want.getD i 0) (fun i=>qbC bs i j) i+want.getD i 0*qbC bs i j)%p
    rw[qag hiw,qmS hib]
    show _=(_+want[i]*(bs[i]).getD j 0)%p
    rw[qag hjb]
   rw[hv,qad (by omega)]
   refine ih2 (j+1,o.set j ((qge p W bs want (i+1)).getD j 0)) ⟨by show j+1≤W;omega,by rw[List.length_set];exact j2,fun t ht=>?_⟩ (by show W-(j+1)<W-j;omega)
   show(o.set j _).getD t 0=if t<j+1 then _ else _
   by_cases e:t=j
   ·subst e
    rw[if_pos (by omega),List.getD_eq_getElem?_getD,List.getElem?_set_self hj];rfl
   ·rw[List.getD_eq_getElem?_getD,List.getElem?_set_ne (fun h=>e h.symm),← List.getD_eq_getElem?_getD,j3 t ht]
    by_cases h3:t<j
    ·rw[if_pos h3,if_pos (by omega)]
    ·rw[if_neg h3,if_neg (by omega)]
  ·have hjW:j=W:=by omega
   subst hjW
   have ho:o=qge p j bs want (i+1):=qfF (by rw[qcy];exact j2) fun t ht=>by rw[j3 t (by omega),if_pos (by omega)]
   rw[ho,qad (by omega)]
   exact ih (i+1) hib (by omega)
 ·have hi2:i=bs.length:=by omega
  subst hi2
  clear ih
  have hxe:qax (qge p W bs want bs.length) p:=qiW hp.1
  have hxl:(qge p W bs want bs.length).length=W:=qcy
  have hcl:=qcP (c,p,st,ms,()) k (qge p W bs want bs.length) hx (qcC (by omega))
  rw[hsum] at hcl
  generalize qge p W bs want bs.length=xv at hcl hplus hxe hxl ⊢
  refine qaD hcl (qiG rfl (qaD (qgv want want (by omega)) ?_))
  rw[qaP (show want=want from rfl)]
  simp only[Z88.j3_eq _ qae]
  refine qiG rfl (qg3 (fun _=>qks rfl) fun hk0=>?_)
  have hk0:¬ k=0:=by simpa using hk0
  have hk1:k=1:=by omega
  subst hk1
  obtain⟨V,eV,bV,tV⟩:=qcb hs.1 0
  have eV':SD c st 0=(V:Int):=eV
  have hst0:=qed (c,p,st,ms,()) 0 hx
  rw[hSS 0 (by omega) (by omega),eV'] at hst0
  refine qaD hst0 ?_
  refine qbw (qji x wx V p (by omega) hp) fun(r:Sim×Unit) ⟨y1,y2⟩=>?_
  obtain⟨yv,⟨⟩⟩:=r
  simp only at y1 y2
  dsimp only
  have hyc:qfo (c,p,st,ms,()) 0 yv:=⟨y2,by show(yv.length:Int)=SD c st 0;omega⟩
  have hcd:=qe1 (c,p,st,ms,()) 0 yv hx (qcC (by omega))
  rw[show qaZ (c,p,st,ms,()) 0 yv=(qc2 (c,p,st,ms,()) 0 yv,0,()) by unfold qaZ;rw[if_pos (qcO.2 ⟨⟨hs,by omega,by omega⟩,hyc⟩)]] at hcd
  obtain⟨hp1,hp2⟩:=hplus (by omega) yv
  obtain⟨b,pb1,pb2,pb3⟩:=qpX (y:=yv) hs (k:=1) (by omega)
  have hdc:qfo (c,p,st,ms,()) 1 (qc2 (c,p,st,ms,()) 0 yv):=by
   have:=qkZ (k:=0) (v:=yv) hs.1
   exact this
  have e10:(1:Int)-1=0:=by omega
  rw[e10] at hp1 hp2 pb1 pb2 pb3
  refine qaD hcd ?_
  dsimp only
  generalize qc2 (c,p,st,ms,()) 0 yv=d at hp1 hp2 pb1 pb3 hdc ⊢
  have hde:qax d p:=hdc.1
  have hdl:d.length=W:=by have:(d.length:Int)=SD c st 1:=hdc.2;omega
  refine qaQ (show(decide ((0:Int)≤(W:Int))&&decide ((W:Int)*8≤70368744177664))=true by simp only[Bool.and_eq_true,decide_eq_true_eq];omega) ?_
  rw[Int.toNat_natCast]
  refine EvQ.start 1 (L:=fun φ N=>Z88.l4 (mkR (run E (φ 0))) (φ 0) N want d 0 0 c p st ms xv (List.replicate W 0)) ?_ (fun _ _ _=>rfl)
  refine EvQ.loop 1 (σ:=Nat×Sim) (L:=fun φ N s=>Z88.l4 (mkR (run E (φ 0))) (φ 0) N want d 0 (s.1:Int) c p st ms xv s.2) (fun _ _ _ _=>rfl)
   (fun s=>s.1≤W∧s.2.length=W∧∀ t,t<s.1→s.2.getD t 0=(qdK p xv d).getD t 0) (fun s=>W-s.1) (fun s hs2 ih2=>?_) (0,List.replicate W 0) ⟨Nat.zero_le _,List.length_replicate,fun t ht=>by have ht:t<0:=ht;omega⟩
  obtain⟨j,o⟩:=s
  obtain⟨j1,j2,j3⟩:=hs2
  simp only at j1 j2 j3 ih2 ⊢
  simp only[Z88.l4_succ _ qae]
  refine qcJ (fun h2=>?_) fun h2=>?_
  ·have hj:j<W:=by omega
   have ht:decide ((j:Int)<(d.length:Int))=true:=decide_eq_true (by omega)
   rw[ht]
   simp only[Z88.j5_eq _ qae]
   refine qlc rfl ?_
   have hjx:j<xv.length:=by omega
   have hjd:j<d.length:=by omega
   rw[Int.toNat_natCast]
   refine qaQ (by simp only[Bool.and_eq_true,decide_eq_true_eq];omega) (qa9 (List.getElem?_eq_getElem hjx) (qa9 (qak hjd) (qaQ (by simp;omega) (qaQ (by simp only[Bool.and_eq_true,decide_eq_true_eq];omega) ?_))))
   have hv:Int.tmod (w64 (xv[j]+(d[j],()).1)) p=(qdK p xv d).getD j 0:=by
    rw[qfJ hjx,qag hjx,qag hjd]
    exact qo7 hp (hxe _ (List.getElem_mem hjx)) (hde _ (List.getElem_mem hjd))
   rw[hv,qad (by omega)]
   refine ih2 (j+1,o.set j ((qdK p xv d).getD j 0)) ⟨by show j+1≤W;omega,by rw[List.length_set];exact j2,fun t ht=>?_⟩ (by show W-(j+1)<W-j;omega)
   have ht:t<j+1:=ht
   show(o.set j _).getD t 0=_
   by_cases e:t=j
   ·subst e
    rw[List.getD_eq_getElem?_getD,List.getElem?_set_self (by omega)];rfl
   ·rw[List.getD_eq_getElem?_getD,List.getElem?_set_ne (fun h=>e h.symm),← List.getD_eq_getElem?_getD]
    exact j3 t (by omega)
  ·have hjW:j=W:=by omega
   subst hjW
   have ho:o=qdK p xv d:=qfF (by rw[qeM];omega) fun t ht=>j3 t (by omega)
   subst ho
   clear ih2
   simp only[Z88.j5_eq _ qae]
   refine qiG rfl ?_
   have hzl:(qdK p xv d).length≤1048576:=by rw[qeM];omega
   have c1:=qcP (c,p,st,ms,()) 1 (qdK p xv d) hx (qcC hzl)
   have c2:=qc6 (c,p,st,ms,()) 1 d hx (qcC (by omega))
   have hbl2:b.length≤1048576:=by have:(b.length:Int)=SD c st 0:=pb2.2;omega
   have c3:=qe3 (c,p,st,ms,()) 0 b hx (qcC hbl2)
   have c4:=qgs (c,p,st,ms,()) 1 xv (qdK p xv d) hx (qcC (by omega)) (qcC hzl)
   rw[show qbv (c,p,st,ms,()) 1 (qdK p xv d)=(want,0,()) from hp1] at c1
   rw[show qcv (c,p,st,ms,()) 1 xv (qdK p xv d)=(true,()) from hp2] at c4
   rw[pb1] at c2
   rw[pb3] at c3
   have s1:=qgv want want (by omega)
   rw[qaP (show want=want from rfl)] at s1
   have s2:=qgv d d (by omega)
   rw[qaP (show d=d from rfl)] at s2
   exact qaD c1 (qaD c2 (qaD c3 (qlc rfl (qlc rfl (qaD s1 (qlc rfl (qaD c4 (qlc rfl (qlc rfl (qlc rfl (qaD s2 (qks rfl))))))))))))
theorem qqD(z:((.cons (.sl (.int .u8)) (.cons (.sl (.int .u8)) .nil)):Ty).T)(h:Wf (.cons (.sl (.int .u8)) (.cons (.sl (.int .u8)) .nil)) z) :
  Evt fun n=>run E n n_Z88 (qbp _ z)=some ⟨.cons .bool .nil,(true,())⟩:=qjU z.1 z.2.1 h.1 h.2.1
end VeT
