import Derived.Test.YtjnnliedeobfgaaGreatT5
import Derived.Test.YtjnnliedeobfgaaGreatT4
set_option linter.unusedVariables false
set_option linter.unusedSimpArgs false
open Go Go.Proofs Ve
namespace VeT
theorem InR.mem{p:Int}{W:Nat}{rows:List Sim}{r:Sim}(h:r∈rows):InR p W rows r:=by
 obtain⟨i,hi,e⟩:=List.mem_iff_getElem.1 h
 have:qc2 rows i=fun j=>r.getD j 0:=by funext j;unfold qc2;rw[qag hi,e]
 unfold InR
 rw[← this]
 exact Spn.row hi
theorem InR.trans{p:Int}{W:Nat}{A B:List Sim}{y:Sim}(h:∀ r∈A,InR p W B r)(hy:InR p W A y):InR p W B y :=
 Spn.trans (fun i hi=>by
  have e:qc2 A i=fun j=>(A[i]).getD j 0:=by funext j;unfold qc2;rw[qag hi]
  rw[e]
  exact h _ (List.getElem_mem hi)) hy
def qg4(p:Int)(W:Nat)(A B:List Sim):Prop:=∀ y,InR p W A y↔InR p W B y
theorem qg4.refl{p:Int}{W:Nat}{A:List Sim}:qg4 p W A A:=fun _=>Iff.rfl
theorem qg4.append{p:Int}{W:Nat}{A B:List Sim}{x:Sim}(h:qg4 p W A B):qg4 p W (A++[x]) (B++[x]):=by
 have key:∀ A B:List Sim,qg4 p W A B→∀ y,InR p W (A++[x]) y→InR p W (B++[x]) y:=fun A B h y hy=>InR.trans (fun r hr=>by
  rcases List.mem_append.1 hr with hr | hr
  ·exact InR.trans (fun r hr=>InR.mem (List.mem_append.2 (.inl hr))) ((h r).1 (InR.mem hr))
  ·exact InR.mem (List.mem_append.2 (.inr hr))) hy
 exact fun y=>⟨key A B h y,key B A (fun y=>(h y).symm) y⟩
theorem qoW{p:Int}{W:Nat}{rows:List Sim}(hp:2≤p)(hr:Rws p W rows):Rws p W (bas p W rows)∧(bas p W rows).length≤W:=by
 have hA:=qfE hr
 obtain⟨hF,h1,h2,h3⟩:=qd7 hp hA W
 unfold bas qpo
 refine⟨fun x hx=>?_,by rw[qax];exact h2⟩
 obtain⟨i,hi,rfl⟩:=List.mem_map.1 hx
 have hi:=List.mem_range.1 hi
 refine⟨by simp,fun y hy=>?_⟩
 obtain⟨j,hj,rfl⟩:=List.mem_map.1 hy
 exact hF i j (by omega) (List.mem_range.1 hj)
theorem qom{p:Int}{W:Nat}{rows:List Sim}(hp:Pr p)(hr:Rws p W rows):qg4 p W (bas p W rows) rows:=by
 have hA:=qfE hr
 obtain⟨hrf,heq⟩:=qfT hp hA W (Nat.le_refl _)
 unfold bas qpo
 generalize elS p rows.length (qc2 rows) W=S at hrf heq
 obtain⟨F,pv⟩:=S
 simp only at hrf heq ⊢
 have hent:∀ i j,i<pv.length→j<W→qc2 (qaA F pv.length W) i j=F i j:=fun i j hi hj=>by
  unfold qc2
  have e1:(qaA F pv.length W).getD i []=(List.range W).map (F i):=by rw[List.getD_eq_getElem?_getD,qa6 hi];rfl
  rw[e1,List.getD_eq_getElem?_getD,qfN hj];rfl
 refine fun y=>⟨fun h=>?_,fun h=>?_⟩
 ·refine Spn.trans (fun i hi=>?_) h
  rw[qax] at hi
  exact(heq.1 i (Nat.lt_of_lt_of_le hi hrf.len)).congr fun j hj=>by rw[hent i j hi hj]
 ·obtain⟨c,hc⟩:=Spn.trans heq.2 h
  refine⟨c,fun j hj=>?_⟩
  rw[qax,← hc j hj,qfg hrf.len fun i h1 h2=>hrf.bot i j h1 h2 hj,qaw (d:=c) (h:=fun i=>F i j) fun i hi=>⟨rfl,hent i j hi hj⟩]
open Classical in
noncomputable def qeZ(p:Int)(W:Nat):List Sim→List Sim→List Sim
 | _,[]=>[]
 | h,x::xs=>if InR p W h x then qeZ p W h xs else x::qeZ p W (h++[x]) xs
theorem qeX{p:Int}{W:Nat}:∀ {l h:List Sim} {x:Sim},x∈qeZ p W h l→x∈l
 | [],h,x,hx=>by simp[qeZ] at hx
 | y::l,h,x,hx=>by
  unfold qeZ at hx
  split at hx
  ·exact List.mem_cons_of_mem _ (qeX hx)
  ·rcases List.mem_cons.1 hx with rfl | hx
   ·exact List.mem_cons_self
   ·exact List.mem_cons_of_mem _ (qeX hx)
theorem qdj{p:Int}{W:Nat}:∀ {l h:List Sim},(qeZ p W h l).length≤l.length
 | [],h=>by simp[qeZ]
 | y::l,h=>by
  unfold qeZ
  split
  ·have:=qdj (p:=p) (W:=W) (l:=l) (h:=h);simp;omega
  ·have:=qdj (p:=p) (W:=W) (l:=l) (h:=h++[y]);simp;omega
theorem qdT(p:Int)(W:Nat)(rows list:List Sim)(hp:Pr p)(hW:W≤1048575)(hR:rows.length≤1048576)(hr:Rws p W rows)(hl:list.length≤1048576)(hls:Rws p W list) :
    Ret E n_Z36 [dI p,dI (W:Int),dLL (bas p W rows),dLL list] ⟨o_Z36,(qeZ p W rows list,())⟩:=by
  have hp2:2≤p∧p≤251:=⟨hp.1,hp.2.1⟩
  refine qal ?_
  simp only[run_Z36,Z36.ev]
  have key:∀ d k (g h taken:List Sim),k+d=list.length→Rws p W g→g.length≤1048576→qg4 p W g h→taken.length≤k →
      Ev fun φ=>Z36.l0 (mkR (run E (φ 0))) (φ 0) (φ 1) list (list.length:Int) (k:Int) p (W:Int) (bas p W g) taken=some ⟨o_Z36,(taken++qeZ p W h (list.drop k),())⟩:=by
    intro d
    induction d with
    | zero =>
      intro k g h taken hk hg hgl hs ht
      refine Ev.round 1 (L:=fun φ n=>Z36.l0 (mkR (run E (φ 0))) (φ 0) n list (list.length:Int) (k:Int) p (W:Int) (bas p W g) taken) ?_ (fun _ _ _=>rfl)
      simp only[Z36.l0_succ _ qaf]
      rw[List.drop_of_length_le (by omega),qeZ,List.append_nil]
      exact qaE (decide_eq_false (by omega)) qam
    | succ d ih =>
      intro k g h taken hk hg hgl hs ht
      have hkl:k<list.length:=by omega
      obtain⟨hx1,hx2⟩:=hls _ (List.getElem_mem hkl)
      refine Ev.round 1 (L:=fun φ n=>Z36.l0 (mkR (run E (φ 0))) (φ 0) n list (list.length:Int) (k:Int) p (W:Int) (bas p W g) taken) ?_ (fun _ _ _=>rfl)
      simp only[Z36.l0_succ _ qaf]
      rw[List.drop_eq_getElem_cons hkl,qeZ]
      refine qaC (decide_eq_true (by omega)) (qae (qaq hkl) (qaa (qjC p W g list[k] hp (by omega) hgl hg hx2 hx1) (qfs (fun hc=>?_) fun hc=>?_)))
      · have hc:=qc6.1 (show pb (InR p W g list[k])=false by simpa using hc)
        rw[if_neg fun e=>hc ((hs _).2 e)]
        obtain⟨b1,b2⟩:=qoW hp.1 hg
        have hg2:Rws p W (bas p W g++[list[k]]):=fun r hr=>by
          rcases List.mem_append.1 hr with hr | hr
          · exact b1 r hr
          · rw[List.mem_singleton] at hr;subst hr;exact⟨hx1,hx2⟩
        have hs2:qg4 p W (bas p W g++[list[k]]) (h++[list[k]]):=qg4.append fun y=>(qom hp hg y).trans (hs y)
        have hih:=ih (k+1) (bas p W g++[list[k]]) (h++[list[k]]) (taken++[list[k]]) (by omega) hg2 (by rw[List.length_append,List.length_singleton];omega) hs2 (by rw[List.length_append,List.length_singleton];omega)
        rw[List.append_assoc,List.singleton_append] at hih
        have hsp:=qgV p W (bas p W g++[list[k]]) hp2 (by rw[List.length_append,List.length_singleton];omega) (by omega) hg2
        have hcl:=qdB (bas p W g) (by omega) fun x hx=>by rw[(b1 x hx).1];omega
        have hih:Ev fun φ=>Z36.l0 (mkR (run E (φ 0))) (φ 0) (φ 1) list (list.length:Int) (w64 ((k:Int)+1)) p (W:Int) (bas p W (bas p W g++[list[k]])) (taken++[list[k]])=some ⟨o_Z36,(taken++list[k]::qeZ p W (h++[list[k]]) (list.drop (k+1)),())⟩:=by
          rw[qah (by omega)];exact hih
        refine qan (by simp only[List.length_singleton,decide_eq_true_eq];omega) (qeB (qaa hcl (qan ?_ (qaa hsp hih))) (qaa hcl (qan ?_ (qaa hsp hih))))
        all_goals (simp only[List.length_singleton,decide_eq_true_eq];omega)
      · have hc:=qa2.1 (show pb (InR p W g list[k])=true by simpa using hc)
        rw[if_pos ((hs _).1 hc),qah (by omega)]
        exact ih (k+1) g h taken (by omega) hg hgl hs (by omega)
  refine Ev.start (p:=fun φ n=>Z36.l0 (mkR (run E (φ 0))) (φ 0) n list (list.length:Int) 0 p (W:Int) (bas p W rows) []=_) 1 ?_ (fun _ _ _ h=>h)
  exact key list.length 0 rows rows [] (by omega) hr hR qg4.refl (Nat.le_refl _)
end VeT
open Go Go.Proofs Ve
namespace VeT
def qm2(p:Int)(W:Nat)(cells:Sim)(h:List Sim):Prop:=(cells.length=W*h.length∧qaR cells p)∧∀ i j,i<W→j<h.length→qb2 cells h.length i j=qc2 h j i
theorem qm2.slv{p:Int}{W:Nat}{cells:Sim}{h:List Sim}{v:Sim}(hc:qm2 p W cells h):Slv p W h.length (qb2 cells h.length) (fun i=>v.getD i 0)↔InR p W h v:=by
 have e:∀(y:Nat→Int) i,i<W→qaF y (qb2 cells h.length i) h.length=qaF y (fun j=>qc2 h j i) h.length:=fun y i hi=>qaw fun j hj=>⟨rfl,hc.2 i j hi hj⟩
 exact⟨fun⟨y,hy⟩=>⟨y,fun i hi=>by rw[← e y i hi];exact hy i hi⟩,fun⟨y,hy⟩=>⟨y,fun i hi=>by rw[e y i hi];exact hy i hi⟩⟩
theorem qm2.next{p:Int}{W:Nat}{cells:Sim}{h:List Sim}{v:Sim}(hc:qm2 p W cells h)(hv:qaR v p)(hl:v.length=W):qm2 p W (qf5 cells v h.length W) (h++[v]):=by
 have hlen:(h++[v]).length=h.length+1:=by simp
 have hA0:=qcz hc.1.2 hc.1.1
 have hA1:=qkE hA0 hv hl
 refine⟨⟨by rw[hlen];exact qaz,fun x hx=>?_⟩,fun i j hi hj=>?_⟩
 ·unfold qf5 at hx
  rw[← qcn] at hx
  obtain⟨row,hrow,hx⟩:=List.mem_flatten.1 hx
  obtain⟨i,hi,rfl⟩:=List.mem_map.1 hrow
  obtain⟨j,hj,rfl⟩:=List.mem_map.1 hx
  exact hA1 i j (List.mem_range.1 hi) (List.mem_range.1 hj)
 ·rw[hlen] at hj ⊢
  unfold qf5
  rw[qcu hi hj]
  unfold qmo qc2
  by_cases hjh:j<h.length
  ·rw[if_neg (by omega),hc.2 i j hi hjh,List.getD_eq_getElem?_getD (l:=h++[v]),List.getElem?_append_left hjh,← List.getD_eq_getElem?_getD];rfl
  ·obtain rfl:j=h.length:=by omega
   rw[if_pos rfl,List.getD_eq_getElem?_getD (l:=h++[v]),List.getElem?_append_right (Nat.le_refl _)];simp
theorem qlS{p:Int}{W C:Nat}{cells:Sim}(hl:cells.length=W*C)(he:qaR cells p):qm2 p W cells (qhG W C cells)∧(qhG W C cells).length=C∧Rws p W (qhG W C cells):=by
 have hlen:(qhG W C cells).length=C:=by simp[qhG]
 have hA:=qcz he hl
 refine⟨⟨⟨by rw[hlen];exact hl,he⟩,fun i j hi hj=>?_⟩,hlen,fun x hx=>?_⟩
 ·rw[hlen] at hj ⊢
  have e:(qhG W C cells).getD j []=(List.range W).map fun i=>cells.getD (i*C+j) 0:=by
   unfold qhG
   rw[List.getD_eq_getElem?_getD,List.getElem?_map,List.getElem?_range hj];rfl
  unfold qc2
  rw[e,List.getD_eq_getElem?_getD,List.getElem?_map,List.getElem?_range hi];rfl
 ·obtain⟨i,hi,rfl⟩:=List.mem_map.1 hx
  refine⟨by simp,fun y hy=>?_⟩
  obtain⟨j,hj,rfl⟩:=List.mem_map.1 hy
  exact hA j i (List.mem_range.1 hj) (List.mem_range.1 hi)
theorem qjc(p:Int)(W:Nat)(cells:Sim)(h:List Sim)(v:Sim)(hp:Pr p)(hW:W≤64)(hh:h.length≤4096)(hc:qm2 p W cells h)(hv:qaR v p)(hl:v.length=W) :
  Ret E n_Z132 [dM (p,(W:Int),(h.length:Int),cells,()),dL v] ⟨o_Z132,(pb (InR p W h v),())⟩:=by
 have hm:W*(h.length+1)≤64*4097:=Nat.mul_le_mul hW (by omega)
 have hs:=qjA p W h.length cells v ⟨hp.1,hp.2.1⟩ (by omega) (by omega) (by omega) hc.1.1 hc.1.2 hl hv
 have hi:=(qoq hp hc.1.1 hc.1.2 hl hv).1.trans hc.slv
 refine qal ?_
 simp only[run_Z132,Z132.ev]
 refine qaa hs (qap ?_)
 cases hq:qpk p W h.length cells v with
 | none =>
  rw[qav fun e=>hi.2 e hq];rfl
 | some y =>
  rw[qaB (hi.1 (by rw[hq];exact fun e=>by cases e))];rfl
theorem qkh(p:Int)(W:Nat)(cells:Sim)(h:List Sim)(v:Sim)(hW:W≤64)(hh:h.length≤4096)(hc:qm2 p W cells h)(hl:v.length=W) :
  Ret E n_Z133 [dM (p,(W:Int),(h.length:Int),cells,()),dL v] ⟨o_Z133,(p,(W:Int),((h.length+1:Nat):Int),qf5 cells v h.length W,())⟩:=by
 have hm:W*(h.length+1)≤64*4097:=Nat.mul_le_mul hW (by omega)
 refine qal ?_
 simp only[run_Z133,Z133.ev]
 exact qaa (qgM p W h.length cells v (by omega) (by omega) (by omega) hc.1.1 hl) qam
theorem qhF(p:Int)(W:Nat)(cells:Sim)(h list:List Sim)(hp:Pr p)(hW:W≤64)(hh:h.length+list.length≤4096)(hc:qm2 p W cells h)(hls:Rws p W list) :
    Ret E n_Z129 [dI p,dI (W:Int),dI (h.length:Int),dL cells,dLL list] ⟨o_Z129,(qeZ p W h list,())⟩:=by
  refine qal ?_
  simp only[run_Z129,Z129.ev]
  have key:∀ d k (cells:Sim) (h taken:List Sim),k+d=list.length→h.length+d≤4096→qm2 p W cells h→taken.length≤k →
      Ev fun φ=>Z129.l0 (mkR (run E (φ 0))) (φ 0) (φ 1) list (k:Int) p (W:Int) (h.length:Int) cells taken=some ⟨o_Z129,(taken++qeZ p W h (list.drop k),())⟩:=by
    intro d
    induction d with
    | zero =>
      intro k cells h taken hk hb hc ht
      refine Ev.round 1 (L:=fun φ n=>Z129.l0 (mkR (run E (φ 0))) (φ 0) n list (k:Int) p (W:Int) (h.length:Int) cells taken) ?_ (fun _ _ _=>rfl)
      simp only[Z129.l0_succ _ qaf]
      rw[List.drop_of_length_le (by omega),qeZ,List.append_nil]
      exact qaE (decide_eq_false (by omega)) qam
    | succ d ih =>
      intro k cells h taken hk hb hc ht
      have hkl:k<list.length:=by omega
      obtain⟨hx1,hx2⟩:=hls _ (List.getElem_mem hkl)
      refine Ev.round 1 (L:=fun φ n=>Z129.l0 (mkR (run E (φ 0))) (φ 0) n list (k:Int) p (W:Int) (h.length:Int) cells taken) ?_ (fun _ _ _=>rfl)
      simp only[Z129.l0_succ _ qaf]
      rw[List.drop_eq_getElem_cons hkl,qeZ]
      refine qaC (decide_eq_true (by omega)) (qae (qaq hkl) (qaa (qjc p W cells h list[k] hp hW (by omega) hc hx2 hx1) (qfs (fun hq=>?_) fun hq=>?_)))
      · have hq:=qc6.1 (show pb (InR p W h list[k])=false by simpa using hq)
        rw[if_neg hq]
        have hih:=ih (k+1) (qf5 cells list[k] h.length W) (h++[list[k]]) (taken++[list[k]]) (by omega) (by rw[List.length_append,List.length_singleton];omega) (hc.next hx2 hx1) (by rw[List.length_append,List.length_singleton];omega)
        rw[List.append_assoc,List.singleton_append,List.length_append,List.length_singleton] at hih
        refine qae (qaq hkl) (qaa (qde list[k] (by omega)) (qan (by simp only[List.length_singleton,decide_eq_true_eq];omega) (qae (qaq hkl) (qaa (qkh p W cells h list[k] hW (by omega) hc hx1) ?_))))
        rw[qah (by omega)];exact hih
      · have hq:=qa2.1 (show pb (InR p W h list[k])=true by simpa using hq)
        rw[if_pos hq,qah (by omega)]
        exact ih (k+1) cells h taken (by omega) (by omega) hc (by omega)
  refine Ev.start (p:=fun φ n=>Z129.l0 (mkR (run E (φ 0))) (φ 0) n list 0 p (W:Int) (h.length:Int) cells []=_) 1 ?_ (fun _ _ _ h=>h)
  exact key list.length 0 cells h [] (by omega) hh hc (Nat.le_refl _)
end VeT
open Go Go.Proofs Ve
namespace VeT
theorem InR.left{p:Int}{W:Nat}{A B:List Sim}{x:Sim}(h:InR p W A x):InR p W (A++B) x:=InR.trans (fun r hr=>InR.mem (List.mem_append.2 (.inl hr))) h
theorem qhC{p:Int}{W:Nat}:∀ {l h:List Sim} {x:Sim},x∈l→InR p W (h++qeZ p W h l) x
 | [],h,x,hx=>by simp at hx
 | y::l,h,x,hx=>by
  unfold qeZ
  split
  ·rename_i hy
   rcases List.mem_cons.1 hx with rfl | hx
   ·exact hy.left
   ·exact qhC hx
  ·rcases List.mem_cons.1 hx with rfl | hx
   ·exact InR.mem (List.mem_append.2 (.inr List.mem_cons_self))
   ·have:=qhC (p:=p) (W:=W) (h:=h++[y]) hx
    rwa [List.append_assoc,List.singleton_append] at this
end VeT
open Go Go.Proofs Ve
namespace VeT
theorem qmq{p:Int}{W:Nat}{pv:List Nat}{F:Ent}:∀ {n c:Nat},c<n→c∉pv→qi8 p W pv F c pv.length∈qi1 p W pv F n
 | n+1,c,h,hc=>by
  rw[qi1,List.mem_append]
  by_cases e:c=n
  ·subst e
   right;rw[if_neg hc];exact List.mem_singleton.2 rfl
  ·exact .inl (qmq (by omega) hc)
theorem qnc{p:Int}{R W c:Nat}{pv:List Nat}{F:Ent}(hrf:Rf R W F pv):∀ n,n≤pv.length→∀ i,i<n→(qi8 p W pv F c n).getD (pv.getD i 0) 0=(0-F i c)%p
 | 0,_,i,hi=>by omega
 | n+1,hn,i,hi=>by
  have hq:=hrf.lt n (by omega)
  rw[qc9,qci (by rw[qbJ];exact hq)]
  by_cases e:i=n
  ·subst e;rw[if_pos rfl]
  ·have:=hrf.mono i n (by omega) (by omega)
   rw[if_neg (by omega)];exact qnc hrf n (by omega) i (by omega)
theorem qjs{p:Int}{R W c j:Nat}{pv:List Nat}{F:Ent}(hrf:Rf R W F pv)(hj:j<W)(hjp:j∉pv)(hc:c<W):∀ n,n≤pv.length→(qi8 p W pv F c n).getD j 0=if j=c then 1 else 0
 | 0,_=>by
  show((List.replicate W (0:Int)).set c 1).getD j 0=_
  rw[qci (by simpa using hc)]
  split
  ·rfl
  ·rw[List.getD_eq_getElem?_getD,List.getElem?_replicate,if_pos hj];rfl
 | n+1,hn=>by
  have hq:=hrf.lt n (by omega)
  rw[qc9,qci (by rw[qbJ];exact hq),if_neg fun e=>hjp (by rw[e];exact qdp (by omega))]
  exact qjs hrf hj hjp hc n (by omega)
theorem qpw{pv:List Nat}{j:Nat}(h:j∈pv):∃ i,i<pv.length∧pv.getD i 0=j:=by
 obtain⟨i,hi,e⟩:=List.mem_iff_getElem.1 h
 exact⟨i,hi,by rw[qag hi];exact e⟩
open Classical in
theorem qnC{p:Int}{R W:Nat}{cells x:Sim}(hp:Pr p)(hl:cells.length=R*W)(he:qaR cells p)(h0:∀ i,i<R→qaF (fun j=>x.getD j 0) (qb2 cells W i) W%p=0):InR p W (qor p R W cells) x:=by
  have hA:=qcz he hl
  obtain⟨hrf,heq⟩:=qfT hp hA W (Nat.le_refl _)
  have hF0:∀ i,i<R→qaF (fun j=>x.getD j 0) ((elS p R (qb2 cells W) W).1 i) W%p=0:=fun i hi=>Spn.orth h0 (heq.1 i hi)
  unfold qor
  generalize elS p R (qb2 cells W) W=S at hrf hF0
  obtain⟨F,pv⟩:=S
  simp only at hrf hF0 ⊢
  let K:Ent:=fun c j=>if c∈pv then 0 else(qi8 p W pv F c pv.length).getD j 0
  refine(Spn.sum (c:=fun j=>x.getD j 0) (B:=K) (n:=W) fun c hc=>?_).congr fun j hj=>?_
  · by_cases h:c∈pv
    · rw[show K c=fun _=>0 by funext j;simp[K,h]];exact Spn.zero
    · rw[show K c=fun j=>(qi8 p W pv F c pv.length).getD j 0 by funext j;simp[K,h]]
      exact InR.mem (qmq hc h)
  · show qaF (fun j=>x.getD j 0) (fun c=>K c j) W%p=x.getD j 0%p
    by_cases hjp:j∈pv
    · obtain⟨i,hi,rfl⟩:=qpw hjp
      have hiR:i<R:=Nat.lt_of_lt_of_le hi hrf.len
      have e:qaF (fun j=>x.getD j 0) (fun c=>F i c+K c (pv.getD i 0)) W%p=qaF (fun j=>x.getD j 0) (fun c=>if c=pv.getD i 0 then 1 else 0) W%p:=qbU fun c hc=>by
        by_cases hcp:c∈pv
        · obtain⟨k,hk,rfl⟩:=qpw hcp
          have h1:=hrf.one i k hiR hk
          rw[show K (pv.getD k 0) (pv.getD i 0)=0 from if_pos hcp,Int.add_zero,h1]
          by_cases hik:i=k
          · subst hik;simp
          · rw[if_neg hik,if_neg]
            intro e
            rcases Nat.lt_or_gt_of_ne hik with h | h
            · have:=hrf.mono i k h hk;omega
            · have:=hrf.mono k i h hi;omega
        · rw[show K c (pv.getD i 0)=(0-F i c)%p from(if_neg hcp).trans (qnc hrf pv.length (Nat.le_refl _) i hi),if_neg fun e=>hcp (by rw[e];exact qdp hi),Int.add_emod,Int.emod_emod_of_dvd _ (Int.dvd_refl p),← Int.add_emod,show F i c+(0-F i c)=0 by omega]
      rw[qe7,Int.add_emod,hF0 i hiR,Int.zero_add,Int.emod_emod_of_dvd _ (Int.dvd_refl p),qaJ (g:=fun c=>if c=pv.getD i 0 then 1 else 0),qcc (hrf.lt i hi)] at e
      exact e
    · rw[qaw (d:=fun j=>x.getD j 0) (h:=fun c=>if c=j then 1 else 0) fun c hc=>⟨rfl,by
        by_cases hcp:c∈pv
        · rw[show K c j=0 from if_pos hcp,if_neg fun(e:c=j)=>hjp (by rw[← e];exact hcp)]
        · rw[show K c j=if j=c then 1 else 0 from(if_neg hcp).trans (qjs hrf hj hjp hc pv.length (Nat.le_refl _))]
          by_cases e:j=c
          · rw[if_pos e,if_pos e.symm]
          · rw[if_neg e,if_neg fun e2=>e e2.symm]⟩,qaJ,qcc hj]
end VeT
open Go Go.Proofs Ve
namespace VeT
end VeT
open Go Go.Proofs Ve
namespace VeT
open Classical in
noncomputable def cnt(f:Nat→Prop):Nat→Nat
 | 0=>0
 | n+1=>cnt f n+if f n then 1 else 0
theorem qgs{f g:Nat→Prop}:∀ {n:Nat},(∀ c,c<n→f c→g c)→cnt f n≤cnt g n
 | 0,_=>Nat.le_refl _
 | n+1,h=>by
  have:=qgs (n:=n) fun c hc=>h c (by omega)
  unfold cnt
  by_cases hf:f n
  ·rw[if_pos hf,if_pos (h n (by omega) hf)];omega
  ·rw[if_neg hf];omega
theorem qd0{f g:Nat→Prop}{n:Nat}(h:∀ c,c<n→(f c↔g c)):cnt f n=cnt g n :=
 Nat.le_antisymm (qgs fun c hc=>(h c hc).1) (qgs fun c hc=>(h c hc).2)
theorem qld{f:Nat→Prop}:∀ {n:Nat},(∀ c,c<n→¬ f c)→cnt f n=0
 | 0,_=>rfl
 | n+1,h=>by
  unfold cnt
  rw[qld fun c hc=>h c (by omega),if_neg (h n (by omega))]
theorem qkZ{f:Nat→Prop}{k:Nat}:∀ {n:Nat},k<n→¬ f k→cnt (fun c=>f c∨c=k) n=cnt f n+1
 | 0,h,_=>by omega
 | n+1,h,hk=>by
  unfold cnt
  by_cases e:k=n
  ·subst e
   have:cnt (fun c=>f c∨c=k) k=cnt f k:=qd0 fun c hc=>⟨fun h=>h.elim id fun e=>by omega,.inl⟩
   rw[this,if_pos (.inr rfl),if_neg hk]
  ·rw[qkZ (by omega) hk]
   by_cases hf:f n
   ·rw[if_pos (.inl hf),if_pos hf]
   ·rw[if_neg (fun h=>h.elim hf fun e'=>e e'.symm),if_neg hf]
theorem qi4{W:Nat}:∀ {l:List Nat},l.Nodup→(∀ c∈l,c<W)→cnt (fun c=>c∈l) W=l.length
 | [],_,_=>qld fun c _ h=>by cases h
 | a::l,hn,hl=>by
  obtain⟨h1,h2⟩:=List.nodup_cons.1 hn
  have e:=qi4 h2 fun c hc=>hl c (List.mem_cons_of_mem _ hc)
  rw[List.length_cons,← e,← qkZ (hl a List.mem_cons_self) h1]
  exact qd0 fun c _=>by rw[List.mem_cons];exact Or.comm
def Ld(p:Int)(W:Nat)(V:(Nat→Int)→Prop)(c:Nat):Prop:=c<W∧∃ x,V x∧(∀ j,j<c→x j%p=0)∧x c%p≠0
noncomputable def rkV(p:Int)(W:Nat)(V:(Nat→Int)→Prop):Nat:=cnt (Ld p W V) W
theorem Ld.mono{p:Int}{W:Nat}{V V':(Nat→Int)→Prop}(h:∀ x,V x→V' x){c:Nat}:Ld p W V c→Ld p W V' c:=fun⟨h1,x,hx,h2⟩=>⟨h1,x,h x hx,h2⟩
theorem qmV{p:Int}{W:Nat}{V V':(Nat→Int)→Prop}(h:∀ x,V x↔V' x):rkV p W V=rkV p W V':=qd0 fun c _=>⟨Ld.mono fun x=>(h x).1,Ld.mono fun x=>(h x).2⟩
theorem qof{p:Int}{W:Nat}{V V':(Nat→Int)→Prop}(h:∀ x,V x→V' x):rkV p W V≤rkV p W V':=qgs fun c _=>Ld.mono h
theorem qlF{p:Int}{c g:Nat→Int}:∀ {n:Nat},(∀ i,i<n→c i*g i%p=0)→qaF c g n%p=0
 | 0,_=>by simp[qaF]
 | n+1,h=>by
  rw[show qaF c g (n+1)=qaF c g n+c n*g n from rfl,Int.add_emod,qlF fun i hi=>h i (by omega),h n (by omega)];simp
theorem Rf.nodup{R W:Nat}{F:Ent}{pv:List Nat}(h:Rf R W F pv):pv.Nodup∧∀ c∈pv,c<W:=by
 have hg:∀ i (hi:i<pv.length),pv.getD i 0=pv[i]:=fun i hi=>by rw[List.getD_eq_getElem?_getD,List.getElem?_eq_getElem hi];rfl
 constructor
 ·refine List.pairwise_iff_getElem.2 fun i j hi hj hij=>?_
  have:=h.mono i j hij hj
  rw[hg i hi,hg j hj] at this
  omega
 ·intro c hc
  obtain⟨i,hi,rfl⟩:=List.mem_iff_getElem.1 hc
  have:=h.lt i hi
  rwa [hg i hi] at this
theorem Rf.mem{R W:Nat}{F:Ent}{pv:List Nat}(h:Rf R W F pv){c:Nat}:c∈pv↔∃ i,i<pv.length∧pv.getD i 0=c:=by
 rw[List.mem_iff_getElem]
 constructor
 ·rintro⟨i,hi,rfl⟩;exact⟨i,hi,by rw[List.getD_eq_getElem?_getD,List.getElem?_eq_getElem hi];rfl⟩
 ·rintro⟨i,hi,rfl⟩;exact⟨i,hi,by rw[List.getD_eq_getElem?_getD,List.getElem?_eq_getElem hi];rfl⟩
theorem Rf.coef{p:Int}{R W:Nat}{F:Ent}{pv:List Nat}(h:Rf R W F pv){v:Nat→Int}(hv:Spn p R W F v){j:Nat}(hj:j<W) :
  v j%p=qaF (fun k=>v (pv.getD k 0)) (fun k=>F k j) pv.length%p:=by
 obtain⟨c,hc⟩:=hv
 have h0:∀ j,j<W→qaF c (fun i=>F i j) R=qaF c (fun i=>F i j) pv.length:=fun j hj=>qfg h.len fun i h1 h2=>h.bot i j h1 h2 hj
 have hk:∀ k,k<pv.length→v (pv.getD k 0)%p=c k%p:=fun k hk=>by
  rw[← hc _ (h.lt k hk),h0 _ (h.lt k hk),qaJ]
  congr 1
  rw[← qcc (g:=c) hk]
  exact qaw fun i hi=>⟨h.one i k (Nat.lt_of_lt_of_le hi h.len) hk,rfl⟩
 rw[← hc j hj,h0 j hj,qaJ,qaJ (c:=fun k=>v (pv.getD k 0))]
 exact qbU fun i hi=>(hk i hi).symm
theorem Rf.low0{p:Int}{R W:Nat}{F:Ent}{pv:List Nat}(h:Rf R W F pv){v:Nat→Int}(hv:Spn p R W F v){d:Nat}(hd:d<W)(hn:d∉pv)(h0:∀ k,k<pv.length→pv.getD k 0<d→v (pv.getD k 0)%p=0):∀ j,j≤d→v j%p=0:=by
 intro j hj
 rw[h.coef hv (by omega)]
 refine qlF fun k hk=>?_
 rcases Nat.lt_trichotomy (pv.getD k 0) d with e | e | e
 ·rw[Int.mul_emod,h0 k hk e];simp
 ·exact absurd (h.mem.2 ⟨k,hk,e⟩) hn
 ·rw[h.low k j hk (by omega)];simp
theorem qpH{p:Int}{R W:Nat}{F:Ent}{pv:List Nat}(hp:2≤p)(h:Rf R W F pv){c:Nat}:Ld p W (Spn p R W F) c↔c∈pv:=by
 constructor
 ·rintro⟨hc,x,hx,h1,h2⟩
  refine Classical.byContradiction fun hn=>h2 ?_
  exact h.low0 hx hc hn (fun k hk e=>h1 _ e) c (Nat.le_refl _)
 ·intro hm
  obtain⟨i,hi,rfl⟩:=h.mem.1 hm
  have hiR:=Nat.lt_of_lt_of_le hi h.len
  refine⟨h.lt i hi,F i,Spn.row hiR,fun j hj=>by rw[h.low i j hi hj];simp,?_⟩
  rw[h.one i i hiR hi,if_pos rfl,Int.emod_eq_of_lt (by omega) (by omega)]
  omega
theorem qp1{p:Int}{R W:Nat}{F:Ent}{pv:List Nat}(hp:2≤p)(h:Rf R W F pv):rkV p W (Spn p R W F)=pv.length:=by
 rw[← qi4 h.nodup.1 h.nodup.2]
 exact qd0 fun c _=>qpH hp h
noncomputable def rk(p:Int)(W:Nat)(rows:List Sim):Nat:=rkV p W (Spn p rows.length W (qc2 rows))
theorem Eqv.spn{p:Int}{R W:Nat}{A B:Ent}(h:Eqv p R W A B){x:Nat→Int}:Spn p R W A x↔Spn p R W B x:=⟨fun hx=>Spn.trans h.2 hx,fun hx=>Spn.trans h.1 hx⟩
theorem qpS{p:Int}{R W:Nat}{A:Ent}(hp:Pr p)(hA:EIn p R W A):(elS p R A W).2.length=rkV p W (Spn p R W A):=by
 obtain⟨h1,h2⟩:=qfT hp hA W (Nat.le_refl _)
 rw[← qp1 hp.1 h1]
 exact qmV fun x=>h2.spn.symm
theorem InR.spn{p:Int}{W:Nat}{A B:List Sim}(h:∀ r∈A,InR p W B r){x:Nat→Int}(hx:Spn p A.length W (qc2 A) x):Spn p B.length W (qc2 B) x :=
 Spn.trans (fun i hi=>by
  have e:qc2 A i=fun j=>(A[i]).getD j 0:=by funext j;unfold qc2;rw[qag hi]
  rw[e];exact h _ (List.getElem_mem hi)) hx
theorem qne{p:Int}{W:Nat}{A B:List Sim}(h:∀ r∈A,InR p W B r):rk p W A≤rk p W B:=qof fun x hx=>InR.spn h hx
theorem qmJ{p:Int}{W:Nat}{A B:List Sim}(h:∀ r∈A,InR p W B r)(k:∀ r∈B,InR p W A r):rk p W A=rk p W B:=Nat.le_antisymm (qne h) (qne k)
theorem qn8{rows:List Sim}{x:Sim}{i:Nat}(hi:i<rows.length):qc2 (rows++[x]) i=qc2 rows i:=by
 have:(rows++[x]).getD i []=rows.getD i []:=by rw[List.getD_eq_getElem?_getD,List.getElem?_append_left hi,← List.getD_eq_getElem?_getD]
 funext j
 unfold qc2
 rw[this]
theorem qm4{rows:List Sim}{x:Sim}:qc2 (rows++[x]) rows.length=fun j=>x.getD j 0:=by
 have:(rows++[x]).getD rows.length []=x:=by rw[List.getD_eq_getElem?_getD,List.getElem?_append_right (Nat.le_refl _),Nat.sub_self];rfl
 funext j
 unfold qc2
 rw[this]
theorem Spn.app{p:Int}{W:Nat}{rows:List Sim}{x:Sim}{z:Nat→Int}(h:Spn p (rows++[x]).length W (qc2 (rows++[x])) z) :
  ∃(a:Int) (v:Nat→Int),Spn p rows.length W (qc2 rows) v∧∀ j,j<W→z j%p=(v j+a*x.getD j 0)%p:=by
 obtain⟨c,hc⟩:=h
 refine⟨c rows.length,fun j=>qaF c (fun i=>qc2 rows i j) rows.length,⟨c,fun j _=>rfl⟩,fun j hj=>?_⟩
 rw[← hc j hj,List.length_append,List.length_singleton]
 show(qaF c _ rows.length+c rows.length*qc2 (rows++[x]) rows.length j)%p=_
 rw[qm4,qaw (d:=c) (h:=fun i=>qc2 rows i j) fun i hi=>⟨rfl,by rw[qn8 hi]⟩]
theorem qqe{f:Nat→Prop}{n:Nat}(h:∃ j,j<n∧f j):∃ c,c<n∧f c∧∀ j,j<c→¬ f j:=by
 induction n with
 | zero=>obtain⟨j,hj,_⟩:=h;omega
 | succ n ih =>
  by_cases h2:∃ j,j<n∧f j
  ·obtain⟨c,h3,h4⟩:=ih h2;exact⟨c,by omega,h4⟩
  ·obtain⟨j,hj,hf⟩:=h
   have:j=n:=Classical.byContradiction fun e=>h2 ⟨j,by omega,hf⟩
   subst this
   exact⟨j,by omega,hf,fun k hk hf'=>h2 ⟨k,hk,hf'⟩⟩
theorem qpz{p a b:Int}(hp:Pr p)(ha:a%p≠0)(hb:b%p≠0):a*b%p≠0:=by
 intro h
 have hp2:2≤p:=hp.1
 have a1:=Int.emod_nonneg a (show p≠0 by omega)
 have a2:=Int.emod_lt_of_pos a (show 0<p by omega)
 have hi:=qk2 hp (a:=a%p) (by omega) (by omega)
 apply hb
 have e:b%p=(a%p*qgl (a%p) p)%p*b%p:=by rw[hi,Int.one_mul]
 generalize qgl (a%p) p=q at e
 have h1:a%p*q%p*b%p=a*q*b%p:=qcJ ((Int.emod_emod_of_dvd _ (Int.dvd_refl p)).trans (qcJ (Int.emod_emod_of_dvd _ (Int.dvd_refl p)) rfl)) rfl
 rw[e,h1,show a*q*b=q*(a*b) by rw[Int.mul_comm a q,Int.mul_assoc],qcJ (p:=p) (x:=q) (x':=q) rfl (h.trans (Int.zero_emod p).symm)]
 simp
theorem qpt{p:Int}{W:Nat}{rows:List Sim}{x:Sim}(hp:Pr p)(hr:Rws p W rows)(hx:¬ InR p W rows x):rk p W (rows++[x])=rk p W rows+1:=by
 have hp2:2≤p:=hp.1
 obtain⟨hrf,heq⟩:=qfT hp (qfE hr) W (Nat.le_refl _)
 have hrk:=qpS hp (qfE hr)
 generalize elS p rows.length (qc2 rows) W=S at hrf heq hrk
 obtain⟨F,pv⟩:=S
 simp only at hrf heq hrk
 -- what is left of x
 let s:Nat→Int:=fun j=>qaF (fun k=>-(x.getD (pv.getD k 0) 0)) (fun k=>F k j) pv.length
 let y:Nat→Int:=fun j=>x.getD j 0+s j
 have hs:Spn p rows.length W (qc2 rows) s:=Spn.sum (B:=F) fun i hi=>heq.1 i (Nat.lt_of_lt_of_le hi hrf.len)
 have hyp:∀ k,k<pv.length→y (pv.getD k 0)=0:=fun k hk=>by
  show x.getD (pv.getD k 0) 0+s (pv.getD k 0)=0
  have:s (pv.getD k 0)=-(x.getD (pv.getD k 0) 0):=by
   show qaF _ _ _=_
   rw[qaJ,← qcc (g:=fun k=>-(x.getD (pv.getD k 0) 0)) hk]
   exact qaw fun i hi=>⟨hrf.one i k (Nat.lt_of_lt_of_le hi hrf.len) hk,rfl⟩
  omega
 have hne:∃ j,j<W∧y j%p≠0:=Classical.byContradiction fun hn=>hx <| by
  refine(hs.smul (-1)).congr fun j hj=>?_
  have hy0:y j%p=0:=Classical.byContradiction fun h=>hn ⟨j,hj,h⟩
  have:x.getD j 0=-1*s j+y j:=by show _=_+(_+_);omega
  rw[this,Int.add_emod,hy0,Int.add_zero,Int.emod_emod_of_dvd _ (Int.dvd_refl p)]
 obtain⟨c,hc,hyc,hcl⟩:=qqe hne
 have hcl:∀ j,j<c→y j%p=0:=fun j hj=>Classical.byContradiction (hcl j hj)
 have hcn:c∉pv:=fun hm=>by
  obtain⟨k,hk,rfl⟩:=hrf.mem.1 hm
  exact hyc (by rw[hyp k hk];simp)
 have hxs:Spn p (rows++[x]).length W (qc2 (rows++[x])) (fun j=>x.getD j 0):=InR.mem (List.mem_append.2 (.inr (List.mem_singleton.2 rfl)))
 have hup:∀ z,Spn p rows.length W (qc2 rows) z→Spn p (rows++[x]).length W (qc2 (rows++[x])) z:=fun z hz=>InR.spn (fun r hr=>InR.mem (List.mem_append.2 (.inl hr))) hz
 have hmain:∀ d,d<W→(Ld p W (Spn p (rows++[x]).length W (qc2 (rows++[x]))) d↔d∈pv∨d=c):=fun d hd=>by
  constructor
  ·rintro⟨_,z,hz,z1,z2⟩
   refine Classical.byContradiction fun hn=>?_
   have hdn:d∉pv:=fun h=>hn (.inl h)
   have hdc:d≠c:=fun h=>hn (.inr h)
   obtain⟨a,v0,hv0,hzv⟩:=Spn.app hz
   -- z = v + a y
   let v:Nat→Int:=fun j=>v0 j+(-a)*s j
   have hv:Spn p rows.length W F v:=heq.spn.1 (hv0.add (hs.smul (-a)))
   have hzy:∀ j,j<W→z j%p=(v j+a*y j)%p:=fun j hj=>by
    rw[hzv j hj]
    congr 1
    show _=v0 j+-a*s j+a*(x.getD j 0+s j)
    rw[Int.mul_add,Int.neg_mul];omega
   have hv0':∀ k,k<pv.length→pv.getD k 0<d→v (pv.getD k 0)%p=0:=fun k hk hkd=>by
    have:=hzy _ (hrf.lt k hk)
    rw[hyp k hk,Int.mul_zero,Int.add_zero,z1 _ hkd] at this
    exact this.symm
   have hvl:=hrf.low0 hv hd hdn hv0'
   have hza:∀ j,j≤d→z j%p=a*y j%p:=fun j hj=>by
    rw[hzy j (by omega),Int.add_emod,hvl j hj,Int.zero_add,Int.emod_emod_of_dvd _ (Int.dvd_refl p)]
   have hyd:y d%p≠0:=fun h=>z2 (by rw[hza d (Nat.le_refl _),Int.mul_emod,h];simp)
   have ha:a%p≠0:=fun h=>z2 (by rw[hza d (Nat.le_refl _),Int.mul_emod,h];simp)
   have hcd:c<d:=by
    rcases Nat.lt_trichotomy c d with h | h | h
    ·exact h
    ·exact absurd h.symm hdc
    ·exact absurd (hcl d h) hyd
   have:=z1 c hcd
   rw[hza c (by omega)] at this
   exact qpz hp ha hyc this
  ·rintro(hm | rfl)
   ·obtain⟨h1,z,hz,h2⟩:=(qpH hp2 hrf).2 hm
    exact⟨h1,z,hup z (heq.spn.2 hz),h2⟩
   ·exact⟨hd,y,hxs.add (hup s hs),hcl,hyc⟩
 unfold rk rkV
 rw[qd0 hmain,qkZ hc hcn,qi4 hrf.nodup.1 hrf.nodup.2,hrk]
 rfl
theorem qjg{p:Int}{W:Nat}(hp:Pr p):∀ {l h:List Sim},Rws p W h→Rws p W l→rk p W (h++l)=rk p W h+(qeZ p W h l).length
 | [],h,_,_=>by simp[qeZ]
 | x::xs,h,hh,hl=>by
  have hx:=hl x List.mem_cons_self
  have hxs:Rws p W xs:=fun r hr=>hl r (List.mem_cons_of_mem _ hr)
  have hhx:Rws p W (h++[x]):=fun r hr=>by
   rcases List.mem_append.1 hr with hr | hr
   ·exact hh r hr
   ·rw[List.mem_singleton] at hr;subst hr;exact hx
  unfold qeZ
  by_cases hin:InR p W h x
  ·rw[if_pos hin,← qjg hp hh hxs]
   refine qmJ (fun r hr=>?_) fun r hr=>?_
   ·rcases List.mem_append.1 hr with hr | hr
    ·exact InR.mem (List.mem_append.2 (.inl hr))
    ·rcases List.mem_cons.1 hr with rfl | hr
     ·exact InR.trans (fun r hr=>InR.mem (List.mem_append.2 (.inl hr))) hin
     ·exact InR.mem (List.mem_append.2 (.inr hr))
   ·rcases List.mem_append.1 hr with hr | hr
    ·exact InR.mem (List.mem_append.2 (.inl hr))
    ·exact InR.mem (List.mem_append.2 (.inr (List.mem_cons_of_mem _ hr)))
  ·rw[if_neg hin,List.length_cons,show h++x::xs=(h++[x])++xs by simp,qjg hp hhx hxs,qpt hp hh hin]
   omega
end VeT
open Go Go.Proofs Ve
namespace VeT
noncomputable def rkM(p:Int)(R W:Nat)(cells:Sim):Nat:=(elS p R (qb2 cells W) W).2.length
end VeT
open Go Go.Proofs Ve
namespace VeT
end VeT
open Go Go.Proofs Ve
namespace VeT
def mE(m:Mat):Ent:=qb2 m.2.2.2.1 m.2.2.1.toNat
theorem VM.num{m:Mat}(h:VM m):m.2.2.2.1.length=m.2.1.toNat*m.2.2.1.toNat:=by
 obtain⟨R,K,e,_,_,hl⟩:=h.nat
 rw[e] at hl ⊢
 simpa using hl
theorem qpa{a b:Mat}(ha:VM a)(hb:VM b)(h1:a.1=b.1)(h2:a.2.1=b.2.1)(h3:a.2.2.1=b.2.2.1)(h:∀ i j,i<a.2.1.toNat→j<a.2.2.1.toNat→mE a i j=mE b i j):a=b:=by
 refine qp3.2 ⟨h1,h2,h3,?_⟩
 have ea:=qeQ ha.num
 have eb:=qeQ hb.num
 rw[← h2,← h3] at eb
 rw[← ea,← eb]
 refine qaG fun i j hi hj=>?_
 have:=h i j hi hj
 unfold mE at this
 rwa [← h3] at this
theorem qnt{a b:Mat}{i j:Nat}(hi:i<a.2.1.toNat)(hj:j<b.2.2.1.toNat):mE (ql3 a b) i j=qaF (mE a i) (fun l=>mE b l j) a.2.2.1.toNat%a.1:=by
 show qb2 (qat (qpM a.1 a.2.2.2.1 b.2.2.2.1 a.2.2.1.toNat b.2.2.1.toNat) b.2.2.1.toNat a.2.1.toNat) b.2.2.1.toNat i j=_
 rw[qcu hi hj];rfl
theorem qfj{p:Int}{c g h:Nat→Int}{n:Nat}(H:∀ i,i<n→c i%p=g i%p):qaF c h n%p=qaF g h n%p:=by
 rw[qaJ,qaJ (c:=g)];exact qbU H
theorem qc4{m:Mat}{v:Sim}{n i:Nat}(hi:i<n):(qeH m v n).getD i 0=qaF (mE m i) (fun l=>v.getD l 0) m.2.2.1.toNat%m.1:=by
 rw[List.getD_eq_getElem?_getD]
 unfold qeH
 rw[List.getElem?_map,List.getElem?_range hi];rfl
theorem qlw{a b:Mat}{v:Sim}{n:Nat}(ha:VM a)(hb:VM b)(h1:a.2.2.1=b.2.1)(e1:a.1=b.1)(hn:n≤a.2.1.toNat):qeH (ql3 a b) v n=qeH a (qeH b v b.2.1.toNat) n:=by
 refine List.ext_getElem (by rw[qaN,qaN]) fun i g1 g2=>?_
 rw[qaN] at g1
 have k1:=qc4 (m:=ql3 a b) (v:=v) g1
 have k2:=qc4 (m:=a) (v:=qeH b v b.2.1.toNat) g1
 rw[qag (by rw[qaN];exact g1)] at k1 k2
 rw[k1,k2]
 show qaF (mE (ql3 a b) i) (fun l=>v.getD l 0) b.2.2.1.toNat%a.1=_
 have l1:qaF (mE (ql3 a b) i) (fun l=>v.getD l 0) b.2.2.1.toNat%a.1=qaF (fun l=>qaF (mE a i) (fun m=>mE b m l) a.2.2.1.toNat) (fun l=>v.getD l 0) b.2.2.1.toNat%a.1 :=
  qfj fun l hl=>by rw[qnt (by omega) hl];exact Int.emod_emod_of_dvd _ (Int.dvd_refl _)
 have l2:qaF (mE a i) (fun l=>(qeH b v b.2.1.toNat).getD l 0) a.2.2.1.toNat%a.1=qaF (mE a i) (fun m=>qaF (mE b m) (fun l=>v.getD l 0) b.2.2.1.toNat) a.2.2.1.toNat%a.1 :=
  qbU fun m hm=>by rw[qc4 (by rw[← h1];exact hm),e1];exact Int.emod_emod_of_dvd _ (Int.dvd_refl _)
 rw[l1,l2]
 congr 1
 have:=qhu (y:=fun l=>v.getD l 0) (c:=mE a i) (A:=mE b) (W:=b.2.2.1.toNat) (R:=a.2.2.1.toNat)
 rw[qaJ,this]
 exact qaw fun m hm=>⟨rfl,qaJ⟩
end VeT
open Go Go.Proofs Ve
namespace VeT
def qol(p:Int)(R W:Nat)(A:Ent)(x:Nat→Int):Prop:=∀ i,i<R→qaF x (A i) W%p=0
theorem qmI{p:Int}{W:Nat}{pv:List Nat}{F:Ent}:∀ {n:Nat} {x:Sim},x∈qi1 p W pv F n→∃ c,c<n∧c∉pv∧x=qi8 p W pv F c pv.length
 | 0,x,h=>by simp[qi1] at h
 | n+1,x,h=>by
  rw[qi1,List.mem_append] at h
  rcases h with h | h
  ·obtain⟨c,h1,h2⟩:=qmI h;exact⟨c,by omega,h2⟩
  ·by_cases e:n∈pv
   ·rw[if_pos e] at h;simp at h
   ·rw[if_neg e,List.mem_singleton] at h;exact⟨n,by omega,e,h⟩
theorem qlo{p:Int}{R W c:Nat}{pv:List Nat}{F:Ent}(hrf:Rf R W F pv)(hc:c<W)(hcp:c∉pv):∀ n,n≤pv.length→∀ m,n≤m→m<pv.length→(qi8 p W pv F c n).getD (pv.getD m 0) 0=0
 | 0,_,m,_,hm=>by
  show((List.replicate W (0:Int)).set c 1).getD (pv.getD m 0) 0=_
  rw[qci (by simpa using hc),if_neg fun e=>hcp (by rw[← e];exact qdp hm),List.getD_eq_getElem?_getD,List.getElem?_replicate]
  split<;>rfl
 | n+1,hn,m,h1,hm=>by
  have hq:=hrf.lt n (by omega)
  have:=hrf.mono n m (by omega) hm
  rw[qc9,qci (by rw[qbJ];exact hq),if_neg (by omega)]
  exact qlo hrf hc hcp n (by omega) m (by omega) hm
theorem qlh{p:Int}{R W c i:Nat}{pv:List Nat}{F:Ent}(hrf:Rf R W F pv)(hc:c<W)(hcp:c∉pv)(hi:i<R):∀ n,n≤pv.length →
  qaF (fun j=>(qi8 p W pv F c n).getD j 0) (F i) W%p=(F i c+if i<n then 0-F i c else 0)%p
 | 0,_=>by
  rw[if_neg (by omega),Int.add_zero]
  congr 1
  rw[qaw (d:=fun j=>if j=c then 1 else 0) (h:=F i) fun j hj=>⟨by
   show((List.replicate W (0:Int)).set c 1).getD j 0=_
   rw[qci (by simpa using hc),List.getD_eq_getElem?_getD,List.getElem?_replicate,if_pos hj];rfl,rfl⟩,qcc hc]
 | n+1,hn=>by
  have hq:=hrf.lt n (by omega)
  have hn':n<pv.length:=by omega
  rw[qaw (d:=fun j=>if j=pv.getD n 0 then(0-F n c)%p else(qi8 p W pv F c n).getD j 0) (h:=F i) fun j hj=>⟨by
   rw[qc9,qci (by rw[qbJ];exact hq)],rfl⟩,qi3 hq,qlo hrf hc hcp n (by omega) n (Nat.le_refl _) hn',hrf.one i n hi hn',Int.add_emod,qlh hrf hc hcp hi n (by omega),← Int.add_emod,Int.sub_zero]
  by_cases e:i=n
  ·subst e
   rw[if_neg (by omega),if_pos (by omega),if_pos (show i<i+1 by omega),Int.mul_one,Int.add_zero,Int.add_emod_emod]
  ·rw[if_neg e,Int.mul_zero,Int.add_zero]
   by_cases h:i<n
   ·rw[if_pos h,if_pos (by omega)]
   ·rw[if_neg h,if_neg (by omega)]
theorem qnJ{p:Int}{R W c:Nat}{pv:List Nat}{F:Ent}(hrf:Rf R W F pv)(hc:c<W)(hcp:c∉pv):qol p R W F fun j=>(qi8 p W pv F c pv.length).getD j 0:=fun i hi=>by
 rw[qlh hrf hc hcp hi pv.length (Nat.le_refl _)]
 by_cases h:i<pv.length
 ·rw[if_pos h,show F i c+(0-F i c)=0 by omega,Int.zero_emod]
 ·rw[if_neg h,hrf.bot i c (by omega) hi hc];simp
theorem qoj{p:Int}{R W:Nat}{cells:Sim}(hp:Pr p)(hl:cells.length=R*W)(he:qaR cells p){x:Sim}(hx:x∈qor p R W cells):qol p R W (qb2 cells W) fun j=>x.getD j 0:=fun i hi=>by
 obtain⟨hrf,heq⟩:=qfT hp (qcz he hl) W (Nat.le_refl _)
 obtain⟨c,h1,h2,rfl⟩:=qmI hx
 exact Spn.orth (qnJ hrf h1 h2) (heq.2 i hi)
end VeT
open Go Go.Proofs Ve
namespace VeT
end VeT
open Go Go.Proofs Ve
namespace VeT
end VeT
open Go Go.Proofs Ve
namespace VeT
end VeT
open Go Go.Proofs Ve
namespace VeT
end VeT
open Go Go.Proofs Ve
namespace VeT
theorem qol.add{p:Int}{R W:Nat}{A:Ent}{x y:Nat→Int}(hx:qol p R W A x)(hy:qol p R W A y):qol p R W A fun j=>x j+y j:=fun i hi=>by
 rw[qiL,Int.add_emod,hx i hi,hy i hi];simp
theorem qol.congr{p:Int}{R W:Nat}{A:Ent}{x y:Nat→Int}(h:∀ j,j<W→x j%p=y j%p)(hx:qol p R W A x):qol p R W A y:=fun i hi=>by
 rw[← hx i hi,qaJ,qaJ (c:=x)]
 exact(qbU fun j hj=>h j hj).symm
end VeT
open Go Go.Proofs Ve
namespace VeT
end VeT
open Go Go.Proofs Ve
namespace VeT
theorem qlx{c:List Sim}(h:VC c){k:Int}{s:Nat}(hs:s<c.length)(hd:((c.getD s []).length:Int)=k+1){x:Int}(hx:x∈qb4 c s):x∈qad c (k-1) c.length:=by
 unfold qb4 at hx
 obtain⟨f,hf,rfl⟩:=List.mem_map.1 hx
 have hfc:=h.2.2.2 s hs f hf
 have hfl:=qke hf
 obtain⟨q,hq,e⟩:=List.mem_iff_getElem.1 hfc
 have:=(qiG h.srt (s:=f) hq).2 e.symm
 rw[this]
 exact qbG.2 ⟨q,rfl,hq,by rw[qag hq,e];omega⟩
noncomputable def bdJ(c:List Sim)(k p:Int)(s j:Nat)(cells:List Int):Nat→List Int
 | 0=>cells
 | i+1=>(bdJ c k p s j cells i).set (((qb4 c s).getD i 0-(qad c (k-1) c.length).getD 0 0).toNat*(qad c k c.length).length+j) (sgn p i)
noncomputable def bdC(c:List Sim)(k p:Int):Nat→List Int
 | 0=>List.replicate ((qad c (k-1) c.length).length*(qad c k c.length).length) 0
 | j+1=>bdJ c k p ((qad c k c.length).getD j 0).toNat j (bdC c k p j) (qb4 c ((qad c k c.length).getD j 0).toNat).length
theorem qc8{c:List Sim}{k p:Int}{s j:Nat}{cells:List Int}:∀ {i:Nat},(bdJ c k p s j cells i).length=cells.length
 | 0=>rfl
 | i+1=>by unfold bdJ;rw[List.length_set,qc8]
theorem qbl{c:List Sim}{k p:Int}:∀ {j:Nat},(bdC c k p j).length=(qad c (k-1) c.length).length*(qad c k c.length).length
 | 0=>by simp[bdC]
 | j+1=>by unfold bdC;rw[qc8,qbl]
theorem qjV{c:List Sim}{k p:Int}(hp:2≤p∧p≤251){s j:Nat}{cells:List Int}(h:qaR cells p):∀ {i:Nat},qaR (bdJ c k p s j cells i) p
 | 0=>h
 | i+1=>fun x hx=>by
  unfold bdJ at hx
  rcases List.mem_or_eq_of_mem_set hx with hx | rfl
  ·exact qjV hp h x hx
  ·exact qmT hp i
theorem qcF{c:List Sim}{k p:Int}(hp:2≤p∧p≤251):∀ {j:Nat},qaR (bdC c k p j) p
 | 0=>qji hp.1
 | j+1=>by unfold bdC;exact qjV hp (qcF hp)
theorem qlj{c:List Sim}{p:Int}:∀ {j:Nat},j≤(qad c 0 c.length).length→bdC c 0 p j=List.replicate ((qad c (0-1) c.length).length*(qad c 0 c.length).length) 0
 | 0,_=>rfl
 | j+1,h=>by
  unfold bdC
  obtain⟨s,e,hs,hd⟩:=qbG.1 (List.getElem_mem (show j<(qad c 0 c.length).length by omega))
  have e2:((qad c 0 c.length).getD j 0).toNat=s:=by rw[qag (by omega),e];rfl
  have hz:(qb4 c s).length=0:=by rw[qbs,if_neg (by omega)]
  rw[e2,hz,bdJ]
  exact qlj (by omega)
noncomputable def bdM(c:List Sim)(k p:Int):Mat:=(p,((qad c (k-1) c.length).length:Int),((qad c k c.length).length:Int),bdC c k p (qad c k c.length).length,())
structure BdF (c:List Sim) (k p:Int):Prop where
 sc:Sm (.sl (.sl (.int .i64))) c
 vc:VC c
 pr:Pr p
 hk:0≤k∧k≤4
 lu:(qad c k c.length).length≤32
 ll:(qad c (k-1) c.length).length≤32
theorem BdF.hp{c:List Sim}{k p:Int}(F:BdF c k p):2≤p∧p≤251:=⟨F.pr.1,F.pr.2.1⟩
theorem BdF.vm{c:List Sim}{k p:Int}(F:BdF c k p):VM (bdM c k p):=by
 have:=F.lu
 have:=F.ll
 refine⟨F.pr,⟨by show(0:Int)≤((qad c (k-1) c.length).length:Int);omega,by show((qad c (k-1) c.length).length:Int)≤32;omega⟩,⟨by show(0:Int)≤((qad c k c.length).length:Int);omega,by show((qad c k c.length).length:Int)≤32;omega⟩,?_,qcF F.hp⟩
 show((bdC c k p (qad c k c.length).length).length:Int)=((qad c (k-1) c.length).length:Int)*((qad c k c.length).length:Int)
 rw[qbl,Int.natCast_mul]
theorem BdF.col{c:List Sim}{k p:Int}(F:BdF c k p){j:Nat}(hj:j<(qad c k c.length).length) :
  ∃ s:Nat,s<c.length∧(qad c k c.length)[j]=(s:Int)∧((qad c k c.length).getD j 0).toNat=s∧(qb4 c s).length≤4 ∧
   ∀ i (hi:i<(qb4 c s).length),∃ t f0:Nat,(qb4 c s)[i]=(t:Int)∧(qb4 c s).getD i 0=(t:Int)∧t<c.length∧f0≤t∧(qad c (k-1) c.length).getD 0 0=(f0:Int) ∧
    qfU (fun y=>pb (y=(t:Int))) (qad c (k-1) c.length)=((t-f0:Nat):Int)∧t-f0<(qad c (k-1) c.length).length:=by
 obtain⟨s,e,hs,hd⟩:=qbG.1 (List.getElem_mem hj)
 refine⟨s,hs,e,by rw[qag hj,e];rfl,F.vc.fIdx4 hs,fun i hi=>?_⟩
 obtain⟨t,f0,e1,e2,e3,e4,e5,e6⟩:=qgX F.vc.srt (qlx F.vc hs hd (List.getElem_mem hi))
 refine⟨t,f0,e1,by rw[qag hi,e1],e2,e3,?_,by rw[← e1];exact e5,e6⟩
 rw[List.getD_eq_getElem?_getD,← List.head?_eq_getElem?,e4];rfl
theorem qcY(c:List Sim)(k p:Int)(F:BdF c k p):Ret E n_Z18 [dLL c,dI k,dI p] ⟨o_Z18,bdM c k p⟩:=by
 have hk:=F.hk
 have lu:=F.lu
 have ll:=F.ll
 have hHW:=qgR ll lu
 refine qal ?_
 simp only[run_Z18,Z18.ev]
 rw[qaj (n:=k-1) (by omega) (by omega)]
 refine qaa (qaP c (k-1) F.sc (by omega)) (qaa (qaP c k F.sc (by omega)) (qaa (qdU _) (qaa (qdU _) (qaa (qli p _ _ ll lu) ?_))))
 refine Ev.start (p:=fun φ n=>Z18.l0 (mkR (run E (φ 0))) (φ 0) n p (qad c (k-1) c.length) (qad c k c.length) (qad c k c.length) ((qad c k c.length).length:Int) 0 c 0 0 0 p ((qad c (k-1) c.length).length:Int) ((qad c k c.length).length:Int) (List.replicate ((qad c (k-1) c.length).length*(qad c k c.length).length) 0)=_) 1 ?_ (fun _ _ _ h=>h)
 refine qas 1 (L:=fun φ n j o=>Z18.l0 (mkR (run E (φ 0))) (φ 0) n p (qad c (k-1) c.length) (qad c k c.length) (qad c k c.length) ((qad c k c.length).length:Int) j c 0 0 0 p ((qad c (k-1) c.length).length:Int) ((qad c k c.length).length:Int) o) (len:=(qad c k c.length).length) (fun j=>bdC c k p j) (fun _ _ _ _ _=>rfl) (fun j r hj ih=>?_) ?_
 ·obtain⟨s,hs,e1,e2,e4,e3⟩:=F.col hj
  rw[bdC,e2] at ih
  simp only[Z18.l0_succ _ qaf]
  refine qaC (decide_eq_true (by omega)) (qae (qaq hj) ?_)
  rw[e1]
  refine qaa (qhB c s hs F.sc F.vc.srt) ?_
  simp only
  refine Ev.start (p:=fun φ n=>Z18.l1 (mkR (run E (φ 0))) (φ 0) (φ 1) n p (qad c (k-1) c.length) (qad c k c.length) (j:Int) (qad c k c.length) ((qad c k c.length).length:Int) (j:Int) (qb4 c s) ((qb4 c s).length:Int) 0 c 0 0 0 p ((qad c (k-1) c.length).length:Int) ((qad c k c.length).length:Int) (bdC c k p j)=_) 2 ?_ (fun _ _ _ h=>h)
  refine qas 2 (L:=fun φ n i o=>Z18.l1 (mkR (run E (φ 0))) (φ 0) (φ 1) n p (qad c (k-1) c.length) (qad c k c.length) (j:Int) (qad c k c.length) ((qad c k c.length).length:Int) (j:Int) (qb4 c s) ((qb4 c s).length:Int) i c 0 0 0 p ((qad c (k-1) c.length).length:Int) ((qad c k c.length).length:Int) o) (len:=(qb4 c s).length) (fun i=>bdJ c k p s j (bdC c k p j) i) (fun _ _ _ _ _=>rfl) (fun i q hi ihi=>?_) ?_
  ·obtain⟨t,f0,t1,t2,tc,t3,t4,t5,t6⟩:=e3 i hi
   rw[bdJ,t2,t4,show((t:Int)-(f0:Int)).toNat=t-f0 by omega] at ihi
   simp only[Z18.l1_succ _ qaf]
   have hix:=qe8 (qad c (k-1) c.length) (t:Int) (by omega)
   rw[t5] at hix
   have hlt:=qga t6 hj
   have hm2:w64 (((t-f0:Nat):Int)*((qad c k c.length).length:Int))=(((t-f0)*(qad c k c.length).length:Nat):Int):=by
    rw[qbp,qaj (by omega) (by omega)]
   have hm3:w64 ((((t-f0)*(qad c k c.length).length:Nat):Int)+(j:Int))=(((t-f0)*(qad c k c.length).length+j:Nat):Int):=by
    rw[qaj (by omega) (by omega)];omega
   refine qaC (decide_eq_true (by omega)) (qae (qaq hi) ?_)
   rw[t1,qah (k:=i) (by omega)]
   refine qaa hix (qaa (qdW p i F.hp) ?_)
   simp only
   rw[hm2,hm3,Int.toNat_natCast]
   exact qan (by rw[qc8,qbl];simp;omega) ihi
  ·simp only[Z18.l1_succ _ qaf]
   rw[qah (k:=j) (by omega)]
   exact qaE (decide_eq_false (by omega)) ih
 ·simp only[Z18.l0_succ _ qaf]
  exact qaE (decide_eq_false (by omega)) qam
theorem qd9(c:List Sim)(k p:Int)(F:BdF c k p):Ret E n_Z128 [dC (c,()),dI k,dI p] ⟨o_Z128,bdM c k p⟩:=by
 have hk:=F.hk
 have lu:=F.lu
 have ll:=F.ll
 have hHW:=qgR ll lu
 refine qal ?_
 simp only[run_Z128,Z128.ev]
 rw[qaj (n:=k-1) (by omega) (by omega)]
 refine qaa (qdM c k F.sc (by omega)) (qaa (qdM c (k-1) F.sc (by omega)) (qaa (qkU p _ _ ll lu) ?_))
 refine Ev.start (p:=fun φ n=>Z128.l0 (mkR (run E (φ 0))) (φ 0) n (c,()) k p (qad c k c.length) (qad c (k-1) c.length) 0 0 0 0 p ((qad c (k-1) c.length).length:Int) ((qad c k c.length).length:Int) (List.replicate ((qad c (k-1) c.length).length*(qad c k c.length).length) 0)=_) 1 ?_ (fun _ _ _ h=>h)
 by_cases hk0:k=0
 ·subst hk0
  have hz:=qlj (c:=c) (p:=p) (Nat.le_refl _)
  unfold bdM
  rw[hz]
  refine Ev.round 1 (L:=fun φ n=>Z128.l0 (mkR (run E (φ 0))) (φ 0) n (c,()) 0 p (qad c 0 c.length) (qad c (0-1) c.length) 0 0 0 0 p ((qad c (0-1) c.length).length:Int) ((qad c 0 c.length).length:Int) (List.replicate ((qad c (0-1) c.length).length*(qad c 0 c.length).length) 0)) ?_ (fun _ _ _=>rfl)
  simp only[Z128.l0_succ _ qaf,Z128.j1_eq _ qaf]
  refine qei (fun _=>?_) fun _=>?_
  ·exact qaE (by decide) qam
  ·exact qaE rfl qam
 refine qas 1 (L:=fun φ n j o=>Z128.l0 (mkR (run E (φ 0))) (φ 0) n (c,()) k p (qad c k c.length) (qad c (k-1) c.length) j 0 0 0 p ((qad c (k-1) c.length).length:Int) ((qad c k c.length).length:Int) o) (len:=(qad c k c.length).length) (fun j=>bdC c k p j) (fun _ _ _ _ _=>rfl) (fun j r hj ih=>?_) ?_
 ·obtain⟨s,hs,e1,e2,e4,e3⟩:=F.col hj
  rw[bdC,e2] at ih
  simp only[Z128.l0_succ _ qaf,Z128.j1_eq _ qaf]
  refine qaC (decide_eq_true (by omega)) (qaC (decide_eq_true (by omega)) (qae (qaq hj) ?_))
  rw[e1]
  refine qaa (qjH c s hs F.sc) ?_
  simp only
  refine Ev.start (p:=fun φ n=>Z128.l2 (mkR (run E (φ 0))) (φ 0) (φ 1) n (c,()) k p (qad c k c.length) (qad c (k-1) c.length) (j:Int) (qb4 c s) 0 0 0 0 p ((qad c (k-1) c.length).length:Int) ((qad c k c.length).length:Int) (bdC c k p j)=_) 2 ?_ (fun _ _ _ h=>h)
  refine qas 2 (L:=fun φ n i o=>Z128.l2 (mkR (run E (φ 0))) (φ 0) (φ 1) n (c,()) k p (qad c k c.length) (qad c (k-1) c.length) (j:Int) (qb4 c s) i 0 0 0 p ((qad c (k-1) c.length).length:Int) ((qad c k c.length).length:Int) o) (len:=(qb4 c s).length) (fun i=>bdJ c k p s j (bdC c k p j) i) (fun _ _ _ _ _=>rfl) (fun i q hi ihi=>?_) ?_
  ·obtain⟨t,f0,t1,t2,tc,t3,t4,t5,t6⟩:=e3 i hi
   rw[bdJ,t2,t4,show((t:Int)-(f0:Int)).toNat=t-f0 by omega] at ihi
   simp only[Z128.l2_succ _ qaf]
   have h0':0<(qad c (k-1) c.length).length:=by omega
   have hget0:idx? (qad c (k-1) c.length) (0:Int)=some (f0:Int):=by
    have:(qad c (k-1) c.length)[0]=(f0:Int):=by rw[qag h0'] at t4;exact t4
    rw[← this];exact qaq (k:=0) h0'
   have ql:t≤48:=Nat.le_trans (Nat.le_of_lt tc) F.vc.1
   have hlt:=qga t6 hj
   have hm1:w64 ((t:Int)-(f0:Int))=((t-f0:Nat):Int):=by rw[qaj (by omega) (by omega)];omega
   have hm2:w64 (((t-f0:Nat):Int)*((qad c k c.length).length:Int))=(((t-f0)*(qad c k c.length).length:Nat):Int):=by
    rw[qbp,qaj (by omega) (by omega)]
   have hm3:w64 ((((t-f0)*(qad c k c.length).length:Nat):Int)+(j:Int))=(((t-f0)*(qad c k c.length).length+j:Nat):Int):=by
    rw[qaj (by omega) (by omega)];omega
   refine qaC (decide_eq_true (by omega)) (qae (qaq hi) (qae hget0 ?_))
   rw[t1,qah (k:=i) (by omega)]
   refine qaa (qkY p i F.hp) ?_
   simp only
   rw[hm1,hm2,hm3,Int.toNat_natCast]
   exact qan (by rw[qc8,qbl];simp;omega) ihi
  ·simp only[Z128.l2_succ _ qaf]
   rw[qah (k:=j) (by omega)]
   exact qaE (decide_eq_false (by omega)) ih
 ·simp only[Z128.l0_succ _ qaf,Z128.j1_eq _ qaf]
  exact qaE (decide_eq_false (by omega)) (qaE rfl qam)
def Sm3(c:List Sim)(k:Int):Prop:=∀ t:Nat,0≤t→t<3→(qad c (k-1+t) c.length).length≤32
open Classical in
noncomputable def HC(c:List Sim)(k p:Int):Int:=if VC c∧Pr p then(if 0≤k∧k≤3 then(if Sm3 c k then 0 else 5) else 2) else 1
theorem qms{c:List Sim}{k p:Int}(h:HC c k p=0):(VC c∧Pr p)∧(0≤k∧k≤3)∧Sm3 c k:=by
 unfold HC at h
 by_cases h1:VC c∧Pr p
 ·rw[if_pos h1] at h
  by_cases h2:0≤k∧k≤3
  ·rw[if_pos h2] at h
   by_cases h3:Sm3 c k
   ·exact⟨h1,h2,h3⟩
   ·rw[if_neg h3] at h;exact absurd h (by decide)
  ·rw[if_neg h2] at h;exact absurd h (by decide)
 ·rw[if_neg h1] at h;exact absurd h (by decide)
theorem qiV{c:List Sim}{k p:Int}(sc:Sm (.sl (.sl (.int .i64))) c)(h:HC c k p=0):BdF c k p∧BdF c (k+1) p:=by
 obtain⟨⟨h1,h2⟩,h3,h4⟩:=qms h
 have a:=h4 0 (by omega) (by omega)
 have b:=h4 1 (by omega) (by omega)
 have d:=h4 2 (by omega) (by omega)
 rw[show k-1+((0:Nat):Int)=k-1 by omega] at a
 rw[show k-1+((1:Nat):Int)=k by omega] at b
 rw[show k-1+((2:Nat):Int)=k+1 by omega] at d
 exact⟨⟨sc,h1,h2,by omega,b,a⟩,⟨sc,h1,h2,by omega,d,by rw[show k+1-1=k by omega];exact b⟩⟩
open Classical in
theorem qml(c:Cpx)(k p:Int)(sc:Sm (.sl (.sl (.int .i64))) c.1):Ret E n_Z126 [dC c,dI k,dI p] ⟨o_Z126,(HC c.1 k p,())⟩:=by
 obtain⟨c,⟨⟩⟩:=c
 have sc:Sm (.sl (.sl (.int .i64))) c:=sc
 refine qal ?_
 simp only[run_Z126,Z126.ev]
 unfold HC
 refine qaa (qmr (c,()) sc) ?_
 by_cases h1:VC c
 ·refine qaE (by rw[qaB h1];rfl) (qaa (qfh p) ?_)
  simp only[Z126.j0_eq _ qaf]
  by_cases h2:Pr p
  ·rw[if_pos ⟨h1,h2⟩]
   refine qaE (by rw[qaB h2];rfl) (qaa (qgh k) ?_)
   by_cases h3:0≤k∧k≤3
   ·rw[if_pos h3]
    refine qaE (by rw[qaB h3];rfl) (qaa (qdM c k sc (by omega)) ?_)
    rw[qaj (n:=k-1) (by omega) (by omega),qaj (n:=k+1) (by omega) (by omega)]
    have hs:Sm3 c k↔(qad c k c.length).length≤32∧(qad c (k-1) c.length).length≤32∧(qad c (k+1) c.length).length≤32:=by
     unfold Sm3
     constructor
     ·intro h
      have a:=h 0 (by omega) (by omega)
      have b:=h 1 (by omega) (by omega)
      have d:=h 2 (by omega) (by omega)
      rw[show k-1+((0:Nat):Int)=k-1 by omega] at a
      rw[show k-1+((1:Nat):Int)=k by omega] at b
      rw[show k-1+((2:Nat):Int)=k+1 by omega] at d
      exact⟨b,a,d⟩
     ·rintro⟨b,a,d⟩ t _ ht
      rcases(show t=0∨t=1∨t=2 by omega) with rfl | rfl | rfl
      ·rw[show k-1+((0:Nat):Int)=k-1 by omega];exact a
      ·rw[show k-1+((1:Nat):Int)=k by omega];exact b
      ·rw[show k-1+((2:Nat):Int)=k+1 by omega];exact d
    have bad:¬ Sm3 c k→Ev fun φ=>Z126.j1 (mkR (run E (φ 0))) (φ 0) true=some ⟨o_Z126,((if Sm3 c k then 0 else 5),())⟩:=fun h=>by
     rw[if_neg h]
     simp only[Z126.j1_eq _ qaf]
     exact qaC rfl qam
    by_cases a1:(qad c k c.length).length≤32
    ·refine qaE (decide_eq_false (by first | omega | (simp only;omega))) (qaa (qdM c (k-1) sc (by omega)) ?_)
     by_cases a2:(qad c (k-1) c.length).length≤32
     ·refine qaE (decide_eq_false (by first | omega | (simp only;omega))) (qaa (qdM c (k+1) sc (by omega)) ?_)
      by_cases a3:(qad c (k+1) c.length).length≤32
      ·rw[if_pos (hs.2 ⟨a1,a2,a3⟩)]
       simp only[Z126.j1_eq _ qaf]
       exact qaE (decide_eq_false (by first | omega | (simp only;omega))) qam
      ·rw[if_neg fun h=>a3 (hs.1 h).2.2]
       simp only[Z126.j1_eq _ qaf]
       exact qaC (decide_eq_true (by first | omega | (simp only;omega))) qam
     ·exact qaC (decide_eq_true (by first | omega | (simp only;omega))) (bad fun h=>a2 (hs.1 h).2.1)
    ·exact qaC (decide_eq_true (by first | omega | (simp only;omega))) (bad fun h=>a1 (hs.1 h).1)
   ·rw[if_neg h3]
    exact qaC (by rw[qav h3];rfl) qam
  ·rw[if_neg fun h=>h2 h.2]
   exact qaC (by rw[qav h2];rfl) qam
 ·rw[if_neg fun h=>h1 h.1]
  refine qaC (by rw[qav h1];rfl) ?_
  simp only[Z126.j0_eq _ qaf]
  exact qaC rfl qam
end VeT
open Go Go.Proofs Ve
namespace VeT
end VeT
open Go Go.Proofs Ve
namespace VeT
def Fa(x s:Sim):Prop:=x≠[]∧x.Sublist s
def Cl(c:List Sim):Prop:=∀ y∈c,∀ x,Fa x y→x∈c
theorem qjl:∀ {x s:Sim},x.Sublist s→x≠s→∃ i,i<s.length∧x.Sublist (s.eraseIdx i)
 | _,_,.slnil,h=>absurd rfl h
 | x,_,.cons a h,_=>⟨0,by simp,by simpa using h⟩
 | _,_,.cons_cons (l₁:=l) (l₂:=l') a h,hn=>by
  obtain⟨i,hi,hs⟩:=qjl h fun e=>hn (by rw[e])
  exact⟨i+1,by simp;omega,by simpa using hs⟩
theorem qou{x s:Sim}:Fa x s↔(x=s∧s≠[])∨∃ i,i<s.length∧Fa x (s.eraseIdx i):=by
 constructor
 ·rintro⟨h1,h2⟩
  by_cases e:x=s
  ·exact .inl ⟨e,e ▸ h1⟩
  ·obtain⟨i,hi,hs⟩:=qjl h2 e
   exact .inr ⟨i,hi,h1,hs⟩
 ·rintro(⟨rfl,h⟩ | ⟨i,hi,h1,h2⟩)
  ·exact⟨h,List.Sublist.refl _⟩
  ·exact⟨h1,h2.trans (List.eraseIdx_sublist _ _)⟩
theorem qla{x y z:Sim}(h1:Fa x y)(h2:Fa y z):Fa x z:=⟨h1.1,h1.2.trans h2.2⟩
theorem qmA{x s:Sim}(h:Fa x s):x.length≤s.length:=h.2.length_le
def qlA:Nat→Nat
 | 0=>1
 | n+1=>(n+2)*qlA n+1
theorem qpv{o:List Sim}{s:Sim}(hs:Srt o)(hn:s∉o):∃ t,t≤o.length∧(∀ j (h:j<o.length),j<t→qdi o[j] s<0)∧(∀ h:t<o.length,¬ qdi o[t] s<0)∧Srt (o.take t++[s]++o.drop t):=by
 refine⟨bs o s,qpR,fun j h hj=>(qiZ hs h).1 hj,fun h hlt=>?_,?_⟩
 ·have:=(qiZ hs h).2 hlt;omega
 ·have pw:o.Pairwise (fun a b=>qdi a b<0):=List.pairwise_iff_getElem.2 fun i j hi hj hij=>hs i j hj hij
  have h1:∀ x∈o.take (bs o s),qdi x s<0:=fun x hx=>by
   obtain⟨i,hi,rfl⟩:=List.mem_iff_getElem.1 hx
   rw[List.length_take] at hi
   rw[List.getElem_take]
   exact(qiZ hs (by omega)).1 (by omega)
  have h2:∀ x∈o.drop (bs o s),qdi s x<0:=fun x hx=>by
   obtain⟨i,hi,rfl⟩:=List.mem_iff_getElem.1 hx
   rw[List.length_drop] at hi
   rw[List.getElem_drop]
   have h3:¬ qdi o[bs o s+i] s<0:=fun h=>by
    have:=(qiZ hs (show bs o s+i<o.length by omega)).2 h;omega
   have h4:qdi o[bs o s+i] s≠0:=fun h=>hn (by rw[← qcE.1 h];exact List.getElem_mem _)
   have:=qlf (a:=o[bs o s+i]) (b:=s)
   omega
  have pwn:(o.take (bs o s)++[s]++o.drop (bs o s)).Pairwise (fun a b=>qdi a b<0):=by
   rw[List.pairwise_append]
   refine⟨?_,pw.sublist (List.drop_sublist _ _),fun x hx y hy=>?_⟩
   ·rw[List.pairwise_append]
    refine⟨pw.sublist (List.take_sublist _ _),List.pairwise_singleton _ _,fun x hx y hy=>?_⟩
    rw[List.mem_singleton] at hy;subst hy;exact h1 x hx
   ·rcases List.mem_append.1 hx with hx | hx
    ·exact qfM (h1 x hx) (h2 y hy)
    ·rw[List.mem_singleton] at hx;subst hx;exact h2 y hy
  exact fun i j hj hij=>List.pairwise_iff_getElem.1 pwn i j (by omega) hj hij
theorem qmt{o:List Sim}{s x:Sim}{t:Nat}:x∈o.take t++[s]++o.drop t↔x∈o∨x=s:=by
 rw[List.mem_append,List.mem_append,List.mem_singleton]
 conv=>rhs;rw[← List.take_append_drop t o]
 rw[List.mem_append]
 constructor
 ·rintro((h | h) | h)
  ·exact .inl (.inl h)
  ·exact .inr h
  ·exact .inl (.inr h)
 ·rintro((h | h) | h)
  ·exact .inl (.inl h)
  ·exact .inr h
  ·exact .inl (.inr h)
theorem qlB(s:Sim)(o:List Sim)(N1:Nat→Nat)(hs1:s.length≤1048576)(ho:Sm (.sl (.sl (.int .i64))) o)(hl:o.length+1≤1048576)(hs:Srt o)(hn:s∉o) :
  ∃ t,t≤o.length∧Srt (o.take t++[s]++o.drop t)∧Ev fun φ=>Z124.l2 (mkR (run E (φ 0))) (φ 0) (φ 2) s 0 o=some ⟨o_Z124,((o.take t++[s]++o.drop t,()),())⟩:=by
 obtain⟨t,ht,h1,h2,h3⟩:=qpv hs hn
 refine⟨t,ht,h3,?_⟩
 have fin:Ev fun φ=>Z124.j3 (mkR (run E (φ 0))) (φ 0) (φ 2) s (t:Int) false o=some ⟨o_Z124,((o.take t++[s]++o.drop t,()),())⟩:=by
  simp only[Z124.j3_eq _ qaf]
  refine qaE rfl (qan (by simp only[Bool.and_eq_true,decide_eq_true_eq];omega) ?_)
  simp only[Int.toNat_natCast,List.nil_append,List.drop_zero,List.take_length]
  refine qan (by simp only[List.length_nil,List.length_take,decide_eq_true_eq];omega) (qaa (qde s hs1) (qan (by simp only[List.length_take,List.length_singleton,decide_eq_true_eq];omega) (qan (by simp only[Bool.and_eq_true,decide_eq_true_eq];omega) (qan (by simp only[List.length_append,List.length_take,List.length_drop,List.length_singleton,decide_eq_true_eq];omega) qam))))
 have key:∀ d i,i+d=t→Ev fun φ=>Z124.l2 (mkR (run E (φ 0))) (φ 0) (φ 2) s (i:Int) o=some ⟨o_Z124,((o.take t++[s]++o.drop t,()),())⟩:=by
  intro d
  induction d with
  | zero =>
   intro i hi
   obtain rfl:i=t:=by omega
   refine Ev.round 2 (L:=fun φ n=>Z124.l2 (mkR (run E (φ 0))) (φ 0) n s (i:Int) o) ?_ (fun _ _ _=>rfl)
   simp only[Z124.l2_succ _ qaf]
   by_cases hlt:i<o.length
   ·refine qaC (decide_eq_true (by omega)) (qan (by simp only[Bool.and_eq_true,decide_eq_true_eq];omega) (qae (by rw[Int.toNat_natCast];exact List.getElem?_eq_getElem hlt) (qaa (qcp _ s (qbP ho hlt)) ?_)))
    rw[qav (h2 hlt)]
    exact fin
   ·exact qaE (decide_eq_false (by omega)) fin
  | succ d ih =>
   intro i hi
   have hlt:i<o.length:=by omega
   refine Ev.round 2 (L:=fun φ n=>Z124.l2 (mkR (run E (φ 0))) (φ 0) n s (i:Int) o) ?_ (fun _ _ _=>rfl)
   simp only[Z124.l2_succ _ qaf]
   refine qaC (decide_eq_true (by omega)) (qan (by simp only[Bool.and_eq_true,decide_eq_true_eq];omega) (qae (by rw[Int.toNat_natCast];exact List.getElem?_eq_getElem hlt) (qaa (qcp _ s (qbP ho hlt)) ?_)))
   rw[qaB (h1 i hlt (by omega))]
   simp only[Z124.j3_eq _ qaf]
   refine qaC rfl ?_
   rw[qah (by omega)]
   exact ih (i+1) (by omega)
 exact key t 0 (by omega)
theorem qoN:∀(n:Nat) (s:Sim) (c:List Sim),s.length=n+1→n≤1048575→c.length+qlA n≤1048576→Sm (.sl (.sl (.int .i64))) c→Srt c→Cl c →
    ∃ c',Ret E n_Z124 [dC (c,()),dL s] ⟨o_Z124,((c',()),())⟩∧Srt c'∧(∀ x,x∈c'↔x∈c∨Fa x s)∧c'.length≤c.length+qlA n:=by
  intro n
  induction n with
  | zero =>
    intro s c hn hb hl hc hs hcl
    have hs1:s.length≤1048576:=by omega
    have hne:s≠[]:=fun e=>by rw[e] at hn;simp at hn
    by_cases hm:s∈c
    · refine⟨c,?_,hs,fun x=>⟨.inl,fun h=>h.elim id fun h=>hcl s hm x h⟩,by omega⟩
      refine qal ?_
      simp only[run_Z124,Z124.ev]
      exact qaa (qbu (c,()) s hc) (qaC (decide_eq_true (qaO.2 hm)) qam)
    · obtain⟨t,ht,h3,h4⟩:=qlB s c id hs1 hc (by unfold qlA at hl;omega) hs hm
      refine⟨_,?_,h3,fun x=>?_,by simp[qlA];omega⟩
      · refine qal ?_
        simp only[run_Z124,Z124.ev]
        refine qaa (qbu (c,()) s hc) (qaE (decide_eq_false fun h=>hm (qaO.1 h)) ?_)
        have h4:Ev fun φ=>Z124.l2 (mkR (run E (φ 0))) (φ 0) (φ 0) s 0 c=some ⟨o_Z124,((c.take t++[s]++c.drop t,()),())⟩:=Ev.start (p:=fun φ n=>Z124.l2 (mkR (run E (φ 0))) (φ 0) n s 0 c=_) 2 h4 (fun _ _ _ h=>h)
        refine Ev.start (p:=fun φ n=>Z124.l0 (mkR (run E (φ 0))) (φ 0) n s 0 c=_) 1 ?_ (fun _ _ _ h=>h)
        refine Ev.round 1 (L:=fun φ n=>Z124.l0 (mkR (run E (φ 0))) (φ 0) n s 0 c) ?_ (fun _ _ _=>rfl)
        simp only[Z124.l0_succ _ qaf,Z124.j1_eq _ qaf]
        refine qaC (decide_eq_true (by omega)) (qaE (decide_eq_false (by omega)) h4)
      · rw[qmt,qou]
        constructor
        · rintro(h | h)
          · exact .inl h
          · exact .inr (.inl ⟨h,hne⟩)
        · rintro(h | ⟨h,_⟩ | ⟨i,hi,h1,h2⟩)
          · exact .inl h
          · exact .inr h
          · have:=h2.length_le
            rw[List.length_eraseIdx,if_pos hi] at this
            exact absurd (List.length_eq_zero_iff.1 (by omega)) h1
  | succ n ih =>
    intro s c hn hb hl hc hs hcl
    have hs1:s.length≤1048576:=by omega
    have hne:s≠[]:=fun e=>by rw[e] at hn;simp at hn
    by_cases hm:s∈c
    · refine⟨c,?_,hs,fun x=>⟨.inl,fun h=>h.elim id fun h=>hcl s hm x h⟩,by omega⟩
      refine qal ?_
      simp only[run_Z124,Z124.ev]
      exact qaa (qbu (c,()) s hc) (qaC (decide_eq_true (qaO.2 hm)) qam)
    · have hadd:qlA (n+1)=(n+1+1)*qlA n+1:=rfl
      -- the qb3
      have loop:∀ d i (o:List Sim),i+d=s.length→Sm (.sl (.sl (.int .i64))) o→Srt o→Cl o→(∀ x,x∈o↔x∈c∨∃ j,j<i∧Fa x (s.eraseIdx j))→o.length≤c.length+i*qlA n→s.length*qlA n+1+c.length≤1048576 →
          ∃ c',(Ev fun φ=>Z124.l0 (mkR (run E (φ 0))) (φ 0) (φ 1) s (i:Int) o=some ⟨o_Z124,((c',()),())⟩)∧Srt c'∧(∀ x,x∈c'↔x∈c∨Fa x s)∧c'.length≤c.length+s.length*qlA n+1:=by
        intro d
        induction d with
        | zero =>
          intro i o hi ho1 ho2 ho3 ho4 ho5 hbig
          obtain rfl:i=s.length:=by omega
          have hn2:s∉o:=fun h=>by
            rcases(ho4 s).1 h with h | ⟨j,hj,h⟩
            · exact hm h
            · have:=qmA h
              rw[List.length_eraseIdx,if_pos hj] at this
              omega
          obtain⟨t,ht,h3,h4⟩:=qlB s o id hs1 ho1 (by omega) ho2 hn2
          refine⟨_,?_,h3,fun x=>?_,by simp;omega⟩
          · have h4:Ev fun φ=>Z124.l2 (mkR (run E (φ 0))) (φ 0) (φ 0) s 0 o=some ⟨o_Z124,((o.take t++[s]++o.drop t,()),())⟩:=Ev.start (p:=fun φ n=>Z124.l2 (mkR (run E (φ 0))) (φ 0) n s 0 o=_) 2 h4 (fun _ _ _ h=>h)
            refine Ev.round 1 (L:=fun φ n=>Z124.l0 (mkR (run E (φ 0))) (φ 0) n s (s.length:Int) o) ?_ (fun _ _ _=>rfl)
            simp only[Z124.l0_succ _ qaf,Z124.j1_eq _ qaf]
            exact qaE (decide_eq_false (by omega)) (qaE rfl h4)
          · rw[qmt,ho4,qou]
            constructor
            · rintro((h | ⟨j,hj,h⟩) | h)
              · exact .inl h
              · exact .inr (.inr ⟨j,hj,h⟩)
              · exact .inr (.inl ⟨h,hne⟩)
            · rintro(h | ⟨h,_⟩ | ⟨j,hj,h⟩)
              · exact .inl (.inl h)
              · exact .inr h
              · exact .inl (.inr ⟨j,hj,h⟩)
        | succ d ihd =>
          intro i o hi ho1 ho2 ho3 ho4 ho5 hbig
          have hil:i<s.length:=by omega
          have hel:(s.eraseIdx i).length=n+1:=by rw[List.length_eraseIdx,if_pos hil];omega
          have hmul:(i+1)*qlA n≤s.length*qlA n:=Nat.mul_le_mul_right _ (by omega)
          rw[Nat.add_mul,Nat.one_mul] at hmul
          obtain⟨o',hr,hs',hm',hl'⟩:=ih (s.eraseIdx i) o hel (by omega) (by omega) ho1 ho2 ho3
          obtain⟨c',hc1,hc2⟩:=ihd (i+1) o' (by omega) ⟨by show o'.length≤1048576;omega,fun x hx=>by
              rcases(hm' x).1 hx with h | h
              · exact ho1.2 x h
              · have:=qmA h
                exact⟨by show x.length≤1048576;omega,fun _ _=>trivial⟩⟩ hs' (fun y hy x hx=>(hm' x).2 (by
              rcases(hm' y).1 hy with h | h
              · exact .inl (ho3 y h x hx)
              · exact .inr (qla hx h))) (fun x=>by
              rw[hm',ho4]
              constructor
              · rintro((h | ⟨j,hj,h⟩) | h)
                · exact .inl h
                · exact .inr ⟨j,by omega,h⟩
                · exact .inr ⟨i,by omega,h⟩
              · rintro(h | ⟨j,hj,h⟩)
                · exact .inl (.inl h)
                · by_cases e:j=i
                  · subst e;exact .inr h
                  · exact .inl (.inr ⟨j,by omega,h⟩)) (by rw[Nat.add_mul,Nat.one_mul];omega) hbig
          refine⟨c',?_,hc2⟩
          refine Ev.round 1 (L:=fun φ n=>Z124.l0 (mkR (run E (φ 0))) (φ 0) n s (i:Int) o) ?_ (fun _ _ _=>rfl)
          simp only[Z124.l0_succ _ qaf,Z124.j1_eq _ qaf]
          refine qaC (decide_eq_true (by omega)) (qaC (decide_eq_true (by omega)) (qaa (qdr s i hil hs1) (qaa hr ?_)))
          rw[qah (by omega)]
          exact hc1
      have hbig:s.length*qlA n+1+c.length≤1048576:=by rw[hn];rw[hadd] at hl;omega
      obtain⟨c',h1,h2,h3,h4⟩:=loop s.length 0 c (by omega) hc hs hcl (fun x=>⟨.inl,fun h=>h.elim id fun⟨j,hj,_⟩=>by omega⟩) (by omega) hbig
      refine⟨c',?_,h2,h3,?_⟩
      · refine qal ?_
        simp only[run_Z124,Z124.ev]
        refine qaa (qbu (c,()) s hc) (qaE (decide_eq_false fun h=>hm (qaO.1 h)) ?_)
        exact Ev.start (p:=fun φ n=>Z124.l0 (mkR (run E (φ 0))) (φ 0) n s 0 c=_) 1 h1 (fun _ _ _ h=>h)
      · rw[hadd,← hn];omega
theorem qkD(l:List Sim)(hl:l.length≤1024)(hx:∀ s∈l,1≤s.length∧s.length≤4) :
    ∃ c',Ret E n_Z115 [dLL l] ⟨o_Z115,(c',())⟩∧Srt c'∧(∀ x,x∈c'↔∃ s∈l,Fa x s)∧c'.length≤41*l.length:=by
  have loop:∀ d i (o:List Sim),i+d=l.length→Srt o→(∀ x,x∈o↔∃ s∈l.take i,Fa x s)→o.length≤41*i →
      ∃ c',(Ev fun φ=>Z115.l0 (mkR (run E (φ 0))) (φ 0) (φ 1) l (i:Int) o=some ⟨o_Z115,(c',())⟩)∧Srt c'∧(∀ x,x∈c'↔∃ s∈l,Fa x s)∧c'.length≤41*l.length:=by
    intro d
    induction d with
    | zero =>
      intro i o hi h1 h2 h3
      obtain rfl:i=l.length:=by omega
      rw[List.take_length] at h2
      refine⟨o,?_,h1,h2,h3⟩
      refine Ev.round 1 (L:=fun φ n=>Z115.l0 (mkR (run E (φ 0))) (φ 0) n l (l.length:Int) o) ?_ (fun _ _ _=>rfl)
      simp only[Z115.l0_succ _ qaf]
      exact qaE (decide_eq_false (by omega)) qam
    | succ d ih =>
      intro i o hi h1 h2 h3
      have hil:i<l.length:=by omega
      obtain⟨g1,g2⟩:=hx _ (List.getElem_mem hil)
      have hadd:qlA (l[i].length-1)≤41:=by
        have:l[i].length-1=0∨l[i].length-1=1∨l[i].length-1=2∨l[i].length-1=3:=by omega
        rcases this with e | e | e | e<;>rw[e]<;>decide
      have hlen:∀ x∈o,x.length≤4:=fun x hx'=>by
        obtain⟨s,hs,hf⟩:=(h2 x).1 hx'
        have:=(hx s (List.mem_of_mem_take hs)).2
        have:=qmA hf
        omega
      obtain⟨o',hr,hs',hm',hl'⟩:=qoN (l[i].length-1) l[i] o (by omega) (by omega) (by omega) ⟨by show o.length≤1048576;omega,fun x hx'=>by have:=hlen x hx';exact⟨by show x.length≤1048576;omega,fun _ _=>trivial⟩⟩ h1 (fun y hy x hxy=>by
        obtain⟨s,hs,hf⟩:=(h2 y).1 hy
        exact(h2 x).2 ⟨s,hs,qla hxy hf⟩)
      obtain⟨c',hc1,hc2⟩:=ih (i+1) o' (by omega) hs' (fun x=>by
        rw[hm',h2,List.take_succ_eq_append_getElem hil]
        constructor
        · rintro(⟨s,hs,h⟩ | h)
          · exact⟨s,List.mem_append.2 (.inl hs),h⟩
          · exact⟨_,List.mem_append.2 (.inr (List.mem_singleton.2 rfl)),h⟩
        · rintro⟨s,hs,h⟩
          rcases List.mem_append.1 hs with hs | hs
          · exact .inl ⟨s,hs,h⟩
          · rw[List.mem_singleton] at hs;subst hs;exact .inr h) (by omega)
      refine⟨c',?_,hc2⟩
      refine Ev.round 1 (L:=fun φ n=>Z115.l0 (mkR (run E (φ 0))) (φ 0) n l (i:Int) o) ?_ (fun _ _ _=>rfl)
      simp only[Z115.l0_succ _ qaf]
      refine qaC (decide_eq_true (by omega)) (qae (qaq hil) (qaa hr ?_))
      rw[qah (by omega)]
      exact hc1
  obtain⟨c',h1,h2⟩:=loop l.length 0 [] (by omega) (fun i j hj=>by simp at hj) (fun x=>by simp) (by simp)
  refine⟨c',?_,h2⟩
  refine qal ?_
  simp only[run_Z115,Z115.ev]
  exact Ev.start (p:=fun φ n=>Z115.l0 (mkR (run E (φ 0))) (φ 0) n l 0 []=_) 1 h1 (fun _ _ _ h=>h)
end VeT
open Go Go.Proofs Ve
namespace VeT
def EvQ(A:(Nat→Nat)→Option Dv)(out:Ty)(Q:out.T→Prop):Prop:=∃ x,(Ev fun φ=>A φ=some ⟨out,x⟩)∧Q x
def qi9(f:Nat)(args:List Dv)(out:Ty)(Q:out.T→Prop):Prop:=∃ x,Ret E f args ⟨out,x⟩∧Q x
theorem qbK{f:Nat}{args:List Dv}{out:Ty}{Q:out.T→Prop}(h:EvQ (fun φ=>run E (φ 0+1) f args) out Q):qi9 f args out Q:=let ⟨x,h1,h2⟩:=h;⟨x,qal h1,h2⟩
theorem qaS{out:Ty}{Q:out.T→Prop}{x:out.T}(h:Q x):EvQ (fun _=>some ⟨out,x⟩) out Q:=⟨x,qam,h⟩
theorem qbH{f:Nat}{o:Ty}{args:List Dv}{x:o.T}{out:Ty}{Q:out.T→Prop}{K:(Nat→Nat)→o.T→Option Dv}(h:Ret E f args ⟨o,x⟩)(k:EvQ (fun φ=>K φ x) out Q) :
  EvQ (fun φ=>(Option.bind (qjS (mkR (run E (φ 0))) f o args) fun y=>K φ y)) out Q:=let ⟨z,h1,h2⟩:=k;⟨z,qaa h h1,h2⟩
theorem qbm{f:Nat}{o:Ty}{args:List Dv}{P:o.T→Prop}{out:Ty}{Q:out.T→Prop}{K:(Nat→Nat)→o.T→Option Dv}(h:qi9 f args o P)(k:∀ x,P x→EvQ (fun φ=>K φ x) out Q) :
  EvQ (fun φ=>(Option.bind (qjS (mkR (run E (φ 0))) f o args) fun y=>K φ y)) out Q:=let ⟨x,h1,h2⟩:=h;qbH h1 (k x h2)
theorem qdu{α:Type}{c:Option α}{x:α}{K:(Nat→Nat)→α→Option Dv}{out:Ty}{Q:out.T→Prop}(h:c=some x)(k:EvQ (fun φ=>K φ x) out Q) :
  EvQ (fun φ=>(Option.bind c fun y=>K φ y)) out Q:=let ⟨z,h1,h2⟩:=k;⟨z,qae h h1,h2⟩
theorem qb7{b:Bool}{K:(Nat→Nat)→Unit→Option Dv}{out:Ty}{Q:out.T→Prop}(h:b=true)(k:EvQ (fun φ=>K φ ()) out Q) :
  EvQ (fun φ=>(Option.bind (chk b) fun y=>K φ y)) out Q:=let ⟨z,h1,h2⟩:=k;⟨z,qan h h1,h2⟩
theorem qpF{b:Bool}{A B:(Nat→Nat)→Option Dv}{out:Ty}{Q:out.T→Prop}(h:b=true)(k:EvQ A out Q):EvQ (fun φ=>bif b then A φ else B φ) out Q:=by subst h;exact k
theorem qkO{b:Bool}{A B:(Nat→Nat)→Option Dv}{out:Ty}{Q:out.T→Prop}(h:b=false)(k:EvQ B out Q):EvQ (fun φ=>bif b then A φ else B φ) out Q:=by subst h;exact k
theorem qdI{b:Bool}{A B:(Nat→Nat)→Option Dv}{out:Ty}{Q:out.T→Prop}(t:b=true→EvQ A out Q)(f:b=false→EvQ B out Q):EvQ (fun φ=>bif b then A φ else B φ) out Q:=by
 cases b
 ·exact f rfl
 ·exact t rfl
theorem qe9{p:Prop}[Decidable p]{A B:(Nat→Nat)→Option Dv}{out:Ty}{Q:out.T→Prop}(t:p→EvQ A out Q)(f:¬ p→EvQ B out Q):EvQ (fun φ=>bif decide p then A φ else B φ) out Q :=
 qdI (fun h=>t (of_decide_eq_true h)) fun h=>f (of_decide_eq_false h)
theorem EvQ.round(l:Nat){L:(Nat→Nat)→Nat→Option Dv}{out:Ty}{Q:out.T→Prop}(h:EvQ (fun φ=>L φ (φ l+1)) out Q)(hind:∀ φ n n',L (fup φ l n') n=L φ n):EvQ (fun φ=>L φ (φ l)) out Q :=
 let ⟨z,h1,h2⟩:=h;⟨z,Ev.round l h1 hind,h2⟩
theorem EvQ.start(l:Nat){L:(Nat→Nat)→Nat→Option Dv}{out:Ty}{Q:out.T→Prop}(h:EvQ (fun φ=>L φ (φ l)) out Q)(hind:∀ φ n n',L (fup φ l n') n=L φ n):EvQ (fun φ=>L φ (φ 0)) out Q :=
 let ⟨z,h1,h2⟩:=h;⟨z,Ev.start (p:=fun φ n=>L φ n=_) l h1 (fun φ n n' h=>by rw[hind] at h;exact h),h2⟩
theorem EvQ.loop(l:Nat){σ:Type}{L:(Nat→Nat)→Nat→σ→Option Dv}{out:Ty}{Q:out.T→Prop}(hind:∀ φ n n' s,L (fup φ l n') n s=L φ n s)(Inv:σ→Prop)(μ:σ→Nat)
  (step:∀ s,Inv s→(∀ s',Inv s'→μ s'<μ s→EvQ (fun φ=>L φ (φ l) s') out Q)→EvQ (fun φ=>L φ (φ l+1) s) out Q):∀ s,Inv s→EvQ (fun φ=>L φ (φ l) s) out Q:=by
 have key:∀ d s,μ s<d→Inv s→EvQ (fun φ=>L φ (φ l) s) out Q:=by
  intro d
  induction d with
  | zero=>intro s h;omega
  | succ d ih =>
   intro s hd hi
   exact EvQ.round l (L:=fun φ n=>L φ n s) (step s hi fun s' hi' hl=>ih s' (by omega) hi') (fun φ n n'=>hind φ n n' s)
 exact fun s=>key _ s (Nat.lt_succ_self _)
abbrev Src:=List Int×Int×Int×Unit
abbrev cR:Ty:=.cons (.sl (.int .u8)) (.cons (.int .i64) (.cons (.int .u64) .nil))
abbrev dR(s:Src):Dv:=⟨.ptr cR,s⟩
abbrev dB(s:List Int):Dv:=⟨.sl (.int .u8),s⟩
def SO(n:Nat)(s:Src):Prop:=(∀ b∈s.1,0≤b∧b≤255)∧0≤s.2.1∧s.2.1≤(n:Int)
theorem SO.le{n m:Nat}{s:Src}(h:SO n s)(hm:n≤m):SO m s:=⟨h.1,h.2.1,by have:=h.2.2;omega⟩
theorem qkt(c:List Int):Ret E n_Z94 [dB c] ⟨o_Z94,((c,0,0,()),())⟩:=by
 refine qal ?_
 simp only[run_Z94,Z94.ev]
 exact Ev.of fun _=>trivial
theorem qoH(x:BitVec (IntKind.bits .u64)):0≤w64 (IntKind.wrap .u64 (BitVec.toNat (x &&& BitVec.ofInt (IntKind.bits .u64) (255:Int))))∧w64 (IntKind.wrap .u64 (BitVec.toNat (x &&& BitVec.ofInt (IntKind.bits .u64) (255:Int))))≤255:=by
 have h:(x &&& BitVec.ofInt (IntKind.bits .u64) (255:Int)).toNat≤255:=by
  rw[BitVec.toNat_and]
  have:(BitVec.ofInt (IntKind.bits .u64) (255:Int)).toNat=255:=by decide
  rw[this]
  exact Nat.and_le_right
 rw[qjx (by omega) (by omega),qaj (by omega) (by omega)]
 omega
theorem qlu(n:Nat)(s:Src)(hn:n≤1152921504606846976)(hs:SO n s):qi9 n_Z102 [dR s] o_Z102 fun(r:Int×Src×Unit)=>0≤r.1∧r.1≤255∧SO (n+1) r.2.1:=by
 obtain⟨c,a,g,⟨⟩⟩:=s
 obtain⟨h1,h2,h3⟩:=hs
 simp only at h1 h2 h3
 have ha:w64 (a+1)=a+1:=qaj (by omega) (by omega)
 have hj:∀ b:Int,0≤b→b≤255→EvQ (fun φ=>Z102.j0 (mkR (run E (φ 0))) (φ 0) b c a g) o_Z102 fun(r:Int×Src×Unit)=>0≤r.1∧r.1≤255∧SO (n+1) r.2.1:=by
  intro b hb1 hb2
  simp only[Z102.j0_eq _ qaf,ha]
  refine qe9 (fun h=>qaS ⟨hb1,hb2,h1,?_,?_⟩) fun h=>?_
  ·show 0≤a+1;omega
  ·show a+1≤((n+1:Nat):Int);omega
  ·refine qb7 (by decide) (qaS ⟨?_,?_,h1,?_,?_⟩)
   ·exact(qoH _).1
   ·exact(qoH _).2
   ·show 0≤a+1;omega
   ·show a+1≤((n+1:Nat):Int);omega
 refine qbK ?_
 simp only[run_Z102,Z102.ev]
 refine qe9 (fun h=>?_) fun h=>hj 0 (by omega) (by omega)
 obtain⟨k,rfl⟩:∃ k:Nat,a=(k:Int):=⟨a.toNat,by omega⟩
 have hk:k<c.length:=by omega
 have hb:=h1 _ (List.getElem_mem hk)
 refine qdu (qaq hk) ?_
 have e:w64 c[k]=c[k]:=qaj (by omega) (by omega)
 have:=hj _ hb.1 hb.2
 rw[← e] at this
 exact this
theorem qce(n:Nat)(s:Src)(k:Int)(hn:n≤1000000000000)(hs:SO n s):qi9 n_Z104 [dR s,dI k] o_Z104 fun(r:Int×Src×Unit)=>0≤r.1∧(r.1<k∨r.1=0)∧r.1≤65535∧SO (n+2) r.2.1:=by
 obtain⟨c,a,g,⟨⟩⟩:=s
 refine qbK ?_
 simp only[run_Z104,Z104.ev]
 refine qe9 (fun h=>qaS ⟨Int.le_refl _,.inr rfl,(by show(0:Int)≤65535;decide),hs.le (by omega)⟩) fun h=>?_
 have hk:0<k:=by omega
 have tm:∀ x:Int,0≤x→0≤Int.tmod x k∧Int.tmod x k<k∧Int.tmod x k≤x:=fun x hx=>by
  rw[Int.tmod_eq_emod_of_nonneg hx]
  have h1:=Int.mul_ediv_add_emod x k
  have h2:0≤k*(x / k):=Int.mul_nonneg (by omega) (Int.ediv_nonneg hx (by omega))
  generalize k*(x / k)=y at h1 h2
  exact⟨Int.emod_nonneg _ (by omega),Int.emod_lt_of_pos _ hk,by omega⟩
 have hne:(k != 0)=true:=by simp;omega
 refine qbm (qlu n _ (by omega) hs) fun(r:Int×Src×Unit) ⟨r1,r2,r3⟩=>?_
 refine qe9 (fun h2=>?_) fun h2=>?_
 ·refine qbm (qlu (n+1) _ (by omega) r3) fun(q:Int×Src×Unit) ⟨q1,q2,q3⟩=>?_
  refine qb7 hne (qaS ?_)
  have e1:w64 (r.1*256)=r.1*256:=qaj (by omega) (by omega)
  have e2:w64 (r.1*256+q.1)=r.1*256+q.1:=qaj (by omega) (by omega)
  have:=tm (r.1*256+q.1) (by omega)
  refine⟨?_,.inl ?_,?_,q3⟩
  ·show 0≤Int.tmod _ _;rw[e1,e2];exact this.1
  ·show Int.tmod _ _<_;rw[e1,e2];exact this.2.1
  ·show Int.tmod _ _≤_;rw[e1,e2];omega
 ·have:=tm r.1 r1
  exact qb7 hne (qaS ⟨this.1,.inl this.2.1,(by show Int.tmod _ _≤_;omega),r3.le (by omega)⟩)
theorem qi6(n:Nat)(s:Src)(k:Int)(hn:n≤1000000000000)(hs:SO n s):qi9 n_Z103 [dR s,dI k] o_Z103 fun(r:Bool×Src×Unit)=>SO (n+2) r.2.1:=by
 obtain⟨c,a,g,⟨⟩⟩:=s
 refine qbK ?_
 simp only[run_Z103,Z103.ev]
 exact qbm (qce n _ k hn hs) fun(r:Int×Src×Unit) ⟨r1,r2,r3,r4⟩=>qaS r4
theorem qe6(n:Nat)(s:Src)(l:List Int)(hl:l≠[])(hn:n≤1000000000000)(hs:SO n s):qi9 n_Z101 [dR s,dL l] o_Z101 fun(r:Int×Src×Unit)=>r.1∈l∧SO (n+2) r.2.1:=by
 obtain⟨c,a,g,⟨⟩⟩:=s
 have:0<l.length:=List.length_pos_iff.2 hl
 refine qbK ?_
 simp only[run_Z101,Z101.ev]
 refine qbm (qce n _ _ hn hs) fun(r:Int×Src×Unit) ⟨r1,r2,r3,r4⟩=>?_
 obtain⟨k,hk⟩:∃ k:Nat,r.1=(k:Int):=⟨r.1.toNat,by omega⟩
 have hkl:k<l.length:=by omega
 rw[hk]
 exact qdu (qaq hkl) (qaS ⟨List.getElem_mem hkl,r4⟩)
end VeT
open Go Go.Proofs Ve
namespace VeT
theorem qn2{c:List Sim}(hv:VC c):(qlM c c.length).length≤192:=by
 have h:=hv.plc (k:=c.length) (Nat.le_refl _)
 have:=hv.1
 unfold plc at h
 omega
end VeT
open Go Go.Proofs Ve
namespace VeT
theorem Srt.nodup{c:List Sim}(h:Srt c):c.Nodup:=by
 rw[List.nodup_iff_pairwise_ne,List.pairwise_iff_getElem]
 intro i j hi hj hij e
 have:=h i j hj hij
 rw[e,qcE.2 rfl] at this
 omega
theorem VC.sm{c:List Sim}(h:VC c):Sm (.sl (.sl (.int .i64))) c:=by
 refine⟨by have:=h.1;show c.length≤1048576;omega,fun s hs=>?_⟩
 obtain⟨k,hk,rfl⟩:=List.getElem_of_mem hs
 have:=h.2.1 k hk
 rw[List.getD_eq_getElem?_getD,List.getElem?_eq_getElem hk] at this
 have:=this.2.1
 refine⟨?_,fun _ _=>trivial⟩
 show(c[k]).length≤1048576
 simp at this
 omega
theorem qgE(n:Nat)(s:Src)(v most:Int)(hn:n≤100000000000)(hs:SO n s)(hm:1≤most∧most≤4)(hv:1≤v∧v≤10) :
  qi9 n_Z118 [dR s,dI v,dI most] o_Z118 fun(r:Sim×Src×Unit)=>Vx r.1∧(r.1.length:Int)≤most∧(∀ x∈r.1,x<v)∧SO (n+12) r.2.1:=by
 obtain⟨c,a,g,⟨⟩⟩:=s
 refine qbK ?_
 simp only[run_Z118,Z118.ev]
 refine qbm (qce n _ most (by omega) hs) fun(r:Int×Src×Unit) ⟨r1,r2,r3,r4⟩=>?_
 obtain⟨k0,hk0⟩:∃ k:Nat,(r.1:Int)=(k:Int):=⟨Int.toNat r.1,(Int.toNat_of_nonneg r1).symm⟩
 have e0:w64 (1+r.1)=((k0+1:Nat):Int):=by rw[hk0,qaj (by omega) (by omega)];omega
 refine EvQ.start 1 (L:=fun φ N=>Z118.l0 (mkR (run E (φ 0))) (φ 0) N v [] (w64 (1+r.1)) r.2.1.1 r.2.1.2.1 r.2.1.2.2.1) ?_ (fun _ _ _=>rfl)
 rw[e0]
 refine EvQ.loop 1 (σ:=Sim×Nat×Src) (L:=fun φ N st=>Z118.l0 (mkR (run E (φ 0))) (φ 0) N v st.1 (st.2.1:Int) st.2.2.1 st.2.2.2.1 st.2.2.2.2.1) (fun _ _ _ _=>rfl)
  (fun st=>st.1.Pairwise (·<·)∧(∀ x∈st.1,0≤x∧x<v)∧((st.1.length+st.2.1:Nat):Int)≤most∧1≤st.1.length+st.2.1∧SO (n+10-2*st.2.1) st.2.2) (fun st=>st.2.1) (fun st hi ih=>?_) ([],k0+1,r.2.1) ⟨List.Pairwise.nil,fun x hx=>by simp at hx,?_,?_,?_⟩
 ·obtain⟨o,k,s1⟩:=st
  obtain⟨i1,i2,i3,i4,i5⟩:=hi
  simp only at i1 i2 i3 i4 i5 ih ⊢
  simp only[Z118.l0_succ _ qaf]
  refine qe9 (fun h=>?_) fun h=>?_
  ·refine qbm (qce _ s1 v (by omega) i5) fun(q:Int×Src×Unit) ⟨q1,q2,q3,q4⟩=>?_
   refine qbH (qh5 o q.1 (by omega)) ?_
   rw[show w64 ((k:Int)-1)=((k-1:Nat):Int) by rw[qaj (by omega) (by omega)];omega]
   refine ih (qcl o q.1,k-1,q.2.1) ⟨qfl i1,fun x hx=>?_,?_,?_,?_⟩ (by show k-1<k;omega)
   ·rcases qfe.1 hx with rfl | hx
    ·omega
    ·exact i2 x hx
   ·have:=qdy (l:=o) (n:=q.1)
    show((((qcl o q.1).length+(k-1):Nat)):Int)≤most
    omega
   ·have:1≤(qcl o q.1).length:=List.length_pos_of_mem (qfe.2 (.inl rfl))
    show 1≤(qcl o q.1).length+(k-1)
    omega
   ·exact q4.le (by show n+10-2*k+2≤n+10-2*(k-1);omega)
  ·refine qaS ⟨⟨by show 1≤o.length;omega,by show o.length≤4;omega,qn3 i1,fun x hx=>⟨(i2 x hx).1,by have:=(i2 x hx).2;omega⟩⟩,by show(o.length:Int)≤most;omega,fun x hx=>(i2 x hx).2,i5.le (by omega)⟩
 ·show((([]:Sim).length+(k0+1):Nat):Int)≤most
  simp;omega
 ·show 1≤([]:Sim).length+(k0+1)
  simp
 ·exact r4.le (by show n+2≤n+10-2*(k0+1);omega)
end VeT
open Go Go.Proofs Ve
namespace VeT
theorem qaR.set{l:Sim}{p x:Int}(h:qaR l p)(hx:0≤x∧x≤p-1)(i:Nat):qaR (l.set i x) p:=fun y hy=>by
 rcases List.mem_or_eq_of_mem_set hy with hy | rfl
 ·exact h y hy
 ·exact hx
end VeT
open Go Go.Proofs Ve
namespace VeT
def qoM(a b:Sim)(W V:Nat):Ent:=fun i j=>if j<W then qb2 a W i j else qb2 b V i (j-W)
def qo6(a b:Sim)(W V R:Nat):Sim:=qat (qoM a b W V) (W+V) R
theorem qaR.flat{A:Ent}{R C:Nat}{p:Int}(h:EIn p R C A):qaR (qat A C R) p:=fun x hx=>by
 rw[← qcn] at hx
 obtain⟨row,hrow,hx⟩:=List.mem_flatten.1 hx
 obtain⟨i,hi,rfl⟩:=List.mem_map.1 hrow
 obtain⟨j,hj,rfl⟩:=List.mem_map.1 hx
 exact h i j (List.mem_range.1 hi) (List.mem_range.1 hj)
end VeT
open Go Go.Proofs Ve
namespace VeT
noncomputable def qqh(p:Int)(d:Nat)(cells:Sim):Ent:=(elS p d (qb2 (qo6 cells (qat qkW d d) d d d) (d+d)) (d+d)).1
noncomputable def qqf(p:Int)(d:Nat)(cells:Sim):Sim:=qat (fun i k=>qqh p d cells i (d+k)) d d
theorem qnI{p:Int}{a b:Sim}{W V R:Nat}(ha:qaR a p)(hb:qaR b p)(hl:a.length=R*W)(hbl:b.length=R*V):EIn p R (W+V) (qoM a b W V):=fun i j hi hj=>by
 unfold qoM
 split
 ·exact qcz ha hl i j hi (by omega)
 ·exact qcz hb hbl i (j-W) hi (by omega)
theorem qnL{p:Int}(hp:2≤p){d:Nat}:EIn p d d qkW:=fun i j _ _=>by
 show 0≤qkW i j∧qkW i j≤p-1
 unfold qkW;split<;>omega
theorem qoV{p:Int}(hp:2≤p){d:Nat}{cells:Sim}(hl:cells.length=d*d)(he:qaR cells p):EIn p d (d+d) (qb2 (qo6 cells (qat qkW d d) d d d) (d+d)):=fun i j hi hj=>by
 unfold qo6;rw[qcu hi hj]
 exact qnI he (qaR.flat (qnL hp)) hl qaz i j hi hj
theorem qmu{p:Int}(hp:2≤p){d:Nat}{cells:Sim}(hl:cells.length=d*d)(he:qaR cells p):qaR (qqf p d cells) p∧(qqf p d cells).length=d*d:=by
 refine⟨qaR.flat fun i j hi hj=>?_,qaz⟩
 exact(qd7 hp (qoV hp hl he) (d+d)).1 i (d+j) hi (by omega)
end VeT
open Go Go.Proofs Ve
namespace VeT
def BOk(p:Int)(d:Nat)(m:Mat):Prop:=∃ cells,m=(p,(d:Int),(d:Int),cells,())∧cells.length=d*d∧qaR cells p∧rkM p d d cells=d
noncomputable def qqx(p:Int)(d:Nat)(m:Mat):Mat:=(p,(d:Int),(d:Int),qqf p d m.2.2.2.1,())
theorem qp5{p:Int}{d:Nat}{cells:Sim}(hp:Pr p)(hd:d≤4)(hl:cells.length=d*d)(he:qaR cells p):VM (p,(d:Int),(d:Int),cells,()) :=
 ⟨hp,⟨by show(0:Int)≤d;omega,by show(d:Int)≤32;omega⟩,⟨by show(0:Int)≤d;omega,by show(d:Int)≤32;omega⟩,by show(cells.length:Int)=d*d;rw[hl];simp,he⟩
theorem BOk.vm{p:Int}{d:Nat}{m:Mat}(hp:Pr p)(hd:d≤4)(h:BOk p d m):VM m∧VM (qqx p d m):=by
 obtain⟨cells,rfl,h1,h2,h3⟩:=h
 exact⟨qp5 hp hd h1 h2,qp5 hp hd (qmu hp.1 h1 h2).2 (qmu hp.1 h1 h2).1⟩
end VeT
open Go Go.Proofs Ve
namespace VeT
end VeT
open Go Go.Proofs Ve
namespace VeT
end VeT
open Go Go.Proofs Ve
namespace VeT
end VeT
open Go Go.Proofs Ve
namespace VeT
end VeT
open Go Go.Proofs Ve
namespace VeT
theorem VS.at{c:List Sim}{p:Int}{st:Sim}{ms:List Mat}(h:VS c p st ms){t:Nat}(ht:t<ms.length):∃ a b:Nat,a≤3∧b≤3∧VM (ms.getD t mz)∧(ms.getD t mz).1=p∧(ms.getD t mz).2.1=(a:Int)∧(ms.getD t mz).2.2.1=(b:Int):=by
 have hl:=h.2.2.2.1
 have ht':t<(qlM c c.length).length:=by unfold plc at hl;omega
 obtain⟨k,i,h1,h2,h3⟩:=qns ht'
 have hb:=(h.map h1 h2).2
 unfold mp at hb
 rw[← h3] at hb
 obtain⟨a1,a2⟩:=qpK h.2.2.1.2.1 k
 obtain⟨b1,b2⟩:=qpK h.2.2.1.2.1 (fc c k i)
 exact⟨(st.getD k 0).toNat,(st.getD (fc c k i) 0).toNat,by omega,by omega,hb.1,hb.2.1,by rw[hb.2.2.1];omega,by rw[hb.2.2.2];omega⟩
theorem qff{l:Sim}(h:l.length≤1048576):Sm (.sl (.int .i64)) l:=⟨h,fun _ _=>trivial⟩
theorem qoR{ms:List Mat}(h:ms.length≤1048576)(h2:∀ m∈ms,m.2.2.2.1.length≤1048576):Sm (.sl (.st cM)) ms:=⟨h,fun m hm=>⟨trivial,trivial,trivial,qff (h2 m hm),trivial⟩⟩
theorem VS.plc_le{c:List Sim}{p:Int}{st:Sim}{ms:List Mat}(h:VS c p st ms):ms.length≤192:=by
 rw[← h.2.2.2.1];exact qn2 h.1
theorem VS.cells{c:List Sim}{p:Int}{st:Sim}{ms:List Mat}(h:VS c p st ms):∀ m∈ms,m.2.2.2.1.length≤9:=fun m hm=>by
 obtain⟨t,ht,rfl⟩:=List.getElem_of_mem hm
 obtain⟨a,b,ha,hb,hv,_,e1,e2⟩:=h.at ht
 rw[qag ht] at hv e1 e2
 have:=hv.num
 rw[e1,e2,Int.toNat_natCast,Int.toNat_natCast] at this
 have:=Nat.mul_le_mul ha hb
 omega
theorem VS.sm{c:List Sim}{p:Int}{st:Sim}{ms:List Mat}(h:VS c p st ms):Sm (.st cS) (c,p,st,ms,()):=by
 have h48:=h.1.1
 have hl:=h.2.2.1.1
 have h192:=h.plc_le
 exact⟨h.1.sm,trivial,qff (by show st.length≤_;omega),qoR (by show ms.length≤_;omega) fun m hm=>by have:=h.cells m hm;omega,trivial⟩
end VeT
open Go Go.Proofs Ve
namespace VeT
theorem qmF{c:List Sim}(h:Srt c){d:Int}{f0 s:Nat}(hy:(qad c d c.length).head? = some (f0:Int))(hs:s<c.length)(hd:((c.getD s []).length:Int)=d+1):(qad c d s).length=s-f0∧f0≤s:=by
 have hym:(f0:Int)∈qad c d c.length:=List.mem_of_head? hy
 obtain⟨f,ef,hf,hfd⟩:=qbG.1 hym
 obtain rfl:f=f0:=by omega
 obtain⟨tl2,hL2⟩:=qfd hf hfd
 have hz:qad c d f=[]:=by
  cases hh:qad c d f with
  | nil=>rfl
  | cons z l =>
   have hz:z∈qad c d f:=by rw[hh];exact List.mem_cons_self
   obtain⟨i,rfl,hi⟩:=qg3 hz
   rw[hL2,hh] at hy
   have:((i:Nat):Int)=f:=by simpa using hy
   omega
 have hfs:f≤s:=by
  refine Classical.byContradiction fun hn=>?_
  have:((s:Nat):Int)∈qad c d f:=qbG.2 ⟨s,rfl,by omega,hd⟩
  rw[hz] at this;cases this
 have hlen:∀ t,f+t≤s→(qad c d (f+t)).length=t:=by
  intro t
  induction t with
  | zero=>intro _;rw[Nat.add_zero,hz];rfl
  | succ t ih =>
   intro ht
   have h1:=qgr h (show f≤f+t by omega) (by omega)
   have h2:=qgr h (show f+t≤s by omega) hs
   rw[← Nat.add_assoc,qcw,if_pos (by omega),List.length_append,ih (by omega)];rfl
 have:=hlen (s-f) (by omega)
 rw[show f+(s-f)=s by omega] at this
 exact⟨this,hfs⟩
noncomputable def qje(c:List Sim)(k:Int)(s i:Nat):Nat:=((qb4 c s).getD i 0-(qad c (k-1) c.length).getD 0 0).toNat
theorem qnv{c:List Sim}(hv:VC c){k:Int}{s i:Nat}(hs:s<c.length)(hd:((c.getD s []).length:Int)=k+1)(hi:i<(qb4 c s).length) :
  qje c k s i=(qad c (k-1) (fc c s i)).length∧qje c k s i<(qad c (k-1) c.length).length∧((c.getD (fc c s i) []).length:Int)=k∧fc c s i<c.length:=by
 obtain⟨_,g1,g2⟩:=qjW hv hs hi
 obtain⟨t,f0,e1,e2,e3,e4,e5,e6⟩:=qgX hv.srt (qlx hv hs hd (List.getElem_mem hi))
 have ht:t=fc c s i:=by unfold fc;rw[qag hi,e1];rfl
 have hl:=qbs (c:=c) (k:=s)
 have h1:1<(c.getD s []).length:=Classical.byContradiction fun hn=>by rw[if_neg hn] at hl;omega
 rw[if_pos h1] at hl
 have hfl:((c.getD (fc c s i) []).length:Int)=k:=by rw[g2,List.length_eraseIdx_of_lt (by omega)];omega
 have hp:=(qmF hv.srt e4 g1 (by omega)).1
 have e0:(qad c (k-1) c.length).getD 0 0=(f0:Int):=by rw[List.getD_eq_getElem?_getD,← List.head?_eq_getElem?,e4];rfl
 have hb:qje c k s i=t-f0:=by
  unfold qje
  rw[qag hi,e1,e0];omega
 exact⟨by rw[hb,hp,ht],by rw[hb];exact e6,hfl,g1⟩
theorem qgw{a b j l C:Nat}(hj:j<C)(hl:l<C)(e:a*C+j=b*C+l):a=b∧j=l:=by
 rcases Nat.lt_trichotomy a b with h | h | h
 ·have:=Nat.mul_le_mul_right C (show a+1≤b from h)
  rw[Nat.succ_mul] at this;omega
 ·subst h;exact⟨rfl,by omega⟩
 ·have:=Nat.mul_le_mul_right C (show b+1≤a from h)
  rw[Nat.succ_mul] at this;omega
theorem qdm{l:Sim}{i j:Nat}{v:Int}(h:i≠j):(l.set i v).getD j 0=l.getD j 0:=by
 rw[List.getD_eq_getElem?_getD,List.getElem?_set_ne h,← List.getD_eq_getElem?_getD]
theorem qgq{c:List Sim}{k p:Int}{s j r l:Nat}{cells:Sim}(hj:j<(qad c k c.length).length)(hl:l<(qad c k c.length).length):∀ {n:Nat},(∀ i,i<n→¬ (qje c k s i=r∧j=l))→(bdJ c k p s j cells n).getD (r*(qad c k c.length).length+l) 0=cells.getD (r*(qad c k c.length).length+l) 0
 | 0,_=>rfl
 | n+1,h=>by
  show((bdJ c k p s j cells n).set (qje c k s n*(qad c k c.length).length+j) (sgn p n)).getD _ 0=_
  rw[qdm fun e=>h n (by omega) (qgw (a:=qje c k s n) hj hl e)]
  exact qgq hj hl fun i hi=>h i (by omega)
theorem qmv{c:List Sim}{k p:Int}{s j r i0:Nat}{cells:Sim}(hj:j<(qad c k c.length).length)(hlt:r*(qad c k c.length).length+j<cells.length)(hr:qje c k s i0=r):∀ {n:Nat},i0<n→(∀ i,i<n→qje c k s i=r→i=i0)→(bdJ c k p s j cells n).getD (r*(qad c k c.length).length+j) 0=sgn p i0
 | 0,h,_=>by omega
 | n+1,h,hinj=>by
  by_cases e:n=i0
  ·subst e
   unfold bdJ
   have e2:((qb4 c s).getD n 0-(qad c (k-1) c.length).getD 0 0).toNat=r:=hr
   rw[e2,List.getD_eq_getElem?_getD,List.getElem?_set_self (by rw[qc8];exact hlt)];rfl
  ·show((bdJ c k p s j cells n).set (qje c k s n*(qad c k c.length).length+j) (sgn p n)).getD _ 0=_
   rw[qdm fun e2=>e (hinj n (by omega) (qgw (a:=qje c k s n) hj hj e2).1)]
   exact qmv hj hlt hr (by omega) fun i hi=>hinj i (by omega)
theorem qlH{c:List Sim}{k p:Int}{r l:Nat}(hl:l<(qad c k c.length).length):∀ {n:Nat},n≤l→(bdC c k p n).getD (r*(qad c k c.length).length+l) 0=0
 | 0,_=>by
  unfold bdC
  rw[List.getD_eq_getElem?_getD,List.getElem?_replicate];split<;>rfl
 | n+1,h=>by
  unfold bdC
  rw[qgq (by omega) hl fun i _ hh=>by omega]
  exact qlH hl (by omega)
theorem qnw{c:List Sim}{k p:Int}{r l:Nat}(hl:l<(qad c k c.length).length):∀ {n:Nat},l<n→n≤(qad c k c.length).length→(bdC c k p n).getD (r*(qad c k c.length).length+l) 0=(bdC c k p (l+1)).getD (r*(qad c k c.length).length+l) 0
 | 0,h,_=>by omega
 | n+1,h,hn=>by
  by_cases e:l=n
  ·subst e;rfl
  ·have:bdC c k p (n+1)=bdJ c k p ((qad c k c.length).getD n 0).toNat n (bdC c k p n) (qb4 c ((qad c k c.length).getD n 0).toNat).length:=rfl
   rw[this,qgq (by omega) hl fun i _ hh=>by omega]
   exact qnw hl (by omega) (by omega)
theorem qoE{c:List Sim}{k p:Int}{r l s:Nat}(hl:l<(qad c k c.length).length)(es:((qad c k c.length).getD l 0).toNat=s) :
  qb2 (bdM c k p).2.2.2.1 (qad c k c.length).length r l=(bdJ c k p s l (bdC c k p l) (qb4 c s).length).getD (r*(qad c k c.length).length+l) 0:=by
 show(bdC c k p (qad c k c.length).length).getD (r*(qad c k c.length).length+l) 0=_
 rw[qnw hl hl (Nat.le_refl _)]
 have:bdC c k p (l+1)=bdJ c k p ((qad c k c.length).getD l 0).toNat l (bdC c k p l) (qb4 c ((qad c k c.length).getD l 0).toNat).length:=rfl
 rw[this,es]
theorem qpc{c:List Sim}{k p:Int}{r l s:Nat}(hl:l<(qad c k c.length).length)(es:((qad c k c.length).getD l 0).toNat=s)(h:∀ i,i<(qb4 c s).length→qje c k s i≠r) :
  qb2 (bdM c k p).2.2.2.1 (qad c k c.length).length r l=0:=by
 rw[qoE hl es,qgq hl hl fun i hi hh=>h i hi hh.1]
 exact qlH hl (Nat.le_refl _)
theorem qpI{c:List Sim}{k p:Int}{r l s i0:Nat}(hl:l<(qad c k c.length).length)(hr:r<(qad c (k-1) c.length).length)(es:((qad c k c.length).getD l 0).toNat=s)(hi0:i0<(qb4 c s).length)(e:qje c k s i0=r)
  (hinj:∀ i,i<(qb4 c s).length→qje c k s i=r→i=i0):qb2 (bdM c k p).2.2.2.1 (qad c k c.length).length r l=sgn p i0:=by
 rw[qoE hl es]
 exact qmv hl (by rw[qbl];exact qga hr hl) e hi0 hinj
theorem qiz{c:List Sim}{d:Int}{s:Nat}(hs:s<c.length)(hd:((c.getD s []).length:Int)=d+1):(qad c d s).length<(qad c d c.length).length∧((qad c d c.length).getD (qad c d s).length 0).toNat=s:=by
 obtain⟨tl,e⟩:=qfd (c:=c) hs hd
 refine⟨by rw[e,List.length_append];simp,?_⟩
 rw[e,List.getD_eq_getElem?_getD,List.getElem?_append_right (Nat.le_refl _),Nat.sub_self];rfl
theorem qfG{c:List Sim}{d:Int}{r:Nat}(hr:r<(qad c d c.length).length):∃ s,s<c.length∧((c.getD s []).length:Int)=d+1∧(qad c d s).length=r∧((qad c d c.length).getD r 0).toNat=s:=by
 have key:∀ n,n≤c.length→∀ r,r<(qad c d n).length→∃ s,s<n∧((c.getD s []).length:Int)=d+1∧(qad c d s).length=r:=by
  intro n
  induction n with
  | zero=>intro _ r hr;simp[qad] at hr
  | succ n ih =>
   intro hn r hr
   rw[qcw,List.length_append] at hr
   by_cases h:r<(qad c d n).length
   ·obtain⟨s,h1,h2⟩:=ih (by omega) r h
    exact⟨s,by omega,h2⟩
   ·split at hr
    ·rename_i hd
     simp at hr
     exact⟨n,by omega,hd,by omega⟩
    ·simp at hr;omega
 obtain⟨s,h1,h2,h3⟩:=key c.length (Nat.le_refl _) r hr
 refine⟨s,h1,h2,h3,?_⟩
 have:=(qiz h1 h2).2
 rw[h3] at this;exact this
end VeT
open Go Go.Proofs Ve
namespace VeT
theorem qnz{p:Int}(n:Nat):sgn p n%p=sgI n%p:=by
 unfold sgn sgI
 split
 ·rfl
 ·rw[show p-1=-1+p by omega,Int.add_emod_right]
noncomputable def smx(c:List Sim)(d:Int)(r:Nat):Sim:=c.getD ((qad c d c.length).getD r 0).toNat []
def qee(t:Sim):Sim→Int:=fun u=>if u=t then 1 else 0
theorem qlr{vs im s:List Int}:∀ {n:Nat},n≤s.length→((s.take n).map (qgj vs im)).foldl qcl []=sgm (fun x=>qgj vs im (s.getD x 0)) n
 | 0,_=>rfl
 | n+1,h=>by
  rw[List.take_succ_eq_append_getElem (show n<s.length by omega),List.map_append,List.foldl_append,qlr (by omega)]
  show qcl _ (qgj vs im s[n])=qcl _ (qgj vs im (s.getD n 0))
  rw[qag (show n<s.length by omega)]
theorem qkn{a:List Sim}{im s:Sim}:img (vxs a) im s=sgm (qbB a im s) s.length:=by
 have:=qlr (vs:=vxs a) (im:=im) (s:=s) (Nat.le_refl _)
 rw[List.take_length] at this
 exact this
theorem qg5{c:List Sim}(hc:Srt c){d:Int}{t r:Nat}(ht:t<c.length)(hd:((c.getD t []).length:Int)=d+1)(hr:r<(qad c d c.length).length):smx c d r=c.getD t []↔(qad c d t).length=r:=by
 constructor
 ·intro h
  obtain⟨s,h1,h2,h3,h4⟩:=qfG hr
  unfold smx at h
  rw[h4] at h
  have:s=t:=by
   refine Classical.byContradiction fun hn=>?_
   have hd:=List.pairwise_iff_getElem.1 (List.nodup_iff_pairwise_ne.1 hc.nodup)
   rw[List.getD_eq_getElem?_getD,List.getD_eq_getElem?_getD,List.getElem?_eq_getElem h1,List.getElem?_eq_getElem ht] at h
   rcases Nat.lt_or_gt_of_ne hn with hlt | hlt
   ·exact hd s t h1 ht hlt h
   ·exact hd t s ht h1 hlt h.symm
  subst this;exact h3
 ·rintro rfl
  unfold smx
  rw[(qiz ht hd).2]
theorem qkJ{c:List Sim}{d:Int}{r:Nat}(hr:r<(qad c d c.length).length):∃ s,s<c.length∧((qad c d c.length).getD r 0).toNat=s∧smx c d r=c.getD s []∧((c.getD s []).length:Int)=d+1∧(qad c d s).length=r:=by
 obtain⟨s,h1,h2,h3,h4⟩:=qfG hr
 exact⟨s,h1,h4,by unfold smx;rw[h4],h2,h3⟩
theorem qk4{a b:List Sim}{im:Sim}{k p:Int}{r l j:Nat}(hj:j<(qad a k a.length).length)(hl:l<(qad a k a.length).length)(hn:j≠l) :
  (chC a b im k p (j+1)).getD (r*(qad a k a.length).length+l) 0=(chC a b im k p j).getD (r*(qad a k a.length).length+l) 0:=by
 rw[chC]
 split
 ·rw[qdm fun e=>hn (qgw hj hl e).2]
 ·rfl
theorem qiv{a b:List Sim}{im:Sim}{k p:Int}{r l:Nat}(hl:l<(qad a k a.length).length):∀ {n:Nat},n≤l→(chC a b im k p n).getD (r*(qad a k a.length).length+l) 0=0
 | 0,_=>by
  unfold chC
  rw[List.getD_eq_getElem?_getD,List.getElem?_replicate];split<;>rfl
 | n+1,h=>by
  rw[qk4 (by omega) hl (by omega)]
  exact qiv hl (by omega)
theorem qlt{a b:List Sim}{im:Sim}{k p:Int}{r l:Nat}(hl:l<(qad a k a.length).length):∀ {n:Nat},l<n→n≤(qad a k a.length).length→(chC a b im k p n).getD (r*(qad a k a.length).length+l) 0=(chC a b im k p (l+1)).getD (r*(qad a k a.length).length+l) 0
 | 0,h,_=>by omega
 | n+1,h,hn=>by
  by_cases e:l=n
  ·subst e;rfl
  ·rw[qk4 (by omega) hl (by omega)]
   exact qlt hl (by omega) (by omega)
theorem qno{a b:List Sim}{im:Sim}{k p:Int}(F:ChF a b im k p){r l:Nat}(hr:r<(qad b k b.length).length)(hl:l<(qad a k a.length).length) :
  mE (qc3 a b im k p) r l%p=Cc (qbB a im (smx a k l)) (smx a k l).length (qee (smx b k r))%p:=by
 obtain⟨⟨ha,hb⟩,hm⟩:=qdQ.1 F.mc
 obtain⟨s,hs,e1,e2,e3,e4,e5,e6,e7⟩:=F.col hl
 have es:smx a k l=a[s]:=by unfold smx;rw[e2,e3]
 have eE:mE (qc3 a b im k p) r l=(chC a b im k p (l+1)).getD (r*(qad a k a.length).length+l) 0:=by
  rw[← qlt hl hl (Nat.le_refl _)];rfl
 obtain⟨c1,c2⟩:=qlJ (a:=a) (b:=b) (im:=im) (k:=k) (p:=p) e2 (fun _=>e3) hs
 rw[eE,es]
 unfold Cc
 rw[← qkn]
 by_cases hn:(img (vxs a) im a[s]).length=a[s].length
 ·obtain⟨t,f0,g1,g2,g3,g4,g5,g6⟩:=e7 hn
  have hbt:t<b.length∧b.getD t []=img (vxs a) im a[s]:=by
   obtain⟨q,hq,eq⟩:=List.mem_iff_getElem.1 e6
   have:=(qiG hb.srt (s:=img (vxs a) im a[s]) hq).2 eq.symm
   have:q=t:=by omega
   subst this
   exact⟨hq,by rw[qag hq,eq]⟩
  have hbd:((b.getD t []).length:Int)=k+1:=by rw[hbt.2,hn];exact e4
  have hpos:(qbV b (img (vxs a) im a[s])-(qad b k b.length).getD 0 0).toNat=(qad b k t).length:=by
   rw[(qmF hb.srt g3 hbt.1 hbd).1,g1,g4];omega
  rw[c1 hn,hpos,if_pos hn]
  have hiff:=qg5 hb.srt hbt.1 hbd hr
  rw[hbt.2] at hiff
  by_cases hpr:(qad b k t).length=r
  ·rw[hpr,List.getD_eq_getElem?_getD,List.getElem?_set_self (by rw[qc7];exact qga hr hl)]
   show sgn p _%p=_
   unfold qee
   rw[if_pos (hiff.2 hpr).symm,Int.mul_one,qnz]
  ·rw[qdm fun e=>hpr (qgw hl hl e).1,qiv hl (Nat.le_refl _)]
   unfold qee
   rw[if_neg fun e=>hpr (hiff.1 e.symm),Int.mul_zero]
 ·rw[c2 hn,if_neg hn,qiv hl (Nat.le_refl _)]
theorem qiQ{g:Nat→Int}:∀ {n:Nat},(∀ i,i<n→g i=0)→smN g n=0
 | 0,_=>rfl
 | n+1,h=>by
  show smN g n+g n=0
  rw[qiQ fun i hi=>h i (by omega),h n (by omega)];rfl
theorem qnu{g:Nat→Int}{k:Nat}:∀ {n:Nat},k<n→(∀ i,i<n→i≠k→g i=0)→smN g n=g k
 | 0,h,_=>by omega
 | n+1,h,hz=>by
  show smN g n+g n=g k
  by_cases e:k=n
  ·subst e
   rw[qiQ fun i hi=>hz i (by omega) (by omega)];omega
  ·rw[qnu (by omega) fun i hi hn=>hz i (by omega) hn,hz n (by omega) (fun h=>e h.symm)];omega
theorem qm3{c:List Sim}(hv:VC c){k p:Int}(hk:1≤k){r l:Nat}(hr:r<(qad c (k-1) c.length).length)(hl:l<(qad c k c.length).length) :
  mE (bdM c k p) r l%p=Dd (smx c k l) (qee (smx c (k-1) r))%p:=by
 obtain⟨s,hs,e1,e2,e3,e4⟩:=qkJ hl
 rw[e2,qmz]
 have hfl:(qb4 c s).length=(c.getD s []).length:=by rw[qbs,if_pos (by omega)]
 have hface:∀ i,i<(c.getD s []).length→((c.getD s []).eraseIdx i=smx c (k-1) r↔qje c k s i=r):=fun i hi=>by
  obtain⟨b1,b2,b3,b4⟩:=qnv hv hs e3 (i:=i) (by omega)
  obtain⟨_,_,g2⟩:=qjW hv hs (i:=i) (by omega)
  have:=qg5 hv.srt (d:=k-1) b4 (by omega) hr
  rw[← g2,b1,← this]
  exact eq_comm
 have eE:mE (bdM c k p) r l=qb2 (bdM c k p).2.2.2.1 (qad c k c.length).length r l:=rfl
 rw[eE]
 by_cases he:∃ i,i<(c.getD s []).length∧qje c k s i=r
 ·obtain⟨i0,h0,h1⟩:=he
  have hinj:∀ i,i<(c.getD s []).length→qje c k s i=r→i=i0:=fun i hi h2=>by
   have x1:=(hface i hi).2 h2
   have x2:=(hface i0 h0).2 h1
   exact qmC (hv.2.1 s hs).2.2.1 hi h0 (x1.trans x2.symm)
  rw[qpI hl hr e1 (by omega) h1 fun i hi h2=>hinj i (by omega) h2,qnz,qnu h0 fun i hi hn=>?_]
  ·unfold qee
   rw[if_pos ((hface i0 h0).2 h1),Int.mul_one]
  ·unfold qee
   rw[if_neg fun h=>hn (hinj i hi ((hface i hi).1 h)),Int.mul_zero]
 ·rw[qpc hl e1 fun i hi h=>he ⟨i,by omega,h⟩,qiQ fun i hi=>?_]
  unfold qee
  rw[if_neg fun h=>he ⟨i,hi,(hface i hi).1 h⟩,Int.mul_zero]
theorem qk6{H:Sim→Int}{ρ:Nat→Sim}{t:Sim}{q0 N:Nat}(h:q0<N)(e:ρ q0=t)(inj:∀ q,q<N→ρ q=t→q=q0):qaF (fun q=>H (ρ q)) (fun q=>qee (ρ q) t) N=H t:=by
 rw[qaw (d:=fun q=>H (ρ q)) (h:=fun q=>if q=q0 then 1 else 0) fun q hq=>⟨rfl,?_⟩,qaJ,qcc h,e]
 unfold qee
 by_cases hq0:q=q0
 ·rw[if_pos hq0,if_pos (by rw[hq0,e])]
 ·rw[if_neg hq0,if_neg fun h=>hq0 (inj q hq h.symm)]
theorem qln{G:Sim→Int}{ρ:Nat→Sim}{N:Nat}{e:Nat→Sim}:∀ {n:Nat},(∀ i,i<n→∃ q0,q0<N∧ρ q0=e i∧∀ q,q<N→ρ q=e i→q=q0) →
  qaF (fun q=>G (ρ q)) (fun q=>smN (fun i=>sgI i*qee (ρ q) (e i)) n) N=smN (fun i=>sgI i*G (e i)) n
 | 0,_=>qbN
 | n+1,h=>by
  obtain⟨q0,h1,h2,h3⟩:=h n (by omega)
  have e1:qaF (fun q=>G (ρ q)) (fun q=>smN (fun i=>sgI i*qee (ρ q) (e i)) (n+1)) N=qaF (fun q=>G (ρ q)) (fun q=>smN (fun i=>sgI i*qee (ρ q) (e i)) n+sgI n*qee (ρ q) (e n)) N:=rfl
  rw[e1,qe7 (g:=fun q=>smN (fun i=>sgI i*qee (ρ q) (e i)) n) (h:=fun q=>sgI n*qee (ρ q) (e n)),qln fun i hi=>h i (by omega),qed (g:=fun q=>qee (ρ q) (e n)),qk6 h1 h2 h3];rfl
end VeT
open Go Go.Proofs Ve
namespace VeT
theorem qqj{a b:List Sim}{im:Sim}{k p:Int}(hp:2≤p∧p≤251):∀ {j:Nat},qaR (chC a b im k p j) p
 | 0=>fun x hx=>by
  unfold chC at hx
  have:=List.eq_of_mem_replicate hx
  omega
 | j+1=>fun x hx=>by
  rw[chC] at hx
  split at hx
  ·rcases List.mem_or_eq_of_mem_set hx with h | h
   ·exact qqj hp x h
   ·have:=qmT hp (qgn (qbB a im (a.getD ((qad a k a.length).getD j 0).toNat [])) (a.getD ((qad a k a.length).getD j 0).toNat []).length)
    omega
  ·exact qqj hp x hx
theorem qpX{a b:List Sim}{im:Sim}{k p:Int}(F:ChF a b im k p)(hp:Pr p):VM (qc3 a b im k p):=by
 have:=F.la
 have:=F.lb
 refine⟨hp,⟨by show(0:Int)≤((qad b k b.length).length:Int);omega,by show((qad b k b.length).length:Int)≤32;omega⟩,⟨by show(0:Int)≤((qad a k a.length).length:Int);omega,by show((qad a k a.length).length:Int)≤32;omega⟩,?_,qqj F.hp⟩
 show((chC a b im k p (qad a k a.length).length).length:Int)=((qad b k b.length).length:Int)*((qad a k a.length).length:Int)
 rw[qc7,Int.natCast_mul]
theorem qps{f:Nat→Int}{n:Nat}{ρ:Nat→Sim}{N:Nat}{H:Sim→Int}(h:(sgm f n).length=n→∃ q0,q0<N∧ρ q0=sgm f n∧∀ q,q<N→ρ q=sgm f n→q=q0) :
  qaF (fun q=>H (ρ q)) (fun q=>Cc f n (qee (ρ q))) N=Cc f n H:=by
 by_cases hn:(sgm f n).length=n
 ·obtain⟨q0,h1,h2,h3⟩:=h hn
  rw[qaw (d:=fun q=>H (ρ q)) (h:=fun q=>sgI (qgn f n)*qee (ρ q) (sgm f n)) fun q _=>⟨rfl,by unfold Cc;rw[if_pos hn]⟩,qed (g:=fun q=>qee (ρ q) (sgm f n)),qk6 h1 h2 h3]
  unfold Cc
  rw[if_pos hn]
 ·rw[qaw (d:=fun q=>H (ρ q)) (h:=fun _=>0) fun q _=>⟨rfl,by unfold Cc;rw[if_neg hn]⟩,qbN]
  unfold Cc
  rw[if_neg hn]
theorem qmR{c:List Sim}(hv:VC c){d:Int}{s:Nat}(hs:s<c.length)(hd:((c.getD s []).length:Int)=d+1) :
  ∃ q0,q0<(qad c d c.length).length∧smx c d q0=c.getD s []∧∀ q,q<(qad c d c.length).length→smx c d q=c.getD s []→q=q0:=by
 obtain⟨h1,h2⟩:=qiz hs hd
 exact⟨_,h1,(qg5 hv.srt hs hd h1).2 rfl,fun q hq e=>((qg5 hv.srt hs hd hq).1 e).symm⟩
theorem qlO{a b:List Sim}{im:Sim}{k p:Int}(hk:1≤k)(Fk:ChF a b im k p)(Fl:ChF a b im (k-1) p)(Ba:BdF a k p)(Bb:BdF b k p) :
    ql3 (qc3 a b im (k-1) p) (bdM a k p)=ql3 (bdM b k p) (qc3 a b im k p):=by
  obtain⟨⟨ha,hb⟩,hm⟩:=qdQ.1 Fk.mc
  refine qpa (qm6 (qpX Fl Ba.pr) Ba.vm) (qm6 Bb.vm (qpX Fk Ba.pr)) rfl rfl rfl fun r l hr hl=>?_
  have hr':r<(qad b (k-1) b.length).length:=by simpa [ql3,qc3] using hr
  have hl':l<(qad a k a.length).length:=by simpa [ql3,bdM] using hl
  rw[qnt (a:=qc3 a b im (k-1) p) (b:=bdM a k p) hr hl,qnt (a:=bdM b k p) (b:=qc3 a b im k p) (by simpa [bdM] using hr') (by simpa [qc3] using hl')]
  have n1:(qc3 a b im (k-1) p).2.2.1.toNat=(qad a (k-1) a.length).length:=by simp[qc3]
  have n2:(bdM b k p).2.2.1.toNat=(qad b k b.length).length:=by simp[bdM]
  rw[n1,n2]
  show qaF (mE (qc3 a b im (k-1) p) r) (fun q=>mE (bdM a k p) q l) (qad a (k-1) a.length).length%p=qaF (mE (bdM b k p) r) (fun q=>mE (qc3 a b im k p) q l) (qad b k b.length).length%p
  obtain⟨s,hs,e1,e2,e3,e4⟩:=qkJ hl'
  have hsl:((a.getD s []).length:Int)=k+1:=e3
  -- the one side
  have l1:qaF (mE (qc3 a b im (k-1) p) r) (fun q=>mE (bdM a k p) q l) (qad a (k-1) a.length).length%p =
      qaF (fun q=>Cc (qbB a im (smx a (k-1) q)) (smx a (k-1) q).length (qee (smx b (k-1) r))) (fun q=>Dd (a.getD s []) (qee (smx a (k-1) q))) (qad a (k-1) a.length).length%p:=by
    rw[qfj (g:=fun q=>Cc (qbB a im (smx a (k-1) q)) (smx a (k-1) q).length (qee (smx b (k-1) r))) fun q hq=>qno Fl hr' hq]
    exact qbU fun q hq=>by rw[qm3 ha hk hq hl',e2]
  have l2:qaF (fun q=>Cc (qbB a im (smx a (k-1) q)) (smx a (k-1) q).length (qee (smx b (k-1) r))) (fun q=>Dd (a.getD s []) (qee (smx a (k-1) q))) (qad a (k-1) a.length).length =
      smN (fun i=>sgI i*Cc (qbB a im ((a.getD s []).eraseIdx i)) ((a.getD s []).eraseIdx i).length (qee (smx b (k-1) r))) (a.getD s []).length:=by
    have:=qln (G:=fun t=>Cc (qbB a im t) t.length (qee (smx b (k-1) r))) (ρ:=smx a (k-1)) (N:=(qad a (k-1) a.length).length) (e:=fun i=>(a.getD s []).eraseIdx i) (n:=(a.getD s []).length) fun i hi=>by
      have hfl:(qb4 a s).length=(a.getD s []).length:=by rw[qbs,if_pos (by omega)]
      obtain⟨_,b2,b3,b4⟩:=qnv ha hs e3 (i:=i) (by omega)
      obtain⟨_,_,g2⟩:=qjW ha hs (i:=i) (by omega)
      rw[← g2]
      exact qmR ha b4 (by omega)
    rw[← this]
    exact qaw fun q _=>⟨rfl,qmz⟩
  have l3:smN (fun i=>sgI i*Cc (qbB a im ((a.getD s []).eraseIdx i)) ((a.getD s []).eraseIdx i).length (qee (smx b (k-1) r))) (a.getD s []).length=Cc (qbB a im (a.getD s [])) (a.getD s []).length (fun t=>Dd t (qee (smx b (k-1) r))):=by
    rw[qpy]
    refine qho fun i hi=>?_
    rw[List.length_eraseIdx_of_lt hi]
    congr 1
    refine qiR fun j hj=>?_
    unfold skp
    show qgj (vxs a) im (((a.getD s []).eraseIdx i).getD j 0)=_
    by_cases hji:j<i
    · rw[if_pos hji,List.getD_eq_getElem?_getD,List.getElem?_eraseIdx_of_lt hji,← List.getD_eq_getElem?_getD]
    · rw[if_neg hji,List.getD_eq_getElem?_getD,List.getElem?_eraseIdx_of_ge (by omega),← List.getD_eq_getElem?_getD]
  -- the other side
  have r1:qaF (mE (bdM b k p) r) (fun q=>mE (qc3 a b im k p) q l) (qad b k b.length).length%p =
      qaF (fun q=>Dd (smx b k q) (qee (smx b (k-1) r))) (fun q=>Cc (qbB a im (a.getD s [])) (a.getD s []).length (qee (smx b k q))) (qad b k b.length).length%p:=by
    rw[qfj (g:=fun q=>Dd (smx b k q) (qee (smx b (k-1) r))) fun q hq=>qm3 hb hk hr' hq]
    exact qbU fun q hq=>by rw[qno Fk hq hl',e2]
  rw[l1,l2,l3,r1,qps (H:=fun t=>Dd t (qee (smx b (k-1) r)))]
  intro hn
  rw[← qkn] at hn ⊢
  have hin:img (vxs a) im (a.getD s [])∈b:=hm.2 _ (by rw[qag hs];exact List.getElem_mem hs)
  obtain⟨t,ht,et⟩:=List.mem_iff_getElem.1 hin
  have eg:b.getD t []=img (vxs a) im (a.getD s []):=by rw[qag ht,et]
  rw[← eg]
  exact qmR hb ht (by rw[eg];omega)
end VeT
open Go Go.Proofs Ve
namespace VeT
noncomputable abbrev qa1(c:List Sim)(k:Int):Nat:=(qad c k c.length).length
noncomputable abbrev qbt(c:List Sim)(k p:Int):List Sim:=qhG (qa1 c k) (qa1 c (k+1)) (bdC c (k+1) p (qa1 c (k+1)))
noncomputable abbrev qmm(c:List Sim)(k p:Int):List Sim:=qor p (qa1 c (k-1)) (qa1 c k) (bdC c k p (qa1 c k))
noncomputable def qfr(c:List Sim)(k p:Int):List Sim:=qeZ p (qa1 c k) (qbt c k p) (qmm c k p)
theorem qiI{c:List Sim}{k p:Int}(hp:2≤p):Rws p (qa1 c k) (qmm c k p)∧(qmm c k p).length≤qa1 c k:=⟨fun r hr=>qk9 hp hr,qdl⟩
theorem qbQ{c:List Sim}{k p:Int}(F:BdF c (k+1) p):qm2 p (qa1 c k) (bdC c (k+1) p (qa1 c (k+1))) (qbt c k p)∧(qbt c k p).length=qa1 c (k+1)∧Rws p (qa1 c k) (qbt c k p):=by
 have hl:(bdC c (k+1) p (qa1 c (k+1))).length=qa1 c k*qa1 c (k+1):=by
  rw[qbl,show k+1-1=k by omega]
 exact qlS hl (qcF F.hp)
theorem qer(c:List Sim)(k p:Int)(F:BdF c (k+1) p):Ret E n_Z17 [dLL c,dI k,dI p] ⟨o_Z17,(p,(qa1 c k:Int),bas p (qa1 c k) (qbt c k p),())⟩:=by
 obtain⟨hcr,hcl,hcw⟩:=qbQ F
 have hk:=F.hk
 have lu:qa1 c (k+1)≤32:=F.lu
 have ll:=F.ll
 rw[show k+1-1=k by omega] at ll
 have ll:qa1 c k≤32:=ll
 have hm:=qcY c (k+1) p F
 unfold bdM at hm
 rw[show k+1-1=k by omega] at hm
 have hl:(bdC c (k+1) p (qa1 c (k+1))).length=qa1 c k*qa1 c (k+1):=by rw[qbl,show k+1-1=k by omega]
 have hcc:=qiX p (qa1 c k) (qa1 c (k+1)) _ hl ll lu
 have hso:=qgV p (qa1 c k) (qbt c k p) F.hp (by rw[hcl];omega) (by omega) hcw
 refine qal ?_
 simp only[run_Z17,Z17.ev,qaj (n:=k+1) (by omega) (by omega)]
 exact qaa hm (qaa hcc (qaa hso qam))
theorem qk8(c:List Sim)(k p:Int)(sc:Sm (.sl (.sl (.int .i64))) c)(h:HC c k p=0) :
  Ret E n_Z34 [dLL c,dI k,dI p] ⟨o_Z34,(qfr c k p,())⟩∧Ret E n_Z127 [dC (c,()),dI k,dI p] ⟨o_Z127,(qfr c k p,())⟩:=by
 obtain⟨F,G⟩:=qiV sc h
 obtain⟨hcr,hcl,hcw⟩:=qbQ G
 have lu:qa1 c k≤32:=F.lu
 have ll:qa1 c (k-1)≤32:=F.ll
 have lu2:qa1 c (k+1)≤32:=G.lu
 have hk:=F.hk
 have hgk:=G.hk
 obtain⟨hkr,hkl⟩:=qiI (c:=c) (k:=k) F.hp.1
 have hRC:=qgR ll lu
 have hlk:(bdC c k p (qa1 c k)).length=qa1 c (k-1)*qa1 c k:=qbl
 have hm:=qcY c k p F
 have hm2:=qd9 c k p F
 have hm3:=qd9 c (k+1) p G
 unfold bdM at hm hm2 hm3
 rw[show k+1-1=k by omega] at hm3
 have hker:=qmi p (qa1 c (k-1)) (qa1 c k) (bdC c k p (qa1 c k)) F.hp (by omega) (by omega) (by omega) hlk (qcF F.hp)
 have hker2:=qiP p (qa1 c (k-1)) (qa1 c k) (bdC c k p (qa1 c k)) F.hp (by omega) (by omega) (by omega) hlk (qcF F.hp)
 have hi:=qdT p (qa1 c k) (qbt c k p) (qmm c k p) F.pr (by omega) (by rw[hcl];omega) hcw (by omega) hkr
 have hsp:=qhF p (qa1 c k) (bdC c (k+1) p (qa1 c (k+1))) (qbt c k p) (qmm c k p) F.pr (by omega) (by rw[hcl];omega) hcr hkr
 rw[hcl] at hsp
 constructor
 ·refine qal ?_
  simp only[run_Z34,Z34.ev]
  exact qaa (qer c k p G) (qaa hm (qaa hker (qaa hi qam)))
 ·refine qal ?_
  simp only[run_Z127,Z127.ev,qaj (n:=k+1) (by omega) (by omega)]
  exact qaa hm2 (qaa hm3 (qaa hker2 (qaa hsp qam)))
noncomputable def bdV(c:List Sim)(k p:Int)(v:Sim):Sim:=qeH (bdM c k p) v (qa1 c (k-1))
theorem qnN{c:List Sim}{k p:Int}{v:Sim}(F:BdF c k p)(hz:Zs (bdV c k p v)):InR p (qa1 c k) (qmm c k p) v:=by
 refine qnC F.pr qbl (qcF F.hp) fun i hi=>?_
 have:=hz _ (List.mem_map.2 ⟨i,List.mem_range.2 hi,rfl⟩)
 rw[qaJ] at this
 exact this
end VeT
open Go Go.Proofs Ve
namespace VeT
theorem qhe{a b:List Sim}{im:Sim}{k p:Int}(hp:2≤p∧p≤251):∀ {j:Nat},qaR (chC a b im k p j) p
 | 0=>qji hp.1
 | j+1=>fun x hx=>by
  unfold chC at hx
  simp only at hx
  split at hx
  ·rcases List.mem_or_eq_of_mem_set hx with hx | rfl
   ·exact qhe hp x hx
   ·exact qmT hp _
  ·exact qhe hp x hx
theorem ChF.vm{a b:List Sim}{im:Sim}{k p:Int}(F:ChF a b im k p)(hp:Pr p):VM (qc3 a b im k p):=by
 have:=F.la
 have:=F.lb
 refine⟨hp,⟨by show(0:Int)≤((qad b k b.length).length:Int);omega,by show((qad b k b.length).length:Int)≤32;omega⟩,⟨by show(0:Int)≤((qad a k a.length).length:Int);omega,by show((qad a k a.length).length:Int)≤32;omega⟩,?_,qhe F.hp⟩
 show((chC a b im k p (qad a k a.length).length).length:Int)=((qad b k b.length).length:Int)*((qad a k a.length).length:Int)
 rw[qc7,Int.natCast_mul]
open Classical in
theorem qov{a b:List Sim}{im:Sim}{k p:Int}(hp:Pr p)(hm:MC a b im=0):HC a k p=(if 0≤k∧k≤3 then(if Sm3 a k then 0 else 5) else 2)∧HC b k p=(if 0≤k∧k≤3 then(if Sm3 b k then 0 else 5) else 2)∧(qkb a b k 1↔Sm3 a k∧Sm3 b k):=by
 obtain⟨⟨ha,hb⟩,_⟩:=qdQ.1 hm
 unfold HC
 rw[if_pos (show VC a∧Pr p from⟨ha,hp⟩),if_pos (show VC b∧Pr p from⟨hb,hp⟩)]
 refine⟨rfl,rfl,?_⟩
 ·unfold qkb Sm3
  constructor
  ·intro h
   exact⟨fun t h1 h2=>(h t h1 (by omega)).1,fun t h1 h2=>(h t h1 (by omega)).2⟩
  ·rintro⟨h1,h2⟩ t h3 h4
   exact⟨h1 t h3 (by omega),h2 t h3 (by omega)⟩
noncomputable def qcZ(a b:List Sim)(im:Sim)(k p:Int):List Sim:=(qfr a k p).map fun v=>qeH (qc3 a b im k p) v (qa1 b k)
open Classical in
noncomputable def qbb(a b:Cpx)(im:Sim)(k p:Int):Int×Int×Unit :=
 if ChC a.1 b.1 im k p 1=0 then(((qeZ p (qa1 b.1 k) (qbt b.1 k p) (qcZ a.1 b.1 im k p)).length:Int),0,()) else(0,ChC a.1 b.1 im k p 1,())
theorem qbT{a b:Cpx}{im:Sim}{k p:Int}(sa:Sm (.st cC) a)(sb:Sm (.st cC) b)(h:ChC a.1 b.1 im k p 1=0) :
  ChF a.1 b.1 im k p∧Pr p∧HC a.1 k p=0∧HC b.1 k p=0∧(qfr a.1 k p).length≤32∧Rws p (qa1 a.1 k) (qfr a.1 k p):=by
 obtain⟨h1,h2,h3,h4⟩:=qir h
 obtain⟨e1,e2,e3⟩:=qov (k:=k) h1 h2
 obtain⟨s1,s2⟩:=e3.1 h4
 have ha:HC a.1 k p=0:=by rw[e1,if_pos h3,if_pos s1]
 have hb:HC b.1 k p=0:=by rw[e2,if_pos h3,if_pos s2]
 obtain⟨F,G⟩:=qiV sa.1 ha
 obtain⟨hkr,hkl⟩:=qiI (c:=a.1) (k:=k) F.hp.1
 have hcl:=qdj (p:=p) (W:=qa1 a.1 k) (l:=qmm a.1 k p) (h:=qbt a.1 k p)
 have:qa1 a.1 k≤32:=F.lu
 exact⟨ChF.of sa sb h,h1,ha,hb,Nat.le_trans hcl (by omega),fun r hr=>hkr r (qeX hr)⟩
theorem qcI(a b:Cpx)(im:Sim)(k p:Int)(sa:Sm (.st cC) a)(sb:Sm (.st cC) b)(si:Sm (.sl (.int .i64)) im):Ret E n_Z6 [dLL a.1,dLL b.1,dL im,dI k,dI p] ⟨o_Z6,qbb a b im k p⟩:=by
 refine qal ?_
 simp only[run_Z6,Z6.ev]
 unfold qbb
 refine qaa (qgB a.1 b.1 im k p 1 (by omega) sa.1 sb.1) ?_
 by_cases h:ChC a.1 b.1 im k p 1=0
 ·rw[if_pos h]
  obtain⟨F,hp,ha,hb,hl,hw⟩:=qbT sa sb h
  obtain⟨FA,GA⟩:=qiV sa.1 ha
  obtain⟨FB,GB⟩:=qiV sb.1 hb
  obtain⟨hcr,hcl,hcw⟩:=qbQ GB
  have lb:qa1 b.1 k≤32:=FB.lu
  have lb2:qa1 b.1 (k+1)≤32:=GB.lu
  have hvm:=F.vm hp
  have hls:Rws p (qa1 b.1 k) (qcZ a.1 b.1 im k p):=fun r hr=>by
   obtain⟨v,_,rfl⟩:=List.mem_map.1 hr
   exact⟨qaN,qhZ hp.1⟩
  have hml:(qcZ a.1 b.1 im k p).length=(qfr a.1 k p).length:=List.length_map _
  refine qaE (by simp[h]) (qaa (qj0 a.1 b.1 im k p F) (qaa (qk8 a.1 k p sa.1 ha).1 ?_))
  refine Ev.start (p:=fun φ q=>Z6.l0 (mkR (run E (φ 0))) (φ 0) q k p (qfr a.1 k p) ((qfr a.1 k p).length:Int) 0 b.1 (qc3 a.1 b.1 im k p).1 (qc3 a.1 b.1 im k p).2.1 (qc3 a.1 b.1 im k p).2.2.1 (qc3 a.1 b.1 im k p).2.2.2.1 []=_) 1 ?_ (fun _ _ _ h=>h)
  refine qas 1 (L:=fun φ q j o=>Z6.l0 (mkR (run E (φ 0))) (φ 0) q k p (qfr a.1 k p) ((qfr a.1 k p).length:Int) j b.1 (qc3 a.1 b.1 im k p).1 (qc3 a.1 b.1 im k p).2.1 (qc3 a.1 b.1 im k p).2.2.1 (qc3 a.1 b.1 im k p).2.2.2.1 o) (len:=(qfr a.1 k p).length) (fun j=>((qfr a.1 k p).take j).map fun v=>qeH (qc3 a.1 b.1 im k p) v (qa1 b.1 k)) (fun _ _ _ _ _=>rfl) (fun j r hj ih=>?_) ?_
  ·simp only[Z6.l0_succ _ qaf]
   rw[List.take_succ_eq_append_getElem hj,List.map_append,List.map_singleton] at ih
   obtain⟨v1,v2⟩:=hw _ (List.getElem_mem hj)
   refine qaC (decide_eq_true (by omega)) (qae (qaq hj) (qaa (qm0 (qc3 a.1 b.1 im k p) _ hvm (by show((qad a.1 k a.1.length).length:Int)≤(((qfr a.1 k p)[j]).length:Int);rw[v1];exact Int.le_refl _) (v2.mem F.hp)) (qan (by simp only[List.length_map,List.length_take,List.length_singleton,decide_eq_true_eq];omega) ?_)))
   rw[qah (by omega)];exact ih
  ·simp only[Z6.l0_succ _ qaf]
   rw[List.take_of_length_le (Nat.le_refl _)]
   have hind:=qdT p (qa1 b.1 k) (qbt b.1 k p) (qcZ a.1 b.1 im k p) hp (by omega) (by omega) hcw (by omega) hls
   exact qaE (decide_eq_false (by omega)) (qaa (qer b.1 k p GB) (qaa hind (qaa (qnB _) qam)))
 ·rw[if_neg h]
  exact qaC (by simpa using h) qam
end VeT
open Go Go.Proofs Ve
namespace VeT
noncomputable def qbj(c:Cpx)(k p:Int):List Sim×Int×Unit:=if HC c.1 k p=0 then(qfr c.1 k p,0,()) else([],HC c.1 k p,())
theorem qch(c:Cpx)(k p:Int)(sc:Sm (.st cC) c):Ret E n_Z92 [dLL c.1,dI k,dI p] ⟨o_Z92,qbj c k p⟩:=by
 refine qal ?_
 simp only[run_Z92,Z92.ev]
 unfold qbj
 refine qaa (qml (c.1,()) k p sc.1) ?_
 by_cases h:HC c.1 k p=0
 ·rw[if_pos h]
  exact qaE (by simp[h]) (qaa (qk8 c.1 k p sc.1 h).2 qam)
 ·rw[if_neg h]
  exact qaC (by simpa using h) qam
end VeT
open Go Go.Proofs Ve
namespace VeT
theorem qnP{c:List Sim}(hv:VC c){d:Int}(hd:d<0):(qad c d c.length).length=0:=by
 refine Classical.byContradiction fun hn=>?_
 obtain⟨s,h1,h2,_⟩:=qfG (c:=c) (d:=d) (r:=0) (by omega)
 have:=(hv.2.1 s h1).1
 omega
theorem qpb{c:List Sim}{k p:Int}(F:BdF c k p){v:Sim}(hv:v∈qmm c k p):Zs (bdV c k p v):=by
 have hl:(bdC c k p (qa1 c k)).length=qa1 c (k-1)*qa1 c k:=qbl
 have hs:=qoj F.pr hl (qcF F.hp) hv
 intro x hx
 unfold bdV at hx
 obtain⟨i,hi,rfl⟩:=List.getElem_of_mem hx
 rw[qaN] at hi
 have:=qc4 (m:=bdM c k p) (v:=v) hi
 rw[qag (by rw[qaN];exact hi)] at this
 rw[this]
 have h2:=hs i hi
 rw[qaJ] at h2
 have e:(bdM c k p).2.2.1.toNat=qa1 c k:=by simp[bdM]
 rw[e]
 exact h2
theorem qpA{m:Mat}{v:Sim}{n:Nat}(hz:Zs v):Zs (qeH m v n):=by
 intro x hx
 obtain⟨i,hi,rfl⟩:=List.getElem_of_mem hx
 rw[qaN] at hi
 have:=qc4 (m:=m) (v:=v) hi
 rw[qag (by rw[qaN];exact hi)] at this
 rw[this,qaw (d:=mE m i) (h:=fun _=>0) fun l _=>⟨rfl,?_⟩,qbN]
 ·exact Int.zero_emod _
 by_cases hl:l<v.length
 ·rw[qag hl];exact hz _ (List.getElem_mem hl)
 ·rw[List.getD_eq_getElem?_getD,List.getElem?_eq_none (by omega)];rfl
theorem qo1{a b:Cpx}{im:Sim}{k p:Int}(sa:Sm (.st cC) a)(sb:Sm (.st cC) b)(h:ChC a.1 b.1 im k p 1=0){v:Sim}(hz:Zs (bdV a.1 k p v)):Zs (bdV b.1 k p (qeH (qc3 a.1 b.1 im k p) v (qa1 b.1 k))):=by
 obtain⟨F,hp,ha,hb,_⟩:=qbT sa sb h
 obtain⟨FA,_⟩:=qiV sa.1 ha
 obtain⟨FB,_⟩:=qiV sb.1 hb
 obtain⟨_,hm,h3,h4⟩:=qir h
 by_cases hk:1≤k
 ·have Fl:ChF a.1 b.1 im (k-1) p:=⟨F.sa,F.sb,hm,by omega,F.hp,by have:=(h4 0 (by omega) (by omega)).1;simpa using this,by have:=(h4 0 (by omega) (by omega)).2;simpa using this⟩
  have hc:=qlO hk F Fl FA FB
  unfold bdV at hz ⊢
  have nr:qa1 b.1 k=(qc3 a.1 b.1 im k p).2.1.toNat:=by simp[qc3]
  have e1:qeH (bdM b.1 k p) (qeH (qc3 a.1 b.1 im k p) v (qa1 b.1 k)) (qa1 b.1 (k-1))=qeH (ql3 (bdM b.1 k p) (qc3 a.1 b.1 im k p)) v (qa1 b.1 (k-1)):=by
   rw[nr]
   exact(qlw FB.vm (F.vm hp) rfl rfl (by simp[bdM])).symm
  have e2:qeH (ql3 (qc3 a.1 b.1 im (k-1) p) (bdM a.1 k p)) v (qa1 b.1 (k-1))=qeH (qc3 a.1 b.1 im (k-1) p) (qeH (bdM a.1 k p) v (qa1 a.1 (k-1))) (qa1 b.1 (k-1)):=by
   have:=qlw (v:=v) (n:=qa1 b.1 (k-1)) (Fl.vm hp) FA.vm rfl rfl (by simp[qc3])
   rw[this]
   congr 2
  rw[e1,← hc,e2]
  exact qpA hz
 ·have:qa1 b.1 (k-1)=0:=qnP FB.vc (by omega)
  unfold bdV
  rw[this]
  intro x hx
  simp[qeH] at hx
theorem qm7{c:List Sim}{k p:Int}(F:BdF c k p)(G:BdF c (k+1) p):rk p (qa1 c k) (qbt c k p++qmm c k p)=rk p (qa1 c k) (qbt c k p)+(qfr c k p).length :=
 qjg F.pr (qbQ G).2.2 (qiI F.hp.1).1
theorem ql7{a b:Cpx}{im:Sim}{k p:Int}(sa:Sm (.st cC) a)(sb:Sm (.st cC) b)(h:ChC a.1 b.1 im k p 1=0) :
  (qeZ p (qa1 b.1 k) (qbt b.1 k p) (qcZ a.1 b.1 im k p)).length≤(qfr a.1 k p).length∧(qeZ p (qa1 b.1 k) (qbt b.1 k p) (qcZ a.1 b.1 im k p)).length≤(qfr b.1 k p).length:=by
 obtain⟨F,hp,ha,hb,_⟩:=qbT sa sb h
 obtain⟨FA,_⟩:=qiV sa.1 ha
 obtain⟨FB,GB⟩:=qiV sb.1 hb
 refine⟨by have:=qdj (p:=p) (W:=qa1 b.1 k) (l:=qcZ a.1 b.1 im k p) (h:=qbt b.1 k p);unfold qcZ at this ⊢;rwa [List.length_map] at this,?_⟩
 have hls:Rws p (qa1 b.1 k) (qcZ a.1 b.1 im k p):=fun r hr=>by
  obtain⟨v,_,rfl⟩:=List.mem_map.1 hr
  exact⟨qaN,qhZ hp.1⟩
 have h1:=qjg hp (qbQ GB).2.2 hls
 have h2:=qm7 FB GB
 have h3:rk p (qa1 b.1 k) (qbt b.1 k p++qcZ a.1 b.1 im k p)≤rk p (qa1 b.1 k) (qbt b.1 k p++qmm b.1 k p):=qne fun r hr=>by
  rcases List.mem_append.1 hr with hr | hr
  ·exact InR.mem (List.mem_append.2 (.inl hr))
  ·obtain⟨v,hv,rfl⟩:=List.mem_map.1 hr
   have hv:v∈qmm a.1 k p:=qeX hv
   exact InR.trans (fun r hr=>InR.mem (List.mem_append.2 (.inr hr))) (qnN FB (qo1 sa sb h (qpb FA hv)))
 omega
theorem qoX{a:List Sim}(ha:VC a){v:Int}(hv:v∈vxs a):qgj (vxs a) (vxs a) v=v:=by
 obtain⟨i,hi,rfl⟩:=List.getElem_of_mem hv
 exact qkX (qgt ha.srt (Nat.le_refl _)) rfl hi
theorem qjI:∀ {t:List Int} {x:Int},(∀ y∈t,y<x)→qcl t x=t++[x]
 | [],_,_=>rfl
 | y::t,x,h=>by
  unfold qcl
  rw[if_pos (h y List.mem_cons_self),qjI fun z hz=>h z (List.mem_cons_of_mem _ hz)];rfl
theorem qiC{s:Sim}(hs:s.Pairwise (·<·)):∀ {n:Nat},n≤s.length→sgm (fun x=>s.getD x 0) n=s.take n
 | 0,_=>rfl
 | n+1,h=>by
  show qcl (sgm _ n) (s.getD n 0)=_
  rw[qiC hs (by omega),List.take_succ_eq_append_getElem (show n<s.length by omega),qag (show n<s.length by omega),qjI]
  intro y hy
  obtain⟨j,hj,rfl⟩:=List.getElem_of_mem hy
  rw[List.length_take] at hj
  rw[List.getElem_take]
  exact List.pairwise_iff_getElem.1 hs j n (by omega) (by omega) (by omega)
theorem qlm{s:Sim}(hs:s.Pairwise (·<·)){v:Int}:∀ {n:Nat},n≤s.length→(∀ j,j<n→s.getD j 0≤v)→qkV (fun x=>s.getD x 0) v n=0
 | 0,_,_=>rfl
 | n+1,h,hv=>by
  unfold qkV
  rw[qlm hs (by omega) fun j hj=>hv j (by omega),if_neg (by have:=hv n (by omega);omega)]
theorem qly{s:Sim}(hs:s.Pairwise (·<·)):∀ {n:Nat},n≤s.length→qgn (fun x=>s.getD x 0) n=0
 | 0,_=>rfl
 | n+1,h=>by
  unfold qgn
  rw[qly hs (by omega),qlm hs (by omega) fun j hj=>?_]
  rw[qag (show j<s.length by omega),qag (show n<s.length by omega)]
  have:=List.pairwise_iff_getElem.1 hs j n (by omega) (by omega) hj
  omega
theorem qlg{a:List Sim}(ha:VC a){s:Sim}(hs:s∈a){j:Nat}(hj:j<s.length):qbB a (vxs a) s j=s.getD j 0:=by
 show qgj (vxs a) (vxs a) (s.getD j 0)=_
 rw[qag hj]
 exact qoX ha (ha.vert hs (List.getElem_mem hj))
theorem qpY{a:List Sim}(ha:VC a){s:Sim}(hs:s∈a):img (vxs a) (vxs a) s=s:=by
 have hr:s.Pairwise (·<·):=by
  obtain⟨k,hk,rfl⟩:=List.getElem_of_mem hs
  have:=(ha.2.1 k hk).2.2.1.pairwise
  rwa [qag hk] at this
 rw[qkn,qhy (g:=fun x=>s.getD x 0) fun j hj=>qlg ha hs hj,qiC hr (Nat.le_refl _),List.take_length]
theorem qpW{a:List Sim}(ha:VC a):Mp a a (vxs a):=⟨rfl,fun s hs=>by rw[qpY ha hs];exact hs⟩
open Classical in
theorem qpN{a:List Sim}{k p:Int}(h:HC a k p=0):ChC a a (vxs a) k p 1=0:=by
 obtain⟨⟨ha,hp⟩,h2,h3⟩:=qms h
 have hm:MC a a (vxs a)=0:=qdQ.2 ⟨⟨ha,ha⟩,qpW ha⟩
 unfold ChC
 rw[if_pos hp,if_pos hm,if_pos h2,if_pos ((qov (k:=k) hp hm).2.2.2 ⟨h3,h3⟩)]
theorem qpJ{a:List Sim}{k p:Int}(F:ChF a a (vxs a) k p)(hp:Pr p){v:Sim}(h1:v.length=qa1 a k)(h2:qaR v p):qeH (qc3 a a (vxs a) k p) v (qa1 a k)=v:=by
 obtain⟨⟨ha,_⟩,hm⟩:=qdQ.1 F.mc
 refine List.ext_getElem (by rw[qaN,h1]) fun r g1 g2=>?_
 rw[qaN] at g1
 have e1:=qc4 (m:=qc3 a a (vxs a) k p) (v:=v) g1
 rw[qag (by rw[qaN];exact g1)] at e1
 rw[e1]
 have hn:(qc3 a a (vxs a) k p).2.2.1.toNat=qa1 a k:=by simp[qc3]
 rw[hn]
 show qaF (mE (qc3 a a (vxs a) k p) r) (fun l=>v.getD l 0) (qa1 a k)%p=v[r]
 rw[qfj (g:=fun l=>if l=r then 1 else 0) fun l hl=>?_,qcc g1,qag (by omega)]
 ·have:=h2 v[r] (List.getElem_mem g2)
  exact Int.emod_eq_of_lt (by omega) (by omega)
 ·rw[qno F g1 hl]
  obtain⟨s,hs,_,e2,e3,e4⟩:=qkJ hl
  have hsm:a.getD s []∈a:=by rw[qag hs];exact List.getElem_mem hs
  have hr:(a.getD s []).Pairwise (·<·):=(ha.2.1 s hs).2.2.1.pairwise
  rw[e2,qiR (g:=fun x=>(a.getD s []).getD x 0) fun j hj=>qlg ha hsm hj]
  unfold Cc
  rw[qiC hr (Nat.le_refl _),List.take_length,if_pos rfl,qly hr (Nat.le_refl _)]
  show(1*qee (smx a k r) (a.getD s []))%p=_
  unfold qee
  have hiff:=qg5 ha.srt hs e3 g1
  by_cases e:l=r
  ·rw[if_pos e,if_pos (hiff.2 (e4.trans e)).symm];rfl
  ·rw[if_neg e,if_neg fun h=>e (e4.symm.trans (hiff.1 h.symm))];rfl
theorem qlW{a:Cpx}{k p:Int}(sa:Sm (.st cC) a)(h:HC a.1 k p=0):qbb a a (vxs a.1) k p=(((qfr a.1 k p).length:Int),0,()):=by
 have hc:=qpN h
 obtain⟨F,hp,_,_,_,hw⟩:=qbT sa sa hc
 obtain⟨FA,GA⟩:=qiV sa.1 h
 have hm:qcZ a.1 a.1 (vxs a.1) k p=qfr a.1 k p:=by
  unfold qcZ
  have:∀ l:List Sim,(∀ v∈l,v.length=qa1 a.1 k∧qaR v p)→l.map (fun v=>qeH (qc3 a.1 a.1 (vxs a.1) k p) v (qa1 a.1 k))=l:=fun l hl=>by
   conv=>rhs;rw[← List.map_id l]
   exact List.map_congr_left fun v hv=>qpJ F hp (hl v hv).1 (hl v hv).2
  exact this _ hw
 unfold qbb
 rw[if_pos hc,hm]
 have h1:=qjg hp (qbQ GA).2.2 hw
 have h2:=qm7 FA GA
 have h3:rk p (qa1 a.1 k) (qbt a.1 k p++qfr a.1 k p)=rk p (qa1 a.1 k) (qbt a.1 k p++qmm a.1 k p):=qmJ (fun r hr=>by
  rcases List.mem_append.1 hr with hr | hr
  ·exact InR.mem (List.mem_append.2 (.inl hr))
  ·exact InR.mem (List.mem_append.2 (.inr (qeX hr)))) fun r hr=>by
  rcases List.mem_append.1 hr with hr | hr
  ·exact InR.mem (List.mem_append.2 (.inl hr))
  ·exact qhC hr
 have:(qeZ p (qa1 a.1 k) (qbt a.1 k p) (qfr a.1 k p)).length=(qfr a.1 k p).length:=by omega
 rw[this]
theorem qlP{a b:Cpx}{im:Sim}(ha:VC a.1)(hb:VC b.1)(hm:Mp a.1 b.1 im):qbM a a b (vxs a.1) im=(im,0,()):=by
 unfold qbM
 rw[if_pos ⟨ha,ha,hb⟩,if_pos ⟨qpW ha,hm⟩]
 have:(vxs a.1).map (qgj (vxs a.1) im)=im:=by
  refine List.ext_getElem (by rw[List.length_map,hm.1]) fun i g1 g2=>?_
  rw[List.getElem_map]
  exact qkX (qgt ha.srt (Nat.le_refl _)) hm.1 (by rw[List.length_map] at g1;exact g1)
 rw[this]
end VeT
open Go Go.Proofs Ve
namespace VeT
theorem qn4{f:Nat}{args:List Dv}(h:qi9 f args (.cons .bool .nil) fun(r:Bool×Unit)=>r.1=true):Ret E f args ⟨.cons .bool .nil,(true,())⟩:=by
 obtain⟨⟨b,⟨⟩⟩,h1,h2⟩:=h
 have h2:b=true:=h2
 subst h2
 exact h1
theorem qqk{c:List Int}(h:Wf (.sl (.int .u8)) c):SO 0 (c,0,0,()):=⟨fun b hb=>by
 have:=h.2 b hb
 simp only[Wf,Lit.wf,IntKind.min,IntKind.max,IntKind.signed,IntKind.bits,Bool.and_eq_true,decide_eq_true_eq] at this
 simp at this
 omega,by show(0:Int)≤0;omega,by show(0:Int)≤((0:Nat):Int);omega⟩
theorem qkm(x:List Int):Ret E n_Z65 [dB x] ⟨o_Z65,(decide ((x.length:Int)>1048576),())⟩:=by
 refine qal ?_
 simp only[run_Z65,Z65.ev]
 exact Ev.of fun _=>trivial
end VeT
open Go Go.Proofs Ve
namespace VeT
def Bc(m:Nat)(c:List Sim):Prop:=c.length≤m∧∀ x∈c,x.length≤8
theorem Bc.sm{m:Nat}{c:List Sim}(h:Bc m c)(hm:m≤1048576):Sm (.sl (.sl (.int .i64))) c:=⟨Nat.le_trans h.1 hm,fun x hx=>⟨by have:=h.2 x hx;show x.length≤1048576;omega,fun _ _=>trivial⟩⟩
theorem Bc.le{m k:Nat}{c:List Sim}(h:Bc m c)(hk:m≤k):Bc k c:=⟨by have:=h.1;omega,h.2⟩
theorem qda(l:List Sim)(hl:l.length≤7)(hx:∀ s∈l,1≤s.length∧s.length≤4):qi9 n_Z115 [dLL l] o_Z115 fun(r:List Sim×Unit)=>Bc 287 r.1:=by
 obtain⟨c',h1,h2,h3,h4⟩:=qkD l (by omega) hx
 refine⟨(c',()),h1,by show c'.length≤287;omega,fun x hx'=>?_⟩
 obtain⟨s,hs,hf⟩:=(h3 x).1 hx'
 have:=hf.2.length_le
 have:=(hx s hs).2
 omega
theorem qfH(n:Nat)(s:Src)(hn:n≤1000000000)(hs:SO n s):qi9 n_Z117 [dR s] o_Z117 fun(r:List Sim×Src×Unit)=>Bc 287 r.1∧SO (n+100) r.2.1:=by
 obtain⟨c,a,g,⟨⟩⟩:=s
 refine qbK ?_
 simp only[run_Z117,Z117.ev]
 refine qbm (qce n _ 6 (by omega) hs) fun(r:Int×Src×Unit) ⟨r1,r2,r3,r4⟩=>?_
 refine qdI (fun _=>qbm (qda _ (by decide) (by decide)) fun(q:List Sim×Unit) q1=>qaS ⟨q1,r4.le (by omega)⟩) fun _=>?_
 refine qdI (fun _=>qbm (qda _ (by decide) (by decide)) fun(q:List Sim×Unit) q1=>qaS ⟨q1,r4.le (by omega)⟩) fun _=>?_
 refine qbm (qce (n+2) _ 4 (by omega) r4) fun(v:Int×Src×Unit) ⟨v1,v2,v3,v4⟩=>?_
 refine qbm (qce (n+4) _ 6 (by omega) v4) fun(q:Int×Src×Unit) ⟨q1,q2,q3,q4⟩=>?_
 obtain⟨k0,hk0⟩:∃ k:Nat,(q.1:Int)=(k:Int):=⟨Int.toNat q.1,(Int.toNat_of_nonneg q1).symm⟩
 have ev:w64 (3+v.1)=3+v.1:=qaj (by omega) (by omega)
 refine EvQ.start 1 (L:=fun φ N=>Z117.l0 (mkR (run E (φ 0))) (φ 0) N (w64 (3+v.1)) q.1 [] q.2.1.1 q.2.1.2.1 q.2.1.2.2.1) ?_ (fun _ _ _=>rfl)
 rw[hk0,ev]
 refine EvQ.loop 1 (σ:=Nat×List Sim×Src) (L:=fun φ N st=>Z117.l0 (mkR (run E (φ 0))) (φ 0) N (3+v.1) (st.1:Int) st.2.1 st.2.2.1 st.2.2.2.1 st.2.2.2.2.1) (fun _ _ _ _=>rfl)
  (fun st=>(∀ x∈st.2.1,1≤x.length∧x.length≤4)∧st.2.1.length+st.1≤6∧SO (n+90-12*st.1) st.2.2) (fun st=>st.1) (fun st hi ih=>?_) (k0,[],q.2.1) ⟨fun x hx=>by simp at hx,by show 0+k0≤6;omega,q4.le (by show n+4+2≤n+90-12*k0;omega)⟩
 obtain⟨k,o,s1⟩:=st
 obtain⟨i1,i2,i3⟩:=hi
 simp only at i1 i2 i3 ih ⊢
 have fin:∀(l:List Sim) (s2:Src),l.length≤7→(∀ x∈l,1≤x.length∧x.length≤4)→SO (n+100) s2→EvQ (fun φ=>Z117.j1 (mkR (run E (φ 0))) (φ 0) l s2.1 s2.2.1 s2.2.2.1) o_Z117 fun(r:List Sim×Src×Unit)=>Bc 287 r.1∧SO (n+100) r.2.1:=by
  intro l s2 h1 h2 h3
  simp only[Z117.j1_eq _ qaf]
  exact qbm (qda _ h1 h2) fun(q:List Sim×Unit) q1=>qaS ⟨q1,h3⟩
 simp only[Z117.l0_succ _ qaf]
 refine qe9 (fun h=>?_) fun h=>?_
 ·refine qbm (qgE _ s1 _ 3 (by omega) i3 (by decide) (by omega)) fun(t:Sim×Src×Unit) ⟨t1,t2,t3,t4⟩=>?_
  refine qb7 (decide_eq_true (by simp;omega)) ?_
  rw[show w64 ((k:Int)-1)=((k-1:Nat):Int) by rw[qaj (by omega) (by omega)];omega]
  refine ih (k-1,o++[t.1],t.2.1) ⟨fun x hx=>?_,?_,?_⟩ (by show k-1<k;omega)
  ·rcases List.mem_append.1 hx with hx | hx
   ·exact i1 x hx
   ·rw[List.mem_singleton] at hx;subst hx;exact⟨t1.1,t1.2.1⟩
  ·show(o++[t.1]).length+(k-1)≤6
   simp;omega
  ·exact t4.le (by show n+90-12*k+12≤n+90-12*(k-1);omega)
 ·refine qbm (qi6 _ s1 6 (by omega) i3) fun(q:Bool×Src×Unit) q1=>?_
  refine qdI (fun _=>qb7 (decide_eq_true (by simp;omega)) ?_) fun _=>?_
  ·refine fin (o++[[0,1,2,3]]) q.2.1 (by simp;omega) (fun x hx=>?_) (q1.le (by omega))
   rcases List.mem_append.1 hx with hx | hx
   ·exact i1 x hx
   ·rw[List.mem_singleton] at hx;subst hx;exact⟨by decide,by decide⟩
  ·exact fin o q.2.1 (by omega) i1 (q1.le (by omega))
theorem ql6(n:Nat)(s:Src)(hn:n≤100000000)(hs:SO n s):qi9 n_Z114 [dR s] o_Z114 fun(r:List Sim×Src×Unit)=>Bc 288 r.1∧SO (n+200) r.2.1:=by
 obtain⟨c,a,g,⟨⟩⟩:=s
 have fin:∀(l:List Sim) (s2:Src),Bc 288 l→SO (n+200) s2→EvQ (fun φ=>Z114.j0 (mkR (run E (φ 0))) (φ 0) l s2.1 s2.2.1 s2.2.2.1) o_Z114 fun(r:List Sim×Src×Unit)=>Bc 288 r.1∧SO (n+200) r.2.1:=by
  intro l s2 h1 h2
  simp only[Z114.j0_eq _ qaf]
  exact qaS ⟨h1,h2⟩
 have app:∀(l:List Sim) (x:Sim),Bc 287 l→x.length≤8→Bc 288 (l++[x]):=by
  intro l x h hx
  refine⟨by have:=h.1;simp;omega,fun y hy=>?_⟩
  rcases List.mem_append.1 hy with hy | hy
  ·exact h.2 y hy
  ·rw[List.mem_singleton] at hy;subst hy;exact hx
 refine qbK ?_
 simp only[run_Z114,Z114.ev]
 refine qbm (qfH n _ (by omega) hs) fun(d:List Sim×Src×Unit) ⟨d1,d2⟩=>?_
 have hd1:=d1.1
 refine qbm (qce (n+100) _ 20 (by omega) d2) fun(r:Int×Src×Unit) ⟨r1,r2,r3,r4⟩=>?_
 refine qdI (fun _=>?_) fun _=>?_
 ·refine qe9 (fun h=>qb7 (by simp only[Bool.and_eq_true,decide_eq_true_eq];omega) ?_) fun _=>fin d.1 r.2.1 (d1.le (by omega)) (r4.le (by omega))
  rw[List.take_length]
  exact fin (d.1.drop 1) r.2.1 ⟨by rw[List.length_drop];omega,fun x hx=>d1.2 x (List.mem_of_mem_drop hx)⟩ (r4.le (by omega))
 refine qdI (fun _=>?_) fun _=>?_
 ·refine qbm (qe6 _ r.2.1 [0,9,10,-1] (by decide) (by omega) r4) fun(q:Int×Src×Unit) ⟨_,q1⟩=>?_
  exact qb7 (decide_eq_true (by simp;omega)) (fin _ q.2.1 (app _ _ d1 (by simp)) (q1.le (by omega)))
 refine qdI (fun _=>?_) fun _=>?_
 ·exact qb7 (decide_eq_true (by simp;omega)) (fin _ r.2.1 (app _ _ d1 (by simp)) (r4.le (by omega)))
 refine qdI (fun _=>?_) fun _=>?_
 ·refine qbm (qda _ (by decide) (by decide)) fun(q:List Sim×Unit) q1=>?_
  refine qbm (qi6 _ r.2.1 2 (by omega) r4) fun(v:Bool×Src×Unit) v1=>?_
  refine qdI (fun _=>qbm (qda _ (by decide) (by decide)) fun(q:List Sim×Unit) q1=>?_) fun _=>?_
  ·exact fin _ v.2.1 (q1.le (by omega)) (v1.le (by omega))
  ·exact fin _ v.2.1 (q1.le (by omega)) (v1.le (by omega))
 ·exact fin d.1 r.2.1 (d1.le (by omega)) (r4.le (by omega))
theorem qpP(vs im:Sim)(v:Int)(hl:im.length≤vs.length)(h1:vs.length≤1048576):qi9 n_Z138 [dL vs,dL im,dI v] o_Z138 fun(r:Int×Unit)=>True:=by
 refine qbK ?_
 simp only[run_Z138,Z138.ev]
 refine EvQ.start 1 (L:=fun φ N=>Z138.l0 (mkR (run E (φ 0))) (φ 0) N vs im v 0) ?_ (fun _ _ _=>rfl)
 refine EvQ.loop 1 (σ:=Nat) (L:=fun φ N i=>Z138.l0 (mkR (run E (φ 0))) (φ 0) N vs im v (i:Int)) (fun _ _ _ _=>rfl) (fun i=>i≤im.length) (fun i=>im.length-i) (fun i hi ih=>?_) 0 (Nat.zero_le _)
 simp only[Z138.l0_succ _ qaf]
 refine qe9 (fun h=>?_) fun h=>qaS trivial
 have hlt:i<im.length:=by omega
 have hv:i<vs.length:=by omega
 refine qdu (qaq hv) (qdI (fun _=>qdu (qaq hlt) (qaS trivial)) fun _=>?_)
 rw[qah (by omega)]
 exact ih (i+1) (by omega) (by omega)
theorem qoU(vs im s:Sim)(hl:im.length≤vs.length)(h1:vs.length≤1048576)(hs1:s.length≤1000):qi9 n_Z137 [dL vs,dL im,dL s] o_Z137 fun(r:Sim×Bool×Unit)=>r.1.length≤1000:=by
 refine qbK ?_
 simp only[run_Z137,Z137.ev]
 refine EvQ.start 1 (L:=fun φ N=>Z137.l0 (mkR (run E (φ 0))) (φ 0) N vs im s [] 0) ?_ (fun _ _ _=>rfl)
 refine EvQ.loop 1 (σ:=Nat×Sim) (L:=fun φ N st=>Z137.l0 (mkR (run E (φ 0))) (φ 0) N vs im s st.2 (st.1:Int)) (fun _ _ _ _=>rfl) (fun st=>st.1≤s.length∧st.2.length≤st.1) (fun st=>s.length-st.1) (fun st hi ih=>?_) (0,[]) ⟨Nat.zero_le _,Nat.le_refl _⟩
 obtain⟨i,o⟩:=st
 obtain⟨i1,i2⟩:=hi
 simp only at i1 i2 ih ⊢
 simp only[Z137.l0_succ _ qaf]
 refine qe9 (fun h=>?_) fun h=>qaS (by show o.length≤1000;omega)
 have hlt:i<s.length:=by omega
 refine qdu (qaq hlt) (qbm (qpP vs im _ hl h1) fun(q:Int×Unit) _=>qe9 (fun _=>qaS (by show(0:Nat)≤1000;omega)) fun _=>qbH (qh5 o q.1 (by omega)) ?_)
 rw[qah (by omega)]
 have:=qdy (l:=o) (n:=q.1)
 exact ih (i+1,qcl o q.1) ⟨by show i+1≤s.length;omega,by show(qcl o q.1).length≤i+1;omega⟩ (by show s.length-(i+1)<s.length-i;omega)
theorem qpV(a b:Cpx)(vs im:Sim)(ha:Bc 288 a.1)(hb:Bc 288 b.1)(hl:im.length≤vs.length)(h1:vs.length≤1048576):qi9 n_Z136 [dC a,dC b,dL vs,dL im] o_Z136 fun(r:Bool×Unit)=>True:=by
 have ha1:=ha.1
 refine qbK ?_
 simp only[run_Z136,Z136.ev]
 refine EvQ.start 1 (L:=fun φ N=>Z136.l0 (mkR (run E (φ 0))) (φ 0) N a b vs im 0) ?_ (fun _ _ _=>rfl)
 refine EvQ.loop 1 (σ:=Nat) (L:=fun φ N i=>Z136.l0 (mkR (run E (φ 0))) (φ 0) N a b vs im (i:Int)) (fun _ _ _ _=>rfl) (fun i=>i≤a.1.length) (fun i=>a.1.length-i) (fun i hi ih=>?_) 0 (Nat.zero_le _)
 have fin:i<a.1.length→∀ x:Bool,EvQ (fun φ=>Z136.j1 (mkR (run E (φ 0))) (φ 0) (φ 1) a b vs im (i:Int) x) o_Z136 fun(r:Bool×Unit)=>True:=by
  intro h x
  simp only[Z136.j1_eq _ qaf]
  refine qdI (fun _=>qaS trivial) fun _=>?_
  rw[qah (by omega)]
  exact ih (i+1) (by omega) (by omega)
 simp only[Z136.l0_succ _ qaf]
 refine qe9 (fun h=>?_) fun h=>qaS trivial
 have hlt:i<a.1.length:=by omega
 have:=ha.2 _ (List.getElem_mem hlt)
 refine qdu (qaq hlt) (qbm (qoU vs im _ hl h1 (by omega)) fun(q:Sim×Bool×Unit) _=>qdI (fun _=>qbH (qbu b q.1 (hb.sm (by omega))) (fin hlt _)) fun _=>fin hlt _)
end VeT
open Go Go.Proofs Ve
namespace VeT
abbrev qoJ:=List Sim×List Sim×Sim×Src×Unit
def DrM(n:Nat)(r:qoJ):Prop:=Bc 288 r.1∧Bc 288 r.2.1∧r.2.2.1.length≤400∧SO n r.2.2.2.1
theorem qnl(n:Nat)(s:Src)(hn:n≤10000000)(hs:SO n s):qi9 n_Z134 [dR s] o_Z134 fun(r:qoJ)=>DrM (n+2000) r:=by
 obtain⟨c,a,g,⟨⟩⟩:=s
 refine qbK ?_
 simp only[run_Z134,Z134.ev]
 refine qbm (qfH n _ (by omega) hs) fun(x:List Sim×Src×Unit) ⟨x1,x2⟩=>?_
 refine qbm (qfH (n+100) _ (by omega) x2) fun(y:List Sim×Src×Unit) ⟨y1,y2⟩=>?_
 refine qbm (qi6 (n+200) _ 3 (by omega) y2) fun(q:Bool×Src×Unit) q1=>?_
 have hx:Bc 288 x.1:=x1.le (by omega)
 have hx1:=hx.1
 have key:∀(b:List Sim) (s1:Src),Bc 288 b→SO (n+202) s1→EvQ (fun φ=>Z134.j0 (mkR (run E (φ 0))) (φ 0) b s1.1 s1.2.1 s1.2.2.1 x.1) o_Z134 fun(r:qoJ)=>DrM (n+2000) r:=by
  intro b s1 hb h1
  have key1:∀(b:List Sim) (s1:Src),Bc 288 b→SO (n+500) s1→EvQ (fun φ=>Z134.j1 (mkR (run E (φ 0))) (φ 0) b s1.1 s1.2.1 s1.2.2.1 x.1) o_Z134 fun(r:qoJ)=>DrM (n+2000) r:=by
   intro b s1 hb h1
   have hb1:=hb.1
   simp only[Z134.j1_eq _ qaf]
   refine qbH (qdY (x.1,()) (hx.sm (by omega))) (qbH (qdY (b,()) (hb.sm (by omega))) ?_)
   have hv:(vxs x.1).length≤288:=Nat.le_trans qbz hx1
   have hw:(vxs b).length≤288:=Nat.le_trans qbz hb1
   generalize hvs:vxs x.1=vs at hv
   generalize vxs b=ws at hw
   have fin:∀(im:Sim) (s2:Src),im.length≤290→SO (n+1200) s2→EvQ (fun φ=>Z134.j5 (mkR (run E (φ 0))) (φ 0) b im s2.1 s2.2.1 s2.2.2.1 x.1) o_Z134 fun(r:qoJ)=>DrM (n+2000) r:=by
    intro im s2 h1 h2
    simp only[Z134.j5_eq _ qaf]
    exact qaS ⟨hx,hb,by show im.length≤400;omega,h2.le (by omega)⟩
   have last:∀(i:Nat) (im:Sim) (s2:Src),im.length≤288→SO (n+1100) s2→EvQ (fun φ=>Z134.j3 (mkR (run E (φ 0))) (φ 0) (φ 1) vs ws (i:Int) false b im s2.1 s2.2.1 s2.2.2.1 x.1) o_Z134 fun(r:qoJ)=>DrM (n+2000) r:=by
    intro i im s2 h1 h2
    simp only[Z134.j3_eq _ qaf]
    refine qkO rfl (qbm (qce (n+1100) s2 18 (by omega) h2) fun(r:Int×Src×Unit) ⟨_,_,_,r4⟩=>?_)
    refine qdI (fun _=>qb7 (decide_eq_true (by simp;omega)) (fin _ r.2.1 (by simp;omega) (r4.le (by omega)))) fun _=>?_
    refine qdI (fun _=>?_) fun _=>fin im r.2.1 (by omega) (r4.le (by omega))
    refine qe9 (fun h=>?_) fun _=>fin im r.2.1 (by omega) (r4.le (by omega))
    refine qbm (qe6 _ r.2.1 [-1,9,10,3] (by decide) (by omega) r4) fun(v:Int×Src×Unit) ⟨_,v1⟩=>?_
    exact qb7 (by simp only[Bool.and_eq_true,decide_eq_true_eq];omega) (fin _ v.2.1 (by simp;omega) (v1.le (by omega)))
   refine EvQ.start 1 (L:=fun φ N=>Z134.l2 (mkR (run E (φ 0))) (φ 0) N vs ws 0 b [] s1.1 s1.2.1 s1.2.2.1 x.1) ?_ (fun _ _ _=>rfl)
   refine EvQ.loop 1 (σ:=Nat×Sim×Src) (L:=fun φ N st=>Z134.l2 (mkR (run E (φ 0))) (φ 0) N vs ws (st.1:Int) b st.2.1 st.2.2.1 st.2.2.2.1 st.2.2.2.2.1 x.1) (fun _ _ _ _=>rfl)
    (fun st=>st.1≤vs.length∧st.2.1.length≤st.1∧SO (n+500+2*st.1) st.2.2) (fun st=>vs.length-st.1) (fun st hi ih=>?_) (0,[],s1) ⟨Nat.zero_le _,Nat.le_refl _,h1⟩
   obtain⟨i,im,s2⟩:=st
   obtain⟨i1,i2,i3⟩:=hi
   simp only at i1 i2 i3 ih ⊢
   simp only[Z134.l2_succ _ qaf]
   refine qe9 (fun h=>?_) fun h=>last i im s2 (by omega) (i3.le (by omega))
   have hlt:i<vs.length:=by omega
   by_cases hws:ws.length=0
   ·rw[decide_eq_false (by omega)]
    exact last i im s2 (by omega) (i3.le (by omega))
   ·rw[decide_eq_true (by omega)]
    simp only[Z134.j3_eq _ qaf]
    refine qpF rfl (qbm (qce (n+500+2*i) s2 _ (by omega) i3) fun(r:Int×Src×Unit) ⟨r1,r2,r3,r4⟩=>?_)
    obtain⟨at0,hat⟩:∃ k:Nat,(r.1:Int)=(k:Int):=⟨Int.toNat r.1,(Int.toNat_of_nonneg r1).symm⟩
    rw[hat]
    have next:∀ im2:Sim,im2.length≤i+1→EvQ (fun φ=>Z134.l2 (mkR (run E (φ 0))) (φ 0) (φ 1) vs ws (w64 ((i:Int)+1)) b im2 r.2.1.1 r.2.1.2.1 r.2.1.2.2.1 x.1) o_Z134 fun(r:qoJ)=>DrM (n+2000) r:=by
     intro im2 h2
     rw[qah (by omega)]
     exact ih (i+1,im2,r.2.1) ⟨by show i+1≤vs.length;omega,h2,r4.le (by show n+500+2*i+2≤n+500+2*(i+1);omega)⟩ (by show vs.length-(i+1)<vs.length-i;omega)
    refine EvQ.start 2 (L:=fun φ N=>Z134.l4 (mkR (run E (φ 0))) (φ 0) (φ 1) N vs ws (i:Int) (at0:Int) 0 b im r.2.1.1 r.2.1.2.1 r.2.1.2.2.1 x.1) ?_ (fun _ _ _=>rfl)
    refine EvQ.loop 2 (σ:=Nat) (L:=fun φ N k=>Z134.l4 (mkR (run E (φ 0))) (φ 0) (φ 1) N vs ws (i:Int) (at0:Int) (k:Int) b im r.2.1.1 r.2.1.2.1 r.2.1.2.2.1 x.1) (fun _ _ _ _=>rfl)
     (fun k=>k≤ws.length) (fun k=>ws.length-k) (fun k hk ihk=>?_) 0 (Nat.zero_le _)
    simp only[Z134.l4_succ _ qaf]
    refine qe9 (fun h=>?_) fun h=>next im (by omega)
    have hm:(at0+k)%ws.length<ws.length:=Nat.mod_lt _ (by omega)
    have e:Int.tmod (w64 ((at0:Int)+(k:Int))) (ws.length:Int)=(((at0+k)%ws.length:Nat):Int):=by
     rw[qaj (by omega) (by omega),Int.tmod_eq_emod_of_nonneg (by omega),Int.natCast_emod,Int.natCast_add]
    refine qb7 (by simpa using hws) ?_
    rw[e]
    refine qdu (qaq hm) (qbH (qde im (by omega)) (qb7 (decide_eq_true (by simp;omega)) ?_))
    refine qbm (qpV (x.1,()) (b,()) vs _ hx hb (by simp;omega) (by omega)) fun(v:Bool×Unit) _=>qdI (fun _=>qb7 (decide_eq_true (by simp;omega)) (next _ (by simp;omega))) fun _=>?_
    rw[qah (by omega)]
    exact ihk (k+1) (by omega) (by omega)
  simp only[Z134.j0_eq _ qaf]
  refine qbm (qi6 (n+202) s1 16 (by omega) h1) fun(q:Bool×Src×Unit) q1=>qdI (fun _=>qbm (ql6 (n+204) _ (by omega) q1) fun(z:List Sim×Src×Unit) ⟨z1,z2⟩=>key1 z.1 z.2.1 z1 (z2.le (by omega))) fun _=>key1 b q.2.1 hb (q1.le (by omega))
 exact qdI (fun _=>key x.1 q.2.1 hx q1) fun _=>key y.1 q.2.1 (y1.le (by omega)) q1
theorem qnZ(n:Nat)(s:Src)(hn:n≤10000000)(hs:SO n s):qi9 n_Z135 [dR s] o_Z135 fun(r:Int×Src×Unit)=>SO (n+2) r.2.1:=by
 refine qbK ?_
 simp only[run_Z135,Z135.ev]
 exact qbm (qe6 n s _ (by decide) (by omega) hs) fun(v:Int×Src×Unit) ⟨_,v1⟩=>qaS v1
theorem qpd(n:Nat)(s:Src)(hn:n≤10000000)(hs:SO n s):qi9 n_Z130 [dR s] o_Z130 fun(r:Int×Src×Unit)=>SO (n+2) r.2.1:=by
 refine qbK ?_
 simp only[run_Z130,Z130.ev]
 exact qbm (qe6 n s _ (by decide) (by omega) hs) fun(v:Int×Src×Unit) ⟨_,v1⟩=>qaS v1
theorem qjk(x:List Int)(h:Wf (.sl (.int .u8)) x):qi9 n_Z91 [dB x] o_Z91 fun(r:List Sim×List Sim×Sim×Int×Int×Unit)=>Bc 288 r.1∧Bc 288 r.2.1∧r.2.2.1.length≤400:=by
 refine qbK ?_
 simp only[run_Z91,Z91.ev]
 refine qbH (qkt x) (qbm (qnl 0 _ (by omega) (qqk h)) fun(r:qoJ) ⟨r1,r2,r3,r4⟩=>?_)
 refine qbm (qnZ _ _ (by omega) r4) fun(k:Int×Src×Unit) k1=>qbm (qpd _ _ (by omega) k1) fun(p:Int×Src×Unit) p1=>qaS ⟨r1,r2,r3⟩
end VeT
open Go Go.Proofs Ve
namespace VeT
end VeT
open Go Go.Proofs Ve
namespace VeT
def wN(w:Sim)(i:Nat):Nat:=(w.getD i 0).toNat
theorem qpj.wN{c:List Sim}{w:Sim}(h:qpj c w){i:Nat}(hi:i<w.length):w[i]? = some ((wN w i:Nat):Int)∧wN w i<c.length:=by
 obtain⟨n,hn,hl⟩:=h.get hi
 have e:VeT.wN w i=n:=by unfold VeT.wN;rw[qag hi,hn,Int.toNat_natCast]
 rw[e,List.getElem?_eq_getElem hi,hn]
 exact⟨rfl,hl⟩
end VeT
open Go Go.Proofs Ve
namespace VeT
end VeT
open Go Go.Proofs Ve
namespace VeT
end VeT
open Go Go.Proofs Ve
namespace VeT
end VeT
open Go Go.Proofs Ve
namespace VeT
theorem qpj.at{c:List Sim}{w:Sim}(hp:qpj c w){i:Nat}(hi:i<w.length):w[i]=((VeT.wN w i:Nat):Int):=by
 have:=(hp.wN hi).1
 rw[List.getElem?_eq_getElem hi] at this
 exact Option.some.inj this
end VeT
open Go Go.Proofs Ve
namespace VeT
end VeT
open Go Go.Proofs Ve
namespace VeT
end VeT
open Go Go.Proofs Ve
namespace VeT
theorem qpu{a b:Sim}(hl:a.length=b.length):pb (a=b)=pb (∀ j,0≤j→j<a.length→a.getD j 0=b.getD j 0):=qa0 ⟨fun h j _ _=>by rw[h],fun h=>qok hl fun i hi=>h i (by omega) hi⟩
theorem qkw(a b:Sim)(hl:a.length≤1048576):Ret E n_Z66 [dL a,dL b] ⟨o_Z66,(pb (a=b),())⟩:=by
 refine qal ?_
 simp only[run_Z66,Z66.ev]
 by_cases he:a.length=b.length
 ·refine qaE (by simp[he]) ?_
  refine Ev.start (p:=fun φ m=>Z66.l0 (mkR (run E (φ 0))) (φ 0) m a b 0=_) 1 ?_ (fun _ _ _ h=>h)
  rw[qpu he]
  refine qg7 1 (L:=fun φ m k=>Z66.l0 (mkR (run E (φ 0))) (φ 0) m a b k) (len:=a.length) 0 (by omega) (fun j=>a.getD j 0=b.getD j 0) (fun b=>some ⟨o_Z66,(b,())⟩) (fun _ _ _ _=>rfl) (fun k h1 h2 hP _=>?_) (fun k r h1 h2 hP _ ih=>?_) (fun _=>?_)
  ·simp only[Z66.l0_succ _ qaf]
   have h3:k<b.length:=by omega
   rw[qag h2,qag h3] at hP
   exact qaC (decide_eq_true (by omega)) (qae (qaq h2) (qae (qaq h3) (qaC (by simpa using hP) qam)))
  ·simp only[Z66.l0_succ _ qaf]
   have h3:k<b.length:=by omega
   rw[qag h2,qag h3] at hP
   refine qaC (decide_eq_true (by omega)) (qae (qaq h2) (qae (qaq h3) (qaE (by simpa using hP) ?_)))
   rw[qah (by omega)];exact ih
  ·simp only[Z66.l0_succ _ qaf]
   exact qaE (decide_eq_false (by omega)) qam
 ·rw[qav fun e=>he (by rw[e])]
  exact qaC (by simp;omega) qam
end VeT
open Go Go.Proofs Ve
namespace VeT
theorem qk1(x:List Int)(hx:Wf (.sl (.int .u8)) x):Ret E n_Z64 [dB x] ⟨.cons .bool .nil,(true,())⟩:=by
 refine qn4 (qbK ?_)
 simp only[run_Z64,Z64.ev]
 refine qbH (qkm x) (qdI (fun _=>qaS rfl) fun _=>?_)
 refine qbm (qjk x hx) fun(r:List Sim×List Sim×Sim×Int×Int×Unit) ⟨r1,r2,r3⟩=>?_
 obtain⟨a,b,im,k,p,⟨⟩⟩:=r
 have sa:Sm (.st cC) (a,()):=⟨r1.sm (by omega),trivial⟩
 have sb:Sm (.st cC) (b,()):=⟨r2.sm (by omega),trivial⟩
 have si:Sm (.sl (.int .i64)) im:=qff (by show im.length≤1048576;have:im.length≤400:=r3;omega)
 refine qbH (qcI (a,()) (b,()) im k p sa sb si) ?_
 by_cases hc:ChC a b im k p 1=0
 ·obtain⟨F,hp,ha,hb,_⟩:=qbT (a:=(a,())) (b:=(b,())) sa sb hc
  obtain⟨le1,le2⟩:=ql7 (a:=(a,())) (b:=(b,())) sa sb hc
  have hV:qbb (a,()) (b,()) im k p=(((qeZ p (qa1 b k) (qbt b k p) (qcZ a b im k p)).length:Int),0,()):=by unfold qbb;rw[if_pos hc]
  have hA:qbj (a,()) k p=(qfr a k p,0,()):=by unfold qbj;rw[if_pos ha]
  have hB:qbj (b,()) k p=(qfr b k p,0,()):=by unfold qbj;rw[if_pos hb]
  have hsA:=qch (a,()) k p sa
  have hsB:=qch (b,()) k p sb
  rw[hA] at hsA
  rw[hB] at hsB
  rw[hV]
  simp only at le1 le2
  generalize hn:(qeZ p (qa1 b k) (qbt b k p) (qcZ a b im k p)).length=n at le1 le2
  refine qkO rfl (qbH hsA (qbH hsB (qkO rfl (qkO rfl (qkO (decide_eq_false (by show ¬ (n:Int)<0;omega)) (qkO (decide_eq_false (by show ¬ (n:Int)>((qfr a k p).length:Int);omega)) ?_))))))
  rw[decide_eq_false (show ¬ (n:Int)>((qfr b k p).length:Int) by omega)]
  simp only[Z64.j0_eq _ qaf]
  refine qkO rfl ⟨(true,()),?_,rfl⟩
  obtain⟨⟨va,vb⟩,hm⟩:=qdQ.1 F.mc
  have ha1:a.length≤288:=r1.1
  have hr:=qcI (a,()) (a,()) (vxs a) k p sa sa (qff (Nat.le_trans (qbz (c:=a)) (by omega)))
  rw[qlW (a:=(a,())) sa ha] at hr
  have hcm:=qeL (a,()) (a,()) (b,()) (vxs a) im sa sa sb (qff (Nat.le_trans (qbz (c:=a)) (by omega))) si
  rw[qlP (a:=(a,())) (b:=(b,())) va vb hm] at hcm
  refine Ev.start (p:=fun φ n=>Z64.l1 (mkR (run E (φ 0))) (φ 0) n im k p (qfr a k p) 0 a b []=_) 1 ?_ (fun _ _ _ h=>h)
  refine qas 1 (L:=fun φ n j o=>Z64.l1 (mkR (run E (φ 0))) (φ 0) n im k p (qfr a k p) j a b o) (len:=a.length) (fun j=>vxN a j) (fun _ _ _ _ _=>rfl) (fun j r hj ih=>?_) ?_
  ·simp only[Z64.l1_succ _ qaf]
   rw[qah (by omega)]
   refine qaC (decide_eq_true (by omega)) (qae (qaq hj) ?_)
   have hl:=qbz (c:=a) (k:=j)
   rw[vxN,qag hj] at ih
   by_cases h1:(a[j]).length=1
   ·rw[if_pos h1,qag (by omega)] at ih
    refine qaC (by simp[h1]) (qae (qaq hj) (qae (qaq (k:=0) (by show 0<(a[j]).length;omega)) (qan (by simp;omega) ?_)))
    exact ih
   ·rw[if_neg h1] at ih
    exact qaE (by simp;omega) ih
  ·simp only[Z64.l1_succ _ qaf]
   refine qaE (decide_eq_false (by omega)) (qaa hr (qaa hcm (qaC rfl (qaC (by simp) (qaC rfl (qaa (qkw im im si.1) ?_))))))
   rw[qaB rfl]
   exact qam
 ·have hV:qbb (a,()) (b,()) im k p=(0,ChC a b im k p 1,()):=by unfold qbb;rw[if_neg hc]
  rw[hV]
  exact qpF (by simpa using hc) (qaS rfl)
theorem qpr(z:((.cons (.sl (.int .u8)) .nil):Ty).T)(h:Wf (.cons (.sl (.int .u8)) .nil) z) :
  Evt fun n=>run E n n_Z64 (qa7 _ z)=some ⟨.cons .bool .nil,(true,())⟩:=qk1 z.1 h.1
end VeT
