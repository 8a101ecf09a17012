import Derived.Test.YtjnnliedeobfgaaGreatT5
set_option linter.unusedVariables false
set_option linter.unusedSimpArgs false
open Go Go.Proofs Ve
namespace VeT
theorem qdx(rows:List Sim)(hl:rows.length≤1048576)(hs:∀ x∈rows,x.length≤1048576):Ret E n_Z38 [dLL rows] ⟨o_Z38,(rows,())⟩:=by
 refine qal ?_
 simp only[run_Z38,Z38.ev]
 refine Ev.start (p:=fun φ n=>Z38.l0 (mkR (run E (φ 0))) (φ 0) n rows (rows.length:Int) 0 []=_) 1 ?_ (fun _ _ _ h=>h)
 refine qaw 1 (L:=fun φ n k o=>Z38.l0 (mkR (run E (φ 0))) (φ 0) n rows (rows.length:Int) k o) (len:=rows.length) (fun k=>rows.take k) (fun _ _ _ _ _=>rfl) (fun k r hk ih=>?_) ?_
 ·simp only[Z38.l0_succ _ qag]
  rw[List.take_succ_eq_append_getElem hk] at ih
  refine qaE (decide_eq_true (by omega)) (qaf (qap hk) (qaa (qcu _ (hs _ (List.getElem_mem hk))) (qau (by simp only[List.length_take,List.length_singleton,decide_eq_true_eq];omega) ?_)))
  rw[qah (by omega)];exact ih
 ·simp only[Z38.l0_succ _ qag]
  refine qaH (decide_eq_false (by omega)) (qam ?_)
  rw[List.take_of_length_le (Nat.le_refl _)]
theorem qhV(p:Int)(W:Nat)(rows:List Sim)(hp:2≤p∧p≤251)(hR:rows.length≤1048576)(hW:W≤1048576)(hr:Rws p W rows) :
  Ret E n_Z80 [dI p,dI (W:Int),dLL rows] ⟨o_Z80,(p,(W:Int),bas p W rows,())⟩:=by
 have hA:=qee hr
 obtain⟨det,hel⟩:=qfm (qcU rows) rows.length W p hp hR hW hA
 rw[qmz fun x hx=>(hr x hx).1] at hel
 have hlen:=(qgv hp.1 hA W).2.1
 refine qal ?_
 simp only[run_Z80,Z80.ev]
 unfold bas qqi
 generalize elS p rows.length (qcU rows) W=S at hel hlen
 obtain⟨F,pv⟩:=S
 simp only at hel hlen ⊢
 refine qaa (qdx rows hR fun x hx=>by rw[(hr x hx).1];exact hW) (qaa hel (qau (by simp only[qa7,qay,Bool.and_eq_true,decide_eq_true_eq];omega) ?_))
 simp only[qa7,Int.toNat_natCast,List.drop_zero]
 rw[qmP hlen]
 exact qaa (qdx (qaA F pv.length W) (by rw[qay];omega) fun x hx=>by
  obtain⟨i,_,rfl⟩:=List.mem_map.1 hx
  rw[List.length_map,List.length_range];exact hW) qan
theorem qif(x:Int):Ret E n_Z67 [dI x] ⟨o_Z67,(x != 0,())⟩:=by
 refine qal ?_
 simp only[run_Z67,Z67.ev]
 exact Ev.of fun _=>trivial
theorem qpL{f:Nat→Int}{W q:Nat}(hq:q<W)(h1:f q≠0)(h0:∀ j,j<q→f j=0):qgG (fun x:Int=>x != 0) ((List.range W).map f)=(q:Int):=by
 have:=qcw (p:=fun x:Int=>x != 0) (s:=(List.range W).map f) (o:=some q) (fun k hk=>by
  obtain rfl:=Option.some.inj hk
  refine⟨by simpa using hq,⟨by simpa using hq,by simpa using h1⟩,fun j hj=>?_⟩
  rintro⟨hjl,hne⟩
  simp[h0 j hj] at hne) (fun h=>by cases h)
 exact this.symm
theorem qkE{R W:Nat}{F:Ent}{pv:List Nat}(p:Int)(hW:W≤1048576)(hR:R≤1048576)(hrf:Rf R W F pv) :
  Ret E n_Z66 [dI p,dI (W:Int),dLL (qaA F pv.length W)] ⟨o_Z66,(pvL pv,())⟩:=by
 have hlen:=hrf.len
 refine qal ?_
 simp only[run_Z66,Z66.ev,qay]
 refine Ev.start (p:=fun φ n=>Z66.l0 (mkR (run E (φ 0))) (φ 0) n (qaA F pv.length W) (pv.length:Int) 0 []=_) 1 ?_ (fun _ _ _ h=>h)
 refine qaw 1 (L:=fun φ n k o=>Z66.l0 (mkR (run E (φ 0))) (φ 0) n (qaA F pv.length W) (pv.length:Int) k o) (len:=pv.length) (fun k=>pvL (pv.take k)) (fun _ _ _ _ _=>rfl) (fun k r hk ih=>?_) ?_
 ·simp only[Z66.l0_succ _ qag]
  have hone:=hrf.one k k (by omega) hk
  rw[if_pos rfl] at hone
  have hix:=qpL (f:=F k) (hrf.lt k hk) (by rw[hone];exact Int.one_ne_zero) fun j hj=>hrf.low k j hk hj
  have hcall:=qbv ((List.range W).map (F k)) (fun x=>x != 0) (by rw[List.length_map,List.length_range];exact hW) fun x _=>qif x
  rw[hix] at hcall
  rw[List.take_succ_eq_append_getElem hk,qng,← qad (d:=0) hk] at ih
  refine qaE (decide_eq_true (by omega)) (qaf (qbX.trans (qa8 hk)) (qaa hcall (qau (by simp only[qa7,List.length_take,List.length_singleton,decide_eq_true_eq];omega) ?_)))
  rw[qah (by omega)];exact ih
 ·simp only[Z66.l0_succ _ qag]
  refine qaH (decide_eq_false (by omega)) (qam ?_)
  rw[List.take_of_length_le (Nat.le_refl _)]
def qex(p:Int)(F:Ent)(pv:List Nat)(x:Nat→Int)(W k:Nat):Sim:=(List.range W).map (qgz p F pv x k)
theorem qhs{R W:Nat}{F:Ent}{pv:List Nat}(p:Int)(x:Sim)(hp:2≤p∧p≤251)(hW:W≤1048576)(hR:R≤1048576)(hF:EIn p R W F)(hrf:Rf R W F pv)(hx:qbl x p)(hxl:x.length=W) :
  ∃ l:Sim,Ret E n_Z37 [dI p,dI (W:Int),dLL (qaA F pv.length W),dL x] ⟨o_Z37,(l,pb (Zs (qex p F pv (fun j=>x.getD j 0) W pv.length)),())⟩:=by
 have hlen:=hrf.len
 have hx0:x=qex p F pv (fun j=>x.getD j 0) W 0:=by
  show x=(List.range W).map fun j=>x.getD j 0
  apply List.ext_getElem
  ·rw[List.length_map,List.length_range,hxl]
  ·intro j h1 h2
   rw[List.getElem_map,List.getElem_range,qad h1]
 refine⟨(pv.map fun q=>x.getD q 0),qal ?_⟩
 simp only[run_Z37,Z37.ev]
 refine qaa (qkE p hW hR hrf) ?_
 simp only[qa7]
 have hin:∀ j,j<W→0≤x.getD j 0∧x.getD j 0≤p-1:=fun j hj=>by rw[qad (by omega)];exact hx _ (List.getElem_mem _)
 have hrin:∀ k j,j<W→0≤qgz p F pv (fun j=>x.getD j 0) k j∧qgz p F pv (fun j=>x.getD j 0) k j≤p-1:=fun k j hj=>by
  cases k with
  | zero=>exact hin j hj
  | succ k=>exact qbZ hp.1
 suffices h:Ev fun φ=>Z37.l0 (mkR (run E (φ 0))) (φ 0) (φ 0) x (qex p F pv (fun j=>x.getD j 0) W 0) (pvL pv) (pv.length:Int) 0 p (W:Int) (qaA F pv.length W) []=some ⟨o_Z37,(pv.map fun q=>x.getD q 0,pb (Zs (qex p F pv (fun j=>x.getD j 0) W pv.length)),())⟩ by
  rw[← hx0] at h;exact h
 refine Ev.start (p:=fun φ n=>Z37.l0 (mkR (run E (φ 0))) (φ 0) n x (qex p F pv (fun j=>x.getD j 0) W 0) (pvL pv) (pv.length:Int) 0 p (W:Int) (qaA F pv.length W) []=_) 1 ?_ (fun _ _ _ h=>h)
 refine qaw 1 (L:=fun φ n k (o:Sim×Sim)=>Z37.l0 (mkR (run E (φ 0))) (φ 0) n x o.1 (pvL pv) (pv.length:Int) k p (W:Int) (qaA F pv.length W) o.2) (len:=pv.length) (fun k=>(qex p F pv (fun j=>x.getD j 0) W k,(pv.take k).map fun q=>x.getD q 0)) (fun _ _ _ _ _=>rfl) (fun k r hk ih=>?_) ?_
 ·simp only[Z37.l0_succ _ qag] at ih ⊢
  have hq:=hrf.lt k hk
  have hxq:x[pv.getD k 0]? = some (x.getD (pv.getD k 0) 0):=by rw[qad (show pv.getD k 0<x.length by omega)];exact List.getElem?_eq_getElem _
  have hv:=hin _ hq
  have hc:Int.tmod (w64 (p-x.getD (pv.getD k 0) 0)) p=cX p (fun j=>x.getD j 0) pv k:=by
   rw[qai (by omega) (by omega),Int.tmod_eq_emod_of_nonneg (by omega)];rfl
  have hcin:0≤cX p (fun j=>x.getD j 0) pv k∧cX p (fun j=>x.getD j 0) pv k≤p-1:=qbZ hp.1
  have hadd:=qed (qex p F pv (fun j=>x.getD j 0) W k) ((List.range W).map (F k)) (cX p (fun j=>x.getD j 0) pv k) p hp (by omega) (by simp[qex]) (by simp[qex];omega) (qj4 hp.2 (hrin k)) (qj4 hp.2 fun j hj=>hF k j (by omega) hj)
  rw[show qqV (qex p F pv (fun j=>x.getD j 0) W k) ((List.range W).map (F k)) (cX p (fun j=>x.getD j 0) pv k) p=qex p F pv (fun j=>x.getD j 0) W (k+1) from qjc] at hadd
  have hp0:(p != 0)=true:=by simp;omega
  rw[List.take_succ_eq_append_getElem hk,List.map_append,List.map_singleton,← qad (d:=0) hk] at ih
  refine qaE (decide_eq_true (by omega)) (qaf (qbX.trans (qnQ hk)) (qaf (qbX.trans hxq) (qau (by simp only[List.length_map,List.length_take,List.length_singleton,decide_eq_true_eq];omega) (qaf (qbX.trans (qa8 hk)) (qaf (qbX.trans hxq) (qau hp0 ?_))))))
  simp only[hc]
  refine qaa hadd ?_
  rw[qah (by omega)];exact ih
 ·simp only[Z37.l0_succ _ qag]
  refine qaH (decide_eq_false (by omega)) (qaa (qmQ _ (by simp[qex];omega)) (qam ?_))
  rw[List.take_of_length_le (Nat.le_refl _)]
theorem qoU{p:Int}{F:Ent}{pv:List Nat}{x:Nat→Int}{W k:Nat}:Zs (qex p F pv x W k)↔∀ j,j<W→qgz p F pv x k j=0:=by
 unfold Zs qex
 constructor
 ·intro h j hj;exact h _ (List.mem_map.2 ⟨j,List.mem_range.2 hj,rfl⟩)
 ·intro h y hy
  obtain⟨j,hj,rfl⟩:=List.mem_map.1 hy
  exact h j (List.mem_range.1 hj)
def InR(p:Int)(W:Nat)(rows:List Sim)(x:Sim):Prop:=Spn p rows.length W (qcU rows) (fun j=>x.getD j 0)
theorem qkc(p:Int)(W:Nat)(rows:List Sim)(x:Sim)(hp:Pr p)(hW:W≤1048576)(hR:rows.length≤1048576)(hr:Rws p W rows)(hx:qbl x p)(hxl:x.length=W) :
  Ret E n_Z36 [dI p,dI (W:Int),dLL (bas p W rows),dL x] ⟨o_Z36,(pb (InR p W rows x),())⟩:=by
 have hA:=qee hr
 obtain⟨hrf,heq⟩:=qgj hp hA W (Nat.le_refl _)
 have hF:=(qgv hp.1 hA W).1
 have hin:∀ j,j<W→0≤x.getD j 0∧x.getD j 0≤p-1:=fun j hj=>by rw[qad (by omega)];exact hx _ (List.getElem_mem _)
 unfold bas qqi
 have e:∀ F pv,Rf rows.length W F pv→Eqv p rows.length W (qcU rows) F→(Zs (qex p F pv (fun j=>x.getD j 0) W pv.length)↔InR p W rows x):=fun F pv h1 h2=>by
  rw[qoU,qoT hp.1 h1 hin]
  exact⟨fun h=>Spn.trans h2.1 h,fun h=>Spn.trans h2.2 h⟩
 have e:=e _ _ hrf heq
 generalize elS p rows.length (qcU rows) W=S at hrf heq hF e
 obtain⟨F,pv⟩:=S
 simp only at hrf heq hF e ⊢
 obtain⟨l,hl⟩:=qhs p x ⟨hp.1,hp.2.1⟩ hW hR hF hrf hx hxl
 rw[show pb (Zs (qex p F pv (fun j=>x.getD j 0) W pv.length))=pb (InR p W rows x) from qaP e] at hl
 refine qal ?_
 simp only[run_Z36,Z36.ev]
 exact qaa hl qan
end VeT
open Go Go.Proofs Ve
namespace VeT
theorem InR.mem{p:Int}{W:Nat}{rows:List Sim}{r:Sim}(h:r∈rows):InR p W rows r:=by
 obtain⟨i,hi,e⟩:=List.mem_iff_getElem.1 h
 have:qcU rows i=fun j=>r.getD j 0:=by funext j;unfold qcU;rw[qad hi,e]
 unfold InR
 rw[← this]
 exact Spn.row hi
theorem InR.trans{p:Int}{W:Nat}{A B:List Sim}{y:Sim}(h:∀ r∈A,InR p W B r)(hy:InR p W A y):InR p W B y :=
 Spn.trans (fun i hi=>by
  have e:qcU A i=fun j=>(A[i]).getD j 0:=by funext j;unfold qcU;rw[qad hi]
  rw[e]
  exact h _ (List.getElem_mem hi)) hy
def qhu(p:Int)(W:Nat)(A B:List Sim):Prop:=∀ y,InR p W A y↔InR p W B y
theorem qhu.refl{p:Int}{W:Nat}{A:List Sim}:qhu p W A A:=fun _=>Iff.rfl
theorem qhu.append{p:Int}{W:Nat}{A B:List Sim}{x:Sim}(h:qhu p W A B):qhu p W (A++[x]) (B++[x]):=by
 have key:∀ A B:List Sim,qhu p W A B→∀ y,InR p W (A++[x]) y→InR p W (B++[x]) y:=fun A B h y hy=>InR.trans (fun r hr=>by
  rcases List.mem_append.1 hr with hr | hr
  ·exact InR.trans (fun r hr=>InR.mem (List.mem_append.2 (.inl hr))) ((h r).1 (InR.mem hr))
  ·exact InR.mem (List.mem_append.2 (.inr hr))) hy
 exact fun y=>⟨key A B h y,key B A (fun y=>(h y).symm) y⟩
theorem qp5{p:Int}{W:Nat}{rows:List Sim}(hp:2≤p)(hr:Rws p W rows):Rws p W (bas p W rows)∧(bas p W rows).length≤W:=by
 have hA:=qee hr
 obtain⟨hF,h1,h2,h3⟩:=qgv hp hA W
 unfold bas qqi
 refine⟨fun x hx=>?_,by rw[qay];exact h2⟩
 obtain⟨i,hi,rfl⟩:=List.mem_map.1 hx
 have hi:=List.mem_range.1 hi
 refine⟨by simp,fun y hy=>?_⟩
 obtain⟨j,hj,rfl⟩:=List.mem_map.1 hy
 exact hF i j (by omega) (List.mem_range.1 hj)
theorem qoR{p:Int}{W:Nat}{rows:List Sim}(hp:Pr p)(hr:Rws p W rows):qhu p W (bas p W rows) rows:=by
 have hA:=qee hr
 obtain⟨hrf,heq⟩:=qgj hp hA W (Nat.le_refl _)
 unfold bas qqi
 generalize elS p rows.length (qcU rows) W=S at hrf heq
 obtain⟨F,pv⟩:=S
 simp only at hrf heq ⊢
 have hent:∀ i j,i<pv.length→j<W→qcU (qaA F pv.length W) i j=F i j:=fun i j hi hj=>by
  unfold qcU
  have e1:(qaA F pv.length W).getD i []=(List.range W).map (F i):=by rw[List.getD_eq_getElem?_getD,qa8 hi];rfl
  rw[e1,List.getD_eq_getElem?_getD,qfb hj];rfl
 refine fun y=>⟨fun h=>?_,fun h=>?_⟩
 ·refine Spn.trans (fun i hi=>?_) h
  rw[qay] at hi
  exact(heq.1 i (Nat.lt_of_lt_of_le hi hrf.len)).congr fun j hj=>by rw[hent i j hi hj]
 ·obtain⟨c,hc⟩:=Spn.trans heq.2 h
  refine⟨c,fun j hj=>?_⟩
  rw[qay,← hc j hj,qfA hrf.len fun i h1 h2=>hrf.bot i j h1 h2 hj,qaZ (d:=c) (h:=fun i=>F i j) fun i hi=>⟨rfl,hent i j hi hj⟩]
open Classical in
noncomputable def qnT(p:Int)(W:Nat):List Sim→List Sim→List Sim
 | _,[]=>[]
 | h,x::xs=>if InR p W h x then qnT p W h xs else x::qnT p W (h++[x]) xs
open Classical in
noncomputable def msk(p:Int)(W:Nat):List Sim→List Sim→List Bool
 | _,[]=>[]
 | h,x::xs=>if InR p W h x then false::msk p W h xs else true::msk p W (h++[x]) xs
theorem qmG(n:Nat)(args:List Dv):run E (n+1) n_Z55 args=qgq n_Z36 n_Z38 n_Z80 (mkR (run E n)) args:=rfl
theorem qk6{p:Int}{W:Nat}(qgq:Unit):∀ {l h:List Sim},sel (msk p W h l) l=qnT p W h l
 | [],h=>rfl
 | x::xs,h=>by
  unfold msk qnT
  split
  ·exact qk6 ()
  ·simp only[sel];rw[qk6 ()]
theorem qjf{f:Nat}{out:Ty}{args:List Dv}{x:out.T}(h:Ret E f args ⟨out,x⟩):Ev fun φ=>qce (mkR (run E (φ 0))) f out args=some x:=by
 have h1:=qaa (E:=E) (K:=fun _ y=>some (⟨out,y⟩:Dv)) (r:=some ⟨out,x⟩) h qan
 refine h1.mono fun φ h2=>?_
 cases e:qce (mkR (run E (φ 0))) f out args with
 | none=>rw[e] at h2;cases h2
 | some y =>
  rw[e] at h2
  have h3:=Option.some.inj h2
  exact congrArg some (eq_of_heq (Dv.mk.inj h3).2)
-- qgq
theorem qp1(p:Int)(W:Nat)(hp:Pr p)(hW:W≤1048575):∀(l g h:List Sim),Rws p W l→Rws p W g→g.length≤1048576→qhu p W g h →
  Ev fun φ=>qn8 n_Z36 n_Z38 n_Z80 (mkR (run E (φ 0))) p (W:Int) (bas p W g) l=some (msk p W h l):=by
 have hp2:2≤p∧p≤251:=⟨hp.1,hp.2.1⟩
 intro l
 induction l with
 | nil=>exact fun g h _ _ _ _=>Ev.of fun _=>rfl
 | cons x l ih =>
  intro g h hl hg hgl hs
  obtain⟨hx1,hx2⟩:=hl x List.mem_cons_self
  have hl':Rws p W l:=fun r hr=>hl r (List.mem_cons_of_mem _ hr)
  have hc:=qjf (qkc p W g x hp (by omega) hgl hg hx2 hx1)
  by_cases hin:InR p W g x
  ·rw[qaz hin] at hc
   refine(hc.and (ih g h hl' hg hgl hs)).mono fun φ ⟨h1,h2⟩=>?_
   unfold qn8 msk
   rw[if_pos ((hs x).1 hin)]
   refine(congrArg (Option.bind · _) h1).trans ?_
   simp only[Option.bind_some,cond_true]
   rw[h2];rfl
  ·rw[qat hin] at hc
   obtain⟨b1,b2⟩:=qp5 hp.1 hg
   have hg2:Rws p W (bas p W g++[x]):=fun r hr=>by
    rcases List.mem_append.1 hr with hr | hr
    ·exact b1 r hr
    ·rw[List.mem_singleton] at hr;subst hr;exact⟨hx1,hx2⟩
   have hs2:qhu p W (bas p W g++[x]) (h++[x]):=qhu.append fun y=>(qoR hp hg y).trans (hs y)
   have hsp:=qjf (qhV p W (bas p W g++[x]) hp2 (by rw[List.length_append,List.length_singleton];omega) (by omega) hg2)
   have hcl:=qjf (qdx (bas p W g) (by omega) fun x hx=>by rw[(b1 x hx).1];omega)
   have hih:=ih (bas p W g++[x]) (h++[x]) hl' hg2 (by rw[List.length_append,List.length_singleton];omega) hs2
   refine((hc.and hcl).and (hsp.and hih)).mono fun φ ⟨⟨h1,h2⟩,h3,h4⟩=>?_
   unfold qn8 msk
   rw[if_neg fun e=>hin ((hs x).2 e)]
   refine(congrArg (Option.bind · _) h1).trans ?_
   simp only[Option.bind_some,cond_false]
   refine(congrArg (Option.bind · _) h2).trans ?_
   simp only[Option.bind_some]
   have hk:chk (decide (((bas p W g).length+1)*24≤70368744177664))=some ():=by unfold chk;rw[decide_eq_true (by omega)];rfl
   rw[hk,Option.bind_some]
   refine(congrArg (Option.bind · _) h3).trans ?_
   simp only[Option.bind_some]
   rw[h4];rfl
-- qgq
theorem qh9(p:Int)(W:Nat)(rows list:List Sim)(hp:Pr p)(hW:W≤1048575)(hR:rows.length≤1048576)(hr:Rws p W rows)(hl:list.length≤1048576)(hls:Rws p W list) :
    Ret E n_Z55 [dI p,dI (W:Int),dLL (bas p W rows),dLL list] ⟨o_Z55,(qnT p W rows list,())⟩:=by
  refine qal ?_
  refine(qp1 p W hp hW list rows rows hls hr hR qhu.refl).mono fun φ h=>?_
  rw[qmG]
  show((some p).bind fun p=>(some (W:Int)).bind fun W=>(some (bas p W.toNat rows)).bind fun B=>(some list).bind fun xs =>
      if xs.length≤1048576 then(qn8 n_Z36 n_Z38 n_Z80 (mkR (run E (φ 0))) p W B xs).map fun ms=>(⟨.cons tLL .nil,(sel ms xs,())⟩:Dv) else none)=_
  simp only[Option.bind_some,Int.toNat_natCast,if_pos hl]
  rw[h,Option.map_some,qk6 ()]
end VeT
open Go Go.Proofs Ve
namespace VeT
def qqM(p:Int)(W:Nat)(cells:Sim)(h:List Sim):Prop:=(cells.length=W*h.length∧qbl cells p)∧∀ i j,i<W→j<h.length→qfP cells h.length i j=qcU h j i
theorem qqM.next{p:Int}{W:Nat}{cells:Sim}{h:List Sim}{v:Sim}(hc:qqM p W cells h)(hv:qbl v p)(hl:v.length=W):qqM p W (qrb cells v h.length W) (h++[v]):=by
 have hlen:(h++[v]).length=h.length+1:=by simp
 have hA0:=qdC hc.1.2 hc.1.1
 have hA1:=qp9 hA0 hv hl
 refine⟨⟨by rw[hlen];exact qaC,fun x hx=>?_⟩,fun i j hi hj=>?_⟩
 ·unfold qrb at hx
  rw[← qdu] at hx
  obtain⟨row,hrow,hx⟩:=List.mem_flatten.1 hx
  obtain⟨i,hi,rfl⟩:=List.mem_map.1 hrow
  obtain⟨j,hj,rfl⟩:=List.mem_map.1 hx
  exact hA1 i j (List.mem_range.1 hi) (List.mem_range.1 hj)
 ·rw[hlen] at hj ⊢
  unfold qrb
  rw[qmI hi hj]
  unfold qqR qcU
  by_cases hjh:j<h.length
  ·rw[if_neg (by omega),hc.2 i j hi hjh,List.getD_eq_getElem?_getD (l:=h++[v]),List.getElem?_append_left hjh,← List.getD_eq_getElem?_getD];rfl
  ·obtain rfl:j=h.length:=by omega
   rw[if_pos rfl,List.getD_eq_getElem?_getD (l:=h++[v]),List.getElem?_append_right (Nat.le_refl _)];simp
theorem qiJ{p:Int}{W C:Nat}{cells:Sim}(hl:cells.length=W*C)(he:qbl cells p):qqM p W cells (qb1 W C cells)∧(qb1 W C cells).length=C∧Rws p W (qb1 W C cells):=by
 have hlen:(qb1 W C cells).length=C:=by simp[qb1]
 have hA:=qdC he hl
 refine⟨⟨⟨by rw[hlen];exact hl,he⟩,fun i j hi hj=>?_⟩,hlen,fun x hx=>?_⟩
 ·rw[hlen] at hj ⊢
  have e:(qb1 W C cells).getD j []=(List.range W).map fun i=>cells.getD (i*C+j) 0:=by
   unfold qb1
   rw[List.getD_eq_getElem?_getD,List.getElem?_map,List.getElem?_range hj];rfl
  unfold qcU
  rw[e,List.getD_eq_getElem?_getD,List.getElem?_map,List.getElem?_range hi];rfl
 ·obtain⟨i,hi,rfl⟩:=List.mem_map.1 hx
  refine⟨by simp,fun y hy=>?_⟩
  obtain⟨j,hj,rfl⟩:=List.mem_map.1 hy
  exact hA j i (List.mem_range.1 hj) (List.mem_range.1 hi)
noncomputable def qof(x:Shf)(k:Int):List Sim:=qnT x.2.1 (SD x.1 x.2.2.1 k).toNat (qb1 (SD x.1 x.2.2.1 k).toNat (SD x.1 x.2.2.1 (k-1)).toNat (qhX x (k-1)).2.2.2.1) (qpS x k)
theorem qoA{x:Shf}{k:Int}(hs:VS x.1 x.2.1 x.2.2.1 x.2.2.2.1):Rws x.2.1 (SD x.1 x.2.2.1 k).toNat (qpS x k)∧(qpS x k).length≤(SD x.1 x.2.2.1 k).toNat :=
 ⟨fun r hr=>qgQ hs.2.1.1 hr,qeQ⟩
end VeT
open Go Go.Proofs Ve
namespace VeT
theorem InR.left{p:Int}{W:Nat}{A B:List Sim}{x:Sim}(h:InR p W A x):InR p W (A++B) x:=InR.trans (fun r hr=>InR.mem (List.mem_append.2 (.inl hr))) h
end VeT
open Go Go.Proofs Ve
namespace VeT
theorem qn6{p:Int}{W:Nat}{pv:List Nat}{F:Ent}:∀ {n c:Nat},c<n→c∉pv→qmN p W pv F c pv.length∈qid p W pv F n
 | n+1,c,h,hc=>by
  rw[qid,List.mem_append]
  by_cases e:c=n
  ·subst e
   right;rw[if_neg hc];exact List.mem_singleton.2 rfl
  ·exact .inl (qn6 (by omega) hc)
theorem qnJ{p:Int}{R W c:Nat}{pv:List Nat}{F:Ent}(hrf:Rf R W F pv):∀ n,n≤pv.length→∀ i,i<n→(qmN p W pv F c n).getD (pv.getD i 0) 0=(0-F i c)%p
 | 0,_,i,hi=>by omega
 | n+1,hn,i,hi=>by
  have hq:=hrf.lt n (by omega)
  rw[qhc,qfu (by rw[qdI];exact hq)]
  by_cases e:i=n
  ·subst e;rw[if_pos rfl]
  ·have:=hrf.mono i n (by omega) (by omega)
   rw[if_neg (by omega)];exact qnJ hrf n (by omega) i (by omega)
theorem qfJ{p:Int}{R W c j:Nat}{pv:List Nat}{F:Ent}(hrf:Rf R W F pv)(hj:j<W)(hjp:j∉pv)(hc:c<W):∀ n,n≤pv.length→(qmN p W pv F c n).getD j 0=if j=c then 1 else 0
 | 0,_=>by
  show((List.replicate W (0:Int)).set c 1).getD j 0=_
  rw[qfu (by simpa using hc)]
  split
  ·rfl
  ·rw[List.getD_eq_getElem?_getD,List.getElem?_replicate,if_pos hj];rfl
 | n+1,hn=>by
  have hq:=hrf.lt n (by omega)
  rw[qhc,qfu (by rw[qdI];exact hq),if_neg fun e=>hjp (by rw[e];exact qjd (by omega))]
  exact qfJ hrf hj hjp hc n (by omega)
theorem qqK{pv:List Nat}{j:Nat}(h:j∈pv):∃ i,i<pv.length∧pv.getD i 0=j:=by
 obtain⟨i,hi,e⟩:=List.mem_iff_getElem.1 h
 exact⟨i,hi,by rw[qad hi];exact e⟩
open Classical in
theorem qn2{p:Int}{R W:Nat}{cells x:Sim}(hp:Pr p)(hl:cells.length=R*W)(he:qbl cells p)(h0:∀ i,i<R→qaQ (fun j=>x.getD j 0) (qfP cells W i) W%p=0):InR p W (qlk p R W cells) x:=by
  have hA:=qdC he hl
  obtain⟨hrf,heq⟩:=qgj hp hA W (Nat.le_refl _)
  have hF0:∀ i,i<R→qaQ (fun j=>x.getD j 0) ((elS p R (qfP cells W) W).1 i) W%p=0:=fun i hi=>Spn.orth h0 (heq.1 i hi)
  unfold qlk
  generalize elS p R (qfP cells W) W=S at hrf hF0
  obtain⟨F,pv⟩:=S
  simp only at hrf hF0 ⊢
  let K:Ent:=fun c j=>if c∈pv then 0 else(qmN p W pv F c pv.length).getD j 0
  refine(Spn.sum (c:=fun j=>x.getD j 0) (B:=K) (n:=W) fun c hc=>?_).congr fun j hj=>?_
  · by_cases h:c∈pv
    · rw[show K c=fun _=>0 by funext j;simp[K,h]];exact Spn.zero
    · rw[show K c=fun j=>(qmN p W pv F c pv.length).getD j 0 by funext j;simp[K,h]]
      exact InR.mem (qn6 hc h)
  · show qaQ (fun j=>x.getD j 0) (fun c=>K c j) W%p=x.getD j 0%p
    by_cases hjp:j∈pv
    · obtain⟨i,hi,rfl⟩:=qqK hjp
      have hiR:i<R:=Nat.lt_of_lt_of_le hi hrf.len
      have e:qaQ (fun j=>x.getD j 0) (fun c=>F i c+K c (pv.getD i 0)) W%p=qaQ (fun j=>x.getD j 0) (fun c=>if c=pv.getD i 0 then 1 else 0) W%p:=qc3 fun c hc=>by
        by_cases hcp:c∈pv
        · obtain⟨k,hk,rfl⟩:=qqK hcp
          have h1:=hrf.one i k hiR hk
          rw[show K (pv.getD k 0) (pv.getD i 0)=0 from if_pos hcp,Int.add_zero,h1]
          by_cases hik:i=k
          · subst hik;simp
          · rw[if_neg hik,if_neg]
            intro e
            rcases Nat.lt_or_gt_of_ne hik with h | h
            · have:=hrf.mono i k h hk;omega
            · have:=hrf.mono k i h hi;omega
        · rw[show K c (pv.getD i 0)=(0-F i c)%p from(if_neg hcp).trans (qnJ hrf pv.length (Nat.le_refl _) i hi),if_neg fun e=>hcp (by rw[e];exact qjd hi),Int.add_emod,Int.emod_emod_of_dvd _ (Int.dvd_refl p),← Int.add_emod,show F i c+(0-F i c)=0 by omega]
      rw[qhH,Int.add_emod,hF0 i hiR,Int.zero_add,Int.emod_emod_of_dvd _ (Int.dvd_refl p),qbo (g:=fun c=>if c=pv.getD i 0 then 1 else 0),qdE (hrf.lt i hi)] at e
      exact e
    · rw[qaZ (d:=fun j=>x.getD j 0) (h:=fun c=>if c=j then 1 else 0) fun c hc=>⟨rfl,by
        by_cases hcp:c∈pv
        · rw[show K c j=0 from if_pos hcp,if_neg fun(e:c=j)=>hjp (by rw[← e];exact hcp)]
        · rw[show K c j=if j=c then 1 else 0 from(if_neg hcp).trans (qfJ hrf hj hjp hc pv.length (Nat.le_refl _))]
          by_cases e:j=c
          · rw[if_pos e,if_pos e.symm]
          · rw[if_neg e,if_neg fun e2=>e e2.symm]⟩,qbo,qdE hj]
end VeT
open Go Go.Proofs Ve
namespace VeT
end VeT
open Go Go.Proofs Ve
namespace VeT
open Classical in
noncomputable def cnt(f:Nat→Prop):Nat→Nat
 | 0=>0
 | n+1=>cnt f n+if f n then 1 else 0
theorem qgU{f g:Nat→Prop}:∀ {n:Nat},(∀ c,c<n→f c→g c)→cnt f n≤cnt g n
 | 0,_=>Nat.le_refl _
 | n+1,h=>by
  have:=qgU (n:=n) fun c hc=>h c (by omega)
  unfold cnt
  by_cases hf:f n
  ·rw[if_pos hf,if_pos (h n (by omega) hf)];omega
  ·rw[if_neg hf];omega
theorem qdg{f g:Nat→Prop}{n:Nat}(h:∀ c,c<n→(f c↔g c)):cnt f n=cnt g n :=
 Nat.le_antisymm (qgU fun c hc=>(h c hc).1) (qgU fun c hc=>(h c hc).2)
theorem qjo{f:Nat→Prop}:∀ {n:Nat},(∀ c,c<n→¬ f c)→cnt f n=0
 | 0,_=>rfl
 | n+1,h=>by
  unfold cnt
  rw[qjo fun c hc=>h c (by omega),if_neg (h n (by omega))]
theorem qlt{f:Nat→Prop}{k:Nat}:∀ {n:Nat},k<n→¬ f k→cnt (fun c=>f c∨c=k) n=cnt f n+1
 | 0,h,_=>by omega
 | n+1,h,hk=>by
  unfold cnt
  by_cases e:k=n
  ·subst e
   have:cnt (fun c=>f c∨c=k) k=cnt f k:=qdg fun c hc=>⟨fun h=>h.elim id fun e=>by omega,.inl⟩
   rw[this,if_pos (.inr rfl),if_neg hk]
  ·rw[qlt (by omega) hk]
   by_cases hf:f n
   ·rw[if_pos (.inl hf),if_pos hf]
   ·rw[if_neg (fun h=>h.elim hf fun e'=>e e'.symm),if_neg hf]
theorem qgX{W:Nat}:∀ {l:List Nat},l.Nodup→(∀ c∈l,c<W)→cnt (fun c=>c∈l) W=l.length
 | [],_,_=>qjo fun c _ h=>by cases h
 | a::l,hn,hl=>by
  obtain⟨h1,h2⟩:=List.nodup_cons.1 hn
  have e:=qgX h2 fun c hc=>hl c (List.mem_cons_of_mem _ hc)
  rw[List.length_cons,← e,← qlt (hl a List.mem_cons_self) h1]
  exact qdg fun c _=>by rw[List.mem_cons];exact Or.comm
def Ld(p:Int)(W:Nat)(V:(Nat→Int)→Prop)(c:Nat):Prop:=c<W∧∃ x,V x∧(∀ j,j<c→x j%p=0)∧x c%p≠0
noncomputable def rkV(p:Int)(W:Nat)(V:(Nat→Int)→Prop):Nat:=cnt (Ld p W V) W
theorem Ld.mono{p:Int}{W:Nat}{V V':(Nat→Int)→Prop}(h:∀ x,V x→V' x){c:Nat}:Ld p W V c→Ld p W V' c:=fun⟨h1,x,hx,h2⟩=>⟨h1,x,h x hx,h2⟩
theorem qj3{p:Int}{W:Nat}{V V':(Nat→Int)→Prop}(h:∀ x,V x↔V' x):rkV p W V=rkV p W V':=qdg fun c _=>⟨Ld.mono fun x=>(h x).1,Ld.mono fun x=>(h x).2⟩
theorem ql4{p:Int}{W:Nat}{V V':(Nat→Int)→Prop}(h:∀ x,V x→V' x):rkV p W V≤rkV p W V':=qgU fun c _=>Ld.mono h
theorem qjJ{p:Int}{c g:Nat→Int}:∀ {n:Nat},(∀ i,i<n→c i*g i%p=0)→qaQ c g n%p=0
 | 0,_=>by simp[qaQ]
 | n+1,h=>by
  rw[show qaQ c g (n+1)=qaQ c g n+c n*g n from rfl,Int.add_emod,qjJ fun i hi=>h i (by omega),h n (by omega)];simp
theorem Rf.nodup{R W:Nat}{F:Ent}{pv:List Nat}(h:Rf R W F pv):pv.Nodup∧∀ c∈pv,c<W:=by
 have hg:∀ i (hi:i<pv.length),pv.getD i 0=pv[i]:=fun i hi=>by rw[List.getD_eq_getElem?_getD,List.getElem?_eq_getElem hi];rfl
 constructor
 ·refine List.pairwise_iff_getElem.2 fun i j hi hj hij=>?_
  have:=h.mono i j hij hj
  rw[hg i hi,hg j hj] at this
  omega
 ·intro c hc
  obtain⟨i,hi,rfl⟩:=List.mem_iff_getElem.1 hc
  have:=h.lt i hi
  rwa [hg i hi] at this
theorem Rf.mem{R W:Nat}{F:Ent}{pv:List Nat}(h:Rf R W F pv){c:Nat}:c∈pv↔∃ i,i<pv.length∧pv.getD i 0=c:=by
 rw[List.mem_iff_getElem]
 constructor
 ·rintro⟨i,hi,rfl⟩;exact⟨i,hi,by rw[List.getD_eq_getElem?_getD,List.getElem?_eq_getElem hi];rfl⟩
 ·rintro⟨i,hi,rfl⟩;exact⟨i,hi,by rw[List.getD_eq_getElem?_getD,List.getElem?_eq_getElem hi];rfl⟩
theorem Rf.coef{p:Int}{R W:Nat}{F:Ent}{pv:List Nat}(h:Rf R W F pv){v:Nat→Int}(hv:Spn p R W F v){j:Nat}(hj:j<W) :
  v j%p=qaQ (fun k=>v (pv.getD k 0)) (fun k=>F k j) pv.length%p:=by
 obtain⟨c,hc⟩:=hv
 have h0:∀ j,j<W→qaQ c (fun i=>F i j) R=qaQ c (fun i=>F i j) pv.length:=fun j hj=>qfA h.len fun i h1 h2=>h.bot i j h1 h2 hj
 have hk:∀ k,k<pv.length→v (pv.getD k 0)%p=c k%p:=fun k hk=>by
  rw[← hc _ (h.lt k hk),h0 _ (h.lt k hk),qbo]
  congr 1
  rw[← qdE (g:=c) hk]
  exact qaZ fun i hi=>⟨h.one i k (Nat.lt_of_lt_of_le hi h.len) hk,rfl⟩
 rw[← hc j hj,h0 j hj,qbo,qbo (c:=fun k=>v (pv.getD k 0))]
 exact qc3 fun i hi=>(hk i hi).symm
theorem Rf.low0{p:Int}{R W:Nat}{F:Ent}{pv:List Nat}(h:Rf R W F pv){v:Nat→Int}(hv:Spn p R W F v){d:Nat}(hd:d<W)(hn:d∉pv)(h0:∀ k,k<pv.length→pv.getD k 0<d→v (pv.getD k 0)%p=0):∀ j,j≤d→v j%p=0:=by
 intro j hj
 rw[h.coef hv (by omega)]
 refine qjJ fun k hk=>?_
 rcases Nat.lt_trichotomy (pv.getD k 0) d with e | e | e
 ·rw[Int.mul_emod,h0 k hk e];simp
 ·exact absurd (h.mem.2 ⟨k,hk,e⟩) hn
 ·rw[h.low k j hk (by omega)];simp
theorem qqz{p:Int}{R W:Nat}{F:Ent}{pv:List Nat}(hp:2≤p)(h:Rf R W F pv){c:Nat}:Ld p W (Spn p R W F) c↔c∈pv:=by
 constructor
 ·rintro⟨hc,x,hx,h1,h2⟩
  refine Classical.byContradiction fun hn=>h2 ?_
  exact h.low0 hx hc hn (fun k hk e=>h1 _ e) c (Nat.le_refl _)
 ·intro hm
  obtain⟨i,hi,rfl⟩:=h.mem.1 hm
  have hiR:=Nat.lt_of_lt_of_le hi h.len
  refine⟨h.lt i hi,F i,Spn.row hiR,fun j hj=>by rw[h.low i j hi hj];simp,?_⟩
  rw[h.one i i hiR hi,if_pos rfl,Int.emod_eq_of_lt (by omega) (by omega)]
  omega
theorem qqx{p:Int}{R W:Nat}{F:Ent}{pv:List Nat}(hp:2≤p)(h:Rf R W F pv):rkV p W (Spn p R W F)=pv.length:=by
 rw[← qgX h.nodup.1 h.nodup.2]
 exact qdg fun c _=>qqz hp h
noncomputable def rk(p:Int)(W:Nat)(rows:List Sim):Nat:=rkV p W (Spn p rows.length W (qcU rows))
theorem Eqv.spn{p:Int}{R W:Nat}{A B:Ent}(h:Eqv p R W A B){x:Nat→Int}:Spn p R W A x↔Spn p R W B x:=⟨fun hx=>Spn.trans h.2 hx,fun hx=>Spn.trans h.1 hx⟩
theorem qhy{p:Int}{R W:Nat}{A:Ent}(hp:Pr p)(hA:EIn p R W A):(elS p R A W).2.length=rkV p W (Spn p R W A):=by
 obtain⟨h1,h2⟩:=qgj hp hA W (Nat.le_refl _)
 rw[← qqx hp.1 h1]
 exact qj3 fun x=>h2.spn.symm
theorem InR.spn{p:Int}{W:Nat}{A B:List Sim}(h:∀ r∈A,InR p W B r){x:Nat→Int}(hx:Spn p A.length W (qcU A) x):Spn p B.length W (qcU B) x :=
 Spn.trans (fun i hi=>by
  have e:qcU A i=fun j=>(A[i]).getD j 0:=by funext j;unfold qcU;rw[qad hi]
  rw[e];exact h _ (List.getElem_mem hi)) hx
theorem qpd{p:Int}{W:Nat}{A B:List Sim}(h:∀ r∈A,InR p W B r):rk p W A≤rk p W B:=ql4 fun x hx=>InR.spn h hx
theorem qnz{p:Int}{W:Nat}{A B:List Sim}(h:∀ r∈A,InR p W B r)(k:∀ r∈B,InR p W A r):rk p W A=rk p W B:=Nat.le_antisymm (qpd h) (qpd k)
theorem qqD{p:Int}{W:Nat}{A:List Sim}(hp:Pr p)(hA:Rws p W A):rk p W A≤A.length:=by
 have:=qhy hp (qee hA)
 have h2:=(qgv hp.1 (qee hA) W).2.1
 unfold rk;omega
theorem qoZ{rows:List Sim}{x:Sim}{i:Nat}(hi:i<rows.length):qcU (rows++[x]) i=qcU rows i:=by
 have:(rows++[x]).getD i []=rows.getD i []:=by rw[List.getD_eq_getElem?_getD,List.getElem?_append_left hi,← List.getD_eq_getElem?_getD]
 funext j
 unfold qcU
 rw[this]
theorem qm2{rows:List Sim}{x:Sim}:qcU (rows++[x]) rows.length=fun j=>x.getD j 0:=by
 have:(rows++[x]).getD rows.length []=x:=by rw[List.getD_eq_getElem?_getD,List.getElem?_append_right (Nat.le_refl _),Nat.sub_self];rfl
 funext j
 unfold qcU
 rw[this]
theorem Spn.app{p:Int}{W:Nat}{rows:List Sim}{x:Sim}{z:Nat→Int}(h:Spn p (rows++[x]).length W (qcU (rows++[x])) z) :
  ∃(a:Int) (v:Nat→Int),Spn p rows.length W (qcU rows) v∧∀ j,j<W→z j%p=(v j+a*x.getD j 0)%p:=by
 obtain⟨c,hc⟩:=h
 refine⟨c rows.length,fun j=>qaQ c (fun i=>qcU rows i j) rows.length,⟨c,fun j _=>rfl⟩,fun j hj=>?_⟩
 rw[← hc j hj,List.length_append,List.length_singleton]
 show(qaQ c _ rows.length+c rows.length*qcU (rows++[x]) rows.length j)%p=_
 rw[qm2,qaZ (d:=c) (h:=fun i=>qcU rows i j) fun i hi=>⟨rfl,by rw[qoZ hi]⟩]
theorem qq5{f:Nat→Prop}{n:Nat}(h:∃ j,j<n∧f j):∃ c,c<n∧f c∧∀ j,j<c→¬ f j:=by
 induction n with
 | zero=>obtain⟨j,hj,_⟩:=h;omega
 | succ n ih =>
  by_cases h2:∃ j,j<n∧f j
  ·obtain⟨c,h3,h4⟩:=ih h2;exact⟨c,by omega,h4⟩
  ·obtain⟨j,hj,hf⟩:=h
   have:j=n:=Classical.byContradiction fun e=>h2 ⟨j,by omega,hf⟩
   subst this
   exact⟨j,by omega,hf,fun k hk hf'=>h2 ⟨k,hk,hf'⟩⟩
theorem qkF{p a b:Int}(hp:Pr p)(ha:a%p≠0)(hb:b%p≠0):a*b%p≠0:=by
 intro h
 have hp2:2≤p:=hp.1
 have a1:=Int.emod_nonneg a (show p≠0 by omega)
 have a2:=Int.emod_lt_of_pos a (show 0<p by omega)
 have hi:=qf7 hp (a:=a%p) (by omega) (by omega)
 apply hb
 have e:b%p=(a%p*qdL (a%p) p)%p*b%p:=by rw[hi,Int.one_mul]
 generalize qdL (a%p) p=q at e
 have h1:a%p*q%p*b%p=a*q*b%p:=qds ((Int.emod_emod_of_dvd _ (Int.dvd_refl p)).trans (qds (Int.emod_emod_of_dvd _ (Int.dvd_refl p)) rfl)) rfl
 rw[e,h1,show a*q*b=q*(a*b) by rw[Int.mul_comm a q,Int.mul_assoc],qds (p:=p) (x:=q) (x':=q) rfl (h.trans (Int.zero_emod p).symm)]
 simp
theorem qpp{p:Int}{W:Nat}{rows:List Sim}{x:Sim}(hp:Pr p)(hr:Rws p W rows)(hx:¬ InR p W rows x):rk p W (rows++[x])=rk p W rows+1:=by
 have hp2:2≤p:=hp.1
 obtain⟨hrf,heq⟩:=qgj hp (qee hr) W (Nat.le_refl _)
 have hrk:=qhy hp (qee hr)
 generalize elS p rows.length (qcU rows) W=S at hrf heq hrk
 obtain⟨F,pv⟩:=S
 simp only at hrf heq hrk
 -- what is left of x
 let s:Nat→Int:=fun j=>qaQ (fun k=>-(x.getD (pv.getD k 0) 0)) (fun k=>F k j) pv.length
 let y:Nat→Int:=fun j=>x.getD j 0+s j
 have hs:Spn p rows.length W (qcU rows) s:=Spn.sum (B:=F) fun i hi=>heq.1 i (Nat.lt_of_lt_of_le hi hrf.len)
 have hyp:∀ k,k<pv.length→y (pv.getD k 0)=0:=fun k hk=>by
  show x.getD (pv.getD k 0) 0+s (pv.getD k 0)=0
  have:s (pv.getD k 0)=-(x.getD (pv.getD k 0) 0):=by
   show qaQ _ _ _=_
   rw[qbo,← qdE (g:=fun k=>-(x.getD (pv.getD k 0) 0)) hk]
   exact qaZ fun i hi=>⟨hrf.one i k (Nat.lt_of_lt_of_le hi hrf.len) hk,rfl⟩
  omega
 have hne:∃ j,j<W∧y j%p≠0:=Classical.byContradiction fun hn=>hx <| by
  refine(hs.smul (-1)).congr fun j hj=>?_
  have hy0:y j%p=0:=Classical.byContradiction fun h=>hn ⟨j,hj,h⟩
  have:x.getD j 0=-1*s j+y j:=by show _=_+(_+_);omega
  rw[this,Int.add_emod,hy0,Int.add_zero,Int.emod_emod_of_dvd _ (Int.dvd_refl p)]
 obtain⟨c,hc,hyc,hcl⟩:=qq5 hne
 have hcl:∀ j,j<c→y j%p=0:=fun j hj=>Classical.byContradiction (hcl j hj)
 have hcn:c∉pv:=fun hm=>by
  obtain⟨k,hk,rfl⟩:=hrf.mem.1 hm
  exact hyc (by rw[hyp k hk];simp)
 have hxs:Spn p (rows++[x]).length W (qcU (rows++[x])) (fun j=>x.getD j 0):=InR.mem (List.mem_append.2 (.inr (List.mem_singleton.2 rfl)))
 have hup:∀ z,Spn p rows.length W (qcU rows) z→Spn p (rows++[x]).length W (qcU (rows++[x])) z:=fun z hz=>InR.spn (fun r hr=>InR.mem (List.mem_append.2 (.inl hr))) hz
 have hmain:∀ d,d<W→(Ld p W (Spn p (rows++[x]).length W (qcU (rows++[x]))) d↔d∈pv∨d=c):=fun d hd=>by
  constructor
  ·rintro⟨_,z,hz,z1,z2⟩
   refine Classical.byContradiction fun hn=>?_
   have hdn:d∉pv:=fun h=>hn (.inl h)
   have hdc:d≠c:=fun h=>hn (.inr h)
   obtain⟨a,v0,hv0,hzv⟩:=Spn.app hz
   -- z = v + a y
   let v:Nat→Int:=fun j=>v0 j+(-a)*s j
   have hv:Spn p rows.length W F v:=heq.spn.1 (hv0.add (hs.smul (-a)))
   have hzy:∀ j,j<W→z j%p=(v j+a*y j)%p:=fun j hj=>by
    rw[hzv j hj]
    congr 1
    show _=v0 j+-a*s j+a*(x.getD j 0+s j)
    rw[Int.mul_add,Int.neg_mul];omega
   have hv0':∀ k,k<pv.length→pv.getD k 0<d→v (pv.getD k 0)%p=0:=fun k hk hkd=>by
    have:=hzy _ (hrf.lt k hk)
    rw[hyp k hk,Int.mul_zero,Int.add_zero,z1 _ hkd] at this
    exact this.symm
   have hvl:=hrf.low0 hv hd hdn hv0'
   have hza:∀ j,j≤d→z j%p=a*y j%p:=fun j hj=>by
    rw[hzy j (by omega),Int.add_emod,hvl j hj,Int.zero_add,Int.emod_emod_of_dvd _ (Int.dvd_refl p)]
   have hyd:y d%p≠0:=fun h=>z2 (by rw[hza d (Nat.le_refl _),Int.mul_emod,h];simp)
   have ha:a%p≠0:=fun h=>z2 (by rw[hza d (Nat.le_refl _),Int.mul_emod,h];simp)
   have hcd:c<d:=by
    rcases Nat.lt_trichotomy c d with h | h | h
    ·exact h
    ·exact absurd h.symm hdc
    ·exact absurd (hcl d h) hyd
   have:=z1 c hcd
   rw[hza c (by omega)] at this
   exact qkF hp ha hyc this
  ·rintro(hm | rfl)
   ·obtain⟨h1,z,hz,h2⟩:=(qqz hp2 hrf).2 hm
    exact⟨h1,z,hup z (heq.spn.2 hz),h2⟩
   ·exact⟨hd,y,hxs.add (hup s hs),hcl,hyc⟩
 unfold rk rkV
 rw[qdg hmain,qlt hc hcn,qgX hrf.nodup.1 hrf.nodup.2,hrk]
 rfl
theorem qnp{p:Int}{W:Nat}(hp:Pr p):∀ {l h:List Sim},Rws p W h→Rws p W l→rk p W (h++l)=rk p W h+(qnT p W h l).length
 | [],h,_,_=>by simp[qnT]
 | x::xs,h,hh,hl=>by
  have hx:=hl x List.mem_cons_self
  have hxs:Rws p W xs:=fun r hr=>hl r (List.mem_cons_of_mem _ hr)
  have hhx:Rws p W (h++[x]):=fun r hr=>by
   rcases List.mem_append.1 hr with hr | hr
   ·exact hh r hr
   ·rw[List.mem_singleton] at hr;subst hr;exact hx
  unfold qnT
  by_cases hin:InR p W h x
  ·rw[if_pos hin,← qnp hp hh hxs]
   refine qnz (fun r hr=>?_) fun r hr=>?_
   ·rcases List.mem_append.1 hr with hr | hr
    ·exact InR.mem (List.mem_append.2 (.inl hr))
    ·rcases List.mem_cons.1 hr with rfl | hr
     ·exact InR.trans (fun r hr=>InR.mem (List.mem_append.2 (.inl hr))) hin
     ·exact InR.mem (List.mem_append.2 (.inr hr))
   ·rcases List.mem_append.1 hr with hr | hr
    ·exact InR.mem (List.mem_append.2 (.inl hr))
    ·exact InR.mem (List.mem_append.2 (.inr (List.mem_cons_of_mem _ hr)))
  ·rw[if_neg hin,List.length_cons,show h++x::xs=(h++[x])++xs by simp,qnp hp hhx hxs,qpp hp hh hin]
   omega
end VeT
open Go Go.Proofs Ve
namespace VeT
theorem Spn.nil_at{p:Int}{R W:Nat}{A:Ent}{x:Nat→Int}{j:Nat}(hj:j<W)(h:∀ i,i<R→A i j=0)(hx:Spn p R W A x):x j%p=0:=by
 obtain⟨c,hc⟩:=hx
 rw[← hc j hj]
 exact qjJ fun i hi=>by rw[h i hi,Int.mul_zero];simp
theorem qm6{p:Int}{R W:Nat}{pv:List Nat}{F:Ent}(hrf:Rf R W F pv){n j:Nat}(hj:j<W)(hjp:j∉pv)(hn:n≤j):∀ x∈qid p W pv F n,x.getD j 0=0:=by
 induction n with
 | zero=>intro x hx;cases hx
 | succ n ih =>
  intro x hx
  rw[qid,List.mem_append] at hx
  rcases hx with hx | hx
  ·exact ih (by omega) x hx
  ·split at hx
   ·cases hx
   ·rw[List.mem_singleton] at hx
    subst hx
    rw[qfJ hrf hj hjp (by omega) _ (Nat.le_refl _),if_neg (by omega)]
theorem qon{p:Int}{R W:Nat}{pv:List Nat}{F:Ent}(hp:Pr p)(hrf:Rf R W F pv){n:Nat}(hn:n<W)(hnp:n∉pv):¬ InR p W (qid p W pv F n) (qmN p W pv F n pv.length):=fun h=>by
 have hp2:2≤p:=hp.1
 have h0:=Spn.nil_at hn (fun i hi=>by
  unfold qcU
  rw[qad hi]
  exact qm6 hrf hn hnp (Nat.le_refl _) _ (List.getElem_mem hi)) h
 rw[qfJ hrf hn hnp hn _ (Nat.le_refl _),if_pos rfl,Int.emod_eq_of_lt (by omega) (by omega)] at h0
 omega
theorem qn0{p:Int}{R W:Nat}{pv:List Nat}{F:Ent}(hp:Pr p)(hrf:Rf R W F pv):∀ {n:Nat},n≤W→rk p W (qid p W pv F n)=(qid p W pv F n).length∧(qid p W pv F n).length+cnt (fun c=>c∈pv) n=n
 | 0,_=>by
  refine⟨?_,rfl⟩
  have:=qqD (W:=W) hp (A:=qid p W pv F 0) (fun x hx=>by cases hx)
  exact Nat.le_antisymm this (Nat.zero_le _)
 | n+1,hn=>by
  obtain⟨h1,h2⟩:=qn0 hp hrf (n:=n) (by omega)
  have hr:Rws p W (qid p W pv F n):=fun x hx=>qgQ hp.1 hx
  unfold cnt
  rw[qid]
  by_cases h:n∈pv
  ·rw[if_pos h,if_pos h,List.append_nil]
   exact⟨h1,by omega⟩
  ·rw[if_neg h,if_neg h,qpp hp hr (qon hp hrf (by omega) h),List.length_append,List.length_singleton]
   exact⟨by omega,by omega⟩
noncomputable def rkM(p:Int)(R W:Nat)(cells:Sim):Nat:=(elS p R (qfP cells W) W).2.length
theorem qpv{p:Int}{R W:Nat}{cells:Sim}(hp:Pr p)(hl:cells.length=R*W)(he:qbl cells p):rk p W (qlk p R W cells)=(qlk p R W cells).length∧(qlk p R W cells).length+rkM p R W cells=W:=by
 obtain⟨hrf,_⟩:=qgj hp (qdC he hl) W (Nat.le_refl _)
 obtain⟨h1,h2⟩:=qn0 hp hrf (Nat.le_refl W)
 rw[qgX hrf.nodup.1 hrf.nodup.2] at h2
 exact⟨h1,h2⟩
theorem qiF{A:Ent}{R W i j:Nat}(hi:i<R)(hj:j<W):qcU (qaA A R W) i j=A i j:=by
 unfold qcU
 rw[List.getD_eq_getElem?_getD (l:=qaA A R W),qa8 hi]
 show((List.range W).map (A i)).getD j 0=_
 rw[List.getD_eq_getElem?_getD,qfb hj];rfl
theorem Spn.ent{p:Int}{R W:Nat}{A B:Ent}(h:∀ i j,i<R→j<W→A i j=B i j){x:Nat→Int}(hx:Spn p R W A x):Spn p R W B x:=by
 obtain⟨c,hc⟩:=hx
 exact⟨c,fun j hj=>(by rw[← hc j hj];congr 1;exact qaZ fun i hi=>⟨rfl,(h i j hi hj).symm⟩)⟩
theorem qmf{p:Int}{R W:Nat}{A:Ent}:rk p W (qaA A R W)=rkV p W (Spn p R W A):=by
 unfold rk
 rw[qay]
 exact qj3 fun x=>⟨Spn.ent fun i j hi hj=>qiF hi hj,Spn.ent fun i j hi hj=>(qiF hi hj).symm⟩
theorem qnD{p:Int}{R W:Nat}{A:Ent}(hA:EIn p R W A):Rws p W (qaA A R W):=fun x hx=>by
 obtain⟨i,hi,rfl⟩:=List.mem_map.1 hx
 refine⟨by simp,fun y hy=>?_⟩
 obtain⟨j,hj,rfl⟩:=List.mem_map.1 hy
 exact hA i j (List.mem_range.1 hi) (List.mem_range.1 hj)
theorem qix{p:Int}{R W:Nat}{A:Ent}(hp:Pr p)(hA:EIn p R W A):rkV p R (Spn p W R fun j i=>A i j)≤rkV p W (Spn p R W A):=by
 obtain⟨hrf,heq⟩:=qgj hp hA W (Nat.le_refl _)
 have hrk:=qhy hp hA
 generalize elS p R A W=S at hrf heq hrk
 obtain⟨F,pv⟩:=S
 simp only at hrf heq hrk
 rw[← hrk]
 let B:Ent:=fun k i=>A i (pv.getD k 0)
 have hB:EIn p pv.length R B:=fun k i hk hi=>hA i _ hi (hrf.lt k hk)
 have h1:rkV p R (Spn p W R fun j i=>A i j)≤rkV p R (Spn p pv.length R B):=ql4 fun x hx=>by
  refine Spn.trans (B:=fun j i=>A i j) (R':=W) (fun j hj=>⟨fun k=>F k j,fun i hi=>?_⟩) hx
  have:=hrf.coef (heq.1 i hi |> fun _=>heq.spn.1 (Spn.row hi)) hj
  show qaQ (fun k=>F k j) (fun k=>A i (pv.getD k 0)) pv.length%p=A i j%p
  rw[this,qbo]
 have h2:=qqD hp (qnD hB)
 rw[qmf,qay] at h2
 omega
theorem qpQ{p:Int}{R W:Nat}{A:Ent}(hp:Pr p)(hA:EIn p R W A):rkV p R (Spn p W R fun j i=>A i j)=rkV p W (Spn p R W A) :=
 Nat.le_antisymm (qix hp hA) (qix (A:=fun j i=>A i j) hp fun i j hi hj=>hA j i hj hi)
theorem qoK{p:Int}{W C:Nat}{cells:Sim}(hp:Pr p)(hl:cells.length=W*C)(he:qbl cells p):rk p W (qb1 W C cells)=rkM p W C cells:=by
 have hA:=qdC he hl
 have e:qb1 W C cells=qaA (fun j i=>qfP cells C i j) C W:=rfl
 rw[e,qmf,qpQ hp hA]
 exact(qhy hp hA).symm
theorem qpI{p:Int}{W C R:Nat}{cb ck:Sim}(hp:Pr p)(hl:cb.length=W*C)(he:qbl cb p)(hlk:ck.length=R*W)(hek:qbl ck p)
  (h0:∀ j,j<C→∀ i,i<R→qaQ (fun a=>qfP cb C a j) (qfP ck W i) W%p=0) :
  (qnT p W (qb1 W C cb) (qlk p R W ck)).length+rkM p W C cb+rkM p R W ck=W:=by
 have hcr:=(qiJ hl he).2.2
 have hkr:Rws p W (qlk p R W ck):=fun x hx=>qgQ hp.1 hx
 have h1:=qnp hp (l:=qlk p R W ck) hcr hkr
 have h2:rk p W (qb1 W C cb++qlk p R W ck)=rk p W (qlk p R W ck):=qnz (fun r hr=>by
  rcases List.mem_append.1 hr with hr | hr
  ·obtain⟨j,hj,rfl⟩:=List.mem_map.1 hr
   have hj:=List.mem_range.1 hj
   refine qn2 hp hlk hek fun i hi=>?_
   refine Eq.trans (congrArg (·%p) (qaZ fun a ha=>⟨?_,rfl⟩)) (h0 j hj i hi)
   show((List.range W).map fun a=>cb.getD (a*C+j) 0).getD a 0=cb.getD (a*C+j) 0
   rw[List.getD_eq_getElem?_getD,List.getElem?_map,List.getElem?_range ha];rfl
  ·exact InR.mem hr) fun r hr=>InR.mem (List.mem_append.2 (.inr hr))
 have h3:=qoK hp hl he
 obtain⟨h4,h5⟩:=qpv hp hlk hek
 omega
end VeT
open Go Go.Proofs Ve
namespace VeT
def sN(f:Nat→Int):Nat→Int
 | 0=>0
 | n+1=>sN f n+f n
theorem qeK{c g:Nat→Int}:∀ {n:Nat},qaQ c g n=sN (fun i=>c i*g i) n
 | 0=>rfl
 | n+1=>by show qaQ c g n+c n*g n=_;rw[qeK];rfl
theorem qep{f g:Nat→Int}:∀ {n:Nat},(∀ i,i<n→f i=g i)→sN f n=sN g n
 | 0,_=>rfl
 | n+1,h=>by unfold sN;rw[qep fun i hi=>h i (by omega),h n (by omega)]
theorem qeh{f:Nat→Int}:∀ {n:Nat},(∀ i,i<n→f i=0)→sN f n=0
 | 0,_=>rfl
 | n+1,h=>by unfold sN;rw[qeh fun i hi=>h i (by omega),h n (by omega)];rfl
theorem qpk{f g:Nat→Int}:∀ {n:Nat},sN (fun i=>f i+g i) n=sN f n+sN g n
 | 0=>rfl
 | n+1=>by unfold sN;rw[qpk];omega
theorem qjF{f:Nat→Int}{m:Nat}:∀ {n:Nat},sN f (m+n)=sN f m+sN (fun i=>f (m+i)) n
 | 0=>by simp[sN]
 | n+1=>by
  show sN f (m+n)+f (m+n)=sN f m+(sN (fun i=>f (m+i)) n+f (m+n))
  rw[qjF];omega
theorem qnB{f:Nat→Nat→Int}{W:Nat}:∀ {N:Nat},sN (fun a=>sN (fun t=>f a t) N) W=sN (fun t=>sN (fun a=>f a t) W) N
 | 0=>qeh fun _ _=>rfl
 | N+1=>by
  have:sN (fun a=>sN (fun t=>f a t) (N+1)) W=sN (fun a=>sN (fun t=>f a t) N+f a N) W:=rfl
  rw[this,qpk,qnB];rfl
theorem qlK{p:Int}{f g:Nat→Int}:∀ {n:Nat},(∀ i,i<n→f i%p=g i%p)→sN f n%p=sN g n%p
 | 0,_=>rfl
 | n+1,h=>by unfold sN;rw[Int.add_emod,qlK fun i hi=>h i (by omega),h n (by omega),← Int.add_emod]
theorem qph{f:Nat→Int}{k:Int}:∀ {n:Nat},sN (fun i=>k*f i) n=k*sN f n
 | 0=>by simp[sN]
 | n+1=>by unfold sN;rw[qph,Int.mul_add]
theorem qoy{f:Nat→Int}{L n W:Nat}(hW:L+n≤W)(h:∀ i,i<W→¬ (L≤i∧i<L+n)→f i=0):sN f W=sN (fun b=>f (L+b)) n:=by
 obtain⟨r,rfl⟩:∃ r,W=L+n+r:=⟨W-(L+n),by omega⟩
 rw[qjF,qjF,qeh (n:=L) fun i hi=>h i (by omega) (by omega),qeh (n:=r) fun i hi=>h _ (by omega) (by omega)]
 omega
theorem qnZ{P:Nat→Prop}[DecidablePred P]{v:Int}{u:Nat}:∀ {N:Nat},u<N→P u→(∀ t,t<N→P t→t=u)→sN (fun t=>if P t then v else 0) N=v
 | 0,hu,_,_=>by omega
 | N+1,hu,hp,h=>by
  show sN (fun t=>if P t then v else 0) N+(if P N then v else 0)=v
  by_cases hN:u=N
  ·subst hN
   rw[if_pos hp,qeh fun t ht=>if_neg fun hpt=>by have:=h t (by omega) hpt;omega];omega
  ·rw[qnZ (u:=u) (by omega) hp fun t ht=>h t (by omega),if_neg fun hpt=>hN (h N (by omega) hpt).symm];omega
theorem qoo{f:Nat→Int}{L n:Nat→Nat}{N W:Nat}(hW:∀ t,t<N→L t+n t≤W)(hd:∀ t u i,t<N→u<N→L t≤i→i<L t+n t→L u≤i→i<L u+n u→t=u)
  (h0:∀ i,i<W→(∀ t,t<N→¬ (L t≤i∧i<L t+n t))→f i=0):sN f W=sN (fun t=>sN (fun b=>f (L t+b)) (n t)) N:=by
 classical
 have e:sN f W=sN (fun a=>sN (fun t=>if L t≤a∧a<L t+n t then f a else 0) N) W:=qep fun a ha=>by
  by_cases he:∃ t,t<N∧(L t≤a∧a<L t+n t)
  ·obtain⟨u,hu,hau⟩:=he
   exact(qnZ hu hau fun t ht hat=>hd t u a ht hu hat.1 hat.2 hau.1 hau.2).symm
  ·rw[h0 a ha fun t ht h=>he ⟨t,ht,h⟩]
   exact(qeh fun t ht=>by split<;>rfl).symm
 rw[e,qnB]
 refine qep fun t ht=>?_
 rw[qoy (hW t ht) fun i _ h=>if_neg h]
 exact qep fun b hb=>if_pos ⟨by omega,by omega⟩
theorem qk4{c:List Sim}{st:Sim}(hst:∀ x∈st,0≤x∧x≤3){d:Int}{r:Nat}:∀ {n:Nat},r<(SDn c st d n).toNat→∃ s,s<n∧((c.getD s []).length:Int)=d+1∧∃ i,i<(st.getD s 0).toNat∧r=(FC c st s).toNat+i
 | 0,h=>by simp[SDn,qaq] at h
 | n+1,h=>by
  have h1:=qk0 (c:=c) (d:=d) hst (n:=n)
  have h2:=qmm hst n
  by_cases hr:r<(SDn c st d n).toNat
  ·obtain⟨s,hs,h3⟩:=qk4 hst hr;exact⟨s,by omega,h3⟩
  ·rw[qeu] at h
   split at h
   ·rename_i hd
    have e:FC c st n=SDn c st d n:=by unfold FC;rw[show((c.getD n []).length:Int)-1=d by omega]
    exact⟨n,by omega,hd,r-(SDn c st d n).toNat,by omega,by rw[e];omega⟩
   ·omega
theorem qle{c:List Sim}(h:VC c){a b:Nat}(ha:a<c.length)(hb:b<c.length)(e:c.getD a []=c.getD b []):a=b:=by
 have key:∀ {a b:Nat},a<b→b<c.length→c.getD a []=c.getD b []→False:=fun {a b} hab hb e=>by
  have:=h.srt a b hb hab
  rw[qad (by omega),qad hb] at e
  rw[e,qca.2 rfl] at this
  omega
 rcases Nat.lt_trichotomy a b with h | h | h
 ·exact absurd e fun e=>key h hb e
 ·exact h
 ·exact absurd e.symm fun e=>key h ha e
theorem qq1{c:List Sim}{p:Int}{st:Sim}{ms:List Mat}{k i j:Nat}(hij:i<j)(h1:Sq c p st ms k i (j-1))(h2:Sq c p st ms k j i):fc c (fc c k i) (j-1)=fc c (fc c k j) i:=by
 have a:=qbf h1.v.1 h1.fk h1.hj
 have b:=qbf h2.v.1 h2.fk h2.hj
 refine qle h1.v.1 a.2.1 b.2.1 ?_
 rw[a.2.2,b.2.2,(qbf h1.v.1 h1.kl h1.hi).2.2,(qbf h2.v.1 h2.kl h2.hi).2.2]
 exact(qeR hij).symm
noncomputable def qls(c:List Sim)(p:Int)(st:Sim)(ms:List Mat)(s i g t u:Nat):Int :=
 if (FC c st (fc c (fc c s t) u)).toNat≤g∧g<(FC c st (fc c (fc c s t) u)).toNat+(st.getD (fc c (fc c s t) u) 0).toNat then
  sgn p t*sgn p u*qaQ (fun b=>(mp c ms s t).2.2.2.1.getD (i*(mp c ms s t).2.2.1.toNat+b) 0) (fun b=>(mp c ms (fc c s t) u).2.2.2.1.getD (b*(mp c ms (fc c s t) u).2.2.1.toNat+(g-(FC c st (fc c (fc c s t) u)).toNat)) 0) (mp c ms s t).2.2.1.toNat
 else 0
theorem qoJ{x a y b p:Int}:(x*a%p)*(y*b%p)%p=b*a*(y*x)%p:=by
 rw[← Int.mul_emod]
 congr 1
 rw[Int.mul_assoc,Int.mul_comm b a,Int.mul_assoc,Int.mul_left_comm]
 congr 1
 rw[Int.mul_comm y b,Int.mul_left_comm x b,Int.mul_comm x y]
theorem qmq{c:List Sim}{ms:List Mat}(h:qcf c ms=none){k i j:Nat}(hk:k<c.length)(h3:3≤(c.getD k []).length)(hij:i<j)(hj:j<(c.getD k []).length):two c ms k i (j-1)=two c ms k j i:=Classical.byContradiction fun hne=>by
 have hpi:Pi c ms k i:=⟨j,by omega,by omega,hne⟩
 have hpk:Pk c ms k:=⟨h3,i,by omega,by omega,hpi⟩
 have:=qg9 h (fun _ _ _=>some ⟨.nil,()⟩) none
 obtain⟨k',h1⟩:=qcJ (P:=Pk c ms) (a:=0) (d:=c.length) ⟨k,by omega,by omega,hpk⟩
 unfold qcf at h
 rw[h1] at h
 simp only[Option.bind_some] at h
 obtain⟨i',h2⟩:=qcJ (qaJ h1).2.2.2
 rw[h2] at h
 simp only[Option.bind_some] at h
 obtain⟨j',h3⟩:=qcJ (qaJ h2).2.2
 rw[h3] at h
 cases h
theorem qoO{c:List Sim}{p:Int}{st:Sim}{ms:List Mat}(h:VS c p st ms)(hw:qcf c ms=none){s i g a b:Nat}(hs:s<c.length)(h3:3≤(c.getD s []).length)(hi:i<(st.getD s 0).toNat)(hab:a<b)(hb:b<(c.getD s []).length) :
  (qls c p st ms s i g a (b-1)+qls c p st ms s i g b a)%p=0:=by
 have s1:Sq c p st ms s a (b-1):=⟨hs,h3,by omega,by omega,h⟩
 have s2:Sq c p st ms s b a:=⟨hs,h3,by omega,by omega,h⟩
 have e:=qq1 hab s1 s2
 have ht:=qmq hw hs h3 hab hb
 have hp:2≤p:=h.2.1.1
 unfold qls
 rw[e]
 split
 ·rename_i hg
  obtain⟨R1,K1,em1,hR1,hK1,_⟩:=s1.b1.nat
  have m1:=(h.map s1.kl s1.hi).2
  have m2:=(h.map s2.kl s2.hi).2
  have n1:=(h.map s1.fk s1.hj).2
  have n2:=(h.map s2.fk s2.hj).2
  rw[e] at n1
  have hc:=congrArg (fun m:Mat=>m.2.2.2.1) ht
  unfold two qpA at hc
  simp only at hc
  rw[m1.2.1,m2.2.1,n1.2.2.2,n2.2.2.2,m1.2.2.1,m2.2.2.1] at hc
  generalize hG:g-(FC c st (fc c (fc c s b) a)).toNat=g' at *
  have hg':g'<(st.getD (fc c (fc c s b) a) 0).toNat:=by omega
  have b1:=s1.b1.2.1
  rw[m1.2.2.1] at b1
  have b2:=s1.b2.2.2.1
  rw[n1.2.2.2] at b2
  have hRC:=qfK (R:=(st.getD s 0).toNat) (C:=(st.getD (fc c (fc c s b) a) 0).toNat) (by omega) (by omega)
  have f1:=(qn4 (A:=qoc p (mp c ms s a).2.2.2.1 (mp c ms (fc c s a) (b-1)).2.2.2.1 (mp c ms s a).2.2.1.toNat (st.getD (fc c (fc c s b) a) 0).toNat) hi hg' (by omega)).2
  have f2:=(qn4 (A:=qoc p (mp c ms s b).2.2.2.1 (mp c ms (fc c s b) a).2.2.2.1 (mp c ms s b).2.2.1.toNat (st.getD (fc c (fc c s b) a) 0).toNat) hi hg' (by omega)).2
  rw[hc,f2] at f1
  have f1:=Option.some.inj f1
  unfold qoc at f1
  rw[n1.2.2.2,n2.2.2.2]
  generalize qaQ (fun l=>(mp c ms s a).2.2.2.1.getD (i*(mp c ms s a).2.2.1.toNat+l) 0) _ _=S1 at f1 ⊢
  generalize qaQ (fun l=>(mp c ms s b).2.2.2.1.getD (i*(mp c ms s b).2.2.1.toNat+l) 0) _ _=S2 at f1 ⊢
  have hx:sgn p a*sgn p (b-1)*S1+sgn p b*sgn p a*S2=sgn p a*(sgn p (b-1)*S1+sgn p b*S2):=by
   rw[Int.mul_add,Int.mul_assoc,Int.mul_comm (sgn p b) (sgn p a),Int.mul_assoc]
  rw[hx,Int.mul_emod]
  have hz:(sgn p (b-1)*S1+sgn p b*S2)%p=0:=by
   unfold sgn
   by_cases hpar:b%2=0
   ·rw[if_neg (by omega),if_pos hpar,Int.one_mul,Int.sub_mul,Int.one_mul]
    rw[show p*S1-S1+S2=p*S1+(S2-S1) by omega,Int.mul_add_emod_self_left]
    rw[Int.sub_emod,f1];simp
   ·rw[if_pos (by omega),if_neg hpar,Int.one_mul,Int.sub_mul,Int.one_mul]
    rw[show S1+(p*S2-S2)=p*S2+(S1-S2) by omega,Int.mul_add_emod_self_left]
    rw[Int.sub_emod,f1];simp
  rw[hz];simp
 ·simp
theorem qpU{a b p:Int}(ha:a%p=0)(hb:b%p=0):(a+b)%p=0:=by rw[Int.add_emod,ha,hb];simp
theorem qo3{c:List Sim}{p:Int}{st:Sim}{ms:List Mat}(h:VS c p st ms){k:Int}(hk:1≤k){s i g t:Nat}(hs:s<c.length)(hd:((c.getD s []).length:Int)=k+2)(ht:t<(qaK c s).length)
    (hi:i<(st.getD s 0).toNat) (hg:g<(SD c st (k-1)).toNat) :
    sN (fun b=>(qdW c p st ms (k-1)).getD (((FC c st (fc c s t)).toNat+b)*(SD c st (k-1)).toNat+g) 0*(qdW c p st ms k).getD (((FC c st s).toNat+i)*(SD c st k).toNat+((FC c st (fc c s t)).toNat+b)) 0) (st.getD (fc c s t) 0).toNat%p
      = sN (qls c p st ms s i g t) (qaK c (fc c s t)).length%p:=by
  have hst:=h.2.2.1.2.1
  obtain⟨g1,g2,g3,g4,g5,g6,g7⟩:=qcL h hs hd ht
  have hdf:((c.getD (fc c s t) []).length:Int)=(k-1)+2:=by omega
  have hck:∀ b,b<(st.getD (fc c s t) 0).toNat→(qdW c p st ms k).getD (((FC c st s).toNat+i)*(SD c st k).toNat+((FC c st (fc c s t)).toNat+b)) 0=(mp c ms s t).2.2.2.1.getD (i*(mp c ms s t).2.2.1.toNat+b) 0*sgn p t%p:=fun b hb=>qhZ h (by omega) hs hd ht hi hb
  by_cases he:∃ u,u<(qaK c (fc c s t)).length∧((FC c st (fc c (fc c s t) u)).toNat≤g∧g<(FC c st (fc c (fc c s t) u)).toNat+(st.getD (fc c (fc c s t) u) 0).toNat)
  · obtain⟨u,hu,hgu⟩:=he
    have huniq:∀ v,v<(qaK c (fc c s t)).length→((FC c st (fc c (fc c s t) v)).toNat≤g∧g<(FC c st (fc c (fc c s t) v)).toNat+(st.getD (fc c (fc c s t) v) 0).toNat)→v=u:=fun v hv hgv=>by
      obtain⟨_,_,w3,w4,_⟩:=qcL h g3 hdf hv
      obtain⟨_,_,z3,z4,_⟩:=qcL h g3 hdf hu
      obtain⟨e,_⟩:=qf4 (c:=c) (s:=fc c (fc c s t) v) (s':=fc c (fc c s t) u) (i:=g-(FC c st (fc c (fc c s t) v)).toNat) (i':=g-(FC c st (fc c (fc c s t) u)).toNat) hst (by omega) (by omega) (by omega) (by omega)
      exact qm4 h.1 g3 hv hu e
    have hR:sN (qls c p st ms s i g t) (qaK c (fc c s t)).length=qls c p st ms s i g t u:=by
      classical
      have:sN (qls c p st ms s i g t) (qaK c (fc c s t)).length=sN (fun v=>if v=u then qls c p st ms s i g t u else 0) (qaK c (fc c s t)).length:=qep fun v hv=>by
        by_cases e:v=u
        · subst e;rw[if_pos rfl]
        · rw[if_neg e]
          unfold qls
          exact if_neg fun hgv=>e (huniq v hv hgv)
      rw[this];exact qnZ hu rfl fun t _ e=>e
    rw[hR]
    unfold qls
    rw[if_pos hgu,g2,qeK,← qph]
    refine qlK fun b hb=>?_
    have hcb:=qhZ h (k:=k-1) (by omega) g3 hdf hu (i:=b) (j:=g-(FC c st (fc c (fc c s t) u)).toNat) hb (by omega)
    rw[show(FC c st (fc c (fc c s t) u)).toNat+(g-(FC c st (fc c (fc c s t) u)).toNat)=g by omega] at hcb
    rw[hcb,hck b hb,qoJ]
    rw[g2]
  · have h1:sN (qls c p st ms s i g t) (qaK c (fc c s t)).length=0:=qeh fun u hu=>by
      unfold qls
      exact if_neg fun hgu=>he ⟨u,hu,hgu⟩
    rw[h1]
    rw[qeh fun b hb=>by
      rw[qfE h (k:=k-1) g3 hdf hb hg fun u hu hgu=>he ⟨u,hu,hgu⟩,Int.zero_mul]]
theorem qpT{c:List Sim}{p:Int}{st:Sim}{ms:List Mat}(h:VS c p st ms)(hw:qcf c ms=none){k:Int}(hk:1≤k){r g:Nat}(hr:r<(SD c st (k+1)).toNat)(hg:g<(SD c st (k-1)).toNat) :
    qaQ (fun a=>(qdW c p st ms (k-1)).getD (a*(SD c st (k-1)).toNat+g) 0) (fun a=>(qdW c p st ms k).getD (r*(SD c st k).toNat+a) 0) (SD c st k).toNat%p=0:=by
  have hst:=h.2.2.1.2.1
  rw[qmp] at hr
  obtain⟨s,hs,hd,i,hi,rfl⟩:=qk4 hst hr
  have hd:((c.getD s []).length:Int)=k+2:=by omega
  have hfl:=qaB (c:=c) (k:=s)
  rw[if_pos (by omega)] at hfl
  have h4:=h.1.len4 hs
  rw[qeK,qoo (L:=fun t=>(FC c st (fc c s t)).toNat) (n:=fun t=>(st.getD (fc c s t) 0).toNat) (N:=(qaK c s).length) (fun t ht=>by
      obtain⟨g1,g2,g3,g4,g5,g6,g7⟩:=qcL h hs hd ht
      show(FC c st (fc c s t)).toNat+(st.getD (fc c s t) 0).toNat≤_
      have:=qmm hst (fc c s t)
      omega) (fun t u a ht hu h1 h2 h3 h4=>by
      obtain⟨_,_,w3,w4,_⟩:=qcL h hs hd ht
      obtain⟨_,_,z3,z4,_⟩:=qcL h hs hd hu
      obtain⟨e,_⟩:=qf4 (c:=c) (s:=fc c s t) (s':=fc c s u) (i:=a-(FC c st (fc c s t)).toNat) (i':=a-(FC c st (fc c s u)).toNat) hst (by omega) (by omega) (by omega) (by omega)
      exact qm4 h.1 hs ht hu e) (fun a ha hno=>by
      rw[qfE h hs hd hi ha hno,Int.mul_zero])]
  have e1:sN (fun t=>sN (fun b=>(qdW c p st ms (k-1)).getD (((FC c st (fc c s t)).toNat+b)*(SD c st (k-1)).toNat+g) 0*(qdW c p st ms k).getD (((FC c st s).toNat+i)*(SD c st k).toNat+((FC c st (fc c s t)).toNat+b)) 0) (st.getD (fc c s t) 0).toNat) (qaK c s).length%p
      = sN (fun t=>sN (qls c p st ms s i g t) ((c.getD s []).length-1)) (qaK c s).length%p:=qlK fun t ht=>by
    rw[qo3 h hk hs hd ht hi hg]
    obtain⟨g1,g2,g3,g4,g5,g6,g7⟩:=qcL h hs hd ht
    have hfl2:=qaB (c:=c) (k:=fc c s t)
    rw[if_pos (by omega)] at hfl2
    rw[hfl2,show(c.getD (fc c s t) []).length=(c.getD s []).length-1 by omega]
  refine e1.trans ?_
  rw[hfl]
  have pr:∀ a b,a<b→b<(c.getD s []).length→(qls c p st ms s i g a (b-1)+qls c p st ms s i g b a)%p=0:=fun a b hab hb=>qoO h hw hs (by omega) hi hab hb
  rcases(show(c.getD s []).length=3∨(c.getD s []).length=4 by omega) with e | e
  · rw[e] at pr ⊢
    have p1:=pr 0 1 (by omega) (by omega)
    have p2:=pr 0 2 (by omega) (by omega)
    have p3:=pr 1 2 (by omega) (by omega)
    simp only[show(1:Nat)-1=0 from rfl,show(2:Nat)-1=1 from rfl,show(3:Nat)-1=2 from rfl] at p1 p2 p3 ⊢
    refine Eq.trans (congrArg (·%p) ?_) (qpU (qpU p1 p2) p3)
    simp only[sN]
    omega
  · rw[e] at pr ⊢
    have p1:=pr 0 1 (by omega) (by omega)
    have p2:=pr 0 2 (by omega) (by omega)
    have p3:=pr 1 2 (by omega) (by omega)
    have p4:=pr 0 3 (by omega) (by omega)
    have p5:=pr 1 3 (by omega) (by omega)
    have p6:=pr 2 3 (by omega) (by omega)
    simp only[show(1:Nat)-1=0 from rfl,show(2:Nat)-1=1 from rfl,show(3:Nat)-1=2 from rfl,show(4:Nat)-1=3 from rfl] at p1 p2 p3 p4 p5 p6 ⊢
    refine Eq.trans (congrArg (·%p) ?_) (qpU (qpU (qpU p1 p2) (qpU p3 p4)) (qpU p5 p6))
    simp only[sN]
    omega
end VeT
open Go Go.Proofs Ve
namespace VeT
theorem VM.num{m:Mat}(h:VM m):m.2.2.2.1.length=m.2.1.toNat*m.2.2.1.toNat:=by
 obtain⟨R,K,e,_,_,hl⟩:=h.nat
 rw[e] at hl ⊢
 simpa using hl
end VeT
open Go Go.Proofs Ve
namespace VeT
def qpK(p:Int)(R W:Nat)(A:Ent)(x:Nat→Int):Prop:=∀ i,i<R→qaQ x (A i) W%p=0
end VeT
open Go Go.Proofs Ve
namespace VeT
noncomputable def rkX(x:Shf)(k:Int):Nat:=rkM x.2.1 (SD x.1 x.2.2.1 (k+1)).toNat (SD x.1 x.2.2.1 k).toNat (qhX x k).2.2.2.1
theorem qe4{x:Shf}(hs:ISh x){k:Int}(hk:0≤k∧k≤3):((qof x k).length:Int)=SD x.1 x.2.2.1 k-(rkX x k:Int)-(rkX x (k-1):Int):=by
 obtain⟨h,hw⟩:=hs
 obtain⟨W,eW,bW,tW⟩:=qhB h k
 have hl:(qdW x.1 x.2.1 x.2.2.1 x.2.2.2.1 (k-1)).length=(SD x.1 x.2.2.1 k).toNat*(SD x.1 x.2.2.1 (k-1)).toNat:=by rw[qb2,Int.sub_add_cancel]
 have:=qpI h.2.1 hl (qck h (k-1)) qb2 (qck h k) fun j hj i hi=>by
  by_cases h1:1≤k
  ·exact qpT h hw h1 hi hj
  ·rw[qjK h.1 _ (by omega)] at hj
   exact absurd hj (by simp)
 have e1:rkX x (k-1)=rkM x.2.1 (SD x.1 x.2.2.1 k).toNat (SD x.1 x.2.2.1 (k-1)).toNat (qdW x.1 x.2.1 x.2.2.1 x.2.2.2.1 (k-1)):=by unfold rkX;rw[Int.sub_add_cancel];rfl
 have e2:rkX x k=rkM x.2.1 (SD x.1 x.2.2.1 (k+1)).toNat (SD x.1 x.2.2.1 k).toNat (qdW x.1 x.2.1 x.2.2.1 x.2.2.2.1 k):=rfl
 have e3:(qof x k).length=(qnT x.2.1 (SD x.1 x.2.2.1 k).toNat (qb1 (SD x.1 x.2.2.1 k).toNat (SD x.1 x.2.2.1 (k-1)).toNat (qdW x.1 x.2.1 x.2.2.1 x.2.2.2.1 (k-1))) (qlk x.2.1 (SD x.1 x.2.2.1 (k+1)).toNat (SD x.1 x.2.2.1 k).toNat (qdW x.1 x.2.1 x.2.2.1 x.2.2.2.1 k))).length:=rfl
 rw[← e1,← e2,← e3,tW] at this
 omega
end VeT
open Go Go.Proofs Ve
namespace VeT
theorem qm9(x:Shf)(k:Int)(hx:Sm (.st cS) x)(hk:0≤k∧k≤3)(hs:VS x.1 x.2.1 x.2.2.1 x.2.2.2.1) :
  Ret E n_Z33 [dLL x.1,dI x.2.1,dL x.2.2.1,dMs x.2.2.2.1,dI k] ⟨o_Z33,(qof x k,())⟩:=by
 obtain⟨W,eW,bW,tW⟩:=qhB hs k
 obtain⟨C,eC,bC,tC⟩:=qhB hs (k-1)
 have hl:(qhX x (k-1)).2.2.2.1.length=W*C:=by show(qdW _ _ _ _ (k-1)).length=_;rw[qb2,tC,show k-1+1=k by omega,tW]
 have he:qbl (qhX x (k-1)).2.2.2.1 x.2.1:=qck hs (k-1)
 obtain⟨hcr,hcl,hcw⟩:=qiJ hl he
 obtain⟨hkr,hkl⟩:=qoA (k:=k) hs
 have e1:(qhX x (k-1)).2.1=(W:Int):=by show SD x.1 x.2.2.1 (k-1+1)=_;rw[show k-1+1=k by omega,eW]
 have e2:(qhX x (k-1)).2.2.1=(C:Int):=eC
 have hp2:2≤x.2.1∧x.2.1≤251:=⟨hs.2.1.1,hs.2.1.2.1⟩
 unfold qof
 rw[tW,tC]
 rw[tW] at hkr hkl
 have hi:=qh9 x.2.1 W (qb1 W C (qhX x (k-1)).2.2.2.1) (qpS x k) hs.2.1 (by omega) (by omega) hcw (by omega) hkr
 have hcob:Ret E n_Z31 [dLL x.1,dI x.2.1,dL x.2.2.1,dMs x.2.2.2.1,dI k] ⟨o_Z31,(x.2.1,(W:Int),bas x.2.1 W (qb1 W C (qhX x (k-1)).2.2.2.1),())⟩:=by
  have hm:=qcz x.1 x.2.1 x.2.2.1 x.2.2.2.1 (k-1) (by omega) hx.1 hs
  have hcc:=qfw (qhX x (k-1)).1 W C (qhX x (k-1)).2.2.2.1 hl bW bC
  have hso:=qhV x.2.1 W (qb1 W C (qhX x (k-1)).2.2.2.1) hp2 (by omega) (by omega) hcw
  rw[← e1] at hcc hso
  rw[← e2] at hcc
  refine qal ?_
  simp only[run_Z31,Z31.ev,qai (n:=k-1) (by omega) (by omega)]
  refine qaa hm (qaa hcc (qaa hso (qam ?_)))
  rw[e1]
 refine qal ?_
 simp only[run_Z33,Z33.ev]
 exact qaa hcob (qaa (qcz x.1 x.2.1 x.2.2.1 x.2.2.2.1 k (by omega) hx.1 hs) (qaa (qnL k hs) (qaa hi qan)))
noncomputable def qil(x:Shf)(n:Nat):Sim:=(List.range n).map fun(k:Nat)=>((qof x (k:Int)).length:Int)
theorem qno{x:Shf}{n:Nat}:qil x (n+1)=qil x n++[((qof x (n:Int)).length:Int)]:=by unfold qil;rw[List.range_succ,List.map_append];rfl
theorem qeM{x:Shf}{n:Nat}:(qil x n).length=n:=by simp[qil]
open Classical in
noncomputable def qaU(x:Shf):Sim×Int×Unit:=if ISh x then(qil x 4,0,()) else([],1,())
theorem qbA(x:Shf)(hx:Sm (.st cS) x):Ret E n_Z5 [dLL x.1,dI x.2.1,dL x.2.2.1,dMs x.2.2.2.1] ⟨o_Z5,qaU x⟩:=by
 refine qal ?_
 simp only[run_Z5,Z5.ev]
 refine qaa (qd5 x hx) ?_
 unfold qaU
 by_cases h:ISh x
 ·rw[if_pos h]
  refine qaH (by rw[qaz h];rfl) ?_
  refine Ev.start (p:=fun φ n=>Z5.l0 (mkR (run E (φ 0))) (φ 0) n 0 x.1 x.2.1 x.2.2.1 x.2.2.2.1 []=_) 1 ?_ (fun _ _ _ h=>h)
  refine qaw 1 (L:=fun φ n k o=>Z5.l0 (mkR (run E (φ 0))) (φ 0) n k x.1 x.2.1 x.2.2.1 x.2.2.2.1 o) (len:=4) (fun k=>qil x k) (fun _ _ _ _ _=>rfl) (fun k r hk ih=>?_) ?_
  ·simp only[Z5.l0_succ _ qag]
   rw[qno] at ih
   refine qaE (decide_eq_true (by omega)) (qaa (qm9 x k hx (by omega) h.1) (qaa (qhM _) (qau (by simp only[qeM,List.length_singleton,decide_eq_true_eq];omega) ?_)))
   rw[qah (by omega)]
   exact ih
  ·simp only[Z5.l0_succ _ qag]
   exact qaH (decide_eq_false (by omega)) qan
 ·rw[if_neg h]
  exact qaE (by rw[qat h];rfl) qan
end VeT
open Go Go.Proofs Ve
namespace VeT
end VeT
open Go Go.Proofs Ve
namespace VeT
end VeT
open Go Go.Proofs Ve
namespace VeT
noncomputable abbrev qoa(x:Shf)(k:Int):Ent:=qfP (qhX x k).2.2.2.1 (SD x.1 x.2.2.1 k).toNat
theorem qpK.add{p:Int}{R W:Nat}{A:Ent}{x y:Nat→Int}(hx:qpK p R W A x)(hy:qpK p R W A y):qpK p R W A fun j=>x j+y j:=fun i hi=>by
 rw[qjq,Int.add_emod,hx i hi,hy i hi];simp
theorem qpK.congr{p:Int}{R W:Nat}{A:Ent}{x y:Nat→Int}(h:∀ j,j<W→x j%p=y j%p)(hx:qpK p R W A x):qpK p R W A y:=fun i hi=>by
 rw[← hx i hi,qbo,qbo (c:=x)]
 exact(qc3 fun j hj=>h j hj).symm
end VeT
open Go Go.Proofs Ve
namespace VeT
theorem qln{x:Shf}(hs:VS x.1 x.2.1 x.2.2.1 x.2.2.2.1){k:Int}(hk:k<0):rkX x k=0:=by
 unfold rkX rkM
 rw[qjK hs.1 _ (.inl hk)]
 rfl
end VeT
open Go Go.Proofs Ve
namespace VeT
theorem qop{c:List Sim}(hc:Srt c){s:Sim}{m:Nat}(hm:m<c.length):qcF c s=(m:Int)↔s=c[m]:=by
 have hs:qcF c c[m]=(m:Int):=by
  unfold qcF qgG
  have:c.findIdx? (fun x=>pb (x=c[m]))=some m:=by
   rw[List.findIdx?_eq_some_iff_getElem]
   refine⟨hm,qaz rfl,fun j hj h=>?_⟩
   have e:=qaV.1 h
   have:=hc j m hm hj
   rw[qca.2 e] at this;omega
  rw[this];rfl
 constructor
 ·intro h
  have h0:0≤qcF c s:=by omega
  obtain⟨j,hj,e⟩:=List.mem_iff_getElem.1 (qaT.1 h0)
  subst e
  have hj2:qcF c c[j]=(j:Int):=by
   unfold qcF qgG
   have:c.findIdx? (fun x=>pb (x=c[j]))=some j:=by
    rw[List.findIdx?_eq_some_iff_getElem]
    refine⟨hj,qaz rfl,fun i hi h=>?_⟩
    have e:=qaV.1 h
    have:=hc i j hj hi
    rw[qca.2 e] at this;omega
   rw[this];rfl
  have:j=m:=by omega
  subst this;rfl
 ·rintro rfl;exact hs
theorem qgS{c:List Sim}(h:Srt c){i j:Nat}(hij:i≤j)(hj:j<c.length):(c.getD i []).length≤(c.getD j []).length:=by
 rw[qad (by omega),qad hj]
 by_cases e:i=j
 ·subst e;exact Nat.le_refl _
 ·have:=h i j hj (by omega)
  rw[qhT] at this
  omega
theorem qj5{c:List Sim}(h:Srt c){d x:Int}(hx:x∈qaq c d c.length) :
  ∃ s f0:Nat,x=(s:Int)∧s<c.length∧f0≤s∧(qaq c d c.length).head? = some (f0:Int)∧qgG (fun y=>pb (y=x)) (qaq c d c.length)=((s-f0:Nat):Int)∧s-f0<(qaq c d c.length).length:=by
 obtain⟨s,rfl,hs,hd⟩:=qbE.1 hx
 obtain⟨tl,hL⟩:=qec hs hd
 have hne:qaq c d c.length≠[]:=by rw[hL];simp
 obtain⟨y,hy⟩:∃ y,(qaq c d c.length).head? = some y:=by
  cases hh:qaq c d c.length with
  | nil=>exact absurd hh hne
  | cons y l=>exact⟨y,rfl⟩
 have hym:y∈qaq c d c.length:=List.mem_of_head? hy
 obtain⟨f0,rfl,hf,hfd⟩:=qbE.1 hym
 obtain⟨tl2,hL2⟩:=qec hf hfd
 have hz:qaq c d f0=[]:=by
  cases hh:qaq c d f0 with
  | nil=>rfl
  | cons z l =>
   have hz:z∈qaq c d f0:=by rw[hh];exact List.mem_cons_self
   obtain⟨i,rfl,hi⟩:=qdn hz
   rw[hL2,hh] at hy
   have:((i:Nat):Int)=f0:=by simpa using hy
   omega
 have hfs:f0≤s:=by
  refine Classical.byContradiction fun hn=>?_
  have:((s:Nat):Int)∈qaq c d f0:=qbE.2 ⟨s,rfl,by omega,hd⟩
  rw[hz] at this;cases this
 have hlen:∀ t,f0+t≤s→(qaq c d (f0+t)).length=t:=by
  intro t
  induction t with
  | zero=>intro _;rw[Nat.add_zero,hz];rfl
  | succ t ih =>
   intro ht
   have h1:=qgS h (show f0≤f0+t by omega) (by omega)
   have h2:=qgS h (show f0+t≤s by omega) hs
   rw[← Nat.add_assoc,qbJ,if_pos (by omega),List.length_append,ih (by omega)];rfl
 have hls:=hlen (s-f0) (by omega)
 rw[show f0+(s-f0)=s by omega] at hls
 refine⟨s,f0,rfl,hs,hfs,hy,?_,by rw[hL,List.length_append,hls];simp⟩
 unfold qgG
 have:(qaq c d c.length).findIdx? (fun y=>pb (y=(s:Int)))=some (s-f0):=by
  rw[List.findIdx?_eq_some_iff_getElem]
  refine⟨by rw[hL,List.length_append,hls];simp,?_,fun j hj=>?_⟩
  ·refine qaz ?_
   have:(qaq c d c.length)[s-f0]? = some (s:Int):=by
    rw[hL,List.getElem?_append_right (by omega),hls,Nat.sub_self];rfl
   exact(List.getElem?_eq_some_iff.1 this).2
  ·rw[qaV]
   intro e
   have hj':j<(qaq c d s).length:=by omega
   have:(qaq c d c.length)[j]? = some (qaq c d s)[j]:=by
    rw[hL,List.getElem?_append_left hj',List.getElem?_eq_getElem hj']
   have e2:=(List.getElem?_eq_some_iff.1 this).2
   rw[e] at e2
   obtain⟨i,hi,hi2⟩:=qdn (List.getElem_mem hj')
   rw[← e2] at hi
   omega
 rw[this];rfl
end VeT
open Go Go.Proofs Ve
namespace VeT
theorem qoM{c:List Sim}(h:VC c){k:Int}{s:Nat}(hs:s<c.length)(hd:((c.getD s []).length:Int)=k+1){x:Int}(hx:x∈qaK c s):x∈qaq c (k-1) c.length:=by
 unfold qaK at hx
 obtain⟨f,hf,rfl⟩:=List.mem_map.1 hx
 have hfc:=h.2.2.2 s hs f hf
 have hfl:=qkm hf
 obtain⟨q,hq,e⟩:=List.mem_iff_getElem.1 hfc
 have:=(qop h.srt (s:=f) hq).2 e.symm
 rw[this]
 exact qbE.2 ⟨q,rfl,hq,by rw[qad hq,e];omega⟩
structure BdF (c:List Sim) (k p:Int):Prop where
 sc:Sm (.sl (.sl (.int .i64))) c
 vc:VC c
 pr:Pr p
 hk:0≤k∧k≤4
 lu:(qaq c k c.length).length≤32
 ll:(qaq c (k-1) c.length).length≤32
theorem BdF.hp{c:List Sim}{k p:Int}(F:BdF c k p):2≤p∧p≤251:=⟨F.pr.1,F.pr.2.1⟩
end VeT
open Go Go.Proofs Ve
namespace VeT
theorem qkj:∀ {a b:Sim},qd6 a b=qgL a b
 | [],[]=>rfl
 | [],_::_=>rfl
 | _::_,[]=>rfl
 | x::xs,y::ys=>by rw[qd6,qgL,qkj]
theorem qeg{a b:Sim}:qc7 a b=qem a b:=by
 unfold qc7 qem
 rw[qkj];rfl
theorem qkO(n:Nat)(args:List Dv):run E (n+1) n_Z122 args=qgr n_Z35 (mkR (run E n)) args:=rfl
theorem qmB{m:Nat}{R:Run}{xs:List Sim}(h:xs.length≤1048576∧(⟨.fn m .nil,()⟩:Dv)=⟨.fn m .nil,()⟩∧∀ x∈xs,∀ y∈xs,R.r m [⟨tL,x⟩,⟨tL,y⟩]=some ⟨.cons tI .nil,(qem x y,())⟩) :
  qgr m R [⟨tLL,xs⟩,⟨.fn m .nil,()⟩]=some ⟨.cons tLL .nil,(qel xs,())⟩:=by
 unfold qgr
 simp only[show(⟨tLL,xs⟩:Dv).to tLL=some xs from rfl,Option.bind_some]
 exact if_pos h
theorem qnF{α:Type}{p:α→Nat→Prop}{l:List α}(h:∀ x∈l,Evt (p x)):Evt fun n=>∀ x∈l,p x n:=by
 induction l with
 | nil=>exact Evt.of fun n x hx=>by cases hx
 | cons a l ih =>
  refine((h a List.mem_cons_self).and (ih fun x hx=>h x (List.mem_cons_of_mem _ hx))).mono fun n ⟨h1,h2⟩ x hx=>?_
  rcases List.mem_cons.1 hx with rfl | hx
  ·exact h1
  ·exact h2 x hx
theorem qku(xs:List Sim)(hs:Sm (.sl (.sl (.int .i64))) xs):Ret E n_Z122 [dLL xs,⟨.fn n_Z35 .nil,()⟩] ⟨o_Z122,(qel xs,())⟩:=by
 have hl:xs.length≤1048576:=hs.1
 have hall:Evt fun n=>∀ x∈xs,∀ y∈xs,run E n n_Z35 [dL x,dL y]=some ⟨o_Z35,(qem x y,())⟩ :=
  qnF fun x hx=>qnF fun y hy=>by
   have:=qaX x y (hs.2 x hx)
   rw[qeg] at this
   exact this
 refine Evt.succ (hall.mono fun n h=>?_)
 rw[qkO]
 exact qmB ⟨hl,rfl,h⟩
theorem qim(rows:List Sim)(hl:rows.length≤1048576)(hs:∀ x∈rows,x.length≤1048576):Ret E n_Z38 [dLL rows] ⟨o_Z38,(rows,())⟩:=by
 refine qal ?_
 simp only[run_Z38,Z38.ev]
 refine Ev.start (p:=fun φ n=>Z38.l0 (mkR (run E (φ 0))) (φ 0) n rows (rows.length:Int) 0 []=_) 1 ?_ (fun _ _ _ h=>h)
 refine qaw 1 (L:=fun φ n k o=>Z38.l0 (mkR (run E (φ 0))) (φ 0) n rows (rows.length:Int) k o) (len:=rows.length) (fun k=>rows.take k) (fun _ _ _ _ _=>rfl) (fun k r hk ih=>?_) ?_
 ·simp only[Z38.l0_succ _ qag]
  rw[List.take_succ_eq_append_getElem hk] at ih
  refine qaE (decide_eq_true (by omega)) (qaf (qap hk) (qaa (qcu _ (hs _ (List.getElem_mem hk))) (qau (by simp only[List.length_take,List.length_singleton,decide_eq_true_eq];omega) ?_)))
  rw[qah (by omega)];exact ih
 ·simp only[Z38.l0_succ _ qag]
  refine qaH (decide_eq_false (by omega)) (qam ?_)
  rw[List.take_of_length_le (Nat.le_refl _)]
theorem qmh(n:Nat)(args:List Dv):run E (n+1) n_Z97 args=qdh n_Z109 (mkR (run E n)) args:=rfl
-- qdh
theorem qgH(xs:List Sim)(hs:Sm (.sl (.sl (.int .i64))) xs) :
  Ret E n_Z97 [dLL xs,⟨.fn n_Z109 .nil,()⟩] ⟨o_Z97,(sel (mC xs xs.length) xs,())⟩:=by
 have hl:xs.length≤1048576:=hs.1
 have hall:Evt fun n=>∀ i,i<xs.length-1→∀(h:i+1<xs.length),run E n n_Z109 [dL xs[i+1],dL xs[i]]=some ⟨o_Z109,(xs[i+1]==xs[i],())⟩ :=
  Evt.lt fun i hi=>by
   have h:i+1<xs.length:=by omega
   have h2:=qio xs[i+1] xs[i] (qbS hs h).1
   rw[show pb (xs[i+1]=xs[i])=(xs[i+1]==xs[i]) by rw[Bool.eq_iff_iff,qaV,beq_iff_eq]] at h2
   exact Evt.mono h2 fun n h3 _=>h3
 refine Evt.succ (hall.mono fun n h=>?_)
 rw[qmh]
 unfold qdh
 simp only[show(⟨tLL,xs⟩:Dv).to tLL=some xs from rfl,Option.bind_some]
 exact if_pos ⟨hl,rfl,fun i hi=>h i (by omega) hi⟩
-- qdh
theorem qmJ{l:List Sim}(h:l.Pairwise (fun a b=>qem a b≤0)):∀ {m:Nat},m≤l.length→(sel (mC l m) l).Pairwise (fun a b=>qem a b<0)∧(∀ x,x∈sel (mC l m) l↔x∈l.take m):=by
 intro m
 induction m with
 | zero=>intro _;simp[mC,sel]
 | succ m ih =>
  intro hm
  obtain⟨h1,h2⟩:=ih (by omega)
  have hml:m<l.length:=by omega
  rw[mC,qfc (by rw[qgk];exact hml)]
  have e:(l[(mC l m).length]'(by rw[qgk];exact hml))=l[m]:=by congr 1;exact qgk
  rw[e,List.take_succ_eq_append_getElem hml]
  by_cases h0:m=0
  ·subst h0
   simp[mC,sel]
  ·obtain⟨q,rfl⟩:∃ q,m=q+1:=⟨m-1,by omega⟩
   have g1:l[q+1]? = some l[q+1]:=List.getElem?_eq_getElem hml
   have g2:l[q+1-1]? = some l[q]:=by rw[Nat.add_sub_cancel];exact List.getElem?_eq_getElem (by omega)
   rw[g1,g2,show(q+1==0)=false from rfl,Bool.false_or]
   have hq:l[q]∈l.take (q+1):=by rw[List.take_succ_eq_append_getElem (show q<l.length by omega)];exact List.mem_append.2 (.inr (List.mem_singleton.2 rfl))
   by_cases he:l[q+1]=l[q]
   ·rw[show(some l[q+1]==some l[q])=true by rw[he];simp]
    simp only[Bool.not_true,cond_false,List.append_nil]
    refine⟨h1,fun x=>?_⟩
    rw[h2,List.mem_append,List.mem_singleton]
    exact⟨.inl,fun hx=>hx.elim id fun e=>by rw[e,he];exact hq⟩
   ·rw[show(some l[q+1]==some l[q])=false from beq_false_of_ne fun e=>he (Option.some.inj e)]
    simp only[Bool.not_false,cond_true]
    have hlt:∀ x∈sel (mC l (q+1)) l,qem x l[q+1]<0:=fun x hx=>by
     have hx:=(h2 x).1 hx
     have hq1:qem l[q] l[q+1]≤0:=List.pairwise_iff_getElem.1 h q (q+1) (by omega) hml (by omega)
     have hq2:qem l[q] l[q+1]<0:=by
      rcases Int.lt_or_eq_of_le hq1 with h | h
      ·exact h
      ·exact absurd (qd9.1 h).symm he
     obtain⟨i,hi,rfl⟩:=List.mem_iff_getElem.1 hx
     rw[List.length_take] at hi
     rw[List.getElem_take]
     by_cases e:i=q
     ·subst e;exact hq2
     ·have h3:qem l[i] l[q]≤0:=List.pairwise_iff_getElem.1 h i q (by omega) (by omega) (by omega)
      rcases Int.lt_or_eq_of_le h3 with h | h
      ·have:=qet (by rw[qeg];exact h) (by rw[qeg];exact hq2)
       rwa [qeg] at this
      ·rw[qd9.1 h];exact hq2
    refine⟨List.pairwise_append.2 ⟨h1,List.pairwise_singleton _ _,fun x hx y hy=>?_⟩,fun x=>?_⟩
    ·rw[List.mem_singleton] at hy;subst hy;exact hlt x hx
    ·rw[List.mem_append,List.mem_append,h2]
-- qdh
noncomputable def qqj(xs:List Sim):List Sim:=sel (mC (qel xs) (qel xs).length) (qel xs)
-- qdh
theorem qnr(xs:List Sim):Srt (qqj xs)∧(∀ x,x∈qqj xs↔x∈xs)∧(qqj xs).length≤xs.length:=by
 have hp:(qel xs).Pairwise (fun a b=>qem a b≤0):=(qin xs).imp fun h=>by unfold leX at h;exact of_decide_eq_true h
 obtain⟨h1,h2⟩:=qmJ hp (Nat.le_refl _)
 refine⟨fun i j hj hij=>?_,fun x=>?_,?_⟩
 ·rw[qeg];exact List.pairwise_iff_getElem.1 h1 i j (by unfold qqj at hj;omega) hj hij
 ·unfold qqj
  rw[h2,List.take_length]
  exact(List.mergeSort_perm xs leX).mem_iff
 ·have:=qk5 (ms:=mC (qel xs) (qel xs).length) (l:=qel xs)
  exact Nat.le_trans this (Nat.le_of_eq (qd7 xs))
-- qdh
theorem qpz:∀ {c d:List Sim},Srt c→Srt d→(∀ x,x∈c↔x∈d)→c=d:=by
 have pw:∀ {c:List Sim},Srt c→c.Pairwise (fun a b=>qc7 a b<0):=fun h=>List.pairwise_iff_getElem.2 fun i j hi hj hij=>h i j hj hij
 have main:∀ {c d:List Sim},c.Pairwise (fun a b=>qc7 a b<0)→d.Pairwise (fun a b=>qc7 a b<0)→(∀ x,x∈c↔x∈d)→c=d:=by
  intro c
  induction c with
  | nil =>
   intro d _ _ h
   cases d with
   | nil=>rfl
   | cons y d=>exact absurd ((h y).2 List.mem_cons_self) (by simp)
  | cons x c ih =>
   intro d hc hd h
   cases d with
   | nil=>exact absurd ((h x).1 List.mem_cons_self) (by simp)
   | cons y d =>
    obtain⟨hc1,hc2⟩:=List.pairwise_cons.1 hc
    obtain⟨hd1,hd2⟩:=List.pairwise_cons.1 hd
    have hxy:x=y:=by
     rcases List.mem_cons.1 ((h x).1 List.mem_cons_self) with e | e
     ·exact e
     ·rcases List.mem_cons.1 ((h y).2 List.mem_cons_self) with e2 | e2
      ·exact e2.symm
      ·have h1:=hd1 x e
       have h2:=hc1 y e2
       have:=qi1 (a:=x) (b:=y)
       omega
    subst hxy
    have irr:∀ z,qc7 z z=0:=fun z=>qca.2 rfl
    rw[ih hc2 hd2 fun z=>?_]
    constructor
    ·intro hz
     rcases List.mem_cons.1 ((h z).1 (List.mem_cons_of_mem _ hz)) with e | e
     ·subst e;have:=hc1 z hz;have:=irr z;omega
     ·exact e
    ·intro hz
     rcases List.mem_cons.1 ((h z).2 (List.mem_cons_of_mem _ hz)) with e | e
     ·subst e;have:=hd1 z hz;have:=irr z;omega
     ·exact e
 exact fun {c d} hc hd h=>main (pw hc) (pw hd) h
-- qdh
theorem qko(c:List Sim)(hc:Sm (.sl (.sl (.int .i64))) c):Ret E n_Z54 [dLL c] ⟨o_Z54,(qqj c,())⟩:=by
 have h1:=qku c hc
 have hs:Sm (.sl (.sl (.int .i64))) (qel c):=⟨by show(qel c).length≤1048576;rw[qd7];exact hc.1,fun x hx=>hc.2 x ((List.mergeSort_perm c leX).mem_iff.1 hx)⟩
 refine qal ?_
 simp only[run_Z54,Z54.ev]
 exact qaa (qim c hc.1 fun x hx=>(hc.2 x hx).1) (qaa h1 (qaa (qgH _ hs) qan))
-- qdh
theorem qeV(c:List Sim)(hc:Sm (.sl (.sl (.int .i64))) c)(hs:Srt c):Ret E n_Z54 [dLL c] ⟨o_Z54,(c,())⟩:=by
 have h:=qko c hc
 obtain⟨h1,h2,_⟩:=qnr c
 rwa [qpz h1 hs h2] at h
theorem qcR(c:List Sim)(n:Int)(hl:c.length≤1048576):Ret E n_Z44 [dLL c,dI n] ⟨o_Z44,(List.replicate c.length n,())⟩:=by
 refine qal ?_
 simp only[run_Z44,Z44.ev]
 refine Ev.start (p:=fun φ q=>Z44.l0 (mkR (run E (φ 0))) (φ 0) q n (c.length:Int) 0 []=_) 1 ?_ (fun _ _ _ h=>h)
 refine qaw 1 (L:=fun φ q k o=>Z44.l0 (mkR (run E (φ 0))) (φ 0) q n (c.length:Int) k o) (len:=c.length) (fun k=>List.replicate k n) (fun _ _ _ _ _=>rfl) (fun k r hk ih=>?_) ?_
 ·simp only[Z44.l0_succ _ qag]
  rw[List.replicate_succ'] at ih
  refine qaE (decide_eq_true (by omega)) (qau (by simp only[List.length_replicate,List.length_singleton,decide_eq_true_eq];omega) ?_)
  rw[qah (by omega)];exact ih
 ·simp only[Z44.l0_succ _ qag]
  exact qaH (decide_eq_false (by omega)) qan
theorem qdc(m:Mat)(hm:m.2.2.2.1.length≤1048576):Ret E n_Z39 [dI m.1,dI m.2.1,dI m.2.2.1,dL m.2.2.2.1] ⟨o_Z39,(m.1,m.2.1,m.2.2.1,m.2.2.2.1,())⟩:=by
 refine qal ?_
 simp only[run_Z39,Z39.ev]
 exact qaa (qcu _ hm) qan
def zOf(p:Int)(st:Sim)(a:Arw):Mat:=(p,st.getD a.1.toNat 0,st.getD a.2.2.1.toNat 0,List.replicate ((st.getD a.1.toNat 0).toNat*(st.getD a.2.2.1.toNat 0).toNat) 0,())
theorem qdZ{c:List Sim}{st:Sim}(hl:st.length=c.length)(hst:∀ x∈st,0≤x∧x≤3){k:Nat}(hk:k<c.length):∃ n:Nat,n≤3∧st.getD k 0=(n:Int)∧∃ h:k<st.length,st[k]=(n:Int):=by
 have h:k<st.length:=by omega
 obtain⟨h1,h2⟩:=hst _ (List.getElem_mem h)
 exact⟨(st[k]).toNat,by omega,by rw[qad h];omega,h,by omega⟩
theorem qfH{c:List Sim}(hs:Srt c)(hv:VC c){k i:Nat}(hk:k<c.length)(hi:i<(qaK c k).length):∃ f:Nat,f<c.length∧(qaK c k)[i]=(f:Int)∧(qaK c k).getD i 0=(f:Int):=by
 obtain⟨h1,h2,_⟩:=qbf hv hk hi
 have e:(qaK c k)[i]=((fc c k i:Nat):Int):=by rw[qap hi] at h1;exact Option.some.inj h1
 exact⟨fc c k i,h2,e,by rw[qad hi,e]⟩
end VeT
open Go Go.Proofs Ve
namespace VeT
def Fa(x s:Sim):Prop:=x≠[]∧x.Sublist s
def Cl(c:List Sim):Prop:=∀ y∈c,∀ x,Fa x y→x∈c
theorem qkw:∀ {x s:Sim},x.Sublist s→x≠s→∃ i,i<s.length∧x.Sublist (s.eraseIdx i)
 | _,_,.slnil,h=>absurd rfl h
 | x,_,.cons a h,_=>⟨0,by simp,by simpa using h⟩
 | _,_,.cons_cons (l₁:=l) (l₂:=l') a h,hn=>by
  obtain⟨i,hi,hs⟩:=qkw h fun e=>hn (by rw[e])
  exact⟨i+1,by simp;omega,by simpa using hs⟩
theorem qmZ{x s:Sim}:Fa x s↔(x=s∧s≠[])∨∃ i,i<s.length∧Fa x (s.eraseIdx i):=by
 constructor
 ·rintro⟨h1,h2⟩
  by_cases e:x=s
  ·exact .inl ⟨e,e ▸ h1⟩
  ·obtain⟨i,hi,hs⟩:=qkw h2 e
   exact .inr ⟨i,hi,h1,hs⟩
 ·rintro(⟨rfl,h⟩ | ⟨i,hi,h1,h2⟩)
  ·exact⟨h,List.Sublist.refl _⟩
  ·exact⟨h1,h2.trans (List.eraseIdx_sublist _ _)⟩
theorem qjj{x y z:Sim}(h1:Fa x y)(h2:Fa y z):Fa x z:=⟨h1.1,h1.2.trans h2.2⟩
theorem qj9{x s:Sim}(h:Fa x s):x.length≤s.length:=h.2.length_le
theorem VC.cl{c:List Sim}(h:VC c):Cl c:=by
 have main:∀(n:Nat) (y:Sim),y.length=n→y∈c→∀ x,Fa x y→x∈c:=by
  intro n
  induction n with
  | zero =>
   intro y hy hm x hf
   have:=qj9 hf
   exact absurd (List.length_eq_zero_iff.1 (by omega)) hf.1
  | succ n ih =>
   intro y hy hm x hf
   rcases qmZ.1 hf with ⟨rfl,_⟩ | ⟨i,hi,hf2⟩
   ·exact hm
   ·have hl:(y.eraseIdx i).length=n:=by rw[List.length_eraseIdx,if_pos hi];omega
    have h1:1<y.length:=by
     have:=qj9 hf2
     have:=List.length_pos_iff.2 hf2.1
     omega
    obtain⟨k,hk,e⟩:=List.mem_iff_getElem.1 hm
    have:=h.2.2.2 k hk (y.eraseIdx i) (by rw[qad hk,e];exact qcM.2 ⟨h1,i,hi,rfl⟩)
    exact ih _ hl this x hf2
 exact fun y hy x hf=>main y.length y rfl hy x hf
def qlU:Nat→Nat
 | 0=>1
 | n+1=>(n+2)*qlU n+1
theorem qqq{o:List Sim}{s:Sim}(hs:Srt o)(hn:s∉o):∃ t,t≤o.length∧(∀ j (h:j<o.length),j<t→qc7 o[j] s<0)∧(∀ h:t<o.length,¬ qc7 o[t] s<0)∧Srt (o.take t++[s]++o.drop t):=by
 refine⟨bs o s,qqE,fun j h hj=>(qjN hs h).1 hj,fun h hlt=>?_,?_⟩
 ·have:=(qjN hs h).2 hlt;omega
 ·have pw:o.Pairwise (fun a b=>qc7 a b<0):=List.pairwise_iff_getElem.2 fun i j hi hj hij=>hs i j hj hij
  have h1:∀ x∈o.take (bs o s),qc7 x s<0:=fun x hx=>by
   obtain⟨i,hi,rfl⟩:=List.mem_iff_getElem.1 hx
   rw[List.length_take] at hi
   rw[List.getElem_take]
   exact(qjN hs (by omega)).1 (by omega)
  have h2:∀ x∈o.drop (bs o s),qc7 s x<0:=fun x hx=>by
   obtain⟨i,hi,rfl⟩:=List.mem_iff_getElem.1 hx
   rw[List.length_drop] at hi
   rw[List.getElem_drop]
   have h3:¬ qc7 o[bs o s+i] s<0:=fun h=>by
    have:=(qjN hs (show bs o s+i<o.length by omega)).2 h;omega
   have h4:qc7 o[bs o s+i] s≠0:=fun h=>hn (by rw[← qca.1 h];exact List.getElem_mem _)
   have:=qi1 (a:=o[bs o s+i]) (b:=s)
   omega
  have pwn:(o.take (bs o s)++[s]++o.drop (bs o s)).Pairwise (fun a b=>qc7 a b<0):=by
   rw[List.pairwise_append]
   refine⟨?_,pw.sublist (List.drop_sublist _ _),fun x hx y hy=>?_⟩
   ·rw[List.pairwise_append]
    refine⟨pw.sublist (List.take_sublist _ _),List.pairwise_singleton _ _,fun x hx y hy=>?_⟩
    rw[List.mem_singleton] at hy;subst hy;exact h1 x hx
   ·rcases List.mem_append.1 hx with hx | hx
    ·exact qet (h1 x hx) (h2 y hy)
    ·rw[List.mem_singleton] at hx;subst hx;exact h2 y hy
  exact fun i j hj hij=>List.pairwise_iff_getElem.1 pwn i j (by omega) hj hij
theorem qn7{o:List Sim}{s x:Sim}{t:Nat}:x∈o.take t++[s]++o.drop t↔x∈o∨x=s:=by
 rw[List.mem_append,List.mem_append,List.mem_singleton]
 conv=>rhs;rw[← List.take_append_drop t o]
 rw[List.mem_append]
 constructor
 ·rintro((h | h) | h)
  ·exact .inl (.inl h)
  ·exact .inr h
  ·exact .inl (.inr h)
 ·rintro((h | h) | h)
  ·exact .inl (.inl h)
  ·exact .inr h
  ·exact .inl (.inr h)
theorem qlY(s:Sim)(o:List Sim)(N1:Nat→Nat)(hs1:s.length≤1048576)(ho:Sm (.sl (.sl (.int .i64))) o)(hl:o.length+1≤1048576)(hs:Srt o)(hn:s∉o) :
  ∃ t,t≤o.length∧Srt (o.take t++[s]++o.drop t)∧Ev fun φ=>Z151.l2 (mkR (run E (φ 0))) (φ 0) (φ 2) s 0 o=some ⟨o_Z151,((o.take t++[s]++o.drop t,()),())⟩:=by
 obtain⟨t,ht,h1,h2,h3⟩:=qqq hs hn
 refine⟨t,ht,h3,?_⟩
 have fin:Ev fun φ=>Z151.j3 (mkR (run E (φ 0))) (φ 0) (φ 2) s (t:Int) false o=some ⟨o_Z151,((o.take t++[s]++o.drop t,()),())⟩:=by
  simp only[Z151.j3_eq _ qag]
  refine qaH rfl (qau (by simp only[Bool.and_eq_true,decide_eq_true_eq];omega) ?_)
  simp only[Int.toNat_natCast,List.nil_append]
  refine qau (by simp only[List.length_nil,List.length_take,decide_eq_true_eq];omega) (qaa (qiu s hs1) (qau (by simp only[List.length_take,List.length_singleton,decide_eq_true_eq];omega) (qau (by simp only[Bool.and_eq_true,decide_eq_true_eq];omega) (qau (by simp only[List.length_append,List.length_take,List.length_drop,List.length_singleton,decide_eq_true_eq];omega) qan))))
 have key:∀ d i,i+d=t→Ev fun φ=>Z151.l2 (mkR (run E (φ 0))) (φ 0) (φ 2) s (i:Int) o=some ⟨o_Z151,((o.take t++[s]++o.drop t,()),())⟩:=by
  intro d
  induction d with
  | zero =>
   intro i hi
   obtain rfl:i=t:=by omega
   refine Ev.round 2 (L:=fun φ n=>Z151.l2 (mkR (run E (φ 0))) (φ 0) n s (i:Int) o) ?_ (fun _ _ _=>rfl)
   simp only[Z151.l2_succ _ qag]
   by_cases hlt:i<o.length
   ·refine qaE (decide_eq_true (by omega)) (qaf (qap hlt) (qaa (qcB _ s (qbS ho hlt)) ?_))
    rw[qat (h2 hlt)]
    exact fin
   ·exact qaH (decide_eq_false (by omega)) fin
  | succ d ih =>
   intro i hi
   have hlt:i<o.length:=by omega
   refine Ev.round 2 (L:=fun φ n=>Z151.l2 (mkR (run E (φ 0))) (φ 0) n s (i:Int) o) ?_ (fun _ _ _=>rfl)
   simp only[Z151.l2_succ _ qag]
   refine qaE (decide_eq_true (by omega)) (qaf (qap hlt) (qaa (qcB _ s (qbS ho hlt)) ?_))
   rw[qaz (h1 i hlt (by omega))]
   simp only[Z151.j3_eq _ qag]
   refine qaE rfl ?_
   rw[qah (by omega)]
   exact ih (i+1) (by omega)
 exact key t 0 (by omega)
theorem qp6:∀(n:Nat) (s:Sim) (c:List Sim),s.length=n+1→n≤1048575→c.length+qlU n≤1048576→Sm (.sl (.sl (.int .i64))) c→Srt c→Cl c →
    ∃ c',Ret E n_Z151 [dC (c,()),dL s] ⟨o_Z151,((c',()),())⟩∧Srt c'∧(∀ x,x∈c'↔x∈c∨Fa x s)∧c'.length≤c.length+qlU n:=by
  intro n
  induction n with
  | zero =>
    intro s c hn hb hl hc hs hcl
    have hs1:s.length≤1048576:=by omega
    have hne:s≠[]:=fun e=>by rw[e] at hn;simp at hn
    by_cases hm:s∈c
    · refine⟨c,?_,hs,fun x=>⟨.inl,fun h=>h.elim id fun h=>hcl s hm x h⟩,by omega⟩
      refine qal ?_
      simp only[run_Z151,Z151.ev]
      exact qaa (qcj (c,()) s hc) (qaE (decide_eq_true (qaT.2 hm)) qan)
    · obtain⟨t,ht,h3,h4⟩:=qlY s c id hs1 hc (by unfold qlU at hl;omega) hs hm
      refine⟨_,?_,h3,fun x=>?_,by simp[qlU];omega⟩
      · refine qal ?_
        simp only[run_Z151,Z151.ev]
        refine qaa (qcj (c,()) s hc) (qaH (decide_eq_false fun h=>hm (qaT.1 h)) ?_)
        have h4:Ev fun φ=>Z151.l2 (mkR (run E (φ 0))) (φ 0) (φ 0) s 0 c=some ⟨o_Z151,((c.take t++[s]++c.drop t,()),())⟩:=Ev.start (p:=fun φ n=>Z151.l2 (mkR (run E (φ 0))) (φ 0) n s 0 c=_) 2 h4 (fun _ _ _ h=>h)
        refine Ev.start (p:=fun φ n=>Z151.l0 (mkR (run E (φ 0))) (φ 0) n s 0 c=_) 1 ?_ (fun _ _ _ h=>h)
        refine Ev.round 1 (L:=fun φ n=>Z151.l0 (mkR (run E (φ 0))) (φ 0) n s 0 c) ?_ (fun _ _ _=>rfl)
        simp only[Z151.l0_succ _ qag,Z151.j1_eq _ qag]
        refine qaE (decide_eq_true (by omega)) (qaH (decide_eq_false (by omega)) h4)
      · rw[qn7,qmZ]
        constructor
        · rintro(h | h)
          · exact .inl h
          · exact .inr (.inl ⟨h,hne⟩)
        · rintro(h | ⟨h,_⟩ | ⟨i,hi,h1,h2⟩)
          · exact .inl h
          · exact .inr h
          · have:=h2.length_le
            rw[List.length_eraseIdx,if_pos hi] at this
            exact absurd (List.length_eq_zero_iff.1 (by omega)) h1
  | succ n ih =>
    intro s c hn hb hl hc hs hcl
    have hs1:s.length≤1048576:=by omega
    have hne:s≠[]:=fun e=>by rw[e] at hn;simp at hn
    by_cases hm:s∈c
    · refine⟨c,?_,hs,fun x=>⟨.inl,fun h=>h.elim id fun h=>hcl s hm x h⟩,by omega⟩
      refine qal ?_
      simp only[run_Z151,Z151.ev]
      exact qaa (qcj (c,()) s hc) (qaE (decide_eq_true (qaT.2 hm)) qan)
    · have hadd:qlU (n+1)=(n+1+1)*qlU n+1:=rfl
      -- the qcq
      have loop:∀ d i (o:List Sim),i+d=s.length→Sm (.sl (.sl (.int .i64))) o→Srt o→Cl o→(∀ x,x∈o↔x∈c∨∃ j,j<i∧Fa x (s.eraseIdx j))→o.length≤c.length+i*qlU n→s.length*qlU n+1+c.length≤1048576 →
          ∃ c',(Ev fun φ=>Z151.l0 (mkR (run E (φ 0))) (φ 0) (φ 1) s (i:Int) o=some ⟨o_Z151,((c',()),())⟩)∧Srt c'∧(∀ x,x∈c'↔x∈c∨Fa x s)∧c'.length≤c.length+s.length*qlU n+1:=by
        intro d
        induction d with
        | zero =>
          intro i o hi ho1 ho2 ho3 ho4 ho5 hbig
          obtain rfl:i=s.length:=by omega
          have hn2:s∉o:=fun h=>by
            rcases(ho4 s).1 h with h | ⟨j,hj,h⟩
            · exact hm h
            · have:=qj9 h
              rw[List.length_eraseIdx,if_pos hj] at this
              omega
          obtain⟨t,ht,h3,h4⟩:=qlY s o id hs1 ho1 (by omega) ho2 hn2
          refine⟨_,?_,h3,fun x=>?_,by simp;omega⟩
          · have h4:Ev fun φ=>Z151.l2 (mkR (run E (φ 0))) (φ 0) (φ 0) s 0 o=some ⟨o_Z151,((o.take t++[s]++o.drop t,()),())⟩:=Ev.start (p:=fun φ n=>Z151.l2 (mkR (run E (φ 0))) (φ 0) n s 0 o=_) 2 h4 (fun _ _ _ h=>h)
            refine Ev.round 1 (L:=fun φ n=>Z151.l0 (mkR (run E (φ 0))) (φ 0) n s (s.length:Int) o) ?_ (fun _ _ _=>rfl)
            simp only[Z151.l0_succ _ qag,Z151.j1_eq _ qag]
            exact qaH (decide_eq_false (by omega)) (qaH rfl h4)
          · rw[qn7,ho4,qmZ]
            constructor
            · rintro((h | ⟨j,hj,h⟩) | h)
              · exact .inl h
              · exact .inr (.inr ⟨j,hj,h⟩)
              · exact .inr (.inl ⟨h,hne⟩)
            · rintro(h | ⟨h,_⟩ | ⟨j,hj,h⟩)
              · exact .inl (.inl h)
              · exact .inr h
              · exact .inl (.inr ⟨j,hj,h⟩)
        | succ d ihd =>
          intro i o hi ho1 ho2 ho3 ho4 ho5 hbig
          have hil:i<s.length:=by omega
          have hel:(s.eraseIdx i).length=n+1:=by rw[List.length_eraseIdx,if_pos hil];omega
          have hmul:(i+1)*qlU n≤s.length*qlU n:=Nat.mul_le_mul_right _ (by omega)
          rw[Nat.add_mul,Nat.one_mul] at hmul
          obtain⟨o',hr,hs',hm',hl'⟩:=ih (s.eraseIdx i) o hel (by omega) (by omega) ho1 ho2 ho3
          obtain⟨c',hc1,hc2⟩:=ihd (i+1) o' (by omega) ⟨by show o'.length≤1048576;omega,fun x hx=>by
              rcases(hm' x).1 hx with h | h
              · exact ho1.2 x h
              · have:=qj9 h
                exact⟨by show x.length≤1048576;omega,fun _ _=>trivial⟩⟩ hs' (fun y hy x hx=>(hm' x).2 (by
              rcases(hm' y).1 hy with h | h
              · exact .inl (ho3 y h x hx)
              · exact .inr (qjj hx h))) (fun x=>by
              rw[hm',ho4]
              constructor
              · rintro((h | ⟨j,hj,h⟩) | h)
                · exact .inl h
                · exact .inr ⟨j,by omega,h⟩
                · exact .inr ⟨i,by omega,h⟩
              · rintro(h | ⟨j,hj,h⟩)
                · exact .inl (.inl h)
                · by_cases e:j=i
                  · subst e;exact .inr h
                  · exact .inl (.inr ⟨j,by omega,h⟩)) (by rw[Nat.add_mul,Nat.one_mul];omega) hbig
          refine⟨c',?_,hc2⟩
          refine Ev.round 1 (L:=fun φ n=>Z151.l0 (mkR (run E (φ 0))) (φ 0) n s (i:Int) o) ?_ (fun _ _ _=>rfl)
          simp only[Z151.l0_succ _ qag,Z151.j1_eq _ qag]
          refine qaE (decide_eq_true (by omega)) (qaE (decide_eq_true (by omega)) (qaa (qeS s i hil hs1) (qaa hr ?_)))
          rw[qah (by omega)]
          exact hc1
      have hbig:s.length*qlU n+1+c.length≤1048576:=by rw[hn];rw[hadd] at hl;omega
      obtain⟨c',h1,h2,h3,h4⟩:=loop s.length 0 c (by omega) hc hs hcl (fun x=>⟨.inl,fun h=>h.elim id fun⟨j,hj,_⟩=>by omega⟩) (by omega) hbig
      refine⟨c',?_,h2,h3,?_⟩
      · refine qal ?_
        simp only[run_Z151,Z151.ev]
        refine qaa (qcj (c,()) s hc) (qaH (decide_eq_false fun h=>hm (qaT.1 h)) ?_)
        exact Ev.start (p:=fun φ n=>Z151.l0 (mkR (run E (φ 0))) (φ 0) n s 0 c=_) 1 h1 (fun _ _ _ h=>h)
      · rw[hadd,← hn];omega
theorem qlD(l:List Sim)(hl:l.length≤1024)(hx:∀ s∈l,1≤s.length∧s.length≤4) :
    ∃ c',Ret E n_Z143 [dLL l] ⟨o_Z143,(c',())⟩∧Srt c'∧(∀ x,x∈c'↔∃ s∈l,Fa x s)∧c'.length≤41*l.length:=by
  have loop:∀ d i (o:List Sim),i+d=l.length→Srt o→(∀ x,x∈o↔∃ s∈l.take i,Fa x s)→o.length≤41*i →
      ∃ c',(Ev fun φ=>Z143.l0 (mkR (run E (φ 0))) (φ 0) (φ 1) l (i:Int) o=some ⟨o_Z143,(c',())⟩)∧Srt c'∧(∀ x,x∈c'↔∃ s∈l,Fa x s)∧c'.length≤41*l.length:=by
    intro d
    induction d with
    | zero =>
      intro i o hi h1 h2 h3
      obtain rfl:i=l.length:=by omega
      rw[List.take_length] at h2
      refine⟨o,?_,h1,h2,h3⟩
      refine Ev.round 1 (L:=fun φ n=>Z143.l0 (mkR (run E (φ 0))) (φ 0) n l (l.length:Int) o) ?_ (fun _ _ _=>rfl)
      simp only[Z143.l0_succ _ qag]
      exact qaH (decide_eq_false (by omega)) qan
    | succ d ih =>
      intro i o hi h1 h2 h3
      have hil:i<l.length:=by omega
      obtain⟨g1,g2⟩:=hx _ (List.getElem_mem hil)
      have hadd:qlU (l[i].length-1)≤41:=by
        have:l[i].length-1=0∨l[i].length-1=1∨l[i].length-1=2∨l[i].length-1=3:=by omega
        rcases this with e | e | e | e<;>rw[e]<;>decide
      have hlen:∀ x∈o,x.length≤4:=fun x hx'=>by
        obtain⟨s,hs,hf⟩:=(h2 x).1 hx'
        have:=(hx s (List.mem_of_mem_take hs)).2
        have:=qj9 hf
        omega
      obtain⟨o',hr,hs',hm',hl'⟩:=qp6 (l[i].length-1) l[i] o (by omega) (by omega) (by omega) ⟨by show o.length≤1048576;omega,fun x hx'=>by have:=hlen x hx';exact⟨by show x.length≤1048576;omega,fun _ _=>trivial⟩⟩ h1 (fun y hy x hxy=>by
        obtain⟨s,hs,hf⟩:=(h2 y).1 hy
        exact(h2 x).2 ⟨s,hs,qjj hxy hf⟩)
      obtain⟨c',hc1,hc2⟩:=ih (i+1) o' (by omega) hs' (fun x=>by
        rw[hm',h2,List.take_succ_eq_append_getElem hil]
        constructor
        · rintro(⟨s,hs,h⟩ | h)
          · exact⟨s,List.mem_append.2 (.inl hs),h⟩
          · exact⟨_,List.mem_append.2 (.inr (List.mem_singleton.2 rfl)),h⟩
        · rintro⟨s,hs,h⟩
          rcases List.mem_append.1 hs with hs | hs
          · exact .inl ⟨s,hs,h⟩
          · rw[List.mem_singleton] at hs;subst hs;exact .inr h) (by omega)
      refine⟨c',?_,hc2⟩
      refine Ev.round 1 (L:=fun φ n=>Z143.l0 (mkR (run E (φ 0))) (φ 0) n l (i:Int) o) ?_ (fun _ _ _=>rfl)
      simp only[Z143.l0_succ _ qag]
      refine qaE (decide_eq_true (by omega)) (qaf (qap hil) (qaa hr ?_))
      rw[qah (by omega)]
      exact hc1
  obtain⟨c',h1,h2⟩:=loop l.length 0 [] (by omega) (fun i j hj=>by simp at hj) (fun x=>by simp) (by simp)
  refine⟨c',?_,h2⟩
  refine qal ?_
  simp only[run_Z143,Z143.ev]
  exact Ev.start (p:=fun φ n=>Z143.l0 (mkR (run E (φ 0))) (φ 0) n l 0 []=_) 1 h1 (fun _ _ _ h=>h)
end VeT
open Go Go.Proofs Ve
namespace VeT
def EvQ(A:(Nat→Nat)→Option Dv)(out:Ty)(Q:out.T→Prop):Prop:=∃ x,(Ev fun φ=>A φ=some ⟨out,x⟩)∧Q x
def qjO(f:Nat)(args:List Dv)(out:Ty)(Q:out.T→Prop):Prop:=∃ x,Ret E f args ⟨out,x⟩∧Q x
theorem qbY{f:Nat}{args:List Dv}{out:Ty}{Q:out.T→Prop}(h:EvQ (fun φ=>run E (φ 0+1) f args) out Q):qjO f args out Q:=let ⟨x,h1,h2⟩:=h;⟨x,qal h1,h2⟩
theorem qa6{out:Ty}{Q:out.T→Prop}{x:out.T}(h:Q x):EvQ (fun _=>some ⟨out,x⟩) out Q:=⟨x,qan,h⟩
theorem qbB{f:Nat}{o:Ty}{args:List Dv}{x:o.T}{out:Ty}{Q:out.T→Prop}{K:(Nat→Nat)→o.T→Option Dv}(h:Ret E f args ⟨o,x⟩)(k:EvQ (fun φ=>K φ x) out Q) :
  EvQ (fun φ=>(Option.bind (qce (mkR (run E (φ 0))) f o args) fun y=>K φ y)) out Q:=let ⟨z,h1,h2⟩:=k;⟨z,qaa h h1,h2⟩
theorem qcy{f:Nat}{o:Ty}{args:List Dv}{P:o.T→Prop}{out:Ty}{Q:out.T→Prop}{K:(Nat→Nat)→o.T→Option Dv}(h:qjO f args o P)(k:∀ x,P x→EvQ (fun φ=>K φ x) out Q) :
  EvQ (fun φ=>(Option.bind (qce (mkR (run E (φ 0))) f o args) fun y=>K φ y)) out Q:=let ⟨x,h1,h2⟩:=h;qbB h1 (k x h2)
theorem qbW{α:Type}{c:Option α}{x:α}{K:(Nat→Nat)→α→Option Dv}{out:Ty}{Q:out.T→Prop}(h:c=some x)(k:EvQ (fun φ=>K φ x) out Q) :
  EvQ (fun φ=>(Option.bind c fun y=>K φ y)) out Q:=let ⟨z,h1,h2⟩:=k;⟨z,qaf h h1,h2⟩
theorem qb3{b:Bool}{K:(Nat→Nat)→Unit→Option Dv}{out:Ty}{Q:out.T→Prop}(h:b=true)(k:EvQ (fun φ=>K φ ()) out Q) :
  EvQ (fun φ=>(Option.bind (chk b) fun y=>K φ y)) out Q:=let ⟨z,h1,h2⟩:=k;⟨z,qau h h1,h2⟩
theorem qoP{b:Bool}{A B:(Nat→Nat)→Option Dv}{out:Ty}{Q:out.T→Prop}(h:b=true)(k:EvQ A out Q):EvQ (fun φ=>bif b then A φ else B φ) out Q:=by subst h;exact k
theorem qey{b:Bool}{A B:(Nat→Nat)→Option Dv}{out:Ty}{Q:out.T→Prop}(h:b=false)(k:EvQ B out Q):EvQ (fun φ=>bif b then A φ else B φ) out Q:=by subst h;exact k
theorem qlA{b:Bool}{A B:(Nat→Nat)→Option Dv}{out:Ty}{Q:out.T→Prop}(t:b=true→EvQ A out Q)(f:b=false→EvQ B out Q):EvQ (fun φ=>bif b then A φ else B φ) out Q:=by
 cases b
 ·exact f rfl
 ·exact t rfl
theorem qgK{p:Prop}[Decidable p]{A B:(Nat→Nat)→Option Dv}{out:Ty}{Q:out.T→Prop}(t:p→EvQ A out Q)(f:¬ p→EvQ B out Q):EvQ (fun φ=>bif decide p then A φ else B φ) out Q :=
 qlA (fun h=>t (of_decide_eq_true h)) fun h=>f (of_decide_eq_false h)
theorem EvQ.round(l:Nat){L:(Nat→Nat)→Nat→Option Dv}{out:Ty}{Q:out.T→Prop}(h:EvQ (fun φ=>L φ (φ l+1)) out Q)(hind:∀ φ n n',L (fup φ l n') n=L φ n):EvQ (fun φ=>L φ (φ l)) out Q :=
 let ⟨z,h1,h2⟩:=h;⟨z,Ev.round l h1 hind,h2⟩
theorem EvQ.start(l:Nat){L:(Nat→Nat)→Nat→Option Dv}{out:Ty}{Q:out.T→Prop}(h:EvQ (fun φ=>L φ (φ l)) out Q)(hind:∀ φ n n',L (fup φ l n') n=L φ n):EvQ (fun φ=>L φ (φ 0)) out Q :=
 let ⟨z,h1,h2⟩:=h;⟨z,Ev.start (p:=fun φ n=>L φ n=_) l h1 (fun φ n n' h=>by rw[hind] at h;exact h),h2⟩
theorem EvQ.loop(l:Nat){σ:Type}{L:(Nat→Nat)→Nat→σ→Option Dv}{out:Ty}{Q:out.T→Prop}(hind:∀ φ n n' s,L (fup φ l n') n s=L φ n s)(Inv:σ→Prop)(μ:σ→Nat)
  (step:∀ s,Inv s→(∀ s',Inv s'→μ s'<μ s→EvQ (fun φ=>L φ (φ l) s') out Q)→EvQ (fun φ=>L φ (φ l+1) s) out Q):∀ s,Inv s→EvQ (fun φ=>L φ (φ l) s) out Q:=by
 have key:∀ d s,μ s<d→Inv s→EvQ (fun φ=>L φ (φ l) s) out Q:=by
  intro d
  induction d with
  | zero=>intro s h;omega
  | succ d ih =>
   intro s hd hi
   exact EvQ.round l (L:=fun φ n=>L φ n s) (step s hi fun s' hi' hl=>ih s' (by omega) hi') (fun φ n n'=>hind φ n n' s)
 exact fun s=>key _ s (Nat.lt_succ_self _)
abbrev Src:=List Int×Int×Int×Unit
abbrev cR:Ty:=.cons (.sl (.int .u8)) (.cons (.int .i64) (.cons (.int .u64) .nil))
abbrev dR(s:Src):Dv:=⟨.ptr cR,s⟩
abbrev dB(s:List Int):Dv:=⟨.sl (.int .u8),s⟩
def SO(n:Nat)(s:Src):Prop:=(∀ b∈s.1,0≤b∧b≤255)∧0≤s.2.1∧s.2.1≤(n:Int)
theorem SO.le{n m:Nat}{s:Src}(h:SO n s)(hm:n≤m):SO m s:=⟨h.1,h.2.1,by have:=h.2.2;omega⟩
theorem qhg(c:List Int):Ret E n_Z127 [dB c] ⟨o_Z127,((c,0,0,()),())⟩:=by
 refine qal ?_
 simp only[run_Z127,Z127.ev]
 exact Ev.of fun _=>trivial
theorem qpr(x:BitVec (IntKind.bits .u64)):0≤w64 (IntKind.wrap .u64 (BitVec.toNat (x &&& BitVec.ofInt (IntKind.bits .u64) (255:Int))))∧w64 (IntKind.wrap .u64 (BitVec.toNat (x &&& BitVec.ofInt (IntKind.bits .u64) (255:Int))))≤255:=by
 have h:(x &&& BitVec.ofInt (IntKind.bits .u64) (255:Int)).toNat≤255:=by
  rw[BitVec.toNat_and]
  have:(BitVec.ofInt (IntKind.bits .u64) (255:Int)).toNat=255:=by decide
  rw[this]
  exact Nat.and_le_right
 rw[qkk (by omega) (by omega),qai (by omega) (by omega)]
 omega
theorem qlI(n:Nat)(s:Src)(hn:n≤1152921504606846976)(hs:SO n s):qjO n_Z134 [dR s] o_Z134 fun(r:Int×Src×Unit)=>0≤r.1∧r.1≤255∧SO (n+1) r.2.1:=by
 obtain⟨c,a,g,⟨⟩⟩:=s
 obtain⟨h1,h2,h3⟩:=hs
 simp only at h1 h2 h3
 have ha:w64 (a+1)=a+1:=qai (by omega) (by omega)
 have hj:∀ b:Int,0≤b→b≤255→EvQ (fun φ=>Z134.j0 (mkR (run E (φ 0))) (φ 0) b c a g) o_Z134 fun(r:Int×Src×Unit)=>0≤r.1∧r.1≤255∧SO (n+1) r.2.1:=by
  intro b hb1 hb2
  simp only[Z134.j0_eq _ qag,ha]
  refine qgK (fun h=>qa6 ⟨hb1,hb2,h1,?_,?_⟩) fun h=>?_
  ·show 0≤a+1;omega
  ·show a+1≤((n+1:Nat):Int);omega
  ·refine qb3 (by decide) (qa6 ⟨?_,?_,h1,?_,?_⟩)
   ·exact(qpr _).1
   ·exact(qpr _).2
   ·show 0≤a+1;omega
   ·show a+1≤((n+1:Nat):Int);omega
 refine qbY ?_
 simp only[run_Z134,Z134.ev]
 refine qgK (fun h=>?_) fun h=>hj 0 (by omega) (by omega)
 obtain⟨k,rfl⟩:∃ k:Nat,a=(k:Int):=⟨a.toNat,by omega⟩
 have hk:k<c.length:=by omega
 have hb:=h1 _ (List.getElem_mem hk)
 refine qbW (qap hk) ?_
 have e:w64 c[k]=c[k]:=qai (by omega) (by omega)
 have:=hj _ hb.1 hb.2
 rw[← e] at this
 exact this
theorem qdz(n:Nat)(s:Src)(k:Int)(hn:n≤1000000000000)(hs:SO n s):qjO n_Z136 [dR s,dI k] o_Z136 fun(r:Int×Src×Unit)=>0≤r.1∧(r.1<k∨r.1=0)∧r.1≤65535∧SO (n+2) r.2.1:=by
 obtain⟨c,a,g,⟨⟩⟩:=s
 refine qbY ?_
 simp only[run_Z136,Z136.ev]
 refine qgK (fun h=>qa6 ⟨Int.le_refl _,.inr rfl,(by show(0:Int)≤65535;decide),hs.le (by omega)⟩) fun h=>?_
 have hk:0<k:=by omega
 have tm:∀ x:Int,0≤x→0≤Int.tmod x k∧Int.tmod x k<k∧Int.tmod x k≤x:=fun x hx=>by
  rw[Int.tmod_eq_emod_of_nonneg hx]
  have h1:=Int.mul_ediv_add_emod x k
  have h2:0≤k*(x / k):=Int.mul_nonneg (by omega) (Int.ediv_nonneg hx (by omega))
  generalize k*(x / k)=y at h1 h2
  exact⟨Int.emod_nonneg _ (by omega),Int.emod_lt_of_pos _ hk,by omega⟩
 have hne:(k != 0)=true:=by simp;omega
 refine qcy (qlI n _ (by omega) hs) fun(r:Int×Src×Unit) ⟨r1,r2,r3⟩=>?_
 refine qgK (fun h2=>?_) fun h2=>?_
 ·refine qcy (qlI (n+1) _ (by omega) r3) fun(q:Int×Src×Unit) ⟨q1,q2,q3⟩=>?_
  refine qb3 hne (qa6 ?_)
  have e1:w64 (r.1*256)=r.1*256:=qai (by omega) (by omega)
  have e2:w64 (r.1*256+q.1)=r.1*256+q.1:=qai (by omega) (by omega)
  have:=tm (r.1*256+q.1) (by omega)
  refine⟨?_,.inl ?_,?_,q3⟩
  ·show 0≤Int.tmod _ _;rw[e1,e2];exact this.1
  ·show Int.tmod _ _<_;rw[e1,e2];exact this.2.1
  ·show Int.tmod _ _≤_;rw[e1,e2];omega
 ·have:=tm r.1 r1
  exact qb3 hne (qa6 ⟨this.1,.inl this.2.1,(by show Int.tmod _ _≤_;omega),r3.le (by omega)⟩)
theorem qpR(n:Nat)(s:Src)(k:Int)(hn:n≤1000000000000)(hs:SO n s):qjO n_Z135 [dR s,dI k] o_Z135 fun(r:Bool×Src×Unit)=>SO (n+2) r.2.1:=by
 obtain⟨c,a,g,⟨⟩⟩:=s
 refine qbY ?_
 simp only[run_Z135,Z135.ev]
 exact qcy (qdz n _ k hn hs) fun(r:Int×Src×Unit) ⟨r1,r2,r3,r4⟩=>qa6 r4
theorem qnW(n:Nat)(s:Src)(l:List Int)(hl:l≠[])(hn:n≤1000000000000)(hs:SO n s):qjO n_Z133 [dR s,dL l] o_Z133 fun(r:Int×Src×Unit)=>r.1∈l∧SO (n+2) r.2.1:=by
 obtain⟨c,a,g,⟨⟩⟩:=s
 have:0<l.length:=List.length_pos_iff.2 hl
 refine qbY ?_
 simp only[run_Z133,Z133.ev]
 refine qcy (qdz n _ _ hn hs) fun(r:Int×Src×Unit) ⟨r1,r2,r3,r4⟩=>?_
 obtain⟨k,hk⟩:∃ k:Nat,r.1=(k:Int):=⟨r.1.toNat,by omega⟩
 have hkl:k<l.length:=by omega
 rw[hk]
 exact qbW (qap hkl) (qa6 ⟨List.getElem_mem hkl,r4⟩)
end VeT
open Go Go.Proofs Ve
namespace VeT
theorem qlv{c:List Sim}(hs:Srt c)(hv:VC c){t:Nat}(ht:t<(qaN c c.length).length) :
  ∃ k i f:Nat,k<c.length∧i<(qaK c k).length∧f<c.length∧(qaN c c.length)[t]=((k:Int),(i:Int),(f:Int),()):=by
 obtain⟨k,i,h1,h2,h3⟩:=qhk ht
 obtain⟨f,f1,f2,f3⟩:=qfH hs hv h1 h2
 refine⟨k,i,f,h1,h2,f1,?_⟩
 have:=qcb h1 h2
 rw[← h3,List.getElem?_eq_getElem ht,f3] at this
 exact Option.some.inj this
theorem qgR{c:List Sim}(hv:VC c):(qaN c c.length).length≤192:=by
 have h:=hv.plc (k:=c.length) (Nat.le_refl _)
 have:=hv.1
 unfold plc at h
 omega
theorem qgI(c:List Sim)(p:Int)(st:Sim)(hc:Sm (.sl (.sl (.int .i64))) c)(hv:VC c)(hl:st.length=c.length)(hst:∀ x∈st,0≤x∧x≤3) :
  Ret E n_Z73 [dLL c,dI p,dL st,⟨.fn n_Z12 (.cons (.ptr (.cons (.int .i64) .nil)) (.cons (.ptr (.cons (.sl (.int .i64)) .nil)) .nil)),((p,()),(st,()),())⟩] ⟨o_Z73,(c,p,st,(qaN c c.length).map (zOf p st),())⟩:=by
 have hs:=hv.srt
 have h192:=qgR hv
 have h48:=hv.1
 have hr:∀ t (ht:t<(qaN c c.length).length),Ret E n_Z12 [dI (qaN c c.length)[t].1,dI (qaN c c.length)[t].2.1,dI (qaN c c.length)[t].2.2.1,⟨.ptr (.cons (.int .i64) .nil),(p,())⟩,⟨.ptr (.cons (.sl (.int .i64)) .nil),(st,())⟩] ⟨o_Z12,zOf p st (qaN c c.length)[t]⟩:=fun t ht=>by
  obtain⟨k,i,f,h1,h2,h3,e⟩:=qlv hs hv ht
  rw[e]
  obtain⟨a,ha,ea,hka,eka⟩:=qdZ hl hst h1
  obtain⟨b,hb,eb,hfb,efb⟩:=qdZ hl hst h3
  have hz:=qmc p a b (by omega) (by omega)
  have e2:zOf p st ((k:Int),(i:Int),(f:Int),())=(p,(a:Int),(b:Int),List.replicate (a*b) 0,()):=by
   unfold zOf
   simp only[Int.toNat_natCast,ea,eb]
  rw[e2]
  refine qal ?_
  simp only[run_Z12,Z12.ev]
  refine qaf (qap hka) (qaf (qap hfb) ?_)
  simp only[eka,efb]
  exact qaa hz qan
 refine qal ?_
 simp only[run_Z73,Z75.ev]
 refine qaa (qeV c hc hs) (qaa (qcu st (by omega)) (qaa (qer c hc hv) ?_))
 refine Ev.start (p:=fun φ n=>Z75.l0 (mkR (run E (φ 0))) (φ 0) n ((p,()),(st,()),()) (qaN c c.length) ((qaN c c.length).length:Int) 0 0 p [] c st=_) 1 ?_ (fun _ _ _ h=>h)
 refine qaw 1 (L:=fun φ n k o=>Z75.l0 (mkR (run E (φ 0))) (φ 0) n ((p,()),(st,()),()) (qaN c c.length) ((qaN c c.length).length:Int) k 0 p o c st) (len:=(qaN c c.length).length) (fun k=>((qaN c c.length).take k).map (zOf p st)) (fun _ _ _ _ _=>rfl) (fun k r hk ih=>?_) ?_
 ·simp only[Z75.l0_succ _ qag]
  rw[List.take_succ_eq_append_getElem hk,List.map_append,List.map_singleton] at ih
  have hcells:(zOf p st (qaN c c.length)[k]).2.2.2.1.length≤1048576:=by
   obtain⟨q,i,f,h1,h2,h3,e⟩:=qlv hs hv hk
   rw[e]
   obtain⟨a,ha,ea,_⟩:=qdZ hl hst h1
   obtain⟨b,hb,eb,_⟩:=qdZ hl hst h3
   unfold zOf
   simp only[Int.toNat_natCast,ea,eb,List.length_replicate]
   have:=Nat.mul_le_mul ha hb
   omega
  refine qaE (decide_eq_true (by omega)) (qaf (qap hk) (qaa (hr k hk) (qaa (qdc _ hcells) (qau (by simp only[List.length_map,List.length_take,List.length_singleton,decide_eq_true_eq];omega) ?_))))
  rw[qah (by omega)];exact ih
 ·simp only[Z75.l0_succ _ qag]
  refine qaH (decide_eq_false (by omega)) (qam ?_)
  rw[List.take_of_length_le (Nat.le_refl _)]
theorem qgE(c:List Sim)(p:Int)(st:Sim)(n:Nat)(hn:n≤3)(hc:Sm (.sl (.sl (.int .i64))) c)(hv:VC c)(hl:st.length=c.length) :
  Ret E n_Z73 [dLL c,dI p,dL st,⟨.fn n_Z7 (.cons (.ptr (.cons (.int .i64) .nil)) (.cons (.ptr (.cons (.int .i64) .nil)) .nil)),((p,()),((n:Int),()),())⟩] ⟨o_Z73,(c,p,st,List.replicate (qaN c c.length).length (qdj p n),())⟩:=by
 have hs:=hv.srt
 have h192:=qgR hv
 have h48:=hv.1
 have hr:∀ t (ht:t<(qaN c c.length).length),Ret E n_Z7 [dI (qaN c c.length)[t].1,dI (qaN c c.length)[t].2.1,dI (qaN c c.length)[t].2.2.1,⟨.ptr (.cons (.int .i64) .nil),(p,())⟩,⟨.ptr (.cons (.int .i64) .nil),((n:Int),())⟩] ⟨o_Z7,qdj p n⟩:=fun t ht=>by
  refine qal ?_
  simp only[run_Z7,Z7.ev]
  exact qaa (ql7 p n (by omega)) qan
 refine qal ?_
 simp only[run_Z73,Z74.ev]
 refine qaa (qeV c hc hs) (qaa (qcu st (by omega)) (qaa (qer c hc hv) ?_))
 refine Ev.start (p:=fun φ m=>Z74.l0 (mkR (run E (φ 0))) (φ 0) m ((p,()),((n:Int),()),()) (qaN c c.length) ((qaN c c.length).length:Int) 0 0 p [] c st=_) 1 ?_ (fun _ _ _ h=>h)
 refine qaw 1 (L:=fun φ m k o=>Z74.l0 (mkR (run E (φ 0))) (φ 0) m ((p,()),((n:Int),()),()) (qaN c c.length) ((qaN c c.length).length:Int) k 0 p o c st) (len:=(qaN c c.length).length) (fun k=>List.replicate k (qdj p n)) (fun _ _ _ _ _=>rfl) (fun k r hk ih=>?_) ?_
 ·simp only[Z74.l0_succ _ qag]
  rw[List.replicate_succ'] at ih
  have hcells:(qdj p n).2.2.2.1.length≤1048576:=by
   unfold qdj
   simp only[qaC]
   have:=Nat.mul_le_mul hn hn
   omega
  refine qaE (decide_eq_true (by omega)) (qaf (qap hk) (qaa (hr k hk) (qaa (qdc _ hcells) (qau (by simp only[List.length_replicate,List.length_singleton,decide_eq_true_eq];omega) ?_))))
  rw[qah (by omega)];exact ih
 ·simp only[Z74.l0_succ _ qag]
  exact qaH (decide_eq_false (by omega)) qan
end VeT
open Go Go.Proofs Ve
namespace VeT
def qgT:List Int→Int→List Int
 | [],n=>[n]
 | x::r,n=>if x<n then x::qgT r n else if n<x then n::x::r else x::r
theorem qgO:∀ {l:List Int} {n y:Int},y∈qgT l n↔y=n∨y∈l
 | [],n,y=>by simp[qgT]
 | x::r,n,y=>by
  unfold qgT
  split
  ·rw[List.mem_cons,qgO,List.mem_cons]
   constructor
   ·rintro(h | h | h)
    ·exact .inr (.inl h)
    ·exact .inl h
    ·exact .inr (.inr h)
   ·rintro(h | h | h)
    ·exact .inr (.inl h)
    ·exact .inl h
    ·exact .inr (.inr h)
  ·split
   ·rw[List.mem_cons]
   ·have:x=n:=by omega
    subst this
    rw[List.mem_cons]
    exact⟨fun h=>.inr h,fun h=>h.elim (fun h=>.inl h) id⟩
theorem qkV:∀ {l:List Int} {n:Int},l.Pairwise (·<·)→(qgT l n).Pairwise (·<·)
 | [],n,_=>by simp[qgT]
 | x::r,n,h=>by
  rw[List.pairwise_cons] at h
  unfold qgT
  split
  ·rw[List.pairwise_cons]
   refine⟨fun y hy=>?_,qkV h.2⟩
   rcases qgO.1 hy with rfl | hy
   ·assumption
   ·exact h.1 y hy
  ·split
   ·rw[List.pairwise_cons]
    refine⟨fun y hy=>?_,List.pairwise_cons.2 h⟩
    rcases List.mem_cons.1 hy with rfl | hy
    ·assumption
    ·have:=h.1 y hy;omega
   ·exact List.pairwise_cons.2 h
theorem qib:∀ {l:List Int} {n:Int},(qgT l n).length≤l.length+1
 | [],n=>by simp[qgT]
 | x::r,n=>by
  unfold qgT
  split
  ·have:=qib (l:=r) (n:=n);simp;exact this
  ·split<;>simp
theorem VC.get{c:List Sim}(h:VC c){s:Sim}(hs:s∈c):Vx s:=by
 obtain⟨k,hk,rfl⟩:=List.mem_iff_getElem.1 hs
 have:=h.2.1 k hk
 rwa [qad hk] at this
noncomputable def qrn(vs im:List Int)(v:Int):Int:=match vs.findIdx? (fun x=>pb (x=v)) with
 | some i=>im.getD i (-1)
 | none=>-1
theorem qmu(l:Sim)(n:Int)(hl:l.length≤1048576):Ret E n_Z130 [dL l,dI n] ⟨o_Z130,(qgT l n,())⟩:=by
  refine qal ?_
  simp only[run_Z130,Z130.ev]
  refine Ev.start (p:=fun φ N=>Z130.l0 (mkR (run E (φ 0))) (φ 0) N l n false 0 []=_) 1 ?_ (fun _ _ _ h=>h)
  refine(qe2 1 (σ:=Bool×Nat×List Int) (L:=fun φ N st=>Z130.l0 (mkR (run E (φ 0))) (φ 0) N l n st.1 (st.2.1:Int) st.2.2) (fun _ _ _ _=>rfl) (fun st=>st.2.1≤l.length∧st.2.2.length≤st.2.1+(bif st.1 then 1 else 0))
    (fun st=>some ⟨o_Z130,(st.2.2++(bif st.1 then l.drop st.2.1 else qgT (l.drop st.2.1) n),())⟩) (fun st=>l.length-st.2.1) (fun st hi ih=>?_) (false,0,[]) ⟨Nat.zero_le _,Nat.zero_le _⟩).to (by simp only[List.nil_append,cond_false,List.drop_zero])
  obtain⟨d,i,o⟩:=st
  obtain⟨h1,h2⟩:=hi
  simp only at h1 h2 ih ⊢
  by_cases hlt:i<l.length
  · have ol:o.length≤i+1:=by cases d<;>simp at h2<;>omega
    have hd:l.drop i=l[i]::l.drop (i+1):=List.drop_eq_getElem_cons hlt
    -- what follows
    have step:∀(d':Bool) (o' X:List Int),o'.length≤i+(bif d' then 1 else 0)→(o'++[l[i]])++(bif d' then l.drop (i+1) else qgT (l.drop (i+1)) n)=X →
        Ev fun φ=>Z130.j2 (mkR (run E (φ 0))) (φ 0) (φ 1) l n d' (i:Int) o'=some ⟨o_Z130,(X,())⟩:=fun d' o' X hol hX=>by
      have ho2:o'.length≤i+1:=by cases d'<;>simp at hol<;>omega
      have:=ih (d',i+1,o'++[l[i]]) ⟨by show i+1≤_;omega,by
        simp only[List.length_append,List.length_singleton]
        cases d'<;>simp at hol ⊢<;>omega⟩ (by simp only;omega)
      simp only at this
      rw[hX] at this
      simp only[Z130.j2_eq _ qag]
      rw[qah (by omega)]
      exact qaf (qap hlt) (qau (by simp;omega) this)
    simp only[Z130.l0_succ _ qag]
    refine qaE (decide_eq_true (by omega)) ?_
    cases d with
    | true =>
      refine qaH rfl ?_
      have e:o++List.drop i l=(o++[l[i]])++l.drop (i+1):=by rw[hd];simp
      simp only[cond_true] at h2 ⊢
      rw[e]
      simp only[Z130.j1_eq _ qag]
      refine qaH rfl ?_
      exact step true o _ h2 (by simp only[cond_true])
    | false =>
      refine qaE rfl (qaf (qap hlt) ?_)
      simp only[cond_false,Nat.add_zero] at h2 ⊢
      simp only[Z130.j1_eq _ qag]
      refine qfa (fun hge=>?_) fun hge=>?_
      · have hge:l[i]≥n:=hge
        refine qaf (qap hlt) (qfa (fun hgt=>?_) fun hgt=>?_)
        · have e:o++qgT (List.drop i l) n=((o++[n])++[l[i]])++l.drop (i+1):=by
            rw[hd,qgT,if_neg (by omega),if_pos (show n<l[i] from hgt)];simp
          rw[e]
          exact qau (by simp;omega) (step true (o++[n]) _ (by simp;omega) (by simp only[cond_true]))
        · have hgt:¬ l[i]>n:=hgt
          have e:o++qgT (List.drop i l) n=(o++[l[i]])++l.drop (i+1):=by
            rw[hd,qgT,if_neg (by omega),if_neg (by omega)];simp
          rw[e]
          exact step true o _ (by simp;omega) (by simp only[cond_true])
      · have hge:¬ l[i]≥n:=hge
        have e:o++qgT (List.drop i l) n=(o++[l[i]])++qgT (l.drop (i+1)) n:=by
          rw[hd,qgT,if_pos (by omega)];simp
        rw[e]
        exact step false o _ (by simp;omega) (by simp only[cond_false])
  · have hi:i=l.length:=by omega
    subst hi
    simp only[Z130.l0_succ _ qag,List.drop_length]
    refine qaH (decide_eq_false (by omega)) ?_
    cases d with
    | true=>exact qaH rfl (qam (by simp only[cond_true,List.append_nil]))
    | false =>
      simp only[cond_false,Nat.add_zero] at h2 ⊢
      exact qaE rfl (qau (by simp;omega) qan)
end VeT
open Go Go.Proofs Ve
namespace VeT
def qoW:Sim→List Sim
 | []=>[[]]
 | a::s=>qoW s++(qoW s).map (a::·)
theorem qjg:∀ {x s:Sim},x.Sublist s→x∈qoW s
 | _,_,.slnil=>by simp[qoW]
 | _,_,.cons a h=>by rw[qoW];exact List.mem_append.2 (.inl (qjg h))
 | _,_,.cons_cons a h=>by rw[qoW];exact List.mem_append.2 (.inr (List.mem_map.2 ⟨_,qjg h,rfl⟩))
theorem qhD{α:Type}[DecidableEq α]:∀ {c d:List α},c.Nodup→(∀ x∈c,x∈d)→c.length≤d.length
 | [],d,_,_=>Nat.zero_le _
 | x::c,d,h,hs=>by
  obtain⟨h1,h2⟩:=List.nodup_cons.1 h
  have hx:=hs x List.mem_cons_self
  have:=qhD h2 (d:=d.erase x) fun y hy=>(List.mem_erase_of_ne (fun e=>h1 (by rw[← e];exact hy))).2 (hs y (List.mem_cons_of_mem _ hy))
  rw[List.length_erase_of_mem hx] at this
  have:=List.length_pos_of_mem hx
  rw[List.length_cons];omega
theorem Srt.nodup{c:List Sim}(h:Srt c):c.Nodup:=by
 rw[List.nodup_iff_pairwise_ne,List.pairwise_iff_getElem]
 intro i j hi hj hij e
 have:=h i j hj hij
 rw[e,qca.2 rfl] at this
 omega
theorem Vx.fa{x s:Sim}(h:Vx s)(hf:Fa x s):Vx x:=by
 refine⟨List.length_pos_iff.2 hf.1,?_,qfL (h.2.2.1.pairwise.sublist hf.2),fun y hy=>h.2.2.2 y (hf.2.subset hy)⟩
 have:=hf.2.length_le
 have:=h.2.1
 omega
theorem qmT(l:List Sim)(hl:l.length≤1024)(hx:∀ s∈l,Vx s)(hn:∀ c:List Sim,Srt c→(∀ x,x∈c↔∃ s∈l,Fa x s)→c.length≤48) :
  qjO n_Z143 [dLL l] o_Z143 fun(r:List Sim×Unit)=>VC r.1∧∀ x,x∈r.1↔∃ s∈l,Fa x s:=by
 obtain⟨c',h1,h2,h3,_⟩:=qlD l hl fun s hs=>⟨(hx s hs).1,(hx s hs).2.1⟩
 have hv:∀ x∈c',Vx x:=fun x hx'=>by
  obtain⟨s,hs,hf⟩:=(h3 x).1 hx'
  exact(hx s hs).fa hf
 have hg:∀ k,k<c'.length→c'.getD k []∈c':=fun k hk=>by
  rw[List.getD_eq_getElem?_getD,List.getElem?_eq_getElem hk];exact List.getElem_mem hk
 refine⟨(c',()),h1,⟨hn c' h2 h3, fun k hk=>hv _ (hg k hk),fun k hk1 (hk:k<c'.length)=>?_,fun k (hk:k<c'.length) f hf=>?_⟩,h3⟩
 ·have:=h2 (k-1) k hk (by omega)
  rw[List.getD_eq_getElem?_getD,List.getD_eq_getElem?_getD,List.getElem?_eq_getElem hk,List.getElem?_eq_getElem (show k-1<c'.length by omega)]
  exact this
 ·obtain⟨s,hs,hfa⟩:=(h3 _).1 (hg k hk)
  obtain⟨h1,i,hi,rfl⟩:=qcM.1 hf
  refine(h3 _).2 ⟨s,hs,qjj ⟨fun e=>?_,List.eraseIdx_sublist _ _⟩ hfa⟩
  have:=congrArg List.length e
  rw[List.length_eraseIdx_of_lt hi] at this
  rw[List.length_nil] at this
  omega
theorem VC.sm{c:List Sim}(h:VC c):Sm (.sl (.sl (.int .i64))) c:=by
 refine⟨by have:=h.1;show c.length≤1048576;omega,fun s hs=>?_⟩
 obtain⟨k,hk,rfl⟩:=List.getElem_of_mem hs
 have:=h.2.1 k hk
 rw[List.getD_eq_getElem?_getD,List.getElem?_eq_getElem hk] at this
 have:=this.2.1
 refine⟨?_,fun _ _=>trivial⟩
 show(c[k]).length≤1048576
 simp at this
 omega
theorem qhQ(n:Nat)(s:Src)(v most:Int)(hn:n≤100000000000)(hs:SO n s)(hm:1≤most∧most≤4)(hv:1≤v∧v≤10) :
  qjO n_Z146 [dR s,dI v,dI most] o_Z146 fun(r:Sim×Src×Unit)=>Vx r.1∧(r.1.length:Int)≤most∧(∀ x∈r.1,x<v)∧SO (n+12) r.2.1:=by
 obtain⟨c,a,g,⟨⟩⟩:=s
 refine qbY ?_
 simp only[run_Z146,Z146.ev]
 refine qcy (qdz n _ most (by omega) hs) fun(r:Int×Src×Unit) ⟨r1,r2,r3,r4⟩=>?_
 obtain⟨k0,hk0⟩:∃ k:Nat,(r.1:Int)=(k:Int):=⟨Int.toNat r.1,(Int.toNat_of_nonneg r1).symm⟩
 have e0:w64 (1+r.1)=((k0+1:Nat):Int):=by rw[hk0,qai (by omega) (by omega)];omega
 refine EvQ.start 1 (L:=fun φ N=>Z146.l0 (mkR (run E (φ 0))) (φ 0) N v [] (w64 (1+r.1)) r.2.1.1 r.2.1.2.1 r.2.1.2.2.1) ?_ (fun _ _ _=>rfl)
 rw[e0]
 refine EvQ.loop 1 (σ:=Sim×Nat×Src) (L:=fun φ N st=>Z146.l0 (mkR (run E (φ 0))) (φ 0) N v st.1 (st.2.1:Int) st.2.2.1 st.2.2.2.1 st.2.2.2.2.1) (fun _ _ _ _=>rfl)
  (fun st=>st.1.Pairwise (·<·)∧(∀ x∈st.1,0≤x∧x<v)∧((st.1.length+st.2.1:Nat):Int)≤most∧1≤st.1.length+st.2.1∧SO (n+10-2*st.2.1) st.2.2) (fun st=>st.2.1) (fun st hi ih=>?_) ([],k0+1,r.2.1) ⟨List.Pairwise.nil,fun x hx=>by simp at hx,?_,?_,?_⟩
 ·obtain⟨o,k,s1⟩:=st
  obtain⟨i1,i2,i3,i4,i5⟩:=hi
  simp only at i1 i2 i3 i4 i5 ih ⊢
  simp only[Z146.l0_succ _ qag]
  refine qgK (fun h=>?_) fun h=>?_
  ·refine qcy (qdz _ s1 v (by omega) i5) fun(q:Int×Src×Unit) ⟨q1,q2,q3,q4⟩=>?_
   refine qbB (qmu o q.1 (by omega)) ?_
   rw[show w64 ((k:Int)-1)=((k-1:Nat):Int) by rw[qai (by omega) (by omega)];omega]
   refine ih (qgT o q.1,k-1,q.2.1) ⟨qkV i1,fun x hx=>?_,?_,?_,?_⟩ (by show k-1<k;omega)
   ·rcases qgO.1 hx with rfl | hx
    ·omega
    ·exact i2 x hx
   ·have:=qib (l:=o) (n:=q.1)
    show((((qgT o q.1).length+(k-1):Nat)):Int)≤most
    omega
   ·have:1≤(qgT o q.1).length:=List.length_pos_of_mem (qgO.2 (.inl rfl))
    show 1≤(qgT o q.1).length+(k-1)
    omega
   ·exact q4.le (by show n+10-2*k+2≤n+10-2*(k-1);omega)
  ·refine qa6 ⟨⟨by show 1≤o.length;omega,by show o.length≤4;omega,qfL i1,fun x hx=>⟨(i2 x hx).1,by have:=(i2 x hx).2;omega⟩⟩,by show(o.length:Int)≤most;omega,fun x hx=>(i2 x hx).2,i5.le (by omega)⟩
 ·show((([]:Sim).length+(k0+1):Nat):Int)≤most
  simp;omega
 ·show 1≤([]:Sim).length+(k0+1)
  simp
 ·exact r4.le (by show n+2≤n+10-2*(k0+1);omega)
end VeT
open Go Go.Proofs Ve
namespace VeT
theorem qbl.set{l:Sim}{p x:Int}(h:qbl l p)(hx:0≤x∧x≤p-1)(i:Nat):qbl (l.set i x) p:=fun y hy=>by
 rcases List.mem_or_eq_of_mem_set hy with hy | rfl
 ·exact h y hy
 ·exact hx
theorem qbl.zeros{p:Int}(hp:2≤p)(n:Nat):qbl (List.replicate n 0) p:=fun x hx=>by
 rw[(List.mem_replicate.1 hx).2];omega
end VeT
open Go Go.Proofs Ve
namespace VeT
theorem qbl.flat{A:Ent}{R C:Nat}{p:Int}(h:EIn p R C A):qbl (qaR A C R) p:=fun x hx=>by
 rw[← qdu] at hx
 obtain⟨row,hrow,hx⟩:=List.mem_flatten.1 hx
 obtain⟨i,hi,rfl⟩:=List.mem_map.1 hrow
 obtain⟨j,hj,rfl⟩:=List.mem_map.1 hx
 exact h i j (List.mem_range.1 hi) (List.mem_range.1 hj)
end VeT
open Go Go.Proofs Ve
namespace VeT
end VeT
open Go Go.Proofs Ve
namespace VeT
end VeT
open Go Go.Proofs Ve
namespace VeT
theorem qjL:∀ {l x:Sim},x.Pairwise (·<·)→l.Pairwise (·<·)→(∀ v∈x,v∈l)→x.Sublist l
 | [],x,_,_,h=>by
  cases x with
  | nil=>exact .slnil
  | cons y x=>exact absurd (h y List.mem_cons_self) (by simp)
 | a::l,[],_,_,_=>List.nil_sublist _
 | a::l,y::x,hx,hl,h=>by
  obtain⟨x1,x2⟩:=List.pairwise_cons.1 hx
  obtain⟨l1,l2⟩:=List.pairwise_cons.1 hl
  by_cases e:y=a
  ·subst e
   refine .cons_cons _ (qjL x2 l2 fun v hv=>?_)
   have:=x1 v hv
   rcases List.mem_cons.1 (h v (List.mem_cons_of_mem _ hv)) with h1 | h1
   ·omega
   ·exact h1
  ·have hy:y∈l:=(List.mem_cons.1 (h y List.mem_cons_self)).resolve_left e
   have hya:=l1 y hy
   refine .cons _ (qjL hx l2 fun v hv=>?_)
   rcases List.mem_cons.1 (h v hv) with h1 | h1
   ·rcases List.mem_cons.1 hv with h2 | h2
    ·omega
    ·have:=x1 v h2;omega
   ·exact h1
theorem qgh{c:List Sim}{d:Nat}:∀ {k:Nat},k≤c.length→(qaq c (d:Int) k).length=((c.take k).filter fun x=>x.length==d+1).length
 | 0,_=>by simp[qaq]
 | k+1,hk=>by
  rw[qbJ,List.length_append,qgh (by omega),List.take_succ_eq_append_getElem (by omega),List.filter_append,List.length_append]
  congr 1
  have e:c.getD k []=c[k]:=by rw[List.getD_eq_getElem?_getD,List.getElem?_eq_getElem (by omega)];rfl
  rw[e]
  by_cases h:(c[k]).length=d+1
  ·rw[if_pos (by omega),List.filter_cons_of_pos (by simp[h])];rfl
  ·rw[if_neg (by omega),List.filter_cons_of_neg (by simp[h])];rfl
end VeT
open Go Go.Proofs Ve
namespace VeT
theorem qot{p:Int}{a b:Nat}{cells:Sim}(hp:Pr p)(ha:a≤32)(hb:b≤32)(hl:cells.length=a*b)(he:qbl cells p):VM (p,(a:Int),(b:Int),cells,()) :=
 ⟨hp,⟨by show(0:Int)≤a;omega,by show(a:Int)≤32;omega⟩,⟨by show(0:Int)≤b;omega,by show(b:Int)≤32;omega⟩,by show(cells.length:Int)=a*b;rw[hl];simp,he⟩
theorem qqJ{c:List Sim}{p:Int}{st:Sim}(hv:VC c)(hp:Pr p)(hl:st.length=c.length)(hst:∀ x∈st,0≤x∧x≤3){k i:Nat}(hk:k<c.length)(hi:i<(qaK c k).length) :
  Bt (((qaN c c.length).map (zOf p st)).getD (plc c k+i) mz) p (st.getD ((qaK c k).getD i 0).toNat 0) (st.getD k 0):=by
 have hg:=qcb (n:=c.length) hk hi
 obtain⟨f,f1,f2,f3⟩:=qfH hv.srt hv hk hi
 obtain⟨a,ha,ea,hka,eka⟩:=qdZ hl hst hk
 obtain⟨b,hb,eb,hfb,efb⟩:=qdZ hl hst f1
 rw[List.getD_eq_getElem?_getD,List.getElem?_map,hg]
 show Bt (zOf p st ((k:Int),(i:Int),(qaK c k).getD i 0,())) p _ _
 unfold zOf
 simp only[f3,Int.toNat_natCast,ea,eb]
 exact⟨qot hp (by omega) (by omega) (by simp) (qbl.zeros hp.1 _),rfl,rfl,rfl⟩
end VeT
open Go Go.Proofs Ve
namespace VeT
end VeT
open Go Go.Proofs Ve
namespace VeT
theorem qf2{c:List Sim}{ms:List Mat}(h:∀ k i j,k<c.length→3≤(c.getD k []).length→i<j→j<(c.getD k []).length→two c ms k i (j-1)=two c ms k j i):qcf c ms=none:=by
 cases e:qcf c ms with
 | none=>rfl
 | some t =>
  obtain⟨k,i,j⟩:=t
  obtain⟨h1,h2,h3,h4,_⟩:=qh4 e
  unfold qcf at e
  obtain⟨k',hk,e⟩:=Option.bind_eq_some_iff.1 e
  obtain⟨i',hi,e⟩:=Option.bind_eq_some_iff.1 e
  obtain⟨j',hj,e⟩:=Option.map_eq_some_iff.1 e
  simp only[Prod.mk.injEq] at e
  obtain⟨rfl,rfl,rfl⟩:=e
  exact absurd (h _ _ _ h1 h2 h3 h4) (qaJ hj).2.2
theorem qmn{c:List Sim}{ms:List Mat}{m:Mat}(hv:VC c)(h:∀ k i,k<c.length→i<(qaK c k).length→mp c ms k i=m):qcf c ms=none:=qf2 fun k i j hk h3 hij hj=>by
 have hl:=qaB (c:=c) (k:=k)
 rw[if_pos (by omega)] at hl
 obtain⟨_,a2,a3⟩:=qbf hv hk (show i<(qaK c k).length by omega)
 obtain⟨_,b2,b3⟩:=qbf hv hk (show j<(qaK c k).length by omega)
 have la:=qaB (c:=c) (k:=fc c k i)
 have lb:=qaB (c:=c) (k:=fc c k j)
 rw[a3,List.length_eraseIdx_of_lt (by omega),if_pos (by omega)] at la
 rw[b3,List.length_eraseIdx_of_lt (by omega),if_pos (by omega)] at lb
 unfold two
 rw[h k i hk (by omega),h k j hk (by omega),h _ (j-1) a2 (by omega),h _ i b2 (by omega)]
def zm(p:Int)(a b:Nat):Mat:=(p,(a:Int),(b:Int),List.replicate (a*b) 0,())
theorem qiM{g:Nat→Int}:∀ {n:Nat},qaQ (fun _=>0) g n=0
 | 0=>rfl
 | n+1=>by show qaQ (fun _=>0) g n+0*g n=0;rw[qiM];simp
theorem qpx{p:Int}{a b d:Nat}{m:Mat}(hm:m.2.2.1=(d:Int)):qpA (zm p a b) m=zm p a d:=by
 refine qh1.2 ⟨rfl,rfl,hm,?_⟩
 show qaR (qoc p (List.replicate (a*b) 0) m.2.2.2.1 ((b:Int)).toNat m.2.2.1.toNat) m.2.2.1.toNat ((a:Int)).toNat=List.replicate (a*d) 0
 rw[hm,Int.toNat_natCast,Int.toNat_natCast,Int.toNat_natCast]
 refine Eq.trans (qhb fun i j hi hj=>(?_:_=(0:Int))) qf0
 unfold qoc
 rw[qaZ (d:=fun _=>0) (h:=fun l=>m.2.2.2.1.getD (l*d+j) 0) fun l hl=>⟨by rw[List.getD_eq_getElem?_getD,List.getElem?_replicate];split<;>rfl,rfl⟩,qiM,Int.zero_emod]
theorem qnK{c:List Sim}{p:Int}{st:Sim}(hv:VC c)(hl:st.length=c.length)(hst:∀ x∈st,0≤x∧x≤3){k i:Nat}(hk:k<c.length)(hi:i<(qaK c k).length) :
  mp c ((qaN c c.length).map (zOf p st)) k i=zm p (st.getD k 0).toNat (st.getD (fc c k i) 0).toNat:=by
 have hg:=qcb (n:=c.length) hk hi
 obtain⟨f,f1,f2,f3⟩:=qfH hv.srt hv hk hi
 obtain⟨a,ha,ea,hka,eka⟩:=qdZ hl hst hk
 obtain⟨b,hb,eb,hfb,efb⟩:=qdZ hl hst f1
 unfold mp fc
 rw[List.getD_eq_getElem?_getD,List.getElem?_map,hg]
 show zOf p st ((k:Int),(i:Int),(qaK c k).getD i 0,())=_
 unfold zOf zm
 simp only[f3,Int.toNat_natCast,ea,eb]
theorem qnN{c:List Sim}{p:Int}{st:Sim}(hv:VC c)(hl:st.length=c.length)(hst:∀ x∈st,0≤x∧x≤3):qcf c ((qaN c c.length).map (zOf p st))=none:=by
 have key:∀ k i j,k<c.length→i<(qaK c k).length→j<(qaK c (fc c k i)).length→two c ((qaN c c.length).map (zOf p st)) k i j=zm p (st.getD k 0).toNat (st.getD (fc c (fc c k i) j) 0).toNat:=fun k i j hk hi hj=>by
  obtain⟨_,a2,a3⟩:=qbf hv hk hi
  unfold two
  rw[qnK hv hl hst hk hi,qnK hv hl hst a2 hj]
  exact qpx rfl
 refine qf2 fun k i j hk h3 hij hj=>?_
 have hl:=qaB (c:=c) (k:=k)
 rw[if_pos (by omega)] at hl
 obtain⟨_,a2,a3⟩:=qbf hv hk (show i<(qaK c k).length by omega)
 obtain⟨_,b2,b3⟩:=qbf hv hk (show j<(qaK c k).length by omega)
 have la:=qaB (c:=c) (k:=fc c k i)
 have lb:=qaB (c:=c) (k:=fc c k j)
 rw[a3,List.length_eraseIdx_of_lt (by omega),if_pos (by omega)] at la
 rw[b3,List.length_eraseIdx_of_lt (by omega),if_pos (by omega)] at lb
 rw[key k i (j-1) hk (by omega) (by omega),key k j i hk (by omega) (by omega)]
 have:fc c (fc c k i) (j-1)=fc c (fc c k j) i:=by
  obtain⟨_,u2,u3⟩:=qbf hv a2 (show j-1<(qaK c (fc c k i)).length by omega)
  obtain⟨_,w2,w3⟩:=qbf hv b2 (show i<(qaK c (fc c k j)).length by omega)
  refine qle hv u2 w2 ?_
  rw[u3,w3,a3,b3]
  exact(qeR hij).symm
 rw[this]
end VeT
open Go Go.Proofs Ve
namespace VeT
theorem qq2{p:Int}(h:2≤p∧p≤251∧∀ k∈List.range 16,2≤k→(k:Int)*k≤p→p%k≠0):Pr p:=⟨h.1,h.2.1,fun k h1 h2=>by
 by_cases hk:k<16
 ·exact h.2.2 k (List.mem_range.2 hk) h1 h2
 ·have:16*16≤k*k:=Nat.mul_le_mul (by omega) (by omega)
  have e:(k:Int)*k=((k*k:Nat):Int):=(qdv ..).symm
  rw[e] at h2
  have:=h.2.1
  omega⟩
theorem VS.at{c:List Sim}{p:Int}{st:Sim}{ms:List Mat}(h:VS c p st ms){t:Nat}(ht:t<ms.length):∃ a b:Nat,a≤3∧b≤3∧VM (ms.getD t mz)∧(ms.getD t mz).1=p∧(ms.getD t mz).2.1=(a:Int)∧(ms.getD t mz).2.2.1=(b:Int):=by
 have hl:=h.2.2.2.1
 have ht':t<(qaN c c.length).length:=by unfold plc at hl;omega
 obtain⟨k,i,h1,h2,h3⟩:=qhk ht'
 have hb:=(h.map h1 h2).2
 unfold mp at hb
 rw[← h3] at hb
 obtain⟨a1,a2⟩:=qmm h.2.2.1.2.1 k
 obtain⟨b1,b2⟩:=qmm h.2.2.1.2.1 (fc c k i)
 exact⟨(st.getD k 0).toNat,(st.getD (fc c k i) 0).toNat,by omega,by omega,hb.1,hb.2.1,by rw[hb.2.2.1];omega,by rw[hb.2.2.2];omega⟩
theorem qja{l:Sim}(h:l.length≤1048576):Sm (.sl (.int .i64)) l:=⟨h,fun _ _=>trivial⟩
theorem qpH{ms:List Mat}(h:ms.length≤1048576)(h2:∀ m∈ms,m.2.2.2.1.length≤1048576):Sm (.sl (.st cM)) ms:=⟨h,fun m hm=>⟨trivial,trivial,trivial,qja (h2 m hm),trivial⟩⟩
theorem VS.plc_le{c:List Sim}{p:Int}{st:Sim}{ms:List Mat}(h:VS c p st ms):ms.length≤192:=by
 rw[← h.2.2.2.1];exact qgR h.1
theorem VS.cells{c:List Sim}{p:Int}{st:Sim}{ms:List Mat}(h:VS c p st ms):∀ m∈ms,m.2.2.2.1.length≤9:=fun m hm=>by
 obtain⟨t,ht,rfl⟩:=List.getElem_of_mem hm
 obtain⟨a,b,ha,hb,hv,_,e1,e2⟩:=h.at ht
 rw[qad ht] at hv e1 e2
 have:=hv.num
 rw[e1,e2,Int.toNat_natCast,Int.toNat_natCast] at this
 have:=Nat.mul_le_mul ha hb
 omega
theorem VS.sm{c:List Sim}{p:Int}{st:Sim}{ms:List Mat}(h:VS c p st ms):Sm (.st cS) (c,p,st,ms,()):=by
 have h48:=h.1.1
 have hl:=h.2.2.1.1
 have h192:=h.plc_le
 exact⟨h.1.sm,trivial,qja (by show st.length≤_;omega),qpH (by show ms.length≤_;omega) fun m hm=>by have:=h.cells m hm;omega,trivial⟩
theorem qpW{p:Int}{d:Nat}(hp:Pr p)(hd:d≤3):Bt (qdj p d) p (d:Int) (d:Int):=⟨qod hp (by omega),rfl,rfl,rfl⟩
theorem qbL{α:Type}{n i:Nat}{a d:α}(h:i<n):(List.replicate n a).getD i d=a:=by
 rw[List.getD_eq_getElem?_getD,List.getElem?_replicate,if_pos h];rfl
theorem qoD{c:List Sim}{p:Int}{d:Nat}(hv:VC c)(h5:∀ k:Nat,k<4→SD c (List.replicate c.length (d:Int)) k≤32)(hp:Pr p)(hd:d≤3):ISh (c,p,List.replicate c.length (d:Int),List.replicate (qaN c c.length).length (qdj p d),()):=by
 have hpl:∀ k i,k<c.length→i<(qaK c k).length→plc c k+i<(qaN c c.length).length:=fun k i hk hi=>by
  have:=qcb (n:=c.length) hk hi
  rcases Nat.lt_or_ge (plc c k+i) (qaN c c.length).length with h | h
  ·exact h
  ·rw[List.getElem?_eq_none h] at this;cases this
 refine⟨⟨hv,hp,⟨by simp,fun x hx=>by rw[(List.mem_replicate.1 hx).2];omega,fun k hk=>h5 k hk⟩,?_,fun k hk i hi=>?_⟩,?_⟩
 ·show(qaN c c.length).length=(List.replicate _ _).length
  simp
 ·obtain⟨f,f1,f2,f3⟩:=qfH hv.srt hv hk hi
  show Bt ((List.replicate _ _).getD (plc c k+i) mz) p ((List.replicate _ _).getD ((qaK c k).getD i 0).toNat 0) ((List.replicate _ _).getD k 0)
  rw[f3,Int.toNat_natCast,qbL (hpl k i hk hi),qbL f1,qbL hk]
  exact qpW hp hd
 ·exact qmn (m:=qdj p d) hv fun k i hk hi=>qbL (hpl k i hk hi)
end VeT
open Go Go.Proofs Ve
namespace VeT
theorem qnn{c:List Sim}(h:Srt c){d:Int}{f0 s:Nat}(hy:(qaq c d c.length).head? = some (f0:Int))(hs:s<c.length)(hd:((c.getD s []).length:Int)=d+1):(qaq c d s).length=s-f0∧f0≤s:=by
 have hym:(f0:Int)∈qaq c d c.length:=List.mem_of_head? hy
 obtain⟨f,ef,hf,hfd⟩:=qbE.1 hym
 obtain rfl:f=f0:=by omega
 obtain⟨tl2,hL2⟩:=qec hf hfd
 have hz:qaq c d f=[]:=by
  cases hh:qaq c d f with
  | nil=>rfl
  | cons z l =>
   have hz:z∈qaq c d f:=by rw[hh];exact List.mem_cons_self
   obtain⟨i,rfl,hi⟩:=qdn hz
   rw[hL2,hh] at hy
   have:((i:Nat):Int)=f:=by simpa using hy
   omega
 have hfs:f≤s:=by
  refine Classical.byContradiction fun hn=>?_
  have:((s:Nat):Int)∈qaq c d f:=qbE.2 ⟨s,rfl,by omega,hd⟩
  rw[hz] at this;cases this
 have hlen:∀ t,f+t≤s→(qaq c d (f+t)).length=t:=by
  intro t
  induction t with
  | zero=>intro _;rw[Nat.add_zero,hz];rfl
  | succ t ih =>
   intro ht
   have h1:=qgS h (show f≤f+t by omega) (by omega)
   have h2:=qgS h (show f+t≤s by omega) hs
   rw[← Nat.add_assoc,qbJ,if_pos (by omega),List.length_append,ih (by omega)];rfl
 have:=hlen (s-f) (by omega)
 rw[show f+(s-f)=s by omega] at this
 exact⟨this,hfs⟩
noncomputable def qqS(c:List Sim)(k:Int)(s i:Nat):Nat:=((qaK c s).getD i 0-(qaq c (k-1) c.length).getD 0 0).toNat
theorem qpC{c:List Sim}(hv:VC c){k:Int}{s i:Nat}(hs:s<c.length)(hd:((c.getD s []).length:Int)=k+1)(hi:i<(qaK c s).length) :
  qqS c k s i=(qaq c (k-1) (fc c s i)).length∧qqS c k s i<(qaq c (k-1) c.length).length∧((c.getD (fc c s i) []).length:Int)=k∧fc c s i<c.length:=by
 obtain⟨_,g1,g2⟩:=qbf hv hs hi
 obtain⟨t,f0,e1,e2,e3,e4,e5,e6⟩:=qj5 hv.srt (qoM hv hs hd (List.getElem_mem hi))
 have ht:t=fc c s i:=by unfold fc;rw[qad hi,e1];rfl
 have hl:=qaB (c:=c) (k:=s)
 have h1:1<(c.getD s []).length:=Classical.byContradiction fun hn=>by rw[if_neg hn] at hl;omega
 rw[if_pos h1] at hl
 have hfl:((c.getD (fc c s i) []).length:Int)=k:=by rw[g2,List.length_eraseIdx_of_lt (by omega)];omega
 have hp:=(qnn hv.srt e4 g1 (by omega)).1
 have e0:(qaq c (k-1) c.length).getD 0 0=(f0:Int):=by rw[List.getD_eq_getElem?_getD,← List.head?_eq_getElem?,e4];rfl
 have hb:qqS c k s i=t-f0:=by
  unfold qqS
  rw[qad hi,e1,e0];omega
 exact⟨by rw[hb,hp,ht],by rw[hb];exact e6,hfl,g1⟩
noncomputable abbrev qdb(c:List Sim)(p:Int):Shf:=(c,p,List.replicate c.length ((1:Nat):Int),List.replicate (qaN c c.length).length (qdj p 1),())
theorem qlC{c:List Sim}{d:Int}:∀ {n:Nat},n≤c.length→SDn c (List.replicate c.length ((1:Nat):Int)) d n=((qaq c d n).length:Int)
 | 0,_=>by simp[SDn,qaq]
 | n+1,h=>by
  rw[qeu,qbJ,List.length_append,qlC (by omega),qbL (by omega)]
  split<;>simp
theorem qmb{c:List Sim}{d:Int}:SD c (List.replicate c.length ((1:Nat):Int)) d=((qaq c d c.length).length:Int):=by rw[qmp,qlC (Nat.le_refl _)]
theorem qo9{c:List Sim}{s:Nat}{d:Int}(hs:s<c.length)(hd:((c.getD s []).length:Int)=d+1):FC c (List.replicate c.length ((1:Nat):Int)) s=((qaq c d s).length:Int):=by
 unfold FC
 rw[qlC (by omega),show((c.getD s []).length:Int)-1=d by omega]
theorem qjv{c:List Sim}{d:Int}{s:Nat}(hs:s<c.length)(hd:((c.getD s []).length:Int)=d+1):(qaq c d s).length<(qaq c d c.length).length∧((qaq c d c.length).getD (qaq c d s).length 0).toNat=s:=by
 obtain⟨tl,e⟩:=qec (c:=c) hs hd
 refine⟨by rw[e,List.length_append];simp,?_⟩
 rw[e,List.getD_eq_getElem?_getD,List.getElem?_append_right (Nat.le_refl _),Nat.sub_self];rfl
theorem qdm{c:List Sim}{d:Int}{r:Nat}(hr:r<(qaq c d c.length).length):∃ s,s<c.length∧((c.getD s []).length:Int)=d+1∧(qaq c d s).length=r∧((qaq c d c.length).getD r 0).toNat=s:=by
 have key:∀ n,n≤c.length→∀ r,r<(qaq c d n).length→∃ s,s<n∧((c.getD s []).length:Int)=d+1∧(qaq c d s).length=r:=by
  intro n
  induction n with
  | zero=>intro _ r hr;simp[qaq] at hr
  | succ n ih =>
   intro hn r hr
   rw[qbJ,List.length_append] at hr
   by_cases h:r<(qaq c d n).length
   ·obtain⟨s,h1,h2⟩:=ih (by omega) r h
    exact⟨s,by omega,h2⟩
   ·split at hr
    ·rename_i hd
     simp at hr
     exact⟨n,by omega,hd,by omega⟩
    ·simp at hr;omega
 obtain⟨s,h1,h2,h3⟩:=key c.length (Nat.le_refl _) r hr
 refine⟨s,h1,h2,h3,?_⟩
 have:=(qjv h1 h2).2
 rw[h3] at this;exact this
theorem qo6{c:List Sim}{p:Int}(hv:VC c){k i:Nat}(hk:k<c.length)(hi:i<(qaK c k).length):mp (qdb c p).1 (qdb c p).2.2.2.1 k i=qdj p 1:=by
 have:=qcb (n:=c.length) hk hi
 refine qbL ?_
 rcases Nat.lt_or_ge (plc c k+i) (qaN c c.length).length with h | h
 ·exact h
 ·rw[List.getElem?_eq_none h] at this;cases this
end VeT
open Go Go.Proofs Ve
namespace VeT
end VeT
open Go Go.Proofs Ve
namespace VeT
noncomputable def qgc(c:List Sim)(k n:Int):Sim:=(List.replicate c.length 0).set k.toNat n
theorem qiw{c:List Sim}{k n:Int}(hn:0≤n∧n≤3):(qgc c k n).length=c.length∧∀ x∈qgc c k n,0≤x∧x≤3:=by
 unfold qgc
 refine⟨by simp,fun x hx=>?_⟩
 rcases List.mem_or_eq_of_mem_set hx with hx | rfl
 ·rw[List.eq_of_mem_replicate hx];omega
 ·exact hn
noncomputable abbrev qpm(e:Int):List Sim×Int×Sim×List Mat×Int×Unit:=([],0,[],[],e,())
open Classical in
noncomputable def qbD(c:Cpx)(p k n:Int):List Sim×Int×Sim×List Mat×Int×Unit :=
 if VC c.1∧Pr p then(if (0≤k∧k≤(c.1.length:Int)-1)∧(0≤n∧n≤3) then(c.1,p,qgc c.1 k n,(qaN c.1 c.1.length).map (zOf p (qgc c.1 k n)),0,()) else qpm 2) else qpm 1
theorem qfM(c:Cpx)(p k n:Int)(sc:Sm (.st cC) c):Ret E n_Z11 [dLL c.1,dI p,dI k,dI n] ⟨o_Z11,qbD c p k n⟩:=by
 have hl:c.1.length≤1048576:=sc.1.1
 have j0:∀ b:Bool,b=true→¬ (VC c.1∧Pr p)→Ev fun φ=>Z11.j0 (mkR (run E (φ 0))) (φ 0) k n b c.1 p 0=some ⟨o_Z11,qbD c p k n⟩:=fun b hb hn=>by
  unfold qbD
  rw[if_neg hn,hb]
  simp only[Z11.j0_eq _ qag]
  exact qaE rfl qan
 have j1:∀ b:Bool,b=true→(VC c.1∧Pr p)→¬ ((0≤k∧k≤(c.1.length:Int)-1)∧(0≤n∧n≤3))→Ev fun φ=>Z11.j1 (mkR (run E (φ 0))) (φ 0) k n b c.1 p 0=some ⟨o_Z11,qbD c p k n⟩:=fun b hb hv hn=>by
  unfold qbD
  rw[if_pos hv,if_neg hn,hb]
  simp only[Z11.j1_eq _ qag]
  exact qaE rfl qan
 refine qal ?_
 simp only[run_Z11,Z11.ev]
 refine qaa (qbV c.1 sc.1) ?_
 by_cases h1:VC c.1
 ·refine qaH (by rw[qaz h1];rfl) (qaa (qbT p) ?_)
  by_cases h2:Pr p
  ·simp only[Z11.j0_eq _ qag]
   refine qaH (by rw[qaz h2];rfl) (qaa (qhM c.1) ?_)
   rw[qai (n:=(c.1.length:Int)-1) (by omega) (by omega)]
   refine qaa (qbI k 0 ((c.1.length:Int)-1)) ?_
   by_cases h3:0≤k∧k≤(c.1.length:Int)-1
   ·refine qaH (by rw[qaz h3];rfl) (qaa (qbI n 0 3) ?_)
    by_cases h4:0≤n∧n≤3
    ·simp only[Z11.j1_eq _ qag]
     obtain⟨f1,f2⟩:=qiw (c:=c.1) (k:=k) h4
     unfold qbD
     rw[if_pos ⟨h1,h2⟩,if_pos ⟨h3,h4⟩]
     refine qaH (by rw[qaz h4];rfl) (qaa (qcR c.1 0 hl) (qau (by simp only[List.length_replicate,Bool.and_eq_true,decide_eq_true_eq];omega) ?_))
     exact qaa (qgI c.1 p (qgc c.1 k n) sc.1 h1 f1 f2) qan
    ·exact j1 _ (by rw[qat h4];rfl) ⟨h1,h2⟩ fun h=>h4 h.2
   ·exact qaE (by rw[qat h3];rfl) (j1 true rfl ⟨h1,h2⟩ fun h=>h3 h.1)
  ·exact j0 _ (by rw[qat h2];rfl) fun h=>h2 h.2
 ·exact qaE (by rw[qat h1];rfl) (j0 true rfl fun h=>h1 h.1)
open Classical in
noncomputable def qbx(c:Cpx)(p n:Int):List Sim×Int×Sim×List Mat×Int×Unit :=
 if VC c.1∧Pr p then(if 0≤n∧n≤3 then(if SK c.1 (List.replicate c.1.length n) then(c.1,p,List.replicate c.1.length n,List.replicate (qaN c.1 c.1.length).length (qdj p n.toNat),0,()) else qpm 5) else qpm 2) else qpm 1
theorem qef(c:Cpx)(p n:Int)(sc:Sm (.st cC) c):Ret E n_Z6 [dLL c.1,dI p,dI n] ⟨o_Z6,qbx c p n⟩:=by
 have hl:c.1.length≤1048576:=sc.1.1
 have j0:∀ b:Bool,b=true→¬ (VC c.1∧Pr p)→Ev fun φ=>Z6.j0 (mkR (run E (φ 0))) (φ 0) b c.1 p n 0=some ⟨o_Z6,qbx c p n⟩:=fun b hb hn=>by
  unfold qbx
  rw[if_neg hn,hb]
  simp only[Z6.j0_eq _ qag]
  exact qaE rfl qan
 refine qal ?_
 simp only[run_Z6,Z6.ev]
 refine qaa (qbV c.1 sc.1) ?_
 by_cases h1:VC c.1
 ·refine qaH (by rw[qaz h1];rfl) (qaa (qbT p) ?_)
  by_cases h2:Pr p
  ·simp only[Z6.j0_eq _ qag]
   unfold qbx
   rw[if_pos ⟨h1,h2⟩]
   refine qaH (by rw[qaz h2];rfl) (qaa (qbI n 0 3) ?_)
   by_cases h3:0≤n∧n≤3
   ·rw[if_pos h3]
    have he:=qcR c.1 n hl
    refine qaH (by rw[qaz h3];rfl) (qaa he (qaa (qdH c.1 _ sc.1 (by rw[List.length_replicate];exact hl)) ?_))
    by_cases h4:SK c.1 (List.replicate c.1.length n)
    ·rw[if_pos h4]
     have hso:=qgE c.1 p (List.replicate c.1.length n) n.toNat (by omega) sc.1 h1 (by simp)
     rw[show((n.toNat:Nat):Int)=n by omega] at hso
     refine qaH (by rw[qaz h4];rfl) (qcx (qaa he (qaa hso qan)) (qaa he (qaa hso qan)))
    ·rw[if_neg h4]
     exact qaE (by rw[qat h4];rfl) qan
   ·rw[if_neg h3]
    exact qaE (by rw[qat h3];rfl) qan
  ·exact j0 _ (by rw[qat h2];rfl) fun h=>h2 h.2
 ·exact qaE (by rw[qat h1];rfl) (j0 true rfl fun h=>h1 h.1)
end VeT
open Go Go.Proofs Ve
namespace VeT
noncomputable def qqk(c:List Sim)(k:Nat):Nat:=(qcF c ((c.getD k []).take 2)-(qaq c 1 c.length).getD 0 0).toNat
noncomputable def twE(c:List Sim)(p:Int)(u:Sim)(k i:Nat):Mat:=if i=0 then(p,1,1,[u.getD (qqk c k) 0],()) else qdj p 1
noncomputable def twA(c:List Sim)(p:Int)(u:Sim)(a:Arw):Mat:=twE c p u a.1.toNat a.2.1.toNat
theorem qm1{c:List Sim}(hv:VC c){k:Nat}(hk:k<c.length)(h1:1<(c.getD k []).length) :
  ∃ s f0:Nat,qcF c ((c.getD k []).take 2)=(s:Int)∧f0≤s∧idx? (qaq c 1 c.length) 0=some (f0:Int)∧qqk c k=s-f0 ∧
   qgG (fun y=>pb (y=(s:Int))) (qaq c 1 c.length)=((s-f0:Nat):Int)∧s-f0<(qaq c 1 c.length).length∧s<c.length:=by
 have hm:c.getD k []∈c:=by rw[qad hk];exact List.getElem_mem hk
 have hin:(c.getD k []).take 2∈c:=hv.cl _ hm _ ⟨fun e=>by have:=congrArg List.length e;rw[List.length_take,show([]:Sim).length=0 from rfl] at this;omega,List.take_sublist _ _⟩
 obtain⟨s0,hs0⟩:=Int.eq_ofNat_of_zero_le (qaT.2 hin)
 have hlt:=(ql6 (c:=c) (s:=(c.getD k []).take 2)).1
 have hg:=qhL hin
 rw[hs0,Int.toNat_natCast] at hg
 have hx:((s0:Nat):Int)∈qaq c 1 c.length:=qbE.2 ⟨s0,rfl,by omega,by rw[hg,List.length_take];omega⟩
 obtain⟨s,f0,e1,h2,h3,h4,h5,h6⟩:=qj5 hv.srt hx
 obtain rfl:s0=s:=by omega
 have h0:idx? (qaq c 1 c.length) 0=some (f0:Int):=by
  cases hl:qaq c 1 c.length with
  | nil=>rw[hl] at h4;cases h4
  | cons y l=>rw[hl] at h4;obtain rfl:=Option.some.inj h4;rfl
 refine⟨s0,f0,hs0,h3,h0,?_,h5,h6,h2⟩
 unfold qqk
 rw[hs0]
 have:(qaq c 1 c.length).getD 0 0=(f0:Int):=by
  cases hl:qaq c 1 c.length with
  | nil=>rw[hl] at h4;cases h4
  | cons y l=>rw[hl] at h4;obtain rfl:=Option.some.inj h4;rfl
 rw[this];omega
theorem qic{c:List Sim}{k i:Nat}(hi:i<(qaK c k).length):1<(c.getD k []).length:=by
 rw[qaB] at hi
 split at hi
 ·assumption
 ·omega
theorem qfv(c:List Sim)(p:Int)(u:Sim)(k i:Nat)(f:Int)(hc:Sm (.sl (.sl (.int .i64))) c)(hv:VC c)(hu:u.length=(qaq c 1 c.length).length)(hk:k<c.length)(hi:i<(qaK c k).length) :
  Ret E n_Z16 [dI (k:Int),dI (i:Int),dI f,⟨.ptr (.cons (.int .i64) .nil),(p,())⟩,⟨.ptr (.cons (.sl (.sl (.int .i64))) .nil),(c,())⟩,⟨.ptr (.cons (.sl (.int .i64)) .nil),(u,())⟩,⟨.ptr (.cons (.sl (.int .i64)) .nil),(qaq c 1 c.length,())⟩] ⟨o_Z16,twE c p u k i⟩:=by
 have h1:=qic hi
 have hl:c.length≤1048576:=hc.1
 have hol:=qbF c 1 c.length
 obtain⟨s,f0,e1,e2,e3,e4,e5,e6,e7⟩:=qm1 hv hk h1
 refine qal ?_
 simp only[run_Z16,Z16.ev]
 unfold twE
 by_cases h0:i=0
 ·subst h0
  rw[if_pos rfl,e4]
  have hk4:=hv.len4 hk
  rw[qad hk] at h1 e1 hk4
  refine qaH (decide_eq_false (by omega)) (qaf (qap hk) (qau (by simp only[Bool.and_eq_true,decide_eq_true_eq];omega) ?_))
  have hix:=qeL c (c[k].take 2) hc hv.srt
  rw[e1] at hix
  have hin:=qkM (qaq c 1 c.length) (s:Int) (by omega)
  rw[e5] at hin
  have hsu:s-f0<u.length:=by omega
  refine qaa hix (qaa hin (qaf (qap hsu) (qam ?_)))
  rw[qad hsu]
 ·rw[if_neg h0]
  exact qaE (decide_eq_true (by omega)) (qaa (ql7 p 1 (by omega)) qan)
theorem qp3{c:List Sim}{p:Int}{u:Sim}{k i:Nat}:(twE c p u k i).2.2.2.1.length=1:=by
 unfold twE
 split
 ·rfl
 ·rfl
theorem qfq(c:List Sim)(p:Int)(u st:Sim)(hc:Sm (.sl (.sl (.int .i64))) c)(hv:VC c)(hu:u.length=(qaq c 1 c.length).length)(hl:st.length=c.length) :
  Ret E n_Z73 [dLL c,dI p,dL st,⟨.fn n_Z16 (.cons (.ptr (.cons (.int .i64) .nil)) (.cons (.ptr (.cons (.sl (.sl (.int .i64))) .nil)) (.cons (.ptr (.cons (.sl (.int .i64)) .nil)) (.cons (.ptr (.cons (.sl (.int .i64)) .nil)) .nil)))),((p,()),(c,()),(u,()),(qaq c 1 c.length,()),())⟩]
   ⟨o_Z73,(c,p,st,(qaN c c.length).map (twA c p u),())⟩:=by
 have hs:=hv.srt
 have h192:=qgR hv
 have h48:=hv.1
 refine qal ?_
 simp only[run_Z73,Z76.ev]
 refine qaa (qeV c hc hs) (qaa (qcu st (by omega)) (qaa (qer c hc hv) ?_))
 refine Ev.start (p:=fun φ m=>Z76.l0 (mkR (run E (φ 0))) (φ 0) m ((p,()),(c,()),(u,()),(qaq c 1 c.length,()),()) (qaN c c.length) ((qaN c c.length).length:Int) 0 0 p [] c st=_) 1 ?_ (fun _ _ _ h=>h)
 have:=qaw 1 (L:=fun φ m k o=>Z76.l0 (mkR (run E (φ 0))) (φ 0) m ((p,()),(c,()),(u,()),(qaq c 1 c.length,()),()) (qaN c c.length) ((qaN c c.length).length:Int) k 0 p o c st) (len:=(qaN c c.length).length) (fun k=>((qaN c c.length).take k).map (twA c p u)) (r:=some ⟨o_Z73,(c,p,st,(qaN c c.length).map (twA c p u),())⟩) (fun _ _ _ _ _=>rfl) (fun k r hk ih=>?_) ?_
 ·simpa using this
 ·simp only[Z76.l0_succ _ qag]
  obtain⟨q,i,f,g1,g2,g3,e⟩:=qlv hs hv hk
  have hr:=qfv c p u q i f hc hv hu g1 g2
  have ht:twE c p u q i=twA c p u (qaN c c.length)[k]:=by rw[e];unfold twA;simp only[Int.toNat_natCast]
  rw[List.take_succ_eq_append_getElem hk,List.map_append,List.map_singleton,← ht] at ih
  refine qaE (decide_eq_true (by omega)) (qaf (qap hk) ?_)
  rw[e]
  refine qaa hr (qaa (qdc _ (by rw[qp3];omega)) (qau (by simp only[List.length_map,List.length_take,List.length_singleton,decide_eq_true_eq];omega) ?_))
  rw[qah (by omega)];exact ih
 ·simp only[Z76.l0_succ _ qag]
  refine qaH (decide_eq_false (by omega)) (qam ?_)
  rw[List.take_of_length_le (Nat.le_refl _)]
open Classical in
noncomputable def qbc(c:Cpx)(p:Int)(u:Sim):List Sim×Int×Sim×List Mat×Int×Unit :=
 if VC c.1∧Pr p then(if (u.length=(qaq c.1 1 c.1.length).length∧∀ x∈u,1≤x∧x≤p-1) then(if SK c.1 (List.replicate c.1.length 1) then(c.1,p,List.replicate c.1.length 1,(qaN c.1 c.1.length).map (twA c.1 p u),0,()) else qpm 5) else qpm 7) else qpm 1
theorem qez(c:Cpx)(p:Int)(u:Sim)(sc:Sm (.st cC) c)(su:Sm (.sl (.int .i64)) u):Ret E n_Z14 [dLL c.1,dI p,dL u] ⟨o_Z14,qbc c p u⟩:=by
 have hl:c.1.length≤1048576:=sc.1.1
 have hul:u.length≤1048576:=su.1
 have j0:∀ b:Bool,b=true→¬ (VC c.1∧Pr p)→Ev fun φ=>Z14.j0 (mkR (run E (φ 0))) (φ 0) b c.1 p u 0=some ⟨o_Z14,qbc c p u⟩:=fun b hb hn=>by
  unfold qbc
  rw[if_neg hn,hb]
  simp only[Z14.j0_eq _ qag]
  exact qaE rfl qan
 have j1:∀ b:Bool,b=true→(VC c.1∧Pr p)→¬ (u.length=(qaq c.1 1 c.1.length).length∧∀ x∈u,1≤x∧x≤p-1)→Ev fun φ=>Z14.j1 (mkR (run E (φ 0))) (φ 0) b c.1 p u 0 (qaq c.1 1 c.1.length)=some ⟨o_Z14,qbc c p u⟩:=fun b hb hv hn=>by
  unfold qbc
  rw[if_pos hv,if_neg hn,hb]
  simp only[Z14.j1_eq _ qag]
  exact qaE rfl qan
 refine qal ?_
 simp only[run_Z14,Z14.ev]
 refine qaa (qbV c.1 sc.1) ?_
 by_cases h1:VC c.1
 ·refine qaH (by rw[qaz h1];rfl) (qaa (qbT p) ?_)
  by_cases h2:Pr p
  ·simp only[Z14.j0_eq _ qag]
   refine qaH (by rw[qaz h2];rfl) (qaa (qb9 c.1 1 sc.1 (by omega)) ?_)
   by_cases h3:u.length=(qaq c.1 1 c.1.length).length
   ·have hp2:2≤p∧p≤251:=⟨h2.1,h2.2.1⟩
    have hcf:=qa5 u ((p,()),()) (fun x=>!pb (1≤x∧x≤p-1)) hul fun x _=>by
     refine qal ?_
     simp only[run_Z15,Z15.ev]
     rw[qai (n:=p-1) (by omega) (by omega)]
     exact qaa (qbI x 1 (p-1)) qan
    refine qaH (by simp[h3]) (qaa hcf ?_)
    have e:=qgY (s:=u) (P:=fun x=>1≤x∧x≤p-1)
    by_cases h4:∀ x∈u,1≤x∧x≤p-1
    ·rw[qaz h4] at e
     have e:pb (∃ x∈u,(!pb (1≤x∧x≤p-1))=true)=false:=by simpa using e
     rw[e]
     simp only[Z14.j1_eq _ qag]
     have he:=qcR c.1 1 hl
     unfold qbc
     rw[if_pos ⟨h1,h2⟩,if_pos ⟨h3,h4⟩]
     refine qaH rfl (qaa he (qaa (qdH c.1 _ sc.1 (by rw[List.length_replicate];exact hl)) ?_))
     by_cases h5:SK c.1 (List.replicate c.1.length 1)
     ·rw[if_pos h5]
      exact qaH (by rw[qaz h5];rfl) (qaa (qfq c.1 p u _ sc.1 h1 h3 (by simp)) qan)
     ·rw[if_neg h5]
      exact qaE (by rw[qat h5];rfl) qan
    ·rw[qat h4] at e
     exact j1 _ (by simpa using e) ⟨h1,h2⟩ fun h=>h4 h.2
   ·exact qaE (by simp;omega) (j1 true rfl ⟨h1,h2⟩ fun h=>h3 h.1)
  ·exact j0 _ (by rw[qat h2];rfl) fun h=>h2 h.2
 ·exact qaE (by rw[qat h1];rfl) (j0 true rfl fun h=>h1 h.1)
end VeT
open Go Go.Proofs Ve
namespace VeT
theorem qly{p a x y:Int}(hp:Pr p)(ha:a%p≠0)(h:x*a%p=y*a%p):x%p=y%p:=by
 refine Int.emod_eq_emod_iff_emod_sub_eq_zero.2 (Classical.byContradiction fun hn=>qkF hp hn ha ?_)
 rw[Int.sub_mul]
 exact Int.emod_eq_emod_iff_emod_sub_eq_zero.1 h
theorem qju{p a:Int}(h1:1≤a)(h2:a≤p-1):a%p≠0:=by rw[Int.emod_eq_of_lt (by omega) (by omega)];omega
theorem qo0{p:Int}{R W:Nat}{A B:Ent}{d e:Nat→Int}(hp:Pr p)(hd:∀ r,r<R→1≤d r∧d r≤p-1)(he:∀ g,g<W→1≤e g∧e g≤p-1)(h:∀ r g,r<R→g<W→A r g*e g%p=d r*B r g%p) :
  rkV p W (Spn p R W A)=rkV p W (Spn p R W B):=by
 refine qdg fun c hc=>⟨?_,?_⟩
 ·rintro⟨_,x,⟨co,hco⟩,h1,h2⟩
  refine⟨hc,fun g=>qaQ (fun r=>co r*d r) (fun r=>B r g) R,⟨fun r=>co r*d r,fun g _=>rfl⟩,?_⟩
  have key:∀ g,g<W→qaQ (fun r=>co r*d r) (fun r=>B r g) R%p=x g*e g%p:=fun g hg=>by
   have e1:qaQ (fun r=>co r*d r) (fun r=>B r g) R=qaQ co (fun r=>d r*B r g) R:=by rw[qeK,qeK];exact qep fun r hr=>Int.mul_assoc _ _ _
   rw[e1,qc3 (h:=fun r=>e g*A r g) fun r hr=>by rw[← h r g hr hg,Int.mul_comm],qeq,Int.mul_emod,hco g hg,← Int.mul_emod,Int.mul_comm]
  refine⟨fun g hg=>?_,?_⟩
  ·show qaQ _ _ R%p=0
   rw[key g (by omega),Int.mul_emod,h1 g hg];simp
  ·show qaQ _ _ R%p≠0
   rw[key c hc]
   exact qkF hp h2 (qju (he c hc).1 (he c hc).2)
 ·rintro⟨_,x,⟨co,hco⟩,h1,h2⟩
  have key:∀ g,g<W→qaQ (fun r=>co r*qdL (d r) p) (fun r=>A r g) R*e g%p=x g%p:=fun g hg=>by
   rw[← hco g hg,Int.mul_comm,← qeq,qeK,qeK]
   refine qlK fun r hr=>?_
   have hi:=qf7 hp (hd r hr).1 (hd r hr).2
   have e1:co r*qdL (d r) p*(e g*A r g)=co r*(qdL (d r) p*(A r g*e g)):=by rw[Int.mul_assoc,Int.mul_comm (e g)]
   rw[e1,Int.mul_emod,Int.mul_emod (qdL (d r) p),h r g hr hg,← Int.mul_emod (qdL (d r) p),← Int.mul_assoc,Int.mul_comm (qdL (d r) p),Int.mul_emod (d r*qdL (d r) p),hi,Int.one_mul,Int.emod_emod_of_dvd _ (Int.dvd_refl _),← Int.mul_emod]
  refine⟨hc,fun g=>qaQ (fun r=>co r*qdL (d r) p) (fun r=>A r g) R,⟨fun r=>co r*qdL (d r) p,fun g _=>rfl⟩,fun g hg=>?_,fun hz=>h2 ?_⟩
  ·have:=key g (by omega)
   rw[h1 g hg] at this
   exact Classical.byContradiction fun hn=>qkF hp hn (qju (he g (by omega)).1 (he g (by omega)).2) this
  ·rw[← key c hc,Int.mul_emod,hz];simp
noncomputable abbrev qew(c:List Sim)(p:Int)(u:Sim):Shf:=(c,p,List.replicate c.length ((1:Nat):Int),(qaN c c.length).map (twA c p u),())
def qk2(own:Sim)(t:Sim):Int:=own.getD (t.getD 0 0).toNat 0
structure Own (c:List Sim) (p:Int) (own u:Sim):Prop where
 unit:∀ x∈c,1≤qk2 own x∧qk2 own x≤p-1
 ul:u.length=(qaq c 1 c.length).length
 us:∀ x∈u,1≤x∧x≤p-1
 eq:∀ e,e<c.length→(c.getD e []).length=2→u.getD (qaq c 1 e).length 0*own.getD ((c.getD e []).getD 1 0).toNat 0%p=own.getD ((c.getD e []).getD 0 0).toNat 0%p
noncomputable def tw(c:List Sim)(u:Sim)(k i:Nat):Int:=if i=0 then u.getD (qqk c k) 0 else 1
theorem qes{c:List Sim}{p:Int}{u:Sim}(hv:VC c){k i:Nat}(hk:k<c.length)(hi:i<(qaK c k).length):mp c ((qaN c c.length).map (twA c p u)) k i=(p,1,1,[tw c u k i],()):=by
 have hg:=qcb (n:=c.length) hk hi
 unfold mp
 rw[List.getD_eq_getElem?_getD,List.getElem?_map,hg]
 show twA c p u ((k:Int),(i:Int),(qaK c k).getD i 0,())=_
 unfold twA twE tw
 simp only[Int.toNat_natCast]
 by_cases h:i=0
 ·rw[if_pos h,if_pos h]
 ·rw[if_neg h,if_neg h];rfl
theorem qnX{c:List Sim}(hv:VC c){k:Nat}(hk:k<c.length)(h1:1<(c.getD k []).length):∃ e,e<c.length∧c.getD e []=(c.getD k []).take 2∧(c.getD e []).length=2∧qqk c k=(qaq c 1 e).length:=by
 obtain⟨s,f0,e1,e2,e3,e4,e5,e6,e7⟩:=qm1 hv hk h1
 have hm:c.getD k []∈c:=by rw[qad hk];exact List.getElem_mem hk
 have hin:(c.getD k []).take 2∈c:=hv.cl _ hm _ ⟨fun e=>by have:=congrArg List.length e;rw[List.length_take,show([]:Sim).length=0 from rfl] at this;omega,List.take_sublist _ _⟩
 have hg:=qhL hin
 rw[e1,Int.toNat_natCast] at hg
 have hl:(c.getD s []).length=2:=by rw[hg,List.length_take];omega
 have hh:(qaq c 1 c.length).head? = some (f0:Int):=by
  cases hl:qaq c 1 c.length with
  | nil=>rw[hl] at e3;cases e3
  | cons y l=>rw[hl] at e3;have:=Option.some.inj e3;rw[← this];rfl
 exact⟨s,e7,hg,hl,by rw[e4,(qnn hv.srt hh e7 (by omega)).1]⟩
theorem qpD{c:List Sim}{p:Int}{own u:Sim}(hv:VC c)(hp:Pr p)(O:Own c p own u){k i:Nat}(hk:k<c.length)(hi:i<(qaK c k).length):1≤tw c u k i∧tw c u k i≤p-1:=by
 have:=hp.1
 unfold tw
 split
 ·obtain⟨e,e1,e2,e3,e4⟩:=qnX hv hk (qic hi)
  have hlt:qqk c k<u.length:=by rw[e4,O.ul];exact(qjv e1 (by omega)).1
  rw[qad hlt]
  exact O.us _ (List.getElem_mem hlt)
 ·omega
theorem qkR{c:List Sim}{p:Int}{own u:Sim}(hv:VC c)(hp:Pr p)(O:Own c p own u){k i:Nat}(hk:k<c.length)(hi:i<(qaK c k).length):tw c u k i*qk2 own (c.getD (fc c k i) [])%p=qk2 own (c.getD k [])%p:=by
 obtain⟨_,g1,g2⟩:=qbf hv hk hi
 have h1:=qic hi
 have hl:=qaB (c:=c) (k:=k)
 rw[if_pos h1] at hl
 unfold tw qk2
 rw[g2]
 by_cases h:i=0
 ·subst h
  rw[if_pos rfl]
  obtain⟨e,e1,e2,e3,e4⟩:=qnX hv hk h1
  have:=O.eq e e1 e3
  rw[e2] at this
  have a0:((c.getD k []).take 2).getD 0 0=(c.getD k []).getD 0 0:=by rw[List.getD_eq_getElem?_getD,List.getElem?_take,if_pos (by omega),← List.getD_eq_getElem?_getD]
  have a1:((c.getD k []).take 2).getD 1 0=(c.getD k []).getD 1 0:=by rw[List.getD_eq_getElem?_getD,List.getElem?_take,if_pos (by omega),← List.getD_eq_getElem?_getD]
  rw[a0,a1] at this
  have a2:((c.getD k []).eraseIdx 0).getD 0 0=(c.getD k []).getD 1 0:=by rw[List.getD_eq_getElem?_getD,List.getElem?_eraseIdx,if_neg (by omega),← List.getD_eq_getElem?_getD]
  rw[e4,a2]
  exact this
 ·rw[if_neg h,Int.one_mul]
  have a2:((c.getD k []).eraseIdx i).getD 0 0=(c.getD k []).getD 0 0:=by rw[List.getD_eq_getElem?_getD,List.getElem?_eraseIdx,if_pos (by omega),← List.getD_eq_getElem?_getD]
  rw[a2]
theorem qqw{p a b:Int}:qpA (p,1,1,[a],()) (p,1,1,[b],())=(p,1,1,[a*b%p],()):=by
 refine qh1.2 ⟨rfl,rfl,rfl,?_⟩
 show qaR (qoc p [a] [b] 1 1) 1 1=[a*b%p]
 simp[qaR,qoc,qaQ]
theorem qoe{c:List Sim}{p:Int}{own u:Sim}(hv:VC c)(hp:Pr p)(O:Own c p own u)(hSK:SK c (List.replicate c.length ((1:Nat):Int))):ISh (qew c p u):=by
 have hp2:=hp.1
 refine⟨⟨hv,hp,hSK,?_,fun k hk i hi=>?_⟩,?_⟩
 ·show(qaN c c.length).length=((qaN c c.length).map _).length
  rw[List.length_map]
 ·obtain⟨f,f1,f2,f3⟩:=qfH hv.srt hv hk hi
  have hm:=qes (p:=p) (u:=u) hv hk hi
  obtain⟨u1,u2⟩:=qpD hv hp O hk hi
  show Bt (mp c ((qaN c c.length).map (twA c p u)) k i) p ((List.replicate _ _).getD ((qaK c k).getD i 0).toNat 0) ((List.replicate _ _).getD k 0)
  rw[hm,f3,Int.toNat_natCast,qbL f1,qbL hk]
  exact⟨⟨hp,⟨by show(0:Int)≤1;omega,by show(1:Int)≤32;omega⟩,⟨by show(0:Int)≤1;omega,by show(1:Int)≤32;omega⟩,rfl,fun y hy=>by
   have hy:y∈[tw c u k i]:=hy
   rw[List.mem_singleton] at hy
   subst hy
   show 0≤tw c u k i∧tw c u k i≤p-1
   omega⟩,rfl,rfl,rfl⟩
 ·show qcf c ((qaN c c.length).map (twA c p u))=none
  refine qf2 fun k i j hk h3 hij hj=>?_
  have hl:=qaB (c:=c) (k:=k)
  rw[if_pos (by omega)] at hl
  obtain⟨_,a2,a3⟩:=qbf hv hk (show i<(qaK c k).length by omega)
  obtain⟨_,b2,b3⟩:=qbf hv hk (show j<(qaK c k).length by omega)
  have la:=qaB (c:=c) (k:=fc c k i)
  have lb:=qaB (c:=c) (k:=fc c k j)
  rw[a3,List.length_eraseIdx_of_lt (by omega),if_pos (by omega)] at la
  rw[b3,List.length_eraseIdx_of_lt (by omega),if_pos (by omega)] at lb
  have hii:i<(qaK c k).length:=by omega
  have hjj:j<(qaK c k).length:=by omega
  have hi2:j-1<(qaK c (fc c k i)).length:=by omega
  have hj2:i<(qaK c (fc c k j)).length:=by omega
  have eg:fc c (fc c k i) (j-1)=fc c (fc c k j) i:=by
   obtain⟨_,u2,u3⟩:=qbf hv a2 hi2
   obtain⟨_,w2,w3⟩:=qbf hv b2 hj2
   refine qle hv u2 w2 ?_
   rw[u3,w3,a3,b3]
   exact(qeR hij).symm
  have t1:=qkR hv hp O hk hii
  have t2:=qkR hv hp O a2 hi2
  have t3:=qkR hv hp O hk hjj
  have t4:=qkR hv hp O b2 hj2
  obtain⟨_,w2,_⟩:=qbf hv b2 hj2
  have hu:qk2 own (c.getD (fc c (fc c k j) i) [])%p≠0:=by
   have:=O.unit (c.getD (fc c (fc c k j) i) []) (by rw[qad w2];exact List.getElem_mem w2)
   exact qju this.1 this.2
  unfold two
  rw[qes hv hk hii,qes hv hk hjj,qes hv a2 hi2,qes hv b2 hj2,qqw,qqw]
  have:tw c u k i*tw c u (fc c k i) (j-1)%p=tw c u k j*tw c u (fc c k j) i%p:=by
   refine qly hp hu ?_
   rw[eg] at t2
   have x1:tw c u k i*tw c u (fc c k i) (j-1)*qk2 own (c.getD (fc c (fc c k j) i) [])%p=qk2 own (c.getD k [])%p:=by
    rw[Int.mul_assoc,Int.mul_emod,t2,← Int.mul_emod];exact t1
   have x2:tw c u k j*tw c u (fc c k j) i*qk2 own (c.getD (fc c (fc c k j) i) [])%p=qk2 own (c.getD k [])%p:=by
    rw[Int.mul_assoc,Int.mul_emod,t4,← Int.mul_emod];exact t3
   rw[x1,x2]
  rw[this]
noncomputable def qk8(c:List Sim)(k:Int)(r:Nat):Nat:=((qaq c k c.length).getD r 0).toNat
theorem qnS{c:List Sim}{p:Int}{own u:Sim}(hp:Pr p)(O:Own c p own u)(hT:ISh (qew c p u))(hK:ISh (qdb c p)){k:Int}(hk:0≤k){r g:Nat}(hr:r<(qaq c (k+1) c.length).length)(hg:g<(qaq c k c.length).length) :
    qoa (qew c p u) k r g*qk2 own (c.getD (qk8 c k g) [])%p=qk2 own (c.getD (qk8 c (k+1) r) [])*qoa (qdb c p) k r g%p:=by
  have hv:VC c:=hT.1.1
  have hst:∀ x∈List.replicate c.length ((1:Nat):Int),0≤x∧x≤3:=hT.1.2.2.1.2.1
  obtain⟨s,hs,hd,epos,eget⟩:=qdm hr
  obtain⟨f,hf,hfd,fpos,fget⟩:=qdm hg
  have eFC:FC c (List.replicate c.length ((1:Nat):Int)) s=(r:Int):=by rw[qo9 hs hd,epos]
  have fFC:FC c (List.replicate c.length ((1:Nat):Int)) f=(g:Int):=by rw[qo9 hf hfd,fpos]
  have hs0:0<((List.replicate c.length ((1:Nat):Int)).getD s 0).toNat:=by rw[qbL hs];decide
  have hf0:0<((List.replicate c.length ((1:Nat):Int)).getD f 0).toNat:=by rw[qbL hf];decide
  have h12:((c.getD s []).length:Int)=k+2:=by omega
  have e1:qoa (qew c p u) k r g=(qdW c p (List.replicate c.length ((1:Nat):Int)) ((qaN c c.length).map (twA c p u)) k).getD (r*(SD c (List.replicate c.length ((1:Nat):Int)) k).toNat+g) 0:=rfl
  have e2:qoa (qdb c p) k r g=(qdW c p (List.replicate c.length ((1:Nat):Int)) (List.replicate (qaN c c.length).length (qdj p 1)) k).getD (r*(SD c (List.replicate c.length ((1:Nat):Int)) k).toNat+g) 0:=rfl
  rw[e1,e2,show qk8 c k g=f from fget,show qk8 c (k+1) r=s from eget]
  have hg':g<(SD c (List.replicate c.length ((1:Nat):Int)) k).toNat:=by rw[qmb];omega
  by_cases he:∃ i,i<(qaK c s).length∧fc c s i=f
  · obtain⟨i,hi,rfl⟩:=he
    have hc:=qhZ hT.1 hk hs h12 hi (i:=0) (j:=0) hs0 hf0
    have hc2:=qhZ hK.1 hk hs h12 hi (i:=0) (j:=0) hs0 hf0
    have hm:mp c ((qaN c c.length).map (twA c p u)) s i=(p,1,1,[tw c u s i],()):=qes hv hs hi
    have hm2:mp c (List.replicate (qaN c c.length).length (qdj p 1)) s i=qdj p 1:=qo6 hv hs hi
    rw[eFC,fFC] at hc hc2
    simp only[Int.toNat_natCast,Nat.add_zero] at hc hc2
    have hc':(qdW c p (List.replicate c.length ((1:Nat):Int)) ((qaN c c.length).map (twA c p u)) k).getD (r*(SD c (List.replicate c.length ((1:Nat):Int)) k).toNat+g) 0=tw c u s i*sgn p i%p:=by
      refine hc.trans ?_
      rw[hm];rfl
    have hc2':(qdW c p (List.replicate c.length ((1:Nat):Int)) (List.replicate (qaN c c.length).length (qdj p 1)) k).getD (r*(SD c (List.replicate c.length ((1:Nat):Int)) k).toNat+g) 0=sgn p i%p:=by
      refine hc2.trans ?_
      rw[hm2]
      show(qaR qg0 1 1).getD 0 0*sgn p i%p=_
      have:(qaR qg0 1 1).getD 0 0=1:=by decide
      rw[this,Int.one_mul]
    rw[hc',hc2']
    have t:=qkR hv hp O hs hi
    rw[Int.mul_emod,Int.emod_emod_of_dvd _ (Int.dvd_refl _),← Int.mul_emod,Int.mul_assoc,Int.mul_comm (sgn p i),← Int.mul_assoc,Int.mul_emod,t,← Int.mul_emod,Int.mul_emod (qk2 own (c.getD s [])) (sgn p i%p),Int.emod_emod_of_dvd _ (Int.dvd_refl _),← Int.mul_emod]
  · have hno:∀ a,a<(qaK c s).length→¬ ((FC c (List.replicate c.length ((1:Nat):Int)) (fc c s a)).toNat≤g∧g<(FC c (List.replicate c.length ((1:Nat):Int)) (fc c s a)).toNat+((List.replicate c.length ((1:Nat):Int)).getD (fc c s a) 0).toNat):=fun a ha hh=>by
      obtain⟨_,g1,g2⟩:=qbf hv hs ha
      obtain⟨_,_,b3,_⟩:=qpC hv hs hd ha
      rw[qbL g1] at hh
      have h1:((((1:Nat):Int))).toNat=1:=rfl
      rw[h1] at hh
      refine he ⟨a,ha,(qf4 (c:=c) (s:=fc c s a) (s':=f) (i:=0) (i':=0) hst (by omega) (by show 0<((List.replicate c.length ((1:Nat):Int)).getD (fc c s a) 0).toNat;rw[qbL g1];decide) hf0 (by rw[fFC];omega)).1⟩
    have hc:=qfE hT.1 hs h12 (i:=0) hs0 hg' hno
    have hc2:=qfE hK.1 hs h12 (i:=0) hs0 hg' hno
    rw[eFC] at hc hc2
    simp only[Int.toNat_natCast,Nat.add_zero] at hc hc2
    have hc':(qdW c p (List.replicate c.length ((1:Nat):Int)) ((qaN c c.length).map (twA c p u)) k).getD (r*(SD c (List.replicate c.length ((1:Nat):Int)) k).toNat+g) 0=0:=hc
    have hc2':(qdW c p (List.replicate c.length ((1:Nat):Int)) (List.replicate (qaN c c.length).length (qdj p 1)) k).getD (r*(SD c (List.replicate c.length ((1:Nat):Int)) k).toNat+g) 0=0:=hc2
    rw[hc',hc2'];simp
theorem qma{c:List Sim}{k:Int}{r:Nat}(hr:r<(qaq c k c.length).length):c.getD (qk8 c k r) []∈c:=by
 obtain⟨s,hs,hd,epos,eget⟩:=qdm hr
 rw[show qk8 c k r=s from eget,qad hs]
 exact List.getElem_mem hs
theorem ql3{c:List Sim}{p:Int}{own u:Sim}(hp:Pr p)(O:Own c p own u)(hT:ISh (qew c p u))(hK:ISh (qdb c p)){k:Int}(hk:0≤k):rkX (qew c p u) k=rkX (qdb c p) k:=by
 have e1:(SD c (List.replicate c.length ((1:Nat):Int)) (k+1)).toNat=(qaq c (k+1) c.length).length:=by rw[qmb];omega
 have e0:(SD c (List.replicate c.length ((1:Nat):Int)) k).toNat=(qaq c k c.length).length:=by rw[qmb];omega
 have hA:EIn p (SD c (List.replicate c.length ((1:Nat):Int)) (k+1)).toNat (SD c (List.replicate c.length ((1:Nat):Int)) k).toNat (qoa (qew c p u) k):=qdC (qck hT.1 k) qb2
 have hB:EIn p (SD c (List.replicate c.length ((1:Nat):Int)) (k+1)).toNat (SD c (List.replicate c.length ((1:Nat):Int)) k).toNat (qoa (qdb c p) k):=qdC (qck hK.1 k) qb2
 have r1:rkX (qew c p u) k=rkV p (SD c (List.replicate c.length ((1:Nat):Int)) k).toNat (Spn p (SD c (List.replicate c.length ((1:Nat):Int)) (k+1)).toNat (SD c (List.replicate c.length ((1:Nat):Int)) k).toNat (qoa (qew c p u) k)):=qhy hp hA
 have r2:rkX (qdb c p) k=rkV p (SD c (List.replicate c.length ((1:Nat):Int)) k).toNat (Spn p (SD c (List.replicate c.length ((1:Nat):Int)) (k+1)).toNat (SD c (List.replicate c.length ((1:Nat):Int)) k).toNat (qoa (qdb c p) k)):=qhy hp hB
 rw[r1,r2,e1,e0]
 exact qo0 (d:=fun r=>qk2 own (c.getD (qk8 c (k+1) r) [])) (e:=fun g=>qk2 own (c.getD (qk8 c k g) [])) hp (fun r hr=>O.unit _ (qma hr)) (fun g hg=>O.unit _ (qma hg)) fun r g hr hg=>qnS hp O hT hK hk hr hg
theorem qml{c:List Sim}{p:Int}{own u:Sim}(hp:Pr p)(O:Own c p own u)(hT:ISh (qew c p u))(hK:ISh (qdb c p)):qil (qew c p u) 4=qil (qdb c p) 4:=by
 unfold qil
 refine List.map_congr_left fun j hj=>?_
 have hj4:=List.mem_range.1 hj
 have h1:=qe4 hT (k:=(j:Int)) (by omega)
 have h2:=qe4 hK (k:=(j:Int)) (by omega)
 rw[h1,h2,ql3 hp O hT hK (by omega)]
 have:rkX (qew c p u) ((j:Int)-1)=rkX (qdb c p) ((j:Int)-1):=by
  by_cases h:j=0
  ·subst h
   rw[qln hT.1 (by omega),qln hK.1 (by omega)]
  ·exact ql3 hp O hT hK (by omega)
 rw[this]
theorem qpy{p:Int}{R W:Nat}{A:Ent}(h:∀ i j,i<R→j<W→A i j=0):rkV p W (Spn p R W A)=0:=qjo fun c hc ⟨_,x,hx,_,h2⟩=>h2 (Spn.nil_at hc (fun i hi=>h i c hi hc) hx)
theorem qnb{c:List Sim}{p:Int}{st:Sim}(hs:ISh (c,p,st,(qaN c c.length).map (zOf p st),()))(k:Int)(hk:0≤k):rkX (c,p,st,(qaN c c.length).map (zOf p st),()) k=0:=by
 have hv:VC c:=hs.1.1
 have hst:=hs.1.2.2.1.2.1
 have hl:=hs.1.2.2.1.1
 have hA:EIn p (SD c st (k+1)).toNat (SD c st k).toNat (qoa (c,p,st,(qaN c c.length).map (zOf p st),()) k):=qdC (qck hs.1 k) qb2
 have r1:rkX (c,p,st,(qaN c c.length).map (zOf p st),()) k=rkV p (SD c st k).toNat (Spn p (SD c st (k+1)).toNat (SD c st k).toNat (qoa (c,p,st,(qaN c c.length).map (zOf p st),()) k)):=qhy hs.1.2.1 hA
 rw[r1]
 refine qpy fun r g hr hg=>?_
 have hr:r<(SDn c st (k+1) c.length).toNat:=by rw[qmp] at hr;exact hr
 obtain⟨s,hsl,hd,i,hi,rfl⟩:=qk4 hst hr
 show(qdW c p st ((qaN c c.length).map (zOf p st)) k).getD (((FC c st s).toNat+i)*(SD c st k).toNat+g) 0=0
 have h12:((c.getD s []).length:Int)=k+2:=by omega
 by_cases he:∃ a,a<(qaK c s).length∧((FC c st (fc c s a)).toNat≤g∧g<(FC c st (fc c s a)).toNat+(st.getD (fc c s a) 0).toNat)
 ·obtain⟨a,ha,h1,h2⟩:=he
  have hc:=qhZ hs.1 hk hsl h12 ha (i:=i) (j:=g-(FC c st (fc c s a)).toNat) hi (by show g-(FC c st (fc c s a)).toNat<(st.getD (fc c s a) 0).toNat;omega)
  have hc:(qdW c p st ((qaN c c.length).map (zOf p st)) k).getD (((FC c st s).toNat+i)*(SD c st k).toNat+((FC c st (fc c s a)).toNat+(g-(FC c st (fc c s a)).toNat))) 0=_:=hc
  rw[show(FC c st (fc c s a)).toNat+(g-(FC c st (fc c s a)).toNat)=g by omega] at hc
  rw[hc]
  have hm:mp c ((qaN c c.length).map (zOf p st)) s a=zm p (st.getD s 0).toNat (st.getD (fc c s a) 0).toNat:=qnK hv hl hst hsl ha
  show(mp c ((qaN c c.length).map (zOf p st)) s a).2.2.2.1.getD _ 0*_%p=0
  rw[hm]
  unfold zm
  rw[List.getD_eq_getElem?_getD,List.getElem?_replicate]
  split<;>simp
 ·exact qfE hs.1 hsl h12 hi hg fun a ha hh=>he ⟨a,ha,hh⟩
theorem qoE{c:List Sim}{p:Int}{st:Sim}(hs:ISh (c,p,st,(qaN c c.length).map (zOf p st),())){k:Int}(hk:0≤k∧k≤3):((qof (c,p,st,(qaN c c.length).map (zOf p st),()) k).length:Int)=SD c st k:=by
 have h:=qe4 hs hk
 have h1:=qnb hs k hk.1
 have h2:rkX (c,p,st,(qaN c c.length).map (zOf p st),()) (k-1)=0:=by
  by_cases e:k=0
  ·subst e;exact qln hs.1 (by omega)
  ·exact qnb hs (k-1) (by omega)
 rw[h1,h2] at h
 have h:((qof (c,p,st,(qaN c c.length).map (zOf p st),()) k).length:Int)=SD c st k-((0:Nat):Int)-((0:Nat):Int):=h
 omega
theorem qqG{c:List Sim}{k:Nat}{n d:Int}(hk:k<c.length):SD c (qgc c (k:Int) n) d=if ((c.getD k []).length:Int)=d+1 then n else 0:=by
 have key:∀ m,m≤c.length→SDn c (qgc c (k:Int) n) d m=if k<m∧((c.getD k []).length:Int)=d+1 then n else 0:=by
  intro m
  induction m with
  | zero=>intro _;rw[if_neg (by omega)];simp[SDn,qaq]
  | succ m ih =>
   intro hm
   have e:(qgc c (k:Int) n).getD m 0=if m=k then n else 0:=by
    unfold qgc
    rw[Int.toNat_natCast,qfu (by simpa using hk)]
    split
    ·rfl
    ·exact qbL (by omega)
   rw[qeu,ih (by omega),e]
   by_cases h1:m=k
   ·subst h1
    rw[if_pos rfl,if_neg (by omega),Int.zero_add]
    by_cases h2:((c.getD m []).length:Int)=d+1
    ·rw[if_pos h2,if_pos ⟨by omega,h2⟩]
    ·rw[if_neg h2,if_neg fun h=>h2 h.2]
   ·rw[if_neg h1,ite_self,Int.add_zero]
    by_cases h2:k<m∧((c.getD k []).length:Int)=d+1
    ·rw[if_pos h2,if_pos ⟨by omega,h2.2⟩]
    ·rw[if_neg h2,if_neg fun h=>h2 ⟨by omega,h.2⟩]
 rw[qmp,key c.length (Nat.le_refl _)]
 by_cases h:((c.getD k []).length:Int)=d+1
 ·rw[if_pos ⟨hk,h⟩,if_pos h]
 ·rw[if_neg fun hh=>h hh.2,if_neg h]
end VeT
open Go Go.Proofs Ve
namespace VeT
theorem qor{f:Nat}{args:List Dv}(h:qjO f args (.cons .bool .nil) fun(r:Bool×Unit)=>r.1=true):Ret E f args ⟨.cons .bool .nil,(true,())⟩:=by
 obtain⟨⟨b,⟨⟩⟩,h1,h2⟩:=h
 have h2:b=true:=h2
 subst h2
 exact h1
theorem qi8{b:Bool}(h:b=true):EvQ (fun _=>some ⟨.cons .bool .nil,(b,())⟩) (.cons .bool .nil) fun(r:Bool×Unit)=>r.1=true:=qa6 h
theorem qpN{c:List Int}(h:Wf (.sl (.int .u8)) c):SO 0 (c,0,0,()):=⟨fun b hb=>by
 have:=h.2 b hb
 simp only[Wf,Lit.wf,IntKind.min,IntKind.max,IntKind.signed,IntKind.bits,Bool.and_eq_true,decide_eq_true_eq] at this
 simp at this
 omega,by show(0:Int)≤0;omega,by show(0:Int)≤((0:Nat):Int);omega⟩
end VeT
open Go Go.Proofs Ve
namespace VeT
end VeT
open Go Go.Proofs Ve
namespace VeT
end VeT
open Go Go.Proofs Ve
namespace VeT
theorem qmM(a b:List Int):qjO n_Z92 [dB a,dB b] o_Z92 fun _=>True:=by
 refine qbY ?_
 simp only[run_Z92,Z92.ev]
 exact qgK (fun _=>qa6 trivial) fun _=>qa6 trivial
theorem qmd(c:List Int)(k n:Int)(hc:∀ b∈c,0≤b∧b≤255)(hk:0≤k):qjO n_Z91 [dB c,dI k,dI n] o_Z91 fun(r:Int×Unit)=>0≤r.1∧(r.1<n∨r.1=0)∧r.1≤255:=by
 have jt:EvQ (fun φ=>Z91.j0 (mkR (run E (φ 0))) (φ 0) c k n true) o_Z91 fun(r:Int×Unit)=>0≤r.1∧(r.1<n∨r.1=0)∧r.1≤255:=by
  simp only[Z91.j0_eq _ qag]
  exact qoP rfl (qa6 ⟨Int.le_refl _,.inr rfl,(by show(0:Int)≤255;omega)⟩)
 refine qbY ?_
 simp only[run_Z91,Z91.ev]
 refine qgK (fun _=>jt) fun hn=>?_
 by_cases hl:k≥(c.length:Int)
 ·have:decide (k≥(c.length:Int))=true:=decide_eq_true hl
  rw[← this] at jt;exact jt
 ·rw[decide_eq_false hl]
  simp only[Z91.j0_eq _ qag]
  obtain⟨j,rfl⟩:=Int.eq_ofNat_of_zero_le hk
  have hj:j<c.length:=by omega
  obtain⟨h1,h2⟩:=hc _ (List.getElem_mem hj)
  refine qey rfl (qbW (qap hj) (qb3 (by simp;omega) (qa6 ?_)))
  have e:w64 c[j]=c[j]:=qai (by omega) (by omega)
  show 0≤Int.tmod (w64 c[j]) n∧_
  have hn:1<n:=by omega
  have h3:=Int.emod_nonneg c[j] (show n≠0 by omega)
  have h4:=Int.emod_lt_of_pos c[j] (show 0<n by omega)
  have h5:c[j]%n≤c[j]:=by
   have h6:=Int.mul_ediv_add_emod c[j] n
   have h7:0≤n*(c[j] / n):=Int.mul_nonneg (by omega) (Int.ediv_nonneg h1 (by omega))
   generalize n*(c[j] / n)=y at h6 h7
   omega
  rw[e,Int.tmod_eq_emod_of_nonneg h1]
  exact⟨h3,.inl h4,by omega⟩
theorem qlT{c:List Int}(h:Wf (.sl (.int .u8)) c):∀ b∈c,0≤b∧b≤255:=(qpN h).1
theorem qmA(a b:Sim)(hl:a.length≤1048576):Ret E n_Z93 [dL a,dL b] ⟨o_Z93,(pb (a=b),())⟩:=by
 refine qal ?_
 simp only[run_Z93,Z93.ev]
 by_cases he:a.length=b.length
 ·refine qaH (by simp[he]) ?_
  refine Ev.start (p:=fun φ m=>Z93.l0 (mkR (run E (φ 0))) (φ 0) m a b 0=_) 1 ?_ (fun _ _ _ h=>h)
  have e:pb (a=b)=pb (∀ j,0≤j→j<a.length→a.getD j 0=b.getD j 0):=qaP ⟨fun h j _ _=>by rw[h],fun h=>qoL he fun i hi=>h i (by omega) hi⟩
  rw[e]
  refine qfo 1 (L:=fun φ m k=>Z93.l0 (mkR (run E (φ 0))) (φ 0) m a b k) (len:=a.length) 0 (by omega) (fun j=>a.getD j 0=b.getD j 0) (fun b=>some ⟨o_Z93,(b,())⟩) (fun _ _ _ _=>rfl) (fun k h1 h2 hP _=>?_) (fun k r h1 h2 hP _ ih=>?_) (fun _=>?_)
  ·simp only[Z93.l0_succ _ qag]
   have h3:k<b.length:=by omega
   rw[qad h2,qad h3] at hP
   exact qaE (decide_eq_true (by omega)) (qaf (qap h2) (qaf (qap h3) (qaE (by simpa using hP) qan)))
  ·simp only[Z93.l0_succ _ qag]
   have h3:k<b.length:=by omega
   rw[qad h2,qad h3] at hP
   refine qaE (decide_eq_true (by omega)) (qaf (qap h2) (qaf (qap h3) (qaH (by simpa using hP) ?_)))
   rw[qah (by omega)];exact ih
  ·simp only[Z93.l0_succ _ qag]
   exact qaH (decide_eq_false (by omega)) qan
 ·rw[qat fun e=>he (by rw[e])]
  exact qaE (by simp;omega) qan
end VeT
open Go Go.Proofs Ve
namespace VeT
theorem ql5{a p:Int}:∀(n:Nat),(a%p) ^ n%p=a ^ n%p
 | 0=>by rw[Int.pow_zero,Int.pow_zero]
 | n+1=>by rw[Int.pow_succ,Int.pow_succ,Int.mul_emod,ql5 n,Int.emod_emod_of_dvd _ (Int.dvd_refl _),← Int.mul_emod]
theorem qnC{a:Int}:∀(n:Nat),(a*a) ^ n=a ^ (2*n)
 | 0=>by rw[Int.pow_zero,Nat.mul_zero,Int.pow_zero]
 | n+1=>by
  rw[Int.pow_succ,qnC n,show 2*(n+1)=2*n+1+1 by omega,Int.pow_succ,Int.pow_succ,Int.mul_assoc]
theorem qkA(a p:Int)(n:Nat)(hp:2≤p∧p≤251)(ha:0≤a∧a≤p-1)(hn:n≤1000):qjO n_Z139 [dI a,dI (n:Int),dI p] o_Z139 fun(r:Int×Unit)=>r.1=a ^ n%p:=by
  refine qbY ?_
  simp only[run_Z139,Z139.ev]
  refine qb3 (by simp;omega) ?_
  have h1:Int.tmod 1 p=1%p:=Int.tmod_eq_emod_of_nonneg (by omega)
  rw[h1]
  refine EvQ.start 1 (L:=fun φ N=>Z139.l0 (mkR (run E (φ 0))) (φ 0) N a (n:Int) p (1%p)) ?_ (fun _ _ _=>rfl)
  refine EvQ.loop 1 (σ:=Int×Nat×Int) (L:=fun φ N st=>Z139.l0 (mkR (run E (φ 0))) (φ 0) N st.1 (st.2.1:Int) p st.2.2) (fun _ _ _ _=>rfl)
    (fun st=>(0≤st.1∧st.1≤p-1)∧(0≤st.2.2∧st.2.2≤p-1)∧st.2.1≤1000∧st.2.2*st.1 ^ st.2.1%p=a ^ n%p) (fun st=>st.2.1) (fun st hi ih=>?_) (a,n,1%p) ⟨ha,qbZ hp.1,hn,by show 1%p*a ^ n%p=_;rw[show(1:Int)%p=1 from Int.emod_eq_of_lt (by omega) (by omega),Int.one_mul]⟩
  obtain⟨b,m,o⟩:=st
  obtain⟨i1,i2,i3,i4⟩:=hi
  simp only at i1 i2 i3 i4 ih ⊢
  simp only[Z139.l0_succ _ qag]
  have sq:∀ x y:Int,0≤x∧x≤p-1→0≤y∧y≤p-1→Int.tmod (w64 (x*y)) p=x*y%p:=fun x y hx hy=>by
    have h2:0≤x*y:=Int.mul_nonneg hx.1 hy.1
    have h3:x*y≤250*250:=Int.mul_le_mul (by omega) (by omega) hy.1 (by omega)
    rw[qai (by omega) (by omega),Int.tmod_eq_emod_of_nonneg (by omega)]
  have hne:(p != 0)=true:=by simp;omega
  refine qgK (fun h=>?_) fun h=>?_
  · have hm:0<m:=by omega
    have e2:w64 (Int.tdiv (m:Int) 2)=((m / 2:Nat):Int):=by
      have:Int.tdiv (m:Int) 2=((m / 2:Nat):Int):=rfl
      rw[this,qai (by omega) (by omega)]
    have e3:Int.tmod (m:Int) 2=((m%2:Nat):Int):=rfl
    rw[e2,e3,sq b b i1 i1]
    have hb:(b*b%p) ^ (m / 2)%p=b ^ (2*(m / 2))%p:=by rw[ql5,qnC]
    refine qlA (fun ht=>?_) fun ht=>?_
    · have ht : m % 2 = 1 := by have : ((m % 2 : Nat) : Int) = 1 := by simpa using ht
                                omega
      refine qb3 hne (qb3 hne ?_)
      rw[sq o b i2 i1]
      refine ih (b*b%p,m / 2,o*b%p) ⟨qbZ hp.1,qbZ hp.1,by show m / 2≤1000;omega,?_⟩ (by show m / 2<m;omega)
      show o*b%p*(b*b%p) ^ (m / 2)%p=a ^ n%p
      rw[← i4,Int.mul_emod,hb,Int.emod_emod_of_dvd _ (Int.dvd_refl _),← Int.mul_emod,Int.mul_assoc]
      congr 2
      rw[Int.mul_comm,← Int.pow_succ]
      congr 1;omega
    · have ht : m % 2 = 0 := by have : ¬ ((m % 2 : Nat) : Int) = 1 := by simpa using ht
                                omega
      refine qb3 hne ?_
      refine ih (b*b%p,m / 2,o) ⟨qbZ hp.1,i2,by show m / 2≤1000;omega,?_⟩ (by show m / 2<m;omega)
      show o*(b*b%p) ^ (m / 2)%p=a ^ n%p
      rw[← i4,Int.mul_emod,hb,← Int.mul_emod,show 2*(m / 2)=m by omega]
  · have hm:m=0:=by omega
    subst hm
    refine qa6 ?_
    show o=a ^ n%p
    rw[← i4]
    show o=o*b ^ 0%p
    rw[Int.pow_zero,Int.mul_one]
    exact(Int.emod_eq_of_lt i2.1 (by omega)).symm
theorem qfU(a p:Int)(hp:Pr p)(ha:1≤a∧a≤p-1):qjO n_Z123 [dI a,dI p] o_Z123 fun(r:Int×Int×Unit)=>r.1=qdL a p:=by
 have hp2:2≤p∧p≤251:=⟨hp.1,hp.2.1⟩
 have hask:Ret E n_Z137 [dI a,dI p] ⟨o_Z137,(0,())⟩:=by
  refine qal ?_
  simp only[run_Z137,Z137.ev]
  refine qaa (qkd p) (qaH (by rw[qaz hp];rfl) ?_)
  rw[qai (n:=p-1) (by omega) (by omega)]
  exact qaa (qdr a 0 (p-1)) (qaH (by rw[qaz (show 0≤a∧a≤p-1 by omega)];rfl) qan)
 obtain⟨P,hP⟩:=Int.eq_ofNat_of_zero_le (show 0≤p-2 by omega)
 have hinv:qjO n_Z138 [dI a,dI p] o_Z138 fun(r:Int×Unit)=>r.1=qdL a p:=by
  refine qbY ?_
  simp only[run_Z138,Z138.ev]
  rw[qai (n:=p-2) (by omega) (by omega),hP]
  refine qcy (qkA a p P hp2 (by omega) (by omega)) fun(r:Int×Unit) h=>qa6 ?_
  show r.1=qdL a p
  unfold qdL
  rw[h,hP,Int.toNat_natCast]
 refine qbY ?_
 simp only[run_Z123,Z123.ev]
 refine qbB hask (qoP rfl ?_)
 have e:(a==0)=false:=by simp;omega
 rw[e]
 simp only[Z123.j0_eq _ qag,Z123.j1_eq _ qag]
 exact qey rfl (qey rfl (qcy hinv fun(r:Int×Unit) h=>qa6 h))
def S6(c:List Sim):Prop:=∀ x∈c,∀ v∈x,v<6
theorem in6{x:Sim}(h0:∀ v∈x,0≤v)(h6:∀ v∈x,v<6)(hr:x.Pairwise (·<·)):x∈qoW [0,1,2,3,4,5]:=qjg (qjL hr (by decide) fun v hv=>by
 have:=h0 v hv
 have:=h6 v hv
 simp only[List.mem_cons,List.not_mem_nil,or_false]
 omega)
theorem qqd{l c:List Sim}(hl:∀ s∈l,Vx s∧(∀ v∈s,v<6)∧(s.length≤3∨s=[0,1,2,3]))(hs:Srt c)(hm:∀ x,x∈c↔∃ s∈l,Fa x s):c.length≤48:=by
  have h:=qhD hs.nodup (d:=((qoW [0,1,2,3,4,5]).filter fun x=>decide (1≤x.length)&&decide (x.length≤3))++[[0,1,2,3]]) fun x hx=>by
    obtain⟨s,hs,hf⟩:=(hm x).1 hx
    obtain⟨v1,v2,v3⟩:=hl s hs
    have hxv:=v1.fa hf
    by_cases h3:x.length≤3
    · refine List.mem_append.2 (.inl (List.mem_filter.2 ⟨in6 (fun v hv=>(hxv.2.2.2 v hv).1) (fun v hv=>v2 v (hf.2.subset hv)) hxv.2.2.1.pairwise,?_⟩))
      have:=hxv.1
      simp only[Bool.and_eq_true,decide_eq_true_eq]
      omega
    · have hle:=hf.2.length_le
      rcases v3 with v3 | v3
      · omega
      · subst v3
        have : x = [0, 1, 2, 3] := hf.2.eq_of_length (by have h4 : ([0, 1, 2, 3] : Sim).length = 4 := rfl
                                                         omega)
        exact List.mem_append.2 (.inr (List.mem_singleton.2 this))
  refine Nat.le_trans h ?_
  decide
theorem qoQ{c:List Sim}(hv:VC c)(h6:S6 c){d:Nat}(hd:d<4):(qaq c (d:Int) c.length).length≤20:=by
 rw[qgh (Nat.le_refl _),List.take_length]
 refine Nat.le_trans (qhD (d:=(qoW [0,1,2,3,4,5]).filter fun x=>x.length==d+1) (hv.srt.nodup.filter _) fun x hx=>?_) ?_
 ·obtain⟨h1,h2⟩:=List.mem_filter.1 hx
  refine List.mem_filter.2 ⟨?_,h2⟩
  obtain⟨k,hk,rfl⟩:=List.getElem_of_mem h1
  have:=hv.2.1 k hk
  rw[qad hk] at this
  exact in6 (fun v hv=>(this.2.2.2 v hv).1) (h6 _ h1) this.2.2.1.pairwise
 ·have:d=0∨d=1∨d=2∨d=3:=by omega
  rcases this with rfl | rfl | rfl | rfl<;>decide
theorem qeJ(l:List Sim)(hn:l.length≤1024)(hl:∀ s∈l,Vx s∧(∀ v∈s,v<6)∧(s.length≤3∨s=[0,1,2,3])):qjO n_Z143 [dLL l] o_Z143 fun(r:List Sim×Unit)=>VC r.1∧S6 r.1:=by
 obtain⟨r,g1,g2,g3⟩:=qmT l hn (fun s hs=>(hl s hs).1) fun c hs hm=>qqd hl hs hm
 refine⟨r,g1,g2,fun x hx v hv=>?_⟩
 obtain⟨s,hs,hf⟩:=(g3 x).1 hx
 exact(hl s hs).2.1 v (hf.2.subset hv)
theorem qli(n:Nat)(s:Src)(hn:n≤10000000)(hs:SO n s):qjO n_Z145 [dR s] o_Z145 fun(r:List Sim×Src×Unit)=>VC r.1∧S6 r.1∧SO (n+100) r.2.1:=by
  obtain⟨c0,a,g,⟨⟩⟩:=s
  have vx2:∀ a b:Int,0≤a→a<b→b≤9→Vx [a,b]:=fun a b h1 h2 h3=>⟨by simp,by simp,qfL (by simp;exact h2),fun x hx=>by simp at hx;rcases hx with rfl | rfl<;>omega⟩
  have vx3:∀ a b c:Int,0≤a→a<b→b<c→c≤9→Vx [a,b,c]:=fun a b c h1 h2 h3 h4=>⟨by simp,by simp,qfL (by simp;omega),fun x hx=>by simp at hx;rcases hx with rfl | rfl | rfl<;>omega⟩
  refine qbY ?_
  simp only[run_Z145,Z145.ev]
  refine qcy (qdz n _ 6 (by omega) hs) fun(r:Int×Src×Unit) ⟨q1,q2,q3,q4⟩=>?_
  obtain⟨w,s1,⟨⟩⟩:=r
  simp only at q1 q2 q3 q4
  dsimp only
  refine qlA (fun _=>qcy (qeJ _ (by decide) fun s hs=>?_) fun(q:List Sim×Unit) ⟨q1,q2⟩=>qa6 ⟨q1,q2,q4.le (by omega)⟩) fun _=>?_
  · simp at hs;rcases hs with rfl | rfl | rfl | rfl<;>exact⟨vx2 _ _ (by decide) (by decide) (by decide),by decide,.inl (by decide)⟩
  refine qlA (fun _=>qcy (qeJ _ (by decide) fun s hs=>?_) fun(q:List Sim×Unit) ⟨q1,q2⟩=>qa6 ⟨q1,q2,q4.le (by omega)⟩) fun _=>?_
  · simp at hs;rcases hs with rfl | rfl | rfl | rfl<;>exact⟨vx3 _ _ _ (by decide) (by decide) (by decide) (by decide),by decide,.inl (by decide)⟩
  refine qcy (qdz (n+2) s1 4 (by omega) q4) fun(r:Int×Src×Unit) ⟨r1,r2,r3,r4⟩=>?_
  obtain⟨n0,s2,⟨⟩⟩:=r
  simp only at r1 r2 r3 r4
  refine qcy (qdz (n+4) s2 6 (by omega) r4) fun(r:Int×Src×Unit) ⟨t1,t2,t3,t4⟩=>?_
  obtain⟨k0,s3,⟨⟩⟩:=r
  simp only at t1 t2 t3 t4
  dsimp only
  have en:w64 (3+n0)=3+n0:=qai (by omega) (by omega)
  rw[en]
  obtain⟨k,rfl⟩:=Int.eq_ofNat_of_zero_le t1
  refine EvQ.start 1 (L:=fun φ N=>Z145.l0 (mkR (run E (φ 0))) (φ 0) N (3+n0) (k:Int) [] s3.1 s3.2.1 s3.2.2.1) ?_ (fun _ _ _=>rfl)
  refine EvQ.loop 1 (σ:=Nat×List Sim×Src) (L:=fun φ N st=>Z145.l0 (mkR (run E (φ 0))) (φ 0) N (3+n0) (st.1:Int) st.2.1 st.2.2.1 st.2.2.2.1 st.2.2.2.2.1) (fun _ _ _ _=>rfl)
    (fun st=>(∀ s∈st.2.1,Vx s∧(∀ v∈s,v<6)∧(s.length≤3∨s=[0,1,2,3]))∧st.2.1.length+st.1≤5∧SO (n+80-12*st.1) st.2.2) (fun st=>st.1) (fun st hi ih=>?_) (k,[],s3) ⟨fun x hx=>by simp at hx,by simp;omega,t4.le (by show n+4+2≤n+80-12*k;omega)⟩
  obtain⟨k,o,s4⟩:=st
  obtain⟨i1,i2,i3⟩:=hi
  simp only at i1 i2 i3 ih ⊢
  simp only[Z145.l0_succ _ qag]
  refine qgK (fun h=>?_) fun h=>?_
  · refine qcy (qhQ _ s4 (3+n0) 3 (by omega) i3 (by decide) (by omega)) fun(t:Sim×Src×Unit) ⟨t1,t2,t3,t4⟩=>?_
    refine qb3 (decide_eq_true (by simp;omega)) ?_
    rw[show w64 ((k:Int)-1)=((k-1:Nat):Int) by rw[qai (by omega) (by omega)];omega]
    refine ih (k-1,o++[t.1],t.2.1) ⟨fun x hx=>?_,?_,?_⟩ (by show k-1<k;omega)
    · rcases List.mem_append.1 hx with hx | hx
      · exact i1 x hx
      · rw[List.mem_singleton] at hx;subst hx;exact⟨t1,fun v hv=>by have:=t3 v hv;omega,.inl (by omega)⟩
    · show(o++[t.1]).length+(k-1)≤5
      simp;omega
    · exact t4.le (by show n+80-12*k+12≤n+80-12*(k-1);omega)
  · have fin:∀(l:List Sim) (s5:Src) (m:Nat),l.length≤10→(∀ s∈l,Vx s∧(∀ v∈s,v<6)∧(s.length≤3∨s=[0,1,2,3]))→m≤n+100→SO m s5→EvQ (fun φ=>Z145.j1 (mkR (run E (φ 0))) (φ 0) l s5.1 s5.2.1 s5.2.2.1) o_Z145 fun(r:List Sim×Src×Unit)=>VC r.1∧S6 r.1∧SO (n+100) r.2.1:=fun l s5 m h1 h2 h3 h4=>by
      simp only[Z145.j1_eq _ qag]
      exact qcy (qeJ l (by omega) h2) fun(q:List Sim×Unit) ⟨q1,q2⟩=>qa6 ⟨q1,q2,h4.le h3⟩
    refine qcy (qpR _ s4 6 (by omega) i3) fun(r:Bool×Src×Unit) r4=>qlA (fun _=>?_) fun _=>fin o r.2.1 _ (by omega) i1 (by omega) r4
    refine qb3 (decide_eq_true (by simp;omega)) (fin _ r.2.1 _ (by simp;omega) (fun s hs=>?_) (by omega) r4)
    rcases List.mem_append.1 hs with hs | hs
    · exact i1 s hs
    · rw[List.mem_singleton] at hs
      subst hs
      exact⟨⟨by decide,by decide,qfL (by decide),by decide⟩,by decide,.inr rfl⟩
theorem qi2(x:List Int)(h:Wf (.sl (.int .u8)) x):qjO n_Z124 [dB x] o_Z124 fun(r:List Sim×Unit)=>VC r.1∧S6 r.1:=by
 refine qbY ?_
 simp only[run_Z124,Z124.ev]
 refine qbB (qhg x) ?_
 exact qcy (qli 0 (x,0,0,()) (by omega) (qpN h)) fun(r:List Sim×Src×Unit) ⟨b1,b2,b3⟩=>qa6 ⟨b1,b2⟩
theorem pr7{p:Int}(h:p∈([2,2,3,5,7,31,251]:List Int)):Pr p:=by
 simp only[List.mem_cons,List.not_mem_nil,or_false] at h
 rcases h with rfl | rfl | rfl | rfl | rfl | rfl | rfl<;>exact qq2 (by decide)
theorem qlb(x:List Int)(h:Wf (.sl (.int .u8)) x):qjO n_Z125 [dB x] o_Z125 fun(r:Int×Unit)=>Pr r.1:=by
 have hd:qjO n_Z141 [dR (x,0,0,())] o_Z141 fun(r:Int×Src×Unit)=>Pr r.1:=by
  refine qbY ?_
  simp only[run_Z141,Z141.ev]
  exact qcy (qnW 0 (x,0,0,()) _ (by simp) (by omega) (qpN h)) fun(r:Int×Src×Unit) ⟨r1,r2⟩=>qa6 (pr7 r1)
 refine qbY ?_
 simp only[run_Z125,Z125.ev]
 exact qbB (qhg x) (qcy hd fun(r:Int×Src×Unit) h=>qa6 h)
theorem qeO(c:List Sim)(k:Int)(hv:VC c)(hk:0≤k∧k≤3):Ret E n_Z126 [dLL c,dI k] ⟨o_Z126,(qaq c k c.length,0,())⟩:=by
 refine qal ?_
 simp only[run_Z126,Z126.ev]
 have h1:=qnY (c,()) hv.sm
 rw[qaz hv] at h1
 have h2:=qgN k
 rw[qaz hk] at h2
 exact qaa h1 (qaH rfl (qaa h2 (qaH rfl (qaa (qmW c k hv.sm (by omega)) qan))))
end VeT
open Go Go.Proofs Ve
namespace VeT
end VeT
open Go Go.Proofs Ve
namespace VeT
noncomputable def qow(c:List Sim)(p:Int)(own:Sim)(j:Nat):Int :=
 own.getD ((c.getD (qk8 c 1 j) []).getD 0 0).toNat 0*qdL (own.getD ((c.getD (qk8 c 1 j) []).getD 1 0).toNat 0) p%p
theorem qjX{c:List Sim}{p:Int}{own:Sim}(hv:VC c)(h10:own.length=10)(ho:∀ x∈own,1≤x∧x≤p-1){k i:Nat}(hk:k<c.length)(hi:i<(c.getD k []).length) :
  ∃ v:Nat,(c.getD k []).getD i 0=(v:Int)∧∃ h:v<own.length,1≤own[v]∧own[v]≤p-1:=by
 have hx:=hv.2.1 k hk
 rw[qad hi]
 have:=hx.2.2.2 _ (List.getElem_mem hi)
 refine⟨((c.getD k [])[i]).toNat,by omega,by omega,?_⟩
 exact ho _ (List.getElem_mem _)
theorem qqt{c:List Sim}{p:Int}{own u:Sim}(hv:VC c)(hp:Pr p)(h10:own.length=10)(ho:∀ x∈own,1≤x∧x≤p-1)(hl:u.length=(qaq c 1 c.length).length)(hu:∀ j,j<u.length→u.getD j 0=qow c p own j):Own c p own u:=by
 have hp2:=hp.1
 have hinv:∀ a:Int,1≤a→a≤p-1→qdL a p%p≠0:=fun a h1 h2 hz=>by
  have:=qf7 hp h1 h2
  rw[Int.mul_emod,hz] at this
  simp at this
 have hedge:∀ j,j<u.length→∃ a b:Int,qow c p own j=a*qdL b p%p∧(1≤a∧a≤p-1)∧(1≤b∧b≤p-1)∧own.getD ((c.getD (qk8 c 1 j) []).getD 0 0).toNat 0=a∧own.getD ((c.getD (qk8 c 1 j) []).getD 1 0).toNat 0=b:=fun j hj=>by
  obtain⟨s,hs,hd,epos,eget⟩:=qdm (c:=c) (d:=1) (r:=j) (by omega)
  have es:qk8 c 1 j=s:=eget
  obtain⟨v0,e0,h0,b0⟩:=qjX hv h10 ho hs (i:=0) (by omega)
  obtain⟨v1,e1,h1,b1⟩:=qjX hv h10 ho hs (i:=1) (by omega)
  unfold qow
  rw[es,e0,e1,Int.toNat_natCast,Int.toNat_natCast,qad h0,qad h1]
  exact⟨own[v0],own[v1],rfl,b0,b1,rfl,rfl⟩
 refine⟨fun x hx=>?_,hl,fun x hx=>?_,fun e he h2=>?_⟩
 ·obtain⟨k,hk,rfl⟩:=List.getElem_of_mem hx
  have h1:=(hv.2.1 k hk).1
  obtain⟨v,e,h,b⟩:=qjX hv h10 ho hk (i:=0) (by omega)
  rw[qad hk] at e
  unfold qk2
  rw[e,Int.toNat_natCast,qad h]
  exact b
 ·obtain⟨j,hj,rfl⟩:=List.getElem_of_mem hx
  have:=hu j hj
  rw[qad hj] at this
  obtain⟨a,b,e,ha,hb,_,_⟩:=hedge j hj
  rw[this,e]
  have h1:=qbZ (p:=p) (x:=a*qdL b p) hp.1
  have h2:=qkF hp (qju ha.1 ha.2) (hinv b hb.1 hb.2)
  omega
 ·have hpos:=qjv (c:=c) (d:=1) he (by omega)
  have hj:(qaq c 1 e).length<u.length:=by omega
  obtain⟨a,b,ee,ha,hb,e0,e1⟩:=hedge _ hj
  have es:qk8 c 1 (qaq c 1 e).length=e:=hpos.2
  rw[es] at e0 e1
  rw[hu _ hj,ee,e1,e0,Int.mul_emod,Int.emod_emod_of_dvd _ (Int.dvd_refl _),← Int.mul_emod,Int.mul_assoc,Int.mul_comm (qdL b p),Int.mul_emod,qf7 hp hb.1 hb.2,Int.mul_one,Int.emod_emod_of_dvd _ (Int.dvd_refl _)]
theorem qqF{c:List Sim}(hv:VC c)(h6:S6 c)(k:Nat)(hk:k<4):SD c (List.replicate c.length ((1:Nat):Int)) k≤32:=by
 have:=qoQ hv h6 hk
 rw[qmb];omega
theorem qpE{x:Shf}{n i:Nat}(hi:i<n):idx? (qil x n) (i:Int)=some ((qof x (i:Int)).length:Int):=qbX.trans (by unfold qil;rw[List.getElem?_map,List.getElem?_range hi];rfl)
theorem qjt(x y:List Int)(wx:Wf (.sl (.int .u8)) x)(wy:Wf (.sl (.int .u8)) y):Ret E n_Z90 [dB x,dB y] ⟨.cons .bool .nil,(true,())⟩:=by
 refine qor (qbY ?_)
 simp only[run_Z90,Z90.ev]
 refine qcy (qmM x y) fun _ _=>qlA (fun _=>qi8 rfl) fun _=>?_
 refine qcy (qi2 x wx) fun(r:List Sim×Unit) ⟨hv,h6⟩=>?_
 obtain⟨c,⟨⟩⟩:=r
 simp only at hv h6
 refine qcy (qlb y wy) fun(r:Int×Unit) hp=>?_
 obtain⟨p,⟨⟩⟩:=r
 simp only at hp
 dsimp only
 have hp2:2≤p∧p≤251:=⟨hp.1,hp.2.1⟩
 have h48:=hv.1
 have hol:=qbF c 1 c.length
 refine qbB (qeO c 1 hv (by omega)) ?_
 dsimp only
 have ep:w64 (p-1)=p-1:=qai (by omega) (by omega)
 have hK:ISh (qdb c p):=qoD hv (qqF hv h6) hp (by omega)
 -- the factors of the vertices
 refine EvQ.start 1 (L:=fun φ N=>Z90.l0 (mkR (run E (φ 0))) (φ 0) N y p (qaq c 1 c.length) 0 c [] []) ?_ (fun _ _ _=>rfl)
 refine EvQ.loop 1 (σ:=Nat×Sim) (L:=fun φ N s=>Z90.l0 (mkR (run E (φ 0))) (φ 0) N y p (qaq c 1 c.length) (s.1:Int) c [] s.2) (fun _ _ _ _=>rfl)
  (fun s=>s.1≤10∧s.2.length=s.1∧∀ z∈s.2,1≤z∧z≤p-1) (fun s=>10-s.1) (fun s hi ih=>?_) (0,[]) ⟨Nat.zero_le _,rfl,fun z hz=>by simp at hz⟩
 obtain⟨i,own⟩:=s
 obtain⟨i1,i2,i3⟩:=hi
 simp only at i1 i2 i3 ih ⊢
 simp only[Z90.l0_succ _ qag,ep]
 refine qgK (fun h=>?_) fun h=>?_
 ·refine qcy (qmd y (i:Int) (p-1) (qlT wy) (by omega)) fun(r:Int×Unit) ⟨a1,a2,a3⟩=>?_
  have e1:w64 (1+r.1)=1+r.1:=qai (by omega) (by omega)
  refine qb3 (decide_eq_true (by simp;omega)) ?_
  rw[qah (by omega),e1]
  refine ih (i+1,own++[1+r.1]) ⟨by show i+1≤10;omega,by simp[i2],fun z hz=>?_⟩ (by show 10-(i+1)<10-i;omega)
  rcases List.mem_append.1 hz with hz | hz
  ·exact i3 z hz
  ·rw[List.mem_singleton] at hz;subst hz;omega
 have h10:own.length=10:=by omega
 clear ih h i1 i2
 -- the factors of the edges
 refine EvQ.start 1 (L:=fun φ N=>Z90.l1 (mkR (run E (φ 0))) (φ 0) N y p (qaq c 1 c.length) 0 c [] own) ?_ (fun _ _ _=>rfl)
 refine EvQ.loop 1 (σ:=Nat×Sim) (L:=fun φ N s=>Z90.l1 (mkR (run E (φ 0))) (φ 0) N y p (qaq c 1 c.length) (s.1:Int) c s.2 own) (fun _ _ _ _=>rfl)
  (fun s=>s.1≤(qaq c 1 c.length).length∧s.2.length=s.1∧∀ j,j<s.1→s.2.getD j 0=qow c p own j) (fun s=>(qaq c 1 c.length).length-s.1) (fun s hi ih=>?_) (0,[]) ⟨Nat.zero_le _,rfl,fun j hj=>by have hj:j<0:=hj;omega⟩
 obtain⟨i,u⟩:=s
 obtain⟨i1,i2,i4⟩:=hi
 simp only at i1 i2 i4 ih ⊢
 simp only[Z90.l1_succ _ qag]
 refine qgK (fun h=>?_) fun h=>?_
 ·have hi:i<(qaq c 1 c.length).length:=by omega
  obtain⟨s,hs,hd,epos,eget⟩:=qdm hi
  have es:qk8 c 1 i=s:=eget
  have ei:(qaq c 1 c.length)[i]=(s:Int):=by
   obtain⟨q,hq,_⟩:=qdn (List.getElem_mem hi)
   rw[qad hi] at eget
   omega
  obtain⟨v0,e0,h0,b0⟩:=qjX hv h10 i3 hs (i:=0) (by omega)
  obtain⟨v1,e1,h1,b1⟩:=qjX hv h10 i3 hs (i:=1) (by omega)
  have hl0:0<(c.getD s []).length:=by omega
  have hl1:1<(c.getD s []).length:=by omega
  have hu:qow c p own i=own[v0]*qdL own[v1] p%p:=by
   unfold qow
   rw[es,e0,e1,Int.toNat_natCast,Int.toNat_natCast,qad h0,qad h1]
  rw[qad hs] at e0 e1 hl0 hl1
  rw[qad hl0] at e0
  rw[qad hl1] at e1
  have ix0:idx? c[s] 0=some (v0:Int):=by rw[← e0];exact qap (k:=0) hl0
  have ix1:idx? c[s] 1=some (v1:Int):=by rw[← e1];exact qap (k:=1) hl1
  refine qbW (qap hi) ?_
  rw[ei]
  refine qbW (qap hs) (qbW ix1 (qb3 (by simp only[Bool.and_eq_true,decide_eq_true_eq];omega) ?_))
  rw[show Int.toNat (((v1:Int),()):Int×Unit).1=v1 from rfl]
  refine qbW (List.getElem?_eq_getElem h1) ?_
  refine qcy (qfU own[v1] p hp b1) fun(r:Int×Int×Unit) hr=>?_
  refine qbW ix0 (qb3 (by simp only[Bool.and_eq_true,decide_eq_true_eq];omega) ?_)
  rw[show Int.toNat (((v0:Int),()):Int×Unit).1=v0 from rfl]
  refine qbW (List.getElem?_eq_getElem h0) (qb3 (by simp;omega) (qb3 (decide_eq_true (by simp;omega)) ?_))
  have hval:Int.tmod (w64 (own[v0]*r.1)) p=qow c p own i:=by
   rw[hr,hu]
   have hin:=qnV (a:=own[v1]) hp2.1
   have h2:0≤own[v0]*qdL own[v1] p:=Int.mul_nonneg (by omega) (by omega)
   have h3:own[v0]*qdL own[v1] p≤250*250:=Int.mul_le_mul (by omega) (by omega) (by omega) (by omega)
   rw[qai (by omega) (by omega),Int.tmod_eq_emod_of_nonneg (by omega)]
  rw[hval,qah (by omega)]
  refine ih (i+1,u++[qow c p own i]) ⟨hi,by simp[i2],fun j hj=>?_⟩ (by show(qaq c 1 c.length).length-(i+1)<(qaq c 1 c.length).length-i;omega)
  have hj:j<i+1:=hj
  show(u++[qow c p own i]).getD j 0=_
  by_cases e:j=i
  ·subst e
   rw[List.getD_eq_getElem?_getD,List.getElem?_append_right (by omega),i2,Nat.sub_self];rfl
  ·rw[List.getD_eq_getElem?_getD,List.getElem?_append_left (by omega),← List.getD_eq_getElem?_getD]
   exact i4 j (by omega)
 have hi:i=(qaq c 1 c.length).length:=by omega
 clear ih h
 subst hi
 have O:=qqt hv hp h10 i3 i2 fun j hj=>i4 j (by omega)
 have hT:=qoe hv hp O hK.1.2.2.1
 have t1:=qez (c,()) p u ⟨hv.sm,trivial⟩ (qja (by omega))
 rw[show qbc (c,()) p u=(c,p,List.replicate c.length ((1:Nat):Int),(qaN c c.length).map (twA c p u),0,()) by
  unfold qbc
  rw[if_pos ⟨hv,hp⟩,if_pos ⟨i2,O.us⟩,if_pos (show SK c (List.replicate c.length (1:Int)) from hK.1.2.2.1)];rfl] at t1
 have t2:=qef (c,()) p 1 ⟨hv.sm,trivial⟩
 rw[show qbx (c,()) p 1=(c,p,List.replicate c.length ((1:Nat):Int),List.replicate (qaN c c.length).length (qdj p 1),0,()) by
  unfold qbx
  rw[if_pos ⟨hv,hp⟩,if_pos (by omega),if_pos (show SK c (List.replicate c.length (1:Int)) from hK.1.2.2.1)];rfl] at t2
 have t3:=qbA (qew c p u) hT.1.sm
 rw[show qaU (qew c p u)=(qil (qew c p u) 4,0,()) by unfold qaU;rw[if_pos hT],qml hp O hT hK] at t3
 have t4:=qbA (qdb c p) hK.1.sm
 rw[show qaU (qdb c p)=(qil (qdb c p) 4,0,()) by unfold qaU;rw[if_pos hK]] at t4
 have t5:=qd5 (qew c p u) hT.1.sm
 rw[qaz hT] at t5
 have t6:=qmA (qil (qdb c p) 4) (qil (qdb c p) 4) (by rw[qeM];omega)
 rw[qaz (show qil (qdb c p) 4=qil (qdb c p) 4 from rfl)] at t6
 refine qbB t1 (qbB t2 (qbB t3 (qbB t4 (qey rfl (qey rfl (qbB t5 (qey rfl (qey rfl (qey rfl (qbB t6 ?_))))))))))
 simp only[Z90.j2_eq _ qag]
 refine qey rfl (qlA (fun _=>qi8 rfl) fun hn=>?_)
 have hn:c.length≠0:=by
  have:¬ (c.length:Int)=0:=by simpa using hn
  omega
 -- one stalk only
 refine qcy (qmd y 10 (c.length:Int) (qlT wy) (by omega)) fun(r:Int×Unit) ⟨a1,a2,a3⟩=>?_
 obtain⟨k0,⟨⟩⟩:=r
 simp only at a1 a2
 dsimp only
 obtain⟨k,rfl⟩:=Int.eq_ofNat_of_zero_le a1
 have hk:k<c.length:=by omega
 obtain⟨q1,q2⟩:=qiw (c:=c) (k:=(k:Int)) (n:=2) (by omega)
 have hSK:SK c (qgc c (k:Int) 2):=⟨q1,q2,fun d hd=>by rw[qqG hk];split<;>omega⟩
 have hP:ISh (c,p,qgc c (k:Int) 2,(qaN c c.length).map (zOf p (qgc c (k:Int) 2)),()):=⟨⟨hv,hp,hSK,by show(qaN c c.length).length=((qaN c c.length).map _).length;rw[List.length_map],fun j hj i hi=>qqJ hv hp q1 q2 hj hi⟩,qnN hv q1 q2⟩
 have p1:=qfM (c,()) p (k:Int) 2 ⟨hv.sm,trivial⟩
 rw[show qbD (c,()) p (k:Int) 2=(c,p,qgc c (k:Int) 2,(qaN c c.length).map (zOf p (qgc c (k:Int) 2)),0,()) by
  unfold qbD
  rw[if_pos ⟨hv,hp⟩,if_pos (by show(0≤(k:Int)∧(k:Int)≤(c.length:Int)-1)∧_;omega)]] at p1
 have p2:=qbA (c,p,qgc c (k:Int) 2,(qaN c c.length).map (zOf p (qgc c (k:Int) 2)),()) hP.1.sm
 rw[show qaU (c,p,qgc c (k:Int) 2,(qaN c c.length).map (zOf p (qgc c (k:Int) 2)),())=(qil (c,p,qgc c (k:Int) 2,(qaN c c.length).map (zOf p (qgc c (k:Int) 2)),()) 4,0,()) by unfold qaU;rw[if_pos hP]] at p2
 have hdim:∀ i:Nat,i<4→idx? (qil (c,p,qgc c (k:Int) 2,(qaN c c.length).map (zOf p (qgc c (k:Int) 2)),()) 4) (i:Int)=some (if ((c.getD k []).length:Int)=(i:Int)+1 then 2 else 0):=fun i hi=>by
  have h1:=qoE hP (k:=(i:Int)) (by omega)
  rw[qqG hk] at h1
  rw[qpE hi,h1]
 have hdl:=qeM (x:=(c,p,qgc c (k:Int) 2,(qaN c c.length).map (zOf p (qgc c (k:Int) 2)),())) (n:=4)
 have h4:=hv.len4 hk
 have h1:=hv.len1 hk
 refine qbB p1 (qbB p2 (qbW (qap hk) (qey rfl (qey rfl ?_))))
 dsimp only
 generalize qil (c,p,qgc c (k:Int) 2,(qaN c c.length).map (zOf p (qgc c (k:Int) 2)),()) 4=D at hdim hdl
 rw[qad hk] at h4 h1 hdim
 have hb4:((D.length:Int) != 4)=false:=by rw[hdl];rfl
 have ew:w64 ((c[k].length:Int)-1)=(c[k].length:Int)-1:=qai (by omega) (by omega)
 rw[hb4,ew]
 simp only[Z90.j3_eq _ qag]
 refine qey rfl ?_
 generalize c[k].length=L at h4 h1 hdim
 refine EvQ.start 1 (L:=fun φ N=>Z90.l4 (mkR (run E (φ 0))) (φ 0) N D ((L:Int)-1) 0) ?_ (fun _ _ _=>rfl)
 refine EvQ.loop 1 (σ:=Nat) (L:=fun φ N i=>Z90.l4 (mkR (run E (φ 0))) (φ 0) N D ((L:Int)-1) (i:Int)) (fun _ _ _ _=>rfl) (fun i=>i≤4) (fun i=>4-i) (fun i hi ih=>?_) 0 (Nat.zero_le _)
 have go:i<4→EvQ (fun φ=>Z90.j5 (mkR (run E (φ 0))) (φ 0) (φ 1) D ((L:Int)-1) (i:Int) false) (.cons .bool .nil) fun(r:Bool×Unit)=>r.1=true:=fun h=>by
  simp only[Z90.j5_eq _ qag]
  refine qey rfl ?_
  rw[qah (by omega)]
  exact ih (i+1) h (by omega)
 simp only[Z90.l4_succ _ qag]
 refine qgK (fun h=>?_) fun h=>qi8 rfl
 have hi4:i<4:=by omega
 have hd:=hdim i hi4
 by_cases e:(i:Int)=(L:Int)-1
 ·rw[if_pos (by omega)] at hd
  refine qoP (by rw[e];exact beq_self_eq_true _) (qbW hd (qey rfl (qey (by rw[e];exact bne_self_eq_false _) (go hi4))))
 ·rw[if_neg (by omega)] at hd
  have g:=go hi4
  exact qey (by simpa using e) (qoP (by simpa using e) (qbW hd g))
theorem qpj(z:((.cons (.sl (.int .u8)) (.cons (.sl (.int .u8)) .nil)):Ty).T)(h:Wf (.cons (.sl (.int .u8)) (.cons (.sl (.int .u8)) .nil)) z) :
  Evt fun n=>run E n n_Z90 (qbn _ z)=some ⟨.cons .bool .nil,(true,())⟩:=qjt z.1 z.2.1 h.1 h.2.1
end VeT
