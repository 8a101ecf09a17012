import Derived.Test.YtjnnliedeobfgaaGreatT4
import Derived.Test.YtjnnliedeobfgaaGreatV2
import Derived.KernelRfl
set_option linter.unusedVariables false
set_option linter.unusedSimpArgs false
open Go Go.Proofs Ve
namespace VeT
theorem qag{α:Type}{s:List α}{k:Nat}{d:α}(h:k<s.length):s.getD k d=s[k]:=by simp[List.getD_eq_getElem?_getD,h]
theorem qbP{t:Ty}{s:List t.T}(h:Sm (.sl t) s){k:Nat}(hk:k<s.length):Sm t s[k]:=h.2 _ (List.getElem_mem hk)
theorem qql{s:Sim}(h:s.length≤1048576):Sm (.sl (.int .i64)) s:=⟨h,fun _ _=>trivial⟩
theorem qde(s:Sim)(hs:s.length≤1048576):Ret E n_Z97 [dL s] ⟨o_Z97,(s,())⟩:=by
 refine qal ?_
 simp only[run_Z97,Z97.ev]
 exact qan (by simp;omega) (qap rfl)
theorem qdr(s:Sim)(k:Nat)(hk:k<s.length)(hs:s.length≤1048576):Ret E n_Z119 [dL s,dI (k:Int)] ⟨o_Z119,(s.eraseIdx k,())⟩:=by
 refine qal ?_
 simp only[run_Z119,Z119.ev]
 rw[qah (by omega)]
 simp only[Int.toNat_natCast]
 refine qan (by simp;omega) (qaa (qde _ (by simp;omega)) (qan (by simp;omega) (qan (by simp;omega) (qap ?_))))
 rw[List.eraseIdx_eq_take_drop_succ]
theorem qfX(a b:Sim)(ha:a.length≤1048576):Ret E n_Z100 [dL a,dL b] ⟨o_Z100,(pb (a=b),())⟩:=by
 refine qal ?_
 simp only[run_Z100,Z100.ev]
 refine qfs (fun h=>qap ?_) fun h=>?_
 ·have h:(a.length:Int)≠b.length:=by simpa using h
  rw[qav fun e=>h (by rw[e])]
 ·have h:(a.length:Int)=b.length:=by simpa using h
  refine Ev.start (p:=fun φ n=>Z100.l0 (mkR (run E (φ 0))) (φ 0) n a b 0=_) 1 ?_ (fun _ _ _ h=>h)
  refine(qg7 1 (L:=fun φ n k=>Z100.l0 (mkR (run E (φ 0))) (φ 0) n a b k) (len:=a.length) 0 (by omega) (fun j=>a.getD j 0=b.getD j 0) (fun b=>some ⟨o_Z100,(b,())⟩) (fun _ _ _ _=>rfl) (fun k h1 h2 hP _=>?_) (fun k r h1 h2 hP _ ih=>?_) (fun _=>?_)).to ?_
  ·simp only[Z100.l0_succ _ qaf]
   have hb:k<b.length:=by omega
   rw[qag h2,qag hb] at hP
   exact qaC (decide_eq_true (by omega)) (qae (qaq h2) (qae (qaq hb) (qaC (by simpa using hP) qam)))
  ·simp only[Z100.l0_succ _ qaf]
   have hb:k<b.length:=by omega
   rw[qag h2,qag hb] at hP
   refine qaC (decide_eq_true (by omega)) (qae (qaq h2) (qae (qaq hb) (qaE (by simpa using hP) ?_)))
   rw[qah (by omega)];exact ih
  ·simp only[Z100.l0_succ _ qaf]
   exact qaE (decide_eq_false (by omega)) qam
  ·refine congrArg (fun b:Bool=>some (⟨o_Z100,(b,())⟩:Dv)) (qa0 ⟨fun hh=>List.ext_getElem (by omega) fun j h1 h2=>?_,fun hh j _ _=>by rw[hh]⟩)
   have:=hh j (by omega) h1
   rwa [qag h1,qag h2] at this
noncomputable def qbV(c:List Sim)(s:Sim):Int:=qfU (fun x=>pb (x=s)) c
theorem qaO{c:List Sim}{s:Sim}:0≤qbV c s↔s∈c:=by
 unfold qbV
 rw[qb8]
 simp only[qa2]
 exact⟨fun⟨x,h,e⟩=>e ▸ h,fun h=>⟨s,h,rfl⟩⟩
theorem qbu(c:Cpx)(s:Sim)(hc:Sm (.sl (.sl (.int .i64))) c.1):Ret E n_Z121 [dC c,dL s] ⟨o_Z121,(qbV c.1 s,())⟩:=by
  have hc1:c.1.length≤1048576:=hc.1
  obtain⟨o,h1,h2,h3⟩:=qb1 1 (L:=fun φ n k=>Z121.l0 (mkR (run E (φ 0))) (φ 0) n c s k) (len:=c.1.length) (fun k=>∃ h:k<c.1.length,pb (c.1[k]=s)=true) (fun o=>some ⟨o_Z121,(o2i o,())⟩) (fun _ _ _ _=>rfl) (fun k hk hP=>by
      obtain⟨_,hP⟩:=hP
      simp only[Z121.l0_succ _ qaf]
      refine qaC (decide_eq_true (by omega)) (qae (qaq hk) (qaa (qfX _ _ (qbP hc hk).1) (qaC hP qam)))) (fun k q hk hP ih=>by
      simp only[Z121.l0_succ _ qaf]
      refine qaC (decide_eq_true (by omega)) (qae (qaq hk) (qaa (qfX _ _ (qbP hc hk).1) (qaE (Bool.eq_false_iff.2 fun h=>hP ⟨hk,h⟩) ?_)))
      rw[qah (by omega)];exact ih) (by
      simp only[Z121.l0_succ _ qaf]
      exact qaE (decide_eq_false (by omega)) qam)
  rw[qc1 (p:=fun x=>pb (x=s)) h1 h2] at h3
  refine qal ?_
  simp only[run_Z121,Z121.ev]
  exact Ev.start (p:=fun φ n=>Z121.l0 (mkR (run E (φ 0))) (φ 0) n c s 0=_) 1 h3 (fun _ _ _ h=>h)
theorem qob(n:Nat)(args:List Dv):run E (n+1) n_Z80 args=qmk (.int .i64) (mkR (run E n)) args:=rfl
theorem qn5(s:Sim)(n:Int)(h0:0≤n)(h1:n≤1048576)(hs:s.length≤1048576):Ret E n_Z80 [dL s,dI n] ⟨o_Z80,(s,())⟩:=by
 refine qal ?_
 simp only[qob]
 refine qap ((if_pos (show 0≤n∧((List.length s:Int)+n)*(64*(Ty.size (Ty.int IntKind.i64):Int))≤70368744177664 from⟨h0,?_⟩)).trans rfl)
 have:(Ty.size (Ty.int IntKind.i64))=1:=rfl
 rw[this];omega
theorem ql9(ll:List Sim)(hl:ll.length≤1048576)(hf:ll.flatten.length≤1048576):Ret E n_Z72 [dLL ll] ⟨o_Z72,(ll.flatten,())⟩:=by
 have hle:∀ k,(ll.take k).flatten.length≤ll.flatten.length:=fun k=>by
  have:=congrArg List.length (congrArg List.flatten (List.take_append_drop k ll))
  rw[List.flatten_append,List.length_append] at this;omega
 have hst:∀ k (h:k<ll.length),(ll.take (k+1)).flatten=(ll.take k).flatten++ll[k]:=fun k h=>by
  rw[List.take_succ_eq_append_getElem h,List.flatten_append];simp
 refine qal ?_
 simp only[run_Z72,Z72.ev]
 refine Ev.start (p:=fun φ n=>Z72.l0 (mkR (run E (φ 0))) (φ 0) n ll 0 ll (ll.length:Int) 0=_) 1 ?_ (fun _ _ _ h=>h)
 refine qas 1 (L:=fun φ n k a=>Z72.l0 (mkR (run E (φ 0))) (φ 0) n ll a ll (ll.length:Int) k) (len:=ll.length) (fun k=>(((ll.take k).flatten.length:Nat):Int)) (fun _ _ _ _ _=>rfl) (fun k r hk ih=>?_) ?_
 ·simp only[Z72.l0_succ _ qaf]
  have:=hle (k+1)
  have e:=hst k hk
  have e2:w64 (((ll.take k).flatten.length:Nat)+(List.length (ll[k]):Int))=(((ll.take (k+1)).flatten.length:Nat):Int):=by
   rw[qaj (by omega) (by rw[e,List.length_append] at this;omega),e,List.length_append];omega
  refine qaC (decide_eq_true (by omega)) (qae (qaq hk) ?_)
  show Ev fun φ=>(bif decide (w64 (((ll.take k).flatten.length:Nat)+(List.length (ll[k]):Int))<0) then none else Z72.l0 (mkR (run E (φ 0))) (φ 0) (φ 1) ll (w64 (((ll.take k).flatten.length:Nat)+(List.length (ll[k]):Int))) ll (ll.length:Int) (w64 ((k:Int)+1)))=r
  rw[e2,qah (by omega)]
  exact qaE (decide_eq_false (by omega)) ih
 ·simp only[Z72.l0_succ _ qaf]
  refine qaE (decide_eq_false (by omega)) (qaa (qn5 [] _ (by omega) (by have:=hle ll.length;omega) (by simp)) ?_)
  refine Ev.start (p:=fun φ n=>Z72.l1 (mkR (run E (φ 0))) (φ 0) n ll (ll.length:Int) 0 []=_) 2 ?_ (fun _ _ _ h=>h)
  refine qas 2 (L:=fun φ n k a=>Z72.l1 (mkR (run E (φ 0))) (φ 0) n ll (ll.length:Int) k a) (len:=ll.length) (fun k=>(ll.take k).flatten) (fun _ _ _ _ _=>rfl) (fun k r hk ih=>?_) ?_
  ·simp only[Z72.l1_succ _ qaf]
   have:=hle (k+1)
   have e:=hst k hk
   rw[e] at ih this
   rw[List.length_append] at this
   refine qaC (decide_eq_true (by omega)) (qae (qaq hk) (qan (decide_eq_true (by show(_+List.length ll[k])*8≤_;omega)) ?_))
   rw[qah (by omega)]
   exact ih
  ·simp only[Z72.l1_succ _ qaf]
   refine qaE (decide_eq_false (by omega)) (qap ?_)
   rw[List.take_of_length_le (Nat.le_refl _)]
def qb3(s:Sim):List Sim:=if 1<s.length then(List.range s.length).map (s.eraseIdx ·) else []
theorem qdh{s f:Sim}:f∈qb3 s↔1<s.length∧∃ i,i<s.length∧f=s.eraseIdx i:=by
 unfold qb3
 split
 ·rename_i h
  simp only[List.mem_map,List.mem_range,h,true_and]
  exact⟨fun⟨i,h1,h2⟩=>⟨i,h1,h2.symm⟩,fun⟨i,h1,h2⟩=>⟨i,h1,h2.symm⟩⟩
 ·rename_i h
  simp[h]
theorem qke{s f:Sim}(h:f∈qb3 s):f.length+1=s.length:=by
 obtain⟨h1,i,h2,rfl⟩:=qdh.1 h
 rw[List.length_eraseIdx,if_pos h2];omega
theorem qfR{s:Sim}:(qb3 s).length≤s.length:=by
 unfold qb3;split<;>simp
theorem qeM(s:Sim)(hs:s.length≤1048576):Ret E n_Z30 [dL s] ⟨o_Z30,(qb3 s,())⟩:=by
 refine qal ?_
 simp only[run_Z30,Z30.ev]
 refine Ev.start (p:=fun φ n=>Z30.l0 (mkR (run E (φ 0))) (φ 0) n s (s.length:Int) 0 []=_) 1 ?_ (fun _ _ _ h=>h)
 by_cases h1:1<s.length
 ·refine qas 1 (L:=fun φ n k a=>Z30.l0 (mkR (run E (φ 0))) (φ 0) n s (s.length:Int) k a) (len:=s.length) (fun k=>(List.range k).map (s.eraseIdx ·)) (fun _ _ _ _ _=>rfl) (fun k r hk ih=>?_) ?_
  ·simp only[Z30.l0_succ _ qaf]
   rw[List.range_succ,List.map_append] at ih
   rw[qah (by omega)]
   simp only[Int.toNat_natCast]
   refine qaC (decide_eq_true (by omega)) (qaC (decide_eq_true (by omega)) (qan (by simp;omega) (qan (by simp;omega) (qaa (ql9 _ (by simp) (by simp;omega)) (qan (by simp;omega) ?_)))))
   rw[show [s.take k,s.drop (k+1)].flatten=s.eraseIdx k by simp[List.eraseIdx_eq_take_drop_succ]]
   exact ih
  ·simp only[Z30.l0_succ _ qaf]
   exact qaE (decide_eq_false (by omega)) (qap (by rw[qb3,if_pos h1]))
 ·refine qas 1 (L:=fun φ n k a=>Z30.l0 (mkR (run E (φ 0))) (φ 0) n s (s.length:Int) k a) (len:=s.length) (fun k=>[]) (fun _ _ _ _ _=>rfl) (fun k r hk ih=>?_) ?_
  ·simp only[Z30.l0_succ _ qaf]
   rw[qah (by omega)]
   exact qaC (decide_eq_true (by omega)) (qaE (decide_eq_false (by omega)) ih)
  ·simp only[Z30.l0_succ _ qaf]
   exact qaE (decide_eq_false (by omega)) (qap (by rw[qb3,if_neg h1]))
def Srt(c:List Sim):Prop:=∀ i j (h:j<c.length) (hij:i<j),qdi c[i] c[j]<0
theorem qoy{c:List Sim}(h:∀ k,1≤k→k<c.length→qdi (c.getD (k-1) []) (c.getD k [])<0):Srt c:=by
 intro i j
 induction j with
 | zero=>intro _ h;omega
 | succ j ih =>
  intro hj hij
  have:=h (j+1) (by omega) hj
  rw[Nat.add_sub_cancel,qag (by omega),qag hj] at this
  by_cases e:i=j
  ·subst e;exact this
  ·exact qfM (ih (by omega) (by omega)) this
theorem Srt.take{c:List Sim}(h:Srt c)(k:Nat):Srt (c.take k):=by
 intro i j hj hij
 rw[List.getElem_take,List.getElem_take]
 exact h i j (by rw[List.length_take] at hj;omega) hij
def bs(c:List Sim)(s:Sim):Nat:=c.findIdx (fun x=>!decide (qdi x s<0))
theorem qpR{c:List Sim}{s:Sim}:bs c s≤c.length:=List.findIdx_le_length
theorem qiZ{c:List Sim}{s:Sim}(hc:Srt c){t:Nat}(h:t<c.length):t<bs c s↔qdi c[t] s<0:=by
 constructor
 ·intro ht
  have:=List.not_of_lt_findIdx ht
  simpa using this
 ·intro ht
  refine Classical.byContradiction fun hn=>?_
  have hb:bs c s<c.length:=by omega
  have h1:qdi c[bs c s] s<0:=by
   by_cases e:bs c s=t
   ·simp only[e];exact ht
   ·exact qfM (hc _ _ h (by omega)) ht
  have:=List.findIdx_getElem (w:=hb)
  simp only[Bool.not_eq_true',decide_eq_false_iff_not] at this
  exact this h1
theorem qmO{c:List Sim}{s:Sim}(hc:Srt c):qbV c s=if h:bs c s<c.length∧c.getD (bs c s) []=s then(bs c s:Int) else -1:=by
 have e:c.findIdx? (fun x=>pb (x=s))=if bs c s<c.length∧c.getD (bs c s) []=s then some (bs c s) else none:=by
  split
  ·rename_i h
   obtain⟨h1,h2⟩:=h
   rw[List.findIdx?_eq_some_iff_getElem]
   rw[qag h1] at h2
   refine⟨h1,qaB h2,fun j hj=>?_⟩
   rw[qa2]
   intro he
   have:=(qiZ (s:=s) hc (show j<c.length by omega)).1 hj
   rw[he,qcE.2 rfl] at this
   omega
  ·rename_i h
   rw[List.findIdx?_eq_none_iff]
   intro x hx
   rw[qc6]
   rintro rfl
   obtain⟨j,hj,rfl⟩:=List.mem_iff_getElem.1 hx
   have h0:¬ j<bs c c[j]:=fun hlt=>by
    have:=(qiZ hc hj).1 hlt
    rw[qcE.2 rfl] at this;omega
   by_cases hjb:bs c c[j]=j
   ·exact h ⟨by omega,by rw[hjb,qag hj]⟩
   ·have hb:bs c c[j]<c.length:=by omega
    have:=(qiZ (s:=c[j]) hc hb).2 (hc _ _ hj (by omega))
    omega
 unfold qbV qfU
 rw[e]
 split<;>rfl
theorem qgd(c:List Sim)(s:Sim)(hc:Sm (.sl (.sl (.int .i64))) c)(hs:Srt c):Ret E n_Z67 [dLL c,dL s,⟨.fn n_Z22 .nil,()⟩] ⟨o_Z67,((bs c s:Int),pb (bs c s<c.length∧c.getD (bs c s) []=s),())⟩:=by
 have hc1:c.length≤1048576:=hc.1
 refine qal ?_
 simp only[run_Z67,Z68.ev]
 refine Ev.start (p:=fun φ n=>Z68.l0 (mkR (run E (φ 0))) (φ 0) n c s (c.length:Int) 0 (c.length:Int)=_) 1 ?_ (fun _ _ _ h=>h)
 refine qez 1 (σ:=Nat×Nat) (L:=fun φ n st=>Z68.l0 (mkR (run E (φ 0))) (φ 0) n c s (c.length:Int) (st.1:Int) (st.2:Int)) (fun _ _ _ _=>rfl) (fun st=>st.1≤bs c s∧bs c s≤st.2∧st.2≤c.length) (fun _=>_) (fun st=>st.2-st.1) (fun st hi ih=>?_) (0,c.length) ⟨Nat.zero_le _,qpR,Nat.le_refl _⟩
 obtain⟨i,j⟩:=st
 obtain⟨h1,h2,h3⟩:=hi
 simp only at h1 h2 h3 ih
 simp only[Z68.l0_succ _ qaf]
 rw[qqF (by omega)]
 refine qei (fun hij=>?_) fun hij=>?_
 ·have hh:(i+j) / 2<c.length:=by omega
  refine qan (by decide) (qae (qaq hh) (qaa (qa5 _ _ (qbP hc hh)) (qei (fun hlt=>?_) fun hlt=>?_)))
  ·rw[qah (by omega)]
   have:=(qiZ hs hh).2 hlt
   exact ih ((i+j) / 2+1,j) ⟨this,h2,h3⟩ (by simp only;omega)
  ·have:¬ (i+j) / 2<bs c s:=fun h=>hlt ((qiZ hs hh).1 h)
   exact ih (i,(i+j) / 2) ⟨h1,by simp only;omega,by simp only;omega⟩ (by simp only;omega)
 ·have e:i=bs c s:=by omega
  subst e
  refine qei (fun hl=>?_) fun hl=>qap ?_
  ·have hh:bs c s<c.length:=by omega
   refine qae (qaq hh) (qaa (qa5 _ _ (qbP hc hh)) (qap ?_))
   have:(qdi c[bs c s] s==0)=pb (bs c s<c.length∧c.getD (bs c s) []=s):=qkF (by
    rw[qag hh,beq_iff_eq,qcE];exact⟨fun h=>⟨hh,h⟩,fun h=>h.2⟩)
   rw[this]
  ·rw[qav fun h=>hl (by omega)]
theorem qdD(c:List Sim)(s:Sim)(hc:Sm (.sl (.sl (.int .i64))) c)(hs:Srt c):Ret E n_Z37 [dLL c,dL s] ⟨o_Z37,(qbV c s,())⟩:=by
 refine qal ?_
 simp only[run_Z37,Z37.ev]
 refine qaa (qgd c s hc hs) (qfs (fun h=>qap ?_) fun h=>qap ?_)
 ·rw[qmO hs,dif_neg (qc6.1 (by simpa using h))]
 ·rw[qmO hs,dif_pos (qa2.1 (by simpa using h))]
end VeT
open Go Go.Proofs Ve
namespace VeT
def VC(c:List Sim):Prop:=c.length≤48∧(∀ k,k<c.length→Vx (c.getD k []))∧(∀ k,1≤k→k<c.length→qdi (c.getD (k-1) []) (c.getD k [])<0)∧∀ k,k<c.length→∀ f∈qb3 (c.getD k []),f∈c
theorem VC.srt{c:List Sim}(h:VC c):Srt c:=qoy h.2.2.1
def qjG(c:List Sim)(k:Nat):Prop:=(Vx (c.getD k [])∧(1≤k→qdi (c.getD (k-1) []) (c.getD k [])<0))∧∀ f∈qb3 (c.getD k []),f∈c.take k
theorem qoO{c:List Sim}:((∀ k,0≤k→k<c.length→qjG c k)∧c.length≤48)↔VC c:=by
 constructor
 ·rintro⟨h,hl⟩
  exact⟨hl,fun k hk=>(h k (by omega) hk).1.1,fun k h1 hk=>(h k (by omega) hk).1.2 h1,fun k hk f hf=>List.mem_of_mem_take ((h k (by omega) hk).2 f hf)⟩
 ·intro h
  have hs:=h.srt
  obtain⟨hl,h1,h2,h3⟩:=h
  refine⟨fun k _ hk=>⟨⟨h1 k hk,fun hk1=>h2 k hk1 hk⟩,fun f hf=>?_⟩,hl⟩
  have hm:=h3 k hk f hf
  have hlen:=qke hf
  rw[qag hk] at hlen
  obtain⟨i,hi,rfl⟩:=List.mem_iff_getElem.1 hm
  have hlt:qdi c[i] c[k]<0:=qgD.2 (.inl (by omega))
  have hik:i<k:=Classical.byContradiction fun hn=>by
   by_cases e:i=k
   ·subst e;omega
   ·have:=hs k i hi (by omega)
    rw[qlf] at this;omega
  exact List.mem_iff_getElem.2 ⟨i,by rw[List.length_take];omega,by rw[List.getElem_take]⟩
theorem qo3{t:Ty}{s:List t.T}(h:Sm (.sl t) s)(k:Nat):Sm (.sl t) (s.take k):=⟨by have h1:s.length≤1048576:=h.1;show(s.take k).length≤_;rw[List.length_take];omega,fun x hx=>h.2 x (List.mem_of_mem_take hx)⟩
theorem qfa(c:List Sim)(f:Sim)(k:Nat)(hk:k≤c.length)(hc:Sm (.sl (.sl (.int .i64))) c)(hs:Srt (c.take k)) :
  Ret E n_Z10 [dL f,dC (c,()),⟨.ptr (.cons (.int .i64) .nil),((k:Int),())⟩] ⟨o_Z10,(pb (¬ f∈c.take k),())⟩:=by
 refine qal ?_
 simp only[run_Z10,Z10.ev]
 simp only[Int.toNat_natCast]
 refine qan (by simp;omega) (qaa (qdD _ f (qo3 hc k) hs) (qap ?_))
 simp only[qeu,qa0 (show qbV (c.take k) f<0↔¬ f∈c.take k by rw[← qaO];omega)]
theorem qbf(c:List Sim)(hc:Sm (.sl (.sl (.int .i64))) c):Ret E n_Z9 [dLL c] ⟨o_Z9,(pb (VC c),())⟩:=by
  have hc1:c.length≤1048576:=hc.1
  refine qal ?_
  simp only[run_Z9,Z9.ev]
  refine Ev.start (p:=fun φ n=>Z9.l0 (mkR (run E (φ 0))) (φ 0) n c (c.length:Int) 0 c=_) 1 ?_ (fun _ _ _ h=>h)
  have key:∀(n:Nat) (k:Nat) (hk:k<c.length) (hpre:∀ j,0≤j→j<k→qjG c j),Srt (c.take k):=fun n k hk hpre=>qoy fun j h1 h2=>by
    rw[List.length_take] at h2
    have:=(hpre j (by omega) (by omega)).1.2 h1
    rw[qag (by omega),qag (by omega)] at this
    rw[qag (by rw[List.length_take];omega),qag (by rw[List.length_take];omega),List.getElem_take,List.getElem_take]
    exact this
  have hcon:∀(k:Nat) (hk:k<c.length) (hpre:∀ j,0≤j→j<k→qjG c j),Ret E n_Z73 [dLL (qb3 c[k]),⟨.fn n_Z10 (.cons (.ptr (.cons (.sl (.sl (.int .i64))) .nil)) (.cons (.ptr (.cons (.int .i64) .nil)) .nil)),((c,()),((k:Int),()),())⟩] ⟨o_Z73,(pb (∃ x∈qb3 c[k],pb (¬ x∈c.take k)=true),())⟩:=fun k hk hpre =>
    qaV (qb3 c[k]) ((c,()),((k:Int),()),()) _ (Nat.le_trans qfR (qbP hc hk).1) fun x hx=>qfa c x k (by omega) hc (key 0 k hk hpre)
  refine(qg7 1 (L:=fun φ n k=>Z9.l0 (mkR (run E (φ 0))) (φ 0) n c (c.length:Int) k c) (len:=c.length) 0 (by omega) (qjG c) (fun b=>some ⟨o_Z9,(b&&decide ((c.length:Int)≤48),())⟩) (fun _ _ _ _=>rfl) (fun k h1 h2 hP hpre=>?_) (fun k r h1 h2 hP hpre ih=>?_) (fun _=>?_)).to ?_
  · simp only[Z9.l0_succ _ qaf]
    refine qaC (decide_eq_true (by omega)) (qae (qaq h2) (qaa (qdH _ (qbP hc h2)) ?_))
    refine qfs (fun hv=>?_) fun hv=>?_
    · simp only[Z9.j1_eq _ qaf,cond_true];(first | exact qam | exact Ev.of fun _=>trivial)
    · have hv:Vx c[k]:=qa2.1 (by simpa using hv)
      have last:(1≤k→qdi (c.getD (k-1) []) (c.getD k [])<0)→Ev fun φ=>Z9.j1 (mkR (run E (φ 0))) (φ 0) (φ 1) c[k] c (c.length:Int) (k:Int) false c (k:Int)=some ⟨o_Z9,(false,())⟩:=fun hcm=>by
        simp only[Z9.j1_eq _ qaf,cond_false]
        refine qaa (qeM _ (qbP hc h2).1) (qaa (hcon k h2 hpre) (qaC ?_ qam))
        refine qaB (Classical.byContradiction fun hn=>hP ⟨⟨by rw[qag h2];exact hv,hcm⟩,fun f hf=>Classical.byContradiction fun hnf=>hn ⟨f,by rw[qag h2] at hf;exact hf,qaB hnf⟩⟩)
      refine qei (fun hk=>?_) fun hk=>?_
      · rw[qaj (by omega) (by omega),show((k:Int)-1)=((k-1:Nat):Int) by omega]
        have hk1:k-1<c.length:=by omega
        refine qae (qaq hk1) (qaa (qa5 _ _ (qbP hc hk1)) ?_)
        by_cases hcm:qdi c[k-1] c[k]<0
        · simp only[show decide (qdi c[k-1] c[k]≥0)=false from decide_eq_false (by omega)]
          exact last fun _=>by rw[qag hk1,qag h2];exact hcm
        · simp only[show decide (qdi c[k-1] c[k]≥0)=true from decide_eq_true (by omega),Z9.j1_eq _ qaf,cond_true]
          (first | exact qam | exact Ev.of fun _=>trivial)
      · exact last fun h=>absurd h (by omega)
  · simp only[Z9.l0_succ _ qaf]
    have hP':=hP
    obtain⟨⟨hv,hcm⟩,hfc⟩:=hP'
    rw[qag h2] at hv hfc
    refine qaC (decide_eq_true (by omega)) (qae (qaq h2) (qaa (qdH _ (qbP hc h2)) (qaE (by rw[qaB hv];rfl) ?_)))
    have last:Ev fun φ=>Z9.j1 (mkR (run E (φ 0))) (φ 0) (φ 1) c[k] c (c.length:Int) (k:Int) false c (k:Int)=r:=by
      simp only[Z9.j1_eq _ qaf,cond_false]
      refine qaa (qeM _ (qbP hc h2).1) (qaa (hcon k h2 hpre) (qaE ?_ ?_))
      · exact qav fun⟨x,hx,hn⟩=>qa2.1 hn (hfc x hx)
      · rw[qah (by omega)];exact ih
    refine qei (fun hk=>?_) fun hk=>last
    rw[qaj (by omega) (by omega),show((k:Int)-1)=((k-1:Nat):Int) by omega]
    have hk1:k-1<c.length:=by omega
    have hcm:=hcm (by omega)
    rw[qag hk1,qag h2] at hcm
    refine qae (qaq hk1) (qaa (qa5 _ _ (qbP hc hk1)) ?_)
    simp only[show decide (qdi c[k-1] c[k]≥0)=false from decide_eq_false (by omega)]
    exact last
  · simp only[Z9.l0_succ _ qaf]
    exact qaE (decide_eq_false (by omega)) (qap (by rw[Bool.true_and]))
  · have:(pb (∀ j,0≤j→j<c.length→qjG c j)&&decide ((c.length:Int)≤48))=pb (VC c):=qkF (by
      rw[Bool.and_eq_true,qa2,decide_eq_true_iff,← qoO]
      exact⟨fun h=>⟨h.1,by omega⟩,fun h=>⟨h.1,by omega⟩⟩)
    rw[this]
def qot(c:List Sim)(k:Nat):Prop:=(Vx (c.getD k [])∧(1≤k→qdi (c.getD (k-1) []) (c.getD k [])<0))∧∀ f∈qb3 (c.getD k []),f∈c
theorem qmr(c:Cpx)(hc:Sm (.sl (.sl (.int .i64))) c.1):Ret E n_Z123 [dC c] ⟨o_Z123,(pb (VC c.1),())⟩:=by
  have hc1:c.1.length≤1048576:=hc.1
  refine qal ?_
  simp only[run_Z123,Z123.ev]
  refine qei (fun h=>qap ?_) fun h48=>?_
  · rw[qav fun hv=>by have:=hv.1;omega]
  refine Ev.start (p:=fun φ n=>Z123.l0 (mkR (run E (φ 0))) (φ 0) n c 0=_) 1 ?_ (fun _ _ _ h=>h)
  -- the inner loop
  have inner:∀(k:Nat) (h2:k<c.1.length) (r:Option Dv),((∀ f∈qb3 c.1[k],f∈c.1)→Ev fun φ=>Z123.l0 (mkR (run E (φ 0))) (φ 0) (φ 1) c ((k+1:Nat):Int)=r)→(¬ (∀ f∈qb3 c.1[k],f∈c.1)→r=some ⟨o_Z123,(false,())⟩)→Ev fun φ=>Z123.l2 (mkR (run E (φ 0))) (φ 0) (φ 1) (φ 0) c (k:Int) c.1[k] 0=r:=fun k h2 r hgo hstop=>by
    have hks:(c.1[k]).length≤1048576:=(qbP hc h2).1
    refine Ev.start (p:=fun φ n=>Z123.l2 (mkR (run E (φ 0))) (φ 0) (φ 1) n c (k:Int) c.1[k] 0=_) 2 ?_ (fun _ _ _ h=>h)
    by_cases hlen:1<(c.1[k]).length
    · obtain⟨t,f⟩:=qlb 2 (L:=fun φ n i=>Z123.l2 (mkR (run E (φ 0))) (φ 0) (φ 1) n c (k:Int) c.1[k] i) (len:=(c.1[k]).length) 0 (by omega) (fun i=>(c.1[k]).eraseIdx i∈c.1) (rt:=r) (rf:=some ⟨o_Z123,(false,())⟩) (fun _ _ _ _=>rfl) (fun i _ hi hP _=>by
        simp only[Z123.l2_succ _ qaf]
        refine qaC (decide_eq_true (by omega)) ?_
        simp only[show decide (((c.1[k]).length:Int)>1)=true from decide_eq_true (by omega),Z123.j3_eq _ qaf,cond_true]
        refine qaa (qdr _ i hi hks) (qaa (qbu c _ hc) (qaC (decide_eq_true ?_) qam))
        have hq:=mt (qaO (c:=c.1) (s:=(c.1[k]).eraseIdx i)).1 hP;simp only;exact Int.not_le.1 hq) (fun i q _ hi hP _ ih=>by
        simp only[Z123.l2_succ _ qaf]
        refine qaC (decide_eq_true (by omega)) ?_
        simp only[show decide (((c.1[k]).length:Int)>1)=true from decide_eq_true (by omega),Z123.j3_eq _ qaf,cond_true]
        refine qaa (qdr _ i hi hks) (qaa (qbu c _ hc) (qaE (decide_eq_false ?_) ?_))
        · have hq:=(qaO (c:=c.1) (s:=(c.1[k]).eraseIdx i)).2 hP;simp only;exact Int.not_lt.2 hq
        · rw[qah (by omega)];exact ih) (fun hall=>by
        simp only[Z123.l2_succ _ qaf]
        refine qaE (decide_eq_false (by omega)) ?_
        simp only[Z123.j3_eq _ qaf,cond_false]
        rw[qah (by omega)]
        exact hgo fun f hf=>by
          obtain⟨_,i,hi,rfl⟩:=qdh.1 hf
          exact hall i (by omega) hi)
      by_cases hall:∀ i,0≤i→i<(c.1[k]).length→(c.1[k]).eraseIdx i∈c.1
      · exact t hall
      · rw[hstop fun hf=>hall fun i _ hi=>hf _ (qdh.2 ⟨hlen,i,hi,rfl⟩)]
        exact f hall
    · refine Ev.round 2 (L:=fun φ n=>Z123.l2 (mkR (run E (φ 0))) (φ 0) (φ 1) n c (k:Int) c.1[k] 0) ?_ (fun _ _ _=>rfl)
      have hgo:=hgo fun f hf=>absurd (qdh.1 hf).1 hlen
      have hj:Ev fun φ=>Z123.j3 (mkR (run E (φ 0))) (φ 0) (φ 1) (φ 2) c (k:Int) c.1[k] 0 false=r:=by
        simp only[Z123.j3_eq _ qaf,cond_false]
        rw[qah (by omega)];exact hgo
      simp only[Z123.l2_succ _ qaf]
      refine qei (fun _=>?_) fun _=>hj
      simp only[show decide (((c.1[k]).length:Int)>1)=false from decide_eq_false (by omega)]
      exact hj
  refine(qg7 1 (L:=fun φ n k=>Z123.l0 (mkR (run E (φ 0))) (φ 0) n c k) (len:=c.1.length) 0 (by omega) (qot c.1) (fun b=>some ⟨o_Z123,(b,())⟩) (fun _ _ _ _=>rfl) (fun k h1 h2 hP hpre=>?_) (fun k r h1 h2 hP hpre ih=>?_) (fun _=>?_)).to ?_
  · simp only[Z123.l0_succ _ qaf]
    refine qaC (decide_eq_true (by omega)) (qae (qaq h2) (qaa (qeq _ (qbP hc h2)) ?_))
    refine qfs (fun hv=>?_) fun hv=>?_
    · simp only[Z123.j1_eq _ qaf,cond_true];(first | exact qam | exact Ev.of fun _=>trivial)
    · have hv:Vx c.1[k]:=qa2.1 (by simpa using hv)
      have last:(1≤k→qdi (c.1.getD (k-1) []) (c.1.getD k [])<0)→Ev fun φ=>Z123.j1 (mkR (run E (φ 0))) (φ 0) (φ 1) c (k:Int) c.1[k] false=some ⟨o_Z123,(false,())⟩:=fun hcm=>by
        simp only[Z123.j1_eq _ qaf,cond_false]
        refine inner k h2 _ (fun hf=>absurd ⟨⟨by rw[qag h2];exact hv,hcm⟩,by rw[qag h2];exact hf⟩ hP) fun _=>rfl
      refine qei (fun hk=>?_) fun hk=>?_
      · rw[qaj (by omega) (by omega),show((k:Int)-1)=((k-1:Nat):Int) by omega]
        have hk1:k-1<c.1.length:=by omega
        refine qae (qaq hk1) (qaa (qcp _ _ (qbP hc hk1)) ?_)
        by_cases hcm:qdi c.1[k-1] c.1[k]<0
        · simp only[qaB hcm]
          exact last fun _=>by rw[qag hk1,qag h2];exact hcm
        · simp only[qav hcm,Z123.j1_eq _ qaf,cond_true,Bool.not_false]
          (first | exact qam | exact Ev.of fun _=>trivial)
      · exact last fun h=>absurd h (by omega)
  · simp only[Z123.l0_succ _ qaf]
    obtain⟨⟨hv,hcm⟩,hfc⟩:=hP
    rw[qag h2] at hv hfc
    refine qaC (decide_eq_true (by omega)) (qae (qaq h2) (qaa (qeq _ (qbP hc h2)) (qaE (by rw[qaB hv];rfl) ?_)))
    have last:Ev fun φ=>Z123.j1 (mkR (run E (φ 0))) (φ 0) (φ 1) c (k:Int) c.1[k] false=r:=by
      simp only[Z123.j1_eq _ qaf,cond_false]
      exact inner k h2 _ (fun _=>ih) fun hn=>absurd hfc hn
    refine qei (fun hk=>?_) fun hk=>last
    rw[qaj (by omega) (by omega),show((k:Int)-1)=((k-1:Nat):Int) by omega]
    have hk1:k-1<c.1.length:=by omega
    have hcm:=hcm (by omega)
    rw[qag hk1,qag h2] at hcm
    refine qae (qaq hk1) (qaa (qcp _ _ (qbP hc hk1)) ?_)
    simp only[qaB hcm,Bool.not_true]
    exact last
  · simp only[Z123.l0_succ _ qaf]
    exact qaE (decide_eq_false (by omega)) qam
  · have:pb (∀ j,0≤j→j<c.1.length→qot c.1 j)=pb (VC c.1):=qa0
      ⟨fun h=>⟨by omega,fun k hk=>(h k (by omega) hk).1.1,fun k h1 hk=>(h k (by omega) hk).1.2 h1,fun k hk=>(h k (by omega) hk).2⟩,
       fun h k _ hk=>⟨⟨h.2.1 k hk,fun h1=>h.2.2.1 k h1 hk⟩,h.2.2.2 k hk⟩⟩
    rw[this]
end VeT
open Go Go.Proofs Ve
namespace VeT
def Pr(p:Int):Prop:=2≤p∧p≤251∧∀ k:Nat,2≤k→(k:Int)*k≤p→p%k≠0
theorem qhI(p:Int):Ret E n_Z11 [dI p] ⟨o_Z11,(pb (Pr p),())⟩:=by
  refine qal ?_
  simp only[run_Z11,Z11.ev]
  refine qaa (qfC _ _ _) (qfs (fun h=>qap ?_) fun h=>?_)
  · have h:¬ (2≤p∧p≤251):=qc6.1 (by simpa using h)
    rw[qav fun hp=>h ⟨hp.1,hp.2.1⟩]
  have hr:2≤p∧p≤251:=qa2.1 (by simpa using h)
  refine Ev.start (p:=fun φ n=>Z11.l0 (mkR (run E (φ 0))) (φ 0) n p 2=_) 1 ?_ (fun _ _ _ h=>h)
  refine qez 1 (σ:=Nat) (L:=fun φ n k=>Z11.l0 (mkR (run E (φ 0))) (φ 0) n p (k:Int)) (fun _ _ _ _=>rfl) (fun k=>2≤k∧k≤17∧∀ j:Nat,2≤j→j<k→(j:Int)*j≤p→p%j≠0) (fun _=>_) (fun k=>17-k) (fun k ⟨h1,h2,h3⟩ ih=>?_) 2 ⟨by omega,by omega,fun j _ _=>by omega⟩
  simp only[Z11.l0_succ _ qaf]
  have hkk:0≤(k:Int)*k∧(k:Int)*k≤289:=⟨Int.mul_nonneg (by omega) (by omega),by have:=Nat.mul_le_mul h2 h2;omega⟩
  have e:w64 ((k:Int)*k)=(k:Int)*k:=qaj (by omega) (by omega)
  simp only[e]
  refine qei (fun hle=>?_) fun hle=>qap ?_
  · have hk16:k<16:=Classical.byContradiction fun hn=>by
      have:=Nat.mul_le_mul (show 16≤k by omega) (show 16≤k by omega);omega
    refine qan (by simp;omega) ?_
    rw[Int.tmod_eq_emod_of_nonneg (by omega)]
    refine qfs (fun h0=>qap ?_) fun h0=>?_
    · rw[qav fun hp=>hp.2.2 k h1 hle (by simpa using h0)]
    · rw[qah (by omega)]
      refine ih (k+1) ⟨by omega,by omega,fun j hj1 hj2 hj3=>?_⟩ (by show 17-(k+1)<17-k;omega)
      by_cases hjk:j=k
      · subst hjk;simpa using h0
      · exact h3 j hj1 (by omega) hj3
  · rw[qaB]
    refine⟨hr.1,hr.2,fun j hj1 hj2=>?_⟩
    by_cases hjk:j<k
    · exact h3 j hj1 hjk hj2
    · exfalso
      have:=Nat.mul_le_mul (show k≤j by omega) (show k≤j by omega);omega
theorem qjh(p:Int):Ret E n_Z105 [dI p] ⟨o_Z105,(pb (Pr p),())⟩:=by
  refine qal ?_
  simp only[run_Z105,Z105.ev]
  refine qaa (qdZ _ _ _) (qfs (fun h=>qap ?_) fun h=>?_)
  · have h:¬ (2≤p∧p≤251):=qc6.1 (by simpa using h)
    rw[qav fun hp=>h ⟨hp.1,hp.2.1⟩]
  have hr:2≤p∧p≤251:=qa2.1 (by simpa using h)
  refine Ev.start (p:=fun φ n=>Z105.l0 (mkR (run E (φ 0))) (φ 0) n p 2=_) 1 ?_ (fun _ _ _ h=>h)
  refine qez 1 (σ:=Nat) (L:=fun φ n k=>Z105.l0 (mkR (run E (φ 0))) (φ 0) n p (k:Int)) (fun _ _ _ _=>rfl) (fun k=>2≤k∧k≤17∧∀ j:Nat,2≤j→j<k→(j:Int)*j≤p→p%j≠0) (fun _=>_) (fun k=>17-k) (fun k ⟨h1,h2,h3⟩ ih=>?_) 2 ⟨by omega,by omega,fun j _ _=>by omega⟩
  simp only[Z105.l0_succ _ qaf]
  have hkk:0≤(k:Int)*k∧(k:Int)*k≤289:=⟨Int.mul_nonneg (by omega) (by omega),by have:=Nat.mul_le_mul h2 h2;omega⟩
  have e:w64 ((k:Int)*k)=(k:Int)*k:=qaj (by omega) (by omega)
  simp only[e]
  refine qei (fun hle=>?_) fun hle=>qap ?_
  · have hk16:k<16:=Classical.byContradiction fun hn=>by
      have:=Nat.mul_le_mul (show 16≤k by omega) (show 16≤k by omega);omega
    refine qan (by simp;omega) ?_
    rw[Int.tmod_eq_emod_of_nonneg (by omega)]
    refine qfs (fun h0=>qap ?_) fun h0=>?_
    · rw[qav fun hp=>hp.2.2 k h1 hle (by simpa using h0)]
    · rw[qah (by omega)]
      refine ih (k+1) ⟨by omega,by omega,fun j hj1 hj2 hj3=>?_⟩ (by show 17-(k+1)<17-k;omega)
      by_cases hjk:j=k
      · subst hjk;simpa using h0
      · exact h3 j hj1 (by omega) hj3
  · rw[qaB]
    refine⟨hr.1,hr.2,fun j hj1 hj2=>?_⟩
    by_cases hjk:j<k
    · exact h3 j hj1 hjk hj2
    · exfalso
      have:=Nat.mul_le_mul (show k≤j by omega) (show k≤j by omega);omega
theorem qfh(p:Int):Ret E n_Z93 [dI p] ⟨o_Z93,(pb (Pr p),())⟩:=by
 refine qal ?_
 simp only[run_Z93,Z93.ev]
 exact qaa (qjh p) qam
def qaR(v:Sim)(p:Int):Prop:=∀ x∈v,0≤x∧x≤p-1
theorem qog{α:Type}{s:List α}{P:α→Prop}:(!pb (∃ x∈s,(!pb (P x))=true))=pb (∀ x∈s,P x):=qkF (by
 simp only[Bool.not_eq_true',qc6]
 exact⟨fun h x hx=>Classical.byContradiction fun hn=>h ⟨x,hx,hn⟩,fun h ⟨x,hx,hn⟩=>hn (h x hx)⟩)
theorem qdU(s:Sim):Ret E n_Z56 [dL s] ⟨o_Z56,((s.length:Int),())⟩:=by
 refine qal ?_
 simp only[run_Z56,Z56.ev]
 (first | exact qam | exact Ev.of fun _=>trivial)
theorem qnB(s:List Sim):Ret E n_Z55 [dLL s] ⟨o_Z55,((s.length:Int),())⟩:=by
 refine qal ?_
 simp only[run_Z55,Z55.ev]
 (first | exact qam | exact Ev.of fun _=>trivial)
def VM(m:Mat):Prop:=Pr m.1∧(0≤m.2.1∧m.2.1≤32)∧(0≤m.2.2.1∧m.2.2.1≤32)∧(m.2.2.2.1.length:Int)=m.2.1*m.2.2.1∧qaR m.2.2.2.1 m.1
def Bt(m:Mat)(p f t:Int):Prop:=VM m∧m.1=p∧m.2.1=t∧m.2.2.1=f
def qad(c:List Sim)(d:Int)(k:Nat):List Int:=((List.range k).filter fun i=>decide (((c.getD i []).length:Int)=d+1)).map Int.ofNat
theorem qcw(c:List Sim)(d:Int)(k:Nat):qad c d (k+1)=qad c d k++if ((c.getD k []).length:Int)=d+1 then [(k:Int)] else []:=by
 unfold qad
 rw[List.range_succ,List.filter_append,List.map_append]
 congr 1
 by_cases h:((c.getD k []).length:Int)=d+1
 ·rw[if_pos h,List.filter_cons_of_pos (by simpa using h)];rfl
 ·rw[if_neg h,List.filter_cons_of_neg (by simpa using h)];rfl
theorem qf7(c:List Sim)(d:Int)(k:Nat):(qad c d k).length≤k:=by
 unfold qad
 rw[List.length_map]
 exact Nat.le_trans (List.length_filter_le _ _) (by simp)
theorem qg3{c:List Sim}{d:Int}{k:Nat}{x:Int}(h:x∈qad c d k):∃ i:Nat,x=i∧i<k:=by
 unfold qad at h
 rw[List.mem_map] at h
 obtain⟨i,hi,rfl⟩:=h
 exact⟨i,rfl,by have:=(List.mem_filter.1 hi).1;simpa using this⟩
theorem qaP(c:List Sim)(d:Int)(hc:Sm (.sl (.sl (.int .i64))) c)(hd:-1≤d∧d≤1048576):Ret E n_Z54 [dLL c,dI d] ⟨o_Z54,(qad c d c.length,())⟩:=by
 have hc1:c.length≤1048576:=hc.1
 have hd1:w64 (d+1)=d+1:=qaj (by omega) (by omega)
 refine qal ?_
 simp only[run_Z54,Z54.ev]
 refine Ev.start (p:=fun φ n=>Z54.l0 (mkR (run E (φ 0))) (φ 0) n d c (c.length:Int) 0 []=_) 1 ?_ (fun _ _ _ h=>h)
 refine qas 1 (L:=fun φ n k a=>Z54.l0 (mkR (run E (φ 0))) (φ 0) n d c (c.length:Int) k a) (len:=c.length) (fun k=>qad c d k) (fun _ _ _ _ _=>rfl) (fun k r hk ih=>?_) ?_
 ·simp only[Z54.l0_succ _ qaf,hd1]
  rw[qcw,qag hk] at ih
  have hlen:=qf7 c d k
  refine qaC (decide_eq_true (by omega)) (qae (qaq hk) (qaa (qdU _) ?_))
  rw[qah (by omega)]
  refine qfs (fun he=>qan (decide_eq_true (by simp only[List.length_cons,List.length_nil];omega)) ?_) fun he=>?_
  ·rw[if_pos (by simpa using he)] at ih;exact ih
  ·rw[if_neg (by simpa using he),List.append_nil] at ih;exact ih
 ·simp only[Z54.l0_succ _ qaf]
  exact qaE (decide_eq_false (by omega)) qam
theorem qdM(c:List Sim)(d:Int)(hc:Sm (.sl (.sl (.int .i64))) c)(hd:-1≤d∧d≤1048576):Ret E n_Z122 [dC (c,()),dI d] ⟨o_Z122,(qad c d c.length,())⟩:=by
 have hc1:c.length≤1048576:=hc.1
 have hd1:w64 (d+1)=d+1:=qaj (by omega) (by omega)
 refine qal ?_
 simp only[run_Z122,Z122.ev]
 refine Ev.start (p:=fun φ n=>Z122.l0 (mkR (run E (φ 0))) (φ 0) n (c,()) d 0 []=_) 1 ?_ (fun _ _ _ h=>h)
 refine qas 1 (L:=fun φ n k a=>Z122.l0 (mkR (run E (φ 0))) (φ 0) n (c,()) d k a) (len:=c.length) (fun k=>qad c d k) (fun _ _ _ _ _=>rfl) (fun k r hk ih=>?_) ?_
 ·simp only[Z122.l0_succ _ qaf,hd1]
  rw[qcw,qag hk] at ih
  have hlen:=qf7 c d k
  refine qaC (decide_eq_true (by omega)) (qae (qaq hk) ?_)
  rw[qah (by omega)]
  refine qfs (fun he=>qan (decide_eq_true (by simp only[List.length_cons,List.length_nil];omega)) ?_) fun he=>?_
  ·rw[if_pos (by simpa using he)] at ih;exact ih
  ·rw[if_neg (by simpa using he),List.append_nil] at ih;exact ih
 ·simp only[Z122.l0_succ _ qaf]
  exact qaE (decide_eq_false (by omega)) qam
def qqH(c:List Sim)(st:Sim)(d:Int)(k:Nat):Int:=(((qad c d c.length).take k).map fun i=>st.getD i.toNat 0).sum
end VeT
open Go Go.Proofs Ve
namespace VeT
theorem qe8(s:Sim)(v:Int)(hs:s.length≤1048576):Ret E n_Z89 [dL s,dI v] ⟨o_Z89,(qfU (fun x=>pb (x=v)) s,())⟩:=by
  obtain⟨o,h1,h2,h3⟩:=qb1 1 (L:=fun φ n k=>Z89.l0 (mkR (run E (φ 0))) (φ 0) n s v (s.length:Int) k) (len:=s.length) (fun k=>∃ h:k<s.length,pb (s[k]=v)=true) (fun o=>some ⟨o_Z89,(o2i o,())⟩) (fun _ _ _ _=>rfl) (fun k hk hP=>by
      obtain⟨_,hP⟩:=hP
      have hP:=qa2.1 hP
      simp only[Z89.l0_succ _ qaf]
      exact qaC (decide_eq_true (by omega)) (qae (qaq hk) (qaC (by simp[hP]) qam))) (fun k q hk hP ih=>by
      simp only[Z89.l0_succ _ qaf]
      refine qaC (decide_eq_true (by omega)) (qae (qaq hk) (qaE (by simp only[beq_eq_false_iff_ne];exact fun e=>hP ⟨hk,qaB e.symm⟩) ?_))
      rw[qah (by omega)];exact ih) (by
      simp only[Z89.l0_succ _ qaf]
      exact qaE (decide_eq_false (by omega)) qam)
  rw[qc1 (p:=fun x=>pb (x=v)) h1 h2] at h3
  refine qal ?_
  simp only[run_Z89,Z89.ev]
  exact Ev.start (p:=fun φ n=>Z89.l0 (mkR (run E (φ 0))) (φ 0) n s v (s.length:Int) 0=_) 1 h3 (fun _ _ _ h=>h)
theorem qj9(s:Sim)(v:Int)(hs:s.length≤1048576):Ret E n_Z79 [dL s,dI v] ⟨o_Z79,(pb (v∈s),())⟩:=by
 refine qal ?_
 simp only[run_Z79,Z79.ev]
 refine qaa (qe8 s v hs) (qap ?_)
 have:decide (qfU (fun x=>pb (x=v)) s≥0)=pb (v∈s):=qkF (by
  rw[decide_eq_true_iff,ge_iff_le,qb8]
  exact⟨fun⟨x,h,e⟩=>qa2.1 e ▸ h,fun h=>⟨v,h,qaB rfl⟩⟩)
 simp only[this]
theorem ql8(s:Sim)(v:Int)(hs:s.length≤1048576):Ret E n_Z95 [dL s,dI v] ⟨o_Z95,(pb (v∈s),())⟩:=by
  obtain⟨o,h1,h2,h3⟩:=qb1 1 (L:=fun φ n k=>Z95.l0 (mkR (run E (φ 0))) (φ 0) n s v k) (len:=s.length) (fun k=>∃ h:k<s.length,s[k]=v) (fun o=>some ⟨o_Z95,(o.isSome,())⟩) (fun _ _ _ _=>rfl) (fun k hk hP=>by
      obtain⟨_,hP⟩:=hP
      simp only[Z95.l0_succ _ qaf]
      exact qaC (decide_eq_true (by omega)) (qae (qaq hk) (qaC (by simp[hP]) qam))) (fun k q hk hP ih=>by
      simp only[Z95.l0_succ _ qaf]
      refine qaC (decide_eq_true (by omega)) (qae (qaq hk) (qaE (by simp only[beq_eq_false_iff_ne];exact fun e=>hP ⟨hk,e⟩) ?_))
      rw[qah (by omega)];exact ih) (by
      simp only[Z95.l0_succ _ qaf]
      exact qaE (decide_eq_false (by omega)) qam)
  have:o.isSome=pb (v∈s):=qkF (by
    cases o with
    | none =>
      simp only[Option.isSome_none,Bool.false_eq_true,false_iff]
      intro hm
      obtain⟨j,hj,e⟩:=List.mem_iff_getElem.1 hm
      exact h2 rfl j hj ⟨hj,e⟩
    | some k =>
      obtain⟨_,⟨hk,e⟩,_⟩:=h1 k rfl
      simp only[Option.isSome_some,true_iff]
      exact e ▸ List.getElem_mem hk)
  rw[this] at h3
  refine qal ?_
  simp only[run_Z95,Z95.ev]
  exact Ev.start (p:=fun φ n=>Z95.l0 (mkR (run E (φ 0))) (φ 0) n s v 0=_) 1 h3 (fun _ _ _ h=>h)
end VeT
open Go Go.Proofs Ve
namespace VeT
def SD(c:List Sim)(st:Sim)(d:Int):Int:=qqH c st d (qad c d c.length).length
def SK(c:List Sim)(st:Sim):Prop:=st.length=c.length∧(∀ x∈st,0≤x∧x≤3)∧∀ d:Nat,d<4→SD c st (d:Int)≤32
noncomputable def qb4(c:List Sim)(k:Nat):List Int:=(qb3 (c.getD k [])).map (qbV c)
theorem qn0{c:List Sim}{s:Sim}:qbV c s<c.length∧-1≤qbV c s:=by
 unfold qbV qfU
 cases h:c.findIdx? (fun x=>pb (x=s)) with
 | none=>simp only[o2i];omega
 | some k =>
  rw[List.findIdx?_eq_some_iff_getElem] at h
  obtain⟨h,_⟩:=h
  simp only[o2i];omega
theorem qbs{c:List Sim}{k:Nat}:(qb4 c k).length=if 1<(c.getD k []).length then(c.getD k []).length else 0:=by
 unfold qb4 qb3
 rw[List.length_map]
 split<;>simp
theorem qnH{c:List Sim}(h:VC c){k:Nat}(hk:k<c.length){x:Int}(hx:x∈qb4 c k):0≤x∧x<c.length:=by
 unfold qb4 at hx
 rw[List.mem_map] at hx
 obtain⟨f,hf,rfl⟩:=hx
 exact⟨qaO.2 (h.2.2.2 k hk f hf),qn0.1⟩
theorem qhB(c:List Sim)(k:Nat)(hk:k<c.length)(hc:Sm (.sl (.sl (.int .i64))) c)(hs:Srt c):Ret E n_Z29 [dLL c,dI (k:Int)] ⟨o_Z29,(qb4 c k,())⟩:=by
 have hks:(c[k]).length≤1048576:=(qbP hc hk).1
 have hfl:=qfR (s:=c[k])
 refine qal ?_
 simp only[run_Z29,Z29.ev]
 refine qae (qaq hk) (qaa (qeM _ hks) ?_)
 refine Ev.start (p:=fun φ n=>Z29.l0 (mkR (run E (φ 0))) (φ 0) n (qb3 c[k]) ((qb3 c[k]).length:Int) 0 c []=_) 1 ?_ (fun _ _ _ h=>h)
 refine qas 1 (L:=fun φ n j a=>Z29.l0 (mkR (run E (φ 0))) (φ 0) n (qb3 c[k]) ((qb3 c[k]).length:Int) j c a) (len:=(qb3 c[k]).length) (fun j=>((qb3 c[k]).take j).map (qbV c)) (fun _ _ _ _ _=>rfl) (fun j r hj ih=>?_) ?_
 ·simp only[Z29.l0_succ _ qaf]
  rw[List.take_succ_eq_append_getElem hj,List.map_append] at ih
  refine qaC (decide_eq_true (by omega)) (qae (qaq hj) (qaa (qdD c _ hc hs) (qan (by simp;omega) ?_)))
  rw[qah (by omega)];exact ih
 ·simp only[Z29.l0_succ _ qaf]
  refine qaE (decide_eq_false (by omega)) (qap ?_)
  rw[List.take_of_length_le (Nat.le_refl _),qb4,qag hk]
theorem qjH(c:List Sim)(k:Nat)(hk:k<c.length)(hc:Sm (.sl (.sl (.int .i64))) c):Ret E n_Z120 [dC (c,()),dI (k:Int)] ⟨o_Z120,(qb4 c k,())⟩:=by
 have hks:(c[k]).length≤1048576:=(qbP hc hk).1
 refine qal ?_
 simp only[run_Z120,Z120.ev]
 refine qae (qaq hk) ?_
 refine Ev.start (p:=fun φ n=>Z120.l0 (mkR (run E (φ 0))) (φ 0) n (c,()) c[k] 0 []=_) 1 ?_ (fun _ _ _ h=>h)
 by_cases hlen:1<(c[k]).length
 ·refine qas 1 (L:=fun φ n j a=>Z120.l0 (mkR (run E (φ 0))) (φ 0) n (c,()) c[k] j a) (len:=(c[k]).length) (fun j=>(List.range j).map fun i=>qbV c ((c[k]).eraseIdx i)) (fun _ _ _ _ _=>rfl) (fun j r hj ih=>?_) ?_
  ·simp only[Z120.l0_succ _ qaf]
   rw[List.range_succ,List.map_append] at ih
   refine qaC (decide_eq_true (by omega)) ?_
   simp only[show decide (((c[k]).length:Int)>1)=true from decide_eq_true (by omega),Z120.j1_eq _ qaf,cond_true]
   refine qaa (qdr _ j hj hks) (qaa (qbu (c,()) _ hc) (qan (by simp;omega) ?_))
   rw[qah (by omega)];exact ih
  ·simp only[Z120.l0_succ _ qaf]
   refine qaE (decide_eq_false (by omega)) ?_
   simp only[Z120.j1_eq _ qaf,cond_false]
   refine qap ?_
   rw[qb4,qag hk,qb3,if_pos hlen,List.map_map];rfl
 ·refine Ev.round 1 (L:=fun φ n=>Z120.l0 (mkR (run E (φ 0))) (φ 0) n (c,()) c[k] 0 []) ?_ (fun _ _ _=>rfl)
  have hj:Ev fun φ=>Z120.j1 (mkR (run E (φ 0))) (φ 0) (φ 1) (c,()) c[k] 0 false []=some ⟨o_Z120,(qb4 c k,())⟩:=by
   simp only[Z120.j1_eq _ qaf,cond_false]
   refine qap ?_
   rw[qb4,qag hk,qb3,if_neg hlen];rfl
  simp only[Z120.l0_succ _ qaf]
  refine qei (fun _=>?_) fun _=>hj
  simp only[show decide (((c[k]).length:Int)>1)=false from decide_eq_false (by omega)]
  exact hj
abbrev Arw:=Int×Int×Int×Unit
noncomputable def qp7(c:List Sim)(k i:Nat):List Arw:=(List.range i).map fun(j:Nat)=>((k:Int),(j:Int),(qb4 c k).getD j 0,())
noncomputable def qlM(c:List Sim):Nat→List Arw
 | 0=>[]
 | k+1=>qlM c k++qp7 c k (qb4 c k).length
noncomputable def plc(c:List Sim)(k:Nat):Nat:=(qlM c k).length
theorem qhq{c:List Sim}{k i:Nat}:(qp7 c k i).length=i:=by simp[qp7]
theorem qnW{c:List Sim}{k:Nat}:plc c (k+1)=plc c k+(qb4 c k).length:=by
 unfold plc;rw[qlM,List.length_append,qhq]
theorem VC.len4{c:List Sim}(h:VC c){k:Nat}(hk:k<c.length):(c.getD k []).length≤4:=(h.2.1 k hk).2.1
theorem VC.fIdx4{c:List Sim}(h:VC c){k:Nat}(hk:k<c.length):(qb4 c k).length≤4:=by
 have:=h.len4 hk
 rw[qbs];split<;>omega
theorem VC.plc{c:List Sim}(h:VC c):∀ {k:Nat},k≤c.length→plc c k≤4*k
 | 0,_=>by simp[VeT.plc,qlM]
 | k+1,hk=>by
  have h1:=h.plc (k:=k) (by omega)
  have h2:=h.fIdx4 (k:=k) (by omega)
  rw[qnW];omega
theorem qlG{c:List Sim}:∀ {n k i:Nat},k<n→i<(qb4 c k).length→(qlM c n)[plc c k+i]? = some ((k:Int),(i:Int),(qb4 c k).getD i 0,())
 | 0,_,_,h,_=>by omega
 | n+1,k,i,h,hi=>by
  rw[qlM]
  by_cases hk:k<n
  ·have:=qlG hk hi
   have hl:=(List.getElem?_eq_some_iff.1 this).1
   rw[List.getElem?_append_left hl];exact this
  ·obtain rfl:k=n:=by omega
   rw[List.getElem?_append_right (by unfold plc;omega)]
   rw[show plc c k+i-(qlM c k).length=i by unfold plc;omega]
   simp[qp7,hi]
theorem qns{c:List Sim}:∀ {n t:Nat},t<(qlM c n).length→∃ k i,k<n∧i<(qb4 c k).length∧t=plc c k+i
 | 0,_,h=>by simp[qlM] at h
 | n+1,t,h=>by
  by_cases ht:t<(qlM c n).length
  ·obtain⟨k,i,h1,h2,h3⟩:=qns ht
   exact⟨k,i,by omega,h2,h3⟩
  ·rw[qlM,List.length_append,qhq] at h
   exact⟨n,t-(qlM c n).length,by omega,by omega,by unfold plc;omega⟩
end VeT
open Go Go.Proofs Ve
namespace VeT
def mz:Mat:=(0,0,0,[],())
def QB(p:Int)(st:Sim)(ms:List Mat)(t k:Nat)(f:Int):Prop:=Bt (ms.getD t mz) p (st.getD f.toNat 0) (st.getD k 0)
def VS(c:List Sim)(p:Int)(st:Sim)(ms:List Mat):Prop:=VC c∧Pr p∧SK c st∧plc c c.length=ms.length∧∀ k,k<c.length→∀ i,i<(qb4 c k).length→QB p st ms (plc c k+i) k ((qb4 c k).getD i 0)
end VeT
open Go Go.Proofs Ve
namespace VeT
theorem qhm(n:Int):Ret E n_Z40 [dI n] ⟨o_Z40,(pb (0≤n∧n≤3),())⟩:=by
 refine qal ?_
 simp only[run_Z40,Z40.ev]
 exact qaa (qfC _ _ _) qam
theorem qgh(n:Int):Ret E n_Z116 [dI n] ⟨o_Z116,(pb (0≤n∧n≤3),())⟩:=by
 refine qal ?_
 simp only[run_Z116,Z116.ev]
 exact qaa (qdZ _ _ _) qam
end VeT
open Go Go.Proofs Ve
namespace VeT
theorem qlX(p r:Int)(C:Nat)(cells:Sim)(i j:Nat)(h:i*C+j<cells.length)(hl:cells.length≤1048576):Ret E n_Z7 [dI p,dI r,dI (C:Int),dL cells,dI (i:Int),dI (j:Int)] ⟨o_Z7,(cells[i*C+j],())⟩:=by
 refine qal ?_
 simp only[run_Z7,Z7.ev]
 rw[qbp,qaj (n:=((i*C:Nat):Int)) (by omega) (by omega),qaj (by omega) (by omega),show((i*C:Nat):Int)+(j:Int)=((i*C+j:Nat):Int) by omega]
 exact qae (qaq h) qam
theorem qeE(p r:Int)(C:Nat)(cells:Sim)(i:Nat)(h:(i+1)*C≤cells.length)(hi:i≤1048576)(hl:cells.length≤1048576):Ret E n_Z8 [dI p,dI r,dI (C:Int),dL cells,dI (i:Int)] ⟨o_Z8,((cells.take ((i+1)*C)).drop (i*C),())⟩:=by
 refine qal ?_
 simp only[run_Z8,Z8.ev]
 have h1:i*C≤(i+1)*C:=Nat.mul_le_mul_right _ (by omega)
 have e1:w64 ((i:Int)*(C:Int))=((i*C:Nat):Int):=by rw[qbp];exact qaj (by omega) (by omega)
 have e2:w64 ((i:Int)+1)=((i+1:Nat):Int):=qah (by omega)
 have e3:w64 (((i+1:Nat):Int)*(C:Int))=(((i+1)*C:Nat):Int):=by rw[qbp];exact qaj (by omega) (by omega)
 simp only[e1,e2,e3,Int.toNat_natCast]
 exact qan (by simp only[Bool.and_eq_true,decide_eq_true_eq];omega) qam
theorem qhi(s:Sim)(hs:s.length≤1048576):Ret E n_Z69 [dL s] ⟨o_Z69,(s,())⟩:=by
 refine qal ?_
 simp only[run_Z69,Z69.ev,Z69.j0_eq _ qaf,cond_true,cond_false]
 have h:Ev fun φ=>(Option.bind (chk (decide ((List.length ([]:List Int)+List.length s)*8≤70368744177664))) fun _=>some (⟨o_Z69,((([]:List Int)++s),())⟩:Dv))=some ⟨o_Z69,(s,())⟩ :=
  qan (by simp;omega) (qap rfl)
 cases s with
 | nil=>exact qaC rfl (qeB qam h)
 | cons a s=>exact qaE rfl h
theorem qha(m:Mat)(C:Nat)(i j:Nat)(hC:m.2.2.1=(C:Int))(h:j*C+i<m.2.2.2.1.length)(hl:m.2.2.2.1.length≤1048576):Ret E n_Z59 [dI (i:Int),dI (j:Int),dM m] ⟨o_Z59,(m.2.2.2.1.getD (j*C+i) 0,())⟩:=by
 rw[qag h]
 refine qal ?_
 simp only[run_Z59,Z59.ev]
 rw[hC]
 exact qaa (qlX _ _ C _ j i h hl) qam
theorem qpf(a b:Sim)(p:Int)(hp:2≤p∧p≤251)(ha:a.length≤32)(hb:a.length≤b.length)(ea:∀ x∈a,0≤x∧x≤250)(eb:∀ x∈b,0≤x∧x≤250) :
  Ret E n_Z26 [dL a,dL b,dI p] ⟨o_Z26,(qaF (fun l=>a.getD l 0) (fun l=>b.getD l 0) a.length%p,())⟩:=by
 refine qal ?_
 simp only[run_Z26,Z26.ev]
 refine Ev.start (p:=fun φ n=>Z26.l0 (mkR (run E (φ 0))) (φ 0) n a b p 0 (a.length:Int) 0=_) 1 ?_ (fun _ _ _ h=>h)
 have:=qas 1 (L:=fun φ n k s=>Z26.l0 (mkR (run E (φ 0))) (φ 0) n a b p s (a.length:Int) k) (len:=a.length) (fun k=>qaF (fun l=>a.getD l 0) (fun l=>b.getD l 0) k%p) (r:=some ⟨o_Z26,(qaF (fun l=>a.getD l 0) (fun l=>b.getD l 0) a.length%p,())⟩) (fun _ _ _ _ _=>rfl) (fun k r hk ih=>?_) ?_
 ·simpa [qaF] using this
 ·simp only[Z26.l0_succ _ qaf]
  have hkb:k<b.length:=by omega
  have hm:=qfS (ea _ (List.getElem_mem hk)) (eb _ (List.getElem_mem hkb))
  have h0:=Int.emod_nonneg (qaF (fun l=>a.getD l 0) (fun l=>b.getD l 0) k) (show p≠0 by omega)
  have h1:=Int.emod_lt_of_pos (qaF (fun l=>a.getD l 0) (fun l=>b.getD l 0) k) (show 0<p by omega)
  refine qaC (decide_eq_true (by omega)) (qae (qaq hk) (qae (qaq hkb) (qan (by simp;omega) ?_)))
  rw[qaj (n:=a[k]*b[k]) (by omega) (by omega),qaj (by omega) (by omega),Int.tmod_eq_emod_of_nonneg (by omega),Int.emod_add_emod,qah (by omega)]
  simp only[qaF] at ih
  rw[qag hk,qag hkb] at ih
  exact ih
 ·simp only[Z26.l0_succ _ qaf]
  exact qaE (decide_eq_false (by omega)) qam
theorem qmc(p:Int)(R C:Nat)(cells:Sim)(hl:cells.length=R*C)(hR:R≤32)(hC:C≤32):Ret E n_Z53 [dI p,dI (R:Int),dI (C:Int),dL cells] ⟨o_Z53,((List.range R).map fun i=>(cells.take ((i+1)*C)).drop (i*C),())⟩:=by
 have h1024:=qgR hR hC
 refine qal ?_
 simp only[run_Z53,Z53.ev]
 refine Ev.start (p:=fun φ n=>Z53.l0 (mkR (run E (φ 0))) (φ 0) n (R:Int) 0 p (R:Int) (C:Int) cells []=_) 1 ?_ (fun _ _ _ h=>h)
 refine qas 1 (L:=fun φ n k a=>Z53.l0 (mkR (run E (φ 0))) (φ 0) n (R:Int) k p (R:Int) (C:Int) cells a) (len:=R) (fun k=>(List.range k).map fun i=>(cells.take ((i+1)*C)).drop (i*C)) (fun _ _ _ _ _=>rfl) (fun k r hk ih=>?_) ?_
 ·simp only[Z53.l0_succ _ qaf]
  have hle:(k+1)*C≤R*C:=Nat.mul_le_mul_right _ hk
  rw[List.range_succ,List.map_append] at ih
  refine qaC (decide_eq_true (by omega)) (qaa (qeE p _ C cells k (by omega) (by omega) (by omega)) (qaa (qhi _ (by simp;omega)) (qan (by simp;omega) ?_)))
  rw[qah (by omega)];exact ih
 ·simp only[Z53.l0_succ _ qaf]
  exact qaE (decide_eq_false (by omega)) qam
end VeT
open Go Go.Proofs Ve
namespace VeT
theorem qaR.get{v:Sim}{p:Int}(h:qaR v p)(hp:2≤p∧p≤251)(i:Nat):0≤v.getD i 0∧v.getD i 0≤250:=by
 by_cases hi:i<v.length
 ·rw[qag hi]
  have:=h _ (List.getElem_mem hi)
  omega
 ·rw[List.getD_eq_getElem?_getD,List.getElem?_eq_none (by omega)];simp
theorem qaR.mem{v:Sim}{p:Int}(h:qaR v p)(hp:2≤p∧p≤251):∀ x∈v,0≤x∧x≤250:=fun x hx=>by
 have:=h x hx;omega
def qpM(p:Int)(ca cb:Sim)(K C i j:Nat):Int:=qaF (fun l=>ca.getD (i*K+l) 0) (fun l=>cb.getD (l*C+j) 0) K%p
def ql3(a b:Mat):Mat:=(a.1,a.2.1,b.2.2.1,qat (qpM a.1 a.2.2.2.1 b.2.2.2.1 a.2.2.1.toNat b.2.2.1.toNat) b.2.2.1.toNat a.2.1.toNat,())
def qhG(K C:Nat)(cb:Sim):List Sim:=(List.range C).map fun i=>(List.range K).map fun j=>cb.getD (j*C+i) 0
theorem qiq(q:Int)(K C:Nat)(cb:Sim)(hl:cb.length=K*C)(hK:K≤32)(hC:C≤32):Ret E n_Z58 [dI q,dI (K:Int),dI (C:Int),dL cb] ⟨o_Z58,(q,(C:Int),(K:Int),qat (fun i j=>cb.getD (j*C+i) 0) K C,())⟩:=by
 have h1:=qgR hK hC
 have h2:=qgR hC hK
 refine qal ?_
 simp only[run_Z58,Z58.ev]
 refine qaa (qcH q C K ((q,(K:Int),(C:Int),cb,()),()) (fun i j=>cb.getD (j*C+i) 0) (by omega) (by omega) (by omega) fun i j hi hj=>?_) qam
 exact qha (q,(K:Int),(C:Int),cb,()) C i j rfl (by show _<cb.length;rw[hl];exact qga hj hi) (by show cb.length≤_;omega)
theorem qiX(q:Int)(K C:Nat)(cb:Sim)(hl:cb.length=K*C)(hK:K≤32)(hC:C≤32):Ret E n_Z21 [dI q,dI (K:Int),dI (C:Int),dL cb] ⟨o_Z21,(qhG K C cb,())⟩:=by
 refine qal ?_
 simp only[run_Z21,Z21.ev]
 refine qaa (qiq q K C cb hl hK hC) (qaa (qmc q C K _ qaz hC hK) (qap ?_))
 have:((List.range C).map fun i=>((qat (fun i j=>cb.getD (j*C+i) 0) K C).take ((i+1)*K)).drop (i*K))=qhG K C cb :=
  List.map_congr_left fun i hi=>qj2 (List.mem_range.1 hi)
 rw[this]
theorem VM.nat{m:Mat}(h:VM m):∃ R K:Nat,m=(m.1,(R:Int),(K:Int),m.2.2.2.1,())∧R≤32∧K≤32∧m.2.2.2.1.length=R*K:=by
 obtain⟨p,r,k,c,⟨⟩⟩:=m
 obtain⟨_,h2,h3,h4,_⟩:=h
 simp only at h2 h3 h4
 obtain⟨R,rfl⟩:=Int.eq_ofNat_of_zero_le h2.1
 obtain⟨K,rfl⟩:=Int.eq_ofNat_of_zero_le h3.1
 refine⟨R,K,rfl,by omega,by omega,?_⟩
 rw[qbp] at h4;simp only;omega
theorem qkU(p:Int)(R C:Nat)(hR:R≤32)(hC:C≤32):Ret E n_Z112 [dI p,dI (R:Int),dI (C:Int)] ⟨o_Z112,(p,(R:Int),(C:Int),List.replicate (R*C) 0,())⟩:=by
 have h1:=qgR hR hC
 have e1:w64 ((R:Int)*(C:Int))=((R*C:Nat):Int):=by rw[qbp];exact qaj (by omega) (by omega)
 refine qal ?_
 simp only[run_Z112,Z112.ev,e1,Int.toNat_natCast]
 exact qan (by simp only[Bool.and_eq_true,decide_eq_true_eq];omega) qam
end VeT
open Go Go.Proofs Ve
namespace VeT
theorem qp3{a b:Mat}:a=b↔a.1=b.1∧a.2.1=b.2.1∧a.2.2.1=b.2.2.1∧a.2.2.2.1=b.2.2.2.1:=by
 obtain⟨p,r,k,c,⟨⟩⟩:=a
 obtain⟨p',r',k',c',⟨⟩⟩:=b
 simp only[Prod.mk.injEq,and_true]
noncomputable def mp(c:List Sim)(ms:List Mat)(k i:Nat):Mat:=ms.getD (plc c k+i) mz
noncomputable def fc(c:List Sim)(k i:Nat):Nat:=((qb4 c k).getD i 0).toNat
theorem qnb{c:List Sim}{s:Sim}(h:s∈c):c.getD (qbV c s).toNat []=s:=by
 have h0:=qaO.2 h
 unfold qbV qfU at h0 ⊢
 cases hf:c.findIdx? (fun x=>pb (x=s)) with
 | none=>rw[hf] at h0;simp[o2i] at h0
 | some k =>
  rw[List.findIdx?_eq_some_iff_getElem] at hf
  obtain⟨hk,hp,_⟩:=hf
  simp only[o2i,Int.toNat_natCast]
  rw[qag hk];exact qa2.1 hp
theorem qjW{c:List Sim}(h:VC c){k i:Nat}(hk:k<c.length)(hi:i<(qb4 c k).length):idx? (qb4 c k) (i:Int)=some ((fc c k i:Nat):Int)∧fc c k i<c.length∧c.getD (fc c k i) []=(c.getD k []).eraseIdx i:=by
 have hm:=qnH h hk (List.getElem_mem hi)
 have hl:=qbs (c:=c) (k:=k)
 have h1:1<(c.getD k []).length:=Classical.byContradiction fun hn=>by rw[if_neg hn] at hl;omega
 rw[if_pos h1] at hl
 have hfc:(qb4 c k)[i]=qbV c ((c.getD k []).eraseIdx i):=by
  have:(qb4 c k)[i]? = some (qbV c ((c.getD k []).eraseIdx i)):=by
   unfold qb4 qb3
   rw[if_pos h1,List.map_map,List.getElem?_map,List.getElem?_range (by omega)];rfl
  rw[List.getElem?_eq_getElem hi] at this
  exact Option.some.inj this
 have hin:(c.getD k []).eraseIdx i∈c:=h.2.2.2 k hk _ (qdh.2 ⟨h1,i,by omega,rfl⟩)
 unfold fc
 rw[qag hi]
 refine⟨?_,by omega,?_⟩
 ·rw[qaq hi];congr 1;omega
 ·rw[hfc];exact qnb hin
theorem VS.map{c:List Sim}{p:Int}{st:Sim}{ms:List Mat}(h:VS c p st ms){k i:Nat}(hk:k<c.length)(hi:i<(qb4 c k).length):plc c k+i<ms.length∧Bt (mp c ms k i) p (st.getD (fc c k i) 0) (st.getD k 0):=by
 have hg:=qlG hk hi
 have hlt:=(List.getElem?_eq_some_iff.1 hg).1
 exact⟨by rw[← h.2.2.2.1];exact hlt,h.2.2.2.2 k hk i hi⟩
noncomputable def two(c:List Sim)(ms:List Mat)(k i j:Nat):Mat:=ql3 (mp c ms k i) (mp c ms (fc c k i) j)
structure Sq (c:List Sim) (p:Int) (st:Sim) (ms:List Mat) (k i j:Nat):Prop where
 kl:k<c.length
 n3:3≤(c.getD k []).length
 il:i<(c.getD k []).length
 jl:j+1<(c.getD k []).length
 v:VS c p st ms
theorem Sq.hi{c p st ms k i j}(h:Sq c p st ms k i j):i<(qb4 c k).length:=by
 have:=h.n3;have:=h.il
 rw[qbs,if_pos (by omega)];exact this
theorem Sq.fk{c p st ms k i j}(h:Sq c p st ms k i j):fc c k i<c.length:=(qjW h.v.1 h.kl h.hi).2.1
theorem Sq.hj{c p st ms k i j}(h:Sq c p st ms k i j):j<(qb4 c (fc c k i)).length:=by
 have h1:=h.n3;have h2:=h.il;have h3:=h.jl
 have e:=(qjW h.v.1 h.kl h.hi).2.2
 rw[qbs,e,List.length_eraseIdx,if_pos h2,if_pos (by omega)];omega
theorem Sq.b1{c p st ms k i j}(h:Sq c p st ms k i j):VM (mp c ms k i):=((h.v.map h.kl h.hi).2).1
theorem Sq.b2{c p st ms k i j}(h:Sq c p st ms k i j):VM (mp c ms (fc c k i) j):=((h.v.map h.fk h.hj).2).1
theorem Sq.sh{c p st ms k i j}(h:Sq c p st ms k i j):(mp c ms k i).2.2.1=(mp c ms (fc c k i) j).2.1:=by
 rw[((h.v.map h.kl h.hi).2).2.2.2,((h.v.map h.fk h.hj).2).2.2.1]
end VeT
open Go Go.Proofs Ve
namespace VeT
def qkW(i j:Nat):Int:=if i=j then 1 else 0
def qqG(p:Int)(n:Nat):Mat:=(p,(n:Int),(n:Int),qat qkW n n,())
end VeT
open Go Go.Proofs Ve
namespace VeT
theorem qhU.lt{s:Sim}(h:qhU s):∀ {i j:Nat} (hj:j<s.length) (hij:i<j),s[i]<s[j]:=by
 intro i j
 induction j with
 | zero=>intro _ h;omega
 | succ j ih =>
  intro hj hij
  have:=h (j+1) (by omega) hj
  rw[Nat.add_sub_cancel,qag (by omega),qag hj] at this
  by_cases e:i=j
  ·subst e;exact this
  ·exact Int.lt_trans (ih (by omega) (by omega)) this
theorem qhU.pairwise{s:Sim}(h:qhU s):s.Pairwise (·<·):=by
 rw[List.pairwise_iff_getElem]
 intro i j hi hj hij
 exact h.lt hj hij
theorem qjp:∀ {a b:Sim},a.Pairwise (·<·)→b.Pairwise (·<·)→(∀ x,x∈a↔x∈b)→a=b
 | [],[],_,_,_=>rfl
 | [],y::ys,_,_,h=>absurd ((h y).2 List.mem_cons_self) (by simp)
 | x::xs,[],_,_,h=>absurd ((h x).1 List.mem_cons_self) (by simp)
 | x::xs,y::ys,ha,hb,h=>by
  rw[List.pairwise_cons] at ha hb
  have exy:x=y:=by
   have h1:=(h x).1 List.mem_cons_self
   have h2:=(h y).2 List.mem_cons_self
   rw[List.mem_cons] at h1 h2
   rcases h1 with h1 | h1
   ·exact h1
   ·rcases h2 with h2 | h2
    ·exact h2.symm
    ·have:=hb.1 x h1
     have:=ha.1 y h2
     omega
  subst exy
  congr 1
  refine qjp ha.2 hb.2 fun z=>⟨fun hz=>?_,fun hz=>?_⟩
  ·have:=(h z).1 (List.mem_cons_of_mem _ hz)
   rw[List.mem_cons] at this
   rcases this with e | e
   ·have:=ha.1 z hz;omega
   ·exact e
  ·have:=(h z).2 (List.mem_cons_of_mem _ hz)
   rw[List.mem_cons] at this
   rcases this with e | e
   ·have:=hb.1 z hz;omega
   ·exact e
end VeT
open Go Go.Proofs Ve
namespace VeT
def qcl:List Int→Int→List Int
 | [],n=>[n]
 | x::r,n=>if x<n then x::qcl r n else if n<x then n::x::r else x::r
theorem qfe:∀ {l:List Int} {n y:Int},y∈qcl l n↔y=n∨y∈l
 | [],n,y=>by simp[qcl]
 | x::r,n,y=>by
  unfold qcl
  split
  ·rw[List.mem_cons,qfe,List.mem_cons]
   constructor
   ·rintro(h | h | h)
    ·exact .inr (.inl h)
    ·exact .inl h
    ·exact .inr (.inr h)
   ·rintro(h | h | h)
    ·exact .inr (.inl h)
    ·exact .inl h
    ·exact .inr (.inr h)
  ·split
   ·rw[List.mem_cons]
   ·have:x=n:=by omega
    subst this
    rw[List.mem_cons]
    exact⟨fun h=>.inr h,fun h=>h.elim (fun h=>.inl h) id⟩
theorem qfl:∀ {l:List Int} {n:Int},l.Pairwise (·<·)→(qcl l n).Pairwise (·<·)
 | [],n,_=>by simp[qcl]
 | x::r,n,h=>by
  rw[List.pairwise_cons] at h
  unfold qcl
  split
  ·rw[List.pairwise_cons]
   refine⟨fun y hy=>?_,qfl h.2⟩
   rcases qfe.1 hy with rfl | hy
   ·assumption
   ·exact h.1 y hy
  ·split
   ·rw[List.pairwise_cons]
    refine⟨fun y hy=>?_,List.pairwise_cons.2 h⟩
    rcases List.mem_cons.1 hy with rfl | hy
    ·assumption
    ·have:=h.1 y hy;omega
   ·exact List.pairwise_cons.2 h
theorem qdy:∀ {l:List Int} {n:Int},(qcl l n).length≤l.length+1
 | [],n=>by simp[qcl]
 | x::r,n=>by
  unfold qcl
  split
  ·have:=qdy (l:=r) (n:=n);simp;exact this
  ·split<;>simp
theorem qpQ:∀ {xs acc:List Int},acc.Pairwise (·<·)→(xs.foldl qcl acc).Pairwise (·<·)∧∀ y,y∈xs.foldl qcl acc↔y∈acc∨y∈xs
 | [],acc,h=>⟨h,fun y=>by simp⟩
 | x::xs,acc,h=>by
  obtain⟨h1,h2⟩:=qpQ (xs:=xs) (qfl (n:=x) h)
  refine⟨h1,fun y=>?_⟩
  rw[List.foldl_cons,h2,qfe,List.mem_cons]
  constructor
  ·rintro((h | h) | h)
   ·exact .inr (.inl h)
   ·exact .inl h
   ·exact .inr (.inr h)
  ·rintro(h | h | h)
   ·exact .inl (.inr h)
   ·exact .inl (.inl h)
   ·exact .inr h
theorem qfz:∀ {xs acc:List Int},acc.Pairwise (·<·)→(∀ a∈acc,∀ x∈xs,a≤x)→xs.Pairwise (·≤·)→(xs.foldl qg9 acc).Pairwise (·<·)∧∀ y,y∈xs.foldl qg9 acc↔y∈acc∨y∈xs
  | [],acc,h,_,_=>⟨h,fun y=>by simp⟩
  | x::xs,acc,h,hle,hx=>by
    rw[List.pairwise_cons] at hx
    rw[List.foldl_cons]
    by_cases hl:acc.getLast? = some x
    · have e:qg9 acc x=acc:=by unfold qg9;rw[if_pos hl]
      rw[e]
      obtain⟨h1,h2⟩:=qfz h (fun a ha y hy=>hle a ha y (List.mem_cons_of_mem _ hy)) hx.2
      refine⟨h1,fun y=>?_⟩
      rw[h2,List.mem_cons]
      have hm:x∈acc:=List.mem_of_getLast? hl
      constructor
      · rintro(h | h)
        · exact .inl h
        · exact .inr (.inr h)
      · rintro(h | rfl | h)
        · exact .inl h
        · exact .inl hm
        · exact .inr h
    · have e:qg9 acc x=acc++[x]:=by unfold qg9;rw[if_neg hl]
      rw[e]
      have hlt:∀ a∈acc,a<x:=by
        rcases List.eq_nil_or_concat acc with rfl | ⟨i,l,rfl⟩
        · simp
        · rw[List.concat_eq_append] at *
          rw[List.getLast?_append] at hl
          have hl':l≠x:=by simpa using hl
          have hlx:=hle l (by simp) x List.mem_cons_self
          intro a ha
          rw[List.mem_append] at ha
          rcases ha with ha | ha
          · have:=(List.pairwise_append.1 h).2.2 a ha l (by simp)
            omega
          · have:a=l:=by simpa using ha
            omega
      obtain⟨h1,h2⟩:=qfz (xs:=xs) (acc:=acc++[x]) (List.pairwise_append.2 ⟨h,by simp,fun a ha b hb=>by
          have:b=x:=by simpa using hb
          subst this;exact hlt a ha⟩) (fun a ha y hy=>by
        rw[List.mem_append] at ha
        rcases ha with ha | ha
        · exact hle a ha y (List.mem_cons_of_mem _ hy)
        · have:a=x:=by simpa using ha
          subst this;exact hx.1 y hy) hx.2
      refine⟨h1,fun y=>?_⟩
      rw[h2,List.mem_append,List.mem_cons (a:=y) (b:=x) (l:=xs),List.mem_singleton]
      constructor
      · rintro((h | h) | h)
        · exact .inl h
        · exact .inr (.inl h)
        · exact .inr (.inr h)
      · rintro(h | h | h)
        · exact .inl (.inl h)
        · exact .inl (.inr h)
        · exact .inr h
theorem qnY(xs:List Int):(qcL xs).Pairwise (·≤·):=by
 have:=List.pairwise_mergeSort (le:=fun x y:Int=>decide (x≤y)) (fun a b c h1 h2=>by simp at *;omega) (fun a b=>by simp;omega) xs
 exact this.imp fun h=>by simpa using h
theorem qnx(xs:List Int):qeG (qcL xs)=xs.foldl qcl []:=by
 obtain⟨h1,h2⟩:=qfz (xs:=qcL xs) (acc:=[]) List.Pairwise.nil (by simp) (qnY xs)
 obtain⟨h3,h4⟩:=qpQ (xs:=xs) (acc:=[]) List.Pairwise.nil
 refine qjp h1 h3 fun y=>?_
 unfold qeG
 rw[h2,h4]
 unfold qcL
 rw[List.mem_mergeSort]
theorem qoh(n:Nat)(args:List Dv):run E (n+1) n_Z90 args=qh0 (mkR (run E n)) args:=rfl
theorem qnV(s:Sim)(hs:s.length≤1048576):Ret E n_Z90 [dL s] ⟨o_Z90,(qcL s,())⟩:=by
 refine qal ?_
 simp only[qoh]
 refine qap ?_
 have hc:chk (decide (s.length≤1048576))=some ():=by rw[decide_eq_true hs];rfl
 show((some s).bind fun xs=>(chk (decide (List.length xs≤1048576))).map fun _=>(⟨.cons tL .nil,(qcL xs,())⟩:Dv))=_
 simp only[Option.bind_some,hc]
 rfl
theorem qkl(n:Nat)(args:List Dv):run E (n+1) n_Z70 args=qip (mkR (run E n)) args:=rfl
theorem qkT(s:Sim)(hs:s.length≤1048576):Ret E n_Z70 [dL s] ⟨o_Z70,(qeG s,())⟩:=by
 refine qal ?_
 simp only[qkl]
 refine qap ?_
 have hc:chk (decide (s.length≤1048576))=some ():=by rw[decide_eq_true hs];rfl
 show((some s).bind fun xs=>(chk (decide (List.length xs≤1048576))).map fun _=>(⟨.cons tL .nil,(qeG xs,())⟩:Dv))=_
 simp only[Option.bind_some,hc]
 rfl
def vxN(c:List Sim):Nat→List Int
 | 0=>[]
 | k+1=>if (c.getD k []).length=1 then vxN c k++[(c.getD k []).getD 0 0] else vxN c k
abbrev vxs(c:List Sim):List Int:=vxN c c.length
theorem qiJ{c:List Sim}:∀ {k:Nat} {v:Int},v∈vxN c k↔∃ j,j<k∧c.getD j []=[v]
 | 0,v=>by simp[vxN]
 | k+1,v=>by
  have key:(c.getD k []).length=1→((c.getD k []).getD 0 0=v↔c.getD k []=[v]):=fun h=>by
   obtain⟨u,hu⟩:=List.length_eq_one_iff.1 h
   rw[hu];simp
  unfold vxN
  split
  ·rename_i h1
   rw[List.mem_append,qiJ,List.mem_singleton]
   constructor
   ·rintro(⟨j,h,e⟩ | h)
    ·exact⟨j,by omega,e⟩
    ·exact⟨k,by omega,(key h1).1 h.symm⟩
   ·rintro⟨j,h,e⟩
    by_cases hj:j=k
    ·subst hj;exact .inr ((key h1).2 e).symm
    ·exact .inl ⟨j,by omega,e⟩
  ·rename_i h1
   rw[qiJ]
   constructor
   ·rintro⟨j,h,e⟩;exact⟨j,by omega,e⟩
   ·rintro⟨j,h,e⟩
    by_cases hj:j=k
    ·subst hj;rw[e] at h1;simp at h1
    ·exact⟨j,by omega,e⟩
theorem qm9{c:List Sim}{v:Int}:v∈vxs c↔[v]∈c:=by
 rw[qiJ,List.mem_iff_getElem]
 constructor
 ·rintro⟨j,h,e⟩;exact⟨j,h,by rw[← e,qag h]⟩
 ·rintro⟨j,h,e⟩;exact⟨j,h,by rw[← e,qag h]⟩
theorem qbz{c:List Sim}:∀ {k:Nat},(vxN c k).length≤k
 | 0=>by simp[vxN]
 | k+1=>by
  have:=qbz (c:=c) (k:=k)
  unfold vxN
  split
  ·simp;exact this
  ·omega
theorem qgt{c:List Sim}(h:Srt c):∀ {k:Nat},k≤c.length→(vxN c k).Pairwise (·<·)
 | 0,_=>by simp[vxN]
 | k+1,hk=>by
  have ih:=qgt h (k:=k) (by omega)
  unfold vxN
  split
  ·rename_i h1
   refine List.pairwise_append.2 ⟨ih,by simp,fun a ha b hb=>?_⟩
   obtain⟨j,hj,e⟩:=qiJ.1 ha
   have hb:b=(c.getD k []).getD 0 0:=by simpa using hb
   obtain⟨u,hu⟩:=List.length_eq_one_iff.1 h1
   rw[hu] at hb
   have hb:b=u:=by simpa using hb
   subst hb
   have:=h j k (by omega) hj
   rw[qag (by omega)] at e hu
   rw[e,hu] at this
   have h3:qdi [a] [b]=if a<b then -1 else if b<a then 1 else 0:=by
    simp[qdi,qhR,qef]
   rw[h3] at this
   split at this
   ·assumption
   ·split at this<;>omega
  ·exact ih
theorem qev(c:List Sim)(hc:Sm (.sl (.sl (.int .i64))) c):Ret E n_Z60 [dLL c] ⟨o_Z60,(vxs c,())⟩:=by
 have hc1:c.length≤1048576:=hc.1
 refine qal ?_
 simp only[run_Z60,Z60.ev]
 refine Ev.start (p:=fun φ n=>Z60.l0 (mkR (run E (φ 0))) (φ 0) n c (c.length:Int) 0 []=_) 1 ?_ (fun _ _ _ h=>h)
 refine qas 1 (L:=fun φ n k a=>Z60.l0 (mkR (run E (φ 0))) (φ 0) n c (c.length:Int) k a) (len:=c.length) (fun k=>vxN c k) (fun _ _ _ _ _=>rfl) (fun k r hk ih=>?_) ?_
 ·simp only[Z60.l0_succ _ qaf]
  rw[qah (by omega)]
  refine qaC (decide_eq_true (by omega)) (qae (qaq hk) ?_)
  have hl:=qbz (c:=c) (k:=k)
  rw[vxN,qag hk] at ih
  by_cases h1:(c[k]).length=1
  ·rw[if_pos h1,qag (by omega)] at ih
   refine qaC (by simp[h1]) (qae (qaq (k:=0) (by show 0<(c[k]).length;omega)) (qan (by simp;omega) ?_))
   exact ih
  ·rw[if_neg h1] at ih
   exact qaE (by simp;omega) ih
 ·simp only[Z60.l0_succ _ qaf]
  exact qaE (decide_eq_false (by omega)) qam
theorem qdY(c:Cpx)(hc:Sm (.sl (.sl (.int .i64))) c.1):Ret E n_Z139 [dC c] ⟨o_Z139,(vxs c.1,())⟩:=by
 have hc1:c.1.length≤1048576:=hc.1
 refine qal ?_
 simp only[run_Z139,Z139.ev]
 refine Ev.start (p:=fun φ n=>Z139.l0 (mkR (run E (φ 0))) (φ 0) n c 0 []=_) 1 ?_ (fun _ _ _ h=>h)
 refine qas 1 (L:=fun φ n k a=>Z139.l0 (mkR (run E (φ 0))) (φ 0) n c k a) (len:=c.1.length) (fun k=>vxN c.1 k) (fun _ _ _ _ _=>rfl) (fun k r hk ih=>?_) ?_
 ·simp only[Z139.l0_succ _ qaf]
  rw[qah (by omega)]
  refine qaC (decide_eq_true (by omega)) (qae (qaq hk) ?_)
  have hl:=qbz (c:=c.1) (k:=k)
  rw[vxN,qag hk] at ih
  by_cases h1:(c.1[k]).length=1
  ·rw[if_pos h1,qag (by omega)] at ih
   refine qaC (by simp[h1]) (qae (qaq hk) (qae (qaq (k:=0) (by show 0<(c.1[k]).length;omega)) (qan (by simp;omega) ?_)))
   exact ih
  ·rw[if_neg h1] at ih
   exact qaE (by simp;omega) ih
 ·simp only[Z139.l0_succ _ qaf]
  exact qaE (decide_eq_false (by omega)) qam
theorem qlE{c:List Sim}(h:VC c):∀(n:Nat) {s:Sim},s∈c→s.length=n+1→∀ x∈s,[x]∈c
 | 0,s,hs,hl,x,hx=>by
  obtain⟨u,rfl⟩:=List.length_eq_one_iff.1 hl
  have:x=u:=by simpa using hx
  subst this;exact hs
 | n+1,s,hs,hl,x,hx=>by
  obtain⟨j,hj,rfl⟩:=List.mem_iff_getElem.1 hx
  obtain⟨k,hk,hks⟩:=List.mem_iff_getElem.1 hs
  obtain⟨i,hi,hij⟩:∃ i,i<s.length∧i≠j:=by
   by_cases h0:j=0
   ·exact⟨1,by omega,by omega⟩
   ·exact⟨0,by omega,by omega⟩
  have hf:s.eraseIdx i∈c:=h.2.2.2 k hk _ (by rw[qag hk,hks];exact qdh.2 ⟨by omega,i,hi,rfl⟩)
  refine qlE h n hf (by rw[List.length_eraseIdx,if_pos hi];omega) _ ?_
  rw[List.mem_eraseIdx_iff_getElem]
  exact⟨j,hj,fun e=>hij e.symm,rfl⟩
theorem VC.vert{c:List Sim}(h:VC c){s:Sim}(hs:s∈c){x:Int}(hx:x∈s):x∈vxs c:=by
 have hl:0<s.length:=List.length_pos_of_mem hx
 exact qm9.2 (qlE h (s.length-1) hs (by omega) x hx)
theorem VC.get{c:List Sim}(h:VC c){s:Sim}(hs:s∈c):Vx s:=by
 obtain⟨k,hk,rfl⟩:=List.mem_iff_getElem.1 hs
 have:=h.2.1 k hk
 rwa [qag hk] at this
noncomputable def qgj(vs im:List Int)(v:Int):Int:=match vs.findIdx? (fun x=>pb (x=v)) with
 | some i=>im.getD i (-1)
 | none=>-1
theorem qmy{vs im:List Int}{v:Int}(hv:v∈vs)(hl:im.length=vs.length):∃ i,∃ h:i<vs.length,∃ h':i<im.length,vs[i]=v∧(∀ j (hj:j<i),vs[j]≠v)∧qgj vs im v=im[i]∧qfU (fun x=>pb (x=v)) vs=(i:Int):=by
 unfold qgj qfU
 cases h:vs.findIdx? (fun x=>pb (x=v)) with
 | none =>
  rw[List.findIdx?_eq_none_iff] at h
  have:=h v hv
  rw[qaB rfl] at this;cases this
 | some i =>
  rw[List.findIdx?_eq_some_iff_getElem] at h
  obtain⟨h1,h2,h3⟩:=h
  refine⟨i,h1,by omega,qa2.1 h2,fun j hj e=>h3 j hj (qaB e),?_,rfl⟩
  exact qag (by omega)
noncomputable def img(vs im s:List Int):List Int:=(s.map (qgj vs im)).foldl qcl []
theorem qcB(c:List Sim)(im s:Sim)(hc:Sm (.sl (.sl (.int .i64))) c)(hl:im.length=(vxs c).length)(hs:∀ x∈s,x∈vxs c)(hs1:s.length≤1048576) :
  Ret E n_Z35 [dLL c,dL im,dL s] ⟨o_Z35,(img (vxs c) im s,())⟩:=by
 have hvl:=qbz (c:=c) (k:=c.length)
 have hc1:c.length≤1048576:=hc.1
 refine qal ?_
 simp only[run_Z35,Z35.ev]
 refine qaa (qev c hc) ?_
 refine Ev.start (p:=fun φ n=>Z35.l0 (mkR (run E (φ 0))) (φ 0) n im (vxs c) s (s.length:Int) 0 []=_) 1 ?_ (fun _ _ _ h=>h)
 refine qas 1 (L:=fun φ n k a=>Z35.l0 (mkR (run E (φ 0))) (φ 0) n im (vxs c) s (s.length:Int) k a) (len:=s.length) (fun k=>(s.take k).map (qgj (vxs c) im)) (fun _ _ _ _ _=>rfl) (fun k r hk ih=>?_) ?_
 ·simp only[Z35.l0_succ _ qaf]
  rw[qah (by omega)]
  obtain⟨i,h1,h2,h3,h4,h5,h6⟩:=qmy (im:=im) (hs s[k] (List.getElem_mem hk)) hl
  have hix:=qe8 (vxs c) s[k] (Nat.le_trans hvl hc1)
  rw[h6] at hix
  refine qaC (decide_eq_true (by omega)) (qae (qaq hk) (qaa hix (qae (qaq h2) (qan (by simp;omega) ?_))))
  rw[List.take_succ_eq_append_getElem hk,List.map_append,List.map_singleton,h5] at ih
  exact ih
 ·simp only[Z35.l0_succ _ qaf]
  rw[List.take_of_length_le (Nat.le_refl _)]
  have hsl:(qcL (s.map (qgj (vxs c) im))).length≤1048576:=by unfold qcL;rw[List.length_mergeSort,List.length_map];exact hs1
  refine qaE (decide_eq_false (by omega)) (qaa (qnV _ (by rw[List.length_map];exact hs1)) (qaa (qkT _ hsl) (qap ?_)))
  rw[qnx];rfl
theorem qh5(l:Sim)(n:Int)(hl:l.length≤1048576):Ret E n_Z98 [dL l,dI n] ⟨o_Z98,(qcl l n,())⟩:=by
  refine qal ?_
  simp only[run_Z98,Z98.ev]
  refine Ev.start (p:=fun φ N=>Z98.l0 (mkR (run E (φ 0))) (φ 0) N l n false 0 []=_) 1 ?_ (fun _ _ _ h=>h)
  refine(qez 1 (σ:=Bool×Nat×List Int) (L:=fun φ N st=>Z98.l0 (mkR (run E (φ 0))) (φ 0) N l n st.1 (st.2.1:Int) st.2.2) (fun _ _ _ _=>rfl) (fun st=>st.2.1≤l.length∧st.2.2.length≤st.2.1+(bif st.1 then 1 else 0))
    (fun st=>some ⟨o_Z98,(st.2.2++(bif st.1 then l.drop st.2.1 else qcl (l.drop st.2.1) n),())⟩) (fun st=>l.length-st.2.1) (fun st hi ih=>?_) (false,0,[]) ⟨Nat.zero_le _,Nat.zero_le _⟩).to (by simp only[List.nil_append,cond_false,List.drop_zero])
  obtain⟨d,i,o⟩:=st
  obtain⟨h1,h2⟩:=hi
  simp only at h1 h2 ih ⊢
  by_cases hlt:i<l.length
  · have ol:o.length≤i+1:=by cases d<;>simp at h2<;>omega
    have hd:l.drop i=l[i]::l.drop (i+1):=List.drop_eq_getElem_cons hlt
    -- what follows
    have step:∀(d':Bool) (o' X:List Int),o'.length≤i+(bif d' then 1 else 0)→(o'++[l[i]])++(bif d' then l.drop (i+1) else qcl (l.drop (i+1)) n)=X →
        Ev fun φ=>Z98.j2 (mkR (run E (φ 0))) (φ 0) (φ 1) l n d' (i:Int) o'=some ⟨o_Z98,(X,())⟩:=fun d' o' X hol hX=>by
      have ho2:o'.length≤i+1:=by cases d'<;>simp at hol<;>omega
      have:=ih (d',i+1,o'++[l[i]]) ⟨by show i+1≤_;omega,by
        simp only[List.length_append,List.length_singleton]
        cases d'<;>simp at hol ⊢<;>omega⟩ (by simp only;omega)
      simp only at this
      rw[hX] at this
      simp only[Z98.j2_eq _ qaf]
      rw[qah (by omega)]
      exact qae (qaq hlt) (qan (by simp;omega) this)
    simp only[Z98.l0_succ _ qaf]
    refine qaC (decide_eq_true (by omega)) ?_
    cases d with
    | true =>
      refine qaE rfl ?_
      have e:o++List.drop i l=(o++[l[i]])++l.drop (i+1):=by rw[hd];simp
      simp only[cond_true] at h2 ⊢
      rw[e]
      simp only[Z98.j1_eq _ qaf]
      refine qaE rfl ?_
      exact step true o _ h2 (by simp only[cond_true])
    | false =>
      refine qaC rfl (qae (qaq hlt) ?_)
      simp only[cond_false,Nat.add_zero] at h2 ⊢
      simp only[Z98.j1_eq _ qaf]
      refine qei (fun hge=>?_) fun hge=>?_
      · have hge:l[i]≥n:=hge
        refine qae (qaq hlt) (qei (fun hgt=>?_) fun hgt=>?_)
        · have e:o++qcl (List.drop i l) n=((o++[n])++[l[i]])++l.drop (i+1):=by
            rw[hd,qcl,if_neg (by omega),if_pos (show n<l[i] from hgt)];simp
          rw[e]
          exact qan (by simp;omega) (step true (o++[n]) _ (by simp;omega) (by simp only[cond_true]))
        · have hgt:¬ l[i]>n:=hgt
          have e:o++qcl (List.drop i l) n=(o++[l[i]])++l.drop (i+1):=by
            rw[hd,qcl,if_neg (by omega),if_neg (by omega)];simp
          rw[e]
          exact step true o _ (by simp;omega) (by simp only[cond_true])
      · have hge:¬ l[i]≥n:=hge
        have e:o++qcl (List.drop i l) n=(o++[l[i]])++qcl (l.drop (i+1)) n:=by
          rw[hd,qcl,if_pos (by omega)];simp
        rw[e]
        exact step false o _ (by simp;omega) (by simp only[cond_false])
  · have hi:i=l.length:=by omega
    subst hi
    simp only[Z98.l0_succ _ qaf,List.drop_length]
    refine qaE (decide_eq_false (by omega)) ?_
    cases d with
    | true=>exact qaE rfl (qap (by simp only[cond_true,List.append_nil]))
    | false =>
      simp only[cond_false,Nat.add_zero] at h2 ⊢
      exact qaC rfl (qan (by simp;omega) qam)
end VeT
open Go Go.Proofs Ve
namespace VeT
end VeT
open Go Go.Proofs Ve
namespace VeT
end VeT
open Go Go.Proofs Ve
namespace VeT
theorem qpK{st:Sim}(hst:∀ x∈st,0≤x∧x≤3)(k:Nat):0≤st.getD k 0∧st.getD k 0≤3:=by
 by_cases hl:k<st.length
 ·rw[qag hl];exact hst _ (List.getElem_mem hl)
 ·rw[List.getD_eq_getElem?_getD,List.getElem?_eq_none (by omega)];simp
theorem qfd{c:List Sim}{d:Int}{s n:Nat}(hs:s<n)(hd:((c.getD s []).length:Int)=d+1):∃ tl,qad c d n=qad c d s++(s:Int)::tl:=by
 induction n with
 | zero=>omega
 | succ n ih =>
  rw[qcw]
  by_cases h:s=n
  ·subst h;exact⟨[],by rw[if_pos hd]⟩
  ·obtain⟨tl,e⟩:=ih (by omega)
   exact⟨tl++_,by rw[e,List.append_assoc];rfl⟩
theorem qbG{c:List Sim}{d:Int}{k:Nat}{x:Int}:x∈qad c d k↔∃ i:Nat,x=i∧i<k∧((c.getD i []).length:Int)=d+1:=by
 unfold qad
 rw[List.mem_map]
 constructor
 ·rintro⟨i,hi,rfl⟩
  have:=List.mem_filter.1 hi
  exact⟨i,rfl,by simpa using this.1,by simpa using this.2⟩
 ·rintro⟨i,rfl,h1,h2⟩
  exact⟨i,List.mem_filter.2 ⟨by simpa using h1,by simpa using h2⟩,rfl⟩
abbrev St:=List (Nat×Int)
def qnK(S:St)(cs:Sim):Sim:=S.foldl (fun cs q=>cs.set q.1 q.2) cs
theorem qkA{S T:St}{cs:Sim}:qnK (S++T) cs=qnK T (qnK S cs):=by simp[qnK]
theorem qqc{q:Nat}{v:Int}{cs:Sim}:qnK [(q,v)] cs=cs.set q v:=rfl
theorem qkM{S:St}:∀ {cs:Sim},(qnK S cs).length=cs.length:=by
 induction S with
 | nil=>intro cs;rfl
 | cons q S ih=>intro cs;show(qnK S (cs.set q.1 q.2)).length=_;rw[ih,List.length_set]
theorem qmg{p:Int}{S:St}:∀ {cs:Sim},qaR cs p→(∀ q∈S,0≤q.2∧q.2≤p-1)→qaR (qnK S cs) p:=by
 induction S with
 | nil=>intro cs h _;exact h
 | cons q S ih =>
  intro cs h hS
  refine ih (cs:=cs.set q.1 q.2) (fun x hx=>?_) fun y hy=>hS y (List.mem_cons_of_mem _ hy)
  rcases List.mem_or_eq_of_mem_set hx with hx | rfl
  ·exact h x hx
  ·exact hS q List.mem_cons_self
def sgn(p:Int)(a:Nat):Int:=if a%2=0 then 1 else p-1
theorem qmT{p:Int}(hp:2≤p∧p≤251)(a:Nat):0≤sgn p a∧sgn p a≤p-1:=by
 unfold sgn;split<;>omega
theorem qji{n:Nat}{p:Int}(hp:2≤p):qaR (List.replicate n 0) p:=fun x hx=>by
 rw[List.mem_replicate] at hx;omega
def qeH(m:Mat)(v:Sim)(n:Nat):Sim:=(List.range n).map fun i=>qaF (fun l=>m.2.2.2.1.getD (i*m.2.2.1.toNat+l) 0) (fun l=>v.getD l 0) m.2.2.1.toNat%m.1
theorem qaN{m:Mat}{v:Sim}{n:Nat}:(qeH m v n).length=n:=by simp[qeH]
theorem qhZ{m:Mat}{v:Sim}{n:Nat}(hp:2≤m.1):qaR (qeH m v n) m.1:=fun x hx=>by
 unfold qeH at hx
 obtain⟨i,_,rfl⟩:=List.mem_map.1 hx
 have h0:=Int.emod_nonneg (qaF (fun l=>m.2.2.2.1.getD (i*m.2.2.1.toNat+l) 0) (fun l=>v.getD l 0) m.2.2.1.toNat) (show m.1≠0 by omega)
 have h1:=Int.emod_lt_of_pos (qaF (fun l=>m.2.2.2.1.getD (i*m.2.2.1.toNat+l) 0) (fun l=>v.getD l 0) m.2.2.1.toNat) (show 0<m.1 by omega)
 omega
end VeT
open Go Go.Proofs Ve
namespace VeT
theorem qiG{c:List Sim}(hc:Srt c){s:Sim}{m:Nat}(hm:m<c.length):qbV c s=(m:Int)↔s=c[m]:=by
 have hs:qbV c c[m]=(m:Int):=by
  unfold qbV qfU
  have:c.findIdx? (fun x=>pb (x=c[m]))=some m:=by
   rw[List.findIdx?_eq_some_iff_getElem]
   refine⟨hm,qaB rfl,fun j hj h=>?_⟩
   have e:=qa2.1 h
   have:=hc j m hm hj
   rw[qcE.2 e] at this;omega
  rw[this];rfl
 constructor
 ·intro h
  have h0:0≤qbV c s:=by omega
  obtain⟨j,hj,e⟩:=List.mem_iff_getElem.1 (qaO.1 h0)
  subst e
  have hj2:qbV c c[j]=(j:Int):=by
   unfold qbV qfU
   have:c.findIdx? (fun x=>pb (x=c[j]))=some j:=by
    rw[List.findIdx?_eq_some_iff_getElem]
    refine⟨hj,qaB rfl,fun i hi h=>?_⟩
    have e:=qa2.1 h
    have:=hc i j hj hi
    rw[qcE.2 e] at this;omega
   rw[this];rfl
  have:j=m:=by omega
  subst this;rfl
 ·rintro rfl;exact hs
theorem qgr{c:List Sim}(h:Srt c){i j:Nat}(hij:i≤j)(hj:j<c.length):(c.getD i []).length≤(c.getD j []).length:=by
 rw[qag (by omega),qag hj]
 by_cases e:i=j
 ·subst e;exact Nat.le_refl _
 ·have:=h i j hj (by omega)
  rw[qgD] at this
  omega
theorem qgX{c:List Sim}(h:Srt c){d x:Int}(hx:x∈qad c d c.length) :
  ∃ s f0:Nat,x=(s:Int)∧s<c.length∧f0≤s∧(qad c d c.length).head? = some (f0:Int)∧qfU (fun y=>pb (y=x)) (qad c d c.length)=((s-f0:Nat):Int)∧s-f0<(qad c d c.length).length:=by
 obtain⟨s,rfl,hs,hd⟩:=qbG.1 hx
 obtain⟨tl,hL⟩:=qfd hs hd
 have hne:qad c d c.length≠[]:=by rw[hL];simp
 obtain⟨y,hy⟩:∃ y,(qad c d c.length).head? = some y:=by
  cases hh:qad c d c.length with
  | nil=>exact absurd hh hne
  | cons y l=>exact⟨y,rfl⟩
 have hym:y∈qad c d c.length:=List.mem_of_head? hy
 obtain⟨f0,rfl,hf,hfd⟩:=qbG.1 hym
 obtain⟨tl2,hL2⟩:=qfd hf hfd
 have hz:qad c d f0=[]:=by
  cases hh:qad c d f0 with
  | nil=>rfl
  | cons z l =>
   have hz:z∈qad c d f0:=by rw[hh];exact List.mem_cons_self
   obtain⟨i,rfl,hi⟩:=qg3 hz
   rw[hL2,hh] at hy
   have:((i:Nat):Int)=f0:=by simpa using hy
   omega
 have hfs:f0≤s:=by
  refine Classical.byContradiction fun hn=>?_
  have:((s:Nat):Int)∈qad c d f0:=qbG.2 ⟨s,rfl,by omega,hd⟩
  rw[hz] at this;cases this
 have hlen:∀ t,f0+t≤s→(qad c d (f0+t)).length=t:=by
  intro t
  induction t with
  | zero=>intro _;rw[Nat.add_zero,hz];rfl
  | succ t ih =>
   intro ht
   have h1:=qgr h (show f0≤f0+t by omega) (by omega)
   have h2:=qgr h (show f0+t≤s by omega) hs
   rw[← Nat.add_assoc,qcw,if_pos (by omega),List.length_append,ih (by omega)];rfl
 have hls:=hlen (s-f0) (by omega)
 rw[show f0+(s-f0)=s by omega] at hls
 refine⟨s,f0,rfl,hs,hfs,hy,?_,by rw[hL,List.length_append,hls];simp⟩
 unfold qfU
 have:(qad c d c.length).findIdx? (fun y=>pb (y=(s:Int)))=some (s-f0):=by
  rw[List.findIdx?_eq_some_iff_getElem]
  refine⟨by rw[hL,List.length_append,hls];simp,?_,fun j hj=>?_⟩
  ·refine qaB ?_
   have:(qad c d c.length)[s-f0]? = some (s:Int):=by
    rw[hL,List.getElem?_append_right (by omega),hls,Nat.sub_self];rfl
   exact(List.getElem?_eq_some_iff.1 this).2
  ·rw[qa2]
   intro e
   have hj':j<(qad c d s).length:=by omega
   have:(qad c d c.length)[j]? = some (qad c d s)[j]:=by
    rw[hL,List.getElem?_append_left hj',List.getElem?_eq_getElem hj']
   have e2:=(List.getElem?_eq_some_iff.1 this).2
   rw[e] at e2
   obtain⟨i,hi,hi2⟩:=qg3 (List.getElem_mem hj')
   rw[← e2] at hi
   omega
 rw[this];rfl
end VeT
open Go Go.Proofs Ve
namespace VeT
def Mp(a b:List Sim)(im:Sim):Prop:=im.length=(vxs a).length∧∀ s∈a,img (vxs a) im s∈b
theorem qpT{t:Ty}{s:List t.T}(h:Sm (.sl t) s){x:t.T}(hx:x∈s):Sm t x:=h.2 x hx
theorem qkX{vs im:List Int}(hr:vs.Pairwise (·<·))(hl:im.length=vs.length){i:Nat}(hi:i<vs.length):qgj vs im vs[i]=im[i]'(by omega):=by
 obtain⟨j,h1,h2,h3,h4,h5,_⟩:=qmy (im:=im) (List.getElem_mem hi) hl
 rw[List.pairwise_iff_getElem] at hr
 have:j=i:=by
  rcases Nat.lt_trichotomy j i with h | h | h
  ·have:=hr j i h1 hi h;omega
  ·exact h
  ·have:=hr i j hi h1 h;omega
 subst this
 exact h5
theorem qkr{vs im:List Int}{v:Int}:img vs im [v]=[qgj vs im v]:=rfl
theorem Mp.vert{a b:List Sim}{im:Sim}(ha:VC a)(h:Mp a b im):∀ x∈im,[x]∈b:=by
 intro x hx
 obtain⟨i,hi,rfl⟩:=List.mem_iff_getElem.1 hx
 have hi':i<(vxs a).length:=by rw[← h.1];exact hi
 have hv:=qm9.1 (List.getElem_mem hi')
 have:=h.2 _ hv
 rw[qkr,qkX (qgt ha.srt (Nat.le_refl _)) h.1 hi'] at this
 exact this
theorem Mp.range{a b:List Sim}{im:Sim}(ha:VC a)(hb:VC b)(h:Mp a b im):∀ x∈im,0≤x∧x≤9:=fun x hx =>
 (hb.get (h.vert ha x hx)).2.2.2 x (List.mem_singleton_self _)
theorem qk3(a b:List Sim)(im s:Sim)(ha:VC a)(hb:VC b)(sa:Sm (.sl (.sl (.int .i64))) a)(sb:Sm (.sl (.sl (.int .i64))) b)(hl:im.length=(vxs a).length)(hs:s∈a) :
  Ret E n_Z42 [dL s,dC (b,()),dC (a,()),⟨.ptr (.cons (.sl (.int .i64)) .nil),(im,())⟩] ⟨o_Z42,(pb (¬ img (vxs a) im s∈b),())⟩:=by
 refine qal ?_
 simp only[run_Z42,Z42.ev]
 refine qaa (qcB a im s sa hl (fun x hx=>ha.vert hs hx) (qpT sa hs).1) (qaa (qdD b _ sb hb.srt) (qap ?_))
 simp only[qeu,qa0 (show qbV b (img (vxs a) im s)<0↔¬ img (vxs a) im s∈b by rw[← qaO];omega)]
theorem qhv(a b:List Sim)(im:Sim)(ha:VC a)(hb:VC b)(sa:Sm (.sl (.sl (.int .i64))) a)(sb:Sm (.sl (.sl (.int .i64))) b) :
  Ret E n_Z41 [dLL a,dLL b,dL im] ⟨o_Z41,(pb (Mp a b im),())⟩:=by
 refine qal ?_
 simp only[run_Z41,Z41.ev]
 refine qaa (qev a sa) (qfs (fun h=>qap ?_) fun h=>?_)
 ·have h:(im.length:Int)≠(vxs a).length:=by simpa using h
  rw[qav fun hm=>h (by rw[hm.1])]
 ·have h:(im.length:Int)=(vxs a).length:=by simpa using h
  have hl:im.length=(vxs a).length:=by omega
  refine qaa (qba a ((b,()),(a,()),(im,()),()) _ sa.1 fun s hs=>qk3 a b im s ha hb sa sb hl hs) (qap ?_)
  have:(!pb (∃ x∈a,pb (¬ img (vxs a) im x∈b)=true))=pb (Mp a b im):=qkF (by
   simp only[Bool.not_eq_true',qc6,qa2]
   exact⟨fun hn=>⟨hl,fun s hs=>Classical.byContradiction fun hb=>hn ⟨s,hs,hb⟩⟩,fun hm ⟨s,hs,hb⟩=>hb (hm.2 s hs)⟩)
  rw[this]
open Classical in
noncomputable def MC(a b:List Sim)(im:Sim):Int:=if VC a∧VC b then(if Mp a b im then 0 else 7) else 1
theorem qdQ{a b:List Sim}{im:Sim}:MC a b im=0↔(VC a∧VC b)∧Mp a b im:=by
 unfold MC
 by_cases h:VC a∧VC b
 ·rw[if_pos h]
  by_cases hm:Mp a b im
  ·rw[if_pos hm]
   exact⟨fun _=>⟨h,hm⟩,fun _=>rfl⟩
  ·rw[if_neg hm]
   exact⟨fun e=>absurd e (by decide),fun e=>absurd e.2 hm⟩
 ·rw[if_neg h]
  exact⟨fun e=>absurd e (by decide),fun e=>absurd e.1 h⟩
theorem qlQ(a b:List Sim)(im:Sim)(sa:Sm (.sl (.sl (.int .i64))) a)(sb:Sm (.sl (.sl (.int .i64))) b):Ret E n_Z48 [dLL a,dLL b,dL im] ⟨o_Z48,(MC a b im,())⟩:=by
 refine qal ?_
 simp only[run_Z48,Z48.ev]
 refine qaa (qbf a sa) ?_
 by_cases ha:VC a
 ·refine qaE (by rw[qaB ha];rfl) (qaa (qbf b sb) ?_)
  simp only[Z48.j0_eq _ qaf]
  by_cases hb:VC b
  ·refine qaE (by rw[qaB hb];rfl) (qaa (qhv a b im ha hb sa sb) ?_)
   unfold MC
   rw[if_pos ⟨ha,hb⟩]
   by_cases hm:Mp a b im
   ·rw[if_pos hm]
    exact qaE (by rw[qaB hm];rfl) qam
   ·rw[if_neg hm]
    exact qaC (by rw[qav hm];rfl) qam
  ·unfold MC
   rw[if_neg fun h=>hb h.2]
   exact qaC (by rw[qav hb];rfl) qam
 ·unfold MC
  rw[if_neg fun h=>ha h.1]
  refine qaC (by rw[qav ha];rfl) ?_
  simp only[Z48.j0_eq _ qaf]
  exact qaC rfl qam
open Classical in
noncomputable def qbM(a b c:Cpx)(f g:Sim):Sim×Int×Unit :=
 if VC a.1∧VC b.1∧VC c.1 then(if Mp a.1 b.1 f∧Mp b.1 c.1 g then(f.map (qgj (vxs b.1) g),0,()) else([],7,())) else([],1,())
theorem qeL(a b c:Cpx)(f g:Sim)(sa:Sm (.st cC) a)(sb:Sm (.st cC) b)(sc:Sm (.st cC) c)(sf:Sm (.sl (.int .i64)) f)(sg:Sm (.sl (.int .i64)) g):Ret E n_Z5 [dLL a.1,dLL b.1,dLL c.1,dL f,dL g] ⟨o_Z5,qbM a b c f g⟩:=by
 have sf1:f.length≤1048576:=sf.1
 refine qal ?_
 simp only[run_Z5,Z5.ev]
 have bad:¬ (VC a.1∧VC b.1∧VC c.1)→Ev fun φ=>Z5.j0 (mkR (run E (φ 0))) (φ 0) f g true a.1 b.1 c.1=some ⟨o_Z5,qbM a b c f g⟩:=fun h=>by
  unfold qbM
  rw[if_neg h]
  simp only[Z5.j0_eq _ qaf]
  exact qaC rfl qam
 refine qaa (qbf a.1 sa.1) ?_
 by_cases ha:VC a.1
 ·refine qaE (by rw[qaB ha];rfl) (qaa (qbf b.1 sb.1) ?_)
  by_cases hb:VC b.1
  ·refine qaE (by rw[qaB hb];rfl) (qaa (qbf c.1 sc.1) ?_)
   by_cases hc:VC c.1
   ·rw[qaB hc]
    simp only[Z5.j0_eq _ qaf]
    unfold qbM
    rw[if_pos ⟨ha,hb,hc⟩]
    refine qaE rfl (qaa (qhv a.1 b.1 f ha hb sa.1 sb.1) ?_)
    by_cases h1:Mp a.1 b.1 f
    ·refine qaE (by rw[qaB h1];rfl) (qaa (qhv b.1 c.1 g hb hc sb.1 sc.1) ?_)
     simp only[Z5.j1_eq _ qaf]
     by_cases h2:Mp b.1 c.1 g
     ·rw[if_pos ⟨h1,h2⟩]
      refine qaE (by rw[qaB h2];rfl) ?_
      refine Ev.start (p:=fun φ N=>Z5.l2 (mkR (run E (φ 0))) (φ 0) N g f (f.length:Int) 0 b.1 []=_) 1 ?_ (fun _ _ _ h=>h)
      refine qas 1 (L:=fun φ N k o=>Z5.l2 (mkR (run E (φ 0))) (φ 0) N g f (f.length:Int) k b.1 o) (len:=f.length) (fun k=>(f.take k).map (qgj (vxs b.1) g)) (fun _ _ _ _ _=>rfl) (fun k r hk ih=>?_) ?_
      ·simp only[Z5.l2_succ _ qaf]
       rw[qah (by omega)]
       rw[List.take_succ_eq_append_getElem hk,List.map_append,List.map_singleton] at ih
       have hv:[f[k]]∈b.1:=h1.vert ha _ (List.getElem_mem hk)
       have him:=qcB b.1 g [f[k]] sb.1 h2.1 (fun x hx=>hb.vert hv hx) (by simp)
       rw[qkr] at him
       exact qaC (decide_eq_true (by omega)) (qae (qaq hk) (qaa him (qae (x:=qgj (vxs b.1) g f[k]) rfl (qan (by simp;omega) ih))))
      ·simp only[Z5.l2_succ _ qaf]
       rw[List.take_of_length_le (Nat.le_refl _)]
       exact qaE (decide_eq_false (by omega)) qam
     ·rw[if_neg fun h=>h2 h.2]
      exact qaC (by rw[qav h2];rfl) qam
    ·rw[if_neg fun h=>h1 h.1]
     refine qaC (by rw[qav h1];rfl) ?_
     simp only[Z5.j1_eq _ qaf]
     exact qaC rfl qam
   ·rw[qav hc]
    exact bad fun h=>hc h.2.2
  ·exact qaC (by rw[qav hb];rfl) (bad fun h=>hb h.2.1)
 ·exact qaC (by rw[qav ha];rfl) (bad fun h=>ha h.1)
end VeT
open Go Go.Proofs Ve
namespace VeT
theorem qma(i j:Nat):Ret E n_Z63 [dI (i:Int),dI (j:Int)] ⟨o_Z63,((0:Int),())⟩:=by
 refine qal ?_
 simp only[run_Z63,Z63.ev]
 (first | exact qam | exact Ev.of fun _=>trivial)
theorem qie{C:Nat}:∀ {n:Nat},qat (fun _ _=>0) C n=List.replicate (n*C) 0
 | 0=>by simp[qat]
 | n+1=>by
  rw[qat,qie,Nat.add_mul,Nat.one_mul,← List.replicate_append_replicate]
  congr 1
  rw[List.map_const',List.length_range]
theorem qli(p:Int)(R C:Nat)(hR:R≤32)(hC:C≤32):Ret E n_Z62 [dI p,dI (R:Int),dI (C:Int)] ⟨o_Z62,(p,(R:Int),(C:Int),List.replicate (R*C) 0,())⟩:=by
 have h1:=qgR hR hC
 refine qal ?_
 simp only[run_Z62,Z62.ev]
 rw[← qie]
 exact qaa (qdJ p R C (fun _ _=>0) (by omega) (by omega) (by omega) fun i j _ _=>qma i j) qam
theorem qdW(p:Int)(i:Nat)(hp:2≤p∧p≤251):Ret E n_Z15 [dI (i:Int),dI p] ⟨o_Z15,(sgn p i,())⟩:=by
 refine qal ?_
 simp only[run_Z15,Z15.ev]
 rw[Int.tmod_eq_emod_of_nonneg (by omega),qaj (by omega) (by omega)]
 refine qfs (fun h=>qap ?_) fun h=>qap ?_
 ·have h:(i:Int)%2=0:=by simpa using h
  rw[sgn,if_pos (by omega)]
 ·have h:¬ (i:Int)%2=0:=by simpa using h
  rw[sgn,if_neg (by omega)]
theorem qkY(p:Int)(i:Nat)(hp:2≤p∧p≤251):Ret E n_Z131 [dI (i:Int),dI p] ⟨o_Z131,(sgn p i,())⟩:=by
 refine qal ?_
 simp only[run_Z131,Z131.ev]
 rw[Int.tmod_eq_emod_of_nonneg (by omega),qaj (by omega) (by omega)]
 refine qfs (fun h=>qan (by simp;omega) (qap ?_)) fun h=>qap ?_
 ·have h:(i:Int)%2=0:=by simpa using h
  rw[sgn,if_pos (by omega),Int.tmod_eq_emod_of_nonneg (by omega),Int.emod_eq_of_lt (by omega) (by omega)]
 ·have h:¬ (i:Int)%2=0:=by simpa using h
  rw[sgn,if_neg (by omega)]
end VeT
open Go Go.Proofs Ve
namespace VeT
def qkV(f:Nat→Int)(v:Int):Nat→Nat
 | 0=>0
 | x+1=>qkV f v x+if v<f x then 1 else 0
def qgn(f:Nat→Int):Nat→Nat
 | 0=>0
 | k+1=>qgn f k+qkV f (f k) k
theorem qkP{f:Nat→Int}{v:Int}:∀ {x:Nat},qkV f v x≤x
 | 0=>Nat.le_refl _
 | x+1=>by have:=qkP (f:=f) (v:=v) (x:=x);unfold qkV;split<;>omega
theorem qmP{f:Nat→Int}:∀ {k:Nat},qgn f k≤k*k
 | 0=>Nat.le_refl _
 | k+1=>by
  have h1:=qmP (f:=f) (k:=k)
  have h2:=qkP (f:=f) (v:=f k) (x:=k)
  have:(k+1)*(k+1)=k*k+k+k+1:=by rw[Nat.add_mul,Nat.mul_add];omega
  unfold qgn;omega
noncomputable abbrev qbB(c:List Sim)(im s:Sim):Nat→Int:=fun x=>qgj (vxs c) im (s.getD x 0)
theorem qhM(c:List Sim)(im s:Sim)(hc:Sm (.sl (.sl (.int .i64))) c)(hl:im.length=(vxs c).length)(hs:∀ x∈s,x∈vxs c)(hs4:s.length≤4) :
  Ret E n_Z39 [dLL c,dL im,dL s] ⟨o_Z39,((qgn (qbB c im s) s.length:Nat),())⟩:=by
 refine qal ?_
 simp only[run_Z39,Z39.ev]
 refine Ev.start (p:=fun φ n=>Z39.l0 (mkR (run E (φ 0))) (φ 0) n im s 0 s (s.length:Int) 0 c=_) 1 ?_ (fun _ _ _ h=>h)
 refine qas 1 (L:=fun φ n k a=>Z39.l0 (mkR (run E (φ 0))) (φ 0) n im s a s (s.length:Int) k c) (len:=s.length) (fun k=>((qgn (qbB c im s) k:Nat):Int)) (fun _ _ _ _ _=>rfl) (fun k r hk ih=>?_) ?_
 ·simp only[Z39.l0_succ _ qaf]
  have hik:=qmP (f:=qbB c im s) (k:=k)
  have hkk:k*k≤16:=Nat.le_trans (Nat.mul_le_mul (show k≤4 by omega) (show k≤4 by omega)) (by omega)
  refine qaC (decide_eq_true (by omega)) (qae (qaq hk) (qan (by simp;omega) ?_))
  rw[Int.toNat_natCast]
  have htl:(s.take k).length=k:=by rw[List.length_take];omega
  rw[htl]
  refine Ev.start (p:=fun φ n=>Z39.l1 (mkR (run E (φ 0))) (φ 0) (φ 1) n im s ((qgn (qbB c im s) k:Nat):Int) s[k] s (s.length:Int) (k:Int) (s.take k) (k:Int) 0 c=_) 2 ?_ (fun _ _ _ h=>h)
  refine qas 2 (L:=fun φ n x a=>Z39.l1 (mkR (run E (φ 0))) (φ 0) (φ 1) n im s a s[k] s (s.length:Int) (k:Int) (s.take k) (k:Int) x c) (len:=k) (fun x=>((qgn (qbB c im s) k+qkV (qbB c im s) (qbB c im s k) x:Nat):Int)) (fun _ _ _ _ _=>rfl) (fun x q hx ihx=>?_) ?_
  ·simp only[Z39.l1_succ _ qaf]
   have hxl:x<s.length:=by omega
   have hxt:x<(s.take k).length:=by omega
   have hcx:=qkP (f:=qbB c im s) (v:=qbB c im s k) (x:=x)
   have e1:(s.take k)[x]=s[x]:=List.getElem_take
   have hw:=qcB c im [s[k]] hc hl (fun y hy=>by
    have:y=s[k]:=by simpa using hy
    subst this;exact hs _ (List.getElem_mem hk)) (by simp)
   have hv:=qcB c im [s[x]] hc hl (fun y hy=>by
    have:y=s[x]:=by simpa using hy
    subst this;exact hs _ (List.getElem_mem hxl)) (by simp)
   rw[qkr] at hw hv
   have fk:qbB c im s k=qgj (vxs c) im s[k]:=by unfold qbB;rw[qag hk]
   have fx:qbB c im s x=qgj (vxs c) im s[x]:=by unfold qbB;rw[qag hxl]
   refine qaC (decide_eq_true (by omega)) (qae (qaq hxt) ?_)
   rw[e1]
   have body:Ev fun φ=>Z39.j2 (mkR (run E (φ 0))) (φ 0) (φ 1) (φ 2) im s ((qgn (qbB c im s) k+qkV (qbB c im s) (qbB c im s k) x:Nat):Int) s[k] s (s.length:Int) (k:Int) (s.take k) (k:Int) (x:Int) (decide (qgj (vxs c) im s[k]<qgj (vxs c) im s[x])) c=q:=by
    simp only[Z39.j2_eq _ qaf]
    rw[show w64 ((x:Int)+1)=((x+1:Nat):Int) from qah (by omega)]
    unfold qkV at ihx
    refine qei (fun h=>?_) fun h=>?_
    ·rw[fk,fx,if_pos h] at ihx
     rw[qah (by omega),fk]
     exact ihx
    ·rw[fk,fx,if_neg h,Nat.add_zero] at ihx
     rw[fk]
     exact ihx
   have step:=qaa (out:=o_Z35) (K:=fun φ r21=>Option.bind (idx? r21.1 (0:Int)) fun y22=>Option.bind (qjS (mkR (run E (φ 0))) n_Z35 o_Z35 [dLL c,dL im,dL [s[x]]]) fun r23=>Option.bind (idx? r23.1 (0:Int)) fun y24 =>
    Z39.j2 (mkR (run E (φ 0))) (φ 0) (φ 1) (φ 2) im s ((qgn (qbB c im s) k+qkV (qbB c im s) (qbB c im s k) x:Nat):Int) s[k] s (s.length:Int) (k:Int) (s.take k) (k:Int) (x:Int) (decide (y22<y24)) c) hw (qae (x:=qgj (vxs c) im s[k]) rfl (qaa hv (qae (x:=qgj (vxs c) im s[x]) rfl body)))
   exact qeB (qeB step step) step
  ·simp only[Z39.l1_succ _ qaf]
   rw[qah (by omega)]
   exact qaE (decide_eq_false (by omega)) ih
 ·simp only[Z39.l0_succ _ qaf]
  exact qaE (decide_eq_false (by omega)) qam
open Classical in
noncomputable def chC(a b:List Sim)(im:Sim)(k p:Int):Nat→List Int
 | 0=>List.replicate ((qad b k b.length).length*(qad a k a.length).length) 0
 | j+1 =>
  let s:=a.getD ((qad a k a.length).getD j 0).toNat []
  if (img (vxs a) im s).length=s.length then(chC a b im k p j).set ((qbV b (img (vxs a) im s)-(qad b k b.length).getD 0 0).toNat*(qad a k a.length).length+j) (sgn p (qgn (qbB a im s) s.length)) else chC a b im k p j
theorem qc7{a b:List Sim}{im:Sim}{k p:Int}:∀ {j:Nat},(chC a b im k p j).length=(qad b k b.length).length*(qad a k a.length).length
 | 0=>by simp[chC]
 | j+1=>by
  have:=qc7 (a:=a) (b:=b) (im:=im) (k:=k) (p:=p) (j:=j)
  unfold chC
  simp only
  split
  ·rw[List.length_set,this]
  ·exact this
noncomputable def qc3(a b:List Sim)(im:Sim)(k p:Int):Mat:=(p,((qad b k b.length).length:Int),((qad a k a.length).length:Int),chC a b im k p (qad a k a.length).length,())
structure ChF (a b:List Sim) (im:Sim) (k p:Int):Prop where
 sa:Sm (.sl (.sl (.int .i64))) a
 sb:Sm (.sl (.sl (.int .i64))) b
 mc:MC a b im=0
 hk:0≤k∧k≤3
 hp:2≤p∧p≤251
 la:(qad a k a.length).length≤32
 lb:(qad b k b.length).length≤32
theorem ChF.col{a b:List Sim}{im:Sim}{k p:Int}(F:ChF a b im k p){j:Nat}(hj:j<(qad a k a.length).length) :
  ∃ s:Nat,∃ hs:s<a.length,(qad a k a.length)[j]=(s:Int)∧((qad a k a.length).getD j 0).toNat=s∧a.getD s []=a[s]∧(a[s].length:Int)=k+1∧a[s].length≤4∧img (vxs a) im a[s]∈b ∧
   ((img (vxs a) im a[s]).length=a[s].length→∃ t f0:Nat,qbV b (img (vxs a) im a[s])=(t:Int)∧f0≤t∧(qad b k b.length).head? = some (f0:Int)∧(qad b k b.length).getD 0 0=(f0:Int) ∧
    qfU (fun y=>pb (y=(t:Int))) (qad b k b.length)=((t-f0:Nat):Int)∧t-f0<(qad b k b.length).length):=by
 obtain⟨⟨ha,hb⟩,hm⟩:=qdQ.1 F.mc
 obtain⟨s,e,hs,hd⟩:=qbG.1 (List.getElem_mem hj)
 have hg:a.getD s []=a[s]:=qag hs
 rw[hg] at hd
 have hin:=hm.2 a[s] (List.getElem_mem hs)
 refine⟨s,hs,e,by rw[qag hj,e];rfl,hg,hd,by have:=F.hk;omega,hin,fun hl=>?_⟩
 have h0:0≤qbV b (img (vxs a) im a[s]):=qaO.2 hin
 obtain⟨t,ht⟩:=Int.eq_ofNat_of_zero_le h0
 have htb:t<b.length∧b[t]? = some (img (vxs a) im a[s]):=by
  obtain⟨q,hq,eq⟩:=List.mem_iff_getElem.1 hin
  have:=(qiG hb.srt (s:=img (vxs a) im a[s]) hq).2 eq.symm
  have:q=t:=by omega
  subst this
  exact⟨hq,by rw[List.getElem?_eq_getElem hq,eq]⟩
 have hmem:((t:Nat):Int)∈qad b k b.length:=qbG.2 ⟨t,rfl,htb.1,by
  have:b.getD t []=img (vxs a) im a[s]:=by rw[List.getD_eq_getElem?_getD,htb.2];rfl
  rw[this,hl];exact hd⟩
 obtain⟨t',f0,e1,e2,e3,e4,e5,e6⟩:=qgX hb.srt hmem
 obtain rfl:t=t':=by omega
 refine⟨t,f0,ht,e3,e4,?_,e5,e6⟩
 rw[List.getD_eq_getElem?_getD,← List.head?_eq_getElem?,e4];rfl
theorem qlJ{a b:List Sim}{im:Sim}{k p:Int}{j s:Nat}(e:((qad a k a.length).getD j 0).toNat=s)(hg:∀ h:s<a.length,a.getD s []=a[s])(hs:s<a.length) :
  ((img (vxs a) im a[s]).length=a[s].length→chC a b im k p (j+1)=(chC a b im k p j).set ((qbV b (img (vxs a) im a[s])-(qad b k b.length).getD 0 0).toNat*(qad a k a.length).length+j) (sgn p (qgn (qbB a im a[s]) a[s].length))) ∧
  (¬ (img (vxs a) im a[s]).length=a[s].length→chC a b im k p (j+1)=chC a b im k p j):=by
 constructor
 ·intro h
  rw[chC]
  simp only[e,hg hs]
  rw[if_pos h]
 ·intro h
  rw[chC]
  simp only[e,hg hs]
  rw[if_neg h]
theorem qj0(a b:List Sim)(im:Sim)(k p:Int)(F:ChF a b im k p):Ret E n_Z19 [dLL a,dLL b,dL im,dI k,dI p] ⟨o_Z19,qc3 a b im k p⟩:=by
 obtain⟨⟨ha,hb⟩,hm⟩:=qdQ.1 F.mc
 have hk:=F.hk
 have la:=F.la
 have lb:=F.lb
 have hHW:=qgR lb la
 refine qal ?_
 simp only[run_Z19,Z19.ev]
 refine qaa (qaP a k F.sa (by omega)) (qaa (qaP b k F.sb (by omega)) (qaa (qdU _) (qaa (qdU _) (qaa (qli p _ _ lb la) ?_))))
 refine Ev.start (p:=fun φ n=>Z19.l0 (mkR (run E (φ 0))) (φ 0) n im p (qad a k a.length) (qad b k b.length) (qad a k a.length) ((qad a k a.length).length:Int) 0 a b 0 0 0 p ((qad b k b.length).length:Int) ((qad a k a.length).length:Int) (List.replicate ((qad b k b.length).length*(qad a k a.length).length) 0)=_) 1 ?_ (fun _ _ _ h=>h)
 refine qas 1 (L:=fun φ n j o=>Z19.l0 (mkR (run E (φ 0))) (φ 0) n im p (qad a k a.length) (qad b k b.length) (qad a k a.length) ((qad a k a.length).length:Int) j a b 0 0 0 p ((qad b k b.length).length:Int) ((qad a k a.length).length:Int) o) (len:=(qad a k a.length).length) (fun j=>chC a b im k p j) (fun _ _ _ _ _=>rfl) (fun j r hj ih=>?_) ?_
 ·obtain⟨s,hs,e1,e2,hg,e3,e4,e5,e6⟩:=F.col hj
  obtain⟨c1,c2⟩:=qlJ (b:=b) (im:=im) (p:=p) e2 (fun _=>hg) hs
  simp only[Z19.l0_succ _ qaf]
  rw[qah (by omega)]
  have hv:∀ x∈a[s],x∈vxs a:=fun x hx=>ha.vert (List.getElem_mem hs) hx
  refine qaC (decide_eq_true (by omega)) (qae (qaq hj) ?_)
  rw[e1]
  refine qae (qaq hs) (qaa (qcB a im _ F.sa hm.1 hv (by omega)) (qfs (fun h=>?_) fun h=>?_))
  ·have h:((img (vxs a) im a[s]).length:Int)=a[s].length:=by simpa using h
   have h:(img (vxs a) im a[s]).length=a[s].length:=by omega
   rw[c1 h] at ih
   obtain⟨t,f0,t1,t2,t3,t4,t5,t6⟩:=e6 h
   have hix:=qe8 (qad b k b.length) (t:Int) (by omega)
   rw[t5] at hix
   have hfind:=qdD b (img (vxs a) im a[s]) F.sb hb.srt
   rw[t1] at hfind
   rw[t1,t4,show((t:Int)-(f0:Int)).toNat=t-f0 by omega] at ih
   have hinv:=qhM a im a[s] F.sa hm.1 hv e4
   have hal:=qdW p (qgn (qbB a im a[s]) a[s].length) F.hp
   have hlt:=qga t6 hj
   have hm2:w64 (((t-f0:Nat):Int)*((qad a k a.length).length:Int))=(((t-f0)*(qad a k a.length).length:Nat):Int):=by
    rw[qbp,qaj (by omega) (by omega)]
   have hm3:w64 ((((t-f0)*(qad a k a.length).length:Nat):Int)+(j:Int))=(((t-f0)*(qad a k a.length).length+j:Nat):Int):=by
    rw[qaj (by omega) (by omega)];omega
   refine qaa hfind (qaa hix (qaa hinv (qaa hal ?_)))
   simp only
   rw[hm2,hm3,Int.toNat_natCast]
   exact qan (by rw[qc7];simp;omega) ih
  ·have h:¬ ((img (vxs a) im a[s]).length:Int)=a[s].length:=by simpa using h
   have h:¬ (img (vxs a) im a[s]).length=a[s].length:=by omega
   rw[c2 h] at ih
   exact ih
 ·simp only[Z19.l0_succ _ qaf]
  exact qaE (decide_eq_false (by omega)) qam
def qkb(a b:List Sim)(k:Int)(ar:Nat):Prop:=∀ t:Nat,0≤t→t<2*ar+1→(qad a (k-ar+t) a.length).length≤32∧(qad b (k-ar+t) b.length).length≤32
open Classical in
noncomputable def ChC(a b:List Sim)(im:Sim)(k p:Int)(ar:Nat):Int :=
 if Pr p then(if MC a b im=0 then(if 0≤k∧k≤3 then(if qkb a b k ar then 0 else 5) else 2) else MC a b im) else 1
theorem qir{a b:List Sim}{im:Sim}{k p:Int}{ar:Nat}(h:ChC a b im k p ar=0):Pr p∧MC a b im=0∧(0≤k∧k≤3)∧qkb a b k ar:=by
 unfold ChC at h
 by_cases h1:Pr p
 ·rw[if_pos h1] at h
  by_cases h2:MC a b im=0
  ·rw[if_pos h2] at h
   by_cases h3:0≤k∧k≤3
   ·rw[if_pos h3] at h
    by_cases h4:qkb a b k ar
    ·exact⟨h1,h2,h3,h4⟩
    ·rw[if_neg h4] at h;exact absurd h (by decide)
   ·rw[if_neg h3] at h;exact absurd h (by decide)
  ·rw[if_neg h2] at h;exact absurd h h2
 ·rw[if_neg h1] at h;exact absurd h (by decide)
theorem qgB(a b:List Sim)(im:Sim)(k p:Int)(ar:Nat)(har:ar≤1)(sa:Sm (.sl (.sl (.int .i64))) a)(sb:Sm (.sl (.sl (.int .i64))) b) :
  Ret E n_Z20 [dLL a,dLL b,dL im,dI k,dI p,dI (ar:Int)] ⟨o_Z20,(ChC a b im k p ar,())⟩:=by
 refine qal ?_
 simp only[run_Z20,Z20.ev]
 unfold ChC
 refine qaa (qhI p) ?_
 by_cases h1:Pr p
 ·rw[if_pos h1]
  refine qaE (by rw[qaB h1];rfl) (qaa (qlQ a b im sa sb) ?_)
  by_cases h2:MC a b im=0
  ·rw[if_pos h2]
   refine qaE (by simp[h2]) (qaa (qhm k) ?_)
   by_cases h3:0≤k∧k≤3
   ·rw[if_pos h3]
    refine qaE (by rw[qaB h3];rfl) ?_
    rw[qaj (by omega) (by omega)]
    have e0:k-(ar:Int)=k-ar+((0:Nat):Int):=by omega
    refine Ev.start (p:=fun φ n=>Z20.l0 (mkR (run E (φ 0))) (φ 0) n k (ar:Int) (k-ar) a b=_) 1 ?_ (fun _ _ _ h=>h)
    have key:=qg7 1 (L:=fun φ n t=>Z20.l0 (mkR (run E (φ 0))) (φ 0) n k (ar:Int) (k-ar+t) a b) (len:=2*ar+1) 0 (by omega) (fun t=>(qad a (k-ar+t) a.length).length≤32∧(qad b (k-ar+t) b.length).length≤32) (fun q=>some ⟨o_Z20,((bif q then 0 else 5),())⟩) (fun _ _ _ _=>rfl) (fun t _ ht hP _=>by
     simp only[Z20.l0_succ _ qaf]
     rw[qaj (n:=k+ar) (by omega) (by omega)]
     refine qaC (decide_eq_true (by omega)) (qaa (qaP a _ sa (by omega)) (qei (fun h=>?_) fun h=>?_))
     ·simp only[Z20.j1_eq _ qaf]
      exact qaC rfl qam
     ·refine qaa (qaP b _ sb (by omega)) ?_
      simp only[Z20.j1_eq _ qaf]
      exact qaC (decide_eq_true (Classical.byContradiction fun h'=>hP ⟨by first | omega | (simp only at h;omega),by first | omega | (simp only at h';omega)⟩)) qam) (fun t r _ ht hP _ ih=>by
     simp only[Z20.l0_succ _ qaf]
     rw[qaj (n:=k+ar) (by omega) (by omega)]
     refine qaC (decide_eq_true (by omega)) (qaa (qaP a _ sa (by omega)) (qaE (decide_eq_false (by have:=hP.1;first | omega | (simp only;omega))) (qaa (qaP b _ sb (by omega)) ?_)))
     simp only[Z20.j1_eq _ qaf]
     refine qaE (decide_eq_false (by have:=hP.2;first | omega | (simp only;omega))) ?_
     rw[qaj (by omega) (by omega),show k-ar+t+1=k-ar+((t+1:Nat):Int) by omega]
     exact ih) (fun _=>by
     simp only[Z20.l0_succ _ qaf]
     rw[qaj (n:=k+ar) (by omega) (by omega)]
     exact qaE (decide_eq_false (by omega)) qam)
    rw[← e0] at key
    refine key.to ?_
    by_cases h4:qkb a b k ar
    ·rw[if_pos h4]
     unfold qkb at h4
     rw[qaB h4];rfl
    ·rw[if_neg h4]
     unfold qkb at h4
     rw[qav h4];rfl
   ·rw[if_neg h3]
    exact qaC (by rw[qav h3];rfl) qam
  ·rw[if_neg h2]
   exact qaC (by simpa using h2) qam
 ·rw[if_neg h1]
  exact qaC (by rw[qav h1];rfl) qam
theorem ChF.of{a b:Cpx}{im:Sim}{k p:Int}{ar:Nat}(sa:Sm (.st cC) a)(sb:Sm (.st cC) b)(h:ChC a.1 b.1 im k p ar=0):ChF a.1 b.1 im k p:=by
 obtain⟨h1,h2,h3,h4⟩:=qir h
 have:=h4 ar (by omega) (by omega)
 rw[show k-(ar:Int)+(ar:Int)=k by omega] at this
 exact⟨sa.1,sb.1,h2,h3,⟨h1.1,h1.2.1⟩,this.1,this.2⟩
end VeT
open Go Go.Proofs Ve
namespace VeT
def sgI(n:Nat):Int:=if n%2=0 then 1 else -1
theorem qnq(n:Nat):sgI n=1∨sgI n=-1:=by unfold sgI;split<;>simp
theorem qcW(n:Nat):sgI (n+1)=-sgI n:=by unfold sgI;split<;>split<;>first | rfl | omega
theorem qoS(a b:Nat):sgI (a+b)=sgI a*sgI b:=by unfold sgI;split<;>split<;>split<;>first | rfl | omega
def Dd:List Int→(List Int→Int)→Int
 | [],_=>0
 | y::t,φ=>φ t-Dd t (fun u=>φ (y::u))
def Ii(x:Int):List Int→(List Int→Int)→Int
 | [],φ=>φ [x]
 | y::t,φ=>if x<y then sgI (t.length+1)*φ (x::y::t) else if x=y then 0 else Ii x t (fun u=>φ (y::u))
theorem qoI{x:Int}:∀ {t:List Int} {φ ψ:List Int→Int},Ii x t (fun u=>φ u-ψ u)=Ii x t φ-Ii x t ψ
 | [],_,_=>rfl
 | y::t,φ,ψ=>by
  unfold Ii
  split
  ·rw[Int.mul_sub]
  ·split
   ·rfl
   ·exact qoI (t:=t)
theorem qnf{c:Nat}:∀ {t:List Int} {ψ:List Int→Int},Dd t (fun u=>sgI (u.length+c)*ψ u)=sgI (t.length+c+1)*Dd t ψ
 | [],ψ=>by simp[Dd]
 | y::t,ψ=>by
  have ih:=qnf (c:=c+1) (t:=t) (ψ:=fun u=>ψ (y::u))
  unfold Dd
  have e:(fun u:List Int=>sgI ((y::u).length+c)*ψ (y::u))=fun u=>sgI (u.length+(c+1))*ψ (y::u):=by
   funext u
   rw[List.length_cons,show u.length+1+c=u.length+(c+1) by omega]
  rw[e,ih,List.length_cons,show t.length+(c+1)+1=t.length+c+1+1 by omega,show t.length+1+c+1=t.length+c+1+1 by omega,qcW,qcW,Int.mul_sub,Int.neg_neg]
theorem qoD{x:Int}{t:List Int}{φ:List Int→Int}(h:∀ y∈t,x<y):Ii x t φ=sgI t.length*φ (x::t):=by
 cases t with
 | nil=>simp[Ii,sgI]
 | cons y t=>unfold Ii;rw[if_pos (h y List.mem_cons_self)];rfl
theorem qpE{x:Int}:∀ {t:List Int} {φ:List Int→Int},t.Pairwise (·<·)→Ii x t (fun u=>Dd u φ)=Dd t (fun u=>Ii x u φ)+sgI t.length*φ t
 | [],φ,_=>by simp[Ii,Dd,sgI]
 | y::t,φ,h=>by
  obtain⟨h1,h2⟩:=List.pairwise_cons.1 h
  have e0:∀(ψ:List Int→Int),Dd (y::t) ψ=ψ t-Dd t (fun u=>ψ (y::u)):=fun _=>rfl
  rw[e0]
  rcases Int.lt_trichotomy x y with hxy | hxy | hxy
  ·have hl:∀ z∈t,x<z:=fun z hz=>Int.lt_trans hxy (h1 z hz)
   have e1:Ii x (y::t) (fun u=>Dd u φ)=sgI (t.length+1)*(φ (y::t)-(φ (x::t)-Dd t (fun u=>φ (x::y::u)))):=by
    show(if x<y then _ else _)=_
    rw[if_pos hxy];rfl
   have e2:(fun u=>Ii x (y::u) φ)=fun u=>sgI (u.length+1)*φ (x::y::u):=by
    funext u
    show(if x<y then _ else _)=_
    rw[if_pos hxy]
   rw[e1,e2,qnf,qoD hl,List.length_cons]
   have e3:sgI (t.length+1+1)=sgI t.length:=by rw[qcW,qcW,Int.neg_neg]
   rw[e3,qcW]
   rcases qnq t.length with e | e<;>rw[e]<;>omega
  ·subst hxy
   have e1:Ii x (x::t) (fun u=>Dd u φ)=0:=by
    show(if x<x then _ else if x=x then _ else _)=_
    rw[if_neg (by omega),if_pos rfl]
   have e2:(fun u=>Ii x (x::u) φ)=fun u=>sgI (u.length+0)*0:=by
    funext u
    show(if x<x then _ else if x=x then _ else _)=_
    rw[if_neg (by omega),if_pos rfl,Int.mul_zero]
   rw[e1,e2,qnf (ψ:=fun _=>0),qoD h1,List.length_cons,qcW]
   have e3:Dd t (fun _=>0)=0:=by
    have:∀ t:List Int,Dd t (fun _=>0)=0:=by
     intro t
     induction t with
     | nil=>rfl
     | cons z t ih=>show(0:Int)-Dd t (fun _=>0)=0;rw[ih];rfl
    exact this t
   rw[e3,Int.mul_zero]
   rcases qnq t.length with e | e<;>rw[e]<;>omega
  ·have n1:¬ x<y:=by omega
   have n2:¬ x=y:=by omega
   have e1:∀ ψ:List Int→Int,∀ u,Ii x (y::u) ψ=Ii x u (fun v=>ψ (y::v)):=by
    intro ψ u
    show(if x<y then _ else if x=y then _ else _)=_
    rw[if_neg n1,if_neg n2]
   have e2:(fun v=>(fun u=>Dd u φ) (y::v))=fun v=>φ v-Dd v (fun u=>φ (y::u)):=rfl
   rw[e1,e2,qoI,qpE h2 (φ:=fun u=>φ (y::u))]
   simp only[e1]
   rw[List.length_cons,qcW]
   rcases qnq t.length with e | e<;>rw[e]<;>omega
theorem qpB{x:Int}:∀ {t:List Int} {φ:List Int→Int},t.Pairwise (·<·)→Ii x t φ=if x∈t then 0 else sgI (t.countP fun y=>decide (x<y))*φ (qcl t x)
 | [],φ,_=>by simp[Ii,qcl,sgI]
 | y::t,φ,h=>by
  obtain⟨h1,h2⟩:=List.pairwise_cons.1 h
  unfold Ii qcl
  rcases Int.lt_trichotomy x y with hxy | hxy | hxy
  ·have hl:∀ z∈t,x<z:=fun z hz=>Int.lt_trans hxy (h1 z hz)
   have hn:¬ x∈y::t:=fun hm=>by
    rcases List.mem_cons.1 hm with e | hm
    ·omega
    ·have:=hl x hm;omega
   have hc:(y::t).countP (fun y=>decide (x<y))=t.length+1:=by
    rw[List.countP_eq_length.2 fun z hz=>?_,List.length_cons]
    rcases List.mem_cons.1 hz with e | hz
    ·subst e;exact decide_eq_true hxy
    ·exact decide_eq_true (hl z hz)
   rw[if_pos hxy,if_neg hn,hc,if_neg (by omega),if_pos hxy]
  ·subst hxy
   rw[if_neg (by omega),if_pos rfl,if_pos List.mem_cons_self]
  ·rw[if_neg (by omega),if_neg (by omega),if_pos hxy,qpB h2,List.countP_cons_of_neg (by simp;omega)]
   by_cases hm:x∈t
   ·rw[if_pos hm,if_pos (List.mem_cons_of_mem _ hm)]
   ·rw[if_neg hm,if_neg fun hh=>?_]
    rcases List.mem_cons.1 hh with e | hh
    ·omega
    ·exact hm hh
theorem qlk:∀ {t:List Int} {x:Int},t.Pairwise (·<·)→(qcl t x).length=if x∈t then t.length else t.length+1
  | [],x,_=>by simp[qcl]
  | y::t,x,h=>by
    obtain⟨h1,h2⟩:=List.pairwise_cons.1 h
    unfold qcl
    rcases Int.lt_trichotomy x y with hxy | hxy | hxy
    · have hn:¬ x∈y::t:=fun hm=>by
        rcases List.mem_cons.1 hm with e | hm
        · omega
        · have:=h1 x hm;omega
      rw[if_neg (by omega),if_pos hxy,if_neg hn];rfl
    · subst hxy;rw[if_neg (by omega),if_neg (by omega),if_pos List.mem_cons_self]
    · rw[if_pos hxy,List.length_cons,qlk h2]
      by_cases hm:x∈t
      · rw[if_pos hm,if_pos (List.mem_cons_of_mem _ hm)];rfl
      · rw[if_neg hm,if_neg fun hh=>?_]
        · rfl
        rcases List.mem_cons.1 hh with e | hh
        · omega
        · exact hm hh
theorem qic{q:Int→Bool}:∀ {t:List Int} {x:Int},x∉t→(qcl t x).countP q=t.countP q+if q x=true then 1 else 0
 | [],x,_=>by simp[qcl,List.countP_cons]
 | y::t,x,h=>by
  have h1:x∉t:=fun hm=>h (List.mem_cons_of_mem _ hm)
  have h2:x≠y:=fun e=>h (e ▸ List.mem_cons_self)
  unfold qcl
  split
  ·rw[List.countP_cons,qic h1,List.countP_cons];omega
  ·split
   ·rw[List.countP_cons]
   ·omega
def sgm(f:Nat→Int):Nat→List Int
 | 0=>[]
 | k+1=>qcl (sgm f k) (f k)
theorem qgu{f:Nat→Int}:∀ {k:Nat},(sgm f k).Pairwise (·<·)
 | 0=>List.Pairwise.nil
 | k+1=>qfl (qgu (k:=k))
theorem qm5{f:Nat→Int}:∀ {k:Nat},(sgm f k).length≤k
 | 0=>Nat.le_refl _
 | k+1=>by
  have h1:=qdy (l:=sgm f k) (n:=f k)
  have h2:=qm5 (f:=f) (k:=k)
  show(qcl (sgm f k) (f k)).length≤k+1
  omega
theorem qgv{f:Nat→Int}{k:Nat}:(sgm f (k+1)).length=k+1↔(sgm f k).length=k∧f k∉sgm f k:=by
 have h1:=qlk (x:=f k) (qgu (f:=f) (k:=k))
 have h2:=qm5 (f:=f) (k:=k)
 show(qcl (sgm f k) (f k)).length=k+1↔_
 rw[h1]
 split
 ·rename_i h;simp[h];omega
 ·rename_i h;simp[h]
theorem qnh{f:Nat→Int}{v:Int}:∀ {k:Nat},(sgm f k).length=k→(sgm f k).countP (fun y=>decide (v<y))=qkV f v k
 | 0,_=>rfl
 | k+1,h=>by
  obtain⟨h1,h2⟩:=qgv.1 h
  show(qcl (sgm f k) (f k)).countP _=qkV f v k+if v<f k then 1 else 0
  rw[qic h2,qnh h1]
  congr 1
  simp
def Cc(f:Nat→Int)(k:Nat)(φ:List Int→Int):Int:=if (sgm f k).length=k then sgI (qgn f k)*φ (sgm f k) else 0
theorem qmE{f:Nat→Int}{k:Nat}{φ:List Int→Int}:Cc f (k+1) φ=Cc f k (fun t=>Ii (f k) t φ):=by
 unfold Cc
 by_cases h:(sgm f k).length=k
 ·rw[if_pos h]
  show _=sgI (qgn f k)*Ii (f k) (sgm f k) φ
  rw[qpB qgu]
  by_cases hm:f k∈sgm f k
  ·rw[if_pos hm,if_neg fun hh=>(qgv.1 hh).2 hm,Int.mul_zero]
  ·rw[if_neg hm,if_pos (qgv.2 ⟨h,hm⟩),qnh h,← Int.mul_assoc,← qoS];rfl
 ·rw[if_neg h,if_neg fun hh=>h (qgv.1 hh).1]
theorem qhy{f g:Nat→Int}:∀ {k:Nat},(∀ j,j<k→f j=g j)→sgm f k=sgm g k
 | 0,_=>rfl
 | k+1,h=>by
  show qcl (sgm f k) (f k)=qcl (sgm g k) (g k)
  rw[qhy fun j hj=>h j (by omega),h k (by omega)]
theorem qhW{f g:Nat→Int}{v:Int}:∀ {k:Nat},(∀ j,j<k→f j=g j)→qkV f v k=qkV g v k
 | 0,_=>rfl
 | k+1,h=>by
  unfold qkV
  rw[qhW fun j hj=>h j (by omega),h k (by omega)]
theorem qih{f g:Nat→Int}:∀ {k:Nat},(∀ j,j<k→f j=g j)→qgn f k=qgn g k
 | 0,_=>rfl
 | k+1,h=>by
  unfold qgn
  rw[qih fun j hj=>h j (by omega),h k (by omega),qhW fun j hj=>h j (by omega)]
theorem qiR{f g:Nat→Int}{k:Nat}{φ:List Int→Int}(h:∀ j,j<k→f j=g j):Cc f k φ=Cc g k φ:=by
 unfold Cc
 rw[qhy h,qih h]
def skp(f:Nat→Int)(i:Nat):Nat→Int:=fun j=>if j<i then f j else f (j+1)
def smN(g:Nat→Int):Nat→Int
 | 0=>0
 | n+1=>smN g n+g n
theorem qho{f g:Nat→Int}:∀ {n:Nat},(∀ i,i<n→f i=g i)→smN f n=smN g n
 | 0,_=>rfl
 | n+1,h=>by
  show smN f n+f n=smN g n+g n
  rw[qho fun i hi=>h i (by omega),h n (by omega)]
theorem qpy{f:Nat→Int}:∀ {k:Nat} {φ:List Int→Int},Cc f k (fun t=>Dd t φ)=smN (fun i=>sgI i*Cc (skp f i) (k-1) φ) k
 | 0,φ=>by simp[Cc,sgm,Dd,smN]
 | k+1,φ=>by
  have ih:=qpy (f:=f) (k:=k) (φ:=fun u=>Ii (f k) u φ)
  have e1:Cc f (k+1) (fun t=>Dd t φ)=Cc f k (fun t=>Dd t (fun u=>Ii (f k) u φ))+sgI k*Cc f k φ:=by
   rw[qmE]
   unfold Cc
   by_cases h:(sgm f k).length=k
   ·rw[if_pos h,if_pos h,if_pos h]
    show sgI (qgn f k)*Ii (f k) (sgm f k) (fun t=>Dd t φ)=sgI (qgn f k)*Dd (sgm f k) (fun u=>Ii (f k) u φ)+sgI k*(sgI (qgn f k)*φ (sgm f k))
    rw[qpE qgu,h,Int.mul_add,Int.mul_left_comm]
   ·rw[if_neg h,if_neg h,if_neg h];simp
  rw[e1,ih]
  show _=smN (fun i=>sgI i*Cc (skp f i) (k+1-1) φ) k+sgI k*Cc (skp f k) (k+1-1) φ
  rw[show k+1-1=k by omega,qiR (f:=skp f k) (g:=f) fun j hj=>by unfold skp;rw[if_pos hj]]
  congr 1
  refine qho fun i hi=>?_
  obtain⟨m,rfl⟩:∃ m,k=m+1:=⟨k-1,by omega⟩
  rw[qmE (f:=skp f i) (k:=m)]
  have:skp f i m=f (m+1):=by unfold skp;rw[if_neg (by omega)]
  rw[this];rfl
theorem qlv{g:Nat→Int}:∀ {n:Nat},smN g (n+1)=g 0+smN (fun i=>g (i+1)) n
 | 0=>by simp[smN]
 | n+1=>by
  show smN g (n+1)+g (n+1)=g 0+(smN (fun i=>g (i+1)) n+g (n+1))
  rw[qlv];omega
theorem qmx{g:Nat→Int}:∀ {n:Nat},smN (fun i=>-g i) n=-smN g n
 | 0=>rfl
 | n+1=>by
  show smN (fun i=>-g i) n+-g n=-(smN g n+g n)
  rw[qmx];omega
theorem qmz:∀ {t:List Int} {φ:List Int→Int},Dd t φ=smN (fun j=>sgI j*φ (t.eraseIdx j)) t.length
 | [],_=>rfl
 | y::t,φ=>by
  rw[List.length_cons,qlv]
  show φ t-Dd t (fun u=>φ (y::u))=_
  rw[qmz]
  have e:(fun i=>sgI (i+1)*φ ((y::t).eraseIdx (i+1)))=fun i=>-(sgI i*φ (y::t.eraseIdx i)):=by
   funext i
   rw[qcW,Int.neg_mul];rfl
  rw[e,qmx]
  show _=sgI 0*φ t+_
  have:sgI 0=1:=rfl
  rw[this];omega
end VeT
open Go Go.Proofs Ve
namespace VeT
theorem qpZ{x y p:Int}(hx:0≤x∧x≤250)(hy:0≤y∧y≤250)(hp:2≤p∧p≤251):Int.tmod (w64 (x*y)) p=x*y%p:=by
 have:=qfS hx hy
 rw[qaj (by omega) (by omega),Int.tmod_eq_emod_of_nonneg (by omega)]
end VeT
open Go Go.Proofs Ve
namespace VeT
theorem qm0(m:Mat)(v:Sim)(hm:VM m)(hv:m.2.2.1≤v.length)(ev:∀ x∈v,0≤x∧x≤250):Ret E n_Z16 [dI m.1,dI m.2.1,dI m.2.2.1,dL m.2.2.2.1,dL v] ⟨o_Z16,(qeH m v m.2.1.toNat,())⟩:=by
 obtain⟨R,C,em,hR,hC,hlen⟩:=hm.nat
 have hp:2≤m.1∧m.1≤251:=⟨hm.1.1,hm.1.2.1⟩
 have el:=hm.2.2.2.2
 obtain⟨p,r,k,cs,⟨⟩⟩:=m
 simp only[Prod.mk.injEq,true_and,and_true] at em hlen hv hp el
 obtain⟨rfl,rfl⟩:=em
 have hRC:=qgR hR hC
 show Ret E n_Z16 [dI p,dI (R:Int),dI (C:Int),dL cs,dL v] ⟨o_Z16,(qeH (p,(R:Int),(C:Int),cs,()) v R,())⟩
 refine qal ?_
 simp only[run_Z16,Z16.ev]
 refine Ev.start (p:=fun φ n=>Z16.l0 (mkR (run E (φ 0))) (φ 0) n v (R:Int) 0 p (R:Int) (C:Int) cs []=_) 1 ?_ (fun _ _ _ h=>h)
 refine qas 1 (L:=fun φ n i a=>Z16.l0 (mkR (run E (φ 0))) (φ 0) n v (R:Int) i p (R:Int) (C:Int) cs a) (len:=R) (fun i=>qeH (p,(R:Int),(C:Int),cs,()) v i) (fun _ _ _ _ _=>rfl) (fun i q hi ih=>?_) ?_
 ·simp only[Z16.l0_succ _ qaf]
  have hle:(i+1)*C≤R*C:=Nat.mul_le_mul_right _ hi
  have hrl:((cs.take ((i+1)*C)).drop (i*C)).length=C:=by
   rw[List.length_drop,List.length_take,Nat.min_eq_left (by omega),Nat.add_mul];omega
  have hd:=qpf ((cs.take ((i+1)*C)).drop (i*C)) v p hp (by omega) (by omega) (fun x hx=>el.mem hp x (List.mem_of_mem_take (List.mem_of_mem_drop hx))) ev
  have e:qaF (fun l=>((cs.take ((i+1)*C)).drop (i*C)).getD l 0) (fun l=>v.getD l 0) ((cs.take ((i+1)*C)).drop (i*C)).length=qaF (fun l=>cs.getD (i*C+l) 0) (fun l=>v.getD l 0) C:=by
   rw[hrl]
   exact qaw fun l hl=>⟨by
    rw[List.getD_eq_getElem?_getD,List.getD_eq_getElem?_getD,List.getElem?_drop,List.getElem?_take_of_lt (by rw[Nat.add_mul];omega)],rfl⟩
  rw[e] at hd
  have ea:qeH (p,(R:Int),(C:Int),cs,()) v (i+1)=qeH (p,(R:Int),(C:Int),cs,()) v i++[qaF (fun l=>cs.getD (i*C+l) 0) (fun l=>v.getD l 0) C%p]:=by
   unfold qeH
   rw[List.range_succ,List.map_append];rfl
  rw[ea] at ih
  refine qaC (decide_eq_true (by omega)) (qaa (qeE p _ C cs i (by omega) (by omega) (by omega)) (qaa hd (qan (by simp[qaN];omega) ?_)))
  rw[qah (by omega)];exact ih
 ·simp only[Z16.l0_succ _ qaf]
  exact qaE (decide_eq_false (by omega)) qam
def Zs(v:Sim):Prop:=∀ x∈v,x=0
theorem qjX(x:Int):Ret E n_Z46 [dI x] ⟨o_Z46,(!pb (x=0),())⟩:=by
 refine qal ?_
 simp only[run_Z46,Z46.ev]
 refine qap ?_
 have:(x != 0)=!pb (x=0):=by
  by_cases h:x=0
  ·rw[qaB h];simp[h]
  ·rw[qav h];simp[h]
 rw[this]
theorem qmd(v:Sim)(hv:v.length≤1048576):Ret E n_Z45 [dL v] ⟨o_Z45,(pb (Zs v),())⟩:=by
 refine qal ?_
 simp only[run_Z45,Z45.ev]
 refine qaa (qbe v _ hv fun x _=>qjX x) (qap ?_)
 simp only[qog];rfl
end VeT
open Go Go.Proofs Ve
namespace VeT
theorem qcJ{p x x' y y':Int}(h1:x%p=x'%p)(h2:y%p=y'%p):x*y%p=x'*y'%p:=by
 rw[Int.mul_emod x,h1,h2,← Int.mul_emod]
theorem qhn{p x x':Int}(h:x%p=x'%p):∀ n:Nat,x ^ n%p=x' ^ n%p
 | 0=>by rw[Int.pow_zero,Int.pow_zero]
 | n+1=>by rw[Int.pow_succ,Int.pow_succ];exact qcJ (qhn h n) h
def qgl(a p:Int):Int:=a ^ (p-2).toNat%p
theorem qm1{a p:Int}(hp:2≤p):0≤qgl a p∧qgl a p≤p-1:=by
 have h0:=Int.emod_nonneg (a ^ (p-2).toNat) (show p≠0 by omega)
 have h1:=Int.emod_lt_of_pos (a ^ (p-2).toNat) (show 0<p by omega)
 unfold qgl;omega
abbrev Ent:=Nat→Nat→Int
def qck(top q:Nat)(A:Ent):Ent:=fun i=>if i=top then A q else if i=q then A top else A i
def elN(p:Int)(c top:Nat)(B:Ent):Nat→Int:=fun j=>B top j*qgl (B top c) p%p
def elM(p:Int)(c top:Nat)(B:Ent):Ent:=fun i j=>if i=top then elN p c top B j else B i j
def elF(p:Int)(c top:Nat)(B:Ent):Ent:=fun i j=>if i=top then elN p c top B j else if B i c≠0 then(B i j+(p-B i c)*elN p c top B j)%p else B i j
noncomputable def elP(p:Int)(R c:Nat)(S:Ent×List Nat):Ent×List Nat :=
 match qbi (fun i=>S.1 i c≠0) S.2.length (R-S.2.length) with
 | none=>S
 | some q=>(elF p c S.2.length (qck S.2.length q S.1),S.2++[c])
noncomputable def elS(p:Int)(R:Nat)(A:Ent):Nat→Ent×List Nat
 | 0=>(A,[])
 | c+1=>elP p R c (elS p R A c)
def EIn(p:Int)(R W:Nat)(A:Ent):Prop:=∀ i j,i<R→j<W→0≤A i j∧A i j≤p-1
theorem EIn.sw{p:Int}{R W top q:Nat}{A:Ent}(h:EIn p R W A)(ht:top<R)(hq:q<R):EIn p R W (qck top q A):=fun i j hi hj=>by
 unfold qck;split
 ·exact h q j hq hj
 ·split
  ·exact h top j ht hj
  ·exact h i j hi hj
theorem qcm{p x:Int}(hp:2≤p):0≤x%p∧x%p≤p-1:=by
 have h0:=Int.emod_nonneg x (show p≠0 by omega)
 have h1:=Int.emod_lt_of_pos x (show 0<p by omega)
 omega
theorem EIn.f{p:Int}{R W c top:Nat}{B:Ent}(h:EIn p R W B)(hp:2≤p):EIn p R W (elF p c top B):=fun i j hi hj=>by
 unfold elF;split
 ·exact qcm hp
 ·split
  ·exact qcm hp
  ·exact h i j hi hj
theorem qd7{p:Int}{R W:Nat}{A:Ent}(hp:2≤p)(h:EIn p R W A):∀ c,EIn p R W (elS p R A c).1∧(elS p R A c).2.length≤R∧(elS p R A c).2.length≤c∧∀ x∈(elS p R A c).2,x<c
 | 0=>⟨h,Nat.zero_le _,Nat.zero_le _,fun x hx=>by simp[elS] at hx⟩
 | c+1=>by
  obtain⟨h1,h2,h3,h4⟩:=qd7 hp h c
  rw[elS,elP]
  cases hf:qbi (fun i=>(elS p R A c).1 i c≠0) (elS p R A c).2.length (R-(elS p R A c).2.length) with
  | none=>exact⟨h1,h2,by show(elS p R A c).2.length≤c+1;omega,fun x hx=>by have:=h4 x hx;omega⟩
  | some q =>
   have hq:=qcb hf
   refine⟨(h1.sw (by omega) (by omega)).f hp,?_,?_,fun x hx=>?_⟩
   ·simp only[List.length_append,List.length_singleton];omega
   ·simp only[List.length_append,List.length_singleton];omega
   ·rcases List.mem_append.1 hx with hx | hx
    ·have:=h4 x hx;omega
    ·rw[List.mem_singleton] at hx;omega
def qaA(A:Ent)(R W:Nat):List Sim:=(List.range R).map fun i=>(List.range W).map (A i)
theorem qax{A:Ent}{R W:Nat}:(qaA A R W).length=R:=by simp[qaA]
theorem qa6{A:Ent}{R W i:Nat}(hi:i<R):(qaA A R W)[i]? = some ((List.range W).map (A i)):=by
 unfold qaA;rw[List.getElem?_map,List.getElem?_range hi];rfl
theorem qbI{A B:Ent}{R W:Nat}(h:∀ i j,i<R→j<W→A i j=B i j):qaA A R W=qaA B R W :=
 List.map_congr_left fun i hi=>List.map_congr_left fun j hj=>h i j (List.mem_range.1 hi) (List.mem_range.1 hj)
theorem qfn{A:Ent}{R W i:Nat}{f:Nat→Int}:(qaA A R W).set i ((List.range W).map f)=qaA (fun k j=>if k=i then f j else A k j) R W:=by
 apply List.ext_getElem?
 intro k
 by_cases hk:k<R
 ·rw[qa6 hk]
  by_cases hik:k=i
  ·subst hik
   rw[List.getElem?_set_self (by rw[qax];exact hk)]
   simp
  ·rw[List.getElem?_set_ne (Ne.symm hik),qa6 hk]
   simp[hik]
 ·rw[List.getElem?_eq_none (by rw[List.length_set,qax];omega),List.getElem?_eq_none (by rw[qax];omega)]
theorem qfN{f:Nat→Int}{W j:Nat}(hj:j<W):((List.range W).map f)[j]? = some (f j):=by
 rw[List.getElem?_map,List.getElem?_range hj];rfl
theorem qfk{A:Ent}{R W i j:Nat}{v:Int}(hi:i<R)(hj:j<W):(qat A W R).set (i*W+j) v=qat (fun k l=>if k=i∧l=j then v else A k l) W R:=by
 apply List.ext_getElem?
 intro n
 by_cases hn:n<R*W
 ·have hW:0<W:=by omega
  have e:n=n / W*W+n%W:=by have:=Nat.div_add_mod n W;rw[Nat.mul_comm] at this;omega
  have h1:n / W<R:=Nat.div_lt_of_lt_mul (by rw[Nat.mul_comm];exact hn)
  have h2:n%W<W:=Nat.mod_lt _ hW
  generalize n / W=a at e h1
  generalize n%W=b at e h2
  subst e
  rw[qbv h1 h2]
  by_cases hab:a=i∧b=j
  ·obtain⟨rfl,rfl⟩:=hab
   rw[List.getElem?_set_self (by rw[qaz];exact hn)]
   simp
  ·rw[List.getElem?_set_ne,qbv h1 h2,if_neg hab]
   intro e
   have hbW:b<W:=h2
   have:a=i∧b=j:=by
    have h3:(i*W+j) / W=i:=by rw[Nat.mul_comm,Nat.mul_add_div (by omega),Nat.div_eq_of_lt hj,Nat.add_zero]
    have h4:(a*W+b) / W=a:=by rw[Nat.mul_comm,Nat.mul_add_div (by omega),Nat.div_eq_of_lt hbW,Nat.add_zero]
    have:a=i:=by rw[← h3,← h4,e]
    subst this
    exact⟨rfl,by omega⟩
   exact hab this
 ·rw[List.getElem?_eq_none (by rw[List.length_set,qaz];omega),List.getElem?_eq_none (by rw[qaz];omega)]
theorem qcn{A:Ent}{W:Nat}:∀ {R:Nat},(qaA A R W).flatten=qat A W R
 | 0=>by simp[qaA,qat]
 | R+1=>by
  have:=qcn (A:=A) (W:=W) (R:=R)
  unfold qaA at this ⊢
  rw[List.range_succ,List.map_append,List.flatten_append,this,qat]
  simp
def qb2(cells:Sim)(W:Nat):Ent:=fun i j=>cells.getD (i*W+j) 0
theorem qeQ{cells:Sim}{R W:Nat}(h:cells.length=R*W):qat (qb2 cells W) W R=cells:=by
 refine List.ext_getElem (by rw[qaz,h]) fun n h1 h2=>?_
 rw[qaz] at h1
 have hW:0<W:=by
  cases W with
  | zero=>simp at h1
  | succ W=>omega
 have e:n=n / W*W+n%W:=by have:=Nat.div_add_mod n W;rw[Nat.mul_comm] at this;omega
 have h3:n / W<R:=Nat.div_lt_of_lt_mul (by rw[Nat.mul_comm];exact h1)
 have h4:n%W<W:=Nat.mod_lt _ hW
 have hg:=qbv (f:=qb2 cells W) h3 h4
 rw[← e,List.getElem?_eq_getElem (by rw[qaz];exact h1)] at hg
 rw[Option.some.inj hg]
 unfold qb2
 rw[← e,qag h2]
theorem qcz{p:Int}{cells:Sim}{R W:Nat}(h:qaR cells p)(hl:cells.length=R*W):EIn p R W (qb2 cells W):=fun i j hi hj=>by
 unfold qb2
 have:=qga hi hj
 rw[qag (by omega)]
 exact h _ (List.getElem_mem _)
end VeT
open Go Go.Proofs Ve
namespace VeT
def qoG:Bool:=(List.range 252).all fun p=>!(decide (2≤p)&&(List.range 16).all fun k=>!(decide (2≤k)&&decide (k*k≤p)&&decide (p%k=0))) || (List.range p).all fun a=>a==0 || (a*(a ^ (p-2)%p)%p==1)
theorem qm8:qoG=true:=by kernel_rfl
theorem qk2{p a:Int}(hp:Pr p)(h1:1≤a)(h2:a≤p-1):a*qgl a p%p=1:=by
  obtain⟨hp2,hp251,hpk⟩:=hp
  obtain⟨P,rfl⟩:=Int.eq_ofNat_of_zero_le (show 0≤p by omega)
  obtain⟨N,rfl⟩:=Int.eq_ofNat_of_zero_le (show 0≤a by omega)
  have h:=qm8
  unfold qoG at h
  rw[List.all_eq_true] at h
  have hP:=h P (List.mem_range.2 (by omega))
  rw[Bool.or_eq_true] at hP
  rcases hP with hP | hP
  · exfalso
    rw[Bool.not_eq_true',Bool.and_eq_false_iff] at hP
    rcases hP with hP | hP
    · have:=of_decide_eq_false hP;omega
    · rw[← Bool.not_eq_true,List.all_eq_true] at hP
      refine hP fun k hk=>?_
      have hk16:=List.mem_range.1 hk
      rw[Bool.not_eq_true',Bool.and_eq_false_iff,Bool.and_eq_false_iff]
      by_cases hk2:2≤k
      · by_cases hkk:k*k≤P
        · right
          refine decide_eq_false fun e=>?_
          have := hpk k hk2 (by have : ((k * k : Nat) : Int) ≤ (P : Int) := by omega
                                rwa [Int.natCast_mul] at this)
          exact this (by omega)
        · exact .inl (.inr (decide_eq_false hkk))
      · exact .inl (.inl (decide_eq_false hk2))
  · rw[List.all_eq_true] at hP
    have hN:=hP N (List.mem_range.2 (by omega))
    rw[Bool.or_eq_true] at hN
    rcases hN with hN | hN
    · have:N=0:=by simpa using hN
      omega
    · have hN:N*(N ^ (P-2)%P)%P=1:=by simpa using hN
      unfold qgl
      have e:((P:Int)-2).toNat=P-2:=by omega
      rw[e]
      have:((N*(N ^ (P-2)%P)%P:Nat):Int)=1:=by rw[hN];rfl
      rwa [Int.natCast_emod,Int.natCast_mul,Int.natCast_emod,Int.natCast_pow] at this
theorem qiL{c d g:Nat→Int}:∀ {n:Nat},qaF (fun i=>c i+d i) g n=qaF c g n+qaF d g n
 | 0=>rfl
 | n+1=>by simp only[qaF];rw[qiL,Int.add_mul];omega
theorem qfi{k:Int}{c g:Nat→Int}:∀ {n:Nat},qaF (fun i=>k*c i) g n=k*qaF c g n
 | 0=>by simp[qaF]
 | n+1=>by simp only[qaF];rw[qfi,Int.mul_add,Int.mul_assoc]
theorem qjF{k:Nat}{g:Nat→Int}:∀ {n:Nat},n≤k→qaF (fun i=>if i=k then 1 else 0) g n=0
 | 0,_=>rfl
 | n+1,h=>by simp only[qaF];rw[qjF (by omega),if_neg (by omega),Int.zero_mul];rfl
theorem qcc{k:Nat}{g:Nat→Int}:∀ {n:Nat},k<n→qaF (fun i=>if i=k then 1 else 0) g n=g k
 | n+1,h=>by
  simp only[qaF]
  by_cases hk:k=n
  ·subst hk;rw[qjF (Nat.le_refl _),if_pos rfl,Int.one_mul,Int.zero_add]
  ·rw[qcc (by omega),if_neg (by omega),Int.zero_mul,Int.add_zero]
def Spn(p:Int)(R W:Nat)(A:Ent)(x:Nat→Int):Prop:=∃ c:Nat→Int,∀ j,j<W→qaF c (fun i=>A i j) R%p=x j%p
theorem Spn.row{p:Int}{R W:Nat}{A:Ent}{i:Nat}(hi:i<R):Spn p R W A (A i):=⟨fun k=>if k=i then 1 else 0,fun j _=>by rw[qcc hi]⟩
theorem Spn.congr{p:Int}{R W:Nat}{A:Ent}{x y:Nat→Int}(h:∀ j,j<W→x j%p=y j%p):Spn p R W A x→Spn p R W A y:=fun⟨c,hc⟩=>⟨c,fun j hj=>(hc j hj).trans (h j hj)⟩
theorem Spn.add{p:Int}{R W:Nat}{A:Ent}{x y:Nat→Int}(hx:Spn p R W A x)(hy:Spn p R W A y):Spn p R W A (fun j=>x j+y j):=by
 obtain⟨c,hc⟩:=hx
 obtain⟨d,hd⟩:=hy
 exact⟨fun i=>c i+d i,fun j hj=>by rw[qiL,Int.add_emod,hc j hj,hd j hj,← Int.add_emod]⟩
theorem Spn.smul{p:Int}{R W:Nat}{A:Ent}{x:Nat→Int}(k:Int)(hx:Spn p R W A x):Spn p R W A (fun j=>k*x j):=by
 obtain⟨c,hc⟩:=hx
 exact⟨fun i=>k*c i,fun j hj=>by rw[qfi,Int.mul_emod,hc j hj,← Int.mul_emod]⟩
theorem Spn.zero{p:Int}{R W:Nat}{A:Ent}:Spn p R W A (fun _=>0):=⟨fun _=>0,fun j _=>by
 have:∀ n,qaF (fun _=>0) (fun i=>A i j) n=0:=fun n=>by
  induction n with
  | zero=>rfl
  | succ n ih=>simp only[qaF,ih,Int.zero_mul];rfl
 rw[this]⟩
theorem Spn.sum{p:Int}{R W:Nat}{A B:Ent}{c:Nat→Int}:∀ {n:Nat},(∀ i,i<n→Spn p R W A (B i))→Spn p R W A (fun j=>qaF c (fun i=>B i j) n)
 | 0,_=>Spn.zero
 | n+1,h=>(Spn.sum (n:=n) fun i hi=>h i (by omega)).add ((h n (Nat.lt_succ_self n)).smul (c n))
theorem Spn.trans{p:Int}{R R' W:Nat}{A B:Ent}{x:Nat→Int}(h:∀ i,i<R'→Spn p R W A (B i))(hx:Spn p R' W B x):Spn p R W A x:=by
 obtain⟨c,hc⟩:=hx
 exact(Spn.sum h).congr hc
def Eqv(p:Int)(R W:Nat)(A B:Ent):Prop:=(∀ i,i<R→Spn p R W A (B i))∧(∀ i,i<R→Spn p R W B (A i))
theorem Eqv.refl{p:Int}{R W:Nat}{A:Ent}:Eqv p R W A A:=⟨fun _ h=>Spn.row h,fun _ h=>Spn.row h⟩
theorem Eqv.trans{p:Int}{R W:Nat}{A B C:Ent}(h:Eqv p R W A B)(k:Eqv p R W B C):Eqv p R W A C:=⟨fun i hi=>Spn.trans h.1 (k.1 i hi),fun i hi=>Spn.trans k.2 (h.2 i hi)⟩
theorem Eqv.sw{p:Int}{R W top q:Nat}{A:Ent}(ht:top<R)(hq:q<R):Eqv p R W A (qck top q A):=by
 refine⟨fun i hi=>?_,fun i hi=>?_⟩
 ·unfold qck
  split
  ·exact Spn.row hq
  ·split
   ·exact Spn.row ht
   ·exact Spn.row hi
 ·have key:∀ k,k<R→(qck top q A) k=A i→Spn p R W (qck top q A) (A i):=fun k hk e=>by rw[← e];exact Spn.row hk
  by_cases h1:i=top
  ·subst h1
   by_cases h2:q=i
   ·subst h2;exact key q hq (by simp[qck])
   ·exact key q hq (by simp[qck,h2])
  ·by_cases h2:i=q
   ·subst h2;exact key top ht (by simp[qck])
   ·exact key i hi (by simp[qck,h1,h2])
theorem Eqv.f{p:Int}{R W c top:Nat}{B:Ent}(hp:Pr p)(ht:top<R)(hl:1≤B top c∧B top c≤p-1):Eqv p R W B (elF p c top B):=by
 have hinv:=qk2 hp hl.1 hl.2
 have hN:Spn p R W B (elN p c top B):=((Spn.row ht).smul (qgl (B top c) p)).congr fun j _=>by
  show qgl (B top c) p*B top j%p=(B top j*qgl (B top c) p%p)%p
  rw[Int.emod_emod_of_dvd _ (Int.dvd_refl p),Int.mul_comm]
 have eTop:elF p c top B top=elN p c top B:=by funext j;simp[elF]
 have hN2:Spn p R W (elF p c top B) (elN p c top B):=by rw[← eTop];exact Spn.row ht
 refine⟨fun i hi=>?_,fun i hi=>?_⟩
 ·by_cases h1:i=top
  ·subst h1;rw[eTop];exact hN
  ·by_cases h2:B i c=0
   ·have e:elF p c top B i=B i:=by funext j;simp[elF,h1,h2]
    rw[e];exact Spn.row hi
   ·refine((Spn.row hi).add (hN.smul (p-B i c))).congr fun j _=>?_
    have e:elF p c top B i j=(B i j+(p-B i c)*elN p c top B j)%p:=by simp[elF,h1,h2]
    rw[e,Int.emod_emod_of_dvd _ (Int.dvd_refl p)]
 ·by_cases h1:i=top
  ·subst h1
   refine(hN2.smul (B i c)).congr fun j _=>?_
   show B i c*(B i j*qgl (B i c) p%p)%p=B i j%p
   rw[Int.mul_emod,Int.emod_emod_of_dvd _ (Int.dvd_refl p),← Int.mul_emod,show B i c*(B i j*qgl (B i c) p)=B i j*(B i c*qgl (B i c) p) by rw[← Int.mul_assoc,Int.mul_comm (B i c),Int.mul_assoc],Int.mul_emod,hinv,Int.mul_one,Int.emod_emod_of_dvd _ (Int.dvd_refl p)]
  ·by_cases h2:B i c=0
   ·have e:elF p c top B i=B i:=by funext j;simp[elF,h1,h2]
    rw[← e];exact Spn.row hi
   ·refine((Spn.row hi).add (hN2.smul (B i c))).congr fun j _=>?_
    have e:elF p c top B i j=(B i j+(p-B i c)*elN p c top B j)%p:=by simp[elF,h1,h2]
    rw[e,Int.add_emod,Int.emod_emod_of_dvd _ (Int.dvd_refl p),← Int.add_emod,show B i j+(p-B i c)*elN p c top B j+B i c*elN p c top B j=B i j+p*elN p c top B j by rw[Int.sub_mul];omega,Int.add_mul_emod_self_left]
structure Rf (R c:Nat) (B:Ent) (pv:List Nat):Prop where
 len:pv.length≤R
 lt:∀ i,i<pv.length→pv.getD i 0<c
 mono:∀ i j,i<j→j<pv.length→pv.getD i 0<pv.getD j 0
 one:∀ i j,i<R→j<pv.length→B i (pv.getD j 0)=if i=j then 1 else 0
 low:∀ i j,i<pv.length→j<pv.getD i 0→B i j=0
 bot:∀ i j,pv.length≤i→i<R→j<c→B i j=0
end VeT
open Go Go.Proofs Ve
namespace VeT
theorem qb9{l:List Nat}{c i:Nat}(h:i<l.length):(l++[c]).getD i 0=l.getD i 0:=by
 rw[List.getD_eq_getElem?_getD,List.getD_eq_getElem?_getD,List.getElem?_append_left h]
theorem qdq{l:List Nat}{c:Nat}:(l++[c]).getD l.length 0=c:=by
 rw[List.getD_eq_getElem?_getD,List.getElem?_append_right (Nat.le_refl _)];simp
theorem Rf.next{p:Int}{R W c:Nat}{B:Ent}{pv:List Nat}(hp:Pr p)(hB:EIn p R W B)(hc:c<W)(h:Rf R c B pv){q:Nat}(hq:pv.length≤q∧q<R)(hne:B q c≠0) :
  Rf R (c+1) (elF p c pv.length (qck pv.length q B)) (pv++[c]):=by
 obtain⟨hlen,hlt,hmono,hone,hlow,hbot⟩:=h
 generalize ht:pv.length=top at *
 have hB':EIn p R W (qck top q B):=hB.sw (by omega) hq.2
 have rowLt:∀ i,i<top→qck top q B i=B i:=fun i hi=>by
  unfold qck;rw[if_neg (by omega),if_neg (by omega)]
 have rowGe:∀ i,top≤i→i<R→∀ j,j<c→qck top q B i j=0:=fun i h1 h2 j hj=>by
  unfold qck
  split
  ·exact hbot q j hq.1 hq.2 hj
  ·split
   ·exact hbot top j (Nat.le_refl _) (by omega) hj
   ·exact hbot i j h1 h2 hj
 have eLead:qck top q B top c=B q c:=by simp[qck]
 have hlead:1≤qck top q B top c∧qck top q B top c≤p-1:=by
  have:=hB q c hq.2 hc
  rw[eLead];omega
 generalize qck top q B=B' at hB' rowLt rowGe eLead hlead
 have hinv:=qk2 hp hlead.1 hlead.2
 have nLt:∀ j,j<c→elN p c top B' j=0:=fun j hj=>by
  unfold elN;rw[rowGe top (Nat.le_refl _) (by omega) j hj,Int.zero_mul];exact Int.zero_emod p
 have nC:elN p c top B' c=1:=hinv
 have fLt:∀ i j,i<R→j<c→elF p c top B' i j=B' i j:=fun i j hi hj=>by
  unfold elF
  split
  ·rename_i e;subst e;rw[nLt j hj,rowGe i (Nat.le_refl _) hi j hj]
  ·split
   ·rw[nLt j hj,Int.mul_zero,Int.add_zero]
    have:=hB' i j hi (by omega)
    exact Int.emod_eq_of_lt this.1 (by omega)
   ·rfl
 have fC:∀ i,i<R→elF p c top B' i c=if i=top then 1 else 0:=fun i hi=>by
  unfold elF
  split
  ·exact nC
  ·split
   ·rw[nC,Int.mul_one,show B' i c+(p-B' i c)=p by omega,Int.emod_self]
   ·rename_i _ h2;exact Classical.byContradiction fun e=>h2 e
 refine⟨?_,?_,?_,?_,?_,?_⟩
 ·rw[List.length_append,List.length_singleton,ht];omega
 ·intro i hi
  rw[List.length_append,List.length_singleton,ht] at hi
  by_cases hi2:i<top
  ·rw[qb9 (by omega)];have:=hlt i hi2;omega
  ·obtain rfl:i=top:=by omega
   subst ht
   rw[qdq];omega
 ·intro i j hij hj
  rw[List.length_append,List.length_singleton,ht] at hj
  by_cases hj2:j<top
  ·rw[qb9 (by omega),qb9 (by omega)];exact hmono i j hij hj2
  ·obtain rfl:j=top:=by omega
   have:=hlt i hij
   subst ht
   rw[qb9 hij,qdq];exact this
 ·intro i j hi hj
  rw[List.length_append,List.length_singleton,ht] at hj
  by_cases hj2:j<top
  ·have hpj:=hlt j hj2
   rw[qb9 (by omega),fLt i _ hi hpj]
   by_cases hi2:i<top
   ·rw[rowLt i hi2];exact hone i j hi hj2
   ·rw[rowGe i (by omega) hi _ hpj,if_neg (by omega)]
  ·obtain rfl:j=top:=by omega
   have hfc:=fC i hi
   subst ht
   rw[qdq];exact hfc
 ·intro i j hi hj
  rw[List.length_append,List.length_singleton,ht] at hi
  by_cases hi2:i<top
  ·rw[qb9 (by omega)] at hj
   have:=hlt i hi2
   rw[fLt i j (by omega) (by omega),rowLt i hi2];exact hlow i j hi2 hj
  ·obtain rfl:i=top:=by omega
   have hfl:j<c→elF p c i B' i j=0:=fun h=>by rw[fLt i j (by omega) h];exact rowGe i (Nat.le_refl _) (by omega) j h
   have e:(pv++[c]).getD i 0=c:=by rw[← ht];exact qdq
   rw[e] at hj
   exact hfl hj
 ·intro i j hi hiR hj
  rw[List.length_append,List.length_singleton,ht] at hi
  by_cases hjc:j<c
  ·rw[fLt i j hiR hjc];exact rowGe i (by omega) hiR j hjc
  ·obtain rfl:j=c:=by omega
   rw[fC i hiR,if_neg (by omega)]
theorem qfT{p:Int}{R W:Nat}{A:Ent}(hp:Pr p)(hA:EIn p R W A):∀ c,c≤W→Rf R c (elS p R A c).1 (elS p R A c).2∧Eqv p R W A (elS p R A c).1
 | 0,_=>⟨⟨Nat.zero_le _,fun i h=>by simp[elS] at h,fun i j _ h=>by simp[elS] at h,fun i j _ h=>by simp[elS] at h,fun i j h=>by simp[elS] at h,fun i j _ _ h=>by omega⟩,Eqv.refl⟩
 | c+1,hc=>by
  obtain⟨h1,h2⟩:=qfT hp hA c (by omega)
  have hB:=(qd7 hp.1 hA c).1
  rw[elS,elP]
  generalize elS p R A c=S at h1 h2 hB
  obtain⟨B,pv⟩:=S
  simp only at h1 h2 hB ⊢
  cases hf:qbi (fun i=>B i c≠0) pv.length (R-pv.length) with
  | none =>
   have hn:=qcK hf
   show Rf R (c+1) B pv∧Eqv p R W A B
   refine⟨⟨h1.len,fun i hi=>by have:=h1.lt i hi;omega,h1.mono,h1.one,h1.low,fun i j h3 h4 h5=>?_⟩,h2⟩
   by_cases hj:j<c
   ·exact h1.bot i j h3 h4 hj
   ·obtain rfl:j=c:=by omega
    exact Classical.byContradiction fun e=>hn i h3 (by omega) e
  | some q =>
   have hq:=qcb hf
   have hq2:pv.length≤q∧q<R:=by omega
   have hlead:1≤qck pv.length q B pv.length c∧qck pv.length q B pv.length c≤p-1:=by
    have e:qck pv.length q B pv.length c=B q c:=by simp[qck]
    have:=hB q c hq2.2 (by omega)
    have:=hq.2.2
    rw[e];omega
   exact⟨h1.next hp hB (by omega) hq2 hq.2.2,(h2.trans (Eqv.sw (by omega) hq2.2)).trans (Eqv.f hp (by omega) hlead)⟩
end VeT
open Go Go.Proofs Ve
namespace VeT
end VeT
open Go Go.Proofs Ve
namespace VeT
end VeT
open Go Go.Proofs Ve
namespace VeT
theorem VM.len{m:Mat}(h:VM m):m.2.2.2.1.length≤1024:=by
 obtain⟨R,C,_,hR,hC,hl⟩:=h.nat
 have:=qgR hR hC
 omega
end VeT
open Go Go.Proofs Ve
namespace VeT
theorem qmC{s:Sim}(hs:qhU s){a b:Nat}(ha:a<s.length)(hb:b<s.length)(e:s.eraseIdx a=s.eraseIdx b):a=b:=by
 have key:∀ {a b:Nat},a<b→b<s.length→s.eraseIdx a=s.eraseIdx b→False:=fun {a b} hab hb e=>by
  have h:=congrArg (·[a]?) e
  simp only[List.getElem?_eraseIdx] at h
  rw[if_neg (by omega),if_pos hab,List.getElem?_eq_getElem (by omega),List.getElem?_eq_getElem (by omega)] at h
  have h:=Option.some.inj h
  have:=hs.lt (i:=a) (j:=a+1) (by omega) (by omega)
  omega
 rcases Nat.lt_trichotomy a b with h | h | h
 ·exact absurd e fun e=>key h hb e
 ·exact h
 ·exact absurd e.symm fun e=>key h ha e
end VeT
open Go Go.Proofs Ve
namespace VeT
theorem qm6{a b:Mat}(ha:VM a)(hb:VM b):VM (ql3 a b):=by
 refine⟨ha.1,ha.2.1,hb.2.2.1,?_,?_⟩
 ·show((qat _ b.2.2.1.toNat a.2.1.toNat).length:Int)=a.2.1*b.2.2.1
  rw[qaz]
  have h1:=ha.2.1
  have h2:=hb.2.2.1
  obtain⟨x,hx⟩:=Int.eq_ofNat_of_zero_le h1.1
  obtain⟨y,hy⟩:=Int.eq_ofNat_of_zero_le h2.1
  rw[hx,hy,qbp];rfl
 ·intro x hx
  have hx:x∈qat (qpM a.1 a.2.2.2.1 b.2.2.2.1 a.2.2.1.toNat b.2.2.1.toNat) b.2.2.1.toNat a.2.1.toNat:=hx
  have hp:=ha.1.1
  have:∀ m,x∈qat (qpM a.1 a.2.2.2.1 b.2.2.2.1 a.2.2.1.toNat b.2.2.1.toNat) b.2.2.1.toNat m→0≤x∧x≤a.1-1:=by
   intro m
   induction m with
   | zero=>intro h;simp[qat] at h
   | succ m ih =>
    intro h
    rw[qat,List.mem_append] at h
    rcases h with h | h
    ·exact ih h
    ·rw[List.mem_map] at h
     obtain⟨j,_,rfl⟩:=h
     have h1:=Int.emod_nonneg (qaF (fun l=>a.2.2.2.1.getD (m*a.2.2.1.toNat+l) 0) (fun l=>b.2.2.2.1.getD (l*b.2.2.1.toNat+j) 0) a.2.2.1.toNat) (show a.1≠0 by omega)
     have h2:=Int.emod_lt_of_pos (qaF (fun l=>a.2.2.2.1.getD (m*a.2.2.1.toNat+l) 0) (fun l=>b.2.2.2.1.getD (l*b.2.2.1.toNat+j) 0) a.2.2.1.toNat) (show 0<a.1 by omega)
     unfold qpM;omega
  exact this _ hx
end VeT
open Go Go.Proofs Ve
namespace VeT
end VeT
open Go Go.Proofs Ve
namespace VeT
def qqb(a b:Sim)(c p:Int):Sim:=(List.range a.length).map fun i=>(a.getD i 0+c*b.getD i 0)%p
end VeT
open Go Go.Proofs Ve
namespace VeT
theorem qok{a b:Sim}(hl:a.length=b.length)(h:∀ i,i<a.length→a.getD i 0=b.getD i 0):a=b:=by
 refine List.ext_getElem hl fun i h1 h2=>?_
 have:=h i h1
 rwa [qag h1,qag h2] at this
end VeT
open Go Go.Proofs Ve
namespace VeT
end VeT
open Go Go.Proofs Ve
namespace VeT
def qpj(c:List Sim)(w:Sim):Prop:=qhU w∧∀ y∈w,0≤y∧y≤(c.length:Int)-1
theorem qpj.get{c:List Sim}{w:Sim}(h:qpj c w){i:Nat}(hi:i<w.length):∃ n:Nat,w[i]=(n:Int)∧n<c.length:=by
 have:=h.2 _ (List.getElem_mem hi)
 exact⟨(w[i]).toNat,by omega,by omega⟩
end VeT
open Go Go.Proofs Ve
namespace VeT
theorem qft{P:Nat→Prop}:∀ {d a k:Nat},qbi P a d=some k→∀ i,a≤i→i<k→¬ P i
 | 0,a,k,h=>by simp[qbi] at h
 | d+1,a,k,h=>fun i h1 h2=>by
  rw[qbi] at h
  split at h
  ·obtain rfl:=Option.some.inj h;omega
  ·rename_i hp
   by_cases e:i=a
   ·subst e;exact hp
   ·exact qft h i (by omega) h2
theorem qn3{s:Sim}(h:s.Pairwise (·<·)):qhU s:=fun j h1 h2=>by
 rw[qag (show j-1<s.length by omega),qag h2]
 exact List.pairwise_iff_getElem.1 h (j-1) j (by omega) h2 (by omega)
end VeT
open Go Go.Proofs Ve
namespace VeT
def qpp(a p:Int):Int:=Int.tmod (w64 (Int.tmod a p+p)) p
theorem qkN{a p:Int}(hp:2≤p∧p≤251)(ha:-1048576≤a∧a≤1048576):qpp a p=a%p:=by
 have h1:-p<Int.tmod a p∧Int.tmod a p<p:=by
  constructor
  ·by_cases h:a<0
   ·have:=Int.tmod_lt_of_pos (-a) (show 0<p by omega)
    rw[Int.neg_tmod] at this;omega
   ·have:=Int.tmod_nonneg p (show 0≤a by omega);omega
  ·exact Int.tmod_lt_of_pos a (by omega)
 have h2:Int.tmod a p%p=a%p:=by
  have:=Int.tmod_add_mul_tdiv a p
  have e:a=Int.tmod a p+p*Int.tdiv a p:=this.symm
  conv=>rhs;rw[e]
  rw[Int.add_mul_emod_self_left]
 unfold qpp
 rw[qaj (by omega) (by omega),Int.tmod_eq_emod_of_nonneg (by omega),Int.add_emod_right,h2]
theorem qim(a p:Int)(hp:2≤p):Ret E n_Z52 [dI a,dI p] ⟨o_Z52,(qpp a p,())⟩:=by
 refine qal ?_
 simp only[run_Z52,Z52.ev]
 exact qan (by simp;omega) (qan (by simp;omega) qam)
theorem qib(a p:Int)(hp:2≤p):Ret E n_Z109 [dI a,dI p] ⟨o_Z109,(qpp a p,())⟩:=by
 refine qal ?_
 simp only[run_Z109,Z109.ev]
 exact qan (by simp;omega) (qan (by simp;omega) qam)
theorem qd6(a b:Sim)(c p:Int)(hp:2≤p∧p≤251)(hc:0≤c∧c≤250)(hl:a.length≤b.length)(ha1:a.length≤1048576)(ea:∀ x∈a,0≤x∧x≤250)(eb:∀ x∈b,0≤x∧x≤250) :
  Ret E n_Z14 [dL a,dL b,dI c,dI p] ⟨o_Z14,(qqb a b c p,())⟩:=by
 refine qal ?_
 simp only[run_Z14,Z14.ev]
 refine Ev.start (p:=fun φ n=>Z14.l0 (mkR (run E (φ 0))) (φ 0) n a b c p (a.length:Int) 0 []=_) 1 ?_ (fun _ _ _ h=>h)
 refine qas 1 (L:=fun φ n k o=>Z14.l0 (mkR (run E (φ 0))) (φ 0) n a b c p (a.length:Int) k o) (len:=a.length) (fun k=>(List.range k).map fun i=>(a.getD i 0+c*b.getD i 0)%p) (fun _ _ _ _ _=>rfl) (fun k r hk ih=>?_) ?_
 ·simp only[Z14.l0_succ _ qaf]
  have hkb:k<b.length:=by omega
  have h1:=ea _ (List.getElem_mem hk)
  have h2:=qfS hc (eb _ (List.getElem_mem hkb))
  rw[List.range_succ,List.map_append,List.map_singleton,qag hk,qag hkb] at ih
  refine qaC (decide_eq_true (by omega)) (qae (qaq hk) (qae (qaq hkb) (qan (by simp;omega) ?_)))
  rw[qaj (n:=c*b[k]) (by omega) (by omega),qaj (by omega) (by omega),Int.tmod_eq_emod_of_nonneg (by omega),qah (by omega)]
  exact qan (by simp;omega) ih
 ·simp only[Z14.l0_succ _ qaf]
  exact qaE (decide_eq_false (by omega)) qam
theorem qmw{a:Int}:∀ k:Nat,(a*a) ^ k=a ^ (k+k)
 | 0=>by rw[Int.pow_zero,Nat.add_zero,Int.pow_zero]
 | k+1=>by rw[Int.pow_succ,qmw k,show k+1+(k+1)=k+k+1+1 by omega,Int.pow_succ,Int.pow_succ,Int.mul_assoc]
theorem qkG(a:Int)(n:Nat)(p:Int)(hp:2≤p∧p≤251)(ha:0≤a∧a≤p-1)(hn:n≤1048576):Ret E n_Z51 [dI a,dI (n:Int),dI p] ⟨o_Z51,(a ^ n%p,())⟩:=by
  refine qal ?_
  simp only[run_Z51,Z51.ev]
  refine Ev.start (p:=fun φ m=>Z51.l0 (mkR (run E (φ 0))) (φ 0) m a (n:Int) p 1=_) 1 ?_ (fun _ _ _ h=>h)
  refine qez 1 (σ:=Int×Nat×Int) (L:=fun φ m s=>Z51.l0 (mkR (run E (φ 0))) (φ 0) m s.1 (s.2.1:Int) p s.2.2) (fun _ _ _ _=>rfl) (fun s=>(0≤s.1∧s.1≤p-1)∧s.2.1≤1048576∧(0≤s.2.2∧s.2.2≤p-1)∧s.2.2*s.1 ^ s.2.1%p=a ^ n%p) (fun _=>_) (fun s=>s.2.1) (fun s hi ih=>?_) (a,n,1) ⟨ha,hn,by show 0≤(1:Int)∧(1:Int)≤p-1;omega,by show 1*a ^ n%p=_;rw[Int.one_mul]⟩
  obtain⟨b,m,q⟩:=s
  obtain⟨h1,h2,h3,h4⟩:=hi
  simp only at h1 h2 h3 h4 ih
  simp only[Z51.l0_succ _ qaf]
  have hbb:=qfS (x:=b) (y:=b) (by omega) (by omega)
  have hqb:=qfS (x:=q) (y:=b) (by omega) (by omega)
  have e1:w64 (b*b)=b*b:=qaj (by omega) (by omega)
  have e2:w64 (q*b)=q*b:=qaj (by omega) (by omega)
  have e3:Int.tdiv (m:Int) 2=((m / 2:Nat):Int):=rfl
  have e4:w64 ((m / 2:Nat):Int)=((m / 2:Nat):Int):=qaj (by omega) (by omega)
  have e5:Int.tmod (m:Int) 2=((m%2:Nat):Int):=rfl
  refine qei (fun hm=>?_) fun hm=>qap ?_
  · rw[e5,e1,e2,e3,e4,Int.tmod_eq_emod_of_nonneg (by omega),Int.tmod_eq_emod_of_nonneg (by omega)]
    have hd:m / 2<m:=by omega
    refine qfs (fun ho=>qan (by simp;omega) (qan (by simp;omega) ?_)) fun he=>qan (by simp;omega) ?_
    · have ho : m % 2 = 1 := by have : ((m % 2 : Nat) : Int) = 1 := by simpa using ho
                                omega
      refine ih (b*b%p,m / 2,q*b%p) ⟨qcm (by omega),by show m / 2≤_;omega,qcm (by omega),?_⟩ hd
      rw[← h4]
      show q*b%p*(b*b%p) ^ (m / 2)%p=_
      have hx:(q*b%p)%p=(q*b)%p:=Int.emod_emod_of_dvd _ (Int.dvd_refl p)
      have hy:(b*b%p) ^ (m / 2)%p=(b*b) ^ (m / 2)%p:=qhn (Int.emod_emod_of_dvd _ (Int.dvd_refl p)) _
      rw[qcJ hx hy,qmw]
      have hm2:m=m / 2+m / 2+1:=by omega
      conv=>rhs;rw[hm2,Int.pow_succ]
      rw[Int.mul_assoc,Int.mul_comm b]
    · have he:m%2=0:=by
        have:¬ ((m%2:Nat):Int)=1:=by simpa using he
        omega
      refine ih (b*b%p,m / 2,q) ⟨qcm (by omega),by show m / 2≤_;omega,h3,?_⟩ hd
      rw[← h4]
      show q*(b*b%p) ^ (m / 2)%p=_
      have hy:(b*b%p) ^ (m / 2)%p=(b*b) ^ (m / 2)%p:=qhn (Int.emod_emod_of_dvd _ (Int.dvd_refl p)) _
      rw[qcJ rfl hy,qmw]
      have hm2:m=m / 2+m / 2:=by omega
      conv=>rhs;rw[hm2]
  · have hm:m=0:=by omega
    subst hm
    have:q=a ^ n%p:=by rw[← h4,Int.pow_zero,Int.mul_one,Int.emod_eq_of_lt (by omega) (by omega)]
    rw[this]
theorem qiF(a p:Int)(hp:2≤p∧p≤251)(ha:0≤a∧a≤p-1):Ret E n_Z38 [dI a,dI p] ⟨o_Z38,(qgl a p,())⟩:=by
 have e:w64 (p-2)=(((p-2).toNat:Nat):Int):=by rw[qaj (by omega) (by omega)];omega
 refine qal ?_
 simp only[run_Z38,Z38.ev,e]
 exact qaa (qkG a (p-2).toNat p hp ha (by omega)) qam
theorem qhS(a p:Int)(hp:2≤p∧p≤251)(ha:0≤a∧a≤p-1):Ret E n_Z106 [dI a,dI p] ⟨o_Z106,(qgl a p,())⟩:=by
 have e:w64 (p-2)=(((p-2).toNat:Nat):Int):=by rw[qaj (by omega) (by omega)];omega
 refine qal ?_
 simp only[run_Z106,Z106.ev,e]
 refine Ev.start (p:=fun φ m=>Z106.l0 (mkR (run E (φ 0))) (φ 0) m a p 1 (((p-2).toNat:Nat):Int)=_) 1 ?_ (fun _ _ _ h=>h)
 refine qez 1 (σ:=Nat×Int) (L:=fun φ m s=>Z106.l0 (mkR (run E (φ 0))) (φ 0) m a p s.2 (s.1:Int)) (fun _ _ _ _=>rfl) (fun s=>s.1≤1048576∧(0≤s.2∧s.2≤p-1)∧s.2*a ^ s.1%p=a ^ (p-2).toNat%p) (fun _=>_) (fun s=>s.1) (fun s hi ih=>?_) ((p-2).toNat,1) ⟨by show(p-2).toNat≤_;omega,by show 0≤(1:Int)∧(1:Int)≤p-1;omega,by show 1*_%p=_;rw[Int.one_mul]⟩
 obtain⟨m,q⟩:=s
 obtain⟨h2,h3,h4⟩:=hi
 simp only at h2 h3 h4 ih
 simp only[Z106.l0_succ _ qaf]
 have hqa:=qfS (x:=q) (y:=a) (by omega) (by omega)
 refine qei (fun hm=>qan (by simp;omega) ?_) fun hm=>qap ?_
 ·rw[qaj (n:=q*a) (by omega) (by omega),Int.tmod_eq_emod_of_nonneg (by omega),qaj (by omega) (by omega),show(m:Int)-1=((m-1:Nat):Int) by omega]
  refine ih (m-1,q*a%p) ⟨by show m-1≤_;omega,qcm (by omega),?_⟩ (by show m-1<m;omega)
  rw[← h4]
  show q*a%p*a ^ (m-1)%p=_
  have hx:(q*a%p)%p=(q*a)%p:=Int.emod_emod_of_dvd _ (Int.dvd_refl p)
  rw[qcJ hx rfl]
  conv=>rhs;rw[show m=m-1+1 by omega,Int.pow_succ]
  rw[Int.mul_assoc,Int.mul_comm a]
 ·have hm:m=0:=by omega
  subst hm
  have:q=qgl a p:=by unfold qgl;rw[← h4,Int.pow_zero,Int.mul_one,Int.emod_eq_of_lt (by omega) (by omega)]
  rw[this]
theorem qiE{f g:Nat→Int}{W:Nat}{c p:Int}:qqb ((List.range W).map f) ((List.range W).map g) c p=(List.range W).map fun j=>(f j+c*g j)%p:=by
 unfold qqb
 rw[List.length_map,List.length_range]
 refine List.map_congr_left fun j hj=>?_
 have hj:=List.mem_range.1 hj
 simp[List.getD_eq_getElem?_getD,hj]
theorem qjo{W:Nat}:List.replicate W (0:Int)=(List.range W).map fun _=>0:=by
 rw[List.map_const',List.length_range]
theorem qj8{f:Nat→Int}{W:Nat}{p:Int}(hp:p≤251)(h:∀ j,j<W→0≤f j∧f j≤p-1):∀ x∈(List.range W).map f,0≤x∧x≤250:=fun x hx=>by
 obtain⟨j,hj,rfl⟩:=List.mem_map.1 hx
 have:=h j (List.mem_range.1 hj)
 omega
def pvL(l:List Nat):Sim:=l.map fun(n:Nat)=>(n:Int)
theorem qaI{l:List Nat}:(pvL l).length=l.length:=by simp[pvL]
theorem qkj{l:List Nat}{c:Nat}:pvL (l++[c])=pvL l++[(c:Int)]:=by simp[pvL]
theorem qmb{A:Ent}{R W c top:Nat}(hc:c<W)(ht:top≤R):qfU (fun row:Sim=>row.getD c 0 != 0) ((qaA A R W).drop top)=o2i ((qbi (fun i=>A i c≠0) top (R-top)).map fun q=>q-top):=by
 have hlen:((qaA A R W).drop top).length=R-top:=by rw[List.length_drop,qax]
 have hget:∀ k (h:k<((qaA A R W).drop top).length),(((qaA A R W).drop top)[k].getD c 0 != 0)=true↔A (top+k) c≠0:=fun k h=>by
  rw[hlen] at h
  have h1:=qa6 (A:=A) (W:=W) (show top+k<R by omega)
  have h2:((qaA A R W).drop top)[k]? = some ((List.range W).map (A (top+k))):=by rw[List.getElem?_drop];exact h1
  rw[List.getElem?_eq_getElem (by rw[hlen];exact h)] at h2
  rw[Option.some.inj h2,List.getD_eq_getElem?_getD,qfN hc]
  simp
 symm
 refine qc1 (fun k hk=>?_) fun hno j hj ⟨hj',hP⟩=>?_
 ·cases hf:qbi (fun i=>A i c≠0) top (R-top) with
  | none=>rw[hf] at hk;cases hk
  | some q =>
   rw[hf] at hk
   have hk:q-top=k:=Option.some.inj hk
   have h1:=qcb hf
   have hkl:k<((qaA A R W).drop top).length:=by rw[hlen];omega
   refine⟨hkl,⟨hkl,(hget k hkl).2 (by rw[show top+k=q by omega];exact h1.2.2)⟩,fun j hj ⟨hj',hP⟩=>?_⟩
   exact qft hf (top+j) (by omega) (by omega) ((hget j hj').1 hP)
 ·cases hf:qbi (fun i=>A i c≠0) top (R-top) with
  | none=>exact qcK hf (top+j) (by omega) (by rw[hlen] at hj;omega) ((hget j hj').1 hP)
  | some q=>rw[hf] at hno;cases hno
end VeT
open Go Go.Proofs Ve
namespace VeT
theorem qhk(row:Sim)(c:Nat)(hc:c<row.length):Ret E n_Z28 [dL row,⟨.ptr (.cons (.int .i64) .nil),((c:Int),())⟩] ⟨o_Z28,(row.getD c 0 != 0,())⟩:=by
 rw[qag hc]
 refine qal ?_
 simp only[run_Z28,Z28.ev]
 exact qae (qaq hc) qam
def elK(p:Int)(c top k:Nat)(B:Ent):Ent:=fun i j=>if i<k then elF p c top B i j else elM p c top B i j
theorem qnR{p:Int}{c top:Nat}{B:Ent}{R W:Nat}:qaA (elK p c top 0 B) R W=qaA (elM p c top B) R W:=qbI fun i j _ _=>by simp[elK]
theorem qoZ{p:Int}{c top:Nat}{B:Ent}{R W:Nat}:qaA (elK p c top R B) R W=qaA (elF p c top B) R W:=qbI fun i j hi _=>by simp[elK,hi]
theorem qnE{top q R W:Nat}{A:Ent}(ht:top<R)(hq:q<R)(hne:q≠top):((qaA A R W).set top ((List.range W).map (A q))).set q ((List.range W).map (A top))=qaA (qck top q A) R W:=by
 rw[qfn,qfn]
 refine qbI fun i j _ _=>?_
 unfold qck
 by_cases h1:i=q
 ·subst h1;simp[hne]
 ·by_cases h2:i=top
  ·subst h2;simp[h1]
  ·simp[h1,h2]
theorem qng{top R W:Nat}{A:Ent}:qaA (qck top top A) R W=qaA A R W:=qbI fun i j _ _=>by
 unfold qck
 by_cases h:i=top
 ·subst h;simp
 ·simp[h]
theorem qe3(A:Ent)(R W:Nat)(p:Int)(hp:2≤p∧p≤251)(hR:R≤1048576)(hW:W≤1048576)(hA:EIn p R W A) :
  ∃ det:Int,Ret E n_Z27 [dLL (qaA A R W),dI (W:Int),dI p] ⟨o_Z27,(pvL (elS p R A W).2,det,qaA (elS p R A W).1 R W,())⟩:=by
 have key:∀ d c det,c+d=W→∃ det':Int,Ev fun φ=>Z27.l0 (mkR (run E (φ 0))) (φ 0) (φ 1) (W:Int) p det (W:Int) (c:Int) (pvL (elS p R A c).2) (qaA (elS p R A c).1 R W)=some ⟨o_Z27,(pvL (elS p R A W).2,det',qaA (elS p R A W).1 R W,())⟩:=by
  intro d
  induction d with
  | zero =>
   intro c det hc
   obtain rfl:c=W:=by omega
   refine⟨det,Ev.round 1 (L:=fun φ n=>Z27.l0 (mkR (run E (φ 0))) (φ 0) n (c:Int) p det (c:Int) (c:Int) (pvL (elS p R A c).2) (qaA (elS p R A c).1 R c)) ?_ (fun _ _ _=>rfl)⟩
   simp only[Z27.l0_succ _ qaf]
   exact qaE (decide_eq_false (by omega)) qam
  | succ d ih =>
   intro c det hcd
   have hc:c<W:=by omega
   obtain⟨hB,hpl,hpc,_⟩:=qd7 hp.1 hA c
   have hstep:elS p R A (c+1)=elP p R c (elS p R A c):=rfl
   generalize hS:elS p R A c=S at hB hpl hpc hstep
   obtain⟨B0,pv⟩:=S
   simp only at hB hpl hpc hstep
   have hlen:(qaA B0 R W).length=R:=qax
   have hI:=qa8 ((qaA B0 R W).drop pv.length) (((c:Int),()),()) (fun row=>row.getD c 0 != 0) (by rw[List.length_drop,hlen];omega) fun row hrow=>qhk row c (by
    have:=List.mem_of_mem_drop hrow
    unfold qaA at this
    obtain⟨i,_,rfl⟩:=List.mem_map.1 this
    simpa using hc)
   rw[qmb hc hpl] at hI
   cases hf:qbi (fun i=>B0 i c≠0) pv.length (R-pv.length) with
   | none =>
    rw[hf] at hI
    have e:elS p R A (c+1)=(B0,pv):=by rw[hstep,elP];simp only[hf]
    obtain⟨det',h'⟩:=ih (c+1) 0 (by omega)
    rw[e] at h'
    refine⟨det',Ev.round 1 (L:=fun φ n=>Z27.l0 (mkR (run E (φ 0))) (φ 0) n (W:Int) p det (W:Int) (c:Int) (pvL pv) (qaA B0 R W)) ?_ (fun _ _ _=>rfl)⟩
    simp only[Z27.l0_succ _ qaf,qaI,hlen,Int.toNat_natCast]
    rw[show List.take R (qaA B0 R W)=qaA B0 R W from List.take_of_length_le (by omega)]
    refine qaC (decide_eq_true (by omega)) (qan (by simp only[Bool.and_eq_true,decide_eq_true_eq];omega) (qaa hI (qaC rfl ?_)))
    rw[qah (by omega)]
    exact h'
   | some q =>
    rw[hf] at hI
    have hq:=qcb hf
    have e:elS p R A (c+1)=(elF p c pv.length (qck pv.length q B0),pv++[c]):=by rw[hstep,elP];simp only[hf]
    generalize ht:pv.length=top at hI hq e hpl hpc
    have htR:top<R:=by omega
    have hqR:q<R:=by omega
    have hsw:=hB.sw htR hqR
    have hlead:1≤qck top q B0 top c∧qck top q B0 top c≤p-1:=by
     have h1:=hsw top c htR hc
     have h2:qck top q B0 top c=B0 q c:=by simp[qck]
     have h3:=hq.2.2
     rw[← h2] at h3
     omega
    have hI':Ret E n_Z81 [dLL ((qaA B0 R W).drop top),⟨.fn n_Z28 (.cons (.ptr (.cons (.int .i64) .nil)) .nil),(((c:Int),()),())⟩] ⟨o_Z81,(((q-top:Nat):Int),())⟩:=hI
    -- what lies behind the exchange
    have back:∀ det2,∃ det',Ev fun φ=>Z27.j1 (mkR (run E (φ 0))) (φ 0) (φ 1) (W:Int) p det2 (top:Int) (W:Int) (c:Int) (c:Int) (pvL pv) (qaA (qck top q B0) R W)=some ⟨o_Z27,(pvL (elS p R A W).2,det',qaA (elS p R A W).1 R W,())⟩:=fun det2=>by
     generalize qck top q B0=B at hsw hlead e
     obtain⟨det',h'⟩:=ih (c+1) (Int.tmod (w64 (det2*B top c)) p) (by omega)
     rw[e] at h'
     simp only at h'
     rw[qkj,← qoZ] at h'
     have hBl:(qaA B R W).length=R:=qax
     have hNin:∀ j,0≤elN p c top B j∧elN p c top B j≤p-1:=fun j=>qcm hp.1
     have hinv:=qm1 (a:=B top c) (p:=p) hp.1
     have hinvR:=qiF (B top c) p hp ⟨by omega,hlead.2⟩
     have hgt:=qa6 (A:=B) (W:=W) htR
     have hat:Ret E n_Z14 [dL (List.replicate W 0),dL ((List.range W).map (B top)),dI (qgl (B top c) p),dI p] ⟨o_Z14,((List.range W).map (elN p c top B),())⟩:=by
      have:=qd6 (List.replicate W 0) ((List.range W).map (B top)) (qgl (B top c) p) p hp (by omega) (by simp) (by rw[List.length_replicate];exact hW) (fun x hx=>by rw[List.mem_replicate] at hx;omega) (qj8 hp.2 fun j hj=>hsw top j htR hj)
      rw[qjo,qiE,← qjo] at this
      have e2:((List.range W).map fun j=>(0+qgl (B top c) p*B top j)%p)=(List.range W).map (elN p c top B):=List.map_congr_left fun j _=>by
       rw[Int.zero_add,Int.mul_comm];rfl
      rw[e2] at this
      exact this
     have hset:(qaA B R W).set top ((List.range W).map (elN p c top B))=qaA (elK p c top 0 B) R W:=by
      rw[qfn,qnR];rfl
     refine⟨det',?_⟩
     -- the loop over the rows
     have loop:Ev fun φ=>Z27.j2 (mkR (run E (φ 0))) (φ 0) (φ 1) (W:Int) p (Int.tmod (w64 (det2*B top c)) p) (top:Int) (W:Int) (c:Int) (c:Int) (pvL pv) (qaA (elK p c top 0 B) R W)=some ⟨o_Z27,(pvL (elS p R A W).2,det',qaA (elS p R A W).1 R W,())⟩:=by
      simp only[Z27.j2_eq _ qaf,qax]
      generalize Int.tmod (w64 (det2*B top c)) p=D at h' ⊢
      refine Ev.start (p:=fun φ n=>Z27.l3 (mkR (run E (φ 0))) (φ 0) (φ 1) n (W:Int) p D (top:Int) (W:Int) (c:Int) (R:Int) 0 (c:Int) (pvL pv) (qaA (elK p c top 0 B) R W)=_) 2 ?_ (fun _ _ _ h=>h)
      refine qas 2 (L:=fun φ n i S=>Z27.l3 (mkR (run E (φ 0))) (φ 0) (φ 1) n (W:Int) p D (top:Int) (W:Int) (c:Int) (R:Int) i (c:Int) (pvL pv) S) (len:=R) (fun i=>qaA (elK p c top i B) R W) (fun _ _ _ _ _=>rfl) (fun i r hi ih2=>?_) ?_
      ·simp only[Z27.l3_succ _ qaf,qax,Int.toNat_natCast]
       have hrow:(qaA (elK p c top i B) R W)[i]? = some ((List.range W).map (elM p c top B i)):=by
        rw[qa6 hi]
        have:elK p c top i B i=elM p c top B i:=funext fun j=>by simp[elK]
        rw[this]
       have htop:(qaA (elK p c top i B) R W)[top]? = some ((List.range W).map (elN p c top B)):=by
        rw[qa6 htR]
        have:elK p c top i B top=elN p c top B:=funext fun j=>by simp[elK,elF,elM]
        rw[this]
       refine qaC (decide_eq_true (by omega)) (qan (by simp only[Bool.and_eq_true,decide_eq_true_eq];omega) (qae hrow ?_))
       by_cases hit:i=top
       ·subst hit
        refine qaE (by simp) ?_
        simp only[Z27.j4_eq _ qaf,cond_false]
        have hsame:qaA (elK p c i (i+1) B) R W=qaA (elK p c i i B) R W:=qbI fun k j _ _=>by
         unfold elK
         by_cases h1:k=i
         ·subst h1;simp[elF,elM]
         ·by_cases h2:k<i
          ·rw[if_pos (by omega),if_pos h2]
          ·rw[if_neg (by omega),if_neg h2]
        rw[hsame] at ih2
        rw[qah (by omega)];exact ih2
       ·have hM:elM p c top B i=B i:=funext fun j=>by simp[elM,hit]
        rw[hM]
        have hBi:=hsw i c hi hc
        refine qaC (by simp;omega) (qae (qbF.trans (qfN hc)) ?_)
        by_cases hz:B i c=0
        ·simp only[hz,bne_self_eq_false,Z27.j4_eq _ qaf,cond_false]
         have hsame:qaA (elK p c top (i+1) B) R W=qaA (elK p c top i B) R W:=qbI fun k j _ _=>by
          unfold elK
          by_cases h1:k=i
          ·subst h1;simp[elF,elM,hit,hz]
          ·by_cases h2:k<i
           ·rw[if_pos (by omega),if_pos h2]
           ·rw[if_neg (by omega),if_neg h2]
         rw[hsame] at ih2
         rw[qah (by omega)];exact ih2
        ·have hne:(B i c != 0)=true:=by simpa using hz
         have ec:w64 (p-B i c)=p-B i c:=qaj (by omega) (by omega)
         simp only[hne,Z27.j4_eq _ qaf,cond_true,qax,Int.toNat_natCast]
         refine qan (by simp only[Bool.and_eq_true,decide_eq_true_eq];omega) (qae htop (qae (qbF.trans (qfN hc)) ?_))
         simp only[ec]
         have hat2:=qd6 ((List.range W).map (B i)) ((List.range W).map (elN p c top B)) (p-B i c) p hp (by omega) (by simp) (by simpa using hW) (qj8 hp.2 fun j hj=>hsw i j hi hj) (qj8 hp.2 fun j _=>hNin j)
         rw[qiE] at hat2
         refine qaa hat2 (qan (by simp only[Bool.and_eq_true,decide_eq_true_eq];omega) ?_)
         have hset2:(qaA (elK p c top i B) R W).set i ((List.range W).map fun j=>(B i j+(p-B i c)*elN p c top B j)%p)=qaA (elK p c top (i+1) B) R W:=by
          rw[qfn]
          refine qbI fun k j _ _=>?_
          unfold elK
          by_cases h1:k=i
          ·subst h1;simp[elF,hit,hz]
          ·by_cases h2:k<i
           ·rw[if_neg h1,if_pos h2,if_pos (by omega)]
           ·rw[if_neg h1,if_neg h2,if_neg (by omega)]
         rw[qah (by omega)]
         rw[← hset2] at ih2
         exact ih2
      ·simp only[Z27.l3_succ _ qaf]
       refine qaE (decide_eq_false (by omega)) (qan (by simp only[qaI,List.length_cons,List.length_nil,decide_eq_true_eq];omega) ?_)
       rw[qah (by omega)]
       exact h'
     simp only[Z27.j1_eq _ qaf,qax,Int.toNat_natCast]
     have hck:(decide ((0:Int)≤(top:Int))&&decide ((top:Int)<(R:Int)))=true:=by simp only[Bool.and_eq_true,decide_eq_true_eq];omega
     have hcw:(decide ((0:Int)≤(W:Int))&&decide ((W:Int)*8≤70368744177664))=true:=by simp only[Bool.and_eq_true,decide_eq_true_eq];omega
     have fin:=loop
     rw[← hset] at fin
     exact qan hck (qae hgt (qae (qbF.trans (qfN hc)) (qan (by simp;omega) (qan hck (qae hgt (qeB (qan hcw (qaa hinvR (qaa hat (qan hck fin)))) (qaa hinvR (qan hcw (qaa hat (qan hck fin))))))))))
    by_cases hqt:q=top
    ·subst hqt
     obtain⟨det',h'⟩:=back det
     rw[qng] at h'
     refine⟨det',Ev.round 1 (L:=fun φ n=>Z27.l0 (mkR (run E (φ 0))) (φ 0) n (W:Int) p det (W:Int) (c:Int) (pvL pv) (qaA B0 R W)) ?_ (fun _ _ _=>rfl)⟩
     simp only[Z27.l0_succ _ qaf,qaI,hlen,Int.toNat_natCast,ht]
     rw[show List.take R (qaA B0 R W)=qaA B0 R W from List.take_of_length_le (by omega)]
     refine qaC (decide_eq_true (by omega)) (qan (by simp only[Bool.and_eq_true,decide_eq_true_eq];omega) (qaa hI' ?_))
     rw[Nat.sub_self]
     exact qaE rfl (qaE rfl h')
    ·obtain⟨det',h'⟩:=back (qpp (w64 (0-det)) p)
     rw[← qnE htR hqR hqt] at h'
     refine⟨det',Ev.round 1 (L:=fun φ n=>Z27.l0 (mkR (run E (φ 0))) (φ 0) n (W:Int) p det (W:Int) (c:Int) (pvL pv) (qaA B0 R W)) ?_ (fun _ _ _=>rfl)⟩
     simp only[Z27.l0_succ _ qaf,qaI,hlen,Int.toNat_natCast,ht]
     rw[show List.take R (qaA B0 R W)=qaA B0 R W from List.take_of_length_le (by omega)]
     have e3:w64 ((top:Int)+((q-top:Nat):Int))=(q:Int):=by rw[qaj (by omega) (by omega)];omega
     refine qaC (decide_eq_true (by omega)) (qan (by simp only[Bool.and_eq_true,decide_eq_true_eq];omega) (qaa hI' (qaE (decide_eq_false (Int.not_lt.2 (Int.natCast_nonneg _))) (qaC (decide_eq_true (by show(0:Int)<((q-top:Nat):Int);omega)) ?_))))
     simp only[e3,Int.toNat_natCast,List.length_set,hlen]
     have hck:(decide ((0:Int)≤(top:Int))&&decide ((top:Int)<(R:Int)))=true:=by simp only[Bool.and_eq_true,decide_eq_true_eq];omega
     have hckq:(decide ((0:Int)≤(q:Int))&&decide ((q:Int)<(R:Int)))=true:=by simp only[Bool.and_eq_true,decide_eq_true_eq];omega
     exact qan hckq (qae (qa6 hqR) (qan hck (qae (qa6 htR) (qan hck (qan hckq (qaa (qim (w64 (0-det)) p hp.1) h'))))))
 obtain⟨det',h⟩:=key W 0 1 (by omega)
 refine⟨det',qal ?_⟩
 simp only[run_Z27,Z27.ev]
 exact Ev.start (p:=fun φ n=>Z27.l0 (mkR (run E (φ 0))) (φ 0) n (W:Int) p 1 (W:Int) 0 [] (qaA A R W)=_) 1 h (fun _ _ _ h=>h)
end VeT
open Go Go.Proofs Ve
namespace VeT
theorem qhQ{i W j:Nat}(h:i*W+j≤4611686018427387904):w64 (w64 ((i:Int)*(W:Int))+(j:Int))=((i*W+j:Nat):Int):=by
 rw[qbp,qaj (n:=((i*W:Nat):Int)) (by omega) (by omega),qaj (by omega) (by omega)];omega
theorem qdO{A:Ent}{R W i j:Nat}(hi:i<R)(hj:j<W)(hRW:R*W≤1048576):(decide ((0:Int)≤((i*W+j:Nat):Int))&&decide (((i*W+j:Nat):Int)<((qat A W R).length:Int)))=true∧(qat A W R)[i*W+j]? = some (A i j):=by
 have:=qga hi hj
 refine⟨?_,qbv hi hj⟩
 simp only[Bool.and_eq_true,decide_eq_true_eq,qaz];omega
theorem qet(p:Int)(R W:Nat)(cells:Sim)(hp:2≤p∧p≤251)(hR:R≤1048576)(hW:W≤1048576)(hRW:R*W≤1048576)(hl:cells.length=R*W)(he:qaR cells p) :
    ∃ det:Int,Ret E n_Z110 [dM (p,(R:Int),(W:Int),cells,())] ⟨o_Z110,(p,(R:Int),(W:Int),qat (elS p R (qb2 cells W) W).1 W R,pvL (elS p R (qb2 cells W) W).2,det,())⟩:=by
  generalize hMt:(p,(R:Int),(W:Int),cells,())=M
  have M1:M.1=p:=by rw[← hMt]
  have M2:M.2.1=(R:Int):=by rw[← hMt]
  have M3:M.2.2.1=(W:Int):=by rw[← hMt]
  have M4:M.2.2.2.1=cells:=by rw[← hMt]
  have hA:=qcz he hl
  have hfl:=qeQ hl
  generalize qb2 cells W=A at hA hfl
  let G:Int→Option Dv:=fun det=>some ⟨o_Z110,(p,(R:Int),(W:Int),qat (elS p R A W).1 W R,pvL (elS p R A W).2,det,())⟩
  -- a column where no row is left
  have none_of:∀ c,(elS p R A c).2.length=R→elS p R A (c+1)=elS p R A c:=fun c h=>by
    show elP p R c (elS p R A c)=_
    rw[elP,h,Nat.sub_self];rfl
  have stay:∀ d c,c+d=W→(elS p R A c).2.length=R→elS p R A W=elS p R A c:=by
    intro d
    induction d with
    | zero=>intro c hc _;rw[show c=W by omega]
    | succ d ih =>
      intro c hc h
      have e:=none_of c h
      rw[ih (c+1) (by omega) (by rw[e];exact h),e]
  have key:∀ d c det,c+d=W→∃ det':Int,Ev fun φ=>Z110.l1 (mkR (run E (φ 0))) (φ 0) (φ 1) M p (W:Int) det ((elS p R A c).2.length:Int) (c:Int) 0 0 0 p (R:Int) (W:Int) (pvL (elS p R A c).2) (qat (elS p R A c).1 W R)=G det':=by
    intro d
    induction d with
    | zero =>
      intro c det hc
      obtain rfl:c=W:=by omega
      refine⟨det,Ev.round 1 (L:=fun φ n=>Z110.l1 (mkR (run E (φ 0))) (φ 0) n M p (c:Int) det ((elS p R A c).2.length:Int) (c:Int) 0 0 0 p (R:Int) (c:Int) (pvL (elS p R A c).2) (qat (elS p R A c).1 c R)) ?_ (fun _ _ _=>rfl)⟩
      simp only[Z110.l1_succ _ qaf,Z110.j2_eq _ qaf,cond_false]
      exact qaE (decide_eq_false (by omega)) qam
    | succ d ih =>
      intro c det hcd
      have hc:c<W:=by omega
      obtain⟨hB,hpl,hpc,_⟩:=qd7 hp.1 hA c
      have hstep:elS p R A (c+1)=elP p R c (elS p R A c):=rfl
      by_cases hfull:(elS p R A c).2.length=R
      · refine⟨det,Ev.round 1 (L:=fun φ n=>Z110.l1 (mkR (run E (φ 0))) (φ 0) n M p (W:Int) det ((elS p R A c).2.length:Int) (c:Int) 0 0 0 p (R:Int) (W:Int) (pvL (elS p R A c).2) (qat (elS p R A c).1 W R)) ?_ (fun _ _ _=>rfl)⟩
        simp only[Z110.l1_succ _ qaf,M2,hfull,show decide ((R:Int)<(R:Int))=false from decide_eq_false (by omega),Z110.j2_eq _ qaf,cond_false]
        refine qaC (decide_eq_true (by omega)) (qap ?_)
        show _=some _
        rw[stay (d+1) c hcd hfull]
      · have htR:(elS p R A c).2.length<R:=by omega
        generalize hS:elS p R A c=S at hB hpl hpc hstep hfull htR
        obtain⟨B0,pv⟩:=S
        simp only at hB hpl hpc hstep hfull htR
        generalize ht:pv.length=top at hpl hpc hfull htR
        -- what lies behind the exchange
        have back:∀ q,top≤q→q<R→B0 q c≠0→elS p R A (c+1)=(elF p c top (qck top q B0),pv++[c])→∀ det2,∃ det',Ev fun φ=>Z110.j6 (mkR (run E (φ 0))) (φ 0) (φ 1) M p (W:Int) det2 (top:Int) (c:Int) 0 0 0 p (R:Int) (W:Int) (pvL pv) (qat (qck top q B0) W R)=G det':=fun q hq1 hqR hq2 e det2=>by
          have hsw:=hB.sw htR hqR
          have hlead:1≤qck top q B0 top c∧qck top q B0 top c≤p-1:=by
            have h1:=hsw top c htR hc
            have h2:qck top q B0 top c=B0 q c:=by simp[qck]
            rw[← h2] at hq2
            omega
          generalize qck top q B0=B at hsw hlead e
          obtain⟨det',h'⟩:=ih (c+1) (Int.tmod (w64 (det2*B top c)) p) (by omega)
          rw[e] at h'
          simp only at h'
          rw[qkj,List.length_append,List.length_singleton,ht] at h'
          have hNin:∀ j,0≤elN p c top B j∧elN p c top B j≤p-1:=fun j=>qcm hp.1
          have hinv:=qm1 (a:=B top c) (p:=p) hp.1
          have hinvR:=qhS (B top c) p hp ⟨by omega,hlead.2⟩
          have hidx:∀ i j,i<R→j<W→i*W+j≤4611686018427387904:=fun i j hi hj=>by have:=qga hi hj;omega
          refine⟨det',?_⟩
          simp only[Z110.j6_eq _ qaf,qhQ (hidx top c htR hc),Int.toNat_natCast]
          obtain⟨k1,k2⟩:=qdO (A:=B) htR hc hRW
          refine qan k1 (qae k2 (qan (by simp;omega) (qaa hinvR ?_)))
          generalize Int.tmod (w64 (det2*B top c)) p=D at h' ⊢
          -- the loop that scales the row
          let N:Nat→Ent:=fun n i j=>if i=top∧j<n then elN p c top B j else B i j
          have hN0:qat (N 0) W R=qat B W R:=qaG fun i j _ _=>by simp[N]
          have hNW:qat (N W) W R=qat (elM p c top B) W R:=qaG fun i j _ hj=>by
            simp only[N,elM,hj,and_true]
          rw[← hN0]
          refine Ev.start (p:=fun φ n=>Z110.l7 (mkR (run E (φ 0))) (φ 0) (φ 1) n M p (W:Int) D (top:Int) (c:Int) (qgl (B top c) p) 0 0 0 0 p (R:Int) (W:Int) (pvL pv) (qat (N 0) W R)=_) 2 ?_ (fun _ _ _ h=>h)
          refine qas 2 (L:=fun φ n j o=>Z110.l7 (mkR (run E (φ 0))) (φ 0) (φ 1) n M p (W:Int) D (top:Int) (c:Int) (qgl (B top c) p) j 0 0 0 p (R:Int) (W:Int) (pvL pv) o) (len:=W) (fun j=>qat (N j) W R) (fun _ _ _ _ _=>rfl) (fun j r hj ih2=>?_) ?_
          · simp only[Z110.l7_succ _ qaf,qhQ (hidx top j htR hj),Int.toNat_natCast]
            obtain⟨k1,k2⟩:=qdO (A:=N j) htR hj hRW
            have hNj:N j top j=B top j:=by simp[N]
            rw[hNj] at k2
            have hb:=hsw top j htR hj
            have ev:=qpZ (x:=B top j) (y:=qgl (B top c) p) (p:=p) (by omega) (by omega) hp
            have hset:(qat (N j) W R).set (top*W+j) (B top j*qgl (B top c) p%p)=qat (N (j+1)) W R:=by
              rw[qfk htR hj]
              refine qaG fun k l _ _=>?_
              simp only[N]
              by_cases h1:k=top
              · subst h1
                by_cases h2:l=j
                · subst h2;simp[elN]
                · simp only[true_and,h2,if_false,and_false]
                  by_cases h3:l<j
                  · rw[if_pos h3,if_pos (by omega)]
                  · rw[if_neg h3,if_neg (by omega)]
              · simp[h1]
            refine qaC (decide_eq_true (by omega)) (qan k1 (qae k2 (qan (by simp;omega) (qan k1 ?_))))
            simp only[ev]
            rw[qah (by omega),hset];exact ih2
          · simp only[Z110.l7_succ _ qaf]
            refine qaE (decide_eq_false (by omega)) ?_
            rw[hNW]
            -- the loop over the rows
            let K:Nat→Ent:=fun n i j=>if i<n then elF p c top B i j else elM p c top B i j
            have hK0:qat (K 0) W R=qat (elM p c top B) W R:=qaG fun i j _ _=>by simp[K]
            have hKR:qat (K R) W R=qat (elF p c top B) W R:=qaG fun i j hi _=>by simp[K,hi]
            rw[← hK0]
            refine Ev.start (p:=fun φ n=>Z110.l8 (mkR (run E (φ 0))) (φ 0) (φ 1) n M p (W:Int) D (top:Int) (c:Int) 0 0 0 0 p (R:Int) (W:Int) (pvL pv) (qat (K 0) W R)=_) 3 ?_ (fun _ _ _ h=>h)
            refine qas 3 (L:=fun φ n i o=>Z110.l8 (mkR (run E (φ 0))) (φ 0) (φ 1) n M p (W:Int) D (top:Int) (c:Int) i 0 0 0 p (R:Int) (W:Int) (pvL pv) o) (len:=R) (fun i=>qat (K i) W R) (fun _ _ _ _ _=>rfl) (fun i r hi ih2=>?_) ?_
            · simp only[Z110.l8_succ _ qaf,M2,qhQ (hidx i c hi hc),Int.toNat_natCast]
              obtain⟨k1,k2⟩:=qdO (A:=K i) hi hc hRW
              refine qaC (decide_eq_true (by omega)) (qan k1 (qae k2 ?_))
              by_cases hit:i=top
              · subst hit
                refine qaC (by simp) ?_
                simp only[Z110.j9_eq _ qaf,cond_true]
                have hsame:qat (K (i+1)) W R=qat (K i) W R:=qaG fun k j _ _=>by
                  simp only[K]
                  by_cases h1:k=i
                  · subst h1;simp[elF,elM]
                  · by_cases h2:k<i
                    · rw[if_pos (by omega),if_pos h2]
                    · rw[if_neg (by omega),if_neg h2]
                rw[hsame] at ih2
                rw[qah (by omega)];exact ih2
              · have hM:∀ j,K i i j=B i j:=fun j=>by simp[K,elM,hit]
                rw[hM]
                have hBi:=hsw i c hi hc
                refine qaE (by simp;omega) ?_
                by_cases hz:B i c=0
                · simp only[hz,beq_self_eq_true,Z110.j9_eq _ qaf,cond_true]
                  have hsame:qat (K (i+1)) W R=qat (K i) W R:=qaG fun k j _ _=>by
                    simp only[K]
                    by_cases h1:k=i
                    · subst h1;simp[elF,elM,hit,hz]
                    · by_cases h2:k<i
                      · rw[if_pos (by omega),if_pos h2]
                      · rw[if_neg (by omega),if_neg h2]
                  rw[hsame] at ih2
                  rw[qah (by omega)];exact ih2
                · have hne:(B i c==0)=false:=by simpa using hz
                  simp only[hne,Z110.j9_eq _ qaf,cond_false]
                  let Q:Nat→Ent:=fun n k j=>if k=i∧j<n then elF p c top B i j else K i k j
                  have hQ0:qat (Q 0) W R=qat (K i) W R:=qaG fun k j _ _=>by simp[Q]
                  have hQW:qat (Q W) W R=qat (K (i+1)) W R:=qaG fun k j _ hj=>by
                    simp only[Q,K,hj,and_true]
                    by_cases h1:k=i
                    · subst h1;simp
                    · by_cases h2:k<i
                      · rw[if_neg h1,if_pos h2,if_pos (by omega)]
                      · rw[if_neg h1,if_neg h2,if_neg (by omega)]
                  rw[← hQ0]
                  refine Ev.start (p:=fun φ n=>Z110.l10 (mkR (run E (φ 0))) (φ 0) (φ 1) (φ 3) n M p (W:Int) D (top:Int) (c:Int) (i:Int) (B i c) 0 0 0 0 p (R:Int) (W:Int) (pvL pv) (qat (Q 0) W R)=_) 4 ?_ (fun _ _ _ h=>h)
                  refine qas 4 (L:=fun φ n j o=>Z110.l10 (mkR (run E (φ 0))) (φ 0) (φ 1) (φ 3) n M p (W:Int) D (top:Int) (c:Int) (i:Int) (B i c) j 0 0 0 p (R:Int) (W:Int) (pvL pv) o) (len:=W) (fun j=>qat (Q j) W R) (fun _ _ _ _ _=>rfl) (fun j r2 hj ih3=>?_) ?_
                  · simp only[Z110.l10_succ _ qaf,qhQ (hidx i j hi hj),qhQ (hidx top j htR hj),Int.toNat_natCast]
                    obtain⟨k1,k2⟩:=qdO (A:=Q j) hi hj hRW
                    obtain⟨k3,k4⟩:=qdO (A:=Q j) htR hj hRW
                    have q1:Q j i j=B i j:=by simp only[Q,Nat.lt_irrefl,and_false,if_false];exact hM j
                    have q2:Q j top j=elN p c top B j:=by
                      have:¬ top=i:=fun e=>hit e.symm
                      simp[Q,K,this,elF,elM]
                    rw[q1] at k2
                    rw[q2] at k4
                    have hbij:=hsw i j hi hj
                    have hnj:=hNin j
                    have hm:=qfS (x:=B i c) (y:=elN p c top B j) (by omega) (by omega)
                    have e1:w64 (B i c*elN p c top B j)=B i c*elN p c top B j:=qaj (by omega) (by omega)
                    have e2:w64 (B i j-B i c*elN p c top B j)=B i j-B i c*elN p c top B j:=qaj (by omega) (by omega)
                    have e3:qpp (B i j-B i c*elN p c top B j) p=elF p c top B i j:=by
                      rw[qkN hp (by omega)]
                      unfold elF
                      rw[if_neg hit,if_pos hz]
                      have:B i j+(p-B i c)*elN p c top B j=B i j-B i c*elN p c top B j+p*elN p c top B j:=by rw[Int.sub_mul];omega
                      rw[this,Int.add_mul_emod_self_left]
                    have hmod:=qib (B i j-B i c*elN p c top B j) p hp.1
                    rw[e3] at hmod
                    have hset:(qat (Q j) W R).set (i*W+j) (elF p c top B i j)=qat (Q (j+1)) W R:=by
                      rw[qfk hi hj]
                      refine qaG fun k l _ _=>?_
                      simp only[Q]
                      by_cases h1:k=i
                      · subst h1
                        by_cases h2:l=j
                        · subst h2;simp
                        · simp only[true_and,h2,if_false,and_false]
                          by_cases h3:l<j
                          · rw[if_pos h3,if_pos (by omega)]
                          · rw[if_neg h3,if_neg (by omega)]
                      · simp[h1]
                    refine qaC (decide_eq_true (by omega)) (qan k1 (qae k2 (qan k3 (qae k4 ?_))))
                    simp only[e1,e2]
                    refine qaa hmod (qan k1 ?_)
                    rw[qah (by omega)]
                    rw[← hset] at ih3
                    exact ih3
                  · simp only[Z110.l10_succ _ qaf]
                    refine qaE (decide_eq_false (by omega)) ?_
                    rw[qah (by omega),hQW];exact ih2
            · simp only[Z110.l8_succ _ qaf,M2]
              refine qaE (decide_eq_false (by omega)) (qan (by simp only[qaI,List.length_cons,List.length_nil,decide_eq_true_eq];omega) ?_)
              rw[qah (by omega),qah (by omega),hKR]
              exact h'
        have hidx:∀ i j,i<R→j<W→i*W+j≤4611686018427387904:=fun i j hi hj=>by have:=qga hi hj;omega
        -- the search for the row
        have search:∀ rs:Nat→Option Dv,∀ rn:Option Dv,(∀ q,top≤q→q<R→B0 q c≠0→(∀ i,top≤i→i<q→¬ B0 i c≠0)→Ev fun φ=>Z110.j4 (mkR (run E (φ 0))) (φ 0) (φ 1) (φ 2) M p (W:Int) det (top:Int) (c:Int) (q:Int) false 0 0 0 p (R:Int) (W:Int) (pvL pv) (qat B0 W R)=rs q) →
            ((∀ i,top≤i→i<R→¬ B0 i c≠0)→Ev fun φ=>Z110.j4 (mkR (run E (φ 0))) (φ 0) (φ 1) (φ 2) M p (W:Int) det (top:Int) (c:Int) (R:Int) false 0 0 0 p (R:Int) (W:Int) (pvL pv) (qat B0 W R)=rn) →
            Ev fun φ=>Z110.l3 (mkR (run E (φ 0))) (φ 0) (φ 1) (φ 0) M p (W:Int) det (top:Int) (c:Int) (top:Int) 0 0 0 p (R:Int) (W:Int) (pvL pv) (qat B0 W R)=orN rs rn (qbi (fun i=>B0 i c≠0) top (R-top)):=fun rs rn hs hn=>by
          refine Ev.start (p:=fun φ n=>Z110.l3 (mkR (run E (φ 0))) (φ 0) (φ 1) n M p (W:Int) det (top:Int) (c:Int) (top:Int) 0 0 0 p (R:Int) (W:Int) (pvL pv) (qat B0 W R)=_) 2 ?_ (fun _ _ _ h=>h)
          -- the first one is kept in mind by the number of the round
          have go:∀ d a,top≤a→a+d=R→(∀ i,top≤i→i<a→¬ B0 i c≠0)→Ev fun φ=>Z110.l3 (mkR (run E (φ 0))) (φ 0) (φ 1) (φ 2) M p (W:Int) det (top:Int) (c:Int) (a:Int) 0 0 0 p (R:Int) (W:Int) (pvL pv) (qat B0 W R)=orN rs rn (qbi (fun i=>B0 i c≠0) a d):=by
            intro d
            induction d with
            | zero =>
              intro a ha hk hno
              obtain rfl:a=R:=by omega
              refine Ev.round 2 (L:=fun φ n=>Z110.l3 (mkR (run E (φ 0))) (φ 0) (φ 1) n M p (W:Int) det (top:Int) (c:Int) (a:Int) 0 0 0 p (a:Int) (W:Int) (pvL pv) (qat B0 W a)) ?_ (fun _ _ _=>rfl)
              simp only[Z110.l3_succ _ qaf,M2]
              exact qaE (decide_eq_false (by omega)) (hn hno)
            | succ d ih3 =>
              intro a ha hk hno
              have haR:a<R:=by omega
              refine Ev.round 2 (L:=fun φ n=>Z110.l3 (mkR (run E (φ 0))) (φ 0) (φ 1) n M p (W:Int) det (top:Int) (c:Int) (a:Int) 0 0 0 p (R:Int) (W:Int) (pvL pv) (qat B0 W R)) ?_ (fun _ _ _=>rfl)
              simp only[Z110.l3_succ _ qaf,M2,qhQ (hidx a c haR hc),Int.toNat_natCast]
              obtain⟨k1,k2⟩:=qdO (A:=B0) haR hc hRW
              refine qaC (decide_eq_true (by omega)) (qan k1 (qae k2 ?_))
              rw[qbi]
              by_cases hz:B0 a c=0
              · rw[if_neg (by simpa using hz)]
                simp only[hz,beq_self_eq_true,Z110.j4_eq _ qaf,cond_true]
                rw[qah (by omega)]
                refine ih3 (a+1) (by omega) (by omega) fun i h1 h2=>?_
                by_cases e:i=a
                · subst e;simpa using hz
                · exact hno i h1 (by omega)
              · rw[if_pos hz]
                have hne:(B0 a c==0)=false:=by simpa using hz
                simp only[hne]
                exact hs a ha haR hz hno
          exact go (R-top) top (Nat.le_refl _) (by omega) fun i h1 h2=>by omega
        have enter:∀ r,(Ev fun φ=>Z110.l3 (mkR (run E (φ 0))) (φ 0) (φ 1) (φ 0) M p (W:Int) det (top:Int) (c:Int) (top:Int) 0 0 0 p (R:Int) (W:Int) (pvL pv) (qat B0 W R)=r)→Ev fun φ=>Z110.l1 (mkR (run E (φ 0))) (φ 0) (φ 1) M p (W:Int) det (top:Int) (c:Int) 0 0 0 p (R:Int) (W:Int) (pvL pv) (qat B0 W R)=r:=fun r hr=>by
          refine Ev.round 1 (L:=fun φ n=>Z110.l1 (mkR (run E (φ 0))) (φ 0) n M p (W:Int) det (top:Int) (c:Int) 0 0 0 p (R:Int) (W:Int) (pvL pv) (qat B0 W R)) ?_ (fun _ _ _=>rfl)
          simp only[Z110.l1_succ _ qaf,M2,show decide ((top:Int)<(R:Int))=true from decide_eq_true (by omega),Z110.j2_eq _ qaf,cond_true]
          exact qaC (decide_eq_true (by omega)) hr
        cases hf:qbi (fun i=>B0 i c≠0) top (R-top) with
        | none =>
          have e:elS p R A (c+1)=(B0,pv):=by rw[hstep,elP];simp only[ht,hf]
          obtain⟨det',h'⟩:=ih (c+1) det (by omega)
          rw[e] at h'
          simp only[ht] at h'
          refine⟨det',enter _ ?_⟩
          have:=search (fun _=>G det') (G det') (fun q h1 h2 h3 _=>absurd h3 (qcK hf q h1 (by omega))) fun _=>by
            simp only[Z110.j4_eq _ qaf,cond_false,M2]
            refine qaC (by simp) ?_
            rw[qah (by omega)];exact h'
          rw[hf] at this
          exact this
        | some q =>
          have hq:=qcb hf
          have hqR:q<R:=by omega
          have e:elS p R A (c+1)=(elF p c top (qck top q B0),pv++[c]):=by rw[hstep,elP];simp only[ht,hf]
          by_cases hqt:q=top
          · subst hqt
            obtain⟨det',h'⟩:=back q (Nat.le_refl _) hqR hq.2.2 e det
            have hself:qat (qck q q B0) W R=qat B0 W R:=qaG fun i j _ _=>by
              unfold qck
              by_cases h:i=q
              · subst h;simp
              · simp[h]
            rw[hself] at h'
            refine⟨det',enter _ ?_⟩
            have:=search (fun _=>G det') (G det') (fun q' h1 h2 h3 h4=>by
              obtain rfl:q'=q:=Classical.byContradiction fun hne=>h4 q (Nat.le_refl _) (by omega) hq.2.2
              simp only[Z110.j4_eq _ qaf,cond_false,M2]
              exact qaE (by simp;omega) (qaE (by simp) h')) fun hno=>absurd hq.2.2 (hno q (Nat.le_refl _) hqR)
            rw[hf] at this
            exact this
          · obtain⟨det',h'⟩:=back q hq.1 hqR hq.2.2 e (w64 (p-det))
            refine⟨det',enter _ ?_⟩
            have:=search (fun _=>G det') (G det') (fun q' h1 h2 h3 h4=>by
              obtain rfl:q'=q:=by
                rcases Nat.lt_trichotomy q' q with h | h | h
                · exact absurd h3 (qft hf q' h1 h)
                · exact h
                · exact absurd hq.2.2 (h4 q hq.1 h)
              simp only[Z110.j4_eq _ qaf,cond_false,M2]
              refine qaE (by simp;omega) (qaC (by simp;omega) ?_)
              -- the loop that exchanges the rows
              let X:Nat→Ent:=fun n i j=>if j<n then qck top q' B0 i j else B0 i j
              have hX0:qat (X 0) W R=qat B0 W R:=qaG fun i j _ _=>by simp[X]
              have hXW:qat (X W) W R=qat (qck top q' B0) W R:=qaG fun i j _ hj=>by simp[X,hj]
              rw[← hX0]
              refine Ev.start (p:=fun φ n=>Z110.l5 (mkR (run E (φ 0))) (φ 0) (φ 1) n M p (W:Int) (w64 (p-det)) (top:Int) (c:Int) (q':Int) 0 0 0 0 p (R:Int) (W:Int) (pvL pv) (qat (X 0) W R)=_) 3 ?_ (fun _ _ _ h=>h)
              refine qas 3 (L:=fun φ n j o=>Z110.l5 (mkR (run E (φ 0))) (φ 0) (φ 1) n M p (W:Int) (w64 (p-det)) (top:Int) (c:Int) (q':Int) j 0 0 0 p (R:Int) (W:Int) (pvL pv) o) (len:=W) (fun j=>qat (X j) W R) (fun _ _ _ _ _=>rfl) (fun j r hj ih3=>?_) ?_
              · simp only[Z110.l5_succ _ qaf,qhQ (hidx q' j hqR hj),qhQ (hidx top j htR hj),Int.toNat_natCast,List.length_set]
                obtain⟨k1,k2⟩:=qdO (A:=X j) hqR hj hRW
                obtain⟨k3,k4⟩:=qdO (A:=X j) htR hj hRW
                have x1:X j q' j=B0 q' j:=by simp[X]
                have x2:X j top j=B0 top j:=by simp[X]
                rw[x1] at k2
                rw[x2] at k4
                have hset:((qat (X j) W R).set (q'*W+j) (B0 top j)).set (top*W+j) (B0 q' j)=qat (X (j+1)) W R:=by
                  rw[qfk hqR hj,qfk htR hj]
                  refine qaG fun k l _ _=>?_
                  simp only[X]
                  by_cases hl:l=j
                  · subst hl
                    by_cases hk1:k=top
                    · subst hk1;simp[qck]
                    · by_cases hk2:k=q'
                      · subst hk2;simp[qck,hk1]
                      · simp[qck,hk1,hk2]
                  · simp only[hl,and_false,if_false]
                    by_cases h3:l<j
                    · rw[if_pos h3,if_pos (by omega)]
                    · rw[if_neg h3,if_neg (by omega)]
                refine qaC (decide_eq_true (by omega)) (qan k1 (qae k2 (qan k3 (qae k4 (qan k1 (qan k3 ?_))))))
                rw[qah (by omega),hset];exact ih3
              · simp only[Z110.l5_succ _ qaf]
                refine qaE (decide_eq_false (by omega)) ?_
                rw[hXW];exact h') fun hno=>absurd hq.2.2 (hno q hq.1 hqR)
            rw[hf] at this
            exact this
  obtain⟨det',h⟩:=key W 0 1 (by omega)
  refine⟨det',qal ?_⟩
  have h0:qat (elS p R A 0).1 W R=cells:=hfl
  rw[h0] at h
  simp only[run_Z110,Z110.ev,Z110.j0_eq _ qaf,M1,M2,M3,M4]
  have own:=qde cells (by omega)
  have st:=Ev.start (p:=fun φ n=>Z110.l1 (mkR (run E (φ 0))) (φ 0) n M p (W:Int) 1 0 0 0 0 0 p (R:Int) (W:Int) [] cells=G det') 1 h (fun _ _ _ h=>h)
  exact qeB (qaa own st) (qaa own st)
end VeT
open Go Go.Proofs Ve
namespace VeT
theorem qmM{cells:Sim}{R C i:Nat}(hl:cells.length=R*C)(hi:i<R):(cells.take ((i+1)*C)).drop (i*C)=(List.range C).map (qb2 cells C i):=by
 have h:=qj2 (f:=qb2 cells C) (C:=C) hi
 rw[qeQ hl] at h
 exact h
theorem qkL(p:Int)(R C:Nat)(cells:Sim)(hl:cells.length=R*C)(hR:R≤1048576)(hC:C≤1048576)(hRC:R*C≤1048576):Ret E n_Z53 [dI p,dI (R:Int),dI (C:Int),dL cells] ⟨o_Z53,(qaA (qb2 cells C) R C,())⟩:=by
 refine qal ?_
 simp only[run_Z53,Z53.ev]
 refine Ev.start (p:=fun φ n=>Z53.l0 (mkR (run E (φ 0))) (φ 0) n (R:Int) 0 p (R:Int) (C:Int) cells []=_) 1 ?_ (fun _ _ _ h=>h)
 refine qas 1 (L:=fun φ n k a=>Z53.l0 (mkR (run E (φ 0))) (φ 0) n (R:Int) k p (R:Int) (C:Int) cells a) (len:=R) (fun k=>qaA (qb2 cells C) k C) (fun _ _ _ _ _=>rfl) (fun k r hk ih=>?_) ?_
 ·simp only[Z53.l0_succ _ qaf]
  have hle:(k+1)*C≤R*C:=Nat.mul_le_mul_right _ hk
  have e:qaA (qb2 cells C) (k+1) C=qaA (qb2 cells C) k C++[(List.range C).map (qb2 cells C k)]:=by
   unfold qaA;rw[List.range_succ,List.map_append];rfl
  rw[e,← qmM hl hk] at ih
  refine qaC (decide_eq_true (by omega)) (qaa (qeE p _ C cells k (by omega) (by omega) (by omega)) (qaa (qhi _ (by rw[List.length_drop,List.length_take];omega)) (qan (by simp[qax];omega) ?_)))
  rw[qah (by omega)];exact ih
 ·simp only[Z53.l0_succ _ qaf]
  exact qaE (decide_eq_false (by omega)) qam
def qp0(p:Int)(pv:List Nat)(F:Ent)(c n:Nat):St:=(List.range n).map fun i=>(pv.getD i 0,(0-F i c)%p)
def qi8(p:Int)(W:Nat)(pv:List Nat)(F:Ent)(c n:Nat):Sim:=qnK (qp0 p pv F c n) ((List.replicate W 0).set c 1)
open Classical in
noncomputable def qi1(p:Int)(W:Nat)(pv:List Nat)(F:Ent):Nat→List Sim
 | 0=>[]
 | c+1=>qi1 p W pv F c++if c∈pv then [] else [qi8 p W pv F c pv.length]
theorem qc9{p:Int}{W:Nat}{pv:List Nat}{F:Ent}{c n:Nat}:qi8 p W pv F c (n+1)=(qi8 p W pv F c n).set (pv.getD n 0) ((0-F n c)%p):=by
 unfold qi8 qp0
 rw[List.range_succ,List.map_append,qkA];rfl
theorem qbJ{p:Int}{W:Nat}{pv:List Nat}{F:Ent}{c n:Nat}:(qi8 p W pv F c n).length=W:=by
 unfold qi8;rw[qkM,List.length_set,List.length_replicate]
theorem qdl{p:Int}{W:Nat}{pv:List Nat}{F:Ent}:∀ {n:Nat},(qi1 p W pv F n).length≤n
 | 0=>by simp[qi1]
 | n+1=>by
  have:=qdl (p:=p) (W:=W) (pv:=pv) (F:=F) (n:=n)
  rw[qi1,List.length_append];split<;>simp<;>omega
theorem qk9{p:Int}{W:Nat}{pv:List Nat}{F:Ent}(hp:2≤p):∀ {n:Nat} {x:Sim},x∈qi1 p W pv F n→x.length=W∧qaR x p
 | 0,x,h=>by simp[qi1] at h
 | n+1,x,h=>by
  rw[qi1,List.mem_append] at h
  rcases h with h | h
  ·exact qk9 hp h
  ·split at h
   ·simp at h
   ·rw[List.mem_singleton] at h
    subst h
    refine⟨qbJ,qmg (fun y hy=>?_) fun q hq=>?_⟩
    ·rcases List.mem_or_eq_of_mem_set hy with hy | rfl
     ·rw[List.mem_replicate] at hy;omega
     ·omega
    ·obtain⟨i,_,rfl⟩:=List.mem_map.1 hq
     exact qcm hp
theorem qi2{l:List Nat}{c:Nat}:(c:Int)∈pvL l↔c∈l:=by
  unfold pvL
  rw[List.mem_map]
  exact ⟨fun ⟨a, h, e⟩ => by obtain rfl : a = c := by omega
                             exact h,fun h=>⟨c,h,rfl⟩⟩
theorem qhs{l:List Nat}{i:Nat}(hi:i<l.length):(pvL l)[i]? = some ((l.getD i 0:Nat):Int):=by
 unfold pvL
 rw[List.getElem?_map,List.getElem?_eq_getElem hi,qag hi];rfl
theorem qdp{l:List Nat}{i:Nat}(hi:i<l.length):l.getD i 0∈l:=by
 rw[qag hi];exact List.getElem_mem hi
noncomputable def qor(p:Int)(R W:Nat)(cells:Sim):List Sim:=qi1 p W (elS p R (qb2 cells W) W).2 (elS p R (qb2 cells W) W).1 W
theorem qmi(p:Int)(R W:Nat)(cells:Sim)(hp:2≤p∧p≤251)(hR:R≤1048576)(hW:W≤1048576)(hRW:R*W≤1048576)(hl:cells.length=R*W)(he:qaR cells p) :
  Ret E n_Z47 [dI p,dI (R:Int),dI (W:Int),dL cells] ⟨o_Z47,(qor p R W cells,())⟩:=by
 have hA:=qcz he hl
 obtain⟨det,hel⟩:=qe3 (qb2 cells W) R W p hp hR hW hA
 obtain⟨hF,hpl,hpc,hpv⟩:=qd7 hp.1 hA W
 refine qal ?_
 simp only[run_Z47,Z47.ev]
 refine qaa (qkL p R W cells hl hR hW hRW) (qaa hel ?_)
 unfold qor
 generalize elS p R (qb2 cells W) W=S at hF hpl hpc hpv
 obtain⟨F,pv⟩:=S
 simp only at hF hpl hpc hpv
 refine Ev.start (p:=fun φ n=>Z47.l0 (mkR (run E (φ 0))) (φ 0) n (pvL pv) (W:Int) 0 p (R:Int) (W:Int) cells [] (qaA F R W)=_) 1 ?_ (fun _ _ _ h=>h)
 refine qas 1 (L:=fun φ n c o=>Z47.l0 (mkR (run E (φ 0))) (φ 0) n (pvL pv) (W:Int) c p (R:Int) (W:Int) cells o (qaA F R W)) (len:=W) (fun c=>qi1 p W pv F c) (fun _ _ _ _ _=>rfl) (fun c r hc ih=>?_) ?_
 ·simp only[Z47.l0_succ _ qaf,Int.toNat_natCast,List.length_replicate]
  rw[qi1] at ih
  refine qaC (decide_eq_true (by omega)) (qaa (qj9 (pvL pv) (c:Int) (by rw[qaI];omega)) (qfs (fun h=>?_) fun h=>?_))
  ·rw[if_pos (qi2.1 (qa2.1 h)),List.append_nil] at ih
   rw[qah (by omega)];exact ih
  ·rw[if_neg (mt qi2.2 (qc6.1 h))] at ih
   refine qan (by simp only[Bool.and_eq_true,decide_eq_true_eq];omega) (qan (by simp only[Bool.and_eq_true,decide_eq_true_eq];omega) ?_)
   have hkl:=qdl (p:=p) (W:=W) (pv:=pv) (F:=F) (n:=c)
   generalize qi1 p W pv F c=K at ih hkl ⊢
   refine Ev.start (p:=fun φ n=>Z47.l1 (mkR (run E (φ 0))) (φ 0) (φ 1) n (pvL pv) (c:Int) (W:Int) (c:Int) (pvL pv) ((pvL pv).length:Int) 0 p (R:Int) (W:Int) cells ((List.replicate W 0).set c 1) K (qaA F R W)=_) 2 ?_ (fun _ _ _ h=>h)
   refine qas 2 (L:=fun φ n i x=>Z47.l1 (mkR (run E (φ 0))) (φ 0) (φ 1) n (pvL pv) (c:Int) (W:Int) (c:Int) (pvL pv) ((pvL pv).length:Int) i p (R:Int) (W:Int) cells x K (qaA F R W)) (len:=pv.length) (fun i=>qi8 p W pv F c i) (fun _ _ _ _ _=>rfl) (fun i q hi ih2=>?_) ?_
   ·simp only[Z47.l1_succ _ qaf,qaI,qax,Int.toNat_natCast,qbJ]
    have hiR:i<R:=by omega
    have hFi:=hF i c hiR hc
    have hpi:=hpv _ (qdp hi)
    have e0:w64 (0-F i c)=0-F i c:=qaj (by omega) (by omega)
    have hred:=qim (0-F i c) p hp.1
    rw[qkN hp (by omega)] at hred
    rw[qc9] at ih2
    simp only[qaI] at ih2
    refine qaC (decide_eq_true (by omega)) (qae (qbF.trans (qhs hi)) (qan (by simp only[Bool.and_eq_true,decide_eq_true_eq];omega) (qae (qa6 hiR) (qae (qbF.trans (qfN hc)) ?_))))
    simp only[e0,Int.toNat_natCast]
    refine qaa hred (qan (by simp only[Bool.and_eq_true,decide_eq_true_eq];omega) ?_)
    rw[qah (by omega)];exact ih2
   ·simp only[Z47.l1_succ _ qaf,qaI]
    refine qaE (decide_eq_false (by omega)) (qan (by simp only[List.length_cons,List.length_nil,decide_eq_true_eq];omega) ?_)
    rw[qah (by omega)];exact ih
 ·simp only[Z47.l0_succ _ qaf]
  exact qaE (decide_eq_false (by omega)) qam
theorem qiP(p:Int)(R W:Nat)(cells:Sim)(hp:2≤p∧p≤251)(hR:R≤1048576)(hW:W≤1048576)(hRW:R*W≤1048576)(hl:cells.length=R*W)(he:qaR cells p) :
  Ret E n_Z108 [dM (p,(R:Int),(W:Int),cells,())] ⟨o_Z108,(qor p R W cells,())⟩:=by
 have hA:=qcz he hl
 obtain⟨det,hel⟩:=qet p R W cells hp hR hW hRW hl he
 obtain⟨hF,hpl,hpc,hpv⟩:=qd7 hp.1 hA W
 refine qal ?_
 simp only[run_Z108,Z108.ev]
 refine qaa hel ?_
 unfold qor
 generalize elS p R (qb2 cells W) W=S at hF hpl hpc hpv
 obtain⟨F,pv⟩:=S
 simp only at hF hpl hpc hpv
 generalize hMt:(p,(R:Int),(W:Int),cells,())=M
 have M1:M.1=p:=by rw[← hMt]
 have M3:M.2.2.1=(W:Int):=by rw[← hMt]
 refine Ev.start (p:=fun φ n=>Z108.l0 (mkR (run E (φ 0))) (φ 0) n M (pvL pv) 0 p (R:Int) (W:Int) (qat F W R) []=_) 1 ?_ (fun _ _ _ h=>h)
 refine qas 1 (L:=fun φ n c o=>Z108.l0 (mkR (run E (φ 0))) (φ 0) n M (pvL pv) c p (R:Int) (W:Int) (qat F W R) o) (len:=W) (fun c=>qi1 p W pv F c) (fun _ _ _ _ _=>rfl) (fun c r hc ih=>?_) ?_
 ·simp only[Z108.l0_succ _ qaf,M3,Int.toNat_natCast,List.length_replicate]
  rw[qi1] at ih
  refine qaC (decide_eq_true (by omega)) (qaa (ql8 (pvL pv) (c:Int) (by rw[qaI];omega)) (qfs (fun h=>?_) fun h=>?_))
  ·rw[if_pos (qi2.1 (qa2.1 h)),List.append_nil] at ih
   rw[qah (by omega)];exact ih
  ·rw[if_neg (mt qi2.2 (qc6.1 h))] at ih
   refine qan (by simp only[Bool.and_eq_true,decide_eq_true_eq];omega) (qan (by simp only[Bool.and_eq_true,decide_eq_true_eq];omega) ?_)
   have hkl:=qdl (p:=p) (W:=W) (pv:=pv) (F:=F) (n:=c)
   generalize qi1 p W pv F c=K at ih hkl ⊢
   refine Ev.start (p:=fun φ n=>Z108.l1 (mkR (run E (φ 0))) (φ 0) (φ 1) n M (pvL pv) (c:Int) 0 p (R:Int) (W:Int) (qat F W R) K ((List.replicate W 0).set c 1)=_) 2 ?_ (fun _ _ _ h=>h)
   refine qas 2 (L:=fun φ n i x=>Z108.l1 (mkR (run E (φ 0))) (φ 0) (φ 1) n M (pvL pv) (c:Int) i p (R:Int) (W:Int) (qat F W R) K x) (len:=pv.length) (fun i=>qi8 p W pv F c i) (fun _ _ _ _ _=>rfl) (fun i q hi ih2=>?_) ?_
   ·have hiR:i<R:=by omega
    have hlt:=qga hiR hc
    simp only[Z108.l1_succ _ qaf,qaI,M1,M3,qhQ (show i*W+c≤4611686018427387904 by omega),qbJ]
    have hFi:=hF i c hiR hc
    have hpi:=hpv _ (qdp hi)
    have e0:w64 (0-F i c)=0-F i c:=qaj (by omega) (by omega)
    have hred:=qib (0-F i c) p hp.1
    rw[qkN hp (by omega)] at hred
    rw[qc9] at ih2
    refine qaC (decide_eq_true (by omega)) (qae (qbF.trans (qhs hi)) (qae (qbF.trans (qbv hiR hc)) ?_))
    simp only[e0,Int.toNat_natCast]
    refine qaa hred (qan (by simp only[Bool.and_eq_true,decide_eq_true_eq];omega) ?_)
    rw[qah (by omega)];exact ih2
   ·simp only[Z108.l1_succ _ qaf,qaI]
    refine qaE (decide_eq_false (by omega)) (qan (by simp only[List.length_cons,List.length_nil,decide_eq_true_eq];omega) ?_)
    rw[qah (by omega)];exact ih
 ·simp only[Z108.l0_succ _ qaf,M3]
  exact qaE (decide_eq_false (by omega)) qam
def Rws(p:Int)(W:Nat)(rows:List Sim):Prop:=∀ x∈rows,x.length=W∧qaR x p
theorem Rws.flat{p:Int}{W:Nat}{rows:List Sim}(h:Rws p W rows):rows.flatten.length=rows.length*W∧qaR rows.flatten p:=by
 induction rows with
 | nil=>exact⟨by simp,fun x hx=>by simp at hx⟩
 | cons r rows ih =>
  obtain⟨h1,h2⟩:=ih fun x hx=>h x (List.mem_cons_of_mem _ hx)
  obtain⟨h3,h4⟩:=h r List.mem_cons_self
  refine⟨by rw[List.flatten_cons,List.length_append,h1,h3,List.length_cons,Nat.add_mul];omega,fun x hx=>?_⟩
  rw[List.flatten_cons,List.mem_append] at hx
  rcases hx with hx | hx
  ·exact h4 x hx
  ·exact h2 x hx
end VeT
open Go Go.Proofs Ve
namespace VeT
def qmo(A:Ent)(b:Sim)(W:Nat):Ent:=fun i j=>if j=W then b.getD i 0 else A i j
theorem qkE{p:Int}{R W:Nat}{A:Ent}{b:Sim}(hA:EIn p R W A)(hb:qaR b p)(hl:b.length=R):EIn p R (W+1) (qmo A b W):=fun i j hi hj=>by
 unfold qmo
 split
 ·rw[qag (by omega)];exact hb _ (List.getElem_mem _)
 ·exact hA i j hi (by omega)
theorem qn6{A:Ent}{b:Sim}{W i:Nat}:(List.range (W+1)).map (qmo A b W i)=(List.range W).map (A i)++[b.getD i 0]:=by
  rw[List.range_succ,List.map_append]
  congr 1
  · exact List.map_congr_left fun j hj=>by
      have:=List.mem_range.1 hj
      unfold qmo;rw[if_neg (by omega)]
  · simp[qmo]
def qf5(cells b:Sim)(W R:Nat):Sim:=qat (qmo (qb2 cells W) b W) (W+1) R
theorem qcu{f:Ent}{W R i j:Nat}(hi:i<R)(hj:j<W):qb2 (qat f W R) W i j=f i j:=by
 unfold qb2
 rw[List.getD_eq_getElem?_getD,qbv hi hj];rfl
def qmp(F:Ent)(W:Nat):List Nat→Nat→Sim→Option Sim
 | [],_,o=>some o
 | q::qs,i,o=>if q=W then none else qmp F W qs (i+1) (o.set q (F i W))
def qqu:Option Sim→Sim×Bool×Unit
 | some o=>(o,true,())
 | none=>([],false,())
noncomputable def qpk(p:Int)(R W:Nat)(cells b:Sim):Option Sim :=
 qmp (elS p R (qb2 (qf5 cells b W R) (W+1)) (W+1)).1 W (elS p R (qb2 (qf5 cells b W R) (W+1)) (W+1)).2 0 (List.replicate W 0)
theorem qgM(p:Int)(R W:Nat)(cells b:Sim)(hR:R≤1048576)(hW:W<1048576)(hRW:R*(W+1)≤1048576)(hl:cells.length=R*W)(hbl:b.length=R) :
  Ret E n_Z107 [dM (p,(R:Int),(W:Int),cells,()),dM (p,(R:Int),1,b,())] ⟨o_Z107,(p,(R:Int),((W+1:Nat):Int),qf5 cells b W R,())⟩:=by
 refine qal ?_
 simp only[run_Z107,Z107.ev,Z107.j0_eq _ qaf]
 rw[qah (by omega)]
 generalize hMt:(p,(R:Int),(W:Int),cells,())=M
 generalize hNt:(p,(R:Int),(1:Int),b,())=N
 have M2:M.2.1=(R:Int):=by rw[← hMt]
 have M3:M.2.2.1=(W:Int):=by rw[← hMt]
 have M4:M.2.2.2.1=cells:=by rw[← hMt]
 have N3:N.2.2.1=((1:Nat):Int):=by rw[← hNt];rfl
 have N4:N.2.2.2.1=b:=by rw[← hNt]
 have one:Ev fun φ=>Z107.l1 (mkR (run E (φ 0))) (φ 0) (φ 0) M N 0 0 0 0 p (R:Int) ((W+1:Nat):Int) []=some ⟨o_Z107,(p,(R:Int),((W+1:Nat):Int),qf5 cells b W R,())⟩:=by
  refine Ev.start (p:=fun φ n=>Z107.l1 (mkR (run E (φ 0))) (φ 0) n M N 0 0 0 0 p (R:Int) ((W+1:Nat):Int) []=_) 1 ?_ (fun _ _ _ h=>h)
  refine qas 1 (L:=fun φ n i o=>Z107.l1 (mkR (run E (φ 0))) (φ 0) n M N i 0 0 0 p (R:Int) ((W+1:Nat):Int) o) (len:=R) (fun i=>qat (qmo (qb2 cells W) b W) (W+1) i) (fun _ _ _ _ _=>rfl) (fun i r hi ih=>?_) ?_
  ·have hle:(i+1)*W≤R*W:=Nat.mul_le_mul_right _ hi
   have hle2:(i+1)*(W+1)≤R*(W+1):=Nat.mul_le_mul_right _ hi
   have e0:(i+1)*(W+1)=(i+1)*W+(i+1):=Nat.mul_succ _ _
   have e1:(i+1)*W=i*W+W:=Nat.succ_mul _ _
   have e2:i*(W+1)=i*W+i:=Nat.mul_succ _ _
   have e3:R*(W+1)=R*W+R:=Nat.mul_succ _ _
   have c1:w64 ((i:Int)*(W:Int))=((i*W:Nat):Int):=by rw[qbp];exact qaj (by omega) (by omega)
   have c2:w64 (((i+1:Nat):Int)*(W:Int))=(((i+1)*W:Nat):Int):=by rw[qbp];exact qaj (by omega) (by omega)
   have c3:w64 ((i:Int)*((1:Nat):Int))=(i:Int):=by rw[qbp,Nat.mul_one];exact qaj (by omega) (by omega)
   have c4:w64 (((i+1:Nat):Int)*((1:Nat):Int))=((i+1:Nat):Int):=by rw[qbp,Nat.mul_one];exact qaj (by omega) (by omega)
   have hr1:=qmM hl hi
   have hr2:(b.take (i+1)).drop i=[b.getD i 0]:=by
    rw[List.take_succ_eq_append_getElem (by omega),List.drop_append_of_le_length (by rw[List.length_take];omega),List.drop_of_length_le (by rw[List.length_take];omega),qag (by omega)];rfl
   have hfl:=qaz (f:=qmo (qb2 cells W) b W) (C:=W+1) (n:=i)
   simp only[Z107.l1_succ _ qaf,M2,M3,M4,N3,N4,qah (k:=i) (by omega),c1,c2,c3,c4,Int.toNat_natCast,hr1,hr2]
   rw[qat,qn6,← List.append_assoc] at ih
   refine qaC (decide_eq_true (by omega)) (qan (by simp only[Bool.and_eq_true,decide_eq_true_eq];omega) (qan (by simp only[List.length_map,List.length_range,decide_eq_true_eq];omega) (qan (by simp only[Bool.and_eq_true,decide_eq_true_eq];omega) (qan (by simp only[List.length_append,List.length_map,List.length_range,List.length_singleton,decide_eq_true_eq];omega) ih))))
  ·simp only[Z107.l1_succ _ qaf,M2]
   exact qaE (decide_eq_false (by omega)) qam
 exact qeB one one
theorem qjA(p:Int)(R W:Nat)(cells b:Sim)(hp:2≤p∧p≤251)(hR:R≤1048576)(hW:W<1048576)(hRW:R*(W+1)≤1048576)(hl:cells.length=R*W)(he:qaR cells p)(hbl:b.length=R)(hb:qaR b p) :
    Ret E n_Z111 [dM (p,(R:Int),(W:Int),cells,()),dL b] ⟨o_Z111,qqu (qpk p R W cells b)⟩:=by
  have hA0:=qcz he hl
  have hA1:=qkE hA0 hb hbl
  have hcl:(qf5 cells b W R).length=R*(W+1):=qaz
  have hA:EIn p R (W+1) (qb2 (qf5 cells b W R) (W+1)):=fun i j hi hj=>by
    unfold qf5;rw[qcu hi hj];exact hA1 i j hi hj
  have hce:qaR (qf5 cells b W R) p:=by
    unfold qf5
    intro x hx
    rw[← qcn] at hx
    obtain⟨row,hrow,hx⟩:=List.mem_flatten.1 hx
    obtain⟨i,hi,rfl⟩:=List.mem_map.1 hrow
    obtain⟨j,hj,rfl⟩:=List.mem_map.1 hx
    exact hA1 i j (List.mem_range.1 hi) (List.mem_range.1 hj)
  obtain⟨det,hel⟩:=qet p R (W+1) (qf5 cells b W R) hp hR (by omega) hRW hcl hce
  obtain⟨hF,hpl,hpc,hpv⟩:=qd7 hp.1 hA (W+1)
  unfold qpk
  refine qal ?_
  simp only[run_Z111,Z111.ev]
  refine qaa (qgM p R W cells b hR hW hRW hl hbl) (qaa hel (qan (by simp;omega) ?_))
  generalize elS p R (qb2 (qf5 cells b W R) (W+1)) (W+1)=S at hF hpl hpc hpv
  obtain⟨F,pv⟩:=S
  simp only at hF hpl hpc hpv
  simp only[Int.toNat_natCast]
  generalize hMt:(p,(R:Int),(W:Int),cells,())=M
  have M3:M.2.2.1=(W:Int):=by rw[← hMt]
  have key:∀ d i o,i+d=pv.length→o.length=W→Ev fun φ=>Z111.l0 (mkR (run E (φ 0))) (φ 0) (φ 1) M (pvL pv) (i:Int) p (R:Int) ((W+1:Nat):Int) (qf5 cells b W R) p (R:Int) ((W+1:Nat):Int) (qat F (W+1) R) o=some ⟨o_Z111,qqu (qmp F W (pv.drop i) i o)⟩:=by
    intro d
    induction d with
    | zero =>
      intro i o hi ho
      refine Ev.round 1 (L:=fun φ n=>Z111.l0 (mkR (run E (φ 0))) (φ 0) n M (pvL pv) (i:Int) p (R:Int) ((W+1:Nat):Int) (qf5 cells b W R) p (R:Int) ((W+1:Nat):Int) (qat F (W+1) R) o) ?_ (fun _ _ _=>rfl)
      simp only[Z111.l0_succ _ qaf,qaI]
      rw[List.drop_of_length_le (by omega)]
      exact qaE (decide_eq_false (by omega)) (qap rfl)
    | succ d ih =>
      intro i o hi ho
      have hil:i<pv.length:=by omega
      refine Ev.round 1 (L:=fun φ n=>Z111.l0 (mkR (run E (φ 0))) (φ 0) n M (pvL pv) (i:Int) p (R:Int) ((W+1:Nat):Int) (qf5 cells b W R) p (R:Int) ((W+1:Nat):Int) (qat F (W+1) R) o) ?_ (fun _ _ _=>rfl)
      have hiR:i<R:=by omega
      have hix0:i*(W+1)+W<R*(W+1):=qga hiR (Nat.lt_succ_self W)
      have hix:i*(W+1)+W≤4611686018427387904:=by omega
      simp only[Z111.l0_succ _ qaf,qaI,M3,qhQ hix,Int.toNat_natCast]
      have hq:=hpv _ (qdp hil)
      have hdrop:pv.drop i=pv.getD i 0::pv.drop (i+1):=by rw[List.drop_eq_getElem_cons hil,qag hil]
      refine qaC (decide_eq_true (by omega)) (qae (qbF.trans (qhs hil)) ?_)
      rw[hdrop,qmp]
      refine qfs (fun h=>qap ?_) fun h=>?_
      · have h : pv.getD i 0 = W := by have : ((pv.getD i 0 : Nat) : Int) = (W : Int) := by simpa using h
                                       omega
        rw[if_pos h];rfl
      · have h:pv.getD i 0≠W:=fun e=>by rw[e] at h;simp at h
        rw[if_neg h]
        refine qae (qbF.trans (qhs hil)) (qae (qbF.trans (qbv hiR (Nat.lt_succ_self W))) (qan (by simp only[Bool.and_eq_true,decide_eq_true_eq];omega) ?_))
        simp only[Int.toNat_natCast]
        rw[qah (by omega)]
        exact ih (i+1) _ (by omega) (by rw[List.length_set];exact ho)
  refine Ev.start (p:=fun φ n=>Z111.l0 (mkR (run E (φ 0))) (φ 0) n M (pvL pv) 0 p (R:Int) ((W+1:Nat):Int) (qf5 cells b W R) p (R:Int) ((W+1:Nat):Int) (qat F (W+1) R) (List.replicate W 0)=_) 1 ?_ (fun _ _ _ h=>h)
  exact key pv.length 0 (List.replicate W 0) (by omega) (by simp)
end VeT
open Go Go.Proofs Ve
namespace VeT
theorem qe7{c g h:Nat→Int}:∀ {n:Nat},qaF c (fun i=>g i+h i) n=qaF c g n+qaF c h n
 | 0=>rfl
 | n+1=>by simp only[qaF];rw[qe7,Int.mul_add];omega
theorem qed{k:Int}{c g:Nat→Int}:∀ {n:Nat},qaF c (fun i=>k*g i) n=k*qaF c g n
 | 0=>by simp[qaF]
 | n+1=>by simp only[qaF];rw[qed,Int.mul_add,← Int.mul_assoc,Int.mul_comm (c n) k,Int.mul_assoc]
theorem qbN{c:Nat→Int}:∀ {n:Nat},qaF c (fun _=>0) n=0
 | 0=>rfl
 | n+1=>by simp only[qaF];rw[qbN,Int.mul_zero];rfl
theorem qaJ{c g:Nat→Int}:∀ {n:Nat},qaF c g n=qaF g c n
 | 0=>rfl
 | n+1=>by simp only[qaF];rw[qaJ,Int.mul_comm]
theorem qhu{y c:Nat→Int}{A:Ent}{W:Nat}:∀ {R:Nat},qaF y (fun j=>qaF c (fun i=>A i j) R) W=qaF c (fun i=>qaF y (A i) W) R
 | 0=>qbN
 | R+1=>by
  simp only[qaF]
  rw[qe7,qhu,qed]
theorem qbU{p:Int}{c g h:Nat→Int}:∀ {n:Nat},(∀ i,i<n→g i%p=h i%p)→qaF c g n%p=qaF c h n%p
 | 0,_=>rfl
 | n+1,hgh=>by
  simp only[qaF]
  rw[Int.add_emod,qbU (n:=n) fun i hi=>hgh i (by omega),Int.mul_emod,hgh n (Nat.lt_succ_self n),← Int.mul_emod,← Int.add_emod]
theorem qaw{c d g h:Nat→Int}:∀ {n:Nat},(∀ i,i<n→c i=d i∧g i=h i)→qaF c g n=qaF d h n
 | 0,_=>rfl
 | n+1,e=>by simp only[qaF];rw[qaw (n:=n) fun i hi=>e i (by omega),(e n (Nat.lt_succ_self n)).1,(e n (Nat.lt_succ_self n)).2]
theorem Spn.orth{p:Int}{R W:Nat}{A:Ent}{x y:Nat→Int}(hy:∀ i,i<R→qaF y (A i) W%p=0)(hx:Spn p R W A x):qaF y x W%p=0:=by
 obtain⟨c,hc⟩:=hx
 rw[← qbU (p:=p) (c:=y) (g:=fun j=>qaF c (fun i=>A i j) R) (h:=x) hc,qhu,qbU (p:=p) (h:=fun _=>0) fun i hi=>by rw[hy i hi,Int.zero_emod],qbN,Int.zero_emod]
theorem qi3{y g:Nat→Int}{q:Nat}{v:Int}:∀ {n:Nat},q<n→qaF (fun j=>if j=q then v else y j) g n=qaF y g n+(v-y q)*g q
 | n+1,h=>by
  simp only[qaF]
  by_cases hq:q=n
  ·subst hq
   rw[if_pos rfl,qaw (d:=y) (h:=g) fun i hi=>⟨if_neg (by omega),rfl⟩,Int.sub_mul];omega
  ·rw[qi3 (by omega),if_neg (by omega)];omega
def Slv(p:Int)(R W:Nat)(A:Ent)(b:Nat→Int):Prop:=∃ y:Nat→Int,∀ i,i<R→qaF y (A i) W%p=b i%p
theorem qhd{F:Ent}{W:Nat}:∀ {qs:List Nat} {i:Nat} {o:Sim},qmp F W qs i o=none↔W∈qs
 | [],i,o=>by simp[qmp]
 | q::qs,i,o=>by
  unfold qmp
  split
  ·rename_i h;simp[h]
  ·rename_i h
   rw[qhd,List.mem_cons]
   exact⟨.inr,fun h'=>h'.resolve_left (fun e=>h e.symm)⟩
theorem qci{o:Sim}{q j:Nat}{v:Int}(hq:q<o.length):(o.set q v).getD j 0=if j=q then v else o.getD j 0:=by
 by_cases e:q=j
 ·subst e
  rw[if_pos rfl,qag (by rw[List.length_set];exact hq),List.getElem_set_self]
 ·rw[if_neg fun e2=>e e2.symm,List.getD_eq_getElem?_getD,List.getElem?_set_ne e,List.getD_eq_getElem?_getD]
theorem qoc{F:Ent}{W R:Nat}{pv:List Nat}(h1:∀ j,j<pv.length→pv.getD j 0<W)(hm:∀ i j,i<j→j<pv.length→pv.getD i 0<pv.getD j 0)(ho:∀ i j,i<R→j<pv.length→F i (pv.getD j 0)=if i=j then 1 else 0) :
  ∀ d n o y,n+d=pv.length→o.length=W→(∀ k,n≤k→k<pv.length→o.getD (pv.getD k 0) 0=0)→(∀ i,i<R→qaF (fun j=>o.getD j 0) (F i) W=if i<n then F i W else 0) →
   qmp F W (pv.drop n) n o=some y→∀ i,i<R→qaF (fun j=>y.getD j 0) (F i) W=if i<pv.length then F i W else 0:=by
 intro d
 induction d with
 | zero =>
  intro n o y hn ho2 _ hd h i hi
  rw[List.drop_of_length_le (by omega)] at h
  obtain rfl:=Option.some.inj h
  rw[show pv.length=n by omega];exact hd i hi
 | succ d ih =>
  intro n o y hn ho2 hz hd h i hi
  have hnl:n<pv.length:=by omega
  have hdrop:pv.drop n=pv.getD n 0::pv.drop (n+1):=by rw[List.drop_eq_getElem_cons hnl,qag hnl]
  have hq:=h1 n hnl
  have hget:∀(v:Int) (j:Nat),(o.set (pv.getD n 0) v).getD j 0=if j=pv.getD n 0 then v else o.getD j 0:=fun v j=>qci (by omega)
  rw[hdrop,qmp,if_neg (by omega)] at h
  refine ih (n+1) _ y (by omega) (by rw[List.length_set];exact ho2) (fun k hk hkl=>?_) (fun i hi=>?_) h i hi
  ·have:=hm n k (by omega) hkl
   rw[hget,if_neg (by omega)];exact hz k (by omega) hkl
  ·rw[qaw (d:=fun j=>if j=pv.getD n 0 then F n W else o.getD j 0) (h:=F i) fun j _=>⟨hget _ j,rfl⟩,qi3 hq,hd i hi,hz n (Nat.le_refl _) hnl,ho i n hi hnl]
   by_cases e:i=n
   ·subst e;simp
   ·rw[if_neg e,Int.mul_zero,Int.add_zero]
    by_cases e2:i<n
    ·rw[if_pos e2,if_pos (by omega)]
    ·rw[if_neg e2,if_neg (by omega)]
theorem qoq{p:Int}{R W:Nat}{cells b:Sim}(hp:Pr p)(hl:cells.length=R*W)(he:qaR cells p)(hbl:b.length=R)(hb:qaR b p) :
    (qpk p R W cells b≠none↔Slv p R W (qb2 cells W) (fun i=>b.getD i 0))∧∀ y,qpk p R W cells b=some y→∀ i,i<R→qaF (fun j=>y.getD j 0) (qb2 cells W i) W%p=b.getD i 0%p:=by
  have hA0:=qcz he hl
  have hA1:=qkE hA0 hb hbl
  have hA:EIn p R (W+1) (qb2 (qf5 cells b W R) (W+1)):=fun i j hi hj=>by
    unfold qf5;rw[qcu hi hj];exact hA1 i j hi hj
  have hent:∀ i j,i<R→j<W+1→qb2 (qf5 cells b W R) (W+1) i j=qmo (qb2 cells W) b W i j:=fun i j hi hj=>by unfold qf5;exact qcu hi hj
  obtain⟨hrf,heq⟩:=qfT hp hA (W+1) (Nat.le_refl _)
  unfold qpk
  generalize elS p R (qb2 (qf5 cells b W R) (W+1)) (W+1)=S at hrf heq
  obtain⟨F,pv⟩:=S
  simp only at hrf heq ⊢
  -- a solution beside -1 is what is orthogonal to the rows
  have aug:∀(y:Nat→Int) (G:Ent),∀ i,qaF (fun j=>if j=W then -1 else y j) (G i) (W+1)=qaF y (G i) W-G i W:=fun y G i=>by
    simp only[qaF]
    rw[if_pos trivial,qaw (d:=y) (h:=G i) fun j hj=>⟨if_neg (by omega),rfl⟩];omega
  have key:∀ y:Nat→Int,(∀ i,i<R→qaF y (qb2 cells W i) W%p=b.getD i 0%p)↔∀ i,i<R→(qaF y (F i) W-F i W)%p=0:=by
    intro y
    have e1:∀ i,i<R→(qaF (fun j=>if j=W then -1 else y j) (qb2 (qf5 cells b W R) (W+1) i) (W+1)=qaF y (qb2 cells W i) W-b.getD i 0):=fun i hi=>by
      rw[aug,qaw (d:=y) (h:=qb2 cells W i) fun j hj=>⟨rfl,by rw[hent i j hi (by omega)];unfold qmo;rw[if_neg (by omega)]⟩,hent i W hi (by omega)]
      unfold qmo;rw[if_pos rfl]
    constructor
    · intro h i hi
      rw[← aug]
      exact Spn.orth (fun k hk=>by rw[e1 k hk];exact Int.emod_eq_emod_iff_emod_sub_eq_zero.1 (h k hk)) (heq.1 i hi)
    · intro h i hi
      refine Int.emod_eq_emod_iff_emod_sub_eq_zero.2 ?_
      rw[← e1 i hi]
      exact Spn.orth (fun k hk=>by rw[aug];exact h k hk) (heq.2 i hi)
  have good:∀ y,qmp F W pv 0 (List.replicate W 0)=some y→∀ i,i<R→qaF (fun j=>y.getD j 0) (qb2 cells W i) W%p=b.getD i 0%p:=by
    intro y hy
    have hW:W∉pv:=fun h=>by rw[qhd.2 h] at hy;cases hy
    refine(key _).2 fun i hi=>?_
    have hz0:∀ j,(List.replicate W (0:Int)).getD j 0=0:=fun j=>by
      rw[List.getD_eq_getElem?_getD,List.getElem?_replicate];split<;>rfl
    have hd:=qoc (F:=F) (W:=W) (R:=R) (pv:=pv) (fun j hj=>by
        have h1:=hrf.lt j hj
        have h2:pv.getD j 0≠W:=fun e=>hW (by rw[← e];exact qdp hj)
        omega) hrf.mono hrf.one pv.length 0 (List.replicate W 0) y (by omega) (by simp) (fun k _ _=>hz0 _) (fun i _=>by
        rw[qaw (d:=fun _=>0) (h:=F i) fun j _=>⟨hz0 j,rfl⟩,qaJ,qbN,if_neg (by omega)]) (by rw[List.drop_zero];exact hy) i hi
    rw[hd]
    split
    · rw[Int.sub_self,Int.zero_emod]
    · rename_i h;rw[hrf.bot i W (by omega) hi (by omega)];rfl
  refine⟨⟨fun h=>?_,fun⟨y,hy⟩ h=>?_⟩,good⟩
  · cases hs:qmp F W pv 0 (List.replicate W 0) with
    | none=>exact absurd hs h
    | some y=>exact⟨fun j=>y.getD j 0,good y hs⟩
  · obtain⟨k,hk,hkW⟩:=List.mem_iff_getElem.1 (qhd.1 h)
    have hkd:pv.getD k 0=W:=by rw[qag hk];exact hkW
    have hkR:k<R:=Nat.lt_of_lt_of_le hk hrf.len
    have h1:=(key y).1 hy k hkR
    have h2:=hrf.one k k hkR hk
    rw[hkd,if_pos rfl] at h2
    rw[qaw (d:=y) (h:=fun _=>0) fun j hj=>⟨rfl,hrf.low k j hk (by omega)⟩,qbN,h2] at h1
    have hp2:=hp.1
    have:(0-1:Int)%p=p-1:=by
      rw[show(0-1:Int)=(p-1)+p*(-1) by omega,Int.add_mul_emod_self_left]
      exact Int.emod_eq_of_lt (by omega) (by omega)
    omega
end VeT
open Go Go.Proofs Ve
namespace VeT
def cX(p:Int)(x:Nat→Int)(pv:List Nat)(k:Nat):Int:=(p-x (pv.getD k 0))%p
def qgg(p:Int)(F:Ent)(pv:List Nat)(x:Nat→Int):Nat→Nat→Int
 | 0=>x
 | k+1=>fun j=>(qgg p F pv x k j+cX p x pv k*F k j)%p
theorem qiT{p:Int}{F:Ent}{pv:List Nat}{x:Nat→Int}{j:Nat}:∀ k,qgg p F pv x k j%p=(x j+qaF (cX p x pv) (fun i=>F i j) k)%p
 | 0=>by simp[qgg,qaF]
 | k+1=>by
  simp only[qgg,qaF]
  rw[Int.emod_emod_of_dvd _ (Int.dvd_refl p),Int.add_emod,qiT k,← Int.add_emod,Int.add_assoc]
theorem qfg{c g:Nat→Int}{t:Nat}:∀ {n:Nat},t≤n→(∀ i,t≤i→i<n→g i=0)→qaF c g n=qaF c g t
 | 0,h,_=>by rw[show t=0 by omega]
 | n+1,h,hz=>by
  by_cases ht:t=n+1
  ·rw[ht]
  ·simp only[qaF]
   rw[qfg (n:=n) (by omega) fun i h1 h2=>hz i h1 (by omega),hz n (by omega) (Nat.lt_succ_self n),Int.mul_zero,Int.add_zero]
theorem qnQ{p:Int}{R W:Nat}{F:Ent}{pv:List Nat}{x:Nat→Int}(hp:2≤p)(hrf:Rf R W F pv)(hx:∀ j,j<W→0≤x j∧x j≤p-1) :
  (∀ j,j<W→qgg p F pv x pv.length j=0)↔Spn p R W F x:=by
 constructor
 ·intro h
  refine(Spn.sum (c:=fun i=>(-1)*cX p x pv i) (B:=F) (n:=pv.length) fun i hi=>Spn.row (Nat.lt_of_lt_of_le hi hrf.len)).congr fun j hj=>?_
  rw[qfi]
  have e:=qiT (p:=p) (F:=F) (pv:=pv) (x:=x) (j:=j) pv.length
  rw[h j hj,Int.zero_emod] at e
  refine(Int.emod_eq_emod_iff_emod_sub_eq_zero.2 ?_).symm
  rw[show x j - -1*qaF (cX p x pv) (fun i=>F i j) pv.length=x j+qaF (cX p x pv) (fun i=>F i j) pv.length by omega]
  exact e.symm
 ·rintro⟨c,hc⟩ j hj
  have hck:∀ k,k<pv.length→x (pv.getD k 0)%p=c k%p:=fun k hk=>by
   rw[← hc _ (hrf.lt k hk),qaw (d:=c) (h:=fun i=>if i=k then 1 else 0) fun i hi=>⟨rfl,hrf.one i k hi hk⟩,qaJ,qcc (Nat.lt_of_lt_of_le hk hrf.len)]
  have e0:qaF c (fun i=>F i j) R=qaF c (fun i=>F i j) pv.length:=qfg hrf.len fun i h1 h2=>hrf.bot i j h1 h2 hj
  have e1:qaF (cX p x pv) (fun i=>F i j) pv.length%p=qaF (fun i=>(-1)*c i) (fun i=>F i j) pv.length%p:=by
   rw[qaJ,qaJ (c:=fun i=>(-1)*c i)]
   refine qbU fun i hi=>?_
   unfold cX
   rw[Int.emod_emod_of_dvd _ (Int.dvd_refl p)]
   refine Int.emod_eq_emod_iff_emod_sub_eq_zero.2 ?_
   have:=Int.emod_eq_emod_iff_emod_sub_eq_zero.1 (hck i hi).symm
   rw[show p-x (pv.getD i 0) - -1*c i=(c i-x (pv.getD i 0))+p*1 by omega,Int.add_mul_emod_self_left]
   exact this
  have e2:qgg p F pv x pv.length j%p=0:=by
   rw[qiT,Int.add_emod,e1,← Int.add_emod,qfi,← e0,Int.add_emod,← hc j hj,← Int.add_emod,show qaF c (fun i=>F i j) R+-1*qaF c (fun i=>F i j) R=0 by omega,Int.zero_emod]
  have hin:0≤qgg p F pv x pv.length j∧qgg p F pv x pv.length j≤p-1:=by
   cases hn:pv.length with
   | zero=>exact hx j hj
   | succ n=>exact qcm hp
  rw[Int.emod_eq_of_lt hin.1 (by omega)] at e2
  exact e2
def qc2(rows:List Sim):Ent:=fun i j=>(rows.getD i []).getD j 0
theorem ql4{rows:List Sim}{W:Nat}(h:∀ x∈rows,x.length=W):qaA (qc2 rows) rows.length W=rows:=by
 apply List.ext_getElem
 ·rw[qax]
 ·intro i h1 h2
  have e:=qa6 (A:=qc2 rows) (W:=W) h2
  rw[List.getElem?_eq_getElem h1] at e
  rw[Option.some.inj e]
  apply List.ext_getElem
  ·rw[List.length_map,List.length_range];exact(h _ (List.getElem_mem h2)).symm
  ·intro j h3 h4
   rw[List.getElem_map,List.getElem_range]
   unfold qc2
   rw[qag h2,qag h4]
theorem qfE{p:Int}{rows:List Sim}{W:Nat}(h:Rws p W rows):EIn p rows.length W (qc2 rows):=fun i j hi hj=>by
 obtain⟨h1,h2⟩:=h _ (List.getElem_mem hi)
 unfold qc2
 rw[qag hi,qag (by omega)]
 exact h2 _ (List.getElem_mem _)
noncomputable def qpo(p:Int)(W:Nat)(rows:List Sim):Ent×List Nat:=elS p rows.length (qc2 rows) W
noncomputable def bas(p:Int)(W:Nat)(rows:List Sim):List Sim:=qaA (qpo p W rows).1 (qpo p W rows).2.length W
theorem qlN{A:Ent}{R W t:Nat}(h:t≤R):(qaA A R W).take t=qaA A t W:=by
 unfold qaA
 rw[← List.map_take,List.take_range,Nat.min_eq_left h]
end VeT
open Go Go.Proofs Ve
namespace VeT
theorem qdB(rows:List Sim)(hl:rows.length≤1048576)(hs:∀ x∈rows,x.length≤1048576):Ret E n_Z25 [dLL rows] ⟨o_Z25,(rows,())⟩:=by
 refine qal ?_
 simp only[run_Z25,Z25.ev]
 refine Ev.start (p:=fun φ n=>Z25.l0 (mkR (run E (φ 0))) (φ 0) n rows (rows.length:Int) 0 []=_) 1 ?_ (fun _ _ _ h=>h)
 refine qas 1 (L:=fun φ n k o=>Z25.l0 (mkR (run E (φ 0))) (φ 0) n rows (rows.length:Int) k o) (len:=rows.length) (fun k=>rows.take k) (fun _ _ _ _ _=>rfl) (fun k r hk ih=>?_) ?_
 ·simp only[Z25.l0_succ _ qaf]
  rw[List.take_succ_eq_append_getElem hk] at ih
  refine qaC (decide_eq_true (by omega)) (qae (qaq hk) (qaa (qhi _ (hs _ (List.getElem_mem hk))) (qan (by simp only[List.length_take,List.length_singleton,decide_eq_true_eq];omega) ?_)))
  rw[qah (by omega)];exact ih
 ·simp only[Z25.l0_succ _ qaf]
  refine qaE (decide_eq_false (by omega)) (qap ?_)
  rw[List.take_of_length_le (Nat.le_refl _)]
theorem qgV(p:Int)(W:Nat)(rows:List Sim)(hp:2≤p∧p≤251)(hR:rows.length≤1048576)(hW:W≤1048576)(hr:Rws p W rows) :
  Ret E n_Z57 [dI p,dI (W:Int),dLL rows] ⟨o_Z57,(p,(W:Int),bas p W rows,())⟩:=by
 have hA:=qfE hr
 obtain⟨det,hel⟩:=qe3 (qc2 rows) rows.length W p hp hR hW hA
 rw[ql4 fun x hx=>(hr x hx).1] at hel
 have hlen:=(qd7 hp.1 hA W).2.1
 refine qal ?_
 simp only[run_Z57,Z57.ev]
 unfold bas qpo
 generalize elS p rows.length (qc2 rows) W=S at hel hlen
 obtain⟨F,pv⟩:=S
 simp only at hel hlen ⊢
 refine qaa (qdB rows hR fun x hx=>by rw[(hr x hx).1];exact hW) (qaa hel (qan (by simp only[qaI,qax,Bool.and_eq_true,decide_eq_true_eq];omega) ?_))
 simp only[qaI,Int.toNat_natCast,List.drop_zero]
 rw[qlN hlen]
 exact qaa (qdB (qaA F pv.length W) (by rw[qax];omega) fun x hx=>by
  obtain⟨i,_,rfl⟩:=List.mem_map.1 hx
  rw[List.length_map,List.length_range];exact hW) qam
theorem qhN(x:Int):Ret E n_Z50 [dI x] ⟨o_Z50,(x != 0,())⟩:=by
 refine qal ?_
 simp only[run_Z50,Z50.ev]
 exact Ev.of fun _=>trivial
theorem qoQ{f:Nat→Int}{W q:Nat}(hq:q<W)(h1:f q≠0)(h0:∀ j,j<q→f j=0):qfU (fun x:Int=>x != 0) ((List.range W).map f)=(q:Int):=by
 have:=qc1 (p:=fun x:Int=>x != 0) (s:=(List.range W).map f) (o:=some q) (fun k hk=>by
  obtain rfl:=Option.some.inj hk
  refine⟨by simpa using hq,⟨by simpa using hq,by simpa using h1⟩,fun j hj=>?_⟩
  rintro⟨hjl,hne⟩
  simp[h0 j hj] at hne) (fun h=>by cases h)
 exact this.symm
theorem qjq{R W:Nat}{F:Ent}{pv:List Nat}(p:Int)(hW:W≤1048576)(hR:R≤1048576)(hrf:Rf R W F pv) :
  Ret E n_Z49 [dI p,dI (W:Int),dLL (qaA F pv.length W)] ⟨o_Z49,(pvL pv,())⟩:=by
 have hlen:=hrf.len
 refine qal ?_
 simp only[run_Z49,Z49.ev,qax]
 refine Ev.start (p:=fun φ n=>Z49.l0 (mkR (run E (φ 0))) (φ 0) n (qaA F pv.length W) (pv.length:Int) 0 []=_) 1 ?_ (fun _ _ _ h=>h)
 refine qas 1 (L:=fun φ n k o=>Z49.l0 (mkR (run E (φ 0))) (φ 0) n (qaA F pv.length W) (pv.length:Int) k o) (len:=pv.length) (fun k=>pvL (pv.take k)) (fun _ _ _ _ _=>rfl) (fun k r hk ih=>?_) ?_
 ·simp only[Z49.l0_succ _ qaf]
  have hone:=hrf.one k k (by omega) hk
  rw[if_pos rfl] at hone
  have hix:=qoQ (f:=F k) (hrf.lt k hk) (by rw[hone];exact Int.one_ne_zero) fun j hj=>hrf.low k j hk hj
  have hcall:=qbg ((List.range W).map (F k)) (fun x=>x != 0) (by rw[List.length_map,List.length_range];exact hW) fun x _=>qhN x
  rw[hix] at hcall
  rw[List.take_succ_eq_append_getElem hk,qkj,← qag (d:=0) hk] at ih
  refine qaC (decide_eq_true (by omega)) (qae (qbF.trans (qa6 hk)) (qaa hcall (qan (by simp only[qaI,List.length_take,List.length_singleton,decide_eq_true_eq];omega) ?_)))
  rw[qah (by omega)];exact ih
 ·simp only[Z49.l0_succ _ qaf]
  refine qaE (decide_eq_false (by omega)) (qap ?_)
  rw[List.take_of_length_le (Nat.le_refl _)]
def qeg(p:Int)(F:Ent)(pv:List Nat)(x:Nat→Int)(W k:Nat):Sim:=(List.range W).map (qgg p F pv x k)
theorem qgz{R W:Nat}{F:Ent}{pv:List Nat}(p:Int)(x:Sim)(hp:2≤p∧p≤251)(hW:W≤1048576)(hR:R≤1048576)(hF:EIn p R W F)(hrf:Rf R W F pv)(hx:qaR x p)(hxl:x.length=W) :
  ∃ l:Sim,Ret E n_Z24 [dI p,dI (W:Int),dLL (qaA F pv.length W),dL x] ⟨o_Z24,(l,pb (Zs (qeg p F pv (fun j=>x.getD j 0) W pv.length)),())⟩:=by
 have hlen:=hrf.len
 have hx0:x=qeg p F pv (fun j=>x.getD j 0) W 0:=by
  show x=(List.range W).map fun j=>x.getD j 0
  apply List.ext_getElem
  ·rw[List.length_map,List.length_range,hxl]
  ·intro j h1 h2
   rw[List.getElem_map,List.getElem_range,qag h1]
 refine⟨(pv.map fun q=>x.getD q 0),qal ?_⟩
 simp only[run_Z24,Z24.ev]
 refine qaa (qjq p hW hR hrf) ?_
 simp only[qaI]
 have hin:∀ j,j<W→0≤x.getD j 0∧x.getD j 0≤p-1:=fun j hj=>by rw[qag (by omega)];exact hx _ (List.getElem_mem _)
 have hrin:∀ k j,j<W→0≤qgg p F pv (fun j=>x.getD j 0) k j∧qgg p F pv (fun j=>x.getD j 0) k j≤p-1:=fun k j hj=>by
  cases k with
  | zero=>exact hin j hj
  | succ k=>exact qcm hp.1
 suffices h:Ev fun φ=>Z24.l0 (mkR (run E (φ 0))) (φ 0) (φ 0) x (qeg p F pv (fun j=>x.getD j 0) W 0) (pvL pv) (pv.length:Int) 0 p (W:Int) (qaA F pv.length W) []=some ⟨o_Z24,(pv.map fun q=>x.getD q 0,pb (Zs (qeg p F pv (fun j=>x.getD j 0) W pv.length)),())⟩ by
  rw[← hx0] at h;exact h
 refine Ev.start (p:=fun φ n=>Z24.l0 (mkR (run E (φ 0))) (φ 0) n x (qeg p F pv (fun j=>x.getD j 0) W 0) (pvL pv) (pv.length:Int) 0 p (W:Int) (qaA F pv.length W) []=_) 1 ?_ (fun _ _ _ h=>h)
 refine qas 1 (L:=fun φ n k (o:Sim×Sim)=>Z24.l0 (mkR (run E (φ 0))) (φ 0) n x o.1 (pvL pv) (pv.length:Int) k p (W:Int) (qaA F pv.length W) o.2) (len:=pv.length) (fun k=>(qeg p F pv (fun j=>x.getD j 0) W k,(pv.take k).map fun q=>x.getD q 0)) (fun _ _ _ _ _=>rfl) (fun k r hk ih=>?_) ?_
 ·simp only[Z24.l0_succ _ qaf] at ih ⊢
  have hq:=hrf.lt k hk
  have hxq:x[pv.getD k 0]? = some (x.getD (pv.getD k 0) 0):=by rw[qag (show pv.getD k 0<x.length by omega)];exact List.getElem?_eq_getElem _
  have hv:=hin _ hq
  have hc:Int.tmod (w64 (p-x.getD (pv.getD k 0) 0)) p=cX p (fun j=>x.getD j 0) pv k:=by
   rw[qaj (by omega) (by omega),Int.tmod_eq_emod_of_nonneg (by omega)];rfl
  have hcin:0≤cX p (fun j=>x.getD j 0) pv k∧cX p (fun j=>x.getD j 0) pv k≤p-1:=qcm hp.1
  have hadd:=qd6 (qeg p F pv (fun j=>x.getD j 0) W k) ((List.range W).map (F k)) (cX p (fun j=>x.getD j 0) pv k) p hp (by omega) (by simp[qeg]) (by simp[qeg];omega) (qj8 hp.2 (hrin k)) (qj8 hp.2 fun j hj=>hF k j (by omega) hj)
  rw[show qqb (qeg p F pv (fun j=>x.getD j 0) W k) ((List.range W).map (F k)) (cX p (fun j=>x.getD j 0) pv k) p=qeg p F pv (fun j=>x.getD j 0) W (k+1) from qiE] at hadd
  have hp0:(p != 0)=true:=by simp;omega
  rw[List.take_succ_eq_append_getElem hk,List.map_append,List.map_singleton,← qag (d:=0) hk] at ih
  refine qaC (decide_eq_true (by omega)) (qae (qbF.trans (qhs hk)) (qae (qbF.trans hxq) (qan (by simp only[List.length_map,List.length_take,List.length_singleton,decide_eq_true_eq];omega) (qae (qbF.trans (qa6 hk)) (qae (qbF.trans hxq) (qan hp0 ?_))))))
  simp only[hc]
  refine qaa hadd ?_
  rw[qah (by omega)];exact ih
 ·simp only[Z24.l0_succ _ qaf]
  refine qaE (decide_eq_false (by omega)) (qaa (qmd _ (by simp[qeg];omega)) (qap ?_))
  rw[List.take_of_length_le (Nat.le_refl _)]
theorem qop{p:Int}{F:Ent}{pv:List Nat}{x:Nat→Int}{W k:Nat}:Zs (qeg p F pv x W k)↔∀ j,j<W→qgg p F pv x k j=0:=by
 unfold Zs qeg
 constructor
 ·intro h j hj;exact h _ (List.mem_map.2 ⟨j,List.mem_range.2 hj,rfl⟩)
 ·intro h y hy
  obtain⟨j,hj,rfl⟩:=List.mem_map.1 hy
  exact h j (List.mem_range.1 hj)
def InR(p:Int)(W:Nat)(rows:List Sim)(x:Sim):Prop:=Spn p rows.length W (qc2 rows) (fun j=>x.getD j 0)
theorem qjC(p:Int)(W:Nat)(rows:List Sim)(x:Sim)(hp:Pr p)(hW:W≤1048576)(hR:rows.length≤1048576)(hr:Rws p W rows)(hx:qaR x p)(hxl:x.length=W) :
  Ret E n_Z23 [dI p,dI (W:Int),dLL (bas p W rows),dL x] ⟨o_Z23,(pb (InR p W rows x),())⟩:=by
 have hA:=qfE hr
 obtain⟨hrf,heq⟩:=qfT hp hA W (Nat.le_refl _)
 have hF:=(qd7 hp.1 hA W).1
 have hin:∀ j,j<W→0≤x.getD j 0∧x.getD j 0≤p-1:=fun j hj=>by rw[qag (by omega)];exact hx _ (List.getElem_mem _)
 unfold bas qpo
 have e:∀ F pv,Rf rows.length W F pv→Eqv p rows.length W (qc2 rows) F→(Zs (qeg p F pv (fun j=>x.getD j 0) W pv.length)↔InR p W rows x):=fun F pv h1 h2=>by
  rw[qop,qnQ hp.1 h1 hin]
  exact⟨fun h=>Spn.trans h2.1 h,fun h=>Spn.trans h2.2 h⟩
 have e:=e _ _ hrf heq
 generalize elS p rows.length (qc2 rows) W=S at hrf heq hF e
 obtain⟨F,pv⟩:=S
 simp only at hrf heq hF e ⊢
 obtain⟨l,hl⟩:=qgz p x ⟨hp.1,hp.2.1⟩ hW hR hF hrf hx hxl
 rw[show pb (Zs (qeg p F pv (fun j=>x.getD j 0) W pv.length))=pb (InR p W rows x) from qa0 e] at hl
 refine qal ?_
 simp only[run_Z23,Z23.ev]
 exact qaa hl qam
end VeT
