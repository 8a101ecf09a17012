import Derived.Test.YtjnnliedeobfgaaGreatT4
import Derived.Test.YtjnnliedeobfgaaGreatV2
import Derived.KernelRfl
set_option linter.unusedVariables false
set_option linter.unusedSimpArgs false
open Go Go.Proofs Ve
namespace VeT
def qbU:List Int→Int→List Int
 | [],n=>[n]
 | x::r,n=>if x<n then x::qbU r n else if n<x then n::x::r else x::r
theorem qei:∀ {l:List Int} {n y:Int},y∈qbU l n↔y=n∨y∈l
 | [],n,y=>by simp[qbU]
 | x::r,n,y=>by
  unfold qbU
  split
  ·rw[List.mem_cons,qei,List.mem_cons]
   constructor
   ·rintro(h | h | h)
    ·exact .inr (.inl h)
    ·exact .inl h
    ·exact .inr (.inr h)
   ·rintro(h | h | h)
    ·exact .inr (.inl h)
    ·exact .inl h
    ·exact .inr (.inr h)
  ·split
   ·rw[List.mem_cons]
   ·have:x=n:=by omega
    subst this
    rw[List.mem_cons]
    exact⟨fun h=>.inr h,fun h=>h.elim (fun h=>.inl h) id⟩
theorem qet:∀ {l:List Int} {n:Int},l.Pairwise (·<·)→(qbU l n).Pairwise (·<·)
 | [],n,_=>by simp[qbU]
 | x::r,n,h=>by
  rw[List.pairwise_cons] at h
  unfold qbU
  split
  ·rw[List.pairwise_cons]
   refine⟨fun y hy=>?_,qet h.2⟩
   rcases qei.1 hy with rfl | hy
   ·assumption
   ·exact h.1 y hy
  ·split
   ·rw[List.pairwise_cons]
    refine⟨fun y hy=>?_,List.pairwise_cons.2 h⟩
    rcases List.mem_cons.1 hy with rfl | hy
    ·assumption
    ·have:=h.1 y hy;omega
   ·exact List.pairwise_cons.2 h
theorem qca:∀ {l:List Int} {n:Int},(qbU l n).length≤l.length+1
 | [],n=>by simp[qbU]
 | x::r,n=>by
  unfold qbU
  split
  ·have:=qca (l:=r) (n:=n);simp;exact this
  ·split<;>simp
theorem qmH:∀ {xs acc:List Int},acc.Pairwise (·<·)→(xs.foldl qbU acc).Pairwise (·<·)∧∀ y,y∈xs.foldl qbU acc↔y∈acc∨y∈xs
 | [],acc,h=>⟨h,fun y=>by simp⟩
 | x::xs,acc,h=>by
  obtain⟨h1,h2⟩:=qmH (xs:=xs) (qet (n:=x) h)
  refine⟨h1,fun y=>?_⟩
  rw[List.foldl_cons,h2,qei,List.mem_cons]
  constructor
  ·rintro((h | h) | h)
   ·exact .inr (.inl h)
   ·exact .inl h
   ·exact .inr (.inr h)
  ·rintro(h | h | h)
   ·exact .inl (.inr h)
   ·exact .inl (.inl h)
   ·exact .inr h
theorem qeP:∀ {xs acc:List Int},acc.Pairwise (·<·)→(∀ a∈acc,∀ x∈xs,a≤x)→xs.Pairwise (·≤·)→(xs.foldl qfW acc).Pairwise (·<·)∧∀ y,y∈xs.foldl qfW acc↔y∈acc∨y∈xs
  | [],acc,h,_,_=>⟨h,fun y=>by simp⟩
  | x::xs,acc,h,hle,hx=>by
    rw[List.pairwise_cons] at hx
    rw[List.foldl_cons]
    by_cases hl:acc.getLast? = some x
    · have e:qfW acc x=acc:=by unfold qfW;rw[if_pos hl]
      rw[e]
      obtain⟨h1,h2⟩:=qeP h (fun a ha y hy=>hle a ha y (List.mem_cons_of_mem _ hy)) hx.2
      refine⟨h1,fun y=>?_⟩
      rw[h2,List.mem_cons]
      have hm:x∈acc:=List.mem_of_getLast? hl
      constructor
      · rintro(h | h)
        · exact .inl h
        · exact .inr (.inr h)
      · rintro(h | rfl | h)
        · exact .inl h
        · exact .inl hm
        · exact .inr h
    · have e:qfW acc x=acc++[x]:=by unfold qfW;rw[if_neg hl]
      rw[e]
      have hlt:∀ a∈acc,a<x:=by
        rcases List.eq_nil_or_concat acc with rfl | ⟨i,l,rfl⟩
        · simp
        · rw[List.concat_eq_append] at *
          rw[List.getLast?_append] at hl
          have hl':l≠x:=by simpa using hl
          have hlx:=hle l (by simp) x List.mem_cons_self
          intro a ha
          rw[List.mem_append] at ha
          rcases ha with ha | ha
          · have:=(List.pairwise_append.1 h).2.2 a ha l (by simp)
            omega
          · have:a=l:=by simpa using ha
            omega
      obtain⟨h1,h2⟩:=qeP (xs:=xs) (acc:=acc++[x]) (List.pairwise_append.2 ⟨h,by simp,fun a ha b hb=>by
          have:b=x:=by simpa using hb
          subst this;exact hlt a ha⟩) (fun a ha y hy=>by
        rw[List.mem_append] at ha
        rcases ha with ha | ha
        · exact hle a ha y (List.mem_cons_of_mem _ hy)
        · have:a=x:=by simpa using ha
          subst this;exact hx.1 y hy) hx.2
      refine⟨h1,fun y=>?_⟩
      rw[h2,List.mem_append,List.mem_cons (a:=y) (b:=x) (l:=xs),List.mem_singleton]
      constructor
      · rintro((h | h) | h)
        · exact .inl h
        · exact .inr (.inl h)
        · exact .inr (.inr h)
      · rintro(h | h | h)
        · exact .inl (.inl h)
        · exact .inl (.inr h)
        · exact .inr h
theorem qm1(xs:List Int):(qch xs).Pairwise (·≤·):=by
 have:=List.pairwise_mergeSort (le:=fun x y:Int=>decide (x≤y)) (fun a b c h1 h2=>by simp at *;omega) (fun a b=>by simp;omega) xs
 exact this.imp fun h=>by simpa using h
theorem qms(xs:List Int):qdW (qch xs)=xs.foldl qbU []:=by
 obtain⟨h1,h2⟩:=qeP (xs:=qch xs) (acc:=[]) List.Pairwise.nil (by simp) (qm1 xs)
 obtain⟨h3,h4⟩:=qmH (xs:=xs) (acc:=[]) List.Pairwise.nil
 refine qjA h1 h3 fun y=>?_
 unfold qdW
 rw[h2,h4]
 unfold qch
 rw[List.mem_mergeSort]
theorem qf7:∀ {xs acc:List Int},(xs.foldl qbU acc).length≤acc.length+xs.length
 | [],acc=>by simp
 | x::xs,acc=>by
  have h1:=qf7 (xs:=xs) (acc:=qbU acc x)
  have h2:=qca (l:=acc) (n:=x)
  rw[List.foldl_cons,List.length_cons]
  omega
theorem qmZ(n:Nat)(args:List Dv):run E (n+1) n_Z62 args=qhj (mkR (run E n)) args:=rfl
theorem qm2(s:Sim)(hs:s.length≤1048576):Ret E n_Z62 [dL s] ⟨o_Z62,(qch s,())⟩:=by
 refine qat ?_
 simp only[qmZ]
 refine qan ?_
 have hc:chk (decide (s.length≤1048576))=some ():=by rw[decide_eq_true hs];rfl
 show((some s).bind fun xs=>(chk (decide (List.length xs≤1048576))).map fun _=>(⟨.cons tL .nil,(qch xs,())⟩:Dv))=_
 simp only[Option.bind_some,hc]
 rfl
theorem qkc(n:Nat)(args:List Dv):run E (n+1) n_Z45 args=qhC (mkR (run E n)) args:=rfl
theorem qjN(s:Sim)(hs:s.length≤1048576):Ret E n_Z45 [dL s] ⟨o_Z45,(qdW s,())⟩:=by
 refine qat ?_
 simp only[qkc]
 refine qan ?_
 have hc:chk (decide (s.length≤1048576))=some ():=by rw[decide_eq_true hs];rfl
 show((some s).bind fun xs=>(chk (decide (List.length xs≤1048576))).map fun _=>(⟨.cons tL .nil,(qdW xs,())⟩:Dv))=_
 simp only[Option.bind_some,hc]
 rfl
def vxN(c:List Sim):Nat→List Int
 | 0=>[]
 | k+1=>if (c.getD k []).length=1 then vxN c k++[(c.getD k []).getD 0 0] else vxN c k
abbrev vxs(c:List Sim):List Int:=vxN c c.length
theorem qh4{c:List Sim}:∀ {k:Nat} {v:Int},v∈vxN c k↔∃ j,j<k∧c.getD j []=[v]
 | 0,v=>by simp[vxN]
 | k+1,v=>by
  have key:(c.getD k []).length=1→((c.getD k []).getD 0 0=v↔c.getD k []=[v]):=fun h=>by
   obtain⟨u,hu⟩:=List.length_eq_one_iff.1 h
   rw[hu];simp
  unfold vxN
  split
  ·rename_i h1
   rw[List.mem_append,qh4,List.mem_singleton]
   constructor
   ·rintro(⟨j,h,e⟩ | h)
    ·exact⟨j,by omega,e⟩
    ·exact⟨k,by omega,(key h1).1 h.symm⟩
   ·rintro⟨j,h,e⟩
    by_cases hj:j=k
    ·subst hj;exact .inr ((key h1).2 e).symm
    ·exact .inl ⟨j,by omega,e⟩
  ·rename_i h1
   rw[qh4]
   constructor
   ·rintro⟨j,h,e⟩;exact⟨j,by omega,e⟩
   ·rintro⟨j,h,e⟩
    by_cases hj:j=k
    ·subst hj;rw[e] at h1;simp at h1
    ·exact⟨j,by omega,e⟩
theorem qmz{c:List Sim}{v:Int}:v∈vxs c↔[v]∈c:=by
 rw[qh4,List.mem_iff_getElem]
 constructor
 ·rintro⟨j,h,e⟩;exact⟨j,h,by rw[← e,qag h]⟩
 ·rintro⟨j,h,e⟩;exact⟨j,h,by rw[← e,qag h]⟩
theorem qbI{c:List Sim}:∀ {k:Nat},(vxN c k).length≤k
 | 0=>by simp[vxN]
 | k+1=>by
  have:=qbI (c:=c) (k:=k)
  unfold vxN
  split
  ·simp;exact this
  ·omega
theorem qkz{c:List Sim}(h:Srt c):∀ {k:Nat},k≤c.length→(vxN c k).Pairwise (·<·)
 | 0,_=>by simp[vxN]
 | k+1,hk=>by
  have ih:=qkz h (k:=k) (by omega)
  unfold vxN
  split
  ·rename_i h1
   refine List.pairwise_append.2 ⟨ih,by simp,fun a ha b hb=>?_⟩
   obtain⟨j,hj,e⟩:=qh4.1 ha
   have hb:b=(c.getD k []).getD 0 0:=by simpa using hb
   obtain⟨u,hu⟩:=List.length_eq_one_iff.1 h1
   rw[hu] at hb
   have hb:b=u:=by simpa using hb
   subst hb
   have:=h j k (by omega) hj
   rw[qag (by omega)] at e hu
   rw[e,hu] at this
   have h3:qcy [a] [b]=if a<b then -1 else if b<a then 1 else 0:=by
    simp[qcy,qg3,qdb]
   rw[h3] at this
   split at this
   ·assumption
   ·split at this<;>omega
  ·exact ih
theorem qdQ(c:List Sim)(hc:Sm (.sl (.sl (.int .i64))) c):Ret E n_Z35 [dLL c] ⟨o_Z35,(vxs c,())⟩:=by
 have hc1:c.length≤1048576:=hc.1
 refine qat ?_
 simp only[run_Z35,Z35.ev]
 refine Ev.start (p:=fun φ n=>Z35.l0 (mkR (run E (φ 0))) (φ 0) n c (c.length:Int) 0 []=_) 1 ?_ (fun _ _ _ h=>h)
 refine qay 1 (L:=fun φ n k a=>Z35.l0 (mkR (run E (φ 0))) (φ 0) n c (c.length:Int) k a) (len:=c.length) (fun k=>vxN c k) (fun _ _ _ _ _=>rfl) (fun k r hk ih=>?_) ?_
 ·simp only[Z35.l0_succ _ qaj]
  rw[qao (by omega)]
  refine qaD (decide_eq_true (by omega)) (qak (qas hk) ?_)
  have hl:=qbI (c:=c) (k:=k)
  rw[vxN,qag hk] at ih
  by_cases h1:(c[k]).length=1
  ·rw[if_pos h1,qag (by omega)] at ih
   refine qaD (by simp[h1]) (qak (qas (k:=0) (by show 0<(c[k]).length;omega)) (qaG (by simp;omega) ?_))
   exact ih
  ·rw[if_neg h1] at ih
   exact qaF (by simp;omega) ih
 ·simp only[Z35.l0_succ _ qaj]
  exact qaF (decide_eq_false (by omega)) qap
theorem qce(c:Cpx)(hc:Sm (.sl (.sl (.int .i64))) c.1):Ret E n_Z111 [dC c] ⟨o_Z111,(vxs c.1,())⟩:=by
 have hc1:c.1.length≤1048576:=hc.1
 refine qat ?_
 simp only[run_Z111,Z111.ev]
 refine Ev.start (p:=fun φ n=>Z111.l0 (mkR (run E (φ 0))) (φ 0) n c 0 []=_) 1 ?_ (fun _ _ _ h=>h)
 refine qay 1 (L:=fun φ n k a=>Z111.l0 (mkR (run E (φ 0))) (φ 0) n c k a) (len:=c.1.length) (fun k=>vxN c.1 k) (fun _ _ _ _ _=>rfl) (fun k r hk ih=>?_) ?_
 ·simp only[Z111.l0_succ _ qaj]
  rw[qao (by omega)]
  refine qaD (decide_eq_true (by omega)) (qak (qas hk) ?_)
  have hl:=qbI (c:=c.1) (k:=k)
  rw[vxN,qag hk] at ih
  by_cases h1:(c.1[k]).length=1
  ·rw[if_pos h1,qag (by omega)] at ih
   refine qaD (by simp[h1]) (qak (qas hk) (qak (qas (k:=0) (by show 0<(c.1[k]).length;omega)) (qaG (by simp;omega) ?_)))
   exact ih
  ·rw[if_neg h1] at ih
   exact qaF (by simp;omega) ih
 ·simp only[Z111.l0_succ _ qaj]
  exact qaF (decide_eq_false (by omega)) qap
theorem qkp{c:List Sim}(h:VC c):∀(n:Nat) {s:Sim},s∈c→s.length=n+1→∀ x∈s,[x]∈c
 | 0,s,hs,hl,x,hx=>by
  obtain⟨u,rfl⟩:=List.length_eq_one_iff.1 hl
  have:x=u:=by simpa using hx
  subst this;exact hs
 | n+1,s,hs,hl,x,hx=>by
  obtain⟨j,hj,rfl⟩:=List.mem_iff_getElem.1 hx
  obtain⟨k,hk,hks⟩:=List.mem_iff_getElem.1 hs
  obtain⟨i,hi,hij⟩:∃ i,i<s.length∧i≠j:=by
   by_cases h0:j=0
   ·exact⟨1,by omega,by omega⟩
   ·exact⟨0,by omega,by omega⟩
  have hf:s.eraseIdx i∈c:=h.2.2.2 k hk _ (by rw[qag hk,hks];exact qbQ.2 ⟨by omega,i,hi,rfl⟩)
  refine qkp h n hf (by rw[List.length_eraseIdx,if_pos hi];omega) _ ?_
  rw[List.mem_eraseIdx_iff_getElem]
  exact⟨j,hj,fun e=>hij e.symm,rfl⟩
theorem VC.vert{c:List Sim}(h:VC c){s:Sim}(hs:s∈c){x:Int}(hx:x∈s):x∈vxs c:=by
 have hl:0<s.length:=List.length_pos_of_mem hx
 exact qmz.2 (qkp h (s.length-1) hs (by omega) x hx)
theorem VC.get{c:List Sim}(h:VC c){s:Sim}(hs:s∈c):Vx s:=by
 obtain⟨k,hk,rfl⟩:=List.mem_iff_getElem.1 hs
 have:=h.2.1 k hk
 rwa [qag hk] at this
noncomputable def qd4(vs im:List Int)(v:Int):Int:=match vs.findIdx? (fun x=>pb (x=v)) with
 | some i=>im.getD i (-1)
 | none=>-1
theorem qj5{vs im:List Int}{v:Int}(hv:v∈vs)(hl:im.length=vs.length):∃ i,∃ h:i<vs.length,∃ h':i<im.length,vs[i]=v∧(∀ j (hj:j<i),vs[j]≠v)∧qd4 vs im v=im[i]∧qg9 (fun x=>pb (x=v)) vs=(i:Int):=by
 unfold qd4 qg9
 cases h:vs.findIdx? (fun x=>pb (x=v)) with
 | none =>
  rw[List.findIdx?_eq_none_iff] at h
  have:=h v hv
  rw[qax rfl] at this;cases this
 | some i =>
  rw[List.findIdx?_eq_some_iff_getElem] at h
  obtain⟨h1,h2,h3⟩:=h
  refine⟨i,h1,by omega,qaM.1 h2,fun j hj e=>h3 j hj (qax e),?_,rfl⟩
  exact qag (by omega)
noncomputable def img(vs im s:List Int):List Int:=(s.map (qd4 vs im)).foldl qbU []
theorem qhI{vs im s:List Int}{y:Int}:y∈img vs im s↔∃ x∈s,qd4 vs im x=y:=by
 unfold img
 rw[(qmH (xs:=s.map (qd4 vs im)) (acc:=[]) List.Pairwise.nil).2]
 simp
theorem qkx(vs im s:List Int):(img vs im s).Pairwise (·<·):=(qmH (xs:=s.map (qd4 vs im)) (acc:=[]) List.Pairwise.nil).1
theorem qht(vs im s:List Int):(img vs im s).length≤s.length:=by
 have:=qf7 (xs:=s.map (qd4 vs im)) (acc:=[])
 simpa [img] using this
theorem qbL(c:List Sim)(im s:Sim)(hc:Sm (.sl (.sl (.int .i64))) c)(hl:im.length=(vxs c).length)(hs:∀ x∈s,x∈vxs c)(hs1:s.length≤1048576) :
  Ret E n_Z22 [dLL c,dL im,dL s] ⟨o_Z22,(img (vxs c) im s,())⟩:=by
 have hvl:=qbI (c:=c) (k:=c.length)
 have hc1:c.length≤1048576:=hc.1
 refine qat ?_
 simp only[run_Z22,Z22.ev]
 refine qac (qdQ c hc) ?_
 refine Ev.start (p:=fun φ n=>Z22.l0 (mkR (run E (φ 0))) (φ 0) n im (vxs c) s (s.length:Int) 0 []=_) 1 ?_ (fun _ _ _ h=>h)
 refine qay 1 (L:=fun φ n k a=>Z22.l0 (mkR (run E (φ 0))) (φ 0) n im (vxs c) s (s.length:Int) k a) (len:=s.length) (fun k=>(s.take k).map (qd4 (vxs c) im)) (fun _ _ _ _ _=>rfl) (fun k r hk ih=>?_) ?_
 ·simp only[Z22.l0_succ _ qaj]
  rw[qao (by omega)]
  obtain⟨i,h1,h2,h3,h4,h5,h6⟩:=qj5 (im:=im) (hs s[k] (List.getElem_mem hk)) hl
  have hix:=qiD (vxs c) s[k] (Nat.le_trans hvl hc1)
  rw[h6] at hix
  refine qaD (decide_eq_true (by omega)) (qak (qas hk) (qac hix (qak (qas h2) (qaG (by simp;omega) ?_))))
  rw[List.take_succ_eq_append_getElem hk,List.map_append,List.map_singleton,h5] at ih
  exact ih
 ·simp only[Z22.l0_succ _ qaj]
  rw[List.take_of_length_le (Nat.le_refl _)]
  have hsl:(qch (s.map (qd4 (vxs c) im))).length≤1048576:=by unfold qch;rw[List.length_mergeSort,List.length_map];exact hs1
  refine qaF (decide_eq_false (by omega)) (qac (qm2 _ (by rw[List.length_map];exact hs1)) (qac (qjN _ hsl) (qan ?_)))
  rw[qms];rfl
theorem qe3(l:Sim)(n:Int)(hl:l.length≤1048576):Ret E n_Z74 [dL l,dI n] ⟨o_Z74,(qbU l n,())⟩:=by
  refine qat ?_
  simp only[run_Z74,Z74.ev]
  refine Ev.start (p:=fun φ N=>Z74.l0 (mkR (run E (φ 0))) (φ 0) N l n false 0 []=_) 1 ?_ (fun _ _ _ h=>h)
  refine(qeU 1 (σ:=Bool×Nat×List Int) (L:=fun φ N st=>Z74.l0 (mkR (run E (φ 0))) (φ 0) N l n st.1 (st.2.1:Int) st.2.2) (fun _ _ _ _=>rfl) (fun st=>st.2.1≤l.length∧st.2.2.length≤st.2.1+(bif st.1 then 1 else 0))
    (fun st=>some ⟨o_Z74,(st.2.2++(bif st.1 then l.drop st.2.1 else qbU (l.drop st.2.1) n),())⟩) (fun st=>l.length-st.2.1) (fun st hi ih=>?_) (false,0,[]) ⟨Nat.zero_le _,Nat.zero_le _⟩).to (by simp only[List.nil_append,cond_false,List.drop_zero])
  obtain⟨d,i,o⟩:=st
  obtain⟨h1,h2⟩:=hi
  simp only at h1 h2 ih ⊢
  by_cases hlt:i<l.length
  · have ol:o.length≤i+1:=by cases d<;>simp at h2<;>omega
    have hd:l.drop i=l[i]::l.drop (i+1):=List.drop_eq_getElem_cons hlt
    -- what follows
    have step:∀(d':Bool) (o' X:List Int),o'.length≤i+(bif d' then 1 else 0)→(o'++[l[i]])++(bif d' then l.drop (i+1) else qbU (l.drop (i+1)) n)=X →
        Ev fun φ=>Z74.j2 (mkR (run E (φ 0))) (φ 0) (φ 1) l n d' (i:Int) o'=some ⟨o_Z74,(X,())⟩:=fun d' o' X hol hX=>by
      have ho2:o'.length≤i+1:=by cases d'<;>simp at hol<;>omega
      have:=ih (d',i+1,o'++[l[i]]) ⟨by show i+1≤_;omega,by
        simp only[List.length_append,List.length_singleton]
        cases d'<;>simp at hol ⊢<;>omega⟩ (by simp only;omega)
      simp only at this
      rw[hX] at this
      simp only[Z74.j2_eq _ qaj]
      rw[qao (by omega)]
      exact qak (qas hlt) (qaG (by simp;omega) this)
    simp only[Z74.l0_succ _ qaj]
    refine qaD (decide_eq_true (by omega)) ?_
    cases d with
    | true =>
      refine qaF rfl ?_
      have e:o++List.drop i l=(o++[l[i]])++l.drop (i+1):=by rw[hd];simp
      simp only[cond_true] at h2 ⊢
      rw[e]
      simp only[Z74.j1_eq _ qaj]
      refine qaF rfl ?_
      exact step true o _ h2 (by simp only[cond_true])
    | false =>
      refine qaD rfl (qak (qas hlt) ?_)
      simp only[cond_false,Nat.add_zero] at h2 ⊢
      simp only[Z74.j1_eq _ qaj]
      refine qd9 (fun hge=>?_) fun hge=>?_
      · have hge:l[i]≥n:=hge
        refine qak (qas hlt) (qd9 (fun hgt=>?_) fun hgt=>?_)
        · have e:o++qbU (List.drop i l) n=((o++[n])++[l[i]])++l.drop (i+1):=by
            rw[hd,qbU,if_neg (by omega),if_pos (show n<l[i] from hgt)];simp
          rw[e]
          exact qaG (by simp;omega) (step true (o++[n]) _ (by simp;omega) (by simp only[cond_true]))
        · have hgt:¬ l[i]>n:=hgt
          have e:o++qbU (List.drop i l) n=(o++[l[i]])++l.drop (i+1):=by
            rw[hd,qbU,if_neg (by omega),if_neg (by omega)];simp
          rw[e]
          exact step true o _ (by simp;omega) (by simp only[cond_true])
      · have hge:¬ l[i]≥n:=hge
        have e:o++qbU (List.drop i l) n=(o++[l[i]])++qbU (l.drop (i+1)) n:=by
          rw[hd,qbU,if_pos (by omega)];simp
        rw[e]
        exact step false o _ (by simp;omega) (by simp only[cond_false])
  · have hi:i=l.length:=by omega
    subst hi
    simp only[Z74.l0_succ _ qaj,List.drop_length]
    refine qaF (decide_eq_false (by omega)) ?_
    cases d with
    | true=>exact qaF rfl (qan (by simp only[cond_true,List.append_nil]))
    | false =>
      simp only[cond_false,Nat.add_zero] at h2 ⊢
      exact qaD rfl (qaG (by simp;omega) qap)
theorem qn8{a b:Option Nat}(h:o2i a=o2i b):a=b:=by
 cases a<;>cases b<;>simp[o2i] at h ⊢<;>omega
theorem qjU(vs im:Sim)(v:Int)(hl:im.length=vs.length)(h1:vs.length≤1048576):Ret E n_Z110 [dL vs,dL im,dI v] ⟨o_Z110,(qd4 vs im v,())⟩:=by
  obtain⟨o,h1,h2,h3⟩:=qcI 1 (L:=fun φ n k=>Z110.l0 (mkR (run E (φ 0))) (φ 0) n vs im v k) (len:=im.length) (fun k=>∃ h:k<vs.length,pb (vs[k]=v)=true) (fun o=>some ⟨o_Z110,((match o with | some i=>im.getD i (-1) | none=>-1),())⟩) (fun _ _ _ _=>rfl) (fun k hk hP=>by
      obtain⟨h,hP⟩:=hP
      simp only[Z110.l0_succ _ qaj]
      refine qaD (decide_eq_true (by omega)) (qak (qas h) (qaD (by simpa using qaM.1 hP) (qak (qas hk) (qan ?_))))
      rw[qag hk]) (fun k q hk hP ih=>by
      have h:k<vs.length:=by omega
      simp only[Z110.l0_succ _ qaj]
      refine qaD (decide_eq_true (by omega)) (qak (qas h) (qaF ?_ ?_))
      · have:¬ vs[k]=v:=fun e=>hP ⟨h,qax e⟩
        simpa using this
      · rw[qao (by omega)];exact ih) (by
      simp only[Z110.l0_succ _ qaj]
      exact qaF (decide_eq_false (by omega)) qap)
  rw[hl] at h1 h2
  have e:vs.findIdx? (fun x=>pb (x=v))=o:=qn8 (qeI (p:=fun x=>pb (x=v)) h1 h2).symm
  refine qat ?_
  simp only[run_Z110,Z110.ev]
  unfold qd4
  rw[e]
  exact Ev.start (p:=fun φ n=>Z110.l0 (mkR (run E (φ 0))) (φ 0) n vs im v 0=_) 1 h3 (fun _ _ _ h=>h)
theorem qfc(vs im s:Sim)(hl:im.length=vs.length)(h1:vs.length≤1048576)(hs:∀ x∈s,x∈vs)(hp:∀ x∈im,0≤x)(hs1:s.length≤1048576) :
  Ret E n_Z108 [dL vs,dL im,dL s] ⟨o_Z108,(img vs im s,true,())⟩:=by
 refine qat ?_
 simp only[run_Z108,Z108.ev]
 refine Ev.start (p:=fun φ n=>Z108.l0 (mkR (run E (φ 0))) (φ 0) n vs im s [] 0=_) 1 ?_ (fun _ _ _ h=>h)
 refine qay 1 (L:=fun φ n k a=>Z108.l0 (mkR (run E (φ 0))) (φ 0) n vs im s a k) (len:=s.length) (fun k=>img vs im (s.take k)) (fun _ _ _ _ _=>rfl) (fun k r hk ih=>?_) ?_
 ·simp only[Z108.l0_succ _ qaj]
  rw[qao (by omega)]
  obtain⟨i,h1',h2,h3,h4,h5,h6⟩:=qj5 (im:=im) (hs s[k] (List.getElem_mem hk)) hl
  have hpos:0≤qd4 vs im s[k]:=by rw[h5];exact hp _ (List.getElem_mem h2)
  have hil:=qht vs im (s.take k)
  rw[List.length_take] at hil
  refine qaD (decide_eq_true (by omega)) (qak (qas hk) (qac (qjU vs im s[k] hl h1) (qaF (decide_eq_false (by show ¬ qd4 vs im s[k]<0;omega)) (qac (qe3 _ _ (by omega)) ?_))))
  have e:img vs im (s.take (k+1))=qbU (img vs im (s.take k)) (qd4 vs im s[k]):=by
   unfold img
   rw[List.take_succ_eq_append_getElem hk,List.map_append,List.foldl_append];rfl
  rw[e] at ih
  exact ih
 ·simp only[Z108.l0_succ _ qaj]
  rw[List.take_of_length_le (Nat.le_refl _)]
  exact qaF (decide_eq_false (by omega)) qap
end VeT
open Go Go.Proofs Ve
namespace VeT
end VeT
open Go Go.Proofs Ve
namespace VeT
end VeT
open Go Go.Proofs Ve
namespace VeT
theorem qoN{st:Sim}(hst:∀ x∈st,0≤x∧x≤3)(k:Nat):0≤st.getD k 0∧st.getD k 0≤3:=by
 by_cases hl:k<st.length
 ·rw[qag hl];exact hst _ (List.getElem_mem hl)
 ·rw[List.getD_eq_getElem?_getD,List.getElem?_eq_none (by omega)];simp
theorem qed{c:List Sim}{d:Int}{s n:Nat}(hs:s<n)(hd:((c.getD s []).length:Int)=d+1):∃ tl,qae c d n=qae c d s++(s:Int)::tl:=by
 induction n with
 | zero=>omega
 | succ n ih =>
  rw[qb4]
  by_cases h:s=n
  ·subst h;exact⟨[],by rw[if_pos hd]⟩
  ·obtain⟨tl,e⟩:=ih (by omega)
   exact⟨tl++_,by rw[e,List.append_assoc];rfl⟩
theorem qbt{c:List Sim}{d:Int}{k:Nat}{x:Int}:x∈qae c d k↔∃ i:Nat,x=i∧i<k∧((c.getD i []).length:Int)=d+1:=by
 unfold qae
 rw[List.mem_map]
 constructor
 ·rintro⟨i,hi,rfl⟩
  have:=List.mem_filter.1 hi
  exact⟨i,rfl,by simpa using this.1,by simpa using this.2⟩
 ·rintro⟨i,rfl,h1,h2⟩
  exact⟨i,List.mem_filter.2 ⟨by simpa using h1,by simpa using h2⟩,rfl⟩
def sgn(p:Int)(a:Nat):Int:=if a%2=0 then 1 else p-1
theorem qmC{p:Int}(hp:2≤p∧p≤251)(a:Nat):0≤sgn p a∧sgn p a≤p-1:=by
 unfold sgn;split<;>omega
theorem qix{n:Nat}{p:Int}(hp:2≤p):qbp (List.replicate n 0) p:=fun x hx=>by
 rw[List.mem_replicate] at hx;omega
end VeT
open Go Go.Proofs Ve
namespace VeT
theorem qih{c:List Sim}(hc:Srt c){s:Sim}{m:Nat}(hm:m<c.length):qbg c s=(m:Int)↔s=c[m]:=by
 have hs:qbg c c[m]=(m:Int):=by
  unfold qbg qg9
  have:c.findIdx? (fun x=>pb (x=c[m]))=some m:=by
   rw[List.findIdx?_eq_some_iff_getElem]
   refine⟨hm,qax rfl,fun j hj h=>?_⟩
   have e:=qaM.1 h
   have:=hc j m hm hj
   rw[qcc.2 e] at this;omega
  rw[this];rfl
 constructor
 ·intro h
  have h0:0≤qbg c s:=by omega
  obtain⟨j,hj,e⟩:=List.mem_iff_getElem.1 (qaB.1 h0)
  subst e
  have hj2:qbg c c[j]=(j:Int):=by
   unfold qbg qg9
   have:c.findIdx? (fun x=>pb (x=c[j]))=some j:=by
    rw[List.findIdx?_eq_some_iff_getElem]
    refine⟨hj,qax rfl,fun i hi h=>?_⟩
    have e:=qaM.1 h
    have:=hc i j hj hi
    rw[qcc.2 e] at this;omega
   rw[this];rfl
  have:j=m:=by omega
  subst this;rfl
 ·rintro rfl;exact hs
theorem qfQ{c:List Sim}(h:Srt c){i j:Nat}(hij:i≤j)(hj:j<c.length):(c.getD i []).length≤(c.getD j []).length:=by
 rw[qag (by omega),qag hj]
 by_cases e:i=j
 ·subst e;exact Nat.le_refl _
 ·have:=h i j hj (by omega)
  rw[qfZ] at this
  omega
theorem qf5{c:List Sim}(h:Srt c){d x:Int}(hx:x∈qae c d c.length) :
  ∃ s f0:Nat,x=(s:Int)∧s<c.length∧f0≤s∧(qae c d c.length).head? = some (f0:Int)∧qg9 (fun y=>pb (y=x)) (qae c d c.length)=((s-f0:Nat):Int)∧s-f0<(qae c d c.length).length:=by
 obtain⟨s,rfl,hs,hd⟩:=qbt.1 hx
 obtain⟨tl,hL⟩:=qed hs hd
 have hne:qae c d c.length≠[]:=by rw[hL];simp
 obtain⟨y,hy⟩:∃ y,(qae c d c.length).head? = some y:=by
  cases hh:qae c d c.length with
  | nil=>exact absurd hh hne
  | cons y l=>exact⟨y,rfl⟩
 have hym:y∈qae c d c.length:=List.mem_of_head? hy
 obtain⟨f0,rfl,hf,hfd⟩:=qbt.1 hym
 obtain⟨tl2,hL2⟩:=qed hf hfd
 have hz:qae c d f0=[]:=by
  cases hh:qae c d f0 with
  | nil=>rfl
  | cons z l =>
   have hz:z∈qae c d f0:=by rw[hh];exact List.mem_cons_self
   obtain⟨i,rfl,hi⟩:=qgr hz
   rw[hL2,hh] at hy
   have:((i:Nat):Int)=f0:=by simpa using hy
   omega
 have hfs:f0≤s:=by
  refine Classical.byContradiction fun hn=>?_
  have:((s:Nat):Int)∈qae c d f0:=qbt.2 ⟨s,rfl,by omega,hd⟩
  rw[hz] at this;cases this
 have hlen:∀ t,f0+t≤s→(qae c d (f0+t)).length=t:=by
  intro t
  induction t with
  | zero=>intro _;rw[Nat.add_zero,hz];rfl
  | succ t ih =>
   intro ht
   have h1:=qfQ h (show f0≤f0+t by omega) (by omega)
   have h2:=qfQ h (show f0+t≤s by omega) hs
   rw[← Nat.add_assoc,qb4,if_pos (by omega),List.length_append,ih (by omega)];rfl
 have hls:=hlen (s-f0) (by omega)
 rw[show f0+(s-f0)=s by omega] at hls
 refine⟨s,f0,rfl,hs,hfs,hy,?_,by rw[hL,List.length_append,hls];simp⟩
 unfold qg9
 have:(qae c d c.length).findIdx? (fun y=>pb (y=(s:Int)))=some (s-f0):=by
  rw[List.findIdx?_eq_some_iff_getElem]
  refine⟨by rw[hL,List.length_append,hls];simp,?_,fun j hj=>?_⟩
  ·refine qax ?_
   have:(qae c d c.length)[s-f0]? = some (s:Int):=by
    rw[hL,List.getElem?_append_right (by omega),hls,Nat.sub_self];rfl
   exact(List.getElem?_eq_some_iff.1 this).2
  ·rw[qaM]
   intro e
   have hj':j<(qae c d s).length:=by omega
   have:(qae c d c.length)[j]? = some (qae c d s)[j]:=by
    rw[hL,List.getElem?_append_left hj',List.getElem?_eq_getElem hj']
   have e2:=(List.getElem?_eq_some_iff.1 this).2
   rw[e] at e2
   obtain⟨i,hi,hi2⟩:=qgr (List.getElem_mem hj')
   rw[← e2] at hi
   omega
 rw[this];rfl
end VeT
open Go Go.Proofs Ve
namespace VeT
def Mp(a b:List Sim)(im:Sim):Prop:=im.length=(vxs a).length∧∀ s∈a,img (vxs a) im s∈b
theorem qoq{t:Ty}{s:List t.T}(h:Sm (.sl t) s){x:t.T}(hx:x∈s):Sm t x:=h.2 x hx
theorem qn5{vs im:List Int}(hr:vs.Pairwise (·<·))(hl:im.length=vs.length){i:Nat}(hi:i<vs.length):qd4 vs im vs[i]=im[i]'(by omega):=by
 obtain⟨j,h1,h2,h3,h4,h5,_⟩:=qj5 (im:=im) (List.getElem_mem hi) hl
 rw[List.pairwise_iff_getElem] at hr
 have:j=i:=by
  rcases Nat.lt_trichotomy j i with h | h | h
  ·have:=hr j i h1 hi h;omega
  ·exact h
  ·have:=hr i j hi h1 h;omega
 subst this
 exact h5
theorem qmr{vs im:List Int}{v:Int}:img vs im [v]=[qd4 vs im v]:=rfl
theorem Mp.vert{a b:List Sim}{im:Sim}(ha:VC a)(h:Mp a b im):∀ x∈im,[x]∈b:=by
 intro x hx
 obtain⟨i,hi,rfl⟩:=List.mem_iff_getElem.1 hx
 have hi':i<(vxs a).length:=by rw[← h.1];exact hi
 have hv:=qmz.1 (List.getElem_mem hi')
 have:=h.2 _ hv
 rw[qmr,qn5 (qkz ha.srt (Nat.le_refl _)) h.1 hi'] at this
 exact this
theorem Mp.range{a b:List Sim}{im:Sim}(ha:VC a)(hb:VC b)(h:Mp a b im):∀ x∈im,0≤x∧x≤9:=fun x hx =>
 (hb.get (h.vert ha x hx)).2.2.2 x (List.mem_singleton_self _)
theorem qjG(a b:List Sim)(im s:Sim)(ha:VC a)(hb:VC b)(sa:Sm (.sl (.sl (.int .i64))) a)(sb:Sm (.sl (.sl (.int .i64))) b)(hl:im.length=(vxs a).length)(hs:s∈a) :
  Ret E n_Z28 [dL s,dC (b,()),dC (a,()),⟨.ptr (.cons (.sl (.int .i64)) .nil),(im,())⟩] ⟨o_Z28,(pb (¬ img (vxs a) im s∈b),())⟩:=by
 refine qat ?_
 simp only[run_Z28,Z28.ev]
 refine qac (qbL a im s sa hl (fun x hx=>ha.vert hs hx) (qoq sa hs).1) (qac (qd1 b _ sb hb.srt) (qan ?_))
 simp only[qem,qaN (show qbg b (img (vxs a) im s)<0↔¬ img (vxs a) im s∈b by rw[← qaB];omega)]
theorem qiZ(a b:List Sim)(im:Sim)(ha:VC a)(hb:VC b)(sa:Sm (.sl (.sl (.int .i64))) a)(sb:Sm (.sl (.sl (.int .i64))) b) :
  Ret E n_Z27 [dLL a,dLL b,dL im] ⟨o_Z27,(pb (Mp a b im),())⟩:=by
 refine qat ?_
 simp only[run_Z27,Z27.ev]
 refine qac (qdQ a sa) (qdC (fun h=>qan ?_) fun h=>?_)
 ·have h:(im.length:Int)≠(vxs a).length:=by simpa using h
  rw[qau fun hm=>h (by rw[hm.1])]
 ·have h:(im.length:Int)=(vxs a).length:=by simpa using h
  have hl:im.length=(vxs a).length:=by omega
  refine qac (qa6 a ((b,()),(a,()),(im,()),()) _ sa.1 fun s hs=>qjG a b im s ha hb sa sb hl hs) (qan ?_)
  have:(!pb (∃ x∈a,pb (¬ img (vxs a) im x∈b)=true))=pb (Mp a b im):=qlz (by
   simp only[Bool.not_eq_true',qcf,qaM]
   exact⟨fun hn=>⟨hl,fun s hs=>Classical.byContradiction fun hb=>hn ⟨s,hs,hb⟩⟩,fun hm ⟨s,hs,hb⟩=>hb (hm.2 s hs)⟩)
  rw[this]
theorem qjI(a b:Cpx)(vs im:Sim)(sa:Sm (.sl (.sl (.int .i64))) a.1)(sb:Sm (.sl (.sl (.int .i64))) b.1)(hl:im.length=vs.length)(h1:vs.length≤1048576)(hs:∀ s∈a.1,∀ x∈s,x∈vs)(hp:∀ x∈im,0≤x) :
  Ret E n_Z107 [dC a,dC b,dL vs,dL im] ⟨o_Z107,(pb (∀ s∈a.1,img vs im s∈b.1),())⟩:=by
 have sa1:a.1.length≤1048576:=sa.1
 refine qat ?_
 simp only[run_Z107,Z107.ev]
 refine Ev.start (p:=fun φ n=>Z107.l0 (mkR (run E (φ 0))) (φ 0) n a b vs im 0=_) 1 ?_ (fun _ _ _ h=>h)
 refine(qdR 1 (L:=fun φ n k=>Z107.l0 (mkR (run E (φ 0))) (φ 0) n a b vs im k) (len:=a.1.length) 0 (by omega) (fun j=>img vs im (a.1.getD j [])∈b.1) (fun b=>some ⟨o_Z107,(b,())⟩) (fun _ _ _ _=>rfl) (fun k _ hk hP _=>?_) (fun k r _ hk hP _ ih=>?_) (fun _=>?_)).to ?_
 ·simp only[Z107.l0_succ _ qaj]
  rw[qag hk] at hP
  refine qaD (decide_eq_true (by omega)) (qak (qas hk) (qac (qfc vs im _ hl h1 (hs _ (List.getElem_mem hk)) hp (qba sa hk).1) (qaD rfl (qac (qaU b _ sb) ?_))))
  simp only[Z107.j1_eq _ qaj]
  exact qaD (decide_eq_true (Int.not_le.1 (mt (qaB (c:=b.1) (s:=img vs im a.1[k])).1 hP))) qap
 ·simp only[Z107.l0_succ _ qaj]
  rw[qag hk] at hP
  refine qaD (decide_eq_true (by omega)) (qak (qas hk) (qac (qfc vs im _ hl h1 (hs _ (List.getElem_mem hk)) hp (qba sa hk).1) (qaD rfl (qac (qaU b _ sb) ?_))))
  simp only[Z107.j1_eq _ qaj]
  refine qaF (decide_eq_false (Int.not_lt.2 ((qaB (c:=b.1) (s:=img vs im a.1[k])).2 hP))) ?_
  rw[qao (by omega)];exact ih
 ·simp only[Z107.l0_succ _ qaj]
  exact qaF (decide_eq_false (by omega)) qap
 ·refine congrArg (fun b:Bool=>some (⟨o_Z107,(b,())⟩:Dv)) (qaN ⟨fun h s hs=>?_,fun h j _ hj=>?_⟩)
  ·obtain⟨j,hj,rfl⟩:=List.mem_iff_getElem.1 hs
   have:=h j (by omega) hj
   rwa [qag hj] at this
  ·rw[qag hj];exact h _ (List.getElem_mem hj)
theorem qk2(a b:Cpx)(im:Sim)(ha:VC a.1)(hb:VC b.1)(sa:Sm (.sl (.sl (.int .i64))) a.1)(sb:Sm (.sl (.sl (.int .i64))) b.1)(si:im.length≤1048576) :
    Ret E n_Z109 [dC a,dC b,dL im] ⟨o_Z109,(pb (Mp a.1 b.1 im),())⟩:=by
  have hvl:=qbI (c:=a.1) (k:=a.1.length)
  have sa1:a.1.length≤1048576:=sa.1
  refine qat ?_
  simp only[run_Z109,Z109.ev]
  refine qac (qce a sa) ?_
  refine Ev.start (p:=fun φ n=>Z109.l0 (mkR (run E (φ 0))) (φ 0) n a b im (vxs a.1) 0=_) 1 ?_ (fun _ _ _ h=>h)
  obtain⟨h1,h2⟩:=qhH 1 (L:=fun φ n k=>Z109.l0 (mkR (run E (φ 0))) (φ 0) n a b im (vxs a.1) k) (len:=im.length) 0 (by omega) (fun j=>0≤im.getD j 0∧im.getD j 0≤9) (rt:=some ⟨o_Z109,(pb (Mp a.1 b.1 im),())⟩) (rf:=some ⟨o_Z109,(false,())⟩) (fun _ _ _ _=>rfl) (fun k _ hk hP _=>by
      simp only[Z109.l0_succ _ qaj]
      rw[qag hk] at hP
      exact qaD (decide_eq_true (by omega)) (qak (qas hk) (qac (qbj _ _ _) (qaD (by rw[qau hP];rfl) qap)))) (fun k r _ hk hP _ ih=>by
      simp only[Z109.l0_succ _ qaj]
      rw[qag hk] at hP
      refine qaD (decide_eq_true (by omega)) (qak (qas hk) (qac (qbj _ _ _) (qaF (by rw[qax hP];rfl) ?_)))
      rw[qao (by omega)];exact ih) (fun hall=>by
      simp only[Z109.l0_succ _ qaj]
      refine qaF (decide_eq_false (by omega)) (qdC (fun h=>?_) fun h=>qan ?_)
      · have h:(im.length:Int)=(vxs a.1).length:=by simpa using h
        have hl:im.length=(vxs a.1).length:=by omega
        refine qac (qjI a b (vxs a.1) im sa sb hl (by omega) (fun s hs x hx=>ha.vert hs hx) fun x hx=>?_) (qan ?_)
        · obtain⟨j,hj,rfl⟩:=List.mem_iff_getElem.1 hx
          have:=(hall j (by omega) hj).1
          rwa [qag hj] at this
        · rw[qaN (show(∀ s∈a.1,img (vxs a.1) im s∈b.1)↔Mp a.1 b.1 im from⟨fun h=>⟨hl,h⟩,fun h=>h.2⟩)]
      · have h:(im.length:Int)≠(vxs a.1).length:=by simpa using h
        rw[qau fun hm=>h (by rw[hm.1])])
  by_cases hall:∀ j,0≤j→j<im.length→0≤im.getD j 0∧im.getD j 0≤9
  · exact h1 hall
  · rw[qau fun hm=>hall fun j _ hj=>by rw[qag hj];exact hm.range ha hb _ (List.getElem_mem hj)]
    exact h2 hall
open Classical in
noncomputable def MC(a b:List Sim)(im:Sim):Int:=if VC a∧VC b then(if Mp a b im then 0 else 7) else 1
theorem qbT{a b:List Sim}{im:Sim}:MC a b im=0↔(VC a∧VC b)∧Mp a b im:=by
 unfold MC
 by_cases h:VC a∧VC b
 ·rw[if_pos h]
  by_cases hm:Mp a b im
  ·rw[if_pos hm]
   exact⟨fun _=>⟨h,hm⟩,fun _=>rfl⟩
  ·rw[if_neg hm]
   exact⟨fun e=>absurd e (by decide),fun e=>absurd e.2 hm⟩
 ·rw[if_neg h]
  exact⟨fun e=>absurd e (by decide),fun e=>absurd e.1 h⟩
theorem qeN(a b:List Sim)(im:Sim)(sa:Sm (.sl (.sl (.int .i64))) a)(sb:Sm (.sl (.sl (.int .i64))) b):Ret E n_Z31 [dLL a,dLL b,dL im] ⟨o_Z31,(MC a b im,())⟩:=by
 refine qat ?_
 simp only[run_Z31,Z31.ev]
 refine qac (qbu a sa) ?_
 by_cases ha:VC a
 ·refine qaF (by rw[qax ha];rfl) (qac (qbu b sb) ?_)
  simp only[Z31.j0_eq _ qaj]
  by_cases hb:VC b
  ·refine qaF (by rw[qax hb];rfl) (qac (qiZ a b im ha hb sa sb) ?_)
   unfold MC
   rw[if_pos ⟨ha,hb⟩]
   by_cases hm:Mp a b im
   ·rw[if_pos hm]
    exact qaF (by rw[qax hm];rfl) qap
   ·rw[if_neg hm]
    exact qaD (by rw[qau hm];rfl) qap
  ·unfold MC
   rw[if_neg fun h=>hb h.2]
   exact qaD (by rw[qau hb];rfl) qap
 ·unfold MC
  rw[if_neg fun h=>ha h.1]
  refine qaD (by rw[qau ha];rfl) ?_
  simp only[Z31.j0_eq _ qaj]
  exact qaD rfl qap
noncomputable def qfn(a b:Cpx)(im:Sim):Bool×Unit:=(pb ((VC a.1∧VC b.1)∧Mp a.1 b.1 im),())
theorem qij(a b:Cpx)(im:Sim)(sa:Sm (.st cC) a)(sb:Sm (.st cC) b)(si:Sm (.sl (.int .i64)) im):Ret E n_Z7 [dLL a.1,dLL b.1,dL im] ⟨o_Z7,qfn a b im⟩:=by
 refine qat ?_
 simp only[run_Z7,Z7.ev]
 unfold qfn
 refine qac (qbu a.1 sa.1) (qdC (fun ha=>qac (qbu b.1 sb.1) (qdC (fun hb=>qac (qiZ a.1 b.1 im (qaM.1 ha) (qaM.1 hb) sa.1 sb.1) (qan ?_)) fun hb=>qan ?_)) fun ha=>qan ?_)
 ·rw[qaN (show Mp a.1 b.1 im↔(VC a.1∧VC b.1)∧Mp a.1 b.1 im from⟨fun h=>⟨⟨qaM.1 ha,qaM.1 hb⟩,h⟩,fun h=>h.2⟩)]
 ·rw[qau fun h=>qcf.1 hb h.1.2]
 ·rw[qau fun h=>qcf.1 ha h.1.1]
theorem qic(a b:Cpx)(im:Sim)(sa:Sm (.st cC) a)(sb:Sm (.st cC) b)(si:Sm (.sl (.int .i64)) im):Ret E n_Z66 [dLL a.1,dLL b.1,dL im] ⟨o_Z66,qfn a b im⟩:=by
 refine qat ?_
 simp only[run_Z66,Z66.ev]
 unfold qfn
 refine qac (qdz (a.1,()) sa.1) (qdC (fun ha=>qac (qdz (b.1,()) sb.1) (qdC (fun hb=>qac (qk2 (a.1,()) (b.1,()) im (qaM.1 ha) (qaM.1 hb) sa.1 sb.1 si.1) (qan ?_)) fun hb=>qan ?_)) fun ha=>qan ?_)
 ·rw[qaN (show Mp a.1 b.1 im↔(VC a.1∧VC b.1)∧Mp a.1 b.1 im from⟨fun h=>⟨⟨qaM.1 ha,qaM.1 hb⟩,h⟩,fun h=>h.2⟩)]
 ·rw[qau fun h=>qcf.1 hb h.1.2]
 ·rw[qau fun h=>qcf.1 ha h.1.1]
open Classical in
noncomputable def qdI(a b:List Sim)(im:Sim)(m:Nat):Nat→List Int
 | 0=>[]
 | k+1=>if img (vxs a) im (a.getD k [])=b.getD m [] then qdI a b im m k++[(k:Int)] else qdI a b im m k
theorem qcR{a b:List Sim}{im:Sim}{m:Nat}:∀ {k:Nat},(qdI a b im m k).length≤k
 | 0=>by simp[qdI]
 | k+1=>by
  have:=qcR (a:=a) (b:=b) (im:=im) (m:=m) (k:=k)
  unfold qdI
  split
  ·simp;exact this
  ·omega
open Classical in
noncomputable def qfR(a b:Cpx)(im:Sim)(m:Int):Sim×Int×Unit :=
 if MC a.1 b.1 im=0 then(if 0≤m∧m≤(b.1.length:Int)-1 then(qdI a.1 b.1 im m.toNat a.1.length,0,()) else([],2,())) else([],MC a.1 b.1 im,())
theorem qgd(a b:Cpx)(im:Sim)(m:Int)(sa:Sm (.st cC) a)(sb:Sm (.st cC) b)(si:Sm (.sl (.int .i64)) im):Ret E n_Z6 [dLL a.1,dLL b.1,dL im,dI m] ⟨o_Z6,qfR a b im m⟩:=by
 have sa1:a.1.length≤1048576:=sa.1.1
 have sb1:b.1.length≤1048576:=sb.1.1
 refine qat ?_
 simp only[run_Z6,Z6.ev]
 unfold qfR
 refine qac (qeN a.1 b.1 im sa.1 sb.1) ?_
 by_cases h:MC a.1 b.1 im=0
 ·rw[if_pos h]
  refine qaF (by simp[h]) (qac (qlC b.1) ?_)
  simp only
  rw[qam (by omega) (by omega)]
  refine qac (qdG _ _ _) ?_
  by_cases hk:0≤m∧m≤(b.1.length:Int)-1
  ·rw[if_pos hk]
   obtain⟨n,rfl⟩:=Int.eq_ofNat_of_zero_le hk.1
   have hn:n<b.1.length:=by omega
   obtain⟨⟨ha,hb⟩,hm⟩:=qbT.1 h
   refine qaF (by rw[qax hk];rfl) ?_
   rw[Int.toNat_natCast]
   refine Ev.start (p:=fun φ N=>Z6.l0 (mkR (run E (φ 0))) (φ 0) N im (n:Int) a.1 (a.1.length:Int) 0 a.1 b.1 []=_) 1 ?_ (fun _ _ _ h=>h)
   refine qay 1 (L:=fun φ N k o=>Z6.l0 (mkR (run E (φ 0))) (φ 0) N im (n:Int) a.1 (a.1.length:Int) k a.1 b.1 o) (len:=a.1.length) (fun k=>qdI a.1 b.1 im n k) (fun _ _ _ _ _=>rfl) (fun k r hk ih=>?_) ?_
   ·simp only[Z6.l0_succ _ qaj]
    rw[qao (by omega)]
    have hfl:=qcR (a:=a.1) (b:=b.1) (im:=im) (m:=n) (k:=k)
    have hil:=qht (vxs a.1) im a.1[k]
    have hkl:=(qba sa.1 hk).1
    rw[qdI,qag hk,qag hn] at ih
    refine qaD (decide_eq_true (by omega)) (qak (qas hk) (qak (qas hn) (qac (qbL a.1 im _ sa.1 hm.1 (fun x hx=>ha.vert (List.getElem_mem hk) hx) hkl) (qac (qg8 _ _ (Nat.le_trans hil hkl)) ?_))))
    by_cases he:img (vxs a.1) im a.1[k]=b.1[n]
    ·rw[if_pos he] at ih
     exact qaD (qax he) (qaG (by simp;omega) ih)
    ·rw[if_neg he] at ih
     exact qaF (qau he) ih
   ·simp only[Z6.l0_succ _ qaj]
    exact qaF (decide_eq_false (by omega)) qap
  ·rw[if_neg hk]
   exact qaD (by rw[qau hk];rfl) qap
 ·rw[if_neg h]
  exact qaD (by simpa using h) qap
end VeT
open Go Go.Proofs Ve
namespace VeT
theorem qlc(i j:Nat):Ret E n_Z38 [dI (i:Int),dI (j:Int)] ⟨o_Z38,((0:Int),())⟩:=by
 refine qat ?_
 simp only[run_Z38,Z38.ev]
 (first | exact qap | exact Ev.of fun _=>trivial)
theorem qhx{C:Nat}:∀ {n:Nat},qaV (fun _ _=>0) C n=List.replicate (n*C) 0
 | 0=>by simp[qaV]
 | n+1=>by
  rw[qaV,qhx,Nat.add_mul,Nat.one_mul,← List.replicate_append_replicate]
  congr 1
  rw[List.map_const',List.length_range]
theorem qmL(p:Int)(R C:Nat)(hR:R≤32)(hC:C≤32):Ret E n_Z37 [dI p,dI (R:Int),dI (C:Int)] ⟨o_Z37,(p,(R:Int),(C:Int),List.replicate (R*C) 0,())⟩:=by
 have h1:=qii hR hC
 refine qat ?_
 simp only[run_Z37,Z37.ev]
 rw[← qhx]
 exact qac (qc9 p R C (fun _ _=>0) (by omega) (by omega) (by omega) fun i j _ _=>qlc i j) qap
theorem qf2(p:Int)(i:Nat)(hp:2≤p∧p≤251):Ret E n_Z14 [dI (i:Int),dI p] ⟨o_Z14,(sgn p i,())⟩:=by
 refine qat ?_
 simp only[run_Z14,Z14.ev]
 rw[Int.tmod_eq_emod_of_nonneg (by omega),qam (by omega) (by omega)]
 refine qdC (fun h=>qan ?_) fun h=>qan ?_
 ·have h:(i:Int)%2=0:=by simpa using h
  rw[sgn,if_pos (by omega)]
 ·have h:¬ (i:Int)%2=0:=by simpa using h
  rw[sgn,if_neg (by omega)]
theorem qkg(p:Int)(i:Nat)(hp:2≤p∧p≤251):Ret E n_Z104 [dI (i:Int),dI p] ⟨o_Z104,(sgn p i,())⟩:=by
 refine qat ?_
 simp only[run_Z104,Z104.ev]
 rw[Int.tmod_eq_emod_of_nonneg (by omega),qam (by omega) (by omega)]
 refine qdC (fun h=>qaG (by simp;omega) (qan ?_)) fun h=>qan ?_
 ·have h:(i:Int)%2=0:=by simpa using h
  rw[sgn,if_pos (by omega),Int.tmod_eq_emod_of_nonneg (by omega),Int.emod_eq_of_lt (by omega) (by omega)]
 ·have h:¬ (i:Int)%2=0:=by simpa using h
  rw[sgn,if_neg (by omega)]
end VeT
open Go Go.Proofs Ve
namespace VeT
def qlb(f:Nat→Int)(v:Int):Nat→Nat
 | 0=>0
 | x+1=>qlb f v x+if v<f x then 1 else 0
def qgU(f:Nat→Int):Nat→Nat
 | 0=>0
 | k+1=>qgU f k+qlb f (f k) k
theorem qjX{f:Nat→Int}{v:Int}:∀ {x:Nat},qlb f v x≤x
 | 0=>Nat.le_refl _
 | x+1=>by have:=qjX (f:=f) (v:=v) (x:=x);unfold qlb;split<;>omega
theorem qlT{f:Nat→Int}:∀ {k:Nat},qgU f k≤k*k
 | 0=>Nat.le_refl _
 | k+1=>by
  have h1:=qlT (f:=f) (k:=k)
  have h2:=qjX (f:=f) (v:=f k) (x:=k)
  have:(k+1)*(k+1)=k*k+k+k+1:=by rw[Nat.add_mul,Nat.mul_add];omega
  unfold qgU;omega
noncomputable abbrev qbq(c:List Sim)(im s:Sim):Nat→Int:=fun x=>qd4 (vxs c) im (s.getD x 0)
theorem qgY(c:List Sim)(im s:Sim)(hc:Sm (.sl (.sl (.int .i64))) c)(hl:im.length=(vxs c).length)(hs:∀ x∈s,x∈vxs c)(hs4:s.length≤4) :
  Ret E n_Z25 [dLL c,dL im,dL s] ⟨o_Z25,((qgU (qbq c im s) s.length:Nat),())⟩:=by
 refine qat ?_
 simp only[run_Z25,Z25.ev]
 refine Ev.start (p:=fun φ n=>Z25.l0 (mkR (run E (φ 0))) (φ 0) n im s 0 s (s.length:Int) 0 c=_) 1 ?_ (fun _ _ _ h=>h)
 refine qay 1 (L:=fun φ n k a=>Z25.l0 (mkR (run E (φ 0))) (φ 0) n im s a s (s.length:Int) k c) (len:=s.length) (fun k=>((qgU (qbq c im s) k:Nat):Int)) (fun _ _ _ _ _=>rfl) (fun k r hk ih=>?_) ?_
 ·simp only[Z25.l0_succ _ qaj]
  have hik:=qlT (f:=qbq c im s) (k:=k)
  have hkk:k*k≤16:=Nat.le_trans (Nat.mul_le_mul (show k≤4 by omega) (show k≤4 by omega)) (by omega)
  refine qaD (decide_eq_true (by omega)) (qak (qas hk) (qaG (by simp;omega) ?_))
  rw[Int.toNat_natCast]
  have htl:(s.take k).length=k:=by rw[List.length_take];omega
  rw[htl]
  refine Ev.start (p:=fun φ n=>Z25.l1 (mkR (run E (φ 0))) (φ 0) (φ 1) n im s ((qgU (qbq c im s) k:Nat):Int) s[k] s (s.length:Int) (k:Int) (s.take k) (k:Int) 0 c=_) 2 ?_ (fun _ _ _ h=>h)
  refine qay 2 (L:=fun φ n x a=>Z25.l1 (mkR (run E (φ 0))) (φ 0) (φ 1) n im s a s[k] s (s.length:Int) (k:Int) (s.take k) (k:Int) x c) (len:=k) (fun x=>((qgU (qbq c im s) k+qlb (qbq c im s) (qbq c im s k) x:Nat):Int)) (fun _ _ _ _ _=>rfl) (fun x q hx ihx=>?_) ?_
  ·simp only[Z25.l1_succ _ qaj]
   have hxl:x<s.length:=by omega
   have hxt:x<(s.take k).length:=by omega
   have hcx:=qjX (f:=qbq c im s) (v:=qbq c im s k) (x:=x)
   have e1:(s.take k)[x]=s[x]:=List.getElem_take
   have hw:=qbL c im [s[k]] hc hl (fun y hy=>by
    have:y=s[k]:=by simpa using hy
    subst this;exact hs _ (List.getElem_mem hk)) (by simp)
   have hv:=qbL c im [s[x]] hc hl (fun y hy=>by
    have:y=s[x]:=by simpa using hy
    subst this;exact hs _ (List.getElem_mem hxl)) (by simp)
   rw[qmr] at hw hv
   have fk:qbq c im s k=qd4 (vxs c) im s[k]:=by unfold qbq;rw[qag hk]
   have fx:qbq c im s x=qd4 (vxs c) im s[x]:=by unfold qbq;rw[qag hxl]
   refine qaD (decide_eq_true (by omega)) (qak (qas hxt) ?_)
   rw[e1]
   have body:Ev fun φ=>Z25.j2 (mkR (run E (φ 0))) (φ 0) (φ 1) (φ 2) im s ((qgU (qbq c im s) k+qlb (qbq c im s) (qbq c im s k) x:Nat):Int) s[k] s (s.length:Int) (k:Int) (s.take k) (k:Int) (x:Int) (decide (qd4 (vxs c) im s[k]<qd4 (vxs c) im s[x])) c=q:=by
    simp only[Z25.j2_eq _ qaj]
    rw[show w64 ((x:Int)+1)=((x+1:Nat):Int) from qao (by omega)]
    unfold qlb at ihx
    refine qd9 (fun h=>?_) fun h=>?_
    ·rw[fk,fx,if_pos h] at ihx
     rw[qao (by omega),fk]
     exact ihx
    ·rw[fk,fx,if_neg h,Nat.add_zero] at ihx
     rw[fk]
     exact ihx
   have step:=qac (out:=o_Z22) (K:=fun φ r21=>Option.bind (idx? r21.1 (0:Int)) fun y22=>Option.bind (qdp (mkR (run E (φ 0))) n_Z22 o_Z22 [dLL c,dL im,dL [s[x]]]) fun r23=>Option.bind (idx? r23.1 (0:Int)) fun y24 =>
    Z25.j2 (mkR (run E (φ 0))) (φ 0) (φ 1) (φ 2) im s ((qgU (qbq c im s) k+qlb (qbq c im s) (qbq c im s k) x:Nat):Int) s[k] s (s.length:Int) (k:Int) (s.take k) (k:Int) (x:Int) (decide (y22<y24)) c) hw (qak (x:=qd4 (vxs c) im s[k]) rfl (qac hv (qak (x:=qd4 (vxs c) im s[x]) rfl body)))
   exact qhY (qhY step step) step
  ·simp only[Z25.l1_succ _ qaj]
   rw[qao (by omega)]
   exact qaF (decide_eq_false (by omega)) ih
 ·simp only[Z25.l0_succ _ qaj]
  exact qaF (decide_eq_false (by omega)) qap
open Classical in
noncomputable def chC(a b:List Sim)(im:Sim)(k p:Int):Nat→List Int
 | 0=>List.replicate ((qae b k b.length).length*(qae a k a.length).length) 0
 | j+1 =>
  let s:=a.getD ((qae a k a.length).getD j 0).toNat []
  if (img (vxs a) im s).length=s.length then(chC a b im k p j).set ((qbg b (img (vxs a) im s)-(qae b k b.length).getD 0 0).toNat*(qae a k a.length).length+j) (sgn p (qgU (qbq a im s) s.length)) else chC a b im k p j
theorem qcB{a b:List Sim}{im:Sim}{k p:Int}:∀ {j:Nat},(chC a b im k p j).length=(qae b k b.length).length*(qae a k a.length).length
 | 0=>by simp[chC]
 | j+1=>by
  have:=qcB (a:=a) (b:=b) (im:=im) (k:=k) (p:=p) (j:=j)
  unfold chC
  simp only
  split
  ·rw[List.length_set,this]
  ·exact this
noncomputable def qcK(a b:List Sim)(im:Sim)(k p:Int):Mat:=(p,((qae b k b.length).length:Int),((qae a k a.length).length:Int),chC a b im k p (qae a k a.length).length,())
structure ChF (a b:List Sim) (im:Sim) (k p:Int):Prop where
 sa:Sm (.sl (.sl (.int .i64))) a
 sb:Sm (.sl (.sl (.int .i64))) b
 mc:MC a b im=0
 hk:0≤k∧k≤3
 hp:2≤p∧p≤251
 la:(qae a k a.length).length≤32
 lb:(qae b k b.length).length≤32
theorem ChF.col{a b:List Sim}{im:Sim}{k p:Int}(F:ChF a b im k p){j:Nat}(hj:j<(qae a k a.length).length) :
  ∃ s:Nat,∃ hs:s<a.length,(qae a k a.length)[j]=(s:Int)∧((qae a k a.length).getD j 0).toNat=s∧a.getD s []=a[s]∧(a[s].length:Int)=k+1∧a[s].length≤4∧img (vxs a) im a[s]∈b ∧
   ((img (vxs a) im a[s]).length=a[s].length→∃ t f0:Nat,qbg b (img (vxs a) im a[s])=(t:Int)∧f0≤t∧(qae b k b.length).head? = some (f0:Int)∧(qae b k b.length).getD 0 0=(f0:Int) ∧
    qg9 (fun y=>pb (y=(t:Int))) (qae b k b.length)=((t-f0:Nat):Int)∧t-f0<(qae b k b.length).length):=by
 obtain⟨⟨ha,hb⟩,hm⟩:=qbT.1 F.mc
 obtain⟨s,e,hs,hd⟩:=qbt.1 (List.getElem_mem hj)
 have hg:a.getD s []=a[s]:=qag hs
 rw[hg] at hd
 have hin:=hm.2 a[s] (List.getElem_mem hs)
 refine⟨s,hs,e,by rw[qag hj,e];rfl,hg,hd,by have:=F.hk;omega,hin,fun hl=>?_⟩
 have h0:0≤qbg b (img (vxs a) im a[s]):=qaB.2 hin
 obtain⟨t,ht⟩:=Int.eq_ofNat_of_zero_le h0
 have htb:t<b.length∧b[t]? = some (img (vxs a) im a[s]):=by
  obtain⟨q,hq,eq⟩:=List.mem_iff_getElem.1 hin
  have:=(qih hb.srt (s:=img (vxs a) im a[s]) hq).2 eq.symm
  have:q=t:=by omega
  subst this
  exact⟨hq,by rw[List.getElem?_eq_getElem hq,eq]⟩
 have hmem:((t:Nat):Int)∈qae b k b.length:=qbt.2 ⟨t,rfl,htb.1,by
  have:b.getD t []=img (vxs a) im a[s]:=by rw[List.getD_eq_getElem?_getD,htb.2];rfl
  rw[this,hl];exact hd⟩
 obtain⟨t',f0,e1,e2,e3,e4,e5,e6⟩:=qf5 hb.srt hmem
 obtain rfl:t=t':=by omega
 refine⟨t,f0,ht,e3,e4,?_,e5,e6⟩
 rw[List.getD_eq_getElem?_getD,← List.head?_eq_getElem?,e4];rfl
theorem qkH{a b:List Sim}{im:Sim}{k p:Int}{j s:Nat}(e:((qae a k a.length).getD j 0).toNat=s)(hg:∀ h:s<a.length,a.getD s []=a[s])(hs:s<a.length) :
  ((img (vxs a) im a[s]).length=a[s].length→chC a b im k p (j+1)=(chC a b im k p j).set ((qbg b (img (vxs a) im a[s])-(qae b k b.length).getD 0 0).toNat*(qae a k a.length).length+j) (sgn p (qgU (qbq a im a[s]) a[s].length))) ∧
  (¬ (img (vxs a) im a[s]).length=a[s].length→chC a b im k p (j+1)=chC a b im k p j):=by
 constructor
 ·intro h
  rw[chC]
  simp only[e,hg hs]
  rw[if_pos h]
 ·intro h
  rw[chC]
  simp only[e,hg hs]
  rw[if_neg h]
theorem qiH(a b:List Sim)(im:Sim)(k p:Int)(F:ChF a b im k p):Ret E n_Z15 [dLL a,dLL b,dL im,dI k,dI p] ⟨o_Z15,qcK a b im k p⟩:=by
 obtain⟨⟨ha,hb⟩,hm⟩:=qbT.1 F.mc
 have hk:=F.hk
 have la:=F.la
 have lb:=F.lb
 have hHW:=qii lb la
 refine qat ?_
 simp only[run_Z15,Z15.ev]
 refine qac (qa3 a k F.sa (by omega)) (qac (qa3 b k F.sb (by omega)) (qac (qgq _) (qac (qgq _) (qac (qmL p _ _ lb la) ?_))))
 refine Ev.start (p:=fun φ n=>Z15.l0 (mkR (run E (φ 0))) (φ 0) n im p (qae a k a.length) (qae b k b.length) (qae a k a.length) ((qae a k a.length).length:Int) 0 a b 0 0 0 p ((qae b k b.length).length:Int) ((qae a k a.length).length:Int) (List.replicate ((qae b k b.length).length*(qae a k a.length).length) 0)=_) 1 ?_ (fun _ _ _ h=>h)
 refine qay 1 (L:=fun φ n j o=>Z15.l0 (mkR (run E (φ 0))) (φ 0) n im p (qae a k a.length) (qae b k b.length) (qae a k a.length) ((qae a k a.length).length:Int) j a b 0 0 0 p ((qae b k b.length).length:Int) ((qae a k a.length).length:Int) o) (len:=(qae a k a.length).length) (fun j=>chC a b im k p j) (fun _ _ _ _ _=>rfl) (fun j r hj ih=>?_) ?_
 ·obtain⟨s,hs,e1,e2,hg,e3,e4,e5,e6⟩:=F.col hj
  obtain⟨c1,c2⟩:=qkH (b:=b) (im:=im) (p:=p) e2 (fun _=>hg) hs
  simp only[Z15.l0_succ _ qaj]
  rw[qao (by omega)]
  have hv:∀ x∈a[s],x∈vxs a:=fun x hx=>ha.vert (List.getElem_mem hs) hx
  refine qaD (decide_eq_true (by omega)) (qak (qas hj) ?_)
  rw[e1]
  refine qak (qas hs) (qac (qbL a im _ F.sa hm.1 hv (by omega)) (qdC (fun h=>?_) fun h=>?_))
  ·have h:((img (vxs a) im a[s]).length:Int)=a[s].length:=by simpa using h
   have h:(img (vxs a) im a[s]).length=a[s].length:=by omega
   rw[c1 h] at ih
   obtain⟨t,f0,t1,t2,t3,t4,t5,t6⟩:=e6 h
   have hix:=qiD (qae b k b.length) (t:Int) (by omega)
   rw[t5] at hix
   have hfind:=qd1 b (img (vxs a) im a[s]) F.sb hb.srt
   rw[t1] at hfind
   rw[t1,t4,show((t:Int)-(f0:Int)).toNat=t-f0 by omega] at ih
   have hinv:=qgY a im a[s] F.sa hm.1 hv e4
   have hal:=qf2 p (qgU (qbq a im a[s]) a[s].length) F.hp
   have hlt:=ql9 t6 hj
   have hm2:w64 (((t-f0:Nat):Int)*((qae a k a.length).length:Int))=(((t-f0)*(qae a k a.length).length:Nat):Int):=by
    rw[qcr,qam (by omega) (by omega)]
   have hm3:w64 ((((t-f0)*(qae a k a.length).length:Nat):Int)+(j:Int))=(((t-f0)*(qae a k a.length).length+j:Nat):Int):=by
    rw[qam (by omega) (by omega)];omega
   refine qac hfind (qac hix (qac hinv (qac hal ?_)))
   simp only
   rw[hm2,hm3,Int.toNat_natCast]
   exact qaG (by rw[qcB];simp;omega) ih
  ·have h:¬ ((img (vxs a) im a[s]).length:Int)=a[s].length:=by simpa using h
   have h:¬ (img (vxs a) im a[s]).length=a[s].length:=by omega
   rw[c2 h] at ih
   exact ih
 ·simp only[Z15.l0_succ _ qaj]
  exact qaF (decide_eq_false (by omega)) qap
def qlp(a b:List Sim)(k:Int)(ar:Nat):Prop:=∀ t:Nat,0≤t→t<2*ar+1→(qae a (k-ar+t) a.length).length≤32∧(qae b (k-ar+t) b.length).length≤32
open Classical in
noncomputable def ChC(a b:List Sim)(im:Sim)(k p:Int)(ar:Nat):Int :=
 if Pr p then(if MC a b im=0 then(if 0≤k∧k≤3 then(if qlp a b k ar then 0 else 5) else 2) else MC a b im) else 1
theorem qfK{a b:List Sim}{im:Sim}{k p:Int}{ar:Nat}(h:ChC a b im k p ar=0):Pr p∧MC a b im=0∧(0≤k∧k≤3)∧qlp a b k ar:=by
 unfold ChC at h
 by_cases h1:Pr p
 ·rw[if_pos h1] at h
  by_cases h2:MC a b im=0
  ·rw[if_pos h2] at h
   by_cases h3:0≤k∧k≤3
   ·rw[if_pos h3] at h
    by_cases h4:qlp a b k ar
    ·exact⟨h1,h2,h3,h4⟩
    ·rw[if_neg h4] at h;exact absurd h (by decide)
   ·rw[if_neg h3] at h;exact absurd h (by decide)
  ·rw[if_neg h2] at h;exact absurd h h2
 ·rw[if_neg h1] at h;exact absurd h (by decide)
theorem qgK(a b:List Sim)(im:Sim)(k p:Int)(ar:Nat)(har:ar≤1)(sa:Sm (.sl (.sl (.int .i64))) a)(sb:Sm (.sl (.sl (.int .i64))) b) :
  Ret E n_Z16 [dLL a,dLL b,dL im,dI k,dI p,dI (ar:Int)] ⟨o_Z16,(ChC a b im k p ar,())⟩:=by
 refine qat ?_
 simp only[run_Z16,Z16.ev]
 unfold ChC
 refine qac (qg6 p) ?_
 by_cases h1:Pr p
 ·rw[if_pos h1]
  refine qaF (by rw[qax h1];rfl) (qac (qeN a b im sa sb) ?_)
  by_cases h2:MC a b im=0
  ·rw[if_pos h2]
   refine qaF (by simp[h2]) (qac (qgQ k) ?_)
   by_cases h3:0≤k∧k≤3
   ·rw[if_pos h3]
    refine qaF (by rw[qax h3];rfl) ?_
    rw[qam (by omega) (by omega)]
    have e0:k-(ar:Int)=k-ar+((0:Nat):Int):=by omega
    refine Ev.start (p:=fun φ n=>Z16.l0 (mkR (run E (φ 0))) (φ 0) n k (ar:Int) (k-ar) a b=_) 1 ?_ (fun _ _ _ h=>h)
    have key:=qdR 1 (L:=fun φ n t=>Z16.l0 (mkR (run E (φ 0))) (φ 0) n k (ar:Int) (k-ar+t) a b) (len:=2*ar+1) 0 (by omega) (fun t=>(qae a (k-ar+t) a.length).length≤32∧(qae b (k-ar+t) b.length).length≤32) (fun q=>some ⟨o_Z16,((bif q then 0 else 5),())⟩) (fun _ _ _ _=>rfl) (fun t _ ht hP _=>by
     simp only[Z16.l0_succ _ qaj]
     rw[qam (n:=k+ar) (by omega) (by omega)]
     refine qaD (decide_eq_true (by omega)) (qac (qa3 a _ sa (by omega)) (qd9 (fun h=>?_) fun h=>?_))
     ·simp only[Z16.j1_eq _ qaj]
      exact qaD rfl qap
     ·refine qac (qa3 b _ sb (by omega)) ?_
      simp only[Z16.j1_eq _ qaj]
      exact qaD (decide_eq_true (Classical.byContradiction fun h'=>hP ⟨by first | omega | (simp only at h;omega),by first | omega | (simp only at h';omega)⟩)) qap) (fun t r _ ht hP _ ih=>by
     simp only[Z16.l0_succ _ qaj]
     rw[qam (n:=k+ar) (by omega) (by omega)]
     refine qaD (decide_eq_true (by omega)) (qac (qa3 a _ sa (by omega)) (qaF (decide_eq_false (by have:=hP.1;first | omega | (simp only;omega))) (qac (qa3 b _ sb (by omega)) ?_)))
     simp only[Z16.j1_eq _ qaj]
     refine qaF (decide_eq_false (by have:=hP.2;first | omega | (simp only;omega))) ?_
     rw[qam (by omega) (by omega),show k-ar+t+1=k-ar+((t+1:Nat):Int) by omega]
     exact ih) (fun _=>by
     simp only[Z16.l0_succ _ qaj]
     rw[qam (n:=k+ar) (by omega) (by omega)]
     exact qaF (decide_eq_false (by omega)) qap)
    rw[← e0] at key
    refine key.to ?_
    by_cases h4:qlp a b k ar
    ·rw[if_pos h4]
     unfold qlp at h4
     rw[qax h4];rfl
    ·rw[if_neg h4]
     unfold qlp at h4
     rw[qau h4];rfl
   ·rw[if_neg h3]
    exact qaD (by rw[qau h3];rfl) qap
  ·rw[if_neg h2]
   exact qaD (by simpa using h2) qap
 ·rw[if_neg h1]
  exact qaD (by rw[qau h1];rfl) qap
theorem ChF.of{a b:Cpx}{im:Sim}{k p:Int}{ar:Nat}(sa:Sm (.st cC) a)(sb:Sm (.st cC) b)(h:ChC a.1 b.1 im k p ar=0):ChF a.1 b.1 im k p:=by
 obtain⟨h1,h2,h3,h4⟩:=qfK h
 have:=h4 ar (by omega) (by omega)
 rw[show k-(ar:Int)+(ar:Int)=k by omega] at this
 exact⟨sa.1,sb.1,h2,h3,⟨h1.1,h1.2.1⟩,this.1,this.2⟩
open Classical in
noncomputable def qaz(a b:Cpx)(im:Sim)(k p:Int):Int×Int×Int×List Int×Int×Unit :=
 if ChC a.1 b.1 im k p 0=0 then(p,((qae b.1 k b.1.length).length:Int),((qae a.1 k a.1.length).length:Int),chC a.1 b.1 im k p (qae a.1 k a.1.length).length,0,()) else(0,0,0,[],ChC a.1 b.1 im k p 0,())
theorem qc7(a b:Cpx)(im:Sim)(k p:Int)(sa:Sm (.st cC) a)(sb:Sm (.st cC) b)(si:Sm (.sl (.int .i64)) im):Ret E n_Z5 [dLL a.1,dLL b.1,dL im,dI k,dI p] ⟨o_Z5,qaz a b im k p⟩:=by
 refine qat ?_
 simp only[run_Z5,Z5.ev]
 unfold qaz
 refine qac (qgK a.1 b.1 im k p 0 (by omega) sa.1 sb.1) ?_
 by_cases h:ChC a.1 b.1 im k p 0=0
 ·rw[if_pos h]
  exact qaF (by simp[h]) (qac (qiH a.1 b.1 im k p (ChF.of sa sb h)) qap)
 ·rw[if_neg h]
  exact qaD (by simpa using h) qap
end VeT
open Go Go.Proofs Ve
namespace VeT
def sgI(n:Nat):Int:=if n%2=0 then 1 else -1
theorem qlQ(n:Nat):sgI n=1∨sgI n=-1:=by unfold sgI;split<;>simp
theorem qck(n:Nat):sgI (n+1)=-sgI n:=by unfold sgI;split<;>split<;>first | rfl | omega
theorem qoi(a b:Nat):sgI (a+b)=sgI a*sgI b:=by unfold sgI;split<;>split<;>split<;>first | rfl | omega
def Dd:List Int→(List Int→Int)→Int
 | [],_=>0
 | y::t,φ=>φ t-Dd t (fun u=>φ (y::u))
def Ii(x:Int):List Int→(List Int→Int)→Int
 | [],φ=>φ [x]
 | y::t,φ=>if x<y then sgI (t.length+1)*φ (x::y::t) else if x=y then 0 else Ii x t (fun u=>φ (y::u))
theorem qny{x:Int}:∀ {t:List Int} {φ ψ:List Int→Int},Ii x t (fun u=>φ u-ψ u)=Ii x t φ-Ii x t ψ
 | [],_,_=>rfl
 | y::t,φ,ψ=>by
  unfold Ii
  split
  ·rw[Int.mul_sub]
  ·split
   ·rfl
   ·exact qny (t:=t)
theorem qmB{c:Nat}:∀ {t:List Int} {ψ:List Int→Int},Dd t (fun u=>sgI (u.length+c)*ψ u)=sgI (t.length+c+1)*Dd t ψ
 | [],ψ=>by simp[Dd]
 | y::t,ψ=>by
  have ih:=qmB (c:=c+1) (t:=t) (ψ:=fun u=>ψ (y::u))
  unfold Dd
  have e:(fun u:List Int=>sgI ((y::u).length+c)*ψ (y::u))=fun u=>sgI (u.length+(c+1))*ψ (y::u):=by
   funext u
   rw[List.length_cons,show u.length+1+c=u.length+(c+1) by omega]
  rw[e,ih,List.length_cons,show t.length+(c+1)+1=t.length+c+1+1 by omega,show t.length+1+c+1=t.length+c+1+1 by omega,qck,qck,Int.mul_sub,Int.neg_neg]
theorem qnt{x:Int}{t:List Int}{φ:List Int→Int}(h:∀ y∈t,x<y):Ii x t φ=sgI t.length*φ (x::t):=by
 cases t with
 | nil=>simp[Ii,sgI]
 | cons y t=>unfold Ii;rw[if_pos (h y List.mem_cons_self)];rfl
theorem qop{x:Int}:∀ {t:List Int} {φ:List Int→Int},t.Pairwise (·<·)→Ii x t (fun u=>Dd u φ)=Dd t (fun u=>Ii x u φ)+sgI t.length*φ t
 | [],φ,_=>by simp[Ii,Dd,sgI]
 | y::t,φ,h=>by
  obtain⟨h1,h2⟩:=List.pairwise_cons.1 h
  have e0:∀(ψ:List Int→Int),Dd (y::t) ψ=ψ t-Dd t (fun u=>ψ (y::u)):=fun _=>rfl
  rw[e0]
  rcases Int.lt_trichotomy x y with hxy | hxy | hxy
  ·have hl:∀ z∈t,x<z:=fun z hz=>Int.lt_trans hxy (h1 z hz)
   have e1:Ii x (y::t) (fun u=>Dd u φ)=sgI (t.length+1)*(φ (y::t)-(φ (x::t)-Dd t (fun u=>φ (x::y::u)))):=by
    show(if x<y then _ else _)=_
    rw[if_pos hxy];rfl
   have e2:(fun u=>Ii x (y::u) φ)=fun u=>sgI (u.length+1)*φ (x::y::u):=by
    funext u
    show(if x<y then _ else _)=_
    rw[if_pos hxy]
   rw[e1,e2,qmB,qnt hl,List.length_cons]
   have e3:sgI (t.length+1+1)=sgI t.length:=by rw[qck,qck,Int.neg_neg]
   rw[e3,qck]
   rcases qlQ t.length with e | e<;>rw[e]<;>omega
  ·subst hxy
   have e1:Ii x (x::t) (fun u=>Dd u φ)=0:=by
    show(if x<x then _ else if x=x then _ else _)=_
    rw[if_neg (by omega),if_pos rfl]
   have e2:(fun u=>Ii x (x::u) φ)=fun u=>sgI (u.length+0)*0:=by
    funext u
    show(if x<x then _ else if x=x then _ else _)=_
    rw[if_neg (by omega),if_pos rfl,Int.mul_zero]
   rw[e1,e2,qmB (ψ:=fun _=>0),qnt h1,List.length_cons,qck]
   have e3:Dd t (fun _=>0)=0:=by
    have:∀ t:List Int,Dd t (fun _=>0)=0:=by
     intro t
     induction t with
     | nil=>rfl
     | cons z t ih=>show(0:Int)-Dd t (fun _=>0)=0;rw[ih];rfl
    exact this t
   rw[e3,Int.mul_zero]
   rcases qlQ t.length with e | e<;>rw[e]<;>omega
  ·have n1:¬ x<y:=by omega
   have n2:¬ x=y:=by omega
   have e1:∀ ψ:List Int→Int,∀ u,Ii x (y::u) ψ=Ii x u (fun v=>ψ (y::v)):=by
    intro ψ u
    show(if x<y then _ else if x=y then _ else _)=_
    rw[if_neg n1,if_neg n2]
   have e2:(fun v=>(fun u=>Dd u φ) (y::v))=fun v=>φ v-Dd v (fun u=>φ (y::u)):=rfl
   rw[e1,e2,qny,qop h2 (φ:=fun u=>φ (y::u))]
   simp only[e1]
   rw[List.length_cons,qck]
   rcases qlQ t.length with e | e<;>rw[e]<;>omega
theorem qoF{x:Int}:∀ {t:List Int} {φ:List Int→Int},t.Pairwise (·<·)→Ii x t φ=if x∈t then 0 else sgI (t.countP fun y=>decide (x<y))*φ (qbU t x)
 | [],φ,_=>by simp[Ii,qbU,sgI]
 | y::t,φ,h=>by
  obtain⟨h1,h2⟩:=List.pairwise_cons.1 h
  unfold Ii qbU
  rcases Int.lt_trichotomy x y with hxy | hxy | hxy
  ·have hl:∀ z∈t,x<z:=fun z hz=>Int.lt_trans hxy (h1 z hz)
   have hn:¬ x∈y::t:=fun hm=>by
    rcases List.mem_cons.1 hm with e | hm
    ·omega
    ·have:=hl x hm;omega
   have hc:(y::t).countP (fun y=>decide (x<y))=t.length+1:=by
    rw[List.countP_eq_length.2 fun z hz=>?_,List.length_cons]
    rcases List.mem_cons.1 hz with e | hz
    ·subst e;exact decide_eq_true hxy
    ·exact decide_eq_true (hl z hz)
   rw[if_pos hxy,if_neg hn,hc,if_neg (by omega),if_pos hxy]
  ·subst hxy
   rw[if_neg (by omega),if_pos rfl,if_pos List.mem_cons_self]
  ·rw[if_neg (by omega),if_neg (by omega),if_pos hxy,qoF h2,List.countP_cons_of_neg (by simp;omega)]
   by_cases hm:x∈t
   ·rw[if_pos hm,if_pos (List.mem_cons_of_mem _ hm)]
   ·rw[if_neg hm,if_neg fun hh=>?_]
    rcases List.mem_cons.1 hh with e | hh
    ·omega
    ·exact hm hh
theorem qkn:∀ {t:List Int} {x:Int},t.Pairwise (·<·)→(qbU t x).length=if x∈t then t.length else t.length+1
  | [],x,_=>by simp[qbU]
  | y::t,x,h=>by
    obtain⟨h1,h2⟩:=List.pairwise_cons.1 h
    unfold qbU
    rcases Int.lt_trichotomy x y with hxy | hxy | hxy
    · have hn:¬ x∈y::t:=fun hm=>by
        rcases List.mem_cons.1 hm with e | hm
        · omega
        · have:=h1 x hm;omega
      rw[if_neg (by omega),if_pos hxy,if_neg hn];rfl
    · subst hxy;rw[if_neg (by omega),if_neg (by omega),if_pos List.mem_cons_self]
    · rw[if_pos hxy,List.length_cons,qkn h2]
      by_cases hm:x∈t
      · rw[if_pos hm,if_pos (List.mem_cons_of_mem _ hm)];rfl
      · rw[if_neg hm,if_neg fun hh=>?_]
        · rfl
        rcases List.mem_cons.1 hh with e | hh
        · omega
        · exact hm hh
theorem qhp{q:Int→Bool}:∀ {t:List Int} {x:Int},x∉t→(qbU t x).countP q=t.countP q+if q x=true then 1 else 0
 | [],x,_=>by simp[qbU,List.countP_cons]
 | y::t,x,h=>by
  have h1:x∉t:=fun hm=>h (List.mem_cons_of_mem _ hm)
  have h2:x≠y:=fun e=>h (e ▸ List.mem_cons_self)
  unfold qbU
  split
  ·rw[List.countP_cons,qhp h1,List.countP_cons];omega
  ·split
   ·rw[List.countP_cons]
   ·omega
def sgm(f:Nat→Int):Nat→List Int
 | 0=>[]
 | k+1=>qbU (sgm f k) (f k)
theorem qfN{f:Nat→Int}:∀ {k:Nat},(sgm f k).Pairwise (·<·)
 | 0=>List.Pairwise.nil
 | k+1=>qet (qfN (k:=k))
theorem qmv{f:Nat→Int}:∀ {k:Nat},(sgm f k).length≤k
 | 0=>Nat.le_refl _
 | k+1=>by
  have h1:=qca (l:=sgm f k) (n:=f k)
  have h2:=qmv (f:=f) (k:=k)
  show(qbU (sgm f k) (f k)).length≤k+1
  omega
theorem qfL{f:Nat→Int}{k:Nat}:(sgm f (k+1)).length=k+1↔(sgm f k).length=k∧f k∉sgm f k:=by
 have h1:=qkn (x:=f k) (qfN (f:=f) (k:=k))
 have h2:=qmv (f:=f) (k:=k)
 show(qbU (sgm f k) (f k)).length=k+1↔_
 rw[h1]
 split
 ·rename_i h;simp[h];omega
 ·rename_i h;simp[h]
theorem qmk{f:Nat→Int}{v:Int}:∀ {k:Nat},(sgm f k).length=k→(sgm f k).countP (fun y=>decide (v<y))=qlb f v k
 | 0,_=>rfl
 | k+1,h=>by
  obtain⟨h1,h2⟩:=qfL.1 h
  show(qbU (sgm f k) (f k)).countP _=qlb f v k+if v<f k then 1 else 0
  rw[qhp h2,qmk h1]
  congr 1
  simp
def Cc(f:Nat→Int)(k:Nat)(φ:List Int→Int):Int:=if (sgm f k).length=k then sgI (qgU f k)*φ (sgm f k) else 0
theorem ql3{f:Nat→Int}{k:Nat}{φ:List Int→Int}:Cc f (k+1) φ=Cc f k (fun t=>Ii (f k) t φ):=by
 unfold Cc
 by_cases h:(sgm f k).length=k
 ·rw[if_pos h]
  show _=sgI (qgU f k)*Ii (f k) (sgm f k) φ
  rw[qoF qfN]
  by_cases hm:f k∈sgm f k
  ·rw[if_pos hm,if_neg fun hh=>(qfL.1 hh).2 hm,Int.mul_zero]
  ·rw[if_neg hm,if_pos (qfL.2 ⟨h,hm⟩),qmk h,← Int.mul_assoc,← qoi];rfl
 ·rw[if_neg h,if_neg fun hh=>h (qfL.1 hh).1]
theorem qir{f g:Nat→Int}:∀ {k:Nat},(∀ j,j<k→f j=g j)→sgm f k=sgm g k
 | 0,_=>rfl
 | k+1,h=>by
  show qbU (sgm f k) (f k)=qbU (sgm g k) (g k)
  rw[qir fun j hj=>h j (by omega),h k (by omega)]
theorem qhu{f g:Nat→Int}{v:Int}:∀ {k:Nat},(∀ j,j<k→f j=g j)→qlb f v k=qlb g v k
 | 0,_=>rfl
 | k+1,h=>by
  unfold qlb
  rw[qhu fun j hj=>h j (by omega),h k (by omega)]
theorem qhs{f g:Nat→Int}:∀ {k:Nat},(∀ j,j<k→f j=g j)→qgU f k=qgU g k
 | 0,_=>rfl
 | k+1,h=>by
  unfold qgU
  rw[qhs fun j hj=>h j (by omega),h k (by omega),qhu fun j hj=>h j (by omega)]
theorem qkW{f g:Nat→Int}{k:Nat}{φ:List Int→Int}(h:∀ j,j<k→f j=g j):Cc f k φ=Cc g k φ:=by
 unfold Cc
 rw[qir h,qhs h]
def skp(f:Nat→Int)(i:Nat):Nat→Int:=fun j=>if j<i then f j else f (j+1)
def smN(g:Nat→Int):Nat→Int
 | 0=>0
 | n+1=>smN g n+g n
theorem qgP{f g:Nat→Int}:∀ {n:Nat},(∀ i,i<n→f i=g i)→smN f n=smN g n
 | 0,_=>rfl
 | n+1,h=>by
  show smN f n+f n=smN g n+g n
  rw[qgP fun i hi=>h i (by omega),h n (by omega)]
theorem qoy{f:Nat→Int}:∀ {k:Nat} {φ:List Int→Int},Cc f k (fun t=>Dd t φ)=smN (fun i=>sgI i*Cc (skp f i) (k-1) φ) k
 | 0,φ=>by simp[Cc,sgm,Dd,smN]
 | k+1,φ=>by
  have ih:=qoy (f:=f) (k:=k) (φ:=fun u=>Ii (f k) u φ)
  have e1:Cc f (k+1) (fun t=>Dd t φ)=Cc f k (fun t=>Dd t (fun u=>Ii (f k) u φ))+sgI k*Cc f k φ:=by
   rw[ql3]
   unfold Cc
   by_cases h:(sgm f k).length=k
   ·rw[if_pos h,if_pos h,if_pos h]
    show sgI (qgU f k)*Ii (f k) (sgm f k) (fun t=>Dd t φ)=sgI (qgU f k)*Dd (sgm f k) (fun u=>Ii (f k) u φ)+sgI k*(sgI (qgU f k)*φ (sgm f k))
    rw[qop qfN,h,Int.mul_add,Int.mul_left_comm]
   ·rw[if_neg h,if_neg h,if_neg h];simp
  rw[e1,ih]
  show _=smN (fun i=>sgI i*Cc (skp f i) (k+1-1) φ) k+sgI k*Cc (skp f k) (k+1-1) φ
  rw[show k+1-1=k by omega,qkW (f:=skp f k) (g:=f) fun j hj=>by unfold skp;rw[if_pos hj]]
  congr 1
  refine qgP fun i hi=>?_
  obtain⟨m,rfl⟩:∃ m,k=m+1:=⟨k-1,by omega⟩
  rw[ql3 (f:=skp f i) (k:=m)]
  have:skp f i m=f (m+1):=by unfold skp;rw[if_neg (by omega)]
  rw[this];rfl
theorem qkG{g:Nat→Int}:∀ {n:Nat},smN g (n+1)=g 0+smN (fun i=>g (i+1)) n
 | 0=>by simp[smN]
 | n+1=>by
  show smN g (n+1)+g (n+1)=g 0+(smN (fun i=>g (i+1)) n+g (n+1))
  rw[qkG];omega
theorem qlv{g:Nat→Int}:∀ {n:Nat},smN (fun i=>-g i) n=-smN g n
 | 0=>rfl
 | n+1=>by
  show smN (fun i=>-g i) n+-g n=-(smN g n+g n)
  rw[qlv];omega
theorem qmg:∀ {t:List Int} {φ:List Int→Int},Dd t φ=smN (fun j=>sgI j*φ (t.eraseIdx j)) t.length
 | [],_=>rfl
 | y::t,φ=>by
  rw[List.length_cons,qkG]
  show φ t-Dd t (fun u=>φ (y::u))=_
  rw[qmg]
  have e:(fun i=>sgI (i+1)*φ ((y::t).eraseIdx (i+1)))=fun i=>-(sgI i*φ (y::t.eraseIdx i)):=by
   funext i
   rw[qck,Int.neg_mul];rfl
  rw[e,qlv]
  show _=sgI 0*φ t+_
  have:sgI 0=1:=rfl
  rw[this];omega
end VeT
open Go Go.Proofs Ve
namespace VeT
end VeT
open Go Go.Proofs Ve
namespace VeT
end VeT
open Go Go.Proofs Ve
namespace VeT
def qm8(a p:Int):Int:=a ^ (p-2).toNat%p
abbrev Ent:=Nat→Nat→Int
def qgT(top q:Nat)(A:Ent):Ent:=fun i=>if i=top then A q else if i=q then A top else A i
def elN(p:Int)(c top:Nat)(B:Ent):Nat→Int:=fun j=>B top j*qm8 (B top c) p%p
def elM(p:Int)(c top:Nat)(B:Ent):Ent:=fun i j=>if i=top then elN p c top B j else B i j
def elF(p:Int)(c top:Nat)(B:Ent):Ent:=fun i j=>if i=top then elN p c top B j else if B i c≠0 then(B i j+(p-B i c)*elN p c top B j)%p else B i j
noncomputable def elP(p:Int)(R c:Nat)(S:Ent×List Nat):Ent×List Nat :=
 match qcG (fun i=>S.1 i c≠0) S.2.length (R-S.2.length) with
 | none=>S
 | some q=>(elF p c S.2.length (qgT S.2.length q S.1),S.2++[c])
noncomputable def elS(p:Int)(R:Nat)(A:Ent):Nat→Ent×List Nat
 | 0=>(A,[])
 | c+1=>elP p R c (elS p R A c)
def EIn(p:Int)(R W:Nat)(A:Ent):Prop:=∀ i j,i<R→j<W→0≤A i j∧A i j≤p-1
theorem EIn.sw{p:Int}{R W top q:Nat}{A:Ent}(h:EIn p R W A)(ht:top<R)(hq:q<R):EIn p R W (qgT top q A):=fun i j hi hj=>by
 unfold qgT;split
 ·exact h q j hq hj
 ·split
  ·exact h top j ht hj
  ·exact h i j hi hj
theorem qlr{p x:Int}(hp:2≤p):0≤x%p∧x%p≤p-1:=by
 have h0:=Int.emod_nonneg x (show p≠0 by omega)
 have h1:=Int.emod_lt_of_pos x (show 0<p by omega)
 omega
theorem EIn.f{p:Int}{R W c top:Nat}{B:Ent}(h:EIn p R W B)(hp:2≤p):EIn p R W (elF p c top B):=fun i j hi hj=>by
 unfold elF;split
 ·exact qlr hp
 ·split
  ·exact qlr hp
  ·exact h i j hi hj
theorem qnw{p:Int}{R W:Nat}{A:Ent}(hp:2≤p)(h:EIn p R W A):∀ c,EIn p R W (elS p R A c).1∧(elS p R A c).2.length≤R∧(elS p R A c).2.length≤c∧∀ x∈(elS p R A c).2,x<c
 | 0=>⟨h,Nat.zero_le _,Nat.zero_le _,fun x hx=>by simp[elS] at hx⟩
 | c+1=>by
  obtain⟨h1,h2,h3,h4⟩:=qnw hp h c
  rw[elS,elP]
  cases hf:qcG (fun i=>(elS p R A c).1 i c≠0) (elS p R A c).2.length (R-(elS p R A c).2.length) with
  | none=>exact⟨h1,h2,by show(elS p R A c).2.length≤c+1;omega,fun x hx=>by have:=h4 x hx;omega⟩
  | some q =>
   have hq:=qgH hf
   refine⟨(h1.sw (by omega) (by omega)).f hp,?_,?_,fun x hx=>?_⟩
   ·simp only[List.length_append,List.length_singleton];omega
   ·simp only[List.length_append,List.length_singleton];omega
   ·rcases List.mem_append.1 hx with hx | hx
    ·have:=h4 x hx;omega
    ·rw[List.mem_singleton] at hx;omega
def qnJ(A:Ent)(R W:Nat):List Sim:=(List.range R).map fun i=>(List.range W).map (A i)
theorem qc0{A:Ent}{W:Nat}:∀ {R:Nat},(qnJ A R W).flatten=qaV A W R
 | 0=>by simp[qnJ,qaV]
 | R+1=>by
  have:=qc0 (A:=A) (W:=W) (R:=R)
  unfold qnJ at this ⊢
  rw[List.range_succ,List.map_append,List.flatten_append,this,qaV]
  simp
def qhi(cells:Sim)(W:Nat):Ent:=fun i j=>cells.getD (i*W+j) 0
theorem qi2{cells:Sim}{R W:Nat}(h:cells.length=R*W):qaV (qhi cells W) W R=cells:=by
 refine List.ext_getElem (by rw[qaK,h]) fun n h1 h2=>?_
 rw[qaK] at h1
 have hW:0<W:=by
  cases W with
  | zero=>simp at h1
  | succ W=>omega
 have e:n=n / W*W+n%W:=by have:=Nat.div_add_mod n W;rw[Nat.mul_comm] at this;omega
 have h3:n / W<R:=Nat.div_lt_of_lt_mul (by rw[Nat.mul_comm];exact h1)
 have h4:n%W<W:=Nat.mod_lt _ hW
 have hg:=qdF (f:=qhi cells W) h3 h4
 rw[← e,List.getElem?_eq_getElem (by rw[qaK];exact h1)] at hg
 rw[Option.some.inj hg]
 unfold qhi
 rw[← e,qag h2]
theorem qj2{p:Int}{cells:Sim}{R W:Nat}(h:qbp cells p)(hl:cells.length=R*W):EIn p R W (qhi cells W):=fun i j hi hj=>by
 unfold qhi
 have:=ql9 hi hj
 rw[qag (by omega)]
 exact h _ (List.getElem_mem _)
end VeT
open Go Go.Proofs Ve
namespace VeT
def qnp:Bool:=(List.range 252).all fun p=>!(decide (2≤p)&&(List.range 16).all fun k=>!(decide (2≤k)&&decide (k*k≤p)&&decide (p%k=0))) || (List.range p).all fun a=>a==0 || (a*(a ^ (p-2)%p)%p==1)
theorem qmt:qnp=true:=by kernel_rfl
theorem qlW{p a:Int}(hp:Pr p)(h1:1≤a)(h2:a≤p-1):a*qm8 a p%p=1:=by
  obtain⟨hp2,hp251,hpk⟩:=hp
  obtain⟨P,rfl⟩:=Int.eq_ofNat_of_zero_le (show 0≤p by omega)
  obtain⟨N,rfl⟩:=Int.eq_ofNat_of_zero_le (show 0≤a by omega)
  have h:=qmt
  unfold qnp at h
  rw[List.all_eq_true] at h
  have hP:=h P (List.mem_range.2 (by omega))
  rw[Bool.or_eq_true] at hP
  rcases hP with hP | hP
  · exfalso
    rw[Bool.not_eq_true',Bool.and_eq_false_iff] at hP
    rcases hP with hP | hP
    · have:=of_decide_eq_false hP;omega
    · rw[← Bool.not_eq_true,List.all_eq_true] at hP
      refine hP fun k hk=>?_
      have hk16:=List.mem_range.1 hk
      rw[Bool.not_eq_true',Bool.and_eq_false_iff,Bool.and_eq_false_iff]
      by_cases hk2:2≤k
      · by_cases hkk:k*k≤P
        · right
          refine decide_eq_false fun e=>?_
          have := hpk k hk2 (by have : ((k * k : Nat) : Int) ≤ (P : Int) := by omega
                                rwa [Int.natCast_mul] at this)
          exact this (by omega)
        · exact .inl (.inr (decide_eq_false hkk))
      · exact .inl (.inl (decide_eq_false hk2))
  · rw[List.all_eq_true] at hP
    have hN:=hP N (List.mem_range.2 (by omega))
    rw[Bool.or_eq_true] at hN
    rcases hN with hN | hN
    · have:N=0:=by simpa using hN
      omega
    · have hN:N*(N ^ (P-2)%P)%P=1:=by simpa using hN
      unfold qm8
      have e:((P:Int)-2).toNat=P-2:=by omega
      rw[e]
      have:((N*(N ^ (P-2)%P)%P:Nat):Int)=1:=by rw[hN];rfl
      rwa [Int.natCast_emod,Int.natCast_mul,Int.natCast_emod,Int.natCast_pow] at this
theorem qh5{c d g:Nat→Int}:∀ {n:Nat},qbs (fun i=>c i+d i) g n=qbs c g n+qbs d g n
 | 0=>rfl
 | n+1=>by simp only[qbs];rw[qh5,Int.add_mul];omega
theorem qi8{k:Int}{c g:Nat→Int}:∀ {n:Nat},qbs (fun i=>k*c i) g n=k*qbs c g n
 | 0=>by simp[qbs]
 | n+1=>by simp only[qbs];rw[qi8,Int.mul_add,Int.mul_assoc]
theorem qje{k:Nat}{g:Nat→Int}:∀ {n:Nat},n≤k→qbs (fun i=>if i=k then 1 else 0) g n=0
 | 0,_=>rfl
 | n+1,h=>by simp only[qbs];rw[qje (by omega),if_neg (by omega),Int.zero_mul];rfl
theorem qh0{k:Nat}{g:Nat→Int}:∀ {n:Nat},k<n→qbs (fun i=>if i=k then 1 else 0) g n=g k
 | n+1,h=>by
  simp only[qbs]
  by_cases hk:k=n
  ·subst hk;rw[qje (Nat.le_refl _),if_pos rfl,Int.one_mul,Int.zero_add]
  ·rw[qh0 (by omega),if_neg (by omega),Int.zero_mul,Int.add_zero]
def Spn(p:Int)(R W:Nat)(A:Ent)(x:Nat→Int):Prop:=∃ c:Nat→Int,∀ j,j<W→qbs c (fun i=>A i j) R%p=x j%p
theorem Spn.row{p:Int}{R W:Nat}{A:Ent}{i:Nat}(hi:i<R):Spn p R W A (A i):=⟨fun k=>if k=i then 1 else 0,fun j _=>by rw[qh0 hi]⟩
theorem Spn.congr{p:Int}{R W:Nat}{A:Ent}{x y:Nat→Int}(h:∀ j,j<W→x j%p=y j%p):Spn p R W A x→Spn p R W A y:=fun⟨c,hc⟩=>⟨c,fun j hj=>(hc j hj).trans (h j hj)⟩
theorem Spn.add{p:Int}{R W:Nat}{A:Ent}{x y:Nat→Int}(hx:Spn p R W A x)(hy:Spn p R W A y):Spn p R W A (fun j=>x j+y j):=by
 obtain⟨c,hc⟩:=hx
 obtain⟨d,hd⟩:=hy
 exact⟨fun i=>c i+d i,fun j hj=>by rw[qh5,Int.add_emod,hc j hj,hd j hj,← Int.add_emod]⟩
theorem Spn.smul{p:Int}{R W:Nat}{A:Ent}{x:Nat→Int}(k:Int)(hx:Spn p R W A x):Spn p R W A (fun j=>k*x j):=by
 obtain⟨c,hc⟩:=hx
 exact⟨fun i=>k*c i,fun j hj=>by rw[qi8,Int.mul_emod,hc j hj,← Int.mul_emod]⟩
theorem Spn.zero{p:Int}{R W:Nat}{A:Ent}:Spn p R W A (fun _=>0):=⟨fun _=>0,fun j _=>by
 have:∀ n,qbs (fun _=>0) (fun i=>A i j) n=0:=fun n=>by
  induction n with
  | zero=>rfl
  | succ n ih=>simp only[qbs,ih,Int.zero_mul];rfl
 rw[this]⟩
theorem Spn.sum{p:Int}{R W:Nat}{A B:Ent}{c:Nat→Int}:∀ {n:Nat},(∀ i,i<n→Spn p R W A (B i))→Spn p R W A (fun j=>qbs c (fun i=>B i j) n)
 | 0,_=>Spn.zero
 | n+1,h=>(Spn.sum (n:=n) fun i hi=>h i (by omega)).add ((h n (Nat.lt_succ_self n)).smul (c n))
theorem Spn.trans{p:Int}{R R' W:Nat}{A B:Ent}{x:Nat→Int}(h:∀ i,i<R'→Spn p R W A (B i))(hx:Spn p R' W B x):Spn p R W A x:=by
 obtain⟨c,hc⟩:=hx
 exact(Spn.sum h).congr hc
def Eqv(p:Int)(R W:Nat)(A B:Ent):Prop:=(∀ i,i<R→Spn p R W A (B i))∧(∀ i,i<R→Spn p R W B (A i))
theorem Eqv.refl{p:Int}{R W:Nat}{A:Ent}:Eqv p R W A A:=⟨fun _ h=>Spn.row h,fun _ h=>Spn.row h⟩
theorem Eqv.trans{p:Int}{R W:Nat}{A B C:Ent}(h:Eqv p R W A B)(k:Eqv p R W B C):Eqv p R W A C:=⟨fun i hi=>Spn.trans h.1 (k.1 i hi),fun i hi=>Spn.trans k.2 (h.2 i hi)⟩
theorem Eqv.sw{p:Int}{R W top q:Nat}{A:Ent}(ht:top<R)(hq:q<R):Eqv p R W A (qgT top q A):=by
 refine⟨fun i hi=>?_,fun i hi=>?_⟩
 ·unfold qgT
  split
  ·exact Spn.row hq
  ·split
   ·exact Spn.row ht
   ·exact Spn.row hi
 ·have key:∀ k,k<R→(qgT top q A) k=A i→Spn p R W (qgT top q A) (A i):=fun k hk e=>by rw[← e];exact Spn.row hk
  by_cases h1:i=top
  ·subst h1
   by_cases h2:q=i
   ·subst h2;exact key q hq (by simp[qgT])
   ·exact key q hq (by simp[qgT,h2])
  ·by_cases h2:i=q
   ·subst h2;exact key top ht (by simp[qgT])
   ·exact key i hi (by simp[qgT,h1,h2])
theorem Eqv.f{p:Int}{R W c top:Nat}{B:Ent}(hp:Pr p)(ht:top<R)(hl:1≤B top c∧B top c≤p-1):Eqv p R W B (elF p c top B):=by
 have hinv:=qlW hp hl.1 hl.2
 have hN:Spn p R W B (elN p c top B):=((Spn.row ht).smul (qm8 (B top c) p)).congr fun j _=>by
  show qm8 (B top c) p*B top j%p=(B top j*qm8 (B top c) p%p)%p
  rw[Int.emod_emod_of_dvd _ (Int.dvd_refl p),Int.mul_comm]
 have eTop:elF p c top B top=elN p c top B:=by funext j;simp[elF]
 have hN2:Spn p R W (elF p c top B) (elN p c top B):=by rw[← eTop];exact Spn.row ht
 refine⟨fun i hi=>?_,fun i hi=>?_⟩
 ·by_cases h1:i=top
  ·subst h1;rw[eTop];exact hN
  ·by_cases h2:B i c=0
   ·have e:elF p c top B i=B i:=by funext j;simp[elF,h1,h2]
    rw[e];exact Spn.row hi
   ·refine((Spn.row hi).add (hN.smul (p-B i c))).congr fun j _=>?_
    have e:elF p c top B i j=(B i j+(p-B i c)*elN p c top B j)%p:=by simp[elF,h1,h2]
    rw[e,Int.emod_emod_of_dvd _ (Int.dvd_refl p)]
 ·by_cases h1:i=top
  ·subst h1
   refine(hN2.smul (B i c)).congr fun j _=>?_
   show B i c*(B i j*qm8 (B i c) p%p)%p=B i j%p
   rw[Int.mul_emod,Int.emod_emod_of_dvd _ (Int.dvd_refl p),← Int.mul_emod,show B i c*(B i j*qm8 (B i c) p)=B i j*(B i c*qm8 (B i c) p) by rw[← Int.mul_assoc,Int.mul_comm (B i c),Int.mul_assoc],Int.mul_emod,hinv,Int.mul_one,Int.emod_emod_of_dvd _ (Int.dvd_refl p)]
  ·by_cases h2:B i c=0
   ·have e:elF p c top B i=B i:=by funext j;simp[elF,h1,h2]
    rw[← e];exact Spn.row hi
   ·refine((Spn.row hi).add (hN2.smul (B i c))).congr fun j _=>?_
    have e:elF p c top B i j=(B i j+(p-B i c)*elN p c top B j)%p:=by simp[elF,h1,h2]
    rw[e,Int.add_emod,Int.emod_emod_of_dvd _ (Int.dvd_refl p),← Int.add_emod,show B i j+(p-B i c)*elN p c top B j+B i c*elN p c top B j=B i j+p*elN p c top B j by rw[Int.sub_mul];omega,Int.add_mul_emod_self_left]
structure Rf (R c:Nat) (B:Ent) (pv:List Nat):Prop where
 len:pv.length≤R
 lt:∀ i,i<pv.length→pv.getD i 0<c
 mono:∀ i j,i<j→j<pv.length→pv.getD i 0<pv.getD j 0
 one:∀ i j,i<R→j<pv.length→B i (pv.getD j 0)=if i=j then 1 else 0
 low:∀ i j,i<pv.length→j<pv.getD i 0→B i j=0
 bot:∀ i j,pv.length≤i→i<R→j<c→B i j=0
end VeT
open Go Go.Proofs Ve
namespace VeT
theorem qbK{l:List Nat}{c i:Nat}(h:i<l.length):(l++[c]).getD i 0=l.getD i 0:=by
 rw[List.getD_eq_getElem?_getD,List.getD_eq_getElem?_getD,List.getElem?_append_left h]
theorem qcM{l:List Nat}{c:Nat}:(l++[c]).getD l.length 0=c:=by
 rw[List.getD_eq_getElem?_getD,List.getElem?_append_right (Nat.le_refl _)];simp
theorem Rf.next{p:Int}{R W c:Nat}{B:Ent}{pv:List Nat}(hp:Pr p)(hB:EIn p R W B)(hc:c<W)(h:Rf R c B pv){q:Nat}(hq:pv.length≤q∧q<R)(hne:B q c≠0) :
  Rf R (c+1) (elF p c pv.length (qgT pv.length q B)) (pv++[c]):=by
 obtain⟨hlen,hlt,hmono,hone,hlow,hbot⟩:=h
 generalize ht:pv.length=top at *
 have hB':EIn p R W (qgT top q B):=hB.sw (by omega) hq.2
 have rowLt:∀ i,i<top→qgT top q B i=B i:=fun i hi=>by
  unfold qgT;rw[if_neg (by omega),if_neg (by omega)]
 have rowGe:∀ i,top≤i→i<R→∀ j,j<c→qgT top q B i j=0:=fun i h1 h2 j hj=>by
  unfold qgT
  split
  ·exact hbot q j hq.1 hq.2 hj
  ·split
   ·exact hbot top j (Nat.le_refl _) (by omega) hj
   ·exact hbot i j h1 h2 hj
 have eLead:qgT top q B top c=B q c:=by simp[qgT]
 have hlead:1≤qgT top q B top c∧qgT top q B top c≤p-1:=by
  have:=hB q c hq.2 hc
  rw[eLead];omega
 generalize qgT top q B=B' at hB' rowLt rowGe eLead hlead
 have hinv:=qlW hp hlead.1 hlead.2
 have nLt:∀ j,j<c→elN p c top B' j=0:=fun j hj=>by
  unfold elN;rw[rowGe top (Nat.le_refl _) (by omega) j hj,Int.zero_mul];exact Int.zero_emod p
 have nC:elN p c top B' c=1:=hinv
 have fLt:∀ i j,i<R→j<c→elF p c top B' i j=B' i j:=fun i j hi hj=>by
  unfold elF
  split
  ·rename_i e;subst e;rw[nLt j hj,rowGe i (Nat.le_refl _) hi j hj]
  ·split
   ·rw[nLt j hj,Int.mul_zero,Int.add_zero]
    have:=hB' i j hi (by omega)
    exact Int.emod_eq_of_lt this.1 (by omega)
   ·rfl
 have fC:∀ i,i<R→elF p c top B' i c=if i=top then 1 else 0:=fun i hi=>by
  unfold elF
  split
  ·exact nC
  ·split
   ·rw[nC,Int.mul_one,show B' i c+(p-B' i c)=p by omega,Int.emod_self]
   ·rename_i _ h2;exact Classical.byContradiction fun e=>h2 e
 refine⟨?_,?_,?_,?_,?_,?_⟩
 ·rw[List.length_append,List.length_singleton,ht];omega
 ·intro i hi
  rw[List.length_append,List.length_singleton,ht] at hi
  by_cases hi2:i<top
  ·rw[qbK (by omega)];have:=hlt i hi2;omega
  ·obtain rfl:i=top:=by omega
   subst ht
   rw[qcM];omega
 ·intro i j hij hj
  rw[List.length_append,List.length_singleton,ht] at hj
  by_cases hj2:j<top
  ·rw[qbK (by omega),qbK (by omega)];exact hmono i j hij hj2
  ·obtain rfl:j=top:=by omega
   have:=hlt i hij
   subst ht
   rw[qbK hij,qcM];exact this
 ·intro i j hi hj
  rw[List.length_append,List.length_singleton,ht] at hj
  by_cases hj2:j<top
  ·have hpj:=hlt j hj2
   rw[qbK (by omega),fLt i _ hi hpj]
   by_cases hi2:i<top
   ·rw[rowLt i hi2];exact hone i j hi hj2
   ·rw[rowGe i (by omega) hi _ hpj,if_neg (by omega)]
  ·obtain rfl:j=top:=by omega
   have hfc:=fC i hi
   subst ht
   rw[qcM];exact hfc
 ·intro i j hi hj
  rw[List.length_append,List.length_singleton,ht] at hi
  by_cases hi2:i<top
  ·rw[qbK (by omega)] at hj
   have:=hlt i hi2
   rw[fLt i j (by omega) (by omega),rowLt i hi2];exact hlow i j hi2 hj
  ·obtain rfl:i=top:=by omega
   have hfl:j<c→elF p c i B' i j=0:=fun h=>by rw[fLt i j (by omega) h];exact rowGe i (Nat.le_refl _) (by omega) j h
   have e:(pv++[c]).getD i 0=c:=by rw[← ht];exact qcM
   rw[e] at hj
   exact hfl hj
 ·intro i j hi hiR hj
  rw[List.length_append,List.length_singleton,ht] at hi
  by_cases hjc:j<c
  ·rw[fLt i j hiR hjc];exact rowGe i (by omega) hiR j hjc
  ·obtain rfl:j=c:=by omega
   rw[fC i hiR,if_neg (by omega)]
end VeT
open Go Go.Proofs Ve
namespace VeT
end VeT
open Go Go.Proofs Ve
namespace VeT
end VeT
open Go Go.Proofs Ve
namespace VeT
theorem VM.len{m:Mat}(h:VM m):m.2.2.2.1.length≤1024:=by
 obtain⟨R,C,_,hR,hC,hl⟩:=h.nat
 have:=qii hR hC
 omega
end VeT
open Go Go.Proofs Ve
namespace VeT
theorem ql2{s:Sim}(hs:qi5 s){a b:Nat}(ha:a<s.length)(hb:b<s.length)(e:s.eraseIdx a=s.eraseIdx b):a=b:=by
 have key:∀ {a b:Nat},a<b→b<s.length→s.eraseIdx a=s.eraseIdx b→False:=fun {a b} hab hb e=>by
  have h:=congrArg (·[a]?) e
  simp only[List.getElem?_eraseIdx] at h
  rw[if_neg (by omega),if_pos hab,List.getElem?_eq_getElem (by omega),List.getElem?_eq_getElem (by omega)] at h
  have h:=Option.some.inj h
  have:=hs.lt (i:=a) (j:=a+1) (by omega) (by omega)
  omega
 rcases Nat.lt_trichotomy a b with h | h | h
 ·exact absurd e fun e=>key h hb e
 ·exact h
 ·exact absurd e.symm fun e=>key h ha e
end VeT
open Go Go.Proofs Ve
namespace VeT
theorem qkb{a b:Mat}(ha:VM a)(hb:VM b):VM (qj0 a b):=by
 refine⟨ha.1,ha.2.1,hb.2.2.1,?_,?_⟩
 ·show((qaV _ b.2.2.1.toNat a.2.1.toNat).length:Int)=a.2.1*b.2.2.1
  rw[qaK]
  have h1:=ha.2.1
  have h2:=hb.2.2.1
  obtain⟨x,hx⟩:=Int.eq_ofNat_of_zero_le h1.1
  obtain⟨y,hy⟩:=Int.eq_ofNat_of_zero_le h2.1
  rw[hx,hy,qcr];rfl
 ·intro x hx
  have hx:x∈qaV (qjE a.1 a.2.2.2.1 b.2.2.2.1 a.2.2.1.toNat b.2.2.1.toNat) b.2.2.1.toNat a.2.1.toNat:=hx
  have hp:=ha.1.1
  have:∀ m,x∈qaV (qjE a.1 a.2.2.2.1 b.2.2.2.1 a.2.2.1.toNat b.2.2.1.toNat) b.2.2.1.toNat m→0≤x∧x≤a.1-1:=by
   intro m
   induction m with
   | zero=>intro h;simp[qaV] at h
   | succ m ih =>
    intro h
    rw[qaV,List.mem_append] at h
    rcases h with h | h
    ·exact ih h
    ·rw[List.mem_map] at h
     obtain⟨j,_,rfl⟩:=h
     have h1:=Int.emod_nonneg (qbs (fun l=>a.2.2.2.1.getD (m*a.2.2.1.toNat+l) 0) (fun l=>b.2.2.2.1.getD (l*b.2.2.1.toNat+j) 0) a.2.2.1.toNat) (show a.1≠0 by omega)
     have h2:=Int.emod_lt_of_pos (qbs (fun l=>a.2.2.2.1.getD (m*a.2.2.1.toNat+l) 0) (fun l=>b.2.2.2.1.getD (l*b.2.2.1.toNat+j) 0) a.2.2.1.toNat) (show 0<a.1 by omega)
     unfold qjE;omega
  exact this _ hx
end VeT
open Go Go.Proofs Ve
namespace VeT
end VeT
open Go Go.Proofs Ve
namespace VeT
end VeT
open Go Go.Proofs Ve
namespace VeT
end VeT
open Go Go.Proofs Ve
namespace VeT
end VeT
open Go Go.Proofs Ve
namespace VeT
def qom(c:List Sim)(w:Sim):Prop:=qi5 w∧∀ y∈w,0≤y∧y≤(c.length:Int)-1
theorem qom.get{c:List Sim}{w:Sim}(h:qom c w){i:Nat}(hi:i<w.length):∃ n:Nat,w[i]=(n:Int)∧n<c.length:=by
 have:=h.2 _ (List.getElem_mem hi)
 exact⟨(w[i]).toNat,by omega,by omega⟩
end VeT
open Go Go.Proofs Ve
namespace VeT
theorem qmS{s:Sim}(h:s.Pairwise (·<·)):qi5 s:=fun j h1 h2=>by
 rw[qag (show j-1<s.length by omega),qag h2]
 exact List.pairwise_iff_getElem.1 h (j-1) j (by omega) h2 (by omega)
end VeT
open Go Go.Proofs Ve
namespace VeT
end VeT
open Go Go.Proofs Ve
namespace VeT
end VeT
open Go Go.Proofs Ve
namespace VeT
end VeT
open Go Go.Proofs Ve
namespace VeT
def Rws(p:Int)(W:Nat)(rows:List Sim):Prop:=∀ x∈rows,x.length=W∧qbp x p
theorem Rws.flat{p:Int}{W:Nat}{rows:List Sim}(h:Rws p W rows):rows.flatten.length=rows.length*W∧qbp rows.flatten p:=by
 induction rows with
 | nil=>exact⟨by simp,fun x hx=>by simp at hx⟩
 | cons r rows ih =>
  obtain⟨h1,h2⟩:=ih fun x hx=>h x (List.mem_cons_of_mem _ hx)
  obtain⟨h3,h4⟩:=h r List.mem_cons_self
  refine⟨by rw[List.flatten_cons,List.length_append,h1,h3,List.length_cons,Nat.add_mul];omega,fun x hx=>?_⟩
  rw[List.flatten_cons,List.mem_append] at hx
  rcases hx with hx | hx
  ·exact h4 x hx
  ·exact h2 x hx
end VeT
open Go Go.Proofs Ve
namespace VeT
def qoS(A:Ent)(b:Sim)(W:Nat):Ent:=fun i j=>if j=W then b.getD i 0 else A i j
theorem qoc{p:Int}{R W:Nat}{A:Ent}{b:Sim}(hA:EIn p R W A)(hb:qbp b p)(hl:b.length=R):EIn p R (W+1) (qoS A b W):=fun i j hi hj=>by
 unfold qoS
 split
 ·rw[qag (by omega)];exact hb _ (List.getElem_mem _)
 ·exact hA i j hi (by omega)
def qo1(cells b:Sim)(W R:Nat):Sim:=qaV (qoS (qhi cells W) b W) (W+1) R
theorem qeQ{f:Ent}{W R i j:Nat}(hi:i<R)(hj:j<W):qhi (qaV f W R) W i j=f i j:=by
 unfold qhi
 rw[List.getD_eq_getElem?_getD,qdF hi hj];rfl
end VeT
open Go Go.Proofs Ve
namespace VeT
theorem qiJ{c g h:Nat→Int}:∀ {n:Nat},qbs c (fun i=>g i+h i) n=qbs c g n+qbs c h n
 | 0=>rfl
 | n+1=>by simp only[qbs];rw[qiJ,Int.mul_add];omega
theorem qeL{k:Int}{c g:Nat→Int}:∀ {n:Nat},qbs c (fun i=>k*g i) n=k*qbs c g n
 | 0=>by simp[qbs]
 | n+1=>by simp only[qbs];rw[qeL,Int.mul_add,← Int.mul_assoc,Int.mul_comm (c n) k,Int.mul_assoc]
theorem qe8{c:Nat→Int}:∀ {n:Nat},qbs c (fun _=>0) n=0
 | 0=>rfl
 | n+1=>by simp only[qbs];rw[qe8,Int.mul_zero];rfl
theorem qcD{c g:Nat→Int}:∀ {n:Nat},qbs c g n=qbs g c n
 | 0=>rfl
 | n+1=>by simp only[qbs];rw[qcD,Int.mul_comm]
theorem qeg{p:Int}{c g h:Nat→Int}:∀ {n:Nat},(∀ i,i<n→g i%p=h i%p)→qbs c g n%p=qbs c h n%p
 | 0,_=>rfl
 | n+1,hgh=>by
  simp only[qbs]
  rw[Int.add_emod,qeg (n:=n) fun i hi=>hgh i (by omega),Int.mul_emod,hgh n (Nat.lt_succ_self n),← Int.mul_emod,← Int.add_emod]
theorem qbw{c d g h:Nat→Int}:∀ {n:Nat},(∀ i,i<n→c i=d i∧g i=h i)→qbs c g n=qbs d h n
 | 0,_=>rfl
 | n+1,e=>by simp only[qbs];rw[qbw (n:=n) fun i hi=>e i (by omega),(e n (Nat.lt_succ_self n)).1,(e n (Nat.lt_succ_self n)).2]
end VeT
open Go Go.Proofs Ve
namespace VeT
def qjw(rows:List Sim):Ent:=fun i j=>(rows.getD i []).getD j 0
end VeT
open Go Go.Proofs Ve
namespace VeT
def InR(p:Int)(W:Nat)(rows:List Sim)(x:Sim):Prop:=Spn p rows.length W (qjw rows) (fun j=>x.getD j 0)
end VeT
open Go Go.Proofs Ve
namespace VeT
theorem InR.mem{p:Int}{W:Nat}{rows:List Sim}{r:Sim}(h:r∈rows):InR p W rows r:=by
 obtain⟨i,hi,e⟩:=List.mem_iff_getElem.1 h
 have:qjw rows i=fun j=>r.getD j 0:=by funext j;unfold qjw;rw[qag hi,e]
 unfold InR
 rw[← this]
 exact Spn.row hi
theorem InR.trans{p:Int}{W:Nat}{A B:List Sim}{y:Sim}(h:∀ r∈A,InR p W B r)(hy:InR p W A y):InR p W B y :=
 Spn.trans (fun i hi=>by
  have e:qjw A i=fun j=>(A[i]).getD j 0:=by funext j;unfold qjw;rw[qag hi]
  rw[e]
  exact h _ (List.getElem_mem hi)) hy
def qoo(p:Int)(W:Nat)(A B:List Sim):Prop:=∀ y,InR p W A y↔InR p W B y
theorem qoo.refl{p:Int}{W:Nat}{A:List Sim}:qoo p W A A:=fun _=>Iff.rfl
end VeT
open Go Go.Proofs Ve
namespace VeT
def qo6(p:Int)(W:Nat)(cells:Sim)(h:List Sim):Prop:=(cells.length=W*h.length∧qbp cells p)∧∀ i j,i<W→j<h.length→qhi cells h.length i j=qjw h j i
theorem qo6.next{p:Int}{W:Nat}{cells:Sim}{h:List Sim}{v:Sim}(hc:qo6 p W cells h)(hv:qbp v p)(hl:v.length=W):qo6 p W (qo1 cells v h.length W) (h++[v]):=by
 have hlen:(h++[v]).length=h.length+1:=by simp
 have hA0:=qj2 hc.1.2 hc.1.1
 have hA1:=qoc hA0 hv hl
 refine⟨⟨by rw[hlen];exact qaK,fun x hx=>?_⟩,fun i j hi hj=>?_⟩
 ·unfold qo1 at hx
  rw[← qc0] at hx
  obtain⟨row,hrow,hx⟩:=List.mem_flatten.1 hx
  obtain⟨i,hi,rfl⟩:=List.mem_map.1 hrow
  obtain⟨j,hj,rfl⟩:=List.mem_map.1 hx
  exact hA1 i j (List.mem_range.1 hi) (List.mem_range.1 hj)
 ·rw[hlen] at hj ⊢
  unfold qo1
  rw[qeQ hi hj]
  unfold qoS qjw
  by_cases hjh:j<h.length
  ·rw[if_neg (by omega),hc.2 i j hi hjh,List.getD_eq_getElem?_getD (l:=h++[v]),List.getElem?_append_left hjh,← List.getD_eq_getElem?_getD];rfl
  ·obtain rfl:j=h.length:=by omega
   rw[if_pos rfl,List.getD_eq_getElem?_getD (l:=h++[v]),List.getElem?_append_right (Nat.le_refl _)];simp
end VeT
open Go Go.Proofs Ve
namespace VeT
theorem InR.left{p:Int}{W:Nat}{A B:List Sim}{x:Sim}(h:InR p W A x):InR p W (A++B) x:=InR.trans (fun r hr=>InR.mem (List.mem_append.2 (.inl hr))) h
end VeT
open Go Go.Proofs Ve
namespace VeT
end VeT
open Go Go.Proofs Ve
namespace VeT
end VeT
open Go Go.Proofs Ve
namespace VeT
def Ld(p:Int)(W:Nat)(V:(Nat→Int)→Prop)(c:Nat):Prop:=c<W∧∃ x,V x∧(∀ j,j<c→x j%p=0)∧x c%p≠0
theorem Ld.mono{p:Int}{W:Nat}{V V':(Nat→Int)→Prop}(h:∀ x,V x→V' x){c:Nat}:Ld p W V c→Ld p W V' c:=fun⟨h1,x,hx,h2⟩=>⟨h1,x,h x hx,h2⟩
theorem Rf.nodup{R W:Nat}{F:Ent}{pv:List Nat}(h:Rf R W F pv):pv.Nodup∧∀ c∈pv,c<W:=by
 have hg:∀ i (hi:i<pv.length),pv.getD i 0=pv[i]:=fun i hi=>by rw[List.getD_eq_getElem?_getD,List.getElem?_eq_getElem hi];rfl
 constructor
 ·refine List.pairwise_iff_getElem.2 fun i j hi hj hij=>?_
  have:=h.mono i j hij hj
  rw[hg i hi,hg j hj] at this
  omega
 ·intro c hc
  obtain⟨i,hi,rfl⟩:=List.mem_iff_getElem.1 hc
  have:=h.lt i hi
  rwa [hg i hi] at this
theorem Rf.mem{R W:Nat}{F:Ent}{pv:List Nat}(h:Rf R W F pv){c:Nat}:c∈pv↔∃ i,i<pv.length∧pv.getD i 0=c:=by
 rw[List.mem_iff_getElem]
 constructor
 ·rintro⟨i,hi,rfl⟩;exact⟨i,hi,by rw[List.getD_eq_getElem?_getD,List.getElem?_eq_getElem hi];rfl⟩
 ·rintro⟨i,hi,rfl⟩;exact⟨i,hi,by rw[List.getD_eq_getElem?_getD,List.getElem?_eq_getElem hi];rfl⟩
theorem qnc{rows:List Sim}{x:Sim}{i:Nat}(hi:i<rows.length):qjw (rows++[x]) i=qjw rows i:=by
 have:(rows++[x]).getD i []=rows.getD i []:=by rw[List.getD_eq_getElem?_getD,List.getElem?_append_left hi,← List.getD_eq_getElem?_getD]
 funext j
 unfold qjw
 rw[this]
theorem qlS{rows:List Sim}{x:Sim}:qjw (rows++[x]) rows.length=fun j=>x.getD j 0:=by
 have:(rows++[x]).getD rows.length []=x:=by rw[List.getD_eq_getElem?_getD,List.getElem?_append_right (Nat.le_refl _),Nat.sub_self];rfl
 funext j
 unfold qjw
 rw[this]
theorem Spn.app{p:Int}{W:Nat}{rows:List Sim}{x:Sim}{z:Nat→Int}(h:Spn p (rows++[x]).length W (qjw (rows++[x])) z) :
  ∃(a:Int) (v:Nat→Int),Spn p rows.length W (qjw rows) v∧∀ j,j<W→z j%p=(v j+a*x.getD j 0)%p:=by
 obtain⟨c,hc⟩:=h
 refine⟨c rows.length,fun j=>qbs c (fun i=>qjw rows i j) rows.length,⟨c,fun j _=>rfl⟩,fun j hj=>?_⟩
 rw[← hc j hj,List.length_append,List.length_singleton]
 show(qbs c _ rows.length+c rows.length*qjw (rows++[x]) rows.length j)%p=_
 rw[qlS,qbw (d:=c) (h:=fun i=>qjw rows i j) fun i hi=>⟨rfl,by rw[qnc hi]⟩]
end VeT
open Go Go.Proofs Ve
namespace VeT
noncomputable def rkM(p:Int)(R W:Nat)(cells:Sim):Nat:=(elS p R (qhi cells W) W).2.length
end VeT
open Go Go.Proofs Ve
namespace VeT
end VeT
open Go Go.Proofs Ve
namespace VeT
def mE(m:Mat):Ent:=qhi m.2.2.2.1 m.2.2.1.toNat
theorem VM.num{m:Mat}(h:VM m):m.2.2.2.1.length=m.2.1.toNat*m.2.2.1.toNat:=by
 obtain⟨R,K,e,_,_,hl⟩:=h.nat
 rw[e] at hl ⊢
 simpa using hl
theorem qoj{a b:Mat}(ha:VM a)(hb:VM b)(h1:a.1=b.1)(h2:a.2.1=b.2.1)(h3:a.2.2.1=b.2.2.1)(h:∀ i j,i<a.2.1.toNat→j<a.2.2.1.toNat→mE a i j=mE b i j):a=b:=by
 refine qhd.2 ⟨h1,h2,h3,?_⟩
 have ea:=qi2 ha.num
 have eb:=qi2 hb.num
 rw[← h2,← h3] at eb
 rw[← ea,← eb]
 refine qgz fun i j hi hj=>?_
 have:=h i j hi hj
 unfold mE at this
 rwa [← h3] at this
theorem qnD{a b:Mat}{i j:Nat}(hi:i<a.2.1.toNat)(hj:j<b.2.2.1.toNat):mE (qj0 a b) i j=qbs (mE a i) (fun l=>mE b l j) a.2.2.1.toNat%a.1:=by
 show qhi (qaV (qjE a.1 a.2.2.2.1 b.2.2.2.1 a.2.2.1.toNat b.2.2.1.toNat) b.2.2.1.toNat a.2.1.toNat) b.2.2.1.toNat i j=_
 rw[qeQ hi hj];rfl
theorem qjb{p:Int}{c g h:Nat→Int}{n:Nat}(H:∀ i,i<n→c i%p=g i%p):qbs c h n%p=qbs g h n%p:=by
 rw[qcD,qcD (c:=g)];exact qeg H
end VeT
open Go Go.Proofs Ve
namespace VeT
def qnN(p:Int)(R W:Nat)(A:Ent)(x:Nat→Int):Prop:=∀ i,i<R→qbs x (A i) W%p=0
end VeT
open Go Go.Proofs Ve
namespace VeT
end VeT
open Go Go.Proofs Ve
namespace VeT
end VeT
open Go Go.Proofs Ve
namespace VeT
end VeT
open Go Go.Proofs Ve
namespace VeT
end VeT
open Go Go.Proofs Ve
namespace VeT
theorem qnN.add{p:Int}{R W:Nat}{A:Ent}{x y:Nat→Int}(hx:qnN p R W A x)(hy:qnN p R W A y):qnN p R W A fun j=>x j+y j:=fun i hi=>by
 rw[qh5,Int.add_emod,hx i hi,hy i hi];simp
theorem qnN.congr{p:Int}{R W:Nat}{A:Ent}{x y:Nat→Int}(h:∀ j,j<W→x j%p=y j%p)(hx:qnN p R W A x):qnN p R W A y:=fun i hi=>by
 rw[← hx i hi,qcD,qcD (c:=x)]
 exact(qeg fun j hj=>h j hj).symm
end VeT
open Go Go.Proofs Ve
namespace VeT
end VeT
open Go Go.Proofs Ve
namespace VeT
theorem qkU{c:List Sim}(h:VC c){k:Int}{s:Nat}(hs:s<c.length)(hd:((c.getD s []).length:Int)=k+1){x:Int}(hx:x∈qbZ c s):x∈qae c (k-1) c.length:=by
 unfold qbZ at hx
 obtain⟨f,hf,rfl⟩:=List.mem_map.1 hx
 have hfc:=h.2.2.2 s hs f hf
 have hfl:=qiG hf
 obtain⟨q,hq,e⟩:=List.mem_iff_getElem.1 hfc
 have:=(qih h.srt (s:=f) hq).2 e.symm
 rw[this]
 exact qbt.2 ⟨q,rfl,hq,by rw[qag hq,e];omega⟩
noncomputable def bdJ(c:List Sim)(k p:Int)(s j:Nat)(cells:List Int):Nat→List Int
 | 0=>cells
 | i+1=>(bdJ c k p s j cells i).set (((qbZ c s).getD i 0-(qae c (k-1) c.length).getD 0 0).toNat*(qae c k c.length).length+j) (sgn p i)
noncomputable def bdC(c:List Sim)(k p:Int):Nat→List Int
 | 0=>List.replicate ((qae c (k-1) c.length).length*(qae c k c.length).length) 0
 | j+1=>bdJ c k p ((qae c k c.length).getD j 0).toNat j (bdC c k p j) (qbZ c ((qae c k c.length).getD j 0).toNat).length
theorem qdD{c:List Sim}{k p:Int}{s j:Nat}{cells:List Int}:∀ {i:Nat},(bdJ c k p s j cells i).length=cells.length
 | 0=>rfl
 | i+1=>by unfold bdJ;rw[List.length_set,qdD]
theorem qdB{c:List Sim}{k p:Int}:∀ {j:Nat},(bdC c k p j).length=(qae c (k-1) c.length).length*(qae c k c.length).length
 | 0=>by simp[bdC]
 | j+1=>by unfold bdC;rw[qdD,qdB]
theorem qiY{c:List Sim}{k p:Int}(hp:2≤p∧p≤251){s j:Nat}{cells:List Int}(h:qbp cells p):∀ {i:Nat},qbp (bdJ c k p s j cells i) p
 | 0=>h
 | i+1=>fun x hx=>by
  unfold bdJ at hx
  rcases List.mem_or_eq_of_mem_set hx with hx | rfl
  ·exact qiY hp h x hx
  ·exact qmC hp i
theorem qi0{c:List Sim}{k p:Int}(hp:2≤p∧p≤251):∀ {j:Nat},qbp (bdC c k p j) p
 | 0=>qix hp.1
 | j+1=>by unfold bdC;exact qiY hp (qi0 hp)
theorem qkr{c:List Sim}{p:Int}:∀ {j:Nat},j≤(qae c 0 c.length).length→bdC c 0 p j=List.replicate ((qae c (0-1) c.length).length*(qae c 0 c.length).length) 0
 | 0,_=>rfl
 | j+1,h=>by
  unfold bdC
  obtain⟨s,e,hs,hd⟩:=qbt.1 (List.getElem_mem (show j<(qae c 0 c.length).length by omega))
  have e2:((qae c 0 c.length).getD j 0).toNat=s:=by rw[qag (by omega),e];rfl
  have hz:(qbZ c s).length=0:=by rw[qbi,if_neg (by omega)]
  rw[e2,hz,bdJ]
  exact qkr (by omega)
noncomputable def bdM(c:List Sim)(k p:Int):Mat:=(p,((qae c (k-1) c.length).length:Int),((qae c k c.length).length:Int),bdC c k p (qae c k c.length).length,())
structure BdF (c:List Sim) (k p:Int):Prop where
 sc:Sm (.sl (.sl (.int .i64))) c
 vc:VC c
 pr:Pr p
 hk:0≤k∧k≤4
 lu:(qae c k c.length).length≤32
 ll:(qae c (k-1) c.length).length≤32
theorem BdF.hp{c:List Sim}{k p:Int}(F:BdF c k p):2≤p∧p≤251:=⟨F.pr.1,F.pr.2.1⟩
theorem BdF.vm{c:List Sim}{k p:Int}(F:BdF c k p):VM (bdM c k p):=by
 have:=F.lu
 have:=F.ll
 refine⟨F.pr,⟨by show(0:Int)≤((qae c (k-1) c.length).length:Int);omega,by show((qae c (k-1) c.length).length:Int)≤32;omega⟩,⟨by show(0:Int)≤((qae c k c.length).length:Int);omega,by show((qae c k c.length).length:Int)≤32;omega⟩,?_,qi0 F.hp⟩
 show((bdC c k p (qae c k c.length).length).length:Int)=((qae c (k-1) c.length).length:Int)*((qae c k c.length).length:Int)
 rw[qdB,Int.natCast_mul]
theorem BdF.col{c:List Sim}{k p:Int}(F:BdF c k p){j:Nat}(hj:j<(qae c k c.length).length) :
  ∃ s:Nat,s<c.length∧(qae c k c.length)[j]=(s:Int)∧((qae c k c.length).getD j 0).toNat=s∧(qbZ c s).length≤4 ∧
   ∀ i (hi:i<(qbZ c s).length),∃ t f0:Nat,(qbZ c s)[i]=(t:Int)∧(qbZ c s).getD i 0=(t:Int)∧t<c.length∧f0≤t∧(qae c (k-1) c.length).getD 0 0=(f0:Int) ∧
    qg9 (fun y=>pb (y=(t:Int))) (qae c (k-1) c.length)=((t-f0:Nat):Int)∧t-f0<(qae c (k-1) c.length).length:=by
 obtain⟨s,e,hs,hd⟩:=qbt.1 (List.getElem_mem hj)
 refine⟨s,hs,e,by rw[qag hj,e];rfl,F.vc.fIdx4 hs,fun i hi=>?_⟩
 obtain⟨t,f0,e1,e2,e3,e4,e5,e6⟩:=qf5 F.vc.srt (qkU F.vc hs hd (List.getElem_mem hi))
 refine⟨t,f0,e1,by rw[qag hi,e1],e2,e3,?_,by rw[← e1];exact e5,e6⟩
 rw[List.getD_eq_getElem?_getD,← List.head?_eq_getElem?,e4];rfl
theorem qgS(c:List Sim)(k p:Int)(F:BdF c k p):Ret E n_Z102 [dC (c,()),dI k,dI p] ⟨o_Z102,bdM c k p⟩:=by
 have hk:=F.hk
 have lu:=F.lu
 have ll:=F.ll
 have hHW:=qii ll lu
 refine qat ?_
 simp only[run_Z102,Z102.ev]
 rw[qam (n:=k-1) (by omega) (by omega)]
 refine qac (qdi c k F.sc (by omega)) (qac (qdi c (k-1) F.sc (by omega)) (qac (qdY p _ _ ll lu) ?_))
 refine Ev.start (p:=fun φ n=>Z102.l0 (mkR (run E (φ 0))) (φ 0) n (c,()) k p (qae c k c.length) (qae c (k-1) c.length) 0 0 0 0 p ((qae c (k-1) c.length).length:Int) ((qae c k c.length).length:Int) (List.replicate ((qae c (k-1) c.length).length*(qae c k c.length).length) 0)=_) 1 ?_ (fun _ _ _ h=>h)
 by_cases hk0:k=0
 ·subst hk0
  have hz:=qkr (c:=c) (p:=p) (Nat.le_refl _)
  unfold bdM
  rw[hz]
  refine Ev.round 1 (L:=fun φ n=>Z102.l0 (mkR (run E (φ 0))) (φ 0) n (c,()) 0 p (qae c 0 c.length) (qae c (0-1) c.length) 0 0 0 0 p ((qae c (0-1) c.length).length:Int) ((qae c 0 c.length).length:Int) (List.replicate ((qae c (0-1) c.length).length*(qae c 0 c.length).length) 0)) ?_ (fun _ _ _=>rfl)
  simp only[Z102.l0_succ _ qaj,Z102.j1_eq _ qaj]
  refine qd9 (fun _=>?_) fun _=>?_
  ·exact qaF (by decide) qap
  ·exact qaF rfl qap
 refine qay 1 (L:=fun φ n j o=>Z102.l0 (mkR (run E (φ 0))) (φ 0) n (c,()) k p (qae c k c.length) (qae c (k-1) c.length) j 0 0 0 p ((qae c (k-1) c.length).length:Int) ((qae c k c.length).length:Int) o) (len:=(qae c k c.length).length) (fun j=>bdC c k p j) (fun _ _ _ _ _=>rfl) (fun j r hj ih=>?_) ?_
 ·obtain⟨s,hs,e1,e2,e4,e3⟩:=F.col hj
  rw[bdC,e2] at ih
  simp only[Z102.l0_succ _ qaj,Z102.j1_eq _ qaj]
  refine qaD (decide_eq_true (by omega)) (qaD (decide_eq_true (by omega)) (qak (qas hj) ?_))
  rw[e1]
  refine qac (qjr c s hs F.sc) ?_
  simp only
  refine Ev.start (p:=fun φ n=>Z102.l2 (mkR (run E (φ 0))) (φ 0) (φ 1) n (c,()) k p (qae c k c.length) (qae c (k-1) c.length) (j:Int) (qbZ c s) 0 0 0 0 p ((qae c (k-1) c.length).length:Int) ((qae c k c.length).length:Int) (bdC c k p j)=_) 2 ?_ (fun _ _ _ h=>h)
  refine qay 2 (L:=fun φ n i o=>Z102.l2 (mkR (run E (φ 0))) (φ 0) (φ 1) n (c,()) k p (qae c k c.length) (qae c (k-1) c.length) (j:Int) (qbZ c s) i 0 0 0 p ((qae c (k-1) c.length).length:Int) ((qae c k c.length).length:Int) o) (len:=(qbZ c s).length) (fun i=>bdJ c k p s j (bdC c k p j) i) (fun _ _ _ _ _=>rfl) (fun i q hi ihi=>?_) ?_
  ·obtain⟨t,f0,t1,t2,tc,t3,t4,t5,t6⟩:=e3 i hi
   rw[bdJ,t2,t4,show((t:Int)-(f0:Int)).toNat=t-f0 by omega] at ihi
   simp only[Z102.l2_succ _ qaj]
   have h0':0<(qae c (k-1) c.length).length:=by omega
   have hget0:idx? (qae c (k-1) c.length) (0:Int)=some (f0:Int):=by
    have:(qae c (k-1) c.length)[0]=(f0:Int):=by rw[qag h0'] at t4;exact t4
    rw[← this];exact qas (k:=0) h0'
   have ql:t≤48:=Nat.le_trans (Nat.le_of_lt tc) F.vc.1
   have hlt:=ql9 t6 hj
   have hm1:w64 ((t:Int)-(f0:Int))=((t-f0:Nat):Int):=by rw[qam (by omega) (by omega)];omega
   have hm2:w64 (((t-f0:Nat):Int)*((qae c k c.length).length:Int))=(((t-f0)*(qae c k c.length).length:Nat):Int):=by
    rw[qcr,qam (by omega) (by omega)]
   have hm3:w64 ((((t-f0)*(qae c k c.length).length:Nat):Int)+(j:Int))=(((t-f0)*(qae c k c.length).length+j:Nat):Int):=by
    rw[qam (by omega) (by omega)];omega
   refine qaD (decide_eq_true (by omega)) (qak (qas hi) (qak hget0 ?_))
   rw[t1,qao (k:=i) (by omega)]
   refine qac (qkg p i F.hp) ?_
   simp only
   rw[hm1,hm2,hm3,Int.toNat_natCast]
   exact qaG (by rw[qdD,qdB];simp;omega) ihi
  ·simp only[Z102.l2_succ _ qaj]
   rw[qao (k:=j) (by omega)]
   exact qaF (decide_eq_false (by omega)) ih
 ·simp only[Z102.l0_succ _ qaj,Z102.j1_eq _ qaj]
  exact qaF (decide_eq_false (by omega)) (qaF rfl qap)
def Sm3(c:List Sim)(k:Int):Prop:=∀ t:Nat,0≤t→t<3→(qae c (k-1+t) c.length).length≤32
open Classical in
noncomputable def HC(c:List Sim)(k p:Int):Int:=if VC c∧Pr p then(if 0≤k∧k≤3 then(if Sm3 c k then 0 else 5) else 2) else 1
theorem qod{c:List Sim}{k p:Int}(h:HC c k p=0):(VC c∧Pr p)∧(0≤k∧k≤3)∧Sm3 c k:=by
 unfold HC at h
 by_cases h1:VC c∧Pr p
 ·rw[if_pos h1] at h
  by_cases h2:0≤k∧k≤3
  ·rw[if_pos h2] at h
   by_cases h3:Sm3 c k
   ·exact⟨h1,h2,h3⟩
   ·rw[if_neg h3] at h;exact absurd h (by decide)
  ·rw[if_neg h2] at h;exact absurd h (by decide)
 ·rw[if_neg h1] at h;exact absurd h (by decide)
theorem qnZ{c:List Sim}{k p:Int}(sc:Sm (.sl (.sl (.int .i64))) c)(h:HC c k p=0):BdF c k p∧BdF c (k+1) p:=by
 obtain⟨⟨h1,h2⟩,h3,h4⟩:=qod h
 have a:=h4 0 (by omega) (by omega)
 have b:=h4 1 (by omega) (by omega)
 have d:=h4 2 (by omega) (by omega)
 rw[show k-1+((0:Nat):Int)=k-1 by omega] at a
 rw[show k-1+((1:Nat):Int)=k by omega] at b
 rw[show k-1+((2:Nat):Int)=k+1 by omega] at d
 exact⟨⟨sc,h1,h2,by omega,b,a⟩,⟨sc,h1,h2,by omega,d,by rw[show k+1-1=k by omega];exact b⟩⟩
open Classical in
theorem qk6(c:Cpx)(k p:Int)(sc:Sm (.sl (.sl (.int .i64))) c.1):Ret E n_Z101 [dC c,dI k,dI p] ⟨o_Z101,(HC c.1 k p,())⟩:=by
 obtain⟨c,⟨⟩⟩:=c
 have sc:Sm (.sl (.sl (.int .i64))) c:=sc
 refine qat ?_
 simp only[run_Z101,Z101.ev]
 unfold HC
 refine qac (qdz (c,()) sc) ?_
 by_cases h1:VC c
 ·refine qaF (by rw[qax h1];rfl) (qac (qcu p) ?_)
  simp only[Z101.j0_eq _ qaj]
  by_cases h2:Pr p
  ·rw[if_pos ⟨h1,h2⟩]
   refine qaF (by rw[qax h2];rfl) (qac (qfF k) ?_)
   by_cases h3:0≤k∧k≤3
   ·rw[if_pos h3]
    refine qaF (by rw[qax h3];rfl) (qac (qdi c k sc (by omega)) ?_)
    rw[qam (n:=k-1) (by omega) (by omega),qam (n:=k+1) (by omega) (by omega)]
    have hs:Sm3 c k↔(qae c k c.length).length≤32∧(qae c (k-1) c.length).length≤32∧(qae c (k+1) c.length).length≤32:=by
     unfold Sm3
     constructor
     ·intro h
      have a:=h 0 (by omega) (by omega)
      have b:=h 1 (by omega) (by omega)
      have d:=h 2 (by omega) (by omega)
      rw[show k-1+((0:Nat):Int)=k-1 by omega] at a
      rw[show k-1+((1:Nat):Int)=k by omega] at b
      rw[show k-1+((2:Nat):Int)=k+1 by omega] at d
      exact⟨b,a,d⟩
     ·rintro⟨b,a,d⟩ t _ ht
      rcases(show t=0∨t=1∨t=2 by omega) with rfl | rfl | rfl
      ·rw[show k-1+((0:Nat):Int)=k-1 by omega];exact a
      ·rw[show k-1+((1:Nat):Int)=k by omega];exact b
      ·rw[show k-1+((2:Nat):Int)=k+1 by omega];exact d
    have bad:¬ Sm3 c k→Ev fun φ=>Z101.j1 (mkR (run E (φ 0))) (φ 0) true=some ⟨o_Z101,((if Sm3 c k then 0 else 5),())⟩:=fun h=>by
     rw[if_neg h]
     simp only[Z101.j1_eq _ qaj]
     exact qaD rfl qap
    by_cases a1:(qae c k c.length).length≤32
    ·refine qaF (decide_eq_false (by first | omega | (simp only;omega))) (qac (qdi c (k-1) sc (by omega)) ?_)
     by_cases a2:(qae c (k-1) c.length).length≤32
     ·refine qaF (decide_eq_false (by first | omega | (simp only;omega))) (qac (qdi c (k+1) sc (by omega)) ?_)
      by_cases a3:(qae c (k+1) c.length).length≤32
      ·rw[if_pos (hs.2 ⟨a1,a2,a3⟩)]
       simp only[Z101.j1_eq _ qaj]
       exact qaF (decide_eq_false (by first | omega | (simp only;omega))) qap
      ·rw[if_neg fun h=>a3 (hs.1 h).2.2]
       simp only[Z101.j1_eq _ qaj]
       exact qaD (decide_eq_true (by first | omega | (simp only;omega))) qap
     ·exact qaD (decide_eq_true (by first | omega | (simp only;omega))) (bad fun h=>a2 (hs.1 h).2.1)
    ·exact qaD (decide_eq_true (by first | omega | (simp only;omega))) (bad fun h=>a1 (hs.1 h).1)
   ·rw[if_neg h3]
    exact qaD (by rw[qau h3];rfl) qap
  ·rw[if_neg fun h=>h2 h.2]
   exact qaD (by rw[qau h2];rfl) qap
 ·rw[if_neg fun h=>h1 h.1]
  refine qaD (by rw[qau h1];rfl) ?_
  simp only[Z101.j0_eq _ qaj]
  exact qaD rfl qap
end VeT
open Go Go.Proofs Ve
namespace VeT
theorem qjh:∀ {a b:Sim},qdb a b=qfx a b
 | [],[]=>rfl
 | [],_::_=>rfl
 | _::_,[]=>rfl
 | x::xs,y::ys=>by rw[qdb,qfx,qjh]
theorem qdm{a b:Sim}:qcy a b=qdj a b:=by
 unfold qcy qdj
 rw[qjh];rfl
theorem qi7(n:Nat)(args:List Dv):run E (n+1) n_Z61 args=qe9 n_Z17 (mkR (run E n)) args:=rfl
theorem qk3{m:Nat}{R:Run}{xs:List Sim}(h:xs.length≤1048576∧(⟨.fn m .nil,()⟩:Dv)=⟨.fn m .nil,()⟩∧∀ x∈xs,∀ y∈xs,R.r m [⟨tL,x⟩,⟨tL,y⟩]=some ⟨.cons tI .nil,(qdj x y,())⟩) :
  qe9 m R [⟨tLL,xs⟩,⟨.fn m .nil,()⟩]=some ⟨.cons tLL .nil,(qds xs,())⟩:=by
 unfold qe9
 simp only[show(⟨tLL,xs⟩:Dv).to tLL=some xs from rfl,Option.bind_some]
 exact if_pos h
theorem qlE{α:Type}{p:α→Nat→Prop}{l:List α}(h:∀ x∈l,Evt (p x)):Evt fun n=>∀ x∈l,p x n:=by
 induction l with
 | nil=>exact Evt.of fun n x hx=>by cases hx
 | cons a l ih =>
  refine((h a List.mem_cons_self).and (ih fun x hx=>h x (List.mem_cons_of_mem _ hx))).mono fun n ⟨h1,h2⟩ x hx=>?_
  rcases List.mem_cons.1 hx with rfl | hx
  ·exact h1
  ·exact h2 x hx
theorem qjo(xs:List Sim)(hs:Sm (.sl (.sl (.int .i64))) xs):Ret E n_Z61 [dLL xs,⟨.fn n_Z17 .nil,()⟩] ⟨o_Z61,(qds xs,())⟩:=by
 have hl:xs.length≤1048576:=hs.1
 have hall:Evt fun n=>∀ x∈xs,∀ y∈xs,run E n n_Z17 [dL x,dL y]=some ⟨o_Z17,(qdj x y,())⟩ :=
  qlE fun x hx=>qlE fun y hy=>by
   have:=qaP x y (hs.2 x hx)
   rw[qdm] at this
   exact this
 refine Evt.succ (hall.mono fun n h=>?_)
 rw[qi7]
 exact qk3 ⟨hl,rfl,h⟩
theorem qgV(rows:List Sim)(hl:rows.length≤1048576)(hs:∀ x∈rows,x.length≤1048576):Ret E n_Z18 [dLL rows] ⟨o_Z18,(rows,())⟩:=by
 refine qat ?_
 simp only[run_Z18,Z18.ev]
 refine Ev.start (p:=fun φ n=>Z18.l0 (mkR (run E (φ 0))) (φ 0) n rows (rows.length:Int) 0 []=_) 1 ?_ (fun _ _ _ h=>h)
 refine qay 1 (L:=fun φ n k o=>Z18.l0 (mkR (run E (φ 0))) (φ 0) n rows (rows.length:Int) k o) (len:=rows.length) (fun k=>rows.take k) (fun _ _ _ _ _=>rfl) (fun k r hk ih=>?_) ?_
 ·simp only[Z18.l0_succ _ qaj]
  rw[List.take_succ_eq_append_getElem hk] at ih
  refine qaD (decide_eq_true (by omega)) (qak (qas hk) (qac (qlM _ (hs _ (List.getElem_mem hk))) (qaG (by simp only[List.length_take,List.length_singleton,decide_eq_true_eq];omega) ?_)))
  rw[qao (by omega)];exact ih
 ·simp only[Z18.l0_succ _ qaj]
  refine qaF (decide_eq_false (by omega)) (qan ?_)
  rw[List.take_of_length_le (Nat.le_refl _)]
theorem qk5(n:Nat)(args:List Dv):run E (n+1) n_Z44 args=qdc n_Z53 (mkR (run E n)) args:=rfl
-- qdc
theorem qfB(xs:List Sim)(hs:Sm (.sl (.sl (.int .i64))) xs) :
  Ret E n_Z44 [dLL xs,⟨.fn n_Z53 .nil,()⟩] ⟨o_Z44,(sel (mC xs xs.length) xs,())⟩:=by
 have hl:xs.length≤1048576:=hs.1
 have hall:Evt fun n=>∀ i,i<xs.length-1→∀(h:i+1<xs.length),run E n n_Z53 [dL xs[i+1],dL xs[i]]=some ⟨o_Z53,(xs[i+1]==xs[i],())⟩ :=
  Evt.lt fun i hi=>by
   have h:i+1<xs.length:=by omega
   have h2:=qg8 xs[i+1] xs[i] (qba hs h).1
   rw[show pb (xs[i+1]=xs[i])=(xs[i+1]==xs[i]) by rw[Bool.eq_iff_iff,qaM,beq_iff_eq]] at h2
   exact Evt.mono h2 fun n h3 _=>h3
 refine Evt.succ (hall.mono fun n h=>?_)
 rw[qk5]
 unfold qdc
 simp only[show(⟨tLL,xs⟩:Dv).to tLL=some xs from rfl,Option.bind_some]
 exact if_pos ⟨hl,rfl,fun i hi=>h i (by omega) hi⟩
-- qdc
theorem qk8{l:List Sim}(h:l.Pairwise (fun a b=>qdj a b≤0)):∀ {m:Nat},m≤l.length→(sel (mC l m) l).Pairwise (fun a b=>qdj a b<0)∧(∀ x,x∈sel (mC l m) l↔x∈l.take m):=by
 intro m
 induction m with
 | zero=>intro _;simp[mC,sel]
 | succ m ih =>
  intro hm
  obtain⟨h1,h2⟩:=ih (by omega)
  have hml:m<l.length:=by omega
  rw[mC,qew (by rw[qfp];exact hml)]
  have e:(l[(mC l m).length]'(by rw[qfp];exact hml))=l[m]:=by congr 1;exact qfp
  rw[e,List.take_succ_eq_append_getElem hml]
  by_cases h0:m=0
  ·subst h0
   simp[mC,sel]
  ·obtain⟨q,rfl⟩:∃ q,m=q+1:=⟨m-1,by omega⟩
   have g1:l[q+1]? = some l[q+1]:=List.getElem?_eq_getElem hml
   have g2:l[q+1-1]? = some l[q]:=by rw[Nat.add_sub_cancel];exact List.getElem?_eq_getElem (by omega)
   rw[g1,g2,show(q+1==0)=false from rfl,Bool.false_or]
   have hq:l[q]∈l.take (q+1):=by rw[List.take_succ_eq_append_getElem (show q<l.length by omega)];exact List.mem_append.2 (.inr (List.mem_singleton.2 rfl))
   by_cases he:l[q+1]=l[q]
   ·rw[show(some l[q+1]==some l[q])=true by rw[he];simp]
    simp only[Bool.not_true,cond_false,List.append_nil]
    refine⟨h1,fun x=>?_⟩
    rw[h2,List.mem_append,List.mem_singleton]
    exact⟨.inl,fun hx=>hx.elim id fun e=>by rw[e,he];exact hq⟩
   ·rw[show(some l[q+1]==some l[q])=false from beq_false_of_ne fun e=>he (Option.some.inj e)]
    simp only[Bool.not_false,cond_true]
    have hlt:∀ x∈sel (mC l (q+1)) l,qdj x l[q+1]<0:=fun x hx=>by
     have hx:=(h2 x).1 hx
     have hq1:qdj l[q] l[q+1]≤0:=List.pairwise_iff_getElem.1 h q (q+1) (by omega) hml (by omega)
     have hq2:qdj l[q] l[q+1]<0:=by
      rcases Int.lt_or_eq_of_le hq1 with h | h
      ·exact h
      ·exact absurd (qdw.1 h).symm he
     obtain⟨i,hi,rfl⟩:=List.mem_iff_getElem.1 hx
     rw[List.length_take] at hi
     rw[List.getElem_take]
     by_cases e:i=q
     ·subst e;exact hq2
     ·have h3:qdj l[i] l[q]≤0:=List.pairwise_iff_getElem.1 h i q (by omega) (by omega) (by omega)
      rcases Int.lt_or_eq_of_le h3 with h | h
      ·have:=qdE (by rw[qdm];exact h) (by rw[qdm];exact hq2)
       rwa [qdm] at this
      ·rw[qdw.1 h];exact hq2
    refine⟨List.pairwise_append.2 ⟨h1,List.pairwise_singleton _ _,fun x hx y hy=>?_⟩,fun x=>?_⟩
    ·rw[List.mem_singleton] at hy;subst hy;exact hlt x hx
    ·rw[List.mem_append,List.mem_append,h2]
-- qdc
noncomputable def qkY(xs:List Sim):List Sim:=sel (mC (qds xs) (qds xs).length) (qds xs)
-- qdc
theorem qiU(xs:List Sim):Srt (qkY xs)∧(∀ x,x∈qkY xs↔x∈xs)∧(qkY xs).length≤xs.length:=by
 have hp:(qds xs).Pairwise (fun a b=>qdj a b≤0):=(qhf xs).imp fun h=>by unfold leX at h;exact of_decide_eq_true h
 obtain⟨h1,h2⟩:=qk8 hp (Nat.le_refl _)
 refine⟨fun i j hj hij=>?_,fun x=>?_,?_⟩
 ·rw[qdm];exact List.pairwise_iff_getElem.1 h1 i j (by unfold qkY at hj;omega) hj hij
 ·unfold qkY
  rw[h2,List.take_length]
  exact(List.mergeSort_perm xs leX).mem_iff
 ·have:=qj7 (ms:=mC (qds xs) (qds xs).length) (l:=qds xs)
  exact Nat.le_trans this (Nat.le_of_eq (qdn xs))
-- qdc
theorem qi1(c:List Sim)(hc:Sm (.sl (.sl (.int .i64))) c):Ret E n_Z23 [dLL c] ⟨o_Z23,(qkY c,())⟩:=by
 have h1:=qjo c hc
 have hs:Sm (.sl (.sl (.int .i64))) (qds c):=⟨by show(qds c).length≤1048576;rw[qdn];exact hc.1,fun x hx=>hc.2 x ((List.mergeSort_perm c leX).mem_iff.1 hx)⟩
 refine qat ?_
 simp only[run_Z23,Z23.ev]
 exact qac (qgV c hc.1 fun x hx=>(hc.2 x hx).1) (qac h1 (qac (qfB _ hs) qap))
end VeT
open Go Go.Proofs Ve
namespace VeT
def Fa(x s:Sim):Prop:=x≠[]∧x.Sublist s
def Cl(c:List Sim):Prop:=∀ y∈c,∀ x,Fa x y→x∈c
theorem qi9:∀ {x s:Sim},x.Sublist s→x≠s→∃ i,i<s.length∧x.Sublist (s.eraseIdx i)
 | _,_,.slnil,h=>absurd rfl h
 | x,_,.cons a h,_=>⟨0,by simp,by simpa using h⟩
 | _,_,.cons_cons (l₁:=l) (l₂:=l') a h,hn=>by
  obtain⟨i,hi,hs⟩:=qi9 h fun e=>hn (by rw[e])
  exact⟨i+1,by simp;omega,by simpa using hs⟩
theorem qlx{x s:Sim}:Fa x s↔(x=s∧s≠[])∨∃ i,i<s.length∧Fa x (s.eraseIdx i):=by
 constructor
 ·rintro⟨h1,h2⟩
  by_cases e:x=s
  ·exact .inl ⟨e,e ▸ h1⟩
  ·obtain⟨i,hi,hs⟩:=qi9 h2 e
   exact .inr ⟨i,hi,h1,hs⟩
 ·rintro(⟨rfl,h⟩ | ⟨i,hi,h1,h2⟩)
  ·exact⟨h,List.Sublist.refl _⟩
  ·exact⟨h1,h2.trans (List.eraseIdx_sublist _ _)⟩
theorem qkD{x y z:Sim}(h1:Fa x y)(h2:Fa y z):Fa x z:=⟨h1.1,h1.2.trans h2.2⟩
theorem qiF{x s:Sim}(h:Fa x s):x.length≤s.length:=h.2.length_le
theorem VC.cl{c:List Sim}(h:VC c):Cl c:=by
 have main:∀(n:Nat) (y:Sim),y.length=n→y∈c→∀ x,Fa x y→x∈c:=by
  intro n
  induction n with
  | zero =>
   intro y hy hm x hf
   have:=qiF hf
   exact absurd (List.length_eq_zero_iff.1 (by omega)) hf.1
  | succ n ih =>
   intro y hy hm x hf
   rcases qlx.1 hf with ⟨rfl,_⟩ | ⟨i,hi,hf2⟩
   ·exact hm
   ·have hl:(y.eraseIdx i).length=n:=by rw[List.length_eraseIdx,if_pos hi];omega
    have h1:1<y.length:=by
     have:=qiF hf2
     have:=List.length_pos_iff.2 hf2.1
     omega
    obtain⟨k,hk,e⟩:=List.mem_iff_getElem.1 hm
    have:=h.2.2.2 k hk (y.eraseIdx i) (by rw[qag hk,e];exact qbQ.2 ⟨h1,i,hi,rfl⟩)
    exact ih _ hl this x hf2
 exact fun y hy x hf=>main y.length y rfl hy x hf
def qko:Nat→Nat
 | 0=>1
 | n+1=>(n+2)*qko n+1
theorem qoB{o:List Sim}{s:Sim}(hs:Srt o)(hn:s∉o):∃ t,t≤o.length∧(∀ j (h:j<o.length),j<t→qcy o[j] s<0)∧(∀ h:t<o.length,¬ qcy o[t] s<0)∧Srt (o.take t++[s]++o.drop t):=by
 refine⟨bs o s,qoH,fun j h hj=>(qhR hs h).1 hj,fun h hlt=>?_,?_⟩
 ·have:=(qhR hs h).2 hlt;omega
 ·have pw:o.Pairwise (fun a b=>qcy a b<0):=List.pairwise_iff_getElem.2 fun i j hi hj hij=>hs i j hj hij
  have h1:∀ x∈o.take (bs o s),qcy x s<0:=fun x hx=>by
   obtain⟨i,hi,rfl⟩:=List.mem_iff_getElem.1 hx
   rw[List.length_take] at hi
   rw[List.getElem_take]
   exact(qhR hs (by omega)).1 (by omega)
  have h2:∀ x∈o.drop (bs o s),qcy s x<0:=fun x hx=>by
   obtain⟨i,hi,rfl⟩:=List.mem_iff_getElem.1 hx
   rw[List.length_drop] at hi
   rw[List.getElem_drop]
   have h3:¬ qcy o[bs o s+i] s<0:=fun h=>by
    have:=(qhR hs (show bs o s+i<o.length by omega)).2 h;omega
   have h4:qcy o[bs o s+i] s≠0:=fun h=>hn (by rw[← qcc.1 h];exact List.getElem_mem _)
   have:=qkB (a:=o[bs o s+i]) (b:=s)
   omega
  have pwn:(o.take (bs o s)++[s]++o.drop (bs o s)).Pairwise (fun a b=>qcy a b<0):=by
   rw[List.pairwise_append]
   refine⟨?_,pw.sublist (List.drop_sublist _ _),fun x hx y hy=>?_⟩
   ·rw[List.pairwise_append]
    refine⟨pw.sublist (List.take_sublist _ _),List.pairwise_singleton _ _,fun x hx y hy=>?_⟩
    rw[List.mem_singleton] at hy;subst hy;exact h1 x hx
   ·rcases List.mem_append.1 hx with hx | hx
    ·exact qdE (h1 x hx) (h2 y hy)
    ·rw[List.mem_singleton] at hx;subst hx;exact h2 y hy
  exact fun i j hj hij=>List.pairwise_iff_getElem.1 pwn i j (by omega) hj hij
theorem qlU{o:List Sim}{s x:Sim}{t:Nat}:x∈o.take t++[s]++o.drop t↔x∈o∨x=s:=by
 rw[List.mem_append,List.mem_append,List.mem_singleton]
 conv=>rhs;rw[← List.take_append_drop t o]
 rw[List.mem_append]
 constructor
 ·rintro((h | h) | h)
  ·exact .inl (.inl h)
  ·exact .inr h
  ·exact .inl (.inr h)
 ·rintro((h | h) | h)
  ·exact .inl (.inl h)
  ·exact .inr h
  ·exact .inl (.inr h)
theorem qkJ(s:Sim)(o:List Sim)(N1:Nat→Nat)(hs1:s.length≤1048576)(ho:Sm (.sl (.sl (.int .i64))) o)(hl:o.length+1≤1048576)(hs:Srt o)(hn:s∉o) :
  ∃ t,t≤o.length∧Srt (o.take t++[s]++o.drop t)∧Ev fun φ=>Z99.l2 (mkR (run E (φ 0))) (φ 0) (φ 2) s 0 o=some ⟨o_Z99,((o.take t++[s]++o.drop t,()),())⟩:=by
 obtain⟨t,ht,h1,h2,h3⟩:=qoB hs hn
 refine⟨t,ht,h3,?_⟩
 have fin:Ev fun φ=>Z99.j3 (mkR (run E (φ 0))) (φ 0) (φ 2) s (t:Int) false o=some ⟨o_Z99,((o.take t++[s]++o.drop t,()),())⟩:=by
  simp only[Z99.j3_eq _ qaj]
  refine qaF rfl (qaG (by simp only[Bool.and_eq_true,decide_eq_true_eq];omega) ?_)
  simp only[Int.toNat_natCast,List.nil_append,List.drop_zero,List.take_length]
  refine qaG (by simp only[List.length_nil,List.length_take,decide_eq_true_eq];omega) (qac (qeV s hs1) (qaG (by simp only[List.length_take,List.length_singleton,decide_eq_true_eq];omega) (qaG (by simp only[Bool.and_eq_true,decide_eq_true_eq];omega) (qaG (by simp only[List.length_append,List.length_take,List.length_drop,List.length_singleton,decide_eq_true_eq];omega) qap))))
 have key:∀ d i,i+d=t→Ev fun φ=>Z99.l2 (mkR (run E (φ 0))) (φ 0) (φ 2) s (i:Int) o=some ⟨o_Z99,((o.take t++[s]++o.drop t,()),())⟩:=by
  intro d
  induction d with
  | zero =>
   intro i hi
   obtain rfl:i=t:=by omega
   refine Ev.round 2 (L:=fun φ n=>Z99.l2 (mkR (run E (φ 0))) (φ 0) n s (i:Int) o) ?_ (fun _ _ _=>rfl)
   simp only[Z99.l2_succ _ qaj]
   by_cases hlt:i<o.length
   ·refine qaD (decide_eq_true (by omega)) (qaG (by simp only[Bool.and_eq_true,decide_eq_true_eq];omega) (qak (by rw[Int.toNat_natCast];exact List.getElem?_eq_getElem hlt) (qac (qb1 _ s (qba ho hlt)) ?_)))
    rw[qau (h2 hlt)]
    exact fin
   ·exact qaF (decide_eq_false (by omega)) fin
  | succ d ih =>
   intro i hi
   have hlt:i<o.length:=by omega
   refine Ev.round 2 (L:=fun φ n=>Z99.l2 (mkR (run E (φ 0))) (φ 0) n s (i:Int) o) ?_ (fun _ _ _=>rfl)
   simp only[Z99.l2_succ _ qaj]
   refine qaD (decide_eq_true (by omega)) (qaG (by simp only[Bool.and_eq_true,decide_eq_true_eq];omega) (qak (by rw[Int.toNat_natCast];exact List.getElem?_eq_getElem hlt) (qac (qb1 _ s (qba ho hlt)) ?_)))
   rw[qax (h1 i hlt (by omega))]
   simp only[Z99.j3_eq _ qaj]
   refine qaD rfl ?_
   rw[qao (by omega)]
   exact ih (i+1) (by omega)
 exact key t 0 (by omega)
theorem qn3:∀(n:Nat) (s:Sim) (c:List Sim),s.length=n+1→n≤1048575→c.length+qko n≤1048576→Sm (.sl (.sl (.int .i64))) c→Srt c→Cl c →
    ∃ c',Ret E n_Z99 [dC (c,()),dL s] ⟨o_Z99,((c',()),())⟩∧Srt c'∧(∀ x,x∈c'↔x∈c∨Fa x s)∧c'.length≤c.length+qko n:=by
  intro n
  induction n with
  | zero =>
    intro s c hn hb hl hc hs hcl
    have hs1:s.length≤1048576:=by omega
    have hne:s≠[]:=fun e=>by rw[e] at hn;simp at hn
    by_cases hm:s∈c
    · refine⟨c,?_,hs,fun x=>⟨.inl,fun h=>h.elim id fun h=>hcl s hm x h⟩,by omega⟩
      refine qat ?_
      simp only[run_Z99,Z99.ev]
      exact qac (qaU (c,()) s hc) (qaD (decide_eq_true (qaB.2 hm)) qap)
    · obtain⟨t,ht,h3,h4⟩:=qkJ s c id hs1 hc (by unfold qko at hl;omega) hs hm
      refine⟨_,?_,h3,fun x=>?_,by simp[qko];omega⟩
      · refine qat ?_
        simp only[run_Z99,Z99.ev]
        refine qac (qaU (c,()) s hc) (qaF (decide_eq_false fun h=>hm (qaB.1 h)) ?_)
        have h4:Ev fun φ=>Z99.l2 (mkR (run E (φ 0))) (φ 0) (φ 0) s 0 c=some ⟨o_Z99,((c.take t++[s]++c.drop t,()),())⟩:=Ev.start (p:=fun φ n=>Z99.l2 (mkR (run E (φ 0))) (φ 0) n s 0 c=_) 2 h4 (fun _ _ _ h=>h)
        refine Ev.start (p:=fun φ n=>Z99.l0 (mkR (run E (φ 0))) (φ 0) n s 0 c=_) 1 ?_ (fun _ _ _ h=>h)
        refine Ev.round 1 (L:=fun φ n=>Z99.l0 (mkR (run E (φ 0))) (φ 0) n s 0 c) ?_ (fun _ _ _=>rfl)
        simp only[Z99.l0_succ _ qaj,Z99.j1_eq _ qaj]
        refine qaD (decide_eq_true (by omega)) (qaF (decide_eq_false (by omega)) h4)
      · rw[qlU,qlx]
        constructor
        · rintro(h | h)
          · exact .inl h
          · exact .inr (.inl ⟨h,hne⟩)
        · rintro(h | ⟨h,_⟩ | ⟨i,hi,h1,h2⟩)
          · exact .inl h
          · exact .inr h
          · have:=h2.length_le
            rw[List.length_eraseIdx,if_pos hi] at this
            exact absurd (List.length_eq_zero_iff.1 (by omega)) h1
  | succ n ih =>
    intro s c hn hb hl hc hs hcl
    have hs1:s.length≤1048576:=by omega
    have hne:s≠[]:=fun e=>by rw[e] at hn;simp at hn
    by_cases hm:s∈c
    · refine⟨c,?_,hs,fun x=>⟨.inl,fun h=>h.elim id fun h=>hcl s hm x h⟩,by omega⟩
      refine qat ?_
      simp only[run_Z99,Z99.ev]
      exact qac (qaU (c,()) s hc) (qaD (decide_eq_true (qaB.2 hm)) qap)
    · have hadd:qko (n+1)=(n+1+1)*qko n+1:=rfl
      -- the qcg
      have loop:∀ d i (o:List Sim),i+d=s.length→Sm (.sl (.sl (.int .i64))) o→Srt o→Cl o→(∀ x,x∈o↔x∈c∨∃ j,j<i∧Fa x (s.eraseIdx j))→o.length≤c.length+i*qko n→s.length*qko n+1+c.length≤1048576 →
          ∃ c',(Ev fun φ=>Z99.l0 (mkR (run E (φ 0))) (φ 0) (φ 1) s (i:Int) o=some ⟨o_Z99,((c',()),())⟩)∧Srt c'∧(∀ x,x∈c'↔x∈c∨Fa x s)∧c'.length≤c.length+s.length*qko n+1:=by
        intro d
        induction d with
        | zero =>
          intro i o hi ho1 ho2 ho3 ho4 ho5 hbig
          obtain rfl:i=s.length:=by omega
          have hn2:s∉o:=fun h=>by
            rcases(ho4 s).1 h with h | ⟨j,hj,h⟩
            · exact hm h
            · have:=qiF h
              rw[List.length_eraseIdx,if_pos hj] at this
              omega
          obtain⟨t,ht,h3,h4⟩:=qkJ s o id hs1 ho1 (by omega) ho2 hn2
          refine⟨_,?_,h3,fun x=>?_,by simp;omega⟩
          · have h4:Ev fun φ=>Z99.l2 (mkR (run E (φ 0))) (φ 0) (φ 0) s 0 o=some ⟨o_Z99,((o.take t++[s]++o.drop t,()),())⟩:=Ev.start (p:=fun φ n=>Z99.l2 (mkR (run E (φ 0))) (φ 0) n s 0 o=_) 2 h4 (fun _ _ _ h=>h)
            refine Ev.round 1 (L:=fun φ n=>Z99.l0 (mkR (run E (φ 0))) (φ 0) n s (s.length:Int) o) ?_ (fun _ _ _=>rfl)
            simp only[Z99.l0_succ _ qaj,Z99.j1_eq _ qaj]
            exact qaF (decide_eq_false (by omega)) (qaF rfl h4)
          · rw[qlU,ho4,qlx]
            constructor
            · rintro((h | ⟨j,hj,h⟩) | h)
              · exact .inl h
              · exact .inr (.inr ⟨j,hj,h⟩)
              · exact .inr (.inl ⟨h,hne⟩)
            · rintro(h | ⟨h,_⟩ | ⟨j,hj,h⟩)
              · exact .inl (.inl h)
              · exact .inr h
              · exact .inl (.inr ⟨j,hj,h⟩)
        | succ d ihd =>
          intro i o hi ho1 ho2 ho3 ho4 ho5 hbig
          have hil:i<s.length:=by omega
          have hel:(s.eraseIdx i).length=n+1:=by rw[List.length_eraseIdx,if_pos hil];omega
          have hmul:(i+1)*qko n≤s.length*qko n:=Nat.mul_le_mul_right _ (by omega)
          rw[Nat.add_mul,Nat.one_mul] at hmul
          obtain⟨o',hr,hs',hm',hl'⟩:=ih (s.eraseIdx i) o hel (by omega) (by omega) ho1 ho2 ho3
          obtain⟨c',hc1,hc2⟩:=ihd (i+1) o' (by omega) ⟨by show o'.length≤1048576;omega,fun x hx=>by
              rcases(hm' x).1 hx with h | h
              · exact ho1.2 x h
              · have:=qiF h
                exact⟨by show x.length≤1048576;omega,fun _ _=>trivial⟩⟩ hs' (fun y hy x hx=>(hm' x).2 (by
              rcases(hm' y).1 hy with h | h
              · exact .inl (ho3 y h x hx)
              · exact .inr (qkD hx h))) (fun x=>by
              rw[hm',ho4]
              constructor
              · rintro((h | ⟨j,hj,h⟩) | h)
                · exact .inl h
                · exact .inr ⟨j,by omega,h⟩
                · exact .inr ⟨i,by omega,h⟩
              · rintro(h | ⟨j,hj,h⟩)
                · exact .inl (.inl h)
                · by_cases e:j=i
                  · subst e;exact .inr h
                  · exact .inl (.inr ⟨j,by omega,h⟩)) (by rw[Nat.add_mul,Nat.one_mul];omega) hbig
          refine⟨c',?_,hc2⟩
          refine Ev.round 1 (L:=fun φ n=>Z99.l0 (mkR (run E (φ 0))) (φ 0) n s (i:Int) o) ?_ (fun _ _ _=>rfl)
          simp only[Z99.l0_succ _ qaj,Z99.j1_eq _ qaj]
          refine qaD (decide_eq_true (by omega)) (qaD (decide_eq_true (by omega)) (qac (qcN s i hil hs1) (qac hr ?_)))
          rw[qao (by omega)]
          exact hc1
      have hbig:s.length*qko n+1+c.length≤1048576:=by rw[hn];rw[hadd] at hl;omega
      obtain⟨c',h1,h2,h3,h4⟩:=loop s.length 0 c (by omega) hc hs hcl (fun x=>⟨.inl,fun h=>h.elim id fun⟨j,hj,_⟩=>by omega⟩) (by omega) hbig
      refine⟨c',?_,h2,h3,?_⟩
      · refine qat ?_
        simp only[run_Z99,Z99.ev]
        refine qac (qaU (c,()) s hc) (qaF (decide_eq_false fun h=>hm (qaB.1 h)) ?_)
        exact Ev.start (p:=fun φ n=>Z99.l0 (mkR (run E (φ 0))) (φ 0) n s 0 c=_) 1 h1 (fun _ _ _ h=>h)
      · rw[hadd,← hn];omega
theorem qjM(l:List Sim)(hl:l.length≤1024)(hx:∀ s∈l,1≤s.length∧s.length≤4) :
    ∃ c',Ret E n_Z90 [dLL l] ⟨o_Z90,(c',())⟩∧Srt c'∧(∀ x,x∈c'↔∃ s∈l,Fa x s)∧c'.length≤41*l.length:=by
  have loop:∀ d i (o:List Sim),i+d=l.length→Srt o→(∀ x,x∈o↔∃ s∈l.take i,Fa x s)→o.length≤41*i →
      ∃ c',(Ev fun φ=>Z90.l0 (mkR (run E (φ 0))) (φ 0) (φ 1) l (i:Int) o=some ⟨o_Z90,(c',())⟩)∧Srt c'∧(∀ x,x∈c'↔∃ s∈l,Fa x s)∧c'.length≤41*l.length:=by
    intro d
    induction d with
    | zero =>
      intro i o hi h1 h2 h3
      obtain rfl:i=l.length:=by omega
      rw[List.take_length] at h2
      refine⟨o,?_,h1,h2,h3⟩
      refine Ev.round 1 (L:=fun φ n=>Z90.l0 (mkR (run E (φ 0))) (φ 0) n l (l.length:Int) o) ?_ (fun _ _ _=>rfl)
      simp only[Z90.l0_succ _ qaj]
      exact qaF (decide_eq_false (by omega)) qap
    | succ d ih =>
      intro i o hi h1 h2 h3
      have hil:i<l.length:=by omega
      obtain⟨g1,g2⟩:=hx _ (List.getElem_mem hil)
      have hadd:qko (l[i].length-1)≤41:=by
        have:l[i].length-1=0∨l[i].length-1=1∨l[i].length-1=2∨l[i].length-1=3:=by omega
        rcases this with e | e | e | e<;>rw[e]<;>decide
      have hlen:∀ x∈o,x.length≤4:=fun x hx'=>by
        obtain⟨s,hs,hf⟩:=(h2 x).1 hx'
        have:=(hx s (List.mem_of_mem_take hs)).2
        have:=qiF hf
        omega
      obtain⟨o',hr,hs',hm',hl'⟩:=qn3 (l[i].length-1) l[i] o (by omega) (by omega) (by omega) ⟨by show o.length≤1048576;omega,fun x hx'=>by have:=hlen x hx';exact⟨by show x.length≤1048576;omega,fun _ _=>trivial⟩⟩ h1 (fun y hy x hxy=>by
        obtain⟨s,hs,hf⟩:=(h2 y).1 hy
        exact(h2 x).2 ⟨s,hs,qkD hxy hf⟩)
      obtain⟨c',hc1,hc2⟩:=ih (i+1) o' (by omega) hs' (fun x=>by
        rw[hm',h2,List.take_succ_eq_append_getElem hil]
        constructor
        · rintro(⟨s,hs,h⟩ | h)
          · exact⟨s,List.mem_append.2 (.inl hs),h⟩
          · exact⟨_,List.mem_append.2 (.inr (List.mem_singleton.2 rfl)),h⟩
        · rintro⟨s,hs,h⟩
          rcases List.mem_append.1 hs with hs | hs
          · exact .inl ⟨s,hs,h⟩
          · rw[List.mem_singleton] at hs;subst hs;exact .inr h) (by omega)
      refine⟨c',?_,hc2⟩
      refine Ev.round 1 (L:=fun φ n=>Z90.l0 (mkR (run E (φ 0))) (φ 0) n l (i:Int) o) ?_ (fun _ _ _=>rfl)
      simp only[Z90.l0_succ _ qaj]
      refine qaD (decide_eq_true (by omega)) (qak (qas hil) (qac hr ?_))
      rw[qao (by omega)]
      exact hc1
  obtain⟨c',h1,h2⟩:=loop l.length 0 [] (by omega) (fun i j hj=>by simp at hj) (fun x=>by simp) (by simp)
  refine⟨c',?_,h2⟩
  refine qat ?_
  simp only[run_Z90,Z90.ev]
  exact Ev.start (p:=fun φ n=>Z90.l0 (mkR (run E (φ 0))) (φ 0) n l 0 []=_) 1 h1 (fun _ _ _ h=>h)
end VeT
open Go Go.Proofs Ve
namespace VeT
def EvQ(A:(Nat→Nat)→Option Dv)(out:Ty)(Q:out.T→Prop):Prop:=∃ x,(Ev fun φ=>A φ=some ⟨out,x⟩)∧Q x
def qil(f:Nat)(args:List Dv)(out:Ty)(Q:out.T→Prop):Prop:=∃ x,Ret E f args ⟨out,x⟩∧Q x
theorem qbv{f:Nat}{args:List Dv}{out:Ty}{Q:out.T→Prop}(h:EvQ (fun φ=>run E (φ 0+1) f args) out Q):qil f args out Q:=let ⟨x,h1,h2⟩:=h;⟨x,qat h1,h2⟩
theorem qaQ{out:Ty}{Q:out.T→Prop}{x:out.T}(h:Q x):EvQ (fun _=>some ⟨out,x⟩) out Q:=⟨x,qap,h⟩
theorem qa8{f:Nat}{o:Ty}{args:List Dv}{x:o.T}{out:Ty}{Q:out.T→Prop}{K:(Nat→Nat)→o.T→Option Dv}(h:Ret E f args ⟨o,x⟩)(k:EvQ (fun φ=>K φ x) out Q) :
  EvQ (fun φ=>(Option.bind (qdp (mkR (run E (φ 0))) f o args) fun y=>K φ y)) out Q:=let ⟨z,h1,h2⟩:=k;⟨z,qac h h1,h2⟩
theorem qbe{f:Nat}{o:Ty}{args:List Dv}{P:o.T→Prop}{out:Ty}{Q:out.T→Prop}{K:(Nat→Nat)→o.T→Option Dv}(h:qil f args o P)(k:∀ x,P x→EvQ (fun φ=>K φ x) out Q) :
  EvQ (fun φ=>(Option.bind (qdp (mkR (run E (φ 0))) f o args) fun y=>K φ y)) out Q:=let ⟨x,h1,h2⟩:=h;qa8 h1 (k x h2)
theorem qcU{α:Type}{c:Option α}{x:α}{K:(Nat→Nat)→α→Option Dv}{out:Ty}{Q:out.T→Prop}(h:c=some x)(k:EvQ (fun φ=>K φ x) out Q) :
  EvQ (fun φ=>(Option.bind c fun y=>K φ y)) out Q:=let ⟨z,h1,h2⟩:=k;⟨z,qak h h1,h2⟩
theorem qbJ{b:Bool}{K:(Nat→Nat)→Unit→Option Dv}{out:Ty}{Q:out.T→Prop}(h:b=true)(k:EvQ (fun φ=>K φ ()) out Q) :
  EvQ (fun φ=>(Option.bind (chk b) fun y=>K φ y)) out Q:=let ⟨z,h1,h2⟩:=k;⟨z,qaG h h1,h2⟩
theorem qnI{b:Bool}{A B:(Nat→Nat)→Option Dv}{out:Ty}{Q:out.T→Prop}(h:b=true)(k:EvQ A out Q):EvQ (fun φ=>bif b then A φ else B φ) out Q:=by subst h;exact k
theorem qmy{b:Bool}{A B:(Nat→Nat)→Option Dv}{out:Ty}{Q:out.T→Prop}(h:b=false)(k:EvQ B out Q):EvQ (fun φ=>bif b then A φ else B φ) out Q:=by subst h;exact k
theorem qda{b:Bool}{A B:(Nat→Nat)→Option Dv}{out:Ty}{Q:out.T→Prop}(t:b=true→EvQ A out Q)(f:b=false→EvQ B out Q):EvQ (fun φ=>bif b then A φ else B φ) out Q:=by
 cases b
 ·exact f rfl
 ·exact t rfl
theorem qeE{p:Prop}[Decidable p]{A B:(Nat→Nat)→Option Dv}{out:Ty}{Q:out.T→Prop}(t:p→EvQ A out Q)(f:¬ p→EvQ B out Q):EvQ (fun φ=>bif decide p then A φ else B φ) out Q :=
 qda (fun h=>t (of_decide_eq_true h)) fun h=>f (of_decide_eq_false h)
theorem EvQ.round(l:Nat){L:(Nat→Nat)→Nat→Option Dv}{out:Ty}{Q:out.T→Prop}(h:EvQ (fun φ=>L φ (φ l+1)) out Q)(hind:∀ φ n n',L (fup φ l n') n=L φ n):EvQ (fun φ=>L φ (φ l)) out Q :=
 let ⟨z,h1,h2⟩:=h;⟨z,Ev.round l h1 hind,h2⟩
theorem EvQ.start(l:Nat){L:(Nat→Nat)→Nat→Option Dv}{out:Ty}{Q:out.T→Prop}(h:EvQ (fun φ=>L φ (φ l)) out Q)(hind:∀ φ n n',L (fup φ l n') n=L φ n):EvQ (fun φ=>L φ (φ 0)) out Q :=
 let ⟨z,h1,h2⟩:=h;⟨z,Ev.start (p:=fun φ n=>L φ n=_) l h1 (fun φ n n' h=>by rw[hind] at h;exact h),h2⟩
theorem EvQ.loop(l:Nat){σ:Type}{L:(Nat→Nat)→Nat→σ→Option Dv}{out:Ty}{Q:out.T→Prop}(hind:∀ φ n n' s,L (fup φ l n') n s=L φ n s)(Inv:σ→Prop)(μ:σ→Nat)
  (step:∀ s,Inv s→(∀ s',Inv s'→μ s'<μ s→EvQ (fun φ=>L φ (φ l) s') out Q)→EvQ (fun φ=>L φ (φ l+1) s) out Q):∀ s,Inv s→EvQ (fun φ=>L φ (φ l) s) out Q:=by
 have key:∀ d s,μ s<d→Inv s→EvQ (fun φ=>L φ (φ l) s) out Q:=by
  intro d
  induction d with
  | zero=>intro s h;omega
  | succ d ih =>
   intro s hd hi
   exact EvQ.round l (L:=fun φ n=>L φ n s) (step s hi fun s' hi' hl=>ih s' (by omega) hi') (fun φ n n'=>hind φ n n' s)
 exact fun s=>key _ s (Nat.lt_succ_self _)
abbrev Src:=List Int×Int×Int×Unit
abbrev cR:Ty:=.cons (.sl (.int .u8)) (.cons (.int .i64) (.cons (.int .u64) .nil))
abbrev dR(s:Src):Dv:=⟨.ptr cR,s⟩
abbrev dB(s:List Int):Dv:=⟨.sl (.int .u8),s⟩
def SO(n:Nat)(s:Src):Prop:=(∀ b∈s.1,0≤b∧b≤255)∧0≤s.2.1∧s.2.1≤(n:Int)
theorem SO.le{n m:Nat}{s:Src}(h:SO n s)(hm:n≤m):SO m s:=⟨h.1,h.2.1,by have:=h.2.2;omega⟩
theorem qj4(c:List Int):Ret E n_Z71 [dB c] ⟨o_Z71,((c,0,0,()),())⟩:=by
 refine qat ?_
 simp only[run_Z71,Z71.ev]
 exact Ev.of fun _=>trivial
theorem qnj(x:BitVec (IntKind.bits .u64)):0≤w64 (IntKind.wrap .u64 (BitVec.toNat (x &&& BitVec.ofInt (IntKind.bits .u64) (255:Int))))∧w64 (IntKind.wrap .u64 (BitVec.toNat (x &&& BitVec.ofInt (IntKind.bits .u64) (255:Int))))≤255:=by
 have h:(x &&& BitVec.ofInt (IntKind.bits .u64) (255:Int)).toNat≤255:=by
  rw[BitVec.toNat_and]
  have:(BitVec.ofInt (IntKind.bits .u64) (255:Int)).toNat=255:=by decide
  rw[this]
  exact Nat.and_le_right
 rw[qi6 (by omega) (by omega),qam (by omega) (by omega)]
 omega
theorem qkX(n:Nat)(s:Src)(hn:n≤1152921504606846976)(hs:SO n s):qil n_Z78 [dR s] o_Z78 fun(r:Int×Src×Unit)=>0≤r.1∧r.1≤255∧SO (n+1) r.2.1:=by
 obtain⟨c,a,g,⟨⟩⟩:=s
 obtain⟨h1,h2,h3⟩:=hs
 simp only at h1 h2 h3
 have ha:w64 (a+1)=a+1:=qam (by omega) (by omega)
 have hj:∀ b:Int,0≤b→b≤255→EvQ (fun φ=>Z78.j0 (mkR (run E (φ 0))) (φ 0) b c a g) o_Z78 fun(r:Int×Src×Unit)=>0≤r.1∧r.1≤255∧SO (n+1) r.2.1:=by
  intro b hb1 hb2
  simp only[Z78.j0_eq _ qaj,ha]
  refine qeE (fun h=>qaQ ⟨hb1,hb2,h1,?_,?_⟩) fun h=>?_
  ·show 0≤a+1;omega
  ·show a+1≤((n+1:Nat):Int);omega
  ·refine qbJ (by decide) (qaQ ⟨?_,?_,h1,?_,?_⟩)
   ·exact(qnj _).1
   ·exact(qnj _).2
   ·show 0≤a+1;omega
   ·show a+1≤((n+1:Nat):Int);omega
 refine qbv ?_
 simp only[run_Z78,Z78.ev]
 refine qeE (fun h=>?_) fun h=>hj 0 (by omega) (by omega)
 obtain⟨k,rfl⟩:∃ k:Nat,a=(k:Int):=⟨a.toNat,by omega⟩
 have hk:k<c.length:=by omega
 have hb:=h1 _ (List.getElem_mem hk)
 refine qcU (qas hk) ?_
 have e:w64 c[k]=c[k]:=qam (by omega) (by omega)
 have:=hj _ hb.1 hb.2
 rw[← e] at this
 exact this
theorem qbO(n:Nat)(s:Src)(k:Int)(hn:n≤1000000000000)(hs:SO n s):qil n_Z80 [dR s,dI k] o_Z80 fun(r:Int×Src×Unit)=>0≤r.1∧(r.1<k∨r.1=0)∧r.1≤65535∧SO (n+2) r.2.1:=by
 obtain⟨c,a,g,⟨⟩⟩:=s
 refine qbv ?_
 simp only[run_Z80,Z80.ev]
 refine qeE (fun h=>qaQ ⟨Int.le_refl _,.inr rfl,(by show(0:Int)≤65535;decide),hs.le (by omega)⟩) fun h=>?_
 have hk:0<k:=by omega
 have tm:∀ x:Int,0≤x→0≤Int.tmod x k∧Int.tmod x k<k∧Int.tmod x k≤x:=fun x hx=>by
  rw[Int.tmod_eq_emod_of_nonneg hx]
  have h1:=Int.mul_ediv_add_emod x k
  have h2:0≤k*(x / k):=Int.mul_nonneg (by omega) (Int.ediv_nonneg hx (by omega))
  generalize k*(x / k)=y at h1 h2
  exact⟨Int.emod_nonneg _ (by omega),Int.emod_lt_of_pos _ hk,by omega⟩
 have hne:(k != 0)=true:=by simp;omega
 refine qbe (qkX n _ (by omega) hs) fun(r:Int×Src×Unit) ⟨r1,r2,r3⟩=>?_
 refine qeE (fun h2=>?_) fun h2=>?_
 ·refine qbe (qkX (n+1) _ (by omega) r3) fun(q:Int×Src×Unit) ⟨q1,q2,q3⟩=>?_
  refine qbJ hne (qaQ ?_)
  have e1:w64 (r.1*256)=r.1*256:=qam (by omega) (by omega)
  have e2:w64 (r.1*256+q.1)=r.1*256+q.1:=qam (by omega) (by omega)
  have:=tm (r.1*256+q.1) (by omega)
  refine⟨?_,.inl ?_,?_,q3⟩
  ·show 0≤Int.tmod _ _;rw[e1,e2];exact this.1
  ·show Int.tmod _ _<_;rw[e1,e2];exact this.2.1
  ·show Int.tmod _ _≤_;rw[e1,e2];omega
 ·have:=tm r.1 r1
  exact qbJ hne (qaQ ⟨this.1,.inl this.2.1,(by show Int.tmod _ _≤_;omega),r3.le (by omega)⟩)
theorem qig(n:Nat)(s:Src)(k:Int)(hn:n≤1000000000000)(hs:SO n s):qil n_Z79 [dR s,dI k] o_Z79 fun(r:Bool×Src×Unit)=>SO (n+2) r.2.1:=by
 obtain⟨c,a,g,⟨⟩⟩:=s
 refine qbv ?_
 simp only[run_Z79,Z79.ev]
 exact qbe (qbO n _ k hn hs) fun(r:Int×Src×Unit) ⟨r1,r2,r3,r4⟩=>qaQ r4
theorem qex(n:Nat)(s:Src)(l:List Int)(hl:l≠[])(hn:n≤1000000000000)(hs:SO n s):qil n_Z77 [dR s,dL l] o_Z77 fun(r:Int×Src×Unit)=>r.1∈l∧SO (n+2) r.2.1:=by
 obtain⟨c,a,g,⟨⟩⟩:=s
 have:0<l.length:=List.length_pos_iff.2 hl
 refine qbv ?_
 simp only[run_Z77,Z77.ev]
 refine qbe (qbO n _ _ hn hs) fun(r:Int×Src×Unit) ⟨r1,r2,r3,r4⟩=>?_
 obtain⟨k,hk⟩:∃ k:Nat,r.1=(k:Int):=⟨r.1.toNat,by omega⟩
 have hkl:k<l.length:=by omega
 rw[hk]
 exact qcU (qas hkl) (qaQ ⟨List.getElem_mem hkl,r4⟩)
end VeT
open Go Go.Proofs Ve
namespace VeT
theorem qmU{c:List Sim}(hv:VC c):(qkQ c c.length).length≤192:=by
 have h:=hv.plc (k:=c.length) (Nat.le_refl _)
 have:=hv.1
 unfold plc at h
 omega
end VeT
open Go Go.Proofs Ve
namespace VeT
theorem qjl{α:Type}[DecidableEq α]:∀ {c d:List α},c.Nodup→(∀ x∈c,x∈d)→c.length≤d.length
 | [],d,_,_=>Nat.zero_le _
 | x::c,d,h,hs=>by
  obtain⟨h1,h2⟩:=List.nodup_cons.1 h
  have hx:=hs x List.mem_cons_self
  have:=qjl h2 (d:=d.erase x) fun y hy=>(List.mem_erase_of_ne (fun e=>h1 (by rw[← e];exact hy))).2 (hs y (List.mem_cons_of_mem _ hy))
  rw[List.length_erase_of_mem hx] at this
  have:=List.length_pos_of_mem hx
  rw[List.length_cons];omega
theorem Srt.nodup{c:List Sim}(h:Srt c):c.Nodup:=by
 rw[List.nodup_iff_pairwise_ne,List.pairwise_iff_getElem]
 intro i j hi hj hij e
 have:=h i j hj hij
 rw[e,qcc.2 rfl] at this
 omega
theorem VC.sm{c:List Sim}(h:VC c):Sm (.sl (.sl (.int .i64))) c:=by
 refine⟨by have:=h.1;show c.length≤1048576;omega,fun s hs=>?_⟩
 obtain⟨k,hk,rfl⟩:=List.getElem_of_mem hs
 have:=h.2.1 k hk
 rw[List.getD_eq_getElem?_getD,List.getElem?_eq_getElem hk] at this
 have:=this.2.1
 refine⟨?_,fun _ _=>trivial⟩
 show(c[k]).length≤1048576
 simp at this
 omega
theorem qgo(n:Nat)(s:Src)(v most:Int)(hn:n≤100000000000)(hs:SO n s)(hm:1≤most∧most≤4)(hv:1≤v∧v≤10) :
  qil n_Z93 [dR s,dI v,dI most] o_Z93 fun(r:Sim×Src×Unit)=>Vx r.1∧(r.1.length:Int)≤most∧(∀ x∈r.1,x<v)∧SO (n+12) r.2.1:=by
 obtain⟨c,a,g,⟨⟩⟩:=s
 refine qbv ?_
 simp only[run_Z93,Z93.ev]
 refine qbe (qbO n _ most (by omega) hs) fun(r:Int×Src×Unit) ⟨r1,r2,r3,r4⟩=>?_
 obtain⟨k0,hk0⟩:∃ k:Nat,(r.1:Int)=(k:Int):=⟨Int.toNat r.1,(Int.toNat_of_nonneg r1).symm⟩
 have e0:w64 (1+r.1)=((k0+1:Nat):Int):=by rw[hk0,qam (by omega) (by omega)];omega
 refine EvQ.start 1 (L:=fun φ N=>Z93.l0 (mkR (run E (φ 0))) (φ 0) N v [] (w64 (1+r.1)) r.2.1.1 r.2.1.2.1 r.2.1.2.2.1) ?_ (fun _ _ _=>rfl)
 rw[e0]
 refine EvQ.loop 1 (σ:=Sim×Nat×Src) (L:=fun φ N st=>Z93.l0 (mkR (run E (φ 0))) (φ 0) N v st.1 (st.2.1:Int) st.2.2.1 st.2.2.2.1 st.2.2.2.2.1) (fun _ _ _ _=>rfl)
  (fun st=>st.1.Pairwise (·<·)∧(∀ x∈st.1,0≤x∧x<v)∧((st.1.length+st.2.1:Nat):Int)≤most∧1≤st.1.length+st.2.1∧SO (n+10-2*st.2.1) st.2.2) (fun st=>st.2.1) (fun st hi ih=>?_) ([],k0+1,r.2.1) ⟨List.Pairwise.nil,fun x hx=>by simp at hx,?_,?_,?_⟩
 ·obtain⟨o,k,s1⟩:=st
  obtain⟨i1,i2,i3,i4,i5⟩:=hi
  simp only at i1 i2 i3 i4 i5 ih ⊢
  simp only[Z93.l0_succ _ qaj]
  refine qeE (fun h=>?_) fun h=>?_
  ·refine qbe (qbO _ s1 v (by omega) i5) fun(q:Int×Src×Unit) ⟨q1,q2,q3,q4⟩=>?_
   refine qa8 (qe3 o q.1 (by omega)) ?_
   rw[show w64 ((k:Int)-1)=((k-1:Nat):Int) by rw[qam (by omega) (by omega)];omega]
   refine ih (qbU o q.1,k-1,q.2.1) ⟨qet i1,fun x hx=>?_,?_,?_,?_⟩ (by show k-1<k;omega)
   ·rcases qei.1 hx with rfl | hx
    ·omega
    ·exact i2 x hx
   ·have:=qca (l:=o) (n:=q.1)
    show((((qbU o q.1).length+(k-1):Nat)):Int)≤most
    omega
   ·have:1≤(qbU o q.1).length:=List.length_pos_of_mem (qei.2 (.inl rfl))
    show 1≤(qbU o q.1).length+(k-1)
    omega
   ·exact q4.le (by show n+10-2*k+2≤n+10-2*(k-1);omega)
  ·refine qaQ ⟨⟨by show 1≤o.length;omega,by show o.length≤4;omega,qmS i1,fun x hx=>⟨(i2 x hx).1,by have:=(i2 x hx).2;omega⟩⟩,by show(o.length:Int)≤most;omega,fun x hx=>(i2 x hx).2,i5.le (by omega)⟩
 ·show((([]:Sim).length+(k0+1):Nat):Int)≤most
  simp;omega
 ·show 1≤([]:Sim).length+(k0+1)
  simp
 ·exact r4.le (by show n+2≤n+10-2*(k0+1);omega)
end VeT
open Go Go.Proofs Ve
namespace VeT
theorem qbp.set{l:Sim}{p x:Int}(h:qbp l p)(hx:0≤x∧x≤p-1)(i:Nat):qbp (l.set i x) p:=fun y hy=>by
 rcases List.mem_or_eq_of_mem_set hy with hy | rfl
 ·exact h y hy
 ·exact hx
end VeT
open Go Go.Proofs Ve
namespace VeT
def qn2(a b:Sim)(W V:Nat):Ent:=fun i j=>if j<W then qhi a W i j else qhi b V i (j-W)
def qnV(a b:Sim)(W V R:Nat):Sim:=qaV (qn2 a b W V) (W+V) R
theorem qbp.flat{A:Ent}{R C:Nat}{p:Int}(h:EIn p R C A):qbp (qaV A C R) p:=fun x hx=>by
 rw[← qc0] at hx
 obtain⟨row,hrow,hx⟩:=List.mem_flatten.1 hx
 obtain⟨i,hi,rfl⟩:=List.mem_map.1 hrow
 obtain⟨j,hj,rfl⟩:=List.mem_map.1 hx
 exact h i j (List.mem_range.1 hi) (List.mem_range.1 hj)
end VeT
open Go Go.Proofs Ve
namespace VeT
noncomputable def qo3(p:Int)(d:Nat)(cells:Sim):Ent:=(elS p d (qhi (qnV cells (qaV qjR d d) d d d) (d+d)) (d+d)).1
noncomputable def qoZ(p:Int)(d:Nat)(cells:Sim):Sim:=qaV (fun i k=>qo3 p d cells i (d+k)) d d
theorem qmT{p:Int}{a b:Sim}{W V R:Nat}(ha:qbp a p)(hb:qbp b p)(hl:a.length=R*W)(hbl:b.length=R*V):EIn p R (W+V) (qn2 a b W V):=fun i j hi hj=>by
 unfold qn2
 split
 ·exact qj2 ha hl i j hi (by omega)
 ·exact qj2 hb hbl i (j-W) hi (by omega)
theorem qm9{p:Int}(hp:2≤p){d:Nat}:EIn p d d qjR:=fun i j _ _=>by
 show 0≤qjR i j∧qjR i j≤p-1
 unfold qjR;split<;>omega
theorem qnK{p:Int}(hp:2≤p){d:Nat}{cells:Sim}(hl:cells.length=d*d)(he:qbp cells p):EIn p d (d+d) (qhi (qnV cells (qaV qjR d d) d d d) (d+d)):=fun i j hi hj=>by
 unfold qnV;rw[qeQ hi hj]
 exact qmT he (qbp.flat (qm9 hp)) hl qaK i j hi hj
theorem qlN{p:Int}(hp:2≤p){d:Nat}{cells:Sim}(hl:cells.length=d*d)(he:qbp cells p):qbp (qoZ p d cells) p∧(qoZ p d cells).length=d*d:=by
 refine⟨qbp.flat fun i j hi hj=>?_,qaK⟩
 exact(qnw hp (qnK hp hl he) (d+d)).1 i (d+j) hi (by omega)
end VeT
open Go Go.Proofs Ve
namespace VeT
def BOk(p:Int)(d:Nat)(m:Mat):Prop:=∃ cells,m=(p,(d:Int),(d:Int),cells,())∧cells.length=d*d∧qbp cells p∧rkM p d d cells=d
noncomputable def qpl(p:Int)(d:Nat)(m:Mat):Mat:=(p,(d:Int),(d:Int),qoZ p d m.2.2.2.1,())
theorem qou{p:Int}{d:Nat}{cells:Sim}(hp:Pr p)(hd:d≤4)(hl:cells.length=d*d)(he:qbp cells p):VM (p,(d:Int),(d:Int),cells,()) :=
 ⟨hp,⟨by show(0:Int)≤d;omega,by show(d:Int)≤32;omega⟩,⟨by show(0:Int)≤d;omega,by show(d:Int)≤32;omega⟩,by show(cells.length:Int)=d*d;rw[hl];simp,he⟩
theorem BOk.vm{p:Int}{d:Nat}{m:Mat}(hp:Pr p)(hd:d≤4)(h:BOk p d m):VM m∧VM (qpl p d m):=by
 obtain⟨cells,rfl,h1,h2,h3⟩:=h
 exact⟨qou hp hd h1 h2,qou hp hd (qlN hp.1 h1 h2).2 (qlN hp.1 h1 h2).1⟩
end VeT
open Go Go.Proofs Ve
namespace VeT
end VeT
open Go Go.Proofs Ve
namespace VeT
end VeT
open Go Go.Proofs Ve
namespace VeT
end VeT
open Go Go.Proofs Ve
namespace VeT
end VeT
open Go Go.Proofs Ve
namespace VeT
theorem VS.at{c:List Sim}{p:Int}{st:Sim}{ms:List Mat}(h:VS c p st ms){t:Nat}(ht:t<ms.length):∃ a b:Nat,a≤3∧b≤3∧VM (ms.getD t mz)∧(ms.getD t mz).1=p∧(ms.getD t mz).2.1=(a:Int)∧(ms.getD t mz).2.2.1=(b:Int):=by
 have hl:=h.2.2.2.1
 have ht':t<(qkQ c c.length).length:=by unfold plc at hl;omega
 obtain⟨k,i,h1,h2,h3⟩:=qly ht'
 have hb:=(h.map h1 h2).2
 unfold mp at hb
 rw[← h3] at hb
 obtain⟨a1,a2⟩:=qoN h.2.2.1.2.1 k
 obtain⟨b1,b2⟩:=qoN h.2.2.1.2.1 (fc c k i)
 exact⟨(st.getD k 0).toNat,(st.getD (fc c k i) 0).toNat,by omega,by omega,hb.1,hb.2.1,by rw[hb.2.2.1];omega,by rw[hb.2.2.2];omega⟩
theorem qfM{l:Sim}(h:l.length≤1048576):Sm (.sl (.int .i64)) l:=⟨h,fun _ _=>trivial⟩
theorem qoh{ms:List Mat}(h:ms.length≤1048576)(h2:∀ m∈ms,m.2.2.2.1.length≤1048576):Sm (.sl (.st cM)) ms:=⟨h,fun m hm=>⟨trivial,trivial,trivial,qfM (h2 m hm),trivial⟩⟩
theorem VS.plc_le{c:List Sim}{p:Int}{st:Sim}{ms:List Mat}(h:VS c p st ms):ms.length≤192:=by
 rw[← h.2.2.2.1];exact qmU h.1
theorem VS.cells{c:List Sim}{p:Int}{st:Sim}{ms:List Mat}(h:VS c p st ms):∀ m∈ms,m.2.2.2.1.length≤9:=fun m hm=>by
 obtain⟨t,ht,rfl⟩:=List.getElem_of_mem hm
 obtain⟨a,b,ha,hb,hv,_,e1,e2⟩:=h.at ht
 rw[qag ht] at hv e1 e2
 have:=hv.num
 rw[e1,e2,Int.toNat_natCast,Int.toNat_natCast] at this
 have:=Nat.mul_le_mul ha hb
 omega
theorem VS.sm{c:List Sim}{p:Int}{st:Sim}{ms:List Mat}(h:VS c p st ms):Sm (.st cS) (c,p,st,ms,()):=by
 have h48:=h.1.1
 have hl:=h.2.2.1.1
 have h192:=h.plc_le
 exact⟨h.1.sm,trivial,qfM (by show st.length≤_;omega),qoh (by show ms.length≤_;omega) fun m hm=>by have:=h.cells m hm;omega,trivial⟩
end VeT
open Go Go.Proofs Ve
namespace VeT
theorem qlV{c:List Sim}(h:Srt c){d:Int}{f0 s:Nat}(hy:(qae c d c.length).head? = some (f0:Int))(hs:s<c.length)(hd:((c.getD s []).length:Int)=d+1):(qae c d s).length=s-f0∧f0≤s:=by
 have hym:(f0:Int)∈qae c d c.length:=List.mem_of_head? hy
 obtain⟨f,ef,hf,hfd⟩:=qbt.1 hym
 obtain rfl:f=f0:=by omega
 obtain⟨tl2,hL2⟩:=qed hf hfd
 have hz:qae c d f=[]:=by
  cases hh:qae c d f with
  | nil=>rfl
  | cons z l =>
   have hz:z∈qae c d f:=by rw[hh];exact List.mem_cons_self
   obtain⟨i,rfl,hi⟩:=qgr hz
   rw[hL2,hh] at hy
   have:((i:Nat):Int)=f:=by simpa using hy
   omega
 have hfs:f≤s:=by
  refine Classical.byContradiction fun hn=>?_
  have:((s:Nat):Int)∈qae c d f:=qbt.2 ⟨s,rfl,by omega,hd⟩
  rw[hz] at this;cases this
 have hlen:∀ t,f+t≤s→(qae c d (f+t)).length=t:=by
  intro t
  induction t with
  | zero=>intro _;rw[Nat.add_zero,hz];rfl
  | succ t ih =>
   intro ht
   have h1:=qfQ h (show f≤f+t by omega) (by omega)
   have h2:=qfQ h (show f+t≤s by omega) hs
   rw[← Nat.add_assoc,qb4,if_pos (by omega),List.length_append,ih (by omega)];rfl
 have:=hlen (s-f) (by omega)
 rw[show f+(s-f)=s by omega] at this
 exact⟨this,hfs⟩
noncomputable def qjC(c:List Sim)(k:Int)(s i:Nat):Nat:=((qbZ c s).getD i 0-(qae c (k-1) c.length).getD 0 0).toNat
theorem ql7{c:List Sim}(hv:VC c){k:Int}{s i:Nat}(hs:s<c.length)(hd:((c.getD s []).length:Int)=k+1)(hi:i<(qbZ c s).length) :
  qjC c k s i=(qae c (k-1) (fc c s i)).length∧qjC c k s i<(qae c (k-1) c.length).length∧((c.getD (fc c s i) []).length:Int)=k∧fc c s i<c.length:=by
 obtain⟨_,g1,g2⟩:=qiw hv hs hi
 obtain⟨t,f0,e1,e2,e3,e4,e5,e6⟩:=qf5 hv.srt (qkU hv hs hd (List.getElem_mem hi))
 have ht:t=fc c s i:=by unfold fc;rw[qag hi,e1];rfl
 have hl:=qbi (c:=c) (k:=s)
 have h1:1<(c.getD s []).length:=Classical.byContradiction fun hn=>by rw[if_neg hn] at hl;omega
 rw[if_pos h1] at hl
 have hfl:((c.getD (fc c s i) []).length:Int)=k:=by rw[g2,List.length_eraseIdx_of_lt (by omega)];omega
 have hp:=(qlV hv.srt e4 g1 (by omega)).1
 have e0:(qae c (k-1) c.length).getD 0 0=(f0:Int):=by rw[List.getD_eq_getElem?_getD,← List.head?_eq_getElem?,e4];rfl
 have hb:qjC c k s i=t-f0:=by
  unfold qjC
  rw[qag hi,e1,e0];omega
 exact⟨by rw[hb,hp,ht],by rw[hb];exact e6,hfl,g1⟩
theorem qfO{a b j l C:Nat}(hj:j<C)(hl:l<C)(e:a*C+j=b*C+l):a=b∧j=l:=by
 rcases Nat.lt_trichotomy a b with h | h | h
 ·have:=Nat.mul_le_mul_right C (show a+1≤b from h)
  rw[Nat.succ_mul] at this;omega
 ·subst h;exact⟨rfl,by omega⟩
 ·have:=Nat.mul_le_mul_right C (show b+1≤a from h)
  rw[Nat.succ_mul] at this;omega
theorem qcO{l:Sim}{i j:Nat}{v:Int}(h:i≠j):(l.set i v).getD j 0=l.getD j 0:=by
 rw[List.getD_eq_getElem?_getD,List.getElem?_set_ne h,← List.getD_eq_getElem?_getD]
theorem qfH{c:List Sim}{k p:Int}{s j r l:Nat}{cells:Sim}(hj:j<(qae c k c.length).length)(hl:l<(qae c k c.length).length):∀ {n:Nat},(∀ i,i<n→¬ (qjC c k s i=r∧j=l))→(bdJ c k p s j cells n).getD (r*(qae c k c.length).length+l) 0=cells.getD (r*(qae c k c.length).length+l) 0
 | 0,_=>rfl
 | n+1,h=>by
  show((bdJ c k p s j cells n).set (qjC c k s n*(qae c k c.length).length+j) (sgn p n)).getD _ 0=_
  rw[qcO fun e=>h n (by omega) (qfO (a:=qjC c k s n) hj hl e)]
  exact qfH hj hl fun i hi=>h i (by omega)
theorem qme{c:List Sim}{k p:Int}{s j r i0:Nat}{cells:Sim}(hj:j<(qae c k c.length).length)(hlt:r*(qae c k c.length).length+j<cells.length)(hr:qjC c k s i0=r):∀ {n:Nat},i0<n→(∀ i,i<n→qjC c k s i=r→i=i0)→(bdJ c k p s j cells n).getD (r*(qae c k c.length).length+j) 0=sgn p i0
 | 0,h,_=>by omega
 | n+1,h,hinj=>by
  by_cases e:n=i0
  ·subst e
   unfold bdJ
   have e2:((qbZ c s).getD n 0-(qae c (k-1) c.length).getD 0 0).toNat=r:=hr
   rw[e2,List.getD_eq_getElem?_getD,List.getElem?_set_self (by rw[qdD];exact hlt)];rfl
  ·show((bdJ c k p s j cells n).set (qjC c k s n*(qae c k c.length).length+j) (sgn p n)).getD _ 0=_
   rw[qcO fun e2=>e (hinj n (by omega) (qfO (a:=qjC c k s n) hj hj e2).1)]
   exact qme hj hlt hr (by omega) fun i hi=>hinj i (by omega)
theorem qkO{c:List Sim}{k p:Int}{r l:Nat}(hl:l<(qae c k c.length).length):∀ {n:Nat},n≤l→(bdC c k p n).getD (r*(qae c k c.length).length+l) 0=0
 | 0,_=>by
  unfold bdC
  rw[List.getD_eq_getElem?_getD,List.getElem?_replicate];split<;>rfl
 | n+1,h=>by
  unfold bdC
  rw[qfH (by omega) hl fun i _ hh=>by omega]
  exact qkO hl (by omega)
theorem qlA{c:List Sim}{k p:Int}{r l:Nat}(hl:l<(qae c k c.length).length):∀ {n:Nat},l<n→n≤(qae c k c.length).length→(bdC c k p n).getD (r*(qae c k c.length).length+l) 0=(bdC c k p (l+1)).getD (r*(qae c k c.length).length+l) 0
 | 0,h,_=>by omega
 | n+1,h,hn=>by
  by_cases e:l=n
  ·subst e;rfl
  ·have:bdC c k p (n+1)=bdJ c k p ((qae c k c.length).getD n 0).toNat n (bdC c k p n) (qbZ c ((qae c k c.length).getD n 0).toNat).length:=rfl
   rw[this,qfH (by omega) hl fun i _ hh=>by omega]
   exact qlA hl (by omega) (by omega)
theorem qnA{c:List Sim}{k p:Int}{r l s:Nat}(hl:l<(qae c k c.length).length)(es:((qae c k c.length).getD l 0).toNat=s) :
  qhi (bdM c k p).2.2.2.1 (qae c k c.length).length r l=(bdJ c k p s l (bdC c k p l) (qbZ c s).length).getD (r*(qae c k c.length).length+l) 0:=by
 show(bdC c k p (qae c k c.length).length).getD (r*(qae c k c.length).length+l) 0=_
 rw[qlA hl hl (Nat.le_refl _)]
 have:bdC c k p (l+1)=bdJ c k p ((qae c k c.length).getD l 0).toNat l (bdC c k p l) (qbZ c ((qae c k c.length).getD l 0).toNat).length:=rfl
 rw[this,es]
theorem qn6{c:List Sim}{k p:Int}{r l s:Nat}(hl:l<(qae c k c.length).length)(es:((qae c k c.length).getD l 0).toNat=s)(h:∀ i,i<(qbZ c s).length→qjC c k s i≠r) :
  qhi (bdM c k p).2.2.2.1 (qae c k c.length).length r l=0:=by
 rw[qnA hl es,qfH hl hl fun i hi hh=>h i hi hh.1]
 exact qkO hl (Nat.le_refl _)
theorem qoA{c:List Sim}{k p:Int}{r l s i0:Nat}(hl:l<(qae c k c.length).length)(hr:r<(qae c (k-1) c.length).length)(es:((qae c k c.length).getD l 0).toNat=s)(hi0:i0<(qbZ c s).length)(e:qjC c k s i0=r)
  (hinj:∀ i,i<(qbZ c s).length→qjC c k s i=r→i=i0):qhi (bdM c k p).2.2.2.1 (qae c k c.length).length r l=sgn p i0:=by
 rw[qnA hl es]
 exact qme hl (by rw[qdB];exact ql9 hr hl) e hi0 hinj
theorem qib{c:List Sim}{d:Int}{s:Nat}(hs:s<c.length)(hd:((c.getD s []).length:Int)=d+1):(qae c d s).length<(qae c d c.length).length∧((qae c d c.length).getD (qae c d s).length 0).toNat=s:=by
 obtain⟨tl,e⟩:=qed (c:=c) hs hd
 refine⟨by rw[e,List.length_append];simp,?_⟩
 rw[e,List.getD_eq_getElem?_getD,List.getElem?_append_right (Nat.le_refl _),Nat.sub_self];rfl
theorem qhG{c:List Sim}{d:Int}{r:Nat}(hr:r<(qae c d c.length).length):∃ s,s<c.length∧((c.getD s []).length:Int)=d+1∧(qae c d s).length=r∧((qae c d c.length).getD r 0).toNat=s:=by
 have key:∀ n,n≤c.length→∀ r,r<(qae c d n).length→∃ s,s<n∧((c.getD s []).length:Int)=d+1∧(qae c d s).length=r:=by
  intro n
  induction n with
  | zero=>intro _ r hr;simp[qae] at hr
  | succ n ih =>
   intro hn r hr
   rw[qb4,List.length_append] at hr
   by_cases h:r<(qae c d n).length
   ·obtain⟨s,h1,h2⟩:=ih (by omega) r h
    exact⟨s,by omega,h2⟩
   ·split at hr
    ·rename_i hd
     simp at hr
     exact⟨n,by omega,hd,by omega⟩
    ·simp at hr;omega
 obtain⟨s,h1,h2,h3⟩:=key c.length (Nat.le_refl _) r hr
 refine⟨s,h1,h2,h3,?_⟩
 have:=(qib h1 h2).2
 rw[h3] at this;exact this
end VeT
open Go Go.Proofs Ve
namespace VeT
theorem qlw{p:Int}(n:Nat):sgn p n%p=sgI n%p:=by
 unfold sgn sgI
 split
 ·rfl
 ·rw[show p-1=-1+p by omega,Int.add_emod_right]
noncomputable def smx(c:List Sim)(d:Int)(r:Nat):Sim:=c.getD ((qae c d c.length).getD r 0).toNat []
def qdH(t:Sim):Sim→Int:=fun u=>if u=t then 1 else 0
theorem qks{vs im s:List Int}:∀ {n:Nat},n≤s.length→((s.take n).map (qd4 vs im)).foldl qbU []=sgm (fun x=>qd4 vs im (s.getD x 0)) n
 | 0,_=>rfl
 | n+1,h=>by
  rw[List.take_succ_eq_append_getElem (show n<s.length by omega),List.map_append,List.foldl_append,qks (by omega)]
  show qbU _ (qd4 vs im s[n])=qbU _ (qd4 vs im (s.getD n 0))
  rw[qag (show n<s.length by omega)]
theorem qlK{a:List Sim}{im s:Sim}:img (vxs a) im s=sgm (qbq a im s) s.length:=by
 have:=qks (vs:=vxs a) (im:=im) (s:=s) (Nat.le_refl _)
 rw[List.take_length] at this
 exact this
theorem qhP{c:List Sim}(hc:Srt c){d:Int}{t r:Nat}(ht:t<c.length)(hd:((c.getD t []).length:Int)=d+1)(hr:r<(qae c d c.length).length):smx c d r=c.getD t []↔(qae c d t).length=r:=by
 constructor
 ·intro h
  obtain⟨s,h1,h2,h3,h4⟩:=qhG hr
  unfold smx at h
  rw[h4] at h
  have:s=t:=by
   refine Classical.byContradiction fun hn=>?_
   have hd:=List.pairwise_iff_getElem.1 (List.nodup_iff_pairwise_ne.1 hc.nodup)
   rw[List.getD_eq_getElem?_getD,List.getD_eq_getElem?_getD,List.getElem?_eq_getElem h1,List.getElem?_eq_getElem ht] at h
   rcases Nat.lt_or_gt_of_ne hn with hlt | hlt
   ·exact hd s t h1 ht hlt h
   ·exact hd t s ht h1 hlt h.symm
  subst this;exact h3
 ·rintro rfl
  unfold smx
  rw[(qib ht hd).2]
theorem qlD{c:List Sim}{d:Int}{r:Nat}(hr:r<(qae c d c.length).length):∃ s,s<c.length∧((qae c d c.length).getD r 0).toNat=s∧smx c d r=c.getD s []∧((c.getD s []).length:Int)=d+1∧(qae c d s).length=r:=by
 obtain⟨s,h1,h2,h3,h4⟩:=qhG hr
 exact⟨s,h1,h4,by unfold smx;rw[h4],h2,h3⟩
theorem qkv{a b:List Sim}{im:Sim}{k p:Int}{r l j:Nat}(hj:j<(qae a k a.length).length)(hl:l<(qae a k a.length).length)(hn:j≠l) :
  (chC a b im k p (j+1)).getD (r*(qae a k a.length).length+l) 0=(chC a b im k p j).getD (r*(qae a k a.length).length+l) 0:=by
 rw[chC]
 split
 ·rw[qcO fun e=>hn (qfO hj hl e).2]
 ·rfl
theorem qhU{a b:List Sim}{im:Sim}{k p:Int}{r l:Nat}(hl:l<(qae a k a.length).length):∀ {n:Nat},n≤l→(chC a b im k p n).getD (r*(qae a k a.length).length+l) 0=0
 | 0,_=>by
  unfold chC
  rw[List.getD_eq_getElem?_getD,List.getElem?_replicate];split<;>rfl
 | n+1,h=>by
  rw[qkv (by omega) hl (by omega)]
  exact qhU hl (by omega)
theorem qku{a b:List Sim}{im:Sim}{k p:Int}{r l:Nat}(hl:l<(qae a k a.length).length):∀ {n:Nat},l<n→n≤(qae a k a.length).length→(chC a b im k p n).getD (r*(qae a k a.length).length+l) 0=(chC a b im k p (l+1)).getD (r*(qae a k a.length).length+l) 0
 | 0,h,_=>by omega
 | n+1,h,hn=>by
  by_cases e:l=n
  ·subst e;rfl
  ·rw[qkv (by omega) hl (by omega)]
   exact qku hl (by omega) (by omega)
theorem qnv{a b:List Sim}{im:Sim}{k p:Int}(F:ChF a b im k p){r l:Nat}(hr:r<(qae b k b.length).length)(hl:l<(qae a k a.length).length) :
  mE (qcK a b im k p) r l%p=Cc (qbq a im (smx a k l)) (smx a k l).length (qdH (smx b k r))%p:=by
 obtain⟨⟨ha,hb⟩,hm⟩:=qbT.1 F.mc
 obtain⟨s,hs,e1,e2,e3,e4,e5,e6,e7⟩:=F.col hl
 have es:smx a k l=a[s]:=by unfold smx;rw[e2,e3]
 have eE:mE (qcK a b im k p) r l=(chC a b im k p (l+1)).getD (r*(qae a k a.length).length+l) 0:=by
  rw[← qku hl hl (Nat.le_refl _)];rfl
 obtain⟨c1,c2⟩:=qkH (a:=a) (b:=b) (im:=im) (k:=k) (p:=p) e2 (fun _=>e3) hs
 rw[eE,es]
 unfold Cc
 rw[← qlK]
 by_cases hn:(img (vxs a) im a[s]).length=a[s].length
 ·obtain⟨t,f0,g1,g2,g3,g4,g5,g6⟩:=e7 hn
  have hbt:t<b.length∧b.getD t []=img (vxs a) im a[s]:=by
   obtain⟨q,hq,eq⟩:=List.mem_iff_getElem.1 e6
   have:=(qih hb.srt (s:=img (vxs a) im a[s]) hq).2 eq.symm
   have:q=t:=by omega
   subst this
   exact⟨hq,by rw[qag hq,eq]⟩
  have hbd:((b.getD t []).length:Int)=k+1:=by rw[hbt.2,hn];exact e4
  have hpos:(qbg b (img (vxs a) im a[s])-(qae b k b.length).getD 0 0).toNat=(qae b k t).length:=by
   rw[(qlV hb.srt g3 hbt.1 hbd).1,g1,g4];omega
  rw[c1 hn,hpos,if_pos hn]
  have hiff:=qhP hb.srt hbt.1 hbd hr
  rw[hbt.2] at hiff
  by_cases hpr:(qae b k t).length=r
  ·rw[hpr,List.getD_eq_getElem?_getD,List.getElem?_set_self (by rw[qcB];exact ql9 hr hl)]
   show sgn p _%p=_
   unfold qdH
   rw[if_pos (hiff.2 hpr).symm,Int.mul_one,qlw]
  ·rw[qcO fun e=>hpr (qfO hl hl e).1,qhU hl (Nat.le_refl _)]
   unfold qdH
   rw[if_neg fun e=>hpr (hiff.1 e.symm),Int.mul_zero]
 ·rw[c2 hn,if_neg hn,qhU hl (Nat.le_refl _)]
theorem qie{g:Nat→Int}:∀ {n:Nat},(∀ i,i<n→g i=0)→smN g n=0
 | 0,_=>rfl
 | n+1,h=>by
  show smN g n+g n=0
  rw[qie fun i hi=>h i (by omega),h n (by omega)];rfl
theorem qlX{g:Nat→Int}{k:Nat}:∀ {n:Nat},k<n→(∀ i,i<n→i≠k→g i=0)→smN g n=g k
 | 0,h,_=>by omega
 | n+1,h,hz=>by
  show smN g n+g n=g k
  by_cases e:k=n
  ·subst e
   rw[qie fun i hi=>hz i (by omega) (by omega)];omega
  ·rw[qlX (by omega) fun i hi hn=>hz i (by omega) hn,hz n (by omega) (fun h=>e h.symm)];omega
theorem qls{c:List Sim}(hv:VC c){k p:Int}(hk:1≤k){r l:Nat}(hr:r<(qae c (k-1) c.length).length)(hl:l<(qae c k c.length).length) :
  mE (bdM c k p) r l%p=Dd (smx c k l) (qdH (smx c (k-1) r))%p:=by
 obtain⟨s,hs,e1,e2,e3,e4⟩:=qlD hl
 rw[e2,qmg]
 have hfl:(qbZ c s).length=(c.getD s []).length:=by rw[qbi,if_pos (by omega)]
 have hface:∀ i,i<(c.getD s []).length→((c.getD s []).eraseIdx i=smx c (k-1) r↔qjC c k s i=r):=fun i hi=>by
  obtain⟨b1,b2,b3,b4⟩:=ql7 hv hs e3 (i:=i) (by omega)
  obtain⟨_,_,g2⟩:=qiw hv hs (i:=i) (by omega)
  have:=qhP hv.srt (d:=k-1) b4 (by omega) hr
  rw[← g2,b1,← this]
  exact eq_comm
 have eE:mE (bdM c k p) r l=qhi (bdM c k p).2.2.2.1 (qae c k c.length).length r l:=rfl
 rw[eE]
 by_cases he:∃ i,i<(c.getD s []).length∧qjC c k s i=r
 ·obtain⟨i0,h0,h1⟩:=he
  have hinj:∀ i,i<(c.getD s []).length→qjC c k s i=r→i=i0:=fun i hi h2=>by
   have x1:=(hface i hi).2 h2
   have x2:=(hface i0 h0).2 h1
   exact ql2 (hv.2.1 s hs).2.2.1 hi h0 (x1.trans x2.symm)
  rw[qoA hl hr e1 (by omega) h1 fun i hi h2=>hinj i (by omega) h2,qlw,qlX h0 fun i hi hn=>?_]
  ·unfold qdH
   rw[if_pos ((hface i0 h0).2 h1),Int.mul_one]
  ·unfold qdH
   rw[if_neg fun h=>hn (hinj i hi ((hface i hi).1 h)),Int.mul_zero]
 ·rw[qn6 hl e1 fun i hi h=>he ⟨i,by omega,h⟩,qie fun i hi=>?_]
  unfold qdH
  rw[if_neg fun h=>he ⟨i,hi,(hface i hi).1 h⟩,Int.mul_zero]
theorem qkT{H:Sim→Int}{ρ:Nat→Sim}{t:Sim}{q0 N:Nat}(h:q0<N)(e:ρ q0=t)(inj:∀ q,q<N→ρ q=t→q=q0):qbs (fun q=>H (ρ q)) (fun q=>qdH (ρ q) t) N=H t:=by
 rw[qbw (d:=fun q=>H (ρ q)) (h:=fun q=>if q=q0 then 1 else 0) fun q hq=>⟨rfl,?_⟩,qcD,qh0 h,e]
 unfold qdH
 by_cases hq0:q=q0
 ·rw[if_pos hq0,if_pos (by rw[hq0,e])]
 ·rw[if_neg hq0,if_neg fun h=>hq0 (inj q hq h.symm)]
theorem qkm{G:Sim→Int}{ρ:Nat→Sim}{N:Nat}{e:Nat→Sim}:∀ {n:Nat},(∀ i,i<n→∃ q0,q0<N∧ρ q0=e i∧∀ q,q<N→ρ q=e i→q=q0) →
  qbs (fun q=>G (ρ q)) (fun q=>smN (fun i=>sgI i*qdH (ρ q) (e i)) n) N=smN (fun i=>sgI i*G (e i)) n
 | 0,_=>qe8
 | n+1,h=>by
  obtain⟨q0,h1,h2,h3⟩:=h n (by omega)
  have e1:qbs (fun q=>G (ρ q)) (fun q=>smN (fun i=>sgI i*qdH (ρ q) (e i)) (n+1)) N=qbs (fun q=>G (ρ q)) (fun q=>smN (fun i=>sgI i*qdH (ρ q) (e i)) n+sgI n*qdH (ρ q) (e n)) N:=rfl
  rw[e1,qiJ (g:=fun q=>smN (fun i=>sgI i*qdH (ρ q) (e i)) n) (h:=fun q=>sgI n*qdH (ρ q) (e n)),qkm fun i hi=>h i (by omega),qeL (g:=fun q=>qdH (ρ q) (e n)),qkT h1 h2 h3];rfl
end VeT
open Go Go.Proofs Ve
namespace VeT
theorem qpa{a b:List Sim}{im:Sim}{k p:Int}(hp:2≤p∧p≤251):∀ {j:Nat},qbp (chC a b im k p j) p
 | 0=>fun x hx=>by
  unfold chC at hx
  have:=List.eq_of_mem_replicate hx
  omega
 | j+1=>fun x hx=>by
  rw[chC] at hx
  split at hx
  ·rcases List.mem_or_eq_of_mem_set hx with h | h
   ·exact qpa hp x h
   ·have:=qmC hp (qgU (qbq a im (a.getD ((qae a k a.length).getD j 0).toNat [])) (a.getD ((qae a k a.length).getD j 0).toNat []).length)
    omega
  ·exact qpa hp x hx
theorem qoM{a b:List Sim}{im:Sim}{k p:Int}(F:ChF a b im k p)(hp:Pr p):VM (qcK a b im k p):=by
 have:=F.la
 have:=F.lb
 refine⟨hp,⟨by show(0:Int)≤((qae b k b.length).length:Int);omega,by show((qae b k b.length).length:Int)≤32;omega⟩,⟨by show(0:Int)≤((qae a k a.length).length:Int);omega,by show((qae a k a.length).length:Int)≤32;omega⟩,?_,qpa F.hp⟩
 show((chC a b im k p (qae a k a.length).length).length:Int)=((qae b k b.length).length:Int)*((qae a k a.length).length:Int)
 rw[qcB,Int.natCast_mul]
theorem qow{f:Nat→Int}{n:Nat}{ρ:Nat→Sim}{N:Nat}{H:Sim→Int}(h:(sgm f n).length=n→∃ q0,q0<N∧ρ q0=sgm f n∧∀ q,q<N→ρ q=sgm f n→q=q0) :
  qbs (fun q=>H (ρ q)) (fun q=>Cc f n (qdH (ρ q))) N=Cc f n H:=by
 by_cases hn:(sgm f n).length=n
 ·obtain⟨q0,h1,h2,h3⟩:=h hn
  rw[qbw (d:=fun q=>H (ρ q)) (h:=fun q=>sgI (qgU f n)*qdH (ρ q) (sgm f n)) fun q _=>⟨rfl,by unfold Cc;rw[if_pos hn]⟩,qeL (g:=fun q=>qdH (ρ q) (sgm f n)),qkT h1 h2 h3]
  unfold Cc
  rw[if_pos hn]
 ·rw[qbw (d:=fun q=>H (ρ q)) (h:=fun _=>0) fun q _=>⟨rfl,by unfold Cc;rw[if_neg hn]⟩,qe8]
  unfold Cc
  rw[if_neg hn]
theorem qlP{c:List Sim}(hv:VC c){d:Int}{s:Nat}(hs:s<c.length)(hd:((c.getD s []).length:Int)=d+1) :
  ∃ q0,q0<(qae c d c.length).length∧smx c d q0=c.getD s []∧∀ q,q<(qae c d c.length).length→smx c d q=c.getD s []→q=q0:=by
 obtain⟨h1,h2⟩:=qib hs hd
 exact⟨_,h1,(qhP hv.srt hs hd h1).2 rfl,fun q hq e=>((qhP hv.srt hs hd hq).1 e).symm⟩
theorem qlg{a b:List Sim}{im:Sim}{k p:Int}(hk:1≤k)(Fk:ChF a b im k p)(Fl:ChF a b im (k-1) p)(Ba:BdF a k p)(Bb:BdF b k p) :
    qj0 (qcK a b im (k-1) p) (bdM a k p)=qj0 (bdM b k p) (qcK a b im k p):=by
  obtain⟨⟨ha,hb⟩,hm⟩:=qbT.1 Fk.mc
  refine qoj (qkb (qoM Fl Ba.pr) Ba.vm) (qkb Bb.vm (qoM Fk Ba.pr)) rfl rfl rfl fun r l hr hl=>?_
  have hr':r<(qae b (k-1) b.length).length:=by simpa [qj0,qcK] using hr
  have hl':l<(qae a k a.length).length:=by simpa [qj0,bdM] using hl
  rw[qnD (a:=qcK a b im (k-1) p) (b:=bdM a k p) hr hl,qnD (a:=bdM b k p) (b:=qcK a b im k p) (by simpa [bdM] using hr') (by simpa [qcK] using hl')]
  have n1:(qcK a b im (k-1) p).2.2.1.toNat=(qae a (k-1) a.length).length:=by simp[qcK]
  have n2:(bdM b k p).2.2.1.toNat=(qae b k b.length).length:=by simp[bdM]
  rw[n1,n2]
  show qbs (mE (qcK a b im (k-1) p) r) (fun q=>mE (bdM a k p) q l) (qae a (k-1) a.length).length%p=qbs (mE (bdM b k p) r) (fun q=>mE (qcK a b im k p) q l) (qae b k b.length).length%p
  obtain⟨s,hs,e1,e2,e3,e4⟩:=qlD hl'
  have hsl:((a.getD s []).length:Int)=k+1:=e3
  -- the one side
  have l1:qbs (mE (qcK a b im (k-1) p) r) (fun q=>mE (bdM a k p) q l) (qae a (k-1) a.length).length%p =
      qbs (fun q=>Cc (qbq a im (smx a (k-1) q)) (smx a (k-1) q).length (qdH (smx b (k-1) r))) (fun q=>Dd (a.getD s []) (qdH (smx a (k-1) q))) (qae a (k-1) a.length).length%p:=by
    rw[qjb (g:=fun q=>Cc (qbq a im (smx a (k-1) q)) (smx a (k-1) q).length (qdH (smx b (k-1) r))) fun q hq=>qnv Fl hr' hq]
    exact qeg fun q hq=>by rw[qls ha hk hq hl',e2]
  have l2:qbs (fun q=>Cc (qbq a im (smx a (k-1) q)) (smx a (k-1) q).length (qdH (smx b (k-1) r))) (fun q=>Dd (a.getD s []) (qdH (smx a (k-1) q))) (qae a (k-1) a.length).length =
      smN (fun i=>sgI i*Cc (qbq a im ((a.getD s []).eraseIdx i)) ((a.getD s []).eraseIdx i).length (qdH (smx b (k-1) r))) (a.getD s []).length:=by
    have:=qkm (G:=fun t=>Cc (qbq a im t) t.length (qdH (smx b (k-1) r))) (ρ:=smx a (k-1)) (N:=(qae a (k-1) a.length).length) (e:=fun i=>(a.getD s []).eraseIdx i) (n:=(a.getD s []).length) fun i hi=>by
      have hfl:(qbZ a s).length=(a.getD s []).length:=by rw[qbi,if_pos (by omega)]
      obtain⟨_,b2,b3,b4⟩:=ql7 ha hs e3 (i:=i) (by omega)
      obtain⟨_,_,g2⟩:=qiw ha hs (i:=i) (by omega)
      rw[← g2]
      exact qlP ha b4 (by omega)
    rw[← this]
    exact qbw fun q _=>⟨rfl,qmg⟩
  have l3:smN (fun i=>sgI i*Cc (qbq a im ((a.getD s []).eraseIdx i)) ((a.getD s []).eraseIdx i).length (qdH (smx b (k-1) r))) (a.getD s []).length=Cc (qbq a im (a.getD s [])) (a.getD s []).length (fun t=>Dd t (qdH (smx b (k-1) r))):=by
    rw[qoy]
    refine qgP fun i hi=>?_
    rw[List.length_eraseIdx_of_lt hi]
    congr 1
    refine qkW fun j hj=>?_
    unfold skp
    show qd4 (vxs a) im (((a.getD s []).eraseIdx i).getD j 0)=_
    by_cases hji:j<i
    · rw[if_pos hji,List.getD_eq_getElem?_getD,List.getElem?_eraseIdx_of_lt hji,← List.getD_eq_getElem?_getD]
    · rw[if_neg hji,List.getD_eq_getElem?_getD,List.getElem?_eraseIdx_of_ge (by omega),← List.getD_eq_getElem?_getD]
  -- the other side
  have r1:qbs (mE (bdM b k p) r) (fun q=>mE (qcK a b im k p) q l) (qae b k b.length).length%p =
      qbs (fun q=>Dd (smx b k q) (qdH (smx b (k-1) r))) (fun q=>Cc (qbq a im (a.getD s [])) (a.getD s []).length (qdH (smx b k q))) (qae b k b.length).length%p:=by
    rw[qjb (g:=fun q=>Dd (smx b k q) (qdH (smx b (k-1) r))) fun q hq=>qls hb hk hr' hq]
    exact qeg fun q hq=>by rw[qnv Fk hq hl',e2]
  rw[l1,l2,l3,r1,qow (H:=fun t=>Dd t (qdH (smx b (k-1) r)))]
  intro hn
  rw[← qlK] at hn ⊢
  have hin:img (vxs a) im (a.getD s [])∈b:=hm.2 _ (by rw[qag hs];exact List.getElem_mem hs)
  obtain⟨t,ht,et⟩:=List.mem_iff_getElem.1 hin
  have eg:b.getD t []=img (vxs a) im (a.getD s []):=by rw[qag ht,et]
  rw[← eg]
  exact qlP hb ht (by rw[eg];omega)
end VeT
open Go Go.Proofs Ve
namespace VeT
end VeT
open Go Go.Proofs Ve
namespace VeT
theorem qgx{a b:List Sim}{im:Sim}{k p:Int}(hp:2≤p∧p≤251):∀ {j:Nat},qbp (chC a b im k p j) p
 | 0=>qix hp.1
 | j+1=>fun x hx=>by
  unfold chC at hx
  simp only at hx
  split at hx
  ·rcases List.mem_or_eq_of_mem_set hx with hx | rfl
   ·exact qgx hp x hx
   ·exact qmC hp _
  ·exact qgx hp x hx
theorem ChF.vm{a b:List Sim}{im:Sim}{k p:Int}(F:ChF a b im k p)(hp:Pr p):VM (qcK a b im k p):=by
 have:=F.la
 have:=F.lb
 refine⟨hp,⟨by show(0:Int)≤((qae b k b.length).length:Int);omega,by show((qae b k b.length).length:Int)≤32;omega⟩,⟨by show(0:Int)≤((qae a k a.length).length:Int);omega,by show((qae a k a.length).length:Int)≤32;omega⟩,?_,qgx F.hp⟩
 show((chC a b im k p (qae a k a.length).length).length:Int)=((qae b k b.length).length:Int)*((qae a k a.length).length:Int)
 rw[qcB,Int.natCast_mul]
end VeT
open Go Go.Proofs Ve
namespace VeT
end VeT
open Go Go.Proofs Ve
namespace VeT
end VeT
open Go Go.Proofs Ve
namespace VeT
theorem qmG{f:Nat}{args:List Dv}(h:qil f args (.cons .bool .nil) fun(r:Bool×Unit)=>r.1=true):Ret E f args ⟨.cons .bool .nil,(true,())⟩:=by
 obtain⟨⟨b,⟨⟩⟩,h1,h2⟩:=h
 have h2:b=true:=h2
 subst h2
 exact h1
theorem qpd{c:List Int}(h:Wf (.sl (.int .u8)) c):SO 0 (c,0,0,()):=⟨fun b hb=>by
 have:=h.2 b hb
 simp only[Wf,Lit.wf,IntKind.min,IntKind.max,IntKind.signed,IntKind.bits,Bool.and_eq_true,decide_eq_true_eq] at this
 simp at this
 omega,by show(0:Int)≤0;omega,by show(0:Int)≤((0:Nat):Int);omega⟩
theorem qjY(x:List Int):Ret E n_Z40 [dB x] ⟨o_Z40,(decide ((x.length:Int)>1048576),())⟩:=by
 refine qat ?_
 simp only[run_Z40,Z40.ev]
 exact Ev.of fun _=>trivial
end VeT
open Go Go.Proofs Ve
namespace VeT
def Bc(m:Nat)(c:List Sim):Prop:=c.length≤m∧∀ x∈c,x.length≤8
theorem Bc.sm{m:Nat}{c:List Sim}(h:Bc m c)(hm:m≤1048576):Sm (.sl (.sl (.int .i64))) c:=⟨Nat.le_trans h.1 hm,fun x hx=>⟨by have:=h.2 x hx;show x.length≤1048576;omega,fun _ _=>trivial⟩⟩
theorem Bc.le{m k:Nat}{c:List Sim}(h:Bc m c)(hk:m≤k):Bc k c:=⟨by have:=h.1;omega,h.2⟩
theorem qcE(l:List Sim)(hl:l.length≤7)(hx:∀ s∈l,1≤s.length∧s.length≤4):qil n_Z90 [dLL l] o_Z90 fun(r:List Sim×Unit)=>Bc 287 r.1:=by
 obtain⟨c',h1,h2,h3,h4⟩:=qjM l (by omega) hx
 refine⟨(c',()),h1,by show c'.length≤287;omega,fun x hx'=>?_⟩
 obtain⟨s,hs,hf⟩:=(h3 x).1 hx'
 have:=hf.2.length_le
 have:=(hx s hs).2
 omega
theorem qe4(n:Nat)(s:Src)(hn:n≤1000000000)(hs:SO n s):qil n_Z92 [dR s] o_Z92 fun(r:List Sim×Src×Unit)=>Bc 287 r.1∧SO (n+100) r.2.1:=by
 obtain⟨c,a,g,⟨⟩⟩:=s
 refine qbv ?_
 simp only[run_Z92,Z92.ev]
 refine qbe (qbO n _ 6 (by omega) hs) fun(r:Int×Src×Unit) ⟨r1,r2,r3,r4⟩=>?_
 refine qda (fun _=>qbe (qcE _ (by decide) (by decide)) fun(q:List Sim×Unit) q1=>qaQ ⟨q1,r4.le (by omega)⟩) fun _=>?_
 refine qda (fun _=>qbe (qcE _ (by decide) (by decide)) fun(q:List Sim×Unit) q1=>qaQ ⟨q1,r4.le (by omega)⟩) fun _=>?_
 refine qbe (qbO (n+2) _ 4 (by omega) r4) fun(v:Int×Src×Unit) ⟨v1,v2,v3,v4⟩=>?_
 refine qbe (qbO (n+4) _ 6 (by omega) v4) fun(q:Int×Src×Unit) ⟨q1,q2,q3,q4⟩=>?_
 obtain⟨k0,hk0⟩:∃ k:Nat,(q.1:Int)=(k:Int):=⟨Int.toNat q.1,(Int.toNat_of_nonneg q1).symm⟩
 have ev:w64 (3+v.1)=3+v.1:=qam (by omega) (by omega)
 refine EvQ.start 1 (L:=fun φ N=>Z92.l0 (mkR (run E (φ 0))) (φ 0) N (w64 (3+v.1)) q.1 [] q.2.1.1 q.2.1.2.1 q.2.1.2.2.1) ?_ (fun _ _ _=>rfl)
 rw[hk0,ev]
 refine EvQ.loop 1 (σ:=Nat×List Sim×Src) (L:=fun φ N st=>Z92.l0 (mkR (run E (φ 0))) (φ 0) N (3+v.1) (st.1:Int) st.2.1 st.2.2.1 st.2.2.2.1 st.2.2.2.2.1) (fun _ _ _ _=>rfl)
  (fun st=>(∀ x∈st.2.1,1≤x.length∧x.length≤4)∧st.2.1.length+st.1≤6∧SO (n+90-12*st.1) st.2.2) (fun st=>st.1) (fun st hi ih=>?_) (k0,[],q.2.1) ⟨fun x hx=>by simp at hx,by show 0+k0≤6;omega,q4.le (by show n+4+2≤n+90-12*k0;omega)⟩
 obtain⟨k,o,s1⟩:=st
 obtain⟨i1,i2,i3⟩:=hi
 simp only at i1 i2 i3 ih ⊢
 have fin:∀(l:List Sim) (s2:Src),l.length≤7→(∀ x∈l,1≤x.length∧x.length≤4)→SO (n+100) s2→EvQ (fun φ=>Z92.j1 (mkR (run E (φ 0))) (φ 0) l s2.1 s2.2.1 s2.2.2.1) o_Z92 fun(r:List Sim×Src×Unit)=>Bc 287 r.1∧SO (n+100) r.2.1:=by
  intro l s2 h1 h2 h3
  simp only[Z92.j1_eq _ qaj]
  exact qbe (qcE _ h1 h2) fun(q:List Sim×Unit) q1=>qaQ ⟨q1,h3⟩
 simp only[Z92.l0_succ _ qaj]
 refine qeE (fun h=>?_) fun h=>?_
 ·refine qbe (qgo _ s1 _ 3 (by omega) i3 (by decide) (by omega)) fun(t:Sim×Src×Unit) ⟨t1,t2,t3,t4⟩=>?_
  refine qbJ (decide_eq_true (by simp;omega)) ?_
  rw[show w64 ((k:Int)-1)=((k-1:Nat):Int) by rw[qam (by omega) (by omega)];omega]
  refine ih (k-1,o++[t.1],t.2.1) ⟨fun x hx=>?_,?_,?_⟩ (by show k-1<k;omega)
  ·rcases List.mem_append.1 hx with hx | hx
   ·exact i1 x hx
   ·rw[List.mem_singleton] at hx;subst hx;exact⟨t1.1,t1.2.1⟩
  ·show(o++[t.1]).length+(k-1)≤6
   simp;omega
  ·exact t4.le (by show n+90-12*k+12≤n+90-12*(k-1);omega)
 ·refine qbe (qig _ s1 6 (by omega) i3) fun(q:Bool×Src×Unit) q1=>?_
  refine qda (fun _=>qbJ (decide_eq_true (by simp;omega)) ?_) fun _=>?_
  ·refine fin (o++[[0,1,2,3]]) q.2.1 (by simp;omega) (fun x hx=>?_) (q1.le (by omega))
   rcases List.mem_append.1 hx with hx | hx
   ·exact i1 x hx
   ·rw[List.mem_singleton] at hx;subst hx;exact⟨by decide,by decide⟩
  ·exact fin o q.2.1 (by omega) i1 (q1.le (by omega))
theorem qle(n:Nat)(s:Src)(hn:n≤100000000)(hs:SO n s):qil n_Z89 [dR s] o_Z89 fun(r:List Sim×Src×Unit)=>Bc 288 r.1∧SO (n+200) r.2.1:=by
 obtain⟨c,a,g,⟨⟩⟩:=s
 have fin:∀(l:List Sim) (s2:Src),Bc 288 l→SO (n+200) s2→EvQ (fun φ=>Z89.j0 (mkR (run E (φ 0))) (φ 0) l s2.1 s2.2.1 s2.2.2.1) o_Z89 fun(r:List Sim×Src×Unit)=>Bc 288 r.1∧SO (n+200) r.2.1:=by
  intro l s2 h1 h2
  simp only[Z89.j0_eq _ qaj]
  exact qaQ ⟨h1,h2⟩
 have app:∀(l:List Sim) (x:Sim),Bc 287 l→x.length≤8→Bc 288 (l++[x]):=by
  intro l x h hx
  refine⟨by have:=h.1;simp;omega,fun y hy=>?_⟩
  rcases List.mem_append.1 hy with hy | hy
  ·exact h.2 y hy
  ·rw[List.mem_singleton] at hy;subst hy;exact hx
 refine qbv ?_
 simp only[run_Z89,Z89.ev]
 refine qbe (qe4 n _ (by omega) hs) fun(d:List Sim×Src×Unit) ⟨d1,d2⟩=>?_
 have hd1:=d1.1
 refine qbe (qbO (n+100) _ 20 (by omega) d2) fun(r:Int×Src×Unit) ⟨r1,r2,r3,r4⟩=>?_
 refine qda (fun _=>?_) fun _=>?_
 ·refine qeE (fun h=>qbJ (by simp only[Bool.and_eq_true,decide_eq_true_eq];omega) ?_) fun _=>fin d.1 r.2.1 (d1.le (by omega)) (r4.le (by omega))
  rw[List.take_length]
  exact fin (d.1.drop 1) r.2.1 ⟨by rw[List.length_drop];omega,fun x hx=>d1.2 x (List.mem_of_mem_drop hx)⟩ (r4.le (by omega))
 refine qda (fun _=>?_) fun _=>?_
 ·refine qbe (qex _ r.2.1 [0,9,10,-1] (by decide) (by omega) r4) fun(q:Int×Src×Unit) ⟨_,q1⟩=>?_
  exact qbJ (decide_eq_true (by simp;omega)) (fin _ q.2.1 (app _ _ d1 (by simp)) (q1.le (by omega)))
 refine qda (fun _=>?_) fun _=>?_
 ·exact qbJ (decide_eq_true (by simp;omega)) (fin _ r.2.1 (app _ _ d1 (by simp)) (r4.le (by omega)))
 refine qda (fun _=>?_) fun _=>?_
 ·refine qbe (qcE _ (by decide) (by decide)) fun(q:List Sim×Unit) q1=>?_
  refine qbe (qig _ r.2.1 2 (by omega) r4) fun(v:Bool×Src×Unit) v1=>?_
  refine qda (fun _=>qbe (qcE _ (by decide) (by decide)) fun(q:List Sim×Unit) q1=>?_) fun _=>?_
  ·exact fin _ v.2.1 (q1.le (by omega)) (v1.le (by omega))
  ·exact fin _ v.2.1 (q1.le (by omega)) (v1.le (by omega))
 ·exact fin d.1 r.2.1 (d1.le (by omega)) (r4.le (by omega))
theorem qoD(vs im:Sim)(v:Int)(hl:im.length≤vs.length)(h1:vs.length≤1048576):qil n_Z110 [dL vs,dL im,dI v] o_Z110 fun(r:Int×Unit)=>True:=by
 refine qbv ?_
 simp only[run_Z110,Z110.ev]
 refine EvQ.start 1 (L:=fun φ N=>Z110.l0 (mkR (run E (φ 0))) (φ 0) N vs im v 0) ?_ (fun _ _ _=>rfl)
 refine EvQ.loop 1 (σ:=Nat) (L:=fun φ N i=>Z110.l0 (mkR (run E (φ 0))) (φ 0) N vs im v (i:Int)) (fun _ _ _ _=>rfl) (fun i=>i≤im.length) (fun i=>im.length-i) (fun i hi ih=>?_) 0 (Nat.zero_le _)
 simp only[Z110.l0_succ _ qaj]
 refine qeE (fun h=>?_) fun h=>qaQ trivial
 have hlt:i<im.length:=by omega
 have hv:i<vs.length:=by omega
 refine qcU (qas hv) (qda (fun _=>qcU (qas hlt) (qaQ trivial)) fun _=>?_)
 rw[qao (by omega)]
 exact ih (i+1) (by omega) (by omega)
theorem qnM(vs im s:Sim)(hl:im.length≤vs.length)(h1:vs.length≤1048576)(hs1:s.length≤1000):qil n_Z108 [dL vs,dL im,dL s] o_Z108 fun(r:Sim×Bool×Unit)=>r.1.length≤1000:=by
 refine qbv ?_
 simp only[run_Z108,Z108.ev]
 refine EvQ.start 1 (L:=fun φ N=>Z108.l0 (mkR (run E (φ 0))) (φ 0) N vs im s [] 0) ?_ (fun _ _ _=>rfl)
 refine EvQ.loop 1 (σ:=Nat×Sim) (L:=fun φ N st=>Z108.l0 (mkR (run E (φ 0))) (φ 0) N vs im s st.2 (st.1:Int)) (fun _ _ _ _=>rfl) (fun st=>st.1≤s.length∧st.2.length≤st.1) (fun st=>s.length-st.1) (fun st hi ih=>?_) (0,[]) ⟨Nat.zero_le _,Nat.le_refl _⟩
 obtain⟨i,o⟩:=st
 obtain⟨i1,i2⟩:=hi
 simp only at i1 i2 ih ⊢
 simp only[Z108.l0_succ _ qaj]
 refine qeE (fun h=>?_) fun h=>qaQ (by show o.length≤1000;omega)
 have hlt:i<s.length:=by omega
 refine qcU (qas hlt) (qbe (qoD vs im _ hl h1) fun(q:Int×Unit) _=>qeE (fun _=>qaQ (by show(0:Nat)≤1000;omega)) fun _=>qa8 (qe3 o q.1 (by omega)) ?_)
 rw[qao (by omega)]
 have:=qca (l:=o) (n:=q.1)
 exact ih (i+1,qbU o q.1) ⟨by show i+1≤s.length;omega,by show(qbU o q.1).length≤i+1;omega⟩ (by show s.length-(i+1)<s.length-i;omega)
theorem qot(a b:Cpx)(vs im:Sim)(ha:Bc 288 a.1)(hb:Bc 288 b.1)(hl:im.length≤vs.length)(h1:vs.length≤1048576):qil n_Z107 [dC a,dC b,dL vs,dL im] o_Z107 fun(r:Bool×Unit)=>True:=by
 have ha1:=ha.1
 refine qbv ?_
 simp only[run_Z107,Z107.ev]
 refine EvQ.start 1 (L:=fun φ N=>Z107.l0 (mkR (run E (φ 0))) (φ 0) N a b vs im 0) ?_ (fun _ _ _=>rfl)
 refine EvQ.loop 1 (σ:=Nat) (L:=fun φ N i=>Z107.l0 (mkR (run E (φ 0))) (φ 0) N a b vs im (i:Int)) (fun _ _ _ _=>rfl) (fun i=>i≤a.1.length) (fun i=>a.1.length-i) (fun i hi ih=>?_) 0 (Nat.zero_le _)
 have fin:i<a.1.length→∀ x:Bool,EvQ (fun φ=>Z107.j1 (mkR (run E (φ 0))) (φ 0) (φ 1) a b vs im (i:Int) x) o_Z107 fun(r:Bool×Unit)=>True:=by
  intro h x
  simp only[Z107.j1_eq _ qaj]
  refine qda (fun _=>qaQ trivial) fun _=>?_
  rw[qao (by omega)]
  exact ih (i+1) (by omega) (by omega)
 simp only[Z107.l0_succ _ qaj]
 refine qeE (fun h=>?_) fun h=>qaQ trivial
 have hlt:i<a.1.length:=by omega
 have:=ha.2 _ (List.getElem_mem hlt)
 refine qcU (qas hlt) (qbe (qnM vs im _ hl h1 (by omega)) fun(q:Sim×Bool×Unit) _=>qda (fun _=>qa8 (qaU b q.1 (hb.sm (by omega))) (fin hlt _)) fun _=>fin hlt _)
end VeT
open Go Go.Proofs Ve
namespace VeT
abbrev qnk:=List Sim×List Sim×Sim×Src×Unit
def DrM(n:Nat)(r:qnk):Prop:=Bc 288 r.1∧Bc 288 r.2.1∧r.2.2.1.length≤400∧SO n r.2.2.2.1
theorem qmh(n:Nat)(s:Src)(hn:n≤10000000)(hs:SO n s):qil n_Z105 [dR s] o_Z105 fun(r:qnk)=>DrM (n+2000) r:=by
 obtain⟨c,a,g,⟨⟩⟩:=s
 refine qbv ?_
 simp only[run_Z105,Z105.ev]
 refine qbe (qe4 n _ (by omega) hs) fun(x:List Sim×Src×Unit) ⟨x1,x2⟩=>?_
 refine qbe (qe4 (n+100) _ (by omega) x2) fun(y:List Sim×Src×Unit) ⟨y1,y2⟩=>?_
 refine qbe (qig (n+200) _ 3 (by omega) y2) fun(q:Bool×Src×Unit) q1=>?_
 have hx:Bc 288 x.1:=x1.le (by omega)
 have hx1:=hx.1
 have key:∀(b:List Sim) (s1:Src),Bc 288 b→SO (n+202) s1→EvQ (fun φ=>Z105.j0 (mkR (run E (φ 0))) (φ 0) b s1.1 s1.2.1 s1.2.2.1 x.1) o_Z105 fun(r:qnk)=>DrM (n+2000) r:=by
  intro b s1 hb h1
  have key1:∀(b:List Sim) (s1:Src),Bc 288 b→SO (n+500) s1→EvQ (fun φ=>Z105.j1 (mkR (run E (φ 0))) (φ 0) b s1.1 s1.2.1 s1.2.2.1 x.1) o_Z105 fun(r:qnk)=>DrM (n+2000) r:=by
   intro b s1 hb h1
   have hb1:=hb.1
   simp only[Z105.j1_eq _ qaj]
   refine qa8 (qce (x.1,()) (hx.sm (by omega))) (qa8 (qce (b,()) (hb.sm (by omega))) ?_)
   have hv:(vxs x.1).length≤288:=Nat.le_trans qbI hx1
   have hw:(vxs b).length≤288:=Nat.le_trans qbI hb1
   generalize hvs:vxs x.1=vs at hv
   generalize vxs b=ws at hw
   have fin:∀(im:Sim) (s2:Src),im.length≤290→SO (n+1200) s2→EvQ (fun φ=>Z105.j5 (mkR (run E (φ 0))) (φ 0) b im s2.1 s2.2.1 s2.2.2.1 x.1) o_Z105 fun(r:qnk)=>DrM (n+2000) r:=by
    intro im s2 h1 h2
    simp only[Z105.j5_eq _ qaj]
    exact qaQ ⟨hx,hb,by show im.length≤400;omega,h2.le (by omega)⟩
   have last:∀(i:Nat) (im:Sim) (s2:Src),im.length≤288→SO (n+1100) s2→EvQ (fun φ=>Z105.j3 (mkR (run E (φ 0))) (φ 0) (φ 1) vs ws (i:Int) false b im s2.1 s2.2.1 s2.2.2.1 x.1) o_Z105 fun(r:qnk)=>DrM (n+2000) r:=by
    intro i im s2 h1 h2
    simp only[Z105.j3_eq _ qaj]
    refine qmy rfl (qbe (qbO (n+1100) s2 18 (by omega) h2) fun(r:Int×Src×Unit) ⟨_,_,_,r4⟩=>?_)
    refine qda (fun _=>qbJ (decide_eq_true (by simp;omega)) (fin _ r.2.1 (by simp;omega) (r4.le (by omega)))) fun _=>?_
    refine qda (fun _=>?_) fun _=>fin im r.2.1 (by omega) (r4.le (by omega))
    refine qeE (fun h=>?_) fun _=>fin im r.2.1 (by omega) (r4.le (by omega))
    refine qbe (qex _ r.2.1 [-1,9,10,3] (by decide) (by omega) r4) fun(v:Int×Src×Unit) ⟨_,v1⟩=>?_
    exact qbJ (by simp only[Bool.and_eq_true,decide_eq_true_eq];omega) (fin _ v.2.1 (by simp;omega) (v1.le (by omega)))
   refine EvQ.start 1 (L:=fun φ N=>Z105.l2 (mkR (run E (φ 0))) (φ 0) N vs ws 0 b [] s1.1 s1.2.1 s1.2.2.1 x.1) ?_ (fun _ _ _=>rfl)
   refine EvQ.loop 1 (σ:=Nat×Sim×Src) (L:=fun φ N st=>Z105.l2 (mkR (run E (φ 0))) (φ 0) N vs ws (st.1:Int) b st.2.1 st.2.2.1 st.2.2.2.1 st.2.2.2.2.1 x.1) (fun _ _ _ _=>rfl)
    (fun st=>st.1≤vs.length∧st.2.1.length≤st.1∧SO (n+500+2*st.1) st.2.2) (fun st=>vs.length-st.1) (fun st hi ih=>?_) (0,[],s1) ⟨Nat.zero_le _,Nat.le_refl _,h1⟩
   obtain⟨i,im,s2⟩:=st
   obtain⟨i1,i2,i3⟩:=hi
   simp only at i1 i2 i3 ih ⊢
   simp only[Z105.l2_succ _ qaj]
   refine qeE (fun h=>?_) fun h=>last i im s2 (by omega) (i3.le (by omega))
   have hlt:i<vs.length:=by omega
   by_cases hws:ws.length=0
   ·rw[decide_eq_false (by omega)]
    exact last i im s2 (by omega) (i3.le (by omega))
   ·rw[decide_eq_true (by omega)]
    simp only[Z105.j3_eq _ qaj]
    refine qnI rfl (qbe (qbO (n+500+2*i) s2 _ (by omega) i3) fun(r:Int×Src×Unit) ⟨r1,r2,r3,r4⟩=>?_)
    obtain⟨at0,hat⟩:∃ k:Nat,(r.1:Int)=(k:Int):=⟨Int.toNat r.1,(Int.toNat_of_nonneg r1).symm⟩
    rw[hat]
    have next:∀ im2:Sim,im2.length≤i+1→EvQ (fun φ=>Z105.l2 (mkR (run E (φ 0))) (φ 0) (φ 1) vs ws (w64 ((i:Int)+1)) b im2 r.2.1.1 r.2.1.2.1 r.2.1.2.2.1 x.1) o_Z105 fun(r:qnk)=>DrM (n+2000) r:=by
     intro im2 h2
     rw[qao (by omega)]
     exact ih (i+1,im2,r.2.1) ⟨by show i+1≤vs.length;omega,h2,r4.le (by show n+500+2*i+2≤n+500+2*(i+1);omega)⟩ (by show vs.length-(i+1)<vs.length-i;omega)
    refine EvQ.start 2 (L:=fun φ N=>Z105.l4 (mkR (run E (φ 0))) (φ 0) (φ 1) N vs ws (i:Int) (at0:Int) 0 b im r.2.1.1 r.2.1.2.1 r.2.1.2.2.1 x.1) ?_ (fun _ _ _=>rfl)
    refine EvQ.loop 2 (σ:=Nat) (L:=fun φ N k=>Z105.l4 (mkR (run E (φ 0))) (φ 0) (φ 1) N vs ws (i:Int) (at0:Int) (k:Int) b im r.2.1.1 r.2.1.2.1 r.2.1.2.2.1 x.1) (fun _ _ _ _=>rfl)
     (fun k=>k≤ws.length) (fun k=>ws.length-k) (fun k hk ihk=>?_) 0 (Nat.zero_le _)
    simp only[Z105.l4_succ _ qaj]
    refine qeE (fun h=>?_) fun h=>next im (by omega)
    have hm:(at0+k)%ws.length<ws.length:=Nat.mod_lt _ (by omega)
    have e:Int.tmod (w64 ((at0:Int)+(k:Int))) (ws.length:Int)=(((at0+k)%ws.length:Nat):Int):=by
     rw[qam (by omega) (by omega),Int.tmod_eq_emod_of_nonneg (by omega),Int.natCast_emod,Int.natCast_add]
    refine qbJ (by simpa using hws) ?_
    rw[e]
    refine qcU (qas hm) (qa8 (qeV im (by omega)) (qbJ (decide_eq_true (by simp;omega)) ?_))
    refine qbe (qot (x.1,()) (b,()) vs _ hx hb (by simp;omega) (by omega)) fun(v:Bool×Unit) _=>qda (fun _=>qbJ (decide_eq_true (by simp;omega)) (next _ (by simp;omega))) fun _=>?_
    rw[qao (by omega)]
    exact ihk (k+1) (by omega) (by omega)
  simp only[Z105.j0_eq _ qaj]
  refine qbe (qig (n+202) s1 16 (by omega) h1) fun(q:Bool×Src×Unit) q1=>qda (fun _=>qbe (qle (n+204) _ (by omega) q1) fun(z:List Sim×Src×Unit) ⟨z1,z2⟩=>key1 z.1 z.2.1 z1 (z2.le (by omega))) fun _=>key1 b q.2.1 hb (q1.le (by omega))
 exact qda (fun _=>key x.1 q.2.1 hx q1) fun _=>key y.1 q.2.1 (y1.le (by omega)) q1
theorem qmN(n:Nat)(s:Src)(hn:n≤10000000)(hs:SO n s):qil n_Z106 [dR s] o_Z106 fun(r:Int×Src×Unit)=>SO (n+2) r.2.1:=by
 refine qbv ?_
 simp only[run_Z106,Z106.ev]
 exact qbe (qex n s _ (by decide) (by omega) hs) fun(v:Int×Src×Unit) ⟨_,v1⟩=>qaQ v1
theorem qnQ(n:Nat)(s:Src)(hn:n≤10000000)(hs:SO n s):qil n_Z103 [dR s] o_Z103 fun(r:Int×Src×Unit)=>SO (n+2) r.2.1:=by
 refine qbv ?_
 simp only[run_Z103,Z103.ev]
 exact qbe (qex n s _ (by decide) (by omega) hs) fun(v:Int×Src×Unit) ⟨_,v1⟩=>qaQ v1
theorem qhT(x:List Int)(h:Wf (.sl (.int .u8)) x):qil n_Z64 [dB x] o_Z64 fun(r:List Sim×List Sim×Sim×Int×Int×Unit)=>Bc 288 r.1∧Bc 288 r.2.1∧r.2.2.1.length≤400:=by
 refine qbv ?_
 simp only[run_Z64,Z64.ev]
 refine qa8 (qj4 x) (qbe (qmh 0 _ (by omega) (qpd h)) fun(r:qnk) ⟨r1,r2,r3,r4⟩=>?_)
 refine qbe (qmN _ _ (by omega) r4) fun(k:Int×Src×Unit) k1=>qbe (qnQ _ _ (by omega) k1) fun(p:Int×Src×Unit) p1=>qaQ ⟨r1,r2,r3⟩
end VeT
open Go Go.Proofs Ve
namespace VeT
end VeT
open Go Go.Proofs Ve
namespace VeT
def wN(w:Sim)(i:Nat):Nat:=(w.getD i 0).toNat
theorem qom.wN{c:List Sim}{w:Sim}(h:qom c w){i:Nat}(hi:i<w.length):w[i]? = some ((wN w i:Nat):Int)∧wN w i<c.length:=by
 obtain⟨n,hn,hl⟩:=h.get hi
 have e:VeT.wN w i=n:=by unfold VeT.wN;rw[qag hi,hn,Int.toNat_natCast]
 rw[e,List.getElem?_eq_getElem hi,hn]
 exact⟨rfl,hl⟩
end VeT
open Go Go.Proofs Ve
namespace VeT
end VeT
open Go Go.Proofs Ve
namespace VeT
end VeT
open Go Go.Proofs Ve
namespace VeT
end VeT
open Go Go.Proofs Ve
namespace VeT
theorem qom.at{c:List Sim}{w:Sim}(hp:qom c w){i:Nat}(hi:i<w.length):w[i]=((VeT.wN w i:Nat):Int):=by
 have:=(hp.wN hi).1
 rw[List.getElem?_eq_getElem hi] at this
 exact Option.some.inj this
end VeT
open Go Go.Proofs Ve
namespace VeT
end VeT
open Go Go.Proofs Ve
namespace VeT
end VeT
open Go Go.Proofs Ve
namespace VeT
end VeT
open Go Go.Proofs Ve
namespace VeT
theorem qmQ:∀ {c d:Sim},c.Pairwise (·<·)→d.Pairwise (·<·)→(∀ x,x∈c↔x∈d)→c=d:=by
 intro c
 induction c with
 | nil =>
  intro d _ _ h
  cases d with
  | nil=>rfl
  | cons y d=>exact absurd ((h y).2 List.mem_cons_self) (by simp)
 | cons x c ih =>
  intro d hc hd h
  cases d with
  | nil=>exact absurd ((h x).1 List.mem_cons_self) (by simp)
  | cons y d =>
   obtain⟨hc1,hc2⟩:=List.pairwise_cons.1 hc
   obtain⟨hd1,hd2⟩:=List.pairwise_cons.1 hd
   have hxy:x=y:=by
    rcases List.mem_cons.1 ((h x).1 List.mem_cons_self) with e | e
    ·exact e
    ·rcases List.mem_cons.1 ((h y).2 List.mem_cons_self) with e2 | e2
     ·exact e2.symm
     ·have h1:=hd1 x e
      have h2:=hc1 y e2
      omega
   subst hxy
   rw[ih hc2 hd2 fun z=>?_]
   constructor
   ·intro hz
    rcases List.mem_cons.1 ((h z).1 (List.mem_cons_of_mem _ hz)) with e | e
    ·subst e;have:=hc1 z hz;omega
    ·exact e
   ·intro hz
    rcases List.mem_cons.1 ((h z).2 (List.mem_cons_of_mem _ hz)) with e | e
    ·subst e;have:=hd1 z hz;omega
    ·exact e
noncomputable def qgn(a:List Sim)(im:Sim)(k:Nat):List Sim:=(a.take k).map (img (vxs a) im)
theorem qiN{a:List Sim}{im:Sim}{k:Nat}(hk:k<a.length):qgn a im (k+1)=qgn a im k++[img (vxs a) im a[k]]:=by
 unfold qgn
 rw[List.take_succ_eq_append_getElem hk,List.map_append];rfl
theorem qf3{a:List Sim}{im:Sim}{k:Nat}(hk:k≤a.length):(qgn a im k).length=k:=by
 unfold qgn;rw[List.length_map,List.length_take];omega
theorem qkf{a b:List Sim}{im:Sim}(ha:VC a)(x:Sim):(∃ s∈qgn a im a.length,Fa x s)↔x∈qgn a im a.length:=by
 unfold qgn
 rw[List.take_length]
 constructor
 ·rintro⟨s,hs,hf⟩
  obtain⟨σ,hσ,rfl⟩:=List.mem_map.1 hs
  have hrise:=qkx (vxs a) im σ
  have hxr:x.Pairwise (·<·):=hrise.sublist hf.2
  have hsub:∀ y∈x,y∈img (vxs a) im σ:=fun y hy=>hf.2.subset hy
  have hτ:Fa (σ.filter fun v=>decide (qd4 (vxs a) im v∈x)) σ:=by
   refine⟨fun e=>?_,List.filter_sublist⟩
   obtain⟨y,hy⟩:=List.exists_mem_of_ne_nil _ hf.1
   obtain⟨v,hv,hvy⟩:=qhI.1 (hsub y hy)
   have:v∈σ.filter fun v=>decide (qd4 (vxs a) im v∈x):=List.mem_filter.2 ⟨hv,by rw[decide_eq_true_iff,hvy];exact hy⟩
   rw[e] at this;cases this
  refine List.mem_map.2 ⟨_,ha.cl σ hσ _ hτ,?_⟩
  refine qmQ (qkx _ _ _) hxr fun y=>?_
  rw[qhI]
  constructor
  ·rintro⟨v,hv,rfl⟩
   exact of_decide_eq_true (List.mem_filter.1 hv).2
  ·intro hy
   obtain⟨v,hv,hvy⟩:=qhI.1 (hsub y hy)
   exact⟨v,List.mem_filter.2 ⟨hv,by rw[decide_eq_true_iff,hvy];exact hy⟩,hvy⟩
 ·intro hx
  refine⟨x,hx,?_,List.Sublist.refl _⟩
  obtain⟨σ,hσ,rfl⟩:=List.mem_map.1 hx
  obtain⟨k,hk,e⟩:=List.mem_iff_getElem.1 hσ
  have h1:=(ha.2.1 k hk).1
  rw[qag hk,e] at h1
  obtain⟨v,hv⟩:=List.exists_mem_of_length_pos (show 0<σ.length by omega)
  intro e
  have:qd4 (vxs a) im v∈img (vxs a) im σ:=qhI.2 ⟨v,hv,rfl⟩
  rw[e] at this;cases this
theorem ql0{a b:List Sim}{im:Sim}(h:MC a b im=0){k:Nat}:∀ s∈qgn a im k,s∈b∧1≤s.length∧s.length≤4:=fun s hs=>by
 obtain⟨⟨ha,hb⟩,hm⟩:=qbT.1 h
 obtain⟨σ,hσ,rfl⟩:=List.mem_map.1 hs
 have hin:=hm.2 σ (List.mem_of_mem_take hσ)
 obtain⟨q,hq,e⟩:=List.mem_iff_getElem.1 hin
 have hv:=hb.2.1 q hq
 rw[qag hq,e] at hv
 exact⟨hin,hv.1,hv.2.1⟩
noncomputable def qej(a b:Cpx)(im:Sim):List Sim×Int×Unit:=if MC a.1 b.1 im=0 then(qkY (qgn a.1 im a.1.length),0,()) else([],MC a.1 b.1 im,())
theorem qfD(a b:Cpx)(im:Sim)(sa:Sm (.st cC) a)(sb:Sm (.st cC) b)(si:Sm (.sl (.int .i64)) im):Ret E n_Z8 [dLL a.1,dLL b.1,dL im] ⟨o_Z8,qej a b im⟩:=by
 have sa1:a.1.length≤1048576:=sa.1.1
 refine qat ?_
 simp only[run_Z8,Z8.ev]
 unfold qej
 refine qac (qeN a.1 b.1 im sa.1 sb.1) ?_
 by_cases h:MC a.1 b.1 im=0
 ·rw[if_pos h]
  obtain⟨⟨ha,hb⟩,hm⟩:=qbT.1 h
  refine qaF (by simp[h]) ?_
  refine Ev.start (p:=fun φ n=>Z8.l0 (mkR (run E (φ 0))) (φ 0) n im a.1 (a.1.length:Int) 0 a.1 []=_) 1 ?_ (fun _ _ _ h=>h)
  refine qay 1 (L:=fun φ n k o=>Z8.l0 (mkR (run E (φ 0))) (φ 0) n im a.1 (a.1.length:Int) k a.1 o) (len:=a.1.length) (fun k=>qgn a.1 im k) (fun _ _ _ _ _=>rfl) (fun k r hk ih=>?_) ?_
  ·simp only[Z8.l0_succ _ qaj]
   rw[qiN hk] at ih
   have hl:=qf3 (a:=a.1) (im:=im) (k:=k) (by omega)
   refine qaD (decide_eq_true (by omega)) (qak (qas hk) (qac (qbL a.1 im _ sa.1 hm.1 (fun x hx=>ha.vert (List.getElem_mem hk) hx) (qba sa.1 hk).1) (qaG (by simp only[hl,List.length_singleton,decide_eq_true_eq];omega) ?_)))
   rw[qao (by omega)]
   exact ih
  ·simp only[Z8.l0_succ _ qaj]
   have hl:=qf3 (a:=a.1) (im:=im) (Nat.le_refl _)
   refine qaF (decide_eq_false (by omega)) (qac (qi1 _ ⟨by show(qgn a.1 im a.1.length).length≤1048576;omega,fun x hx=>?_⟩) qap)
   have:=(ql0 h x hx).2.2
   exact⟨by show x.length≤1048576;omega,fun _ _=>trivial⟩
 ·rw[if_neg h]
  exact qaD (by simpa using h) qap
end VeT
open Go Go.Proofs Ve
namespace VeT
theorem qjn(c:List Sim)(s:Sim)(sc:Sm (.sl (.sl (.int .i64))) c)(hs:Sm (.sl (.int .i64)) s)(hv:VC c)(hx:Vx s) :
  Ret E n_Z65 [dLL c,dL s] ⟨o_Z65,(if 0≤qbg c s then(qbg c s,0,()) else(0,3,()))⟩:=by
 refine qat ?_
 simp only[run_Z65,Z65.ev]
 refine qac (qdz (c,()) sc) (qaF (by rw[qax hv];rfl) (qac (qcx s hs) ?_))
 simp only[Z65.j0_eq _ qaj]
 refine qaF (by rw[qax hx];rfl) (qac (qaU (c,()) s sc) ?_)
 by_cases h:0≤qbg c s
 ·rw[if_pos h]
  exact qaF (decide_eq_false (by show ¬ qbg c s<0;omega)) qap
 ·rw[if_neg h]
  exact qaD (decide_eq_true (by show qbg c s<0;omega)) qap
noncomputable def qfr(c:List Sim)(k p:Int):Int×Int×Int×List Int×Int×Unit:=if HC c k p=0 then((bdM c k p).1,(bdM c k p).2.1,(bdM c k p).2.2.1,(bdM c k p).2.2.2.1,0,()) else(0,0,0,[],HC c k p,())
theorem qb8(c:List Sim)(k p:Int)(sc:Sm (.sl (.sl (.int .i64))) c):Ret E n_Z63 [dLL c,dI k,dI p] ⟨o_Z63,qfr c k p⟩:=by
 refine qat ?_
 simp only[run_Z63,Z63.ev]
 refine qac (qk6 (c,()) k p sc) ?_
 unfold qfr
 by_cases h:HC c k p=0
 ·rw[if_pos h]
  exact qaF (by simp[h]) (qac (qgS c k p (qnZ sc h).1) qap)
 ·rw[if_neg h]
  exact qaD (by simpa using h) qap
theorem qoe{m:Mat}(h:VM m):Sm (.st cM) m:=by
 have hn:=h.num
 have h1:=h.2.1
 have h2:=h.2.2.1
 have:=qii (show m.2.1.toNat≤32 by omega) (show m.2.2.1.toNat≤32 by omega)
 exact⟨trivial,trivial,trivial,qfM (by omega),trivial⟩
theorem qeB(a b:Mat)(ha:VM a)(hb:VM b)(h1:a.1=b.1)(hab:a.2.2.1=b.2.1) :
  Ret E n_Z67 [dI a.1,dI a.2.1,dI a.2.2.1,dL a.2.2.2.1,dI b.1,dI b.2.1,dI b.2.2.1,dL b.2.2.2.1] ⟨o_Z67,((qj0 a b).1,(qj0 a b).2.1,(qj0 a b).2.2.1,(qj0 a b).2.2.2.1,0,())⟩:=by
 refine qat ?_
 simp only[run_Z67,Z67.ev]
 have hB:Ret E n_Z82 [dM a,dM b] ⟨o_Z82,(true,())⟩:=by
  refine qat ?_
  simp only[run_Z82,Z82.ev]
  have h1:=qi4 a (qoe ha)
  have h2:=qi4 b (qoe hb)
  rw[qax ha] at h1
  rw[qax hb] at h2
  exact qac h1 (qaD rfl (qac h2 qap))
 refine qac (show Ret E n_Z82 [dM (a.1,a.2.1,a.2.2.1,a.2.2.2.1,()),dM (b.1,b.2.1,b.2.2.1,b.2.2.2.1,())] _ from hB) (qaF rfl (qaF (by simpa using h1) ?_))
 simp only[Z67.j0_eq _ qaj]
 exact qaF (by simpa using hab) (qac (qit a b ha hb hab) qap)
theorem qgh(a:Mat)(ha:a.2.2.2.1.length≤1048576) :
  Ret E n_Z68 [dI a.1,dI a.2.1,dI a.2.2.1,dL a.2.2.2.1,dI a.1,dI a.2.1,dI a.2.2.1,dL a.2.2.2.1] ⟨o_Z68,(true,())⟩:=by
 refine qat ?_
 simp only[run_Z68,Z68.ev]
 have h:=qji a a ha
 rw[qax rfl] at h
 exact qac h qap
theorem qe0(c:List Sim)(sc:Sm (.sl (.sl (.int .i64))) c):Ret E n_Z69 [dLL c] ⟨o_Z69,(pb (VC c),())⟩:=by
 refine qat ?_
 simp only[run_Z69,Z69.ev]
 exact qac (qdz (c,()) sc) qap
def nsm(g:Nat→Nat):Nat→Nat
 | 0=>0
 | n+1=>nsm g n+g n
theorem qmu{f g:Nat→Nat}:∀ {n:Nat},nsm (fun i=>f i+g i) n=nsm f n+nsm g n
 | 0=>rfl
 | n+1=>by
  show nsm (fun i=>f i+g i) n+(f n+g n)=nsm f n+f n+(nsm g n+g n)
  rw[qmu];omega
theorem qiz{f g:Nat→Nat}:∀ {n:Nat},(∀ i,i<n→f i=g i)→nsm f n=nsm g n
 | 0,_=>rfl
 | n+1,h=>by
  show nsm f n+f n=nsm g n+g n
  rw[qiz fun i hi=>h i (by omega),h n (by omega)]
theorem qkE{k:Nat}:∀ {n:Nat},n≤k→nsm (fun i=>if i=k then 1 else 0) n=0
 | 0,_=>rfl
 | n+1,h=>by
  show nsm _ n+(if n=k then 1 else 0)=0
  rw[qkE (by omega),if_neg (by omega)]
theorem ql6{k:Nat}:∀ {n:Nat},k<n→nsm (fun i=>if i=k then 1 else 0) n=1
 | 0,h=>by omega
 | n+1,h=>by
  show nsm _ n+(if n=k then 1 else 0)=1
  by_cases e:n=k
  ·rw[if_pos e,qkE (by omega)]
  ·rw[if_neg e,ql6 (by omega)]
theorem qec{a b:List Sim}{im:Sim}{m n:Nat}:(img (vxs a) im (a.getD n [])=b.getD m []→qdI a b im m (n+1)=qdI a b im m n++[(n:Int)])∧(¬ img (vxs a) im (a.getD n [])=b.getD m []→qdI a b im m (n+1)=qdI a b im m n):=by
 constructor
 ·intro h;rw[qdI,if_pos h]
 ·intro h;rw[qdI,if_neg h]
theorem ql4{a b:List Sim}{im:Sim}(h:MC a b im=0):∀ {n:Nat},n≤a.length→nsm (fun m=>(qdI a b im m n).length) b.length=n
 | 0,_=>by
  have:∀ m,nsm (fun m=>(qdI a b im m 0).length) m=0:=by
   intro m
   induction m with
   | zero=>rfl
   | succ m ih=>show nsm _ m+0=0;rw[ih]
  exact this _
 | n+1,hn=>by
  obtain⟨⟨ha,hb⟩,hm⟩:=qbT.1 h
  have hin:img (vxs a) im (a.getD n [])∈b:=hm.2 _ (by rw[qag (by omega)];exact List.getElem_mem _)
  obtain⟨t,ht,et⟩:=List.mem_iff_getElem.1 hin
  have hnd:=List.pairwise_iff_getElem.1 (List.nodup_iff_pairwise_ne.1 hb.srt.nodup)
  rw[qiz (g:=fun m=>(qdI a b im m n).length+if m=t then 1 else 0) fun m hm=>?_,qmu,ql4 h (by omega),ql6 ht]
  by_cases e:m=t
  ·subst e
   rw[if_pos rfl,qec.1 (by rw[← et,qag hm]),List.length_append];rfl
  ·rw[if_neg e,qec.2 fun h2=>?_]
   ·rfl
   rw[← et,qag hm] at h2
   rcases Nat.lt_or_gt_of_ne e with hlt | hlt
   ·exact hnd m t hm ht hlt h2.symm
   ·exact hnd t m ht hm hlt h2
theorem qmn{a b:List Sim}{im:Sim}{m:Nat}:∀ {n:Nat},n≤a.length→(0<(qdI a b im m n).length↔b.getD m []∈qgn a im n)
 | 0,_=>by simp[qdI,qgn]
 | n+1,hn=>by
  have ih:=qmn (a:=a) (b:=b) (im:=im) (m:=m) (n:=n) (by omega)
  rw[qiN (by omega),List.mem_append,List.mem_singleton,← ih]
  have hg:a.getD n []=a[n]:=qag (show n<a.length by omega)
  by_cases e:img (vxs a) im a[n]=b.getD m []
  ·rw[qec.1 (by rw[hg];exact e)]
   simp[e]
  ·rw[qec.2 (by rw[hg];exact e)]
   constructor
   ·exact .inl
   ·rintro(h | h)
    ·exact h
    ·exact absurd h.symm e
theorem qnd{a b:List Sim}{im:Sim}(h:MC a b im=0):VC (qkY (qgn a im a.length)):=by
 obtain⟨⟨ha,hb⟩,hm⟩:=qbT.1 h
 obtain⟨h1,h2,h3⟩:=qiU (qgn a im a.length)
 generalize qkY (qgn a im a.length)=c at h1 h2 h3
 have hcb:∀ x∈c,x∈b:=fun x hx=>(ql0 h x ((h2 x).1 hx)).1
 have hg:∀ k,k<c.length→c.getD k []∈c:=fun k hk=>by rw[qag hk];exact List.getElem_mem hk
 refine⟨Nat.le_trans (qjl h1.nodup hcb) hb.1,fun k hk=>?_,fun k hk1 hk=>?_,fun k hk f hf=>?_⟩
 ·obtain⟨q,hq,e⟩:=List.mem_iff_getElem.1 (hcb _ (hg k hk))
  have:=hb.2.1 q hq
  rwa [qag hq,e] at this
 ·have:=h1 (k-1) k hk (by omega)
  rw[qag hk,qag (show k-1<c.length by omega)]
  exact this
 ·have hx:=(h2 _).1 (hg k hk)
  refine(h2 _).2 ((qkf (b:=b) (im:=im) ha f).1 ⟨_,hx,?_⟩)
  obtain⟨g1,i,hi,rfl⟩:=qbQ.1 hf
  refine⟨fun e=>?_,List.eraseIdx_sublist _ _⟩
  have:=congrArg List.length e
  rw[List.length_eraseIdx_of_lt hi,List.length_nil] at this
  omega
end VeT
open Go Go.Proofs Ve
namespace VeT
theorem qn7{a b:List Sim}{im:Sim}{k p:Int}(h:ChC a b im k p 0=0)(hk:1≤k):ChC a b im (k-1) p 0=0∨ChC a b im (k-1) p 0=5:=by
 obtain⟨h1,h2,h3,_⟩:=qfK h
 unfold ChC
 rw[if_pos h1,if_pos h2,if_pos (show 0≤k-1∧k-1≤3 by omega)]
 split
 ·exact .inl rfl
 ·exact .inr rfl
theorem qmw{c:List Sim}{k p:Int}(hv:VC c)(hp:Pr p)(hk:0≤k∧k≤3):HC c k p=0∨HC c k p=5:=by
 unfold HC
 rw[if_pos (show VC c∧Pr p from⟨hv,hp⟩),if_pos hk]
 split
 ·exact .inl rfl
 ·exact .inr rfl
theorem qni{a b:List Sim}{im:Sim}{k p:Int}(h:MC a b im≠0):ChC a b im k p 0≠0:=fun hc=>h (qfK hc).2.1
theorem qlj(x:List Int)(hx:Wf (.sl (.int .u8)) x):Ret E n_Z39 [dB x] ⟨.cons .bool .nil,(true,())⟩:=by
 refine qmG (qbv ?_)
 simp only[run_Z39,Z39.ev]
 refine qa8 (qjY x) (qda (fun _=>qaQ rfl) fun _=>?_)
 refine qbe (qhT x hx) fun(r:List Sim×List Sim×Sim×Int×Int×Unit) ⟨r1,r2,r3⟩=>?_
 obtain⟨a,b,im,k,p,⟨⟩⟩:=r
 have sa:Sm (.st cC) (a,()):=⟨r1.sm (by omega),trivial⟩
 have sb:Sm (.st cC) (b,()):=⟨r2.sm (by omega),trivial⟩
 have si:Sm (.sl (.int .i64)) im:=qfM (by show im.length≤1048576;have:im.length≤400:=r3;omega)
 have ha1:a.length≤288:=r1.1
 have hb1:b.length≤288:=r2.1
 refine qa8 (qc7 (a,()) (b,()) im k p sa sb si) (qa8 (qij (a,()) (b,()) im sa sb si) ?_)
 have hsm:=qic (a,()) (b,()) im sa sb si
 by_cases h:MC a b im=0
 ·obtain⟨⟨va,vb⟩,hm⟩:=qbT.1 h
  have hI:qfn (a,()) (b,()) im=(true,()):=by unfold qfn;rw[qax (qbT.1 h)]
  have hMI:qej (a,()) (b,()) im=(qkY (qgn a im a.length),0,()):=by unfold qej;rw[if_pos h]
  have hmi:=qfD (a,()) (b,()) im sa sb si
  rw[hMI] at hmi
  rw[hI] at hsm ⊢
  have vi:=qnd h
  have smi:=vi.sm
  have hvc:=qe0 (qkY (qgn a im a.length)) smi
  rw[qax vi] at hvc
  have him:∀ x,x∈qkY (qgn a im a.length)↔x∈qgn a im a.length:=(qiU (qgn a im a.length)).2.1
  refine qmy rfl (qa8 hmi (qmy rfl (qa8 hsm (qmy rfl (qa8 hvc ?_)))))
  generalize qkY (qgn a im a.length)=img0 at vi smi him
  simp only[Z39.j0_eq _ qaj]
  refine qmy rfl ⟨(true,()),?_,rfl⟩
  have hfs:=ql4 h (Nat.le_refl a.length)
  have hfl:∀ m,nsm (fun m=>(qdI a b im m a.length).length) m≤m*a.length:=fun m=>by
   induction m with
   | zero=>exact Nat.zero_le _
   | succ m ih =>
    have:=qcR (a:=a) (b:=b) (im:=im) (m:=m) (k:=a.length)
    show nsm _ m+(qdI a b im m a.length).length≤_
    rw[Nat.succ_mul];omega
  have hcode:qaz (a,()) (b,()) im k p=if ChC a b im k p 0=0 then((qcK a b im k p).1,(qcK a b im k p).2.1,(qcK a b im k p).2.2.1,(qcK a b im k p).2.2.2.1,0,()) else(0,0,0,[],ChC a b im k p 0,()):=rfl
  have c5:(qaz (a,()) (b,()) im k p).2.2.2.2.1=ChC a b im k p 0:=by
   rw[hcode];split
   ·rename_i h;exact h.symm
   ·rfl
  -- the last part
  have last:Ev fun φ=>Z39.l1 (mkR (run E (φ 0))) (φ 0) (φ 1+1) im k p (qaz (a,()) (b,()) im k p).2.2.2.2.1 ((a.length:Nat):Int) (b.length:Int) a b (qaz (a,()) (b,()) im k p).1 (qaz (a,()) (b,()) im k p).2.1 (qaz (a,()) (b,()) im k p).2.2.1 (qaz (a,()) (b,()) im k p).2.2.2.1 img0=some ⟨o_Z39,(true,())⟩:=by
   simp only[Z39.l1_succ _ qaj,Z39.j2_eq _ qaj]
   refine qaF (decide_eq_false (by omega)) (qaF (by simp) ?_)
   rw[c5]
   by_cases hc:ChC a b im k p 0=0
   ·refine qaF (by simp[hc]) ?_
    by_cases hk:k<1
    ·exact qaD (decide_eq_true hk) qap
    ·refine qaF (decide_eq_false hk) ?_
     obtain⟨hp,_,h3,h4⟩:=qfK hc
     rw[hcode,if_pos hc,qam (n:=k-1) (by omega) (by omega)]
     have hlow:=qc7 (a,()) (b,()) im (k-1) p sa sb si
     have hA:=qb8 a k p sa.1
     have hB:=qb8 b k p sb.1
     have j3t:∀(m1 m2 m3 m4:Int×Int×Int×List Int) (t1 t2 t3:Int),(t1=5∨t2=5∨t3=5)→Ev fun φ=>Z39.j3 (mkR (run E (φ 0))) (φ 0) t1 t2 t3 true m1.1 m1.2.1 m1.2.2.1 m1.2.2.2 m2.1 m2.2.1 m2.2.2.1 m2.2.2.2 m3.1 m3.2.1 m3.2.2.1 m3.2.2.2 m4.1 m4.2.1 m4.2.2.1 m4.2.2.2=some ⟨o_Z39,(true,())⟩:=by
      intro m1 m2 m3 m4 t1 t2 t3 ht
      simp only[Z39.j3_eq _ qaj]
      refine qaD rfl ?_
      by_cases e1:t1=5
      ·exact qaD (by simp[e1]) qap
      ·refine qaF (by simpa using e1) ?_
       by_cases e2:t2=5
       ·exact qaD (by simp[e2]) qap
       ·have e3:t3=5:=by omega
        subst e3
        exact qaF (by simpa using e2) qap
     refine qac hlow (qac hA (qac hB ?_))
     have c6:(qaz (a,()) (b,()) im (k-1) p).2.2.2.2.1=ChC a b im (k-1) p 0:=by
      unfold qaz;split
      ·rename_i h;exact h.symm
      ·rfl
     have c7:∀ c:List Sim,(qfr c k p).2.2.2.2.1=HC c k p:=fun c=>by
      unfold qfr;split
      ·rename_i h;exact h.symm
      ·rfl
     rw[c6,c7,c7]
     rcases qn7 hc (by omega) with e1 | e1
     ·refine qaF (by simp[e1]) ?_
      rcases qmw va hp h3 with e2 | e2
      ·refine qaF (by simp[e2]) ?_
       rcases qmw vb hp h3 with e3 | e3
       ·rw[e3]
        have Fk:=ChF.of (a:=(a,())) (b:=(b,())) sa sb hc
        have Fl:=ChF.of (a:=(a,())) (b:=(b,())) sa sb e1
        obtain⟨FA,_⟩:=qnZ sa.1 e2
        obtain⟨FB,_⟩:=qnZ sb.1 e3
        have hcm:=qlg (by omega) Fk Fl FA FB
        have hlv:qaz (a,()) (b,()) im (k-1) p=((qcK a b im (k-1) p).1,(qcK a b im (k-1) p).2.1,(qcK a b im (k-1) p).2.2.1,(qcK a b im (k-1) p).2.2.2.1,0,()):=by
         unfold qaz;rw[if_pos e1];rfl
        have hav:qfr a k p=((bdM a k p).1,(bdM a k p).2.1,(bdM a k p).2.2.1,(bdM a k p).2.2.2.1,0,()):=by unfold qfr;rw[if_pos e2]
        have hbv:qfr b k p=((bdM b k p).1,(bdM b k p).2.1,(bdM b k p).2.2.1,(bdM b k p).2.2.2.1,0,()):=by unfold qfr;rw[if_pos e3]
        rw[hlv,hav,hbv]
        have m1:=qeB (qcK a b im (k-1) p) (bdM a k p) (Fl.vm hp) FA.vm rfl rfl
        have m2:=qeB (bdM b k p) (qcK a b im k p) FB.vm (Fk.vm hp) rfl rfl
        rw[hcm] at m1
        have hsx:=qgh (qj0 (bdM b k p) (qcK a b im k p)) (qoe (qkb FB.vm (Fk.vm hp))).2.2.2.1.1
        simp only[Z39.j3_eq _ qaj]
        exact qaF rfl (qac m1 (qac m2 (qaD rfl (qaD rfl (qac hsx qap)))))
       ·rw[e3]
        exact j3t ((qcK a b im k p).1,(qcK a b im k p).2.1,(qcK a b im k p).2.2.1,(qcK a b im k p).2.2.2.1) (_,_,_,_) (_,_,_,_) (_,_,_,_) _ _ 5 (.inr (.inr rfl))
      ·refine qaD (by simp[e2]) ?_
       exact j3t ((qcK a b im k p).1,(qcK a b im k p).2.1,(qcK a b im k p).2.2.1,(qcK a b im k p).2.2.2.1) (_,_,_,_) (_,_,_,_) (_,_,_,_) _ _ _ (.inr (.inl e2))
     ·refine qaD (by simp[e1]) ?_
      exact j3t ((qcK a b im k p).1,(qcK a b im k p).2.1,(qcK a b im k p).2.2.1,(qcK a b im k p).2.2.2.1) (_,_,_,_) (_,_,_,_) (_,_,_,_) _ _ _ (.inl e1)
   ·exact qaD (by simpa using hc) (qaD rfl qap)
  refine Ev.start (p:=fun φ n=>Z39.l1 (mkR (run E (φ 0))) (φ 0) n im k p (qaz (a,()) (b,()) im k p).2.2.2.2.1 0 0 a b (qaz (a,()) (b,()) im k p).1 (qaz (a,()) (b,()) im k p).2.1 (qaz (a,()) (b,()) im k p).2.2.1 (qaz (a,()) (b,()) im k p).2.2.2.1 img0=_) 1 ?_ (fun _ _ _ h=>h)
  refine qay 1 (L:=fun φ n m s=>Z39.l1 (mkR (run E (φ 0))) (φ 0) n im k p (qaz (a,()) (b,()) im k p).2.2.2.2.1 s m a b (qaz (a,()) (b,()) im k p).1 (qaz (a,()) (b,()) im k p).2.1 (qaz (a,()) (b,()) im k p).2.2.1 (qaz (a,()) (b,()) im k p).2.2.2.1 img0) (len:=b.length) (fun m=>((nsm (fun m=>(qdI a b im m a.length).length) m:Nat):Int)) (fun _ _ _ _ _=>rfl) (fun m r hm ih=>?_) ?_
  ·simp only[Z39.l1_succ _ qaj]
   have hfib:=qgd (a,()) (b,()) im (m:Int) sa sb si
   have hfv:qfR (a,()) (b,()) im (m:Int)=(qdI a b im m a.length,0,()):=by
    unfold qfR
    rw[if_pos h,if_pos (show(0:Int)≤(m:Int)∧(m:Int)≤(b.length:Int)-1 by omega)];rfl
   rw[hfv] at hfib
   have hvx:Vx b[m]:=by have:=vb.2.1 m hm;rwa [qag hm] at this
   have hio:=qjn img0 b[m] smi (qba sb.1 hm) vi hvx
   have hiff:0<(qdI a b im m a.length).length↔0≤qbg img0 b[m]:=by
    rw[qmn (Nat.le_refl _),qaB,him,qag hm]
   refine qaD (decide_eq_true (by omega)) (qac hfib (qaF rfl (qak (qas hm) (qac hio ?_))))
   have hl1:=hfl m
   have hl2:=qcR (a:=a) (b:=b) (im:=im) (m:=m) (k:=a.length)
   have hl3:m*a.length≤288*288:=Nat.mul_le_mul (by omega) ha1
   have e:w64 (((nsm (fun m=>(qdI a b im m a.length).length) m:Nat):Int)+((qdI a b im m a.length).length:Int))=((nsm (fun m=>(qdI a b im m a.length).length) (m+1):Nat):Int):=by
    rw[qam (by omega) (by omega)]
    show _=((nsm (fun m=>(qdI a b im m a.length).length) m+(qdI a b im m a.length).length:Nat):Int)
    omega
   rw[qao (by omega),e]
   by_cases hp:0≤qbg img0 b[m]
   ·rw[if_pos hp]
    have:=hiff.2 hp
    exact qaF (by rw[decide_eq_true (show((qdI a b im m a.length).length:Int)>0 by omega)];rfl) ih
   ·rw[if_neg hp]
    have:¬ 0<(qdI a b im m a.length).length:=fun hh=>hp (hiff.1 hh)
    exact qaF (by rw[decide_eq_false (show ¬ ((qdI a b im m a.length).length:Int)>0 by omega)];rfl) ih
  ·rw[hfs]
   exact last
 ·have hI:qfn (a,()) (b,()) im=(false,()):=by unfold qfn;rw[qau fun hh=>h (qbT.2 hh)]
  rw[hI] at hsm ⊢
  have hcode:qaz (a,()) (b,()) im k p=(0,0,0,[],ChC a b im k p 0,()):=by unfold qaz;rw[if_neg (qni h)]
  rw[hcode]
  exact qnI rfl (qnI (by simpa using qni h) (qa8 hsm (qaQ rfl)))
theorem qoz(z:((.cons (.sl (.int .u8)) .nil):Ty).T)(h:Wf (.cons (.sl (.int .u8)) .nil) z) :
  Evt fun n=>run E n n_Z39 (qa5 _ z)=some ⟨.cons .bool .nil,(true,())⟩:=qlj z.1 h.1
end VeT
