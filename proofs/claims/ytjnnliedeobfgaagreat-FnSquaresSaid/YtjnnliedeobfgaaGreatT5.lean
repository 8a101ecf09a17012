import Derived.Test.YtjnnliedeobfgaaGreatV2
import Derived.Test.YtjnnliedeobfgaaGreatT4
import Derived.KernelRfl
set_option linter.unusedVariables false
set_option linter.unusedSimpArgs false
open Go Go.Proofs Ve
namespace VeT
theorem qa9(s:List (List Int))(c:((vK×Unit)×(Int×Unit)×Unit))(p:(List Int)→Bool)(hs:s.length≤1048576)(hp:∀ x∈s,Ret E n_Z18 [⟨yL,x⟩,⟨(.ptr yC),c.1⟩,⟨(.ptr (.cons yI .nil)),c.2.1⟩] ⟨o_Z18,(p x,())⟩) :
    Ret E n_Z111 [⟨yK,s⟩,⟨(.fn n_Z18 (.cons (.ptr yC) (.cons (.ptr (.cons yI .nil)) .nil))),c⟩] ⟨o_Z111,(qgG p s,())⟩:=by
  obtain⟨o,h1,h2,h3⟩:=qbU 1 (L:=fun φ n k=>Z112.l0 (mkR (run E (φ 0))) (φ 0) n s c (s.length:Int) k) (len:=s.length) (fun k=>∃ h:k<s.length,p s[k]=true) (fun o=>some ⟨o_Z111,(o2i o,())⟩) (fun _ _ _ _=>rfl) (fun k hk hP=>by
      obtain⟨_,hP⟩:=hP
      simp only[Z112.l0_succ _ qag]
      refine qaE (decide_eq_true (by omega)) (qaf (qap hk) (qaa (hp _ (List.getElem_mem hk)) (qaE hP qan)))) (fun k q hk hP ih=>by
      simp only[Z112.l0_succ _ qag]
      refine qaE (decide_eq_true (by omega)) (qaf (qap hk) (qaa (hp _ (List.getElem_mem hk)) (qaH (Bool.eq_false_iff.2 fun h=>hP ⟨hk,h⟩) ?_)))
      rw[qah (by omega)];exact ih) (by
      simp only[Z112.l0_succ _ qag]
      exact qaH (decide_eq_false (by omega)) qan)
  rw[qcw h1 h2] at h3
  refine qal ?_
  simp only[run_Z111,Z112.ev]
  exact Ev.start (p:=fun φ n=>Z112.l0 (mkR (run E (φ 0))) (φ 0) n s c (s.length:Int) 0=_) 1 h3 (fun _ _ _ h=>h)
theorem qbk(s:List (List Int))(c:((Int×Unit)×Unit))(p:(List Int)→Bool)(hs:s.length≤1048576)(hp:∀ x∈s,Ret E n_Z43 [⟨yL,x⟩,⟨(.ptr (.cons yI .nil)),c.1⟩] ⟨o_Z43,(p x,())⟩) :
    Ret E n_Z111 [⟨yK,s⟩,⟨(.fn n_Z43 (.cons (.ptr (.cons yI .nil)) .nil)),c⟩] ⟨o_Z111,(qgG p s,())⟩:=by
  obtain⟨o,h1,h2,h3⟩:=qbU 1 (L:=fun φ n k=>Z113.l0 (mkR (run E (φ 0))) (φ 0) n s c (s.length:Int) k) (len:=s.length) (fun k=>∃ h:k<s.length,p s[k]=true) (fun o=>some ⟨o_Z111,(o2i o,())⟩) (fun _ _ _ _=>rfl) (fun k hk hP=>by
      obtain⟨_,hP⟩:=hP
      simp only[Z113.l0_succ _ qag]
      refine qaE (decide_eq_true (by omega)) (qaf (qap hk) (qaa (hp _ (List.getElem_mem hk)) (qaE hP qan)))) (fun k q hk hP ih=>by
      simp only[Z113.l0_succ _ qag]
      refine qaE (decide_eq_true (by omega)) (qaf (qap hk) (qaa (hp _ (List.getElem_mem hk)) (qaH (Bool.eq_false_iff.2 fun h=>hP ⟨hk,h⟩) ?_)))
      rw[qah (by omega)];exact ih) (by
      simp only[Z113.l0_succ _ qag]
      exact qaH (decide_eq_false (by omega)) qan)
  rw[qcw h1 h2] at h3
  refine qal ?_
  simp only[run_Z111,Z113.ev]
  exact Ev.start (p:=fun φ n=>Z113.l0 (mkR (run E (φ 0))) (φ 0) n s c (s.length:Int) 0=_) 1 h3 (fun _ _ _ h=>h)
theorem qbi(s:List Int)(c:((Int×Unit)×Unit))(p:Int→Bool)(hs:s.length≤1048576)(hp:∀ x∈s,Ret E n_Z15 [⟨yI,x⟩,⟨(.ptr (.cons yI .nil)),c.1⟩] ⟨o_Z15,(p x,())⟩) :
    Ret E n_Z114 [⟨yL,s⟩,⟨(.fn n_Z15 (.cons (.ptr (.cons yI .nil)) .nil)),c⟩] ⟨o_Z114,(qgG p s,())⟩:=by
  obtain⟨o,h1,h2,h3⟩:=qbU 1 (L:=fun φ n k=>Z115.l0 (mkR (run E (φ 0))) (φ 0) n s c (s.length:Int) k) (len:=s.length) (fun k=>∃ h:k<s.length,p s[k]=true) (fun o=>some ⟨o_Z114,(o2i o,())⟩) (fun _ _ _ _=>rfl) (fun k hk hP=>by
      obtain⟨_,hP⟩:=hP
      simp only[Z115.l0_succ _ qag]
      refine qaE (decide_eq_true (by omega)) (qaf (qap hk) (qaa (hp _ (List.getElem_mem hk)) (qaE hP qan)))) (fun k q hk hP ih=>by
      simp only[Z115.l0_succ _ qag]
      refine qaE (decide_eq_true (by omega)) (qaf (qap hk) (qaa (hp _ (List.getElem_mem hk)) (qaH (Bool.eq_false_iff.2 fun h=>hP ⟨hk,h⟩) ?_)))
      rw[qah (by omega)];exact ih) (by
      simp only[Z115.l0_succ _ qag]
      exact qaH (decide_eq_false (by omega)) qan)
  rw[qcw h1 h2] at h3
  refine qal ?_
  simp only[run_Z114,Z115.ev]
  exact Ev.start (p:=fun φ n=>Z115.l0 (mkR (run E (φ 0))) (φ 0) n s c (s.length:Int) 0=_) 1 h3 (fun _ _ _ h=>h)
theorem qbh(s:List Int)(p:Int→Bool)(hs:s.length≤1048576)(hp:∀ x∈s,Ret E n_Z23 [⟨yI,x⟩] ⟨o_Z23,(p x,())⟩) :
    Ret E n_Z114 [⟨yL,s⟩,⟨(.fn n_Z23 .nil),()⟩] ⟨o_Z114,(qgG p s,())⟩:=by
  obtain⟨o,h1,h2,h3⟩:=qbU 1 (L:=fun φ n k=>Z116.l0 (mkR (run E (φ 0))) (φ 0) n s (s.length:Int) k) (len:=s.length) (fun k=>∃ h:k<s.length,p s[k]=true) (fun o=>some ⟨o_Z114,(o2i o,())⟩) (fun _ _ _ _=>rfl) (fun k hk hP=>by
      obtain⟨_,hP⟩:=hP
      simp only[Z116.l0_succ _ qag]
      refine qaE (decide_eq_true (by omega)) (qaf (qap hk) (qaa (hp _ (List.getElem_mem hk)) (qaE hP qan)))) (fun k q hk hP ih=>by
      simp only[Z116.l0_succ _ qag]
      refine qaE (decide_eq_true (by omega)) (qaf (qap hk) (qaa (hp _ (List.getElem_mem hk)) (qaH (Bool.eq_false_iff.2 fun h=>hP ⟨hk,h⟩) ?_)))
      rw[qah (by omega)];exact ih) (by
      simp only[Z116.l0_succ _ qag]
      exact qaH (decide_eq_false (by omega)) qan)
  rw[qcw h1 h2] at h3
  refine qal ?_
  simp only[run_Z114,Z116.ev]
  exact Ev.start (p:=fun φ n=>Z116.l0 (mkR (run E (φ 0))) (φ 0) n s (s.length:Int) 0=_) 1 h3 (fun _ _ _ h=>h)
theorem qbj(s:List Int)(c:((Int×Unit)×Unit))(p:Int→Bool)(hs:s.length≤1048576)(hp:∀ x∈s,Ret E n_Z27 [⟨yI,x⟩,⟨(.ptr (.cons yI .nil)),c.1⟩] ⟨o_Z27,(p x,())⟩) :
    Ret E n_Z114 [⟨yL,s⟩,⟨(.fn n_Z27 (.cons (.ptr (.cons yI .nil)) .nil)),c⟩] ⟨o_Z114,(qgG p s,())⟩:=by
  obtain⟨o,h1,h2,h3⟩:=qbU 1 (L:=fun φ n k=>Z117.l0 (mkR (run E (φ 0))) (φ 0) n s c (s.length:Int) k) (len:=s.length) (fun k=>∃ h:k<s.length,p s[k]=true) (fun o=>some ⟨o_Z114,(o2i o,())⟩) (fun _ _ _ _=>rfl) (fun k hk hP=>by
      obtain⟨_,hP⟩:=hP
      simp only[Z117.l0_succ _ qag]
      refine qaE (decide_eq_true (by omega)) (qaf (qap hk) (qaa (hp _ (List.getElem_mem hk)) (qaE hP qan)))) (fun k q hk hP ih=>by
      simp only[Z117.l0_succ _ qag]
      refine qaE (decide_eq_true (by omega)) (qaf (qap hk) (qaa (hp _ (List.getElem_mem hk)) (qaH (Bool.eq_false_iff.2 fun h=>hP ⟨hk,h⟩) ?_)))
      rw[qah (by omega)];exact ih) (by
      simp only[Z117.l0_succ _ qag]
      exact qaH (decide_eq_false (by omega)) qan)
  rw[qcw h1 h2] at h3
  refine qal ?_
  simp only[run_Z114,Z117.ev]
  exact Ev.start (p:=fun φ n=>Z117.l0 (mkR (run E (φ 0))) (φ 0) n s c (s.length:Int) 0=_) 1 h3 (fun _ _ _ h=>h)
theorem qbr(s:List Int)(p:Int→Bool)(hs:s.length≤1048576)(hp:∀ x∈s,Ret E n_Z29 [⟨yI,x⟩] ⟨o_Z29,(p x,())⟩) :
    Ret E n_Z114 [⟨yL,s⟩,⟨(.fn n_Z29 .nil),()⟩] ⟨o_Z114,(qgG p s,())⟩:=by
  obtain⟨o,h1,h2,h3⟩:=qbU 1 (L:=fun φ n k=>Z118.l0 (mkR (run E (φ 0))) (φ 0) n s (s.length:Int) k) (len:=s.length) (fun k=>∃ h:k<s.length,p s[k]=true) (fun o=>some ⟨o_Z114,(o2i o,())⟩) (fun _ _ _ _=>rfl) (fun k hk hP=>by
      obtain⟨_,hP⟩:=hP
      simp only[Z118.l0_succ _ qag]
      refine qaE (decide_eq_true (by omega)) (qaf (qap hk) (qaa (hp _ (List.getElem_mem hk)) (qaE hP qan)))) (fun k q hk hP ih=>by
      simp only[Z118.l0_succ _ qag]
      refine qaE (decide_eq_true (by omega)) (qaf (qap hk) (qaa (hp _ (List.getElem_mem hk)) (qaH (Bool.eq_false_iff.2 fun h=>hP ⟨hk,h⟩) ?_)))
      rw[qah (by omega)];exact ih) (by
      simp only[Z118.l0_succ _ qag]
      exact qaH (decide_eq_false (by omega)) qan)
  rw[qcw h1 h2] at h3
  refine qal ?_
  simp only[run_Z114,Z118.ev]
  exact Ev.start (p:=fun φ n=>Z118.l0 (mkR (run E (φ 0))) (φ 0) n s (s.length:Int) 0=_) 1 h3 (fun _ _ _ h=>h)
theorem qbC(s:List Int)(p:Int→Bool)(hs:s.length≤1048576)(hp:∀ x∈s,Ret E n_Z64 [⟨yI,x⟩] ⟨o_Z64,(p x,())⟩) :
    Ret E n_Z114 [⟨yL,s⟩,⟨(.fn n_Z64 .nil),()⟩] ⟨o_Z114,(qgG p s,())⟩:=by
  obtain⟨o,h1,h2,h3⟩:=qbU 1 (L:=fun φ n k=>Z119.l0 (mkR (run E (φ 0))) (φ 0) n s (s.length:Int) k) (len:=s.length) (fun k=>∃ h:k<s.length,p s[k]=true) (fun o=>some ⟨o_Z114,(o2i o,())⟩) (fun _ _ _ _=>rfl) (fun k hk hP=>by
      obtain⟨_,hP⟩:=hP
      simp only[Z119.l0_succ _ qag]
      refine qaE (decide_eq_true (by omega)) (qaf (qap hk) (qaa (hp _ (List.getElem_mem hk)) (qaE hP qan)))) (fun k q hk hP ih=>by
      simp only[Z119.l0_succ _ qag]
      refine qaE (decide_eq_true (by omega)) (qaf (qap hk) (qaa (hp _ (List.getElem_mem hk)) (qaH (Bool.eq_false_iff.2 fun h=>hP ⟨hk,h⟩) ?_)))
      rw[qah (by omega)];exact ih) (by
      simp only[Z119.l0_succ _ qag]
      exact qaH (decide_eq_false (by omega)) qan)
  rw[qcw h1 h2] at h3
  refine qal ?_
  simp only[run_Z114,Z119.ev]
  exact Ev.start (p:=fun φ n=>Z119.l0 (mkR (run E (φ 0))) (φ 0) n s (s.length:Int) 0=_) 1 h3 (fun _ _ _ h=>h)
theorem qbv(s:List Int)(p:Int→Bool)(hs:s.length≤1048576)(hp:∀ x∈s,Ret E n_Z67 [⟨yI,x⟩] ⟨o_Z67,(p x,())⟩) :
    Ret E n_Z114 [⟨yL,s⟩,⟨(.fn n_Z67 .nil),()⟩] ⟨o_Z114,(qgG p s,())⟩:=by
  obtain⟨o,h1,h2,h3⟩:=qbU 1 (L:=fun φ n k=>Z120.l0 (mkR (run E (φ 0))) (φ 0) n s (s.length:Int) k) (len:=s.length) (fun k=>∃ h:k<s.length,p s[k]=true) (fun o=>some ⟨o_Z114,(o2i o,())⟩) (fun _ _ _ _=>rfl) (fun k hk hP=>by
      obtain⟨_,hP⟩:=hP
      simp only[Z120.l0_succ _ qag]
      refine qaE (decide_eq_true (by omega)) (qaf (qap hk) (qaa (hp _ (List.getElem_mem hk)) (qaE hP qan)))) (fun k q hk hP ih=>by
      simp only[Z120.l0_succ _ qag]
      refine qaE (decide_eq_true (by omega)) (qaf (qap hk) (qaa (hp _ (List.getElem_mem hk)) (qaH (Bool.eq_false_iff.2 fun h=>hP ⟨hk,h⟩) ?_)))
      rw[qah (by omega)];exact ih) (by
      simp only[Z120.l0_succ _ qag]
      exact qaH (decide_eq_false (by omega)) qan)
  rw[qcw h1 h2] at h3
  refine qal ?_
  simp only[run_Z114,Z120.ev]
  exact Ev.start (p:=fun φ n=>Z120.l0 (mkR (run E (φ 0))) (φ 0) n s (s.length:Int) 0=_) 1 h3 (fun _ _ _ h=>h)
theorem qa0(s:List (List Int))(c:((vK×Unit)×(Int×Unit)×Unit))(p:(List Int)→Bool)(hs:s.length≤1048576)(hp:∀ x∈s,Ret E n_Z18 [⟨yL,x⟩,⟨(.ptr yC),c.1⟩,⟨(.ptr (.cons yI .nil)),c.2.1⟩] ⟨o_Z18,(p x,())⟩) :
  Ret E n_Z100 [⟨yK,s⟩,⟨(.fn n_Z18 (.cons (.ptr yC) (.cons (.ptr (.cons yI .nil)) .nil))),c⟩] ⟨o_Z100,(pb (∃ x∈s,p x=true),())⟩:=by
 refine qal ?_
 simp only[run_Z100,Z101.ev]
 refine qaa (qa9 s c p hs hp) (qam ?_)
 simp only[ge_iff_le,qei,qaP qbG]
theorem qa5(s:List Int)(c:((Int×Unit)×Unit))(p:Int→Bool)(hs:s.length≤1048576)(hp:∀ x∈s,Ret E n_Z15 [⟨yI,x⟩,⟨(.ptr (.cons yI .nil)),c.1⟩] ⟨o_Z15,(p x,())⟩) :
  Ret E n_Z102 [⟨yL,s⟩,⟨(.fn n_Z15 (.cons (.ptr (.cons yI .nil)) .nil)),c⟩] ⟨o_Z102,(pb (∃ x∈s,p x=true),())⟩:=by
 refine qal ?_
 simp only[run_Z102,Z103.ev]
 refine qaa (qbi s c p hs hp) (qam ?_)
 simp only[ge_iff_le,qei,qaP qbG]
theorem qa4(s:List Int)(p:Int→Bool)(hs:s.length≤1048576)(hp:∀ x∈s,Ret E n_Z23 [⟨yI,x⟩] ⟨o_Z23,(p x,())⟩) :
  Ret E n_Z102 [⟨yL,s⟩,⟨(.fn n_Z23 .nil),()⟩] ⟨o_Z102,(pb (∃ x∈s,p x=true),())⟩:=by
 refine qal ?_
 simp only[run_Z102,Z104.ev]
 refine qaa (qbh s p hs hp) (qam ?_)
 simp only[ge_iff_le,qei,qaP qbG]
theorem qbd(s:List Int)(c:((Int×Unit)×Unit))(p:Int→Bool)(hs:s.length≤1048576)(hp:∀ x∈s,Ret E n_Z27 [⟨yI,x⟩,⟨(.ptr (.cons yI .nil)),c.1⟩] ⟨o_Z27,(p x,())⟩) :
  Ret E n_Z102 [⟨yL,s⟩,⟨(.fn n_Z27 (.cons (.ptr (.cons yI .nil)) .nil)),c⟩] ⟨o_Z102,(pb (∃ x∈s,p x=true),())⟩:=by
 refine qal ?_
 simp only[run_Z102,Z105.ev]
 refine qaa (qbj s c p hs hp) (qam ?_)
 simp only[ge_iff_le,qei,qaP qbG]
theorem qbg(s:List Int)(p:Int→Bool)(hs:s.length≤1048576)(hp:∀ x∈s,Ret E n_Z29 [⟨yI,x⟩] ⟨o_Z29,(p x,())⟩) :
  Ret E n_Z102 [⟨yL,s⟩,⟨(.fn n_Z29 .nil),()⟩] ⟨o_Z102,(pb (∃ x∈s,p x=true),())⟩:=by
 refine qal ?_
 simp only[run_Z102,Z106.ev]
 refine qaa (qbr s p hs hp) (qam ?_)
 simp only[ge_iff_le,qei,qaP qbG]
theorem qbq(s:List Int)(p:Int→Bool)(hs:s.length≤1048576)(hp:∀ x∈s,Ret E n_Z64 [⟨yI,x⟩] ⟨o_Z64,(p x,())⟩) :
  Ret E n_Z102 [⟨yL,s⟩,⟨(.fn n_Z64 .nil),()⟩] ⟨o_Z102,(pb (∃ x∈s,p x=true),())⟩:=by
 refine qal ?_
 simp only[run_Z102,Z107.ev]
 refine qaa (qbC s p hs hp) (qam ?_)
 simp only[ge_iff_le,qei,qaP qbG]
theorem qdT(p:Int)(R C:Nat)(f:Nat→Nat→Int)(hR:R≤1048576)(hC:C≤1048576)(hRC:R*C≤1048576)(hf:∀ i j:Nat,i<R→j<C→Ret E n_Z85 [⟨yI,(i:Int)⟩,⟨yI,(j:Int)⟩] ⟨o_Z85,(f i j,())⟩) :
  Ret E n_Z47 [⟨yI,p⟩,⟨yI,(R:Int)⟩,⟨yI,(C:Int)⟩,⟨(.fn n_Z85 .nil),()⟩] ⟨o_Z47,(p,(R:Int),(C:Int),qaR f C R,())⟩:=by
 refine qal ?_
 simp only[run_Z47,Z50.ev]
 refine Ev.start (p:=fun φ n=>Z50.l0 (mkR (run E (φ 0))) (φ 0) n (C:Int) (R:Int) 0 0 0 0 p (R:Int) (C:Int) []=_) 1 ?_ (fun _ _ _ h=>h)
 refine qaw 1 (L:=fun φ n k a=>Z50.l0 (mkR (run E (φ 0))) (φ 0) n (C:Int) (R:Int) k 0 0 0 p (R:Int) (C:Int) a) (len:=R) (fun k=>qaR f C k) (fun _ _ _ _ _=>rfl) (fun k r hk ih=>?_) ?_
 ·simp only[Z50.l0_succ _ qag]
  refine qaE (decide_eq_true (by omega)) ?_
  refine Ev.start (p:=fun φ n=>Z50.l1 (mkR (run E (φ 0))) (φ 0) (φ 1) n (C:Int) (k:Int) (R:Int) (k:Int) (C:Int) 0 0 0 0 p (R:Int) (C:Int) (qaR f C k)=_) 2 ?_ (fun _ _ _ h=>h)
  have hle:(k+1)*C≤R*C:=Nat.mul_le_mul_right _ hk
  rw[Nat.add_mul] at hle
  have:=qaw 2 (L:=fun φ n j a=>Z50.l1 (mkR (run E (φ 0))) (φ 0) (φ 1) n (C:Int) (k:Int) (R:Int) (k:Int) (C:Int) j 0 0 0 p (R:Int) (C:Int) a) (len:=C) (fun j=>qaR f C k++(List.range j).map (f k)) (r:=r) (fun _ _ _ _ _=>rfl) (fun j r hj ih=>?_) ?_
  ·simpa using this
  ·simp only[Z50.l1_succ _ qag]
   rw[List.range_succ,List.map_append,← List.append_assoc] at ih
   refine qaE (decide_eq_true (by omega)) (qaa (hf k j hk hj) (qau (by simp[qaC];omega) ?_))
   rw[qah (by omega)];exact ih
  ·simp only[Z50.l1_succ _ qag]
   refine qaH (decide_eq_false (by omega)) ?_
   rw[qah (by omega)];exact ih
 ·simp only[Z50.l0_succ _ qag]
  exact qaH (decide_eq_false (by omega)) qan
theorem qcN(p:Int)(R C:Nat)(c:(vM×Unit))(f:Nat→Nat→Int)(hR:R≤1048576)(hC:C≤1048576)(hRC:R*C≤1048576)(hf:∀ i j:Nat,i<R→j<C→Ret E n_Z83 [⟨yI,(i:Int)⟩,⟨yI,(j:Int)⟩,⟨(.ptr yM),c.1⟩] ⟨o_Z83,(f i j,())⟩) :
  Ret E n_Z47 [⟨yI,p⟩,⟨yI,(R:Int)⟩,⟨yI,(C:Int)⟩,⟨(.fn n_Z83 (.cons (.ptr yM) .nil)),c⟩] ⟨o_Z47,(p,(R:Int),(C:Int),qaR f C R,())⟩:=by
 refine qal ?_
 simp only[run_Z47,Z49.ev]
 refine Ev.start (p:=fun φ n=>Z49.l0 (mkR (run E (φ 0))) (φ 0) n (C:Int) c (R:Int) 0 0 0 0 p (R:Int) (C:Int) []=_) 1 ?_ (fun _ _ _ h=>h)
 refine qaw 1 (L:=fun φ n k a=>Z49.l0 (mkR (run E (φ 0))) (φ 0) n (C:Int) c (R:Int) k 0 0 0 p (R:Int) (C:Int) a) (len:=R) (fun k=>qaR f C k) (fun _ _ _ _ _=>rfl) (fun k r hk ih=>?_) ?_
 ·simp only[Z49.l0_succ _ qag]
  refine qaE (decide_eq_true (by omega)) ?_
  refine Ev.start (p:=fun φ n=>Z49.l1 (mkR (run E (φ 0))) (φ 0) (φ 1) n (C:Int) c (k:Int) (R:Int) (k:Int) (C:Int) 0 0 0 0 p (R:Int) (C:Int) (qaR f C k)=_) 2 ?_ (fun _ _ _ h=>h)
  have hle:(k+1)*C≤R*C:=Nat.mul_le_mul_right _ hk
  rw[Nat.add_mul] at hle
  have:=qaw 2 (L:=fun φ n j a=>Z49.l1 (mkR (run E (φ 0))) (φ 0) (φ 1) n (C:Int) c (k:Int) (R:Int) (k:Int) (C:Int) j 0 0 0 p (R:Int) (C:Int) a) (len:=C) (fun j=>qaR f C k++(List.range j).map (f k)) (r:=r) (fun _ _ _ _ _=>rfl) (fun j r hj ih=>?_) ?_
  ·simpa using this
  ·simp only[Z49.l1_succ _ qag]
   rw[List.range_succ,List.map_append,← List.append_assoc] at ih
   refine qaE (decide_eq_true (by omega)) (qaa (hf k j hk hj) (qau (by simp[qaC];omega) ?_))
   rw[qah (by omega)];exact ih
  ·simp only[Z49.l1_succ _ qag]
   refine qaH (decide_eq_false (by omega)) ?_
   rw[qah (by omega)];exact ih
 ·simp only[Z49.l0_succ _ qag]
  exact qaH (decide_eq_false (by omega)) qan
theorem qdd(p:Int)(R C:Nat)(c:(vM×(vK×Unit)×Unit))(f:Nat→Nat→Int)(hR:R≤1048576)(hC:C≤1048576)(hRC:R*C≤1048576)(hf:∀ i j:Nat,i<R→j<C→Ret E n_Z70 [⟨yI,(i:Int)⟩,⟨yI,(j:Int)⟩,⟨(.ptr yM),c.1⟩,⟨(.ptr yC),c.2.1⟩] ⟨o_Z70,(f i j,())⟩) :
  Ret E n_Z47 [⟨yI,p⟩,⟨yI,(R:Int)⟩,⟨yI,(C:Int)⟩,⟨(.fn n_Z70 (.cons (.ptr yM) (.cons (.ptr yC) .nil))),c⟩] ⟨o_Z47,(p,(R:Int),(C:Int),qaR f C R,())⟩:=by
 refine qal ?_
 simp only[run_Z47,Z48.ev]
 refine Ev.start (p:=fun φ n=>Z48.l0 (mkR (run E (φ 0))) (φ 0) n (C:Int) c (R:Int) 0 0 0 0 p (R:Int) (C:Int) []=_) 1 ?_ (fun _ _ _ h=>h)
 refine qaw 1 (L:=fun φ n k a=>Z48.l0 (mkR (run E (φ 0))) (φ 0) n (C:Int) c (R:Int) k 0 0 0 p (R:Int) (C:Int) a) (len:=R) (fun k=>qaR f C k) (fun _ _ _ _ _=>rfl) (fun k r hk ih=>?_) ?_
 ·simp only[Z48.l0_succ _ qag]
  refine qaE (decide_eq_true (by omega)) ?_
  refine Ev.start (p:=fun φ n=>Z48.l1 (mkR (run E (φ 0))) (φ 0) (φ 1) n (C:Int) c (k:Int) (R:Int) (k:Int) (C:Int) 0 0 0 0 p (R:Int) (C:Int) (qaR f C k)=_) 2 ?_ (fun _ _ _ h=>h)
  have hle:(k+1)*C≤R*C:=Nat.mul_le_mul_right _ hk
  rw[Nat.add_mul] at hle
  have:=qaw 2 (L:=fun φ n j a=>Z48.l1 (mkR (run E (φ 0))) (φ 0) (φ 1) n (C:Int) c (k:Int) (R:Int) (k:Int) (C:Int) j 0 0 0 p (R:Int) (C:Int) a) (len:=C) (fun j=>qaR f C k++(List.range j).map (f k)) (r:=r) (fun _ _ _ _ _=>rfl) (fun j r hj ih=>?_) ?_
  ·simpa using this
  ·simp only[Z48.l1_succ _ qag]
   rw[List.range_succ,List.map_append,← List.append_assoc] at ih
   refine qaE (decide_eq_true (by omega)) (qaa (hf k j hk hj) (qau (by simp[qaC];omega) ?_))
   rw[qah (by omega)];exact ih
  ·simp only[Z48.l1_succ _ qag]
   refine qaH (decide_eq_false (by omega)) ?_
   rw[qah (by omega)];exact ih
 ·simp only[Z48.l0_succ _ qag]
  exact qaH (decide_eq_false (by omega)) qan
theorem qdU(p:Int)(R C:Nat)(f:Nat→Nat→Int)(hR:R≤1048576)(hC:C≤1048576)(hRC:R*C≤1048576)(hf:∀ i j:Nat,i<R→j<C→Ret E n_Z89 [⟨yI,(i:Int)⟩,⟨yI,(j:Int)⟩] ⟨o_Z89,(f i j,())⟩) :
  Ret E n_Z47 [⟨yI,p⟩,⟨yI,(R:Int)⟩,⟨yI,(C:Int)⟩,⟨(.fn n_Z89 .nil),()⟩] ⟨o_Z47,(p,(R:Int),(C:Int),qaR f C R,())⟩:=by
 refine qal ?_
 simp only[run_Z47,Z51.ev]
 refine Ev.start (p:=fun φ n=>Z51.l0 (mkR (run E (φ 0))) (φ 0) n (C:Int) (R:Int) 0 0 0 0 p (R:Int) (C:Int) []=_) 1 ?_ (fun _ _ _ h=>h)
 refine qaw 1 (L:=fun φ n k a=>Z51.l0 (mkR (run E (φ 0))) (φ 0) n (C:Int) (R:Int) k 0 0 0 p (R:Int) (C:Int) a) (len:=R) (fun k=>qaR f C k) (fun _ _ _ _ _=>rfl) (fun k r hk ih=>?_) ?_
 ·simp only[Z51.l0_succ _ qag]
  refine qaE (decide_eq_true (by omega)) ?_
  refine Ev.start (p:=fun φ n=>Z51.l1 (mkR (run E (φ 0))) (φ 0) (φ 1) n (C:Int) (k:Int) (R:Int) (k:Int) (C:Int) 0 0 0 0 p (R:Int) (C:Int) (qaR f C k)=_) 2 ?_ (fun _ _ _ h=>h)
  have hle:(k+1)*C≤R*C:=Nat.mul_le_mul_right _ hk
  rw[Nat.add_mul] at hle
  have:=qaw 2 (L:=fun φ n j a=>Z51.l1 (mkR (run E (φ 0))) (φ 0) (φ 1) n (C:Int) (k:Int) (R:Int) (k:Int) (C:Int) j 0 0 0 p (R:Int) (C:Int) a) (len:=C) (fun j=>qaR f C k++(List.range j).map (f k)) (r:=r) (fun _ _ _ _ _=>rfl) (fun j r hj ih=>?_) ?_
  ·simpa using this
  ·simp only[Z51.l1_succ _ qag]
   rw[List.range_succ,List.map_append,← List.append_assoc] at ih
   refine qaE (decide_eq_true (by omega)) (qaa (hf k j hk hj) (qau (by simp[qaC];omega) ?_))
   rw[qah (by omega)];exact ih
  ·simp only[Z51.l1_succ _ qag]
   refine qaH (decide_eq_false (by omega)) ?_
   rw[qah (by omega)];exact ih
 ·simp only[Z51.l0_succ _ qag]
  exact qaH (decide_eq_false (by omega)) qan
end VeT
open Go Go.Proofs Ve
namespace VeT
abbrev cM:Ty:=.cons yI (.cons yI (.cons yI (.cons yL .nil)))
abbrev cC:Ty:=.cons yK .nil
abbrev cS:Ty:=.cons yK (.cons yI (.cons yL (.cons (.sl (.st cM)) .nil)))
abbrev Mat:=Int×Int×Int×List Int×Unit
abbrev Cpx:=List (List Int)×Unit
abbrev Shf:=List (List Int)×Int×List Int×List Mat×Unit
abbrev Sim:=List Int
abbrev dI(x:Int):Dv:=⟨.int .i64,x⟩
abbrev dL(x:List Int):Dv:=⟨.sl yI,x⟩
abbrev dLL(x:List (List Int)):Dv:=⟨.sl yL,x⟩
abbrev dC(x:Cpx):Dv:=⟨.ptr cC,x⟩
abbrev dM(x:Mat):Dv:=⟨.ptr cM,x⟩
abbrev dS(x:Shf):Dv:=⟨.ptr cS,x⟩
abbrev dMs(x:List Mat):Dv:=⟨.sl (.st cM),x⟩
theorem qbI(n lo hi:Int):Ret E n_Z86 [dI n,dI lo,dI hi] ⟨o_Z86,(pb (lo≤n∧n≤hi),())⟩:=by
 refine qal ?_
 simp only[run_Z86,Z86.ev]
 refine qfa (fun h=>qam ?_) fun h=>qam ?_
 ·rw[qei,qaP (show n≤hi↔lo≤n∧n≤hi by omega)]
 ·rw[qat (by omega)]
theorem qdr(n lo hi:Int):Ret E n_Z128 [dI n,dI lo,dI hi] ⟨o_Z128,(pb (lo≤n∧n≤hi),())⟩:=by
 refine qal ?_
 simp only[run_Z128,Z128.ev]
 refine qfa (fun h=>qam ?_) fun h=>qam ?_
 ·rw[qei,qaP (show n≤hi↔lo≤n∧n≤hi by omega)]
 ·rw[qat (by omega)]
theorem qks(n:Int):Ret E n_Z62 [dI n] ⟨o_Z62,(pb (0≤n∧n≤9),())⟩:=by
 refine qal ?_
 simp only[run_Z62,Z62.ev]
 exact qaa (qbI _ _ _) qan
theorem qfp(n:Int):Ret E n_Z23 [dI n] ⟨o_Z23,(!pb (0≤n∧n≤9),())⟩:=by
 refine qal ?_
 simp only[run_Z23,Z23.ev]
 exact qaa (qks _) qan
def qij(s:Sim):Prop:=∀ j,1≤j→j<s.length→s.getD (j-1) 0<s.getD j 0
theorem qkf(s:Sim)(hs:Sm yL s):Ret E n_Z60 [dL s] ⟨o_Z60,(pb (qij s),())⟩:=by
 have hs1:s.length≤1048576:=hs.1
 refine qal ?_
 simp only[run_Z60,Z60.ev]
 by_cases h0:s.length=0
 ·refine Ev.start (p:=fun φ n=>Z60.l0 (mkR (run E (φ 0))) (φ 0) n s 1=_) 1 ?_ (fun _ _ _ h=>h)
  refine qe2 1 (σ:=Unit) (L:=fun φ n _=>Z60.l0 (mkR (run E (φ 0))) (φ 0) n s 1) (fun _ _ _ _=>rfl) (fun _=>True) (fun _=>_) (fun _=>0) (fun _ _ _=>?_) () trivial
  simp only[Z60.l0_succ _ qag]
  refine qaH (decide_eq_false (by omega)) (qam ?_)
  rw[qaz]
  intro j h1 h2;omega
 ·refine Ev.start (p:=fun φ n=>Z60.l0 (mkR (run E (φ 0))) (φ 0) n s 1=_) 1 ?_ (fun _ _ _ h=>h)
  refine qfo 1 (L:=fun φ n k=>Z60.l0 (mkR (run E (φ 0))) (φ 0) n s k) (len:=s.length) 1 (by omega) (fun j=>s.getD (j-1) 0<s.getD j 0) (fun b=>some ⟨o_Z60,(b,())⟩) (fun _ _ _ _=>rfl) (fun k h1 h2 hP _=>?_) (fun k r h1 h2 hP _ ih=>?_) (fun _=>?_)
  ·simp only[Z60.l0_succ _ qag]
   refine qaE (decide_eq_true (by omega)) ?_
   rw[qai (by omega) (by omega),show((k:Int)-1)=((k-1:Nat):Int) by omega]
   refine qaf (qap (by omega)) (qaf (qap h2) (qaE (decide_eq_true ?_) qan))
   simpa [List.getD_eq_getElem?_getD,h2,show k-1<s.length by omega] using hP
  ·simp only[Z60.l0_succ _ qag]
   refine qaE (decide_eq_true (by omega)) ?_
   rw[qai (by omega) (by omega),show((k:Int)-1)=((k-1:Nat):Int) by omega]
   refine qaf (qap (by omega)) (qaf (qap h2) (qaH (decide_eq_false ?_) ?_))
   ·simpa [List.getD_eq_getElem?_getD,h2,show k-1<s.length by omega] using hP
   ·rw[qah (by omega)];exact ih
  ·simp only[Z60.l0_succ _ qag]
   exact qaH (decide_eq_false (by omega)) qan
end VeT
open Go Go.Proofs Ve
namespace VeT
def Vx(s:Sim):Prop:=1≤s.length∧s.length≤4∧qij s∧∀ x∈s,0≤x∧x≤9
theorem qdQ(s:Sim)(hs:Sm yL s):Ret E n_Z22 [dL s] ⟨o_Z22,(pb (Vx s),())⟩:=by
 refine qal ?_
 simp only[run_Z22,Z22.ev]
 refine qfa (fun h1=>qfa (fun h2=>qaa (qkf s hs) (qdR (fun h3=>qaa (qa4 s _ hs.1 fun x _=>qfp x) (qam ?_)) fun h3=>qam ?_)) fun h2=>qam ?_) fun h1=>qam ?_
 ·have h3:=qaV.1 h3
  have:(!pb (∃ x∈s,(!pb (0≤x∧x≤9))=true))=pb (Vx s):=qjS (by
   simp only[Bool.not_eq_true',qcr]
   exact⟨fun h=>⟨by omega,by omega,h3,fun x hx=>Classical.byContradiction fun hn=>h ⟨x,hx,hn⟩⟩,fun h ⟨x,hx,hn⟩=>hn (h.2.2.2 x hx)⟩)
  rw[this]
 ·rw[qat fun h=>qcr.1 h3 h.2.2.1]
 ·rw[qat fun h=>h2 (by have:=h.2.1;omega)]
 ·rw[qat fun h=>h1 (by have:=h.1;omega)]
theorem qkv(s:Sim)(lo hi:Int)(hs:Sm yL s):Ret E n_Z131 [dL s,dI lo,dI hi] ⟨o_Z131,(pb (qij s∧∀ x∈s,lo≤x∧x≤hi),())⟩:=by
 have hs1:s.length≤1048576:=hs.1
 refine qal ?_
 simp only[run_Z131,Z131.ev]
 refine Ev.start (p:=fun φ n=>Z131.l0 (mkR (run E (φ 0))) (φ 0) n s lo hi 0=_) 1 ?_ (fun _ _ _ h=>h)
 refine(qfo 1 (L:=fun φ n k=>Z131.l0 (mkR (run E (φ 0))) (φ 0) n s lo hi k) (len:=s.length) 0 (by omega) (fun j=>(lo≤s.getD j 0∧s.getD j 0≤hi)∧(1≤j→s.getD (j-1) 0<s.getD j 0)) (fun b=>some ⟨o_Z131,(b,())⟩) (fun _ _ _ _=>rfl) (fun k h1 h2 hP _=>?_) (fun k r h1 h2 hP _ ih=>?_) (fun _=>?_)).to ?_
 ·simp only[Z131.l0_succ _ qag]
  refine qaE (decide_eq_true (by omega)) (qaf (qap h2) (qaa (qdr _ _ _) ?_))
  have e:s.getD k 0=s[k]:=by simp[List.getD_eq_getElem?_getD,h2]
  rw[e] at hP
  refine qdR (fun _=>?_) (fun hin=>?_)
  ·simp only[Z131.j1_eq _ qag,cond_true];(first | exact qan | exact Ev.of fun _=>trivial)
  ·have hin:lo≤s[k]∧s[k]≤hi:=qaV.1 (by simpa using hin)
   have hk:1≤k:=Classical.byContradiction fun h=>hP ⟨hin,fun h'=>absurd h' h⟩
   refine qaE (decide_eq_true (by omega)) ?_
   rw[qai (by omega) (by omega),show((k:Int)-1)=((k-1:Nat):Int) by omega]
   refine qaf (qap (by omega)) (qaf (qap h2) ?_)
   have e':s.getD (k-1) 0=s[k-1]:=by simp[List.getD_eq_getElem?_getD,show k-1<s.length by omega]
   rw[e'] at hP
   have:decide (s[k-1]≥s[k])=true:=decide_eq_true (Classical.byContradiction fun h=>hP ⟨hin,fun _=>by omega⟩)
   simp only[this,Z131.j1_eq _ qag,cond_true];(first | exact qan | exact Ev.of fun _=>trivial)
 ·simp only[Z131.l0_succ _ qag]
  refine qaE (decide_eq_true (by omega)) (qaf (qap h2) (qaa (qdr _ _ _) ?_))
  have e:s.getD k 0=s[k]:=by simp[List.getD_eq_getElem?_getD,h2]
  rw[e] at hP
  refine qaH (by rw[qaz hP.1];rfl) ?_
  refine qfa (fun hk=>?_) fun hk=>?_
  ·rw[qai (by omega) (by omega),show((k:Int)-1)=((k-1:Nat):Int) by omega]
   refine qaf (qap (by omega)) (qaf (qap h2) ?_)
   have e':s.getD (k-1) 0=s[k-1]:=by simp[List.getD_eq_getElem?_getD,show k-1<s.length by omega]
   rw[e'] at hP
   have:decide (s[k-1]≥s[k])=false:=decide_eq_false (by have:=hP.2 (by omega);omega)
   simp only[this,Z131.j1_eq _ qag,cond_false]
   rw[qah (by omega)];exact ih
  ·simp only[Z131.j1_eq _ qag,cond_false]
   rw[qah (by omega)];exact ih
 ·simp only[Z131.l0_succ _ qag]
  exact qaH (decide_eq_false (by omega)) qan
 ·refine congrArg (fun b:Bool=>some (⟨o_Z131,(b,())⟩:Dv)) (qaP ⟨fun h=>⟨fun j h1 h2=>(h j (by omega) h2).2 h1,fun x hx=>?_⟩,fun⟨h1,h2⟩ j _ hj=>⟨?_,fun h3=>h1 j h3 hj⟩⟩)
  ·obtain⟨j,hj,rfl⟩:=List.mem_iff_getElem.1 hx
   simpa [List.getD_eq_getElem?_getD,hj] using (h j (by omega) hj).1
  ·simpa [List.getD_eq_getElem?_getD,hj] using h2 _ (List.getElem_mem hj)
theorem qeD(s:Sim)(hs:Sm yL s):Ret E n_Z152 [dL s] ⟨o_Z152,(pb (Vx s),())⟩:=by
 refine qal ?_
 simp only[run_Z152,Z152.ev]
 refine qaa (qdr _ _ _) (qdR (fun h1=>qaa (qkv s _ _ hs) (qam ?_)) fun h1=>qam ?_)
 ·have h1:=qaV.1 h1
  exact congrArg (fun b:Bool=>some (⟨o_Z152,(b,())⟩:Dv)) (qaP ⟨fun h=>⟨by omega,by omega,h.1,h.2⟩,fun h=>⟨h.2.2.1,h.2.2.2⟩⟩)
 ·rw[qat fun h=>qcr.1 h1 ⟨by have:=h.1;omega,by have:=h.2.1;omega⟩]
def qiT(a b:Int):Int:=if a<b then -1 else if b<a then 1 else 0
def qd6:Sim→Sim→Int
 | [],[]=>0
 | [],_::_=>-1
 | _::_,[]=>1
 | x::xs,y::ys=>if x<y then -1 else if y<x then 1 else qd6 xs ys
def qc7(a b:Sim):Int:=if qiT a.length b.length≠0 then qiT a.length b.length else qd6 a b
theorem qea{a b:Int}:qiT a b=0↔a=b:=by unfold qiT;split<;>(try split)<;>omega
theorem qou{a b:Int}:qiT b a=- qiT a b:=by unfold qiT;split<;>split<;>(try split)<;>omega
theorem qnh{a b:Int}:qiT a b<0↔a<b:=by unfold qiT;split<;>(try split)<;>omega
theorem qn3:∀ {a b:Sim},qd6 a b=0↔a=b
 | [],[]=>by simp[qd6]
 | [],_::_=>by simp[qd6]
 | _::_,[]=>by simp[qd6]
 | x::xs,y::ys=>by
  have:=@qn3 xs ys
  simp only[qd6,List.cons.injEq]
  split
  ·constructor
   ·intro h;omega
   ·rintro⟨rfl,_⟩;omega
  ·split
   ·constructor
    ·intro h;omega
    ·rintro⟨rfl,_⟩;omega
   ·rw[this];constructor
    ·intro h;exact⟨by omega,h⟩
    ·exact fun h=>h.2
theorem qlH:∀ {a b:Sim},qd6 b a=- qd6 a b
 | [],[]=>by simp[qd6]
 | [],_::_=>by simp[qd6]
 | _::_,[]=>by simp[qd6]
 | x::xs,y::ys=>by
  have:=@qlH xs ys
  simp only[qd6]
  split<;>split<;>(try split)<;>omega
theorem qiP:∀ {a b c:Sim},qd6 a b<0→qd6 b c<0→qd6 a c<0
 | [],[],c,h,_=>by simp[qd6] at h
 | [],_::_,[],_,h=>by simp[qd6] at h
 | [],_::_,_::_,_,_=>by simp[qd6]
 | _::_,[],_,h,_=>by simp[qd6] at h
 | _::_,_::_,[],_,h=>by simp[qd6] at h
 | x::xs,y::ys,z::zs,h1,h2=>by
  have:=@qiP xs ys zs
  simp only[qd6] at h1 h2 ⊢
  split at h1<;>split at h2<;>(try split at h1)<;>(try split at h2)<;>(try split)<;>(try split)<;>first | omega | (exact this h1 h2)
theorem qca{a b:Sim}:qc7 a b=0↔a=b:=by
 unfold qc7
 split
 ·rename_i h
  exact⟨fun h'=>absurd h' h,fun h'=>absurd (qea.2 (by rw[h'])) h⟩
 ·exact qn3
theorem qi1{a b:Sim}:qc7 b a=- qc7 a b:=by
 unfold qc7
 rw[@qou a.length b.length]
 split<;>split<;>first | omega | exact qlH
theorem qhT{a b:Sim}:qc7 a b<0↔a.length<b.length∨a.length=b.length∧qd6 a b<0:=by
 unfold qc7
 split
 ·rename_i h
  rw[qnh]
  rw[Ne,qea] at h
  omega
 ·rename_i h
  rw[Classical.not_not,qea] at h
  omega
theorem qet{a b c:Sim}(h1:qc7 a b<0)(h2:qc7 b c<0):qc7 a c<0:=by
 rw[qhT] at *
 rcases h1 with h1 | ⟨h1,h1'⟩<;>rcases h2 with h2 | ⟨h2,h2'⟩
 ·left;omega
 ·left;omega
 ·left;omega
 ·right;exact⟨by omega,qiP h1' h2'⟩
theorem qiH(a:Int):Ret E n_Z3 [dI a] ⟨o_Z3,(false,())⟩:=by
 refine qal ?_
 simp only[run_Z3,Z3.ev]
 exact qam (by simp)
theorem qkH(a:Int):Ret E n_Z4 [dI a] ⟨o_Z4,(false,())⟩:=by
 refine qal ?_
 simp only[run_Z4,Z4.ev]
 exact qam (by simp)
theorem qjV(a b:Int):Ret E n_Z0 [dI a,dI b] ⟨o_Z0,(qiT a b,())⟩:=by
 refine qal ?_
 simp only[run_Z0,Z0.ev]
 refine qaa (qiH _) (qaa (qiH _) (qaH rfl (qaH rfl (qfa (fun h=>qam ?_) fun h=>qfa (fun h2=>qam ?_) fun h2=>qam ?_))))
 ·rw[qiT,if_pos h]
 ·rw[qiT,if_neg h,if_pos h2]
 ·rw[qiT,if_neg h,if_neg h2]
theorem qlu(a b:Int):Ret E n_Z1 [dI a,dI b] ⟨o_Z1,(qiT a b,())⟩:=by
 refine qal ?_
 simp only[run_Z1,Z1.ev]
 refine qaa (qkH _) (qaa (qkH _) (qaH rfl (qaH rfl (qfa (fun h=>qam ?_) fun h=>qfa (fun h2=>qam ?_) fun h2=>qam ?_))))
 ·rw[qiT,if_pos h]
 ·rw[qiT,if_neg h,if_pos h2]
 ·rw[qiT,if_neg h,if_neg h2]
theorem qhG{a b:Sim}{k:Nat}(h:k<a.length)(h':k<b.length):qd6 (a.drop k) (b.drop k)=if qiT a[k] b[k]≠0 then qiT a[k] b[k] else qd6 (a.drop (k+1)) (b.drop (k+1)):=by
 rw[List.drop_eq_getElem_cons h,List.drop_eq_getElem_cons h',qd6]
 unfold qiT
 split
 ·simp
 ·split
  ·simp
  ·simp
theorem qgJ(a b:Sim)(ha:Sm yL a):Ret E n_Z98 [dL a,dL b] ⟨o_Z98,(qd6 a b,())⟩:=by
 have ha1:a.length≤1048576:=ha.1
 refine qal ?_
 simp only[run_Z98,Z98.ev]
 refine Ev.start (p:=fun φ n=>Z98.l0 (mkR (run E (φ 0))) (φ 0) n a b a (a.length:Int) 0=_) 1 ?_ (fun _ _ _ h=>h)
 refine qe2 1 (σ:=Nat) (L:=fun φ n k=>Z98.l0 (mkR (run E (φ 0))) (φ 0) n a b a (a.length:Int) (k:Int)) (fun _ _ _ _=>rfl) (fun k=>k≤a.length∧k≤b.length) (fun k=>some ⟨o_Z98,(qd6 (a.drop k) (b.drop k),())⟩) (fun k=>a.length-k) (fun k ⟨hk,hkb⟩ ih=>?_) 0 ⟨Nat.zero_le _,Nat.zero_le _⟩
 simp only[Z98.l0_succ _ qag]
 refine qfa (fun h=>?_) fun h=>?_
 ·have hka:k<a.length:=by omega
  refine qaf (qap hka) (qfa (fun h2=>qam ?_) fun h2=>?_)
  ·rw[List.drop_eq_getElem_cons hka,List.drop_of_length_le (l:=b) (by omega),qd6]
  ·have hkb:k<b.length:=by omega
   refine qaf (qap hkb) (qaa (qlu _ _) (qdR (fun h3=>qam ?_) fun h3=>?_))
   ·rw[qhG hka hkb,if_pos (by simpa using h3)]
   ·rw[qah (by omega)]
    refine(ih (k+1) ⟨by omega,by omega⟩ (by omega)).to ?_
    rw[qhG hka hkb,if_neg (by simpa using h3)]
 ·have e:k=a.length:=by omega
  subst e
  refine qfa (fun h2=>qam ?_) fun h2=>qam ?_
  ·rw[List.drop_of_length_le (l:=a) (by omega),List.drop_eq_getElem_cons (l:=b) (by omega),qd6]
  ·rw[List.drop_of_length_le (l:=a) (by omega),List.drop_of_length_le (l:=b) (by omega),qd6]
theorem qqe(a b:Int):Ret E n_Z2 [dL [a,b]] ⟨o_Z2,(if a≠0 then a else b,())⟩:=by
 refine qal ?_
 simp only[run_Z2,Z2.ev]
 refine Ev.start (p:=fun φ n=>Z2.l0 (mkR (run E (φ 0))) (φ 0) n 0 [a,b] ([a,b].length:Int) 0=_) 1 ?_ (fun _ _ _ h=>h)
 refine Ev.round 1 (L:=fun φ n=>Z2.l0 (mkR (run E (φ 0))) (φ 0) n 0 [a,b] ([a,b].length:Int) 0) ?_ (fun _ _ _=>rfl)
 simp only[Z2.l0_succ _ qag]
 refine qaE (by simp) (qaf (x:=a) rfl (qdR (fun h=>qam ?_) fun h=>?_))
 ·rw[if_pos (by simpa using h)]
 ·rw[if_neg (by simpa using h)]
  rw[show w64 ((0:Int)+1)=1 by decide]
  refine Ev.round 1 (L:=fun φ n=>Z2.l0 (mkR (run E (φ 0))) (φ 0) n 0 [a,b] ([a,b].length:Int) 1) ?_ (fun _ _ _=>rfl)
  simp only[Z2.l0_succ _ qag]
  refine qaE (by simp) (qaf (x:=b) rfl (qdR (fun h=>qan) fun h=>?_))
  rw[show w64 ((1:Int)+1)=2 by decide]
  refine Ev.round 1 (L:=fun φ n=>Z2.l0 (mkR (run E (φ 0))) (φ 0) n 0 [a,b] ([a,b].length:Int) 2) ?_ (fun _ _ _=>rfl)
  simp only[Z2.l0_succ _ qag]
  refine qaH (by simp) (qam ?_)
  have:b=0:=by simpa using h
  rw[this]
theorem qaX(a b:Sim)(ha:Sm yL a):Ret E n_Z35 [dL a,dL b] ⟨o_Z35,(qc7 a b,())⟩:=by
 refine qal ?_
 simp only[run_Z35,Z35.ev]
 exact qaa (qjV _ _) (qaa (qgJ a b ha) (qaa (qqe _ _) qan))
theorem qcB(a b:Sim)(ha:Sm yL a):Ret E n_Z142 [dL a,dL b] ⟨o_Z142,(pb (qc7 a b<0),())⟩:=by
  have ha1:a.length≤1048576:=ha.1
  refine qal ?_
  simp only[run_Z142,Z142.ev]
  refine qdR (fun h=>qam ?_) fun h=>?_
  · have h:(a.length:Int)≠b.length:=by simpa using h
    rw[qei,qaP (show(a.length:Int)<b.length↔qc7 a b<0 by rw[qhT];omega)]
  · have h : a.length = b.length := by have : (a.length : Int) = b.length := by simpa using h
                                       omega
    refine Ev.start (p:=fun φ n=>Z142.l0 (mkR (run E (φ 0))) (φ 0) n a b 0=_) 1 ?_ (fun _ _ _ h=>h)
    refine(qe2 1 (σ:=Nat) (L:=fun φ n k=>Z142.l0 (mkR (run E (φ 0))) (φ 0) n a b (k:Int)) (fun _ _ _ _=>rfl) (fun k=>k≤a.length) (fun k=>some ⟨o_Z142,(pb (qd6 (a.drop k) (b.drop k)<0),())⟩) (fun k=>a.length-k) (fun k hk ih=>?_) 0 (Nat.zero_le _)).to ?_
    · simp only[Z142.l0_succ _ qag]
      refine qfa (fun h1=>?_) fun h1=>?_
      · have hka:k<a.length:=by omega
        have hkb:k<b.length:=by omega
        have e:=qhG hka hkb
        refine qaf (qap hka) (qaf (qap hkb) (qdR (fun h3=>?_) fun h3=>?_))
        · refine qaf (qap hka) (qaf (qap hkb) (qam ?_))
          have h3:a[k]≠b[k]:=by simpa using h3
          rw[if_pos (by rw[Ne,qea];exact h3)] at e
          rw[e,qei,qaP qnh]
        · have h3:a[k]=b[k]:=by simpa using h3
          rw[if_neg (by rw[Classical.not_not,qea];exact h3)] at e
          rw[qah (by omega),e]
          exact ih (k+1) (by show k+1≤_;omega) (by show a.length-(k+1)<_;omega)
      · refine qam ?_
        have hk:k≤a.length:=hk
        have e:k=a.length:=by omega
        subst e
        rw[List.drop_of_length_le (l:=a) (by omega),List.drop_of_length_le (l:=b) (by omega),qd6,qat (by omega)]
    · refine congrArg (fun b:Bool=>some (⟨o_Z142,(b,())⟩:Dv)) (qaP ?_)
      simp only[List.drop_zero];rw[qhT];omega
end VeT
open Go Go.Proofs Ve
namespace VeT
theorem qad{α:Type}{s:List α}{k:Nat}{d:α}(h:k<s.length):s.getD k d=s[k]:=by simp[List.getD_eq_getElem?_getD,h]
theorem qbS{t:Ty}{s:List t.T}(h:Sm (.sl t) s){k:Nat}(hk:k<s.length):Sm t s[k]:=h.2 _ (List.getElem_mem hk)
theorem qq6{s:Sim}(h:s.length≤1048576):Sm yL s:=⟨h,fun _ _=>trivial⟩
theorem qiu(s:Sim)(hs:s.length≤1048576):Ret E n_Z129 [dL s] ⟨o_Z129,(s,())⟩:=by
 refine qal ?_
 simp only[run_Z129,Z129.ev]
 exact qau (by simp;omega) (qam rfl)
theorem qeS(s:Sim)(k:Nat)(hk:k<s.length)(hs:s.length≤1048576):Ret E n_Z147 [dL s,dI (k:Int)] ⟨o_Z147,(s.eraseIdx k,())⟩:=by
 refine qal ?_
 simp only[run_Z147,Z147.ev]
 rw[qah (by omega)]
 simp only[Int.toNat_natCast]
 refine qau (by simp;omega) (qaa (qiu _ (by simp;omega)) (qau (by simp;omega) (qau (by simp;omega) (qam ?_))))
 rw[List.eraseIdx_eq_take_drop_succ]
theorem qgs(a b:Sim)(ha:a.length≤1048576):Ret E n_Z132 [dL a,dL b] ⟨o_Z132,(pb (a=b),())⟩:=by
 refine qal ?_
 simp only[run_Z132,Z132.ev]
 refine qdR (fun h=>qam ?_) fun h=>?_
 ·have h:(a.length:Int)≠b.length:=by simpa using h
  rw[qat fun e=>h (by rw[e])]
 ·have h:(a.length:Int)=b.length:=by simpa using h
  refine Ev.start (p:=fun φ n=>Z132.l0 (mkR (run E (φ 0))) (φ 0) n a b 0=_) 1 ?_ (fun _ _ _ h=>h)
  refine(qfo 1 (L:=fun φ n k=>Z132.l0 (mkR (run E (φ 0))) (φ 0) n a b k) (len:=a.length) 0 (by omega) (fun j=>a.getD j 0=b.getD j 0) (fun b=>some ⟨o_Z132,(b,())⟩) (fun _ _ _ _=>rfl) (fun k h1 h2 hP _=>?_) (fun k r h1 h2 hP _ ih=>?_) (fun _=>?_)).to ?_
  ·simp only[Z132.l0_succ _ qag]
   have hb:k<b.length:=by omega
   rw[qad h2,qad hb] at hP
   exact qaE (decide_eq_true (by omega)) (qaf (qap h2) (qaf (qap hb) (qaE (by simpa using hP) qan)))
  ·simp only[Z132.l0_succ _ qag]
   have hb:k<b.length:=by omega
   rw[qad h2,qad hb] at hP
   refine qaE (decide_eq_true (by omega)) (qaf (qap h2) (qaf (qap hb) (qaH (by simpa using hP) ?_)))
   rw[qah (by omega)];exact ih
  ·simp only[Z132.l0_succ _ qag]
   exact qaH (decide_eq_false (by omega)) qan
  ·refine congrArg (fun b:Bool=>some (⟨o_Z132,(b,())⟩:Dv)) (qaP ⟨fun hh=>List.ext_getElem (by omega) fun j h1 h2=>?_,fun hh j _ _=>by rw[hh]⟩)
   have:=hh j (by omega) h1
   rwa [qad h1,qad h2] at this
noncomputable def qcF(c:List Sim)(s:Sim):Int:=qgG (fun x=>pb (x=s)) c
theorem qaT{c:List Sim}{s:Sim}:0≤qcF c s↔s∈c:=by
 unfold qcF
 rw[qbG]
 simp only[qaV]
 exact⟨fun⟨x,h,e⟩=>e ▸ h,fun h=>⟨s,h,rfl⟩⟩
theorem qcj(c:Cpx)(s:Sim)(hc:Sm yK c.1):Ret E n_Z148 [dC c,dL s] ⟨o_Z148,(qcF c.1 s,())⟩:=by
  have hc1:c.1.length≤1048576:=hc.1
  obtain⟨o,h1,h2,h3⟩:=qbU 1 (L:=fun φ n k=>Z148.l0 (mkR (run E (φ 0))) (φ 0) n c s k) (len:=c.1.length) (fun k=>∃ h:k<c.1.length,pb (c.1[k]=s)=true) (fun o=>some ⟨o_Z148,(o2i o,())⟩) (fun _ _ _ _=>rfl) (fun k hk hP=>by
      obtain⟨_,hP⟩:=hP
      simp only[Z148.l0_succ _ qag]
      refine qaE (decide_eq_true (by omega)) (qaf (qap hk) (qaa (qgs _ _ (qbS hc hk).1) (qaE hP qan)))) (fun k q hk hP ih=>by
      simp only[Z148.l0_succ _ qag]
      refine qaE (decide_eq_true (by omega)) (qaf (qap hk) (qaa (qgs _ _ (qbS hc hk).1) (qaH (Bool.eq_false_iff.2 fun h=>hP ⟨hk,h⟩) ?_)))
      rw[qah (by omega)];exact ih) (by
      simp only[Z148.l0_succ _ qag]
      exact qaH (decide_eq_false (by omega)) qan)
  rw[qcw (p:=fun x=>pb (x=s)) h1 h2] at h3
  refine qal ?_
  simp only[run_Z148,Z148.ev]
  exact Ev.start (p:=fun φ n=>Z148.l0 (mkR (run E (φ 0))) (φ 0) n c s 0=_) 1 h3 (fun _ _ _ h=>h)
theorem qo2(n:Nat)(args:List Dv):run E (n+1) n_Z110 args=qmy yI (mkR (run E n)) args:=rfl
theorem qoG(s:Sim)(n:Int)(h0:0≤n)(h1:n≤1048576)(hs:s.length≤1048576):Ret E n_Z110 [dL s,dI n] ⟨o_Z110,(s,())⟩:=by
 refine qal ?_
 simp only[qo2]
 refine qam ((if_pos (show 0≤n∧((List.length s:Int)+n)*(64*(Ty.size (Ty.int IntKind.i64):Int))≤70368744177664 from⟨h0,?_⟩)).trans rfl)
 have:(Ty.size (Ty.int IntKind.i64))=1:=rfl
 rw[this];omega
theorem qmC(ll:List Sim)(hl:ll.length≤1048576)(hf:ll.flatten.length≤1048576):Ret E n_Z99 [dLL ll] ⟨o_Z99,(ll.flatten,())⟩:=by
 have hle:∀ k,(ll.take k).flatten.length≤ll.flatten.length:=fun k=>by
  have:=congrArg List.length (congrArg List.flatten (List.take_append_drop k ll))
  rw[List.flatten_append,List.length_append] at this;omega
 have hst:∀ k (h:k<ll.length),(ll.take (k+1)).flatten=(ll.take k).flatten++ll[k]:=fun k h=>by
  rw[List.take_succ_eq_append_getElem h,List.flatten_append];simp
 refine qal ?_
 simp only[run_Z99,Z99.ev]
 refine Ev.start (p:=fun φ n=>Z99.l0 (mkR (run E (φ 0))) (φ 0) n ll 0 ll (ll.length:Int) 0=_) 1 ?_ (fun _ _ _ h=>h)
 refine qaw 1 (L:=fun φ n k a=>Z99.l0 (mkR (run E (φ 0))) (φ 0) n ll a ll (ll.length:Int) k) (len:=ll.length) (fun k=>(((ll.take k).flatten.length:Nat):Int)) (fun _ _ _ _ _=>rfl) (fun k r hk ih=>?_) ?_
 ·simp only[Z99.l0_succ _ qag]
  have:=hle (k+1)
  have e:=hst k hk
  have e2:w64 (((ll.take k).flatten.length:Nat)+(List.length (ll[k]):Int))=(((ll.take (k+1)).flatten.length:Nat):Int):=by
   rw[qai (by omega) (by rw[e,List.length_append] at this;omega),e,List.length_append];omega
  refine qaE (decide_eq_true (by omega)) (qaf (qap hk) ?_)
  show Ev fun φ=>(bif decide (w64 (((ll.take k).flatten.length:Nat)+(List.length (ll[k]):Int))<0) then none else Z99.l0 (mkR (run E (φ 0))) (φ 0) (φ 1) ll (w64 (((ll.take k).flatten.length:Nat)+(List.length (ll[k]):Int))) ll (ll.length:Int) (w64 ((k:Int)+1)))=r
  rw[e2,qah (by omega)]
  exact qaH (decide_eq_false (by omega)) ih
 ·simp only[Z99.l0_succ _ qag]
  refine qaH (decide_eq_false (by omega)) (qaa (qoG [] _ (by omega) (by have:=hle ll.length;omega) (by simp)) ?_)
  refine Ev.start (p:=fun φ n=>Z99.l1 (mkR (run E (φ 0))) (φ 0) n ll (ll.length:Int) 0 []=_) 2 ?_ (fun _ _ _ h=>h)
  refine qaw 2 (L:=fun φ n k a=>Z99.l1 (mkR (run E (φ 0))) (φ 0) n ll (ll.length:Int) k a) (len:=ll.length) (fun k=>(ll.take k).flatten) (fun _ _ _ _ _=>rfl) (fun k r hk ih=>?_) ?_
  ·simp only[Z99.l1_succ _ qag]
   have:=hle (k+1)
   have e:=hst k hk
   rw[e] at ih this
   rw[List.length_append] at this
   refine qaE (decide_eq_true (by omega)) (qaf (qap hk) (qau (decide_eq_true (by show(_+List.length ll[k])*8≤_;omega)) ?_))
   rw[qah (by omega)]
   exact ih
  ·simp only[Z99.l1_succ _ qag]
   refine qaH (decide_eq_false (by omega)) (qam ?_)
   rw[List.take_of_length_le (Nat.le_refl _)]
def qcq(s:Sim):List Sim:=if 1<s.length then(List.range s.length).map (s.eraseIdx ·) else []
theorem qcM{s f:Sim}:f∈qcq s↔1<s.length∧∃ i,i<s.length∧f=s.eraseIdx i:=by
 unfold qcq
 split
 ·rename_i h
  simp only[List.mem_map,List.mem_range,h,true_and]
  exact⟨fun⟨i,h1,h2⟩=>⟨i,h1,h2.symm⟩,fun⟨i,h1,h2⟩=>⟨i,h1,h2.symm⟩⟩
 ·rename_i h
  simp[h]
theorem qkm{s f:Sim}(h:f∈qcq s):f.length+1=s.length:=by
 obtain⟨h1,i,h2,rfl⟩:=qcM.1 h
 rw[List.length_eraseIdx,if_pos h2];omega
theorem qgy{s:Sim}:(qcq s).length≤s.length:=by
 unfold qcq;split<;>simp
theorem qeU(s:Sim)(hs:s.length≤1048576):Ret E n_Z46 [dL s] ⟨o_Z46,(qcq s,())⟩:=by
 refine qal ?_
 simp only[run_Z46,Z46.ev]
 refine Ev.start (p:=fun φ n=>Z46.l0 (mkR (run E (φ 0))) (φ 0) n s (s.length:Int) 0 []=_) 1 ?_ (fun _ _ _ h=>h)
 by_cases h1:1<s.length
 ·refine qaw 1 (L:=fun φ n k a=>Z46.l0 (mkR (run E (φ 0))) (φ 0) n s (s.length:Int) k a) (len:=s.length) (fun k=>(List.range k).map (s.eraseIdx ·)) (fun _ _ _ _ _=>rfl) (fun k r hk ih=>?_) ?_
  ·simp only[Z46.l0_succ _ qag]
   rw[List.range_succ,List.map_append] at ih
   rw[qah (by omega)]
   simp only[Int.toNat_natCast]
   refine qaE (decide_eq_true (by omega)) (qaE (decide_eq_true (by omega)) (qau (by simp;omega) (qau (by simp;omega) (qaa (qmC _ (by simp) (by simp;omega)) (qau (by simp;omega) ?_)))))
   rw[show [s.take k,s.drop (k+1)].flatten=s.eraseIdx k by simp[List.eraseIdx_eq_take_drop_succ]]
   exact ih
  ·simp only[Z46.l0_succ _ qag]
   exact qaH (decide_eq_false (by omega)) (qam (by rw[qcq,if_pos h1]))
 ·refine qaw 1 (L:=fun φ n k a=>Z46.l0 (mkR (run E (φ 0))) (φ 0) n s (s.length:Int) k a) (len:=s.length) (fun k=>[]) (fun _ _ _ _ _=>rfl) (fun k r hk ih=>?_) ?_
  ·simp only[Z46.l0_succ _ qag]
   rw[qah (by omega)]
   exact qaE (decide_eq_true (by omega)) (qaH (decide_eq_false (by omega)) ih)
  ·simp only[Z46.l0_succ _ qag]
   exact qaH (decide_eq_false (by omega)) (qam (by rw[qcq,if_neg h1]))
def Srt(c:List Sim):Prop:=∀ i j (h:j<c.length) (hij:i<j),qc7 c[i] c[j]<0
theorem qpc{c:List Sim}(h:∀ k,1≤k→k<c.length→qc7 (c.getD (k-1) []) (c.getD k [])<0):Srt c:=by
 intro i j
 induction j with
 | zero=>intro _ h;omega
 | succ j ih =>
  intro hj hij
  have:=h (j+1) (by omega) hj
  rw[Nat.add_sub_cancel,qad (by omega),qad hj] at this
  by_cases e:i=j
  ·subst e;exact this
  ·exact qet (ih (by omega) (by omega)) this
theorem Srt.take{c:List Sim}(h:Srt c)(k:Nat):Srt (c.take k):=by
 intro i j hj hij
 rw[List.getElem_take,List.getElem_take]
 exact h i j (by rw[List.length_take] at hj;omega) hij
def bs(c:List Sim)(s:Sim):Nat:=c.findIdx (fun x=>!decide (qc7 x s<0))
theorem qqE{c:List Sim}{s:Sim}:bs c s≤c.length:=List.findIdx_le_length
theorem qjN{c:List Sim}{s:Sim}(hc:Srt c){t:Nat}(h:t<c.length):t<bs c s↔qc7 c[t] s<0:=by
 constructor
 ·intro ht
  have:=List.not_of_lt_findIdx ht
  simpa using this
 ·intro ht
  refine Classical.byContradiction fun hn=>?_
  have hb:bs c s<c.length:=by omega
  have h1:qc7 c[bs c s] s<0:=by
   by_cases e:bs c s=t
   ·simp only[e];exact ht
   ·exact qet (hc _ _ h (by omega)) ht
  have:=List.findIdx_getElem (w:=hb)
  simp only[Bool.not_eq_true',decide_eq_false_iff_not] at this
  exact this h1
theorem qnq{c:List Sim}{s:Sim}(hc:Srt c):qcF c s=if h:bs c s<c.length∧c.getD (bs c s) []=s then(bs c s:Int) else -1:=by
 have e:c.findIdx? (fun x=>pb (x=s))=if bs c s<c.length∧c.getD (bs c s) []=s then some (bs c s) else none:=by
  split
  ·rename_i h
   obtain⟨h1,h2⟩:=h
   rw[List.findIdx?_eq_some_iff_getElem]
   rw[qad h1] at h2
   refine⟨h1,qaz h2,fun j hj=>?_⟩
   rw[qaV]
   intro he
   have:=(qjN (s:=s) hc (show j<c.length by omega)).1 hj
   rw[he,qca.2 rfl] at this
   omega
  ·rename_i h
   rw[List.findIdx?_eq_none_iff]
   intro x hx
   rw[qcr]
   rintro rfl
   obtain⟨j,hj,rfl⟩:=List.mem_iff_getElem.1 hx
   have h0:¬ j<bs c c[j]:=fun hlt=>by
    have:=(qjN hc hj).1 hlt
    rw[qca.2 rfl] at this;omega
   by_cases hjb:bs c c[j]=j
   ·exact h ⟨by omega,by rw[hjb,qad hj]⟩
   ·have hb:bs c c[j]<c.length:=by omega
    have:=(qjN (s:=c[j]) hc hb).2 (hc _ _ hj (by omega))
    omega
 unfold qcF qgG
 rw[e]
 split<;>rfl
theorem qgA(c:List Sim)(s:Sim)(hc:Sm yK c)(hs:Srt c):Ret E n_Z94 [dLL c,dL s,⟨.fn n_Z35 .nil,()⟩] ⟨o_Z94,((bs c s:Int),pb (bs c s<c.length∧c.getD (bs c s) []=s),())⟩:=by
 have hc1:c.length≤1048576:=hc.1
 refine qal ?_
 simp only[run_Z94,Z95.ev]
 refine Ev.start (p:=fun φ n=>Z95.l0 (mkR (run E (φ 0))) (φ 0) n c s (c.length:Int) 0 (c.length:Int)=_) 1 ?_ (fun _ _ _ h=>h)
 refine qe2 1 (σ:=Nat×Nat) (L:=fun φ n st=>Z95.l0 (mkR (run E (φ 0))) (φ 0) n c s (c.length:Int) (st.1:Int) (st.2:Int)) (fun _ _ _ _=>rfl) (fun st=>st.1≤bs c s∧bs c s≤st.2∧st.2≤c.length) (fun _=>_) (fun st=>st.2-st.1) (fun st hi ih=>?_) (0,c.length) ⟨Nat.zero_le _,qqE,Nat.le_refl _⟩
 obtain⟨i,j⟩:=st
 obtain⟨h1,h2,h3⟩:=hi
 simp only at h1 h2 h3 ih
 simp only[Z95.l0_succ _ qag]
 rw[qrm (by omega)]
 refine qfa (fun hij=>?_) fun hij=>?_
 ·have hh:(i+j) / 2<c.length:=by omega
  refine qau (by decide) (qaf (qap hh) (qaa (qaX _ _ (qbS hc hh)) (qfa (fun hlt=>?_) fun hlt=>?_)))
  ·rw[qah (by omega)]
   have:=(qjN hs hh).2 hlt
   exact ih ((i+j) / 2+1,j) ⟨this,h2,h3⟩ (by simp only;omega)
  ·have:¬ (i+j) / 2<bs c s:=fun h=>hlt ((qjN hs hh).1 h)
   exact ih (i,(i+j) / 2) ⟨h1,by simp only;omega,by simp only;omega⟩ (by simp only;omega)
 ·have e:i=bs c s:=by omega
  subst e
  refine qfa (fun hl=>?_) fun hl=>qam ?_
  ·have hh:bs c s<c.length:=by omega
   refine qaf (qap hh) (qaa (qaX _ _ (qbS hc hh)) (qam ?_))
   have:(qc7 c[bs c s] s==0)=pb (bs c s<c.length∧c.getD (bs c s) []=s):=qjS (by
    rw[qad hh,beq_iff_eq,qca];exact⟨fun h=>⟨hh,h⟩,fun h=>h.2⟩)
   rw[this]
  ·rw[qat fun h=>hl (by omega)]
theorem qeL(c:List Sim)(s:Sim)(hc:Sm yK c)(hs:Srt c):Ret E n_Z56 [dLL c,dL s] ⟨o_Z56,(qcF c s,())⟩:=by
 refine qal ?_
 simp only[run_Z56,Z56.ev]
 refine qaa (qgA c s hc hs) (qdR (fun h=>qam ?_) fun h=>qam ?_)
 ·rw[qnq hs,dif_neg (qcr.1 (by simpa using h))]
 ·rw[qnq hs,dif_pos (qaV.1 (by simpa using h))]
end VeT
open Go Go.Proofs Ve
namespace VeT
def VC(c:List Sim):Prop:=c.length≤48∧(∀ k,k<c.length→Vx (c.getD k []))∧(∀ k,1≤k→k<c.length→qc7 (c.getD (k-1) []) (c.getD k [])<0)∧∀ k,k<c.length→∀ f∈qcq (c.getD k []),f∈c
theorem VC.srt{c:List Sim}(h:VC c):Srt c:=qpc h.2.2.1
def qkD(c:List Sim)(k:Nat):Prop:=(Vx (c.getD k [])∧(1≤k→qc7 (c.getD (k-1) []) (c.getD k [])<0))∧∀ f∈qcq (c.getD k []),f∈c.take k
theorem qp7{c:List Sim}:((∀ k,0≤k→k<c.length→qkD c k)∧c.length≤48)↔VC c:=by
 constructor
 ·rintro⟨h,hl⟩
  exact⟨hl,fun k hk=>(h k (by omega) hk).1.1,fun k h1 hk=>(h k (by omega) hk).1.2 h1,fun k hk f hf=>List.mem_of_mem_take ((h k (by omega) hk).2 f hf)⟩
 ·intro h
  have hs:=h.srt
  obtain⟨hl,h1,h2,h3⟩:=h
  refine⟨fun k _ hk=>⟨⟨h1 k hk,fun hk1=>h2 k hk1 hk⟩,fun f hf=>?_⟩,hl⟩
  have hm:=h3 k hk f hf
  have hlen:=qkm hf
  rw[qad hk] at hlen
  obtain⟨i,hi,rfl⟩:=List.mem_iff_getElem.1 hm
  have hlt:qc7 c[i] c[k]<0:=qhT.2 (.inl (by omega))
  have hik:i<k:=Classical.byContradiction fun hn=>by
   by_cases e:i=k
   ·subst e;omega
   ·have:=hs k i hi (by omega)
    rw[qi1] at this;omega
  exact List.mem_iff_getElem.2 ⟨i,by rw[List.length_take];omega,by rw[List.getElem_take]⟩
theorem qpP{t:Ty}{s:List t.T}(h:Sm (.sl t) s)(k:Nat):Sm (.sl t) (s.take k):=⟨by have h1:s.length≤1048576:=h.1;show(s.take k).length≤_;rw[List.length_take];omega,fun x hx=>h.2 x (List.mem_of_mem_take hx)⟩
theorem qff(c:List Sim)(f:Sim)(k:Nat)(hk:k≤c.length)(hc:Sm yK c)(hs:Srt (c.take k)) :
  Ret E n_Z18 [dL f,dC (c,()),⟨.ptr (.cons yI .nil),((k:Int),())⟩] ⟨o_Z18,(pb (¬ f∈c.take k),())⟩:=by
 refine qal ?_
 simp only[run_Z18,Z18.ev]
 simp only[Int.toNat_natCast]
 refine qau (by simp;omega) (qaa (qeL _ f (qpP hc k) hs) (qam ?_))
 simp only[qei,qaP (show qcF (c.take k) f<0↔¬ f∈c.take k by rw[← qaT];omega)]
theorem qbV(c:List Sim)(hc:Sm yK c):Ret E n_Z17 [dLL c] ⟨o_Z17,(pb (VC c),())⟩:=by
  have hc1:c.length≤1048576:=hc.1
  refine qal ?_
  simp only[run_Z17,Z17.ev]
  refine Ev.start (p:=fun φ n=>Z17.l0 (mkR (run E (φ 0))) (φ 0) n c (c.length:Int) 0 c=_) 1 ?_ (fun _ _ _ h=>h)
  have key:∀(n:Nat) (k:Nat) (hk:k<c.length) (hpre:∀ j,0≤j→j<k→qkD c j),Srt (c.take k):=fun n k hk hpre=>qpc fun j h1 h2=>by
    rw[List.length_take] at h2
    have:=(hpre j (by omega) (by omega)).1.2 h1
    rw[qad (by omega),qad (by omega)] at this
    rw[qad (by rw[List.length_take];omega),qad (by rw[List.length_take];omega),List.getElem_take,List.getElem_take]
    exact this
  have hcon:∀(k:Nat) (hk:k<c.length) (hpre:∀ j,0≤j→j<k→qkD c j),Ret E n_Z100 [dLL (qcq c[k]),⟨.fn n_Z18 (.cons (.ptr yC) (.cons (.ptr (.cons yI .nil)) .nil)),((c,()),((k:Int),()),())⟩] ⟨o_Z100,(pb (∃ x∈qcq c[k],pb (¬ x∈c.take k)=true),())⟩:=fun k hk hpre =>
    qa0 (qcq c[k]) ((c,()),((k:Int),()),()) _ (Nat.le_trans qgy (qbS hc hk).1) fun x hx=>qff c x k (by omega) hc (key 0 k hk hpre)
  refine(qfo 1 (L:=fun φ n k=>Z17.l0 (mkR (run E (φ 0))) (φ 0) n c (c.length:Int) k c) (len:=c.length) 0 (by omega) (qkD c) (fun b=>some ⟨o_Z17,(b&&decide ((c.length:Int)≤48),())⟩) (fun _ _ _ _=>rfl) (fun k h1 h2 hP hpre=>?_) (fun k r h1 h2 hP hpre ih=>?_) (fun _=>?_)).to ?_
  · simp only[Z17.l0_succ _ qag]
    refine qaE (decide_eq_true (by omega)) (qaf (qap h2) (qaa (qdQ _ (qbS hc h2)) ?_))
    refine qdR (fun hv=>?_) fun hv=>?_
    · simp only[Z17.j1_eq _ qag,cond_true];(first | exact qan | exact Ev.of fun _=>trivial)
    · have hv:Vx c[k]:=qaV.1 (by simpa using hv)
      have last:(1≤k→qc7 (c.getD (k-1) []) (c.getD k [])<0)→Ev fun φ=>Z17.j1 (mkR (run E (φ 0))) (φ 0) (φ 1) c[k] c (c.length:Int) (k:Int) false c (k:Int)=some ⟨o_Z17,(false,())⟩:=fun hcm=>by
        simp only[Z17.j1_eq _ qag,cond_false]
        refine qaa (qeU _ (qbS hc h2).1) (qaa (hcon k h2 hpre) (qaE ?_ qan))
        refine qaz (Classical.byContradiction fun hn=>hP ⟨⟨by rw[qad h2];exact hv,hcm⟩,fun f hf=>Classical.byContradiction fun hnf=>hn ⟨f,by rw[qad h2] at hf;exact hf,qaz hnf⟩⟩)
      refine qfa (fun hk=>?_) fun hk=>?_
      · rw[qai (by omega) (by omega),show((k:Int)-1)=((k-1:Nat):Int) by omega]
        have hk1:k-1<c.length:=by omega
        refine qaf (qap hk1) (qaa (qaX _ _ (qbS hc hk1)) ?_)
        by_cases hcm:qc7 c[k-1] c[k]<0
        · simp only[show decide (qc7 c[k-1] c[k]≥0)=false from decide_eq_false (by omega)]
          exact last fun _=>by rw[qad hk1,qad h2];exact hcm
        · simp only[show decide (qc7 c[k-1] c[k]≥0)=true from decide_eq_true (by omega),Z17.j1_eq _ qag,cond_true]
          (first | exact qan | exact Ev.of fun _=>trivial)
      · exact last fun h=>absurd h (by omega)
  · simp only[Z17.l0_succ _ qag]
    have hP':=hP
    obtain⟨⟨hv,hcm⟩,hfc⟩:=hP'
    rw[qad h2] at hv hfc
    refine qaE (decide_eq_true (by omega)) (qaf (qap h2) (qaa (qdQ _ (qbS hc h2)) (qaH (by rw[qaz hv];rfl) ?_)))
    have last:Ev fun φ=>Z17.j1 (mkR (run E (φ 0))) (φ 0) (φ 1) c[k] c (c.length:Int) (k:Int) false c (k:Int)=r:=by
      simp only[Z17.j1_eq _ qag,cond_false]
      refine qaa (qeU _ (qbS hc h2).1) (qaa (hcon k h2 hpre) (qaH ?_ ?_))
      · exact qat fun⟨x,hx,hn⟩=>qaV.1 hn (hfc x hx)
      · rw[qah (by omega)];exact ih
    refine qfa (fun hk=>?_) fun hk=>last
    rw[qai (by omega) (by omega),show((k:Int)-1)=((k-1:Nat):Int) by omega]
    have hk1:k-1<c.length:=by omega
    have hcm:=hcm (by omega)
    rw[qad hk1,qad h2] at hcm
    refine qaf (qap hk1) (qaa (qaX _ _ (qbS hc hk1)) ?_)
    simp only[show decide (qc7 c[k-1] c[k]≥0)=false from decide_eq_false (by omega)]
    exact last
  · simp only[Z17.l0_succ _ qag]
    exact qaH (decide_eq_false (by omega)) (qam (by rw[Bool.true_and]))
  · have:(pb (∀ j,0≤j→j<c.length→qkD c j)&&decide ((c.length:Int)≤48))=pb (VC c):=qjS (by
      rw[Bool.and_eq_true,qaV,decide_eq_true_iff,← qp7]
      exact⟨fun h=>⟨h.1,by omega⟩,fun h=>⟨h.1,by omega⟩⟩)
    rw[this]
def qpg(c:List Sim)(k:Nat):Prop:=(Vx (c.getD k [])∧(1≤k→qc7 (c.getD (k-1) []) (c.getD k [])<0))∧∀ f∈qcq (c.getD k []),f∈c
theorem qnY(c:Cpx)(hc:Sm yK c.1):Ret E n_Z150 [dC c] ⟨o_Z150,(pb (VC c.1),())⟩:=by
  have hc1:c.1.length≤1048576:=hc.1
  refine qal ?_
  simp only[run_Z150,Z150.ev]
  refine qfa (fun h=>qam ?_) fun h48=>?_
  · rw[qat fun hv=>by have:=hv.1;omega]
  refine Ev.start (p:=fun φ n=>Z150.l0 (mkR (run E (φ 0))) (φ 0) n c 0=_) 1 ?_ (fun _ _ _ h=>h)
  -- the inner loop
  have inner:∀(k:Nat) (h2:k<c.1.length) (r:Option Dv),((∀ f∈qcq c.1[k],f∈c.1)→Ev fun φ=>Z150.l0 (mkR (run E (φ 0))) (φ 0) (φ 1) c ((k+1:Nat):Int)=r)→(¬ (∀ f∈qcq c.1[k],f∈c.1)→r=some ⟨o_Z150,(false,())⟩)→Ev fun φ=>Z150.l2 (mkR (run E (φ 0))) (φ 0) (φ 1) (φ 0) c (k:Int) c.1[k] 0=r:=fun k h2 r hgo hstop=>by
    have hks:(c.1[k]).length≤1048576:=(qbS hc h2).1
    refine Ev.start (p:=fun φ n=>Z150.l2 (mkR (run E (φ 0))) (φ 0) (φ 1) n c (k:Int) c.1[k] 0=_) 2 ?_ (fun _ _ _ h=>h)
    by_cases hlen:1<(c.1[k]).length
    · obtain⟨t,f⟩:=qlO 2 (L:=fun φ n i=>Z150.l2 (mkR (run E (φ 0))) (φ 0) (φ 1) n c (k:Int) c.1[k] i) (len:=(c.1[k]).length) 0 (by omega) (fun i=>(c.1[k]).eraseIdx i∈c.1) (rt:=r) (rf:=some ⟨o_Z150,(false,())⟩) (fun _ _ _ _=>rfl) (fun i _ hi hP _=>by
        simp only[Z150.l2_succ _ qag]
        refine qaE (decide_eq_true (by omega)) ?_
        simp only[show decide (((c.1[k]).length:Int)>1)=true from decide_eq_true (by omega),Z150.j3_eq _ qag,cond_true]
        refine qaa (qeS _ i hi hks) (qaa (qcj c _ hc) (qaE (decide_eq_true ?_) qan))
        have hq:=mt (qaT (c:=c.1) (s:=(c.1[k]).eraseIdx i)).1 hP;simp only;exact Int.not_le.1 hq) (fun i q _ hi hP _ ih=>by
        simp only[Z150.l2_succ _ qag]
        refine qaE (decide_eq_true (by omega)) ?_
        simp only[show decide (((c.1[k]).length:Int)>1)=true from decide_eq_true (by omega),Z150.j3_eq _ qag,cond_true]
        refine qaa (qeS _ i hi hks) (qaa (qcj c _ hc) (qaH (decide_eq_false ?_) ?_))
        · have hq:=(qaT (c:=c.1) (s:=(c.1[k]).eraseIdx i)).2 hP;simp only;exact Int.not_lt.2 hq
        · rw[qah (by omega)];exact ih) (fun hall=>by
        simp only[Z150.l2_succ _ qag]
        refine qaH (decide_eq_false (by omega)) ?_
        simp only[Z150.j3_eq _ qag,cond_false]
        rw[qah (by omega)]
        exact hgo fun f hf=>by
          obtain⟨_,i,hi,rfl⟩:=qcM.1 hf
          exact hall i (by omega) hi)
      by_cases hall:∀ i,0≤i→i<(c.1[k]).length→(c.1[k]).eraseIdx i∈c.1
      · exact t hall
      · rw[hstop fun hf=>hall fun i _ hi=>hf _ (qcM.2 ⟨hlen,i,hi,rfl⟩)]
        exact f hall
    · refine Ev.round 2 (L:=fun φ n=>Z150.l2 (mkR (run E (φ 0))) (φ 0) (φ 1) n c (k:Int) c.1[k] 0) ?_ (fun _ _ _=>rfl)
      have hgo:=hgo fun f hf=>absurd (qcM.1 hf).1 hlen
      have hj:Ev fun φ=>Z150.j3 (mkR (run E (φ 0))) (φ 0) (φ 1) (φ 2) c (k:Int) c.1[k] 0 false=r:=by
        simp only[Z150.j3_eq _ qag,cond_false]
        rw[qah (by omega)];exact hgo
      simp only[Z150.l2_succ _ qag]
      refine qfa (fun _=>?_) fun _=>hj
      simp only[show decide (((c.1[k]).length:Int)>1)=false from decide_eq_false (by omega)]
      exact hj
  refine(qfo 1 (L:=fun φ n k=>Z150.l0 (mkR (run E (φ 0))) (φ 0) n c k) (len:=c.1.length) 0 (by omega) (qpg c.1) (fun b=>some ⟨o_Z150,(b,())⟩) (fun _ _ _ _=>rfl) (fun k h1 h2 hP hpre=>?_) (fun k r h1 h2 hP hpre ih=>?_) (fun _=>?_)).to ?_
  · simp only[Z150.l0_succ _ qag]
    refine qaE (decide_eq_true (by omega)) (qaf (qap h2) (qaa (qeD _ (qbS hc h2)) ?_))
    refine qdR (fun hv=>?_) fun hv=>?_
    · simp only[Z150.j1_eq _ qag,cond_true];(first | exact qan | exact Ev.of fun _=>trivial)
    · have hv:Vx c.1[k]:=qaV.1 (by simpa using hv)
      have last:(1≤k→qc7 (c.1.getD (k-1) []) (c.1.getD k [])<0)→Ev fun φ=>Z150.j1 (mkR (run E (φ 0))) (φ 0) (φ 1) c (k:Int) c.1[k] false=some ⟨o_Z150,(false,())⟩:=fun hcm=>by
        simp only[Z150.j1_eq _ qag,cond_false]
        refine inner k h2 _ (fun hf=>absurd ⟨⟨by rw[qad h2];exact hv,hcm⟩,by rw[qad h2];exact hf⟩ hP) fun _=>rfl
      refine qfa (fun hk=>?_) fun hk=>?_
      · rw[qai (by omega) (by omega),show((k:Int)-1)=((k-1:Nat):Int) by omega]
        have hk1:k-1<c.1.length:=by omega
        refine qaf (qap hk1) (qaa (qcB _ _ (qbS hc hk1)) ?_)
        by_cases hcm:qc7 c.1[k-1] c.1[k]<0
        · simp only[qaz hcm]
          exact last fun _=>by rw[qad hk1,qad h2];exact hcm
        · simp only[qat hcm,Z150.j1_eq _ qag,cond_true,Bool.not_false]
          (first | exact qan | exact Ev.of fun _=>trivial)
      · exact last fun h=>absurd h (by omega)
  · simp only[Z150.l0_succ _ qag]
    obtain⟨⟨hv,hcm⟩,hfc⟩:=hP
    rw[qad h2] at hv hfc
    refine qaE (decide_eq_true (by omega)) (qaf (qap h2) (qaa (qeD _ (qbS hc h2)) (qaH (by rw[qaz hv];rfl) ?_)))
    have last:Ev fun φ=>Z150.j1 (mkR (run E (φ 0))) (φ 0) (φ 1) c (k:Int) c.1[k] false=r:=by
      simp only[Z150.j1_eq _ qag,cond_false]
      exact inner k h2 _ (fun _=>ih) fun hn=>absurd hfc hn
    refine qfa (fun hk=>?_) fun hk=>last
    rw[qai (by omega) (by omega),show((k:Int)-1)=((k-1:Nat):Int) by omega]
    have hk1:k-1<c.1.length:=by omega
    have hcm:=hcm (by omega)
    rw[qad hk1,qad h2] at hcm
    refine qaf (qap hk1) (qaa (qcB _ _ (qbS hc hk1)) ?_)
    simp only[qaz hcm,Bool.not_true]
    exact last
  · simp only[Z150.l0_succ _ qag]
    exact qaH (decide_eq_false (by omega)) qan
  · have:pb (∀ j,0≤j→j<c.1.length→qpg c.1 j)=pb (VC c.1):=qaP
      ⟨fun h=>⟨by omega,fun k hk=>(h k (by omega) hk).1.1,fun k h1 hk=>(h k (by omega) hk).1.2 h1,fun k hk=>(h k (by omega) hk).2⟩,
       fun h k _ hk=>⟨⟨h.2.1 k hk,fun h1=>h.2.2.1 k h1 hk⟩,h.2.2.2 k hk⟩⟩
    rw[this]
end VeT
open Go Go.Proofs Ve
namespace VeT
def Pr(p:Int):Prop:=2≤p∧p≤251∧∀ k:Nat,2≤k→(k:Int)*k≤p→p%k≠0
theorem qbT(p:Int):Ret E n_Z20 [dI p] ⟨o_Z20,(pb (Pr p),())⟩:=by
  refine qal ?_
  simp only[run_Z20,Z20.ev]
  refine qaa (qbI _ _ _) (qdR (fun h=>qam ?_) fun h=>?_)
  · have h:¬ (2≤p∧p≤251):=qcr.1 (by simpa using h)
    rw[qat fun hp=>h ⟨hp.1,hp.2.1⟩]
  have hr:2≤p∧p≤251:=qaV.1 (by simpa using h)
  refine Ev.start (p:=fun φ n=>Z20.l0 (mkR (run E (φ 0))) (φ 0) n p 2=_) 1 ?_ (fun _ _ _ h=>h)
  refine qe2 1 (σ:=Nat) (L:=fun φ n k=>Z20.l0 (mkR (run E (φ 0))) (φ 0) n p (k:Int)) (fun _ _ _ _=>rfl) (fun k=>2≤k∧k≤17∧∀ j:Nat,2≤j→j<k→(j:Int)*j≤p→p%j≠0) (fun _=>_) (fun k=>17-k) (fun k ⟨h1,h2,h3⟩ ih=>?_) 2 ⟨by omega,by omega,fun j _ _=>by omega⟩
  simp only[Z20.l0_succ _ qag]
  have hkk:0≤(k:Int)*k∧(k:Int)*k≤289:=⟨Int.mul_nonneg (by omega) (by omega),by have:=Nat.mul_le_mul h2 h2;omega⟩
  have e:w64 ((k:Int)*k)=(k:Int)*k:=qai (by omega) (by omega)
  simp only[e]
  refine qfa (fun hle=>?_) fun hle=>qam ?_
  · have hk16:k<16:=Classical.byContradiction fun hn=>by
      have:=Nat.mul_le_mul (show 16≤k by omega) (show 16≤k by omega);omega
    refine qau (by simp;omega) ?_
    rw[Int.tmod_eq_emod_of_nonneg (by omega)]
    refine qdR (fun h0=>qam ?_) fun h0=>?_
    · rw[qat fun hp=>hp.2.2 k h1 hle (by simpa using h0)]
    · rw[qah (by omega)]
      refine ih (k+1) ⟨by omega,by omega,fun j hj1 hj2 hj3=>?_⟩ (by show 17-(k+1)<17-k;omega)
      by_cases hjk:j=k
      · subst hjk;simpa using h0
      · exact h3 j hj1 (by omega) hj3
  · rw[qaz]
    refine⟨hr.1,hr.2,fun j hj1 hj2=>?_⟩
    by_cases hjk:j<k
    · exact h3 j hj1 hjk hj2
    · exfalso
      have:=Nat.mul_le_mul (show k≤j by omega) (show k≤j by omega);omega
theorem qkd(p:Int):Ret E n_Z140 [dI p] ⟨o_Z140,(pb (Pr p),())⟩:=by
  refine qal ?_
  simp only[run_Z140,Z140.ev]
  refine qaa (qdr _ _ _) (qdR (fun h=>qam ?_) fun h=>?_)
  · have h:¬ (2≤p∧p≤251):=qcr.1 (by simpa using h)
    rw[qat fun hp=>h ⟨hp.1,hp.2.1⟩]
  have hr:2≤p∧p≤251:=qaV.1 (by simpa using h)
  refine Ev.start (p:=fun φ n=>Z140.l0 (mkR (run E (φ 0))) (φ 0) n p 2=_) 1 ?_ (fun _ _ _ h=>h)
  refine qe2 1 (σ:=Nat) (L:=fun φ n k=>Z140.l0 (mkR (run E (φ 0))) (φ 0) n p (k:Int)) (fun _ _ _ _=>rfl) (fun k=>2≤k∧k≤17∧∀ j:Nat,2≤j→j<k→(j:Int)*j≤p→p%j≠0) (fun _=>_) (fun k=>17-k) (fun k ⟨h1,h2,h3⟩ ih=>?_) 2 ⟨by omega,by omega,fun j _ _=>by omega⟩
  simp only[Z140.l0_succ _ qag]
  have hkk:0≤(k:Int)*k∧(k:Int)*k≤289:=⟨Int.mul_nonneg (by omega) (by omega),by have:=Nat.mul_le_mul h2 h2;omega⟩
  have e:w64 ((k:Int)*k)=(k:Int)*k:=qai (by omega) (by omega)
  simp only[e]
  refine qfa (fun hle=>?_) fun hle=>qam ?_
  · have hk16:k<16:=Classical.byContradiction fun hn=>by
      have:=Nat.mul_le_mul (show 16≤k by omega) (show 16≤k by omega);omega
    refine qau (by simp;omega) ?_
    rw[Int.tmod_eq_emod_of_nonneg (by omega)]
    refine qdR (fun h0=>qam ?_) fun h0=>?_
    · rw[qat fun hp=>hp.2.2 k h1 hle (by simpa using h0)]
    · rw[qah (by omega)]
      refine ih (k+1) ⟨by omega,by omega,fun j hj1 hj2 hj3=>?_⟩ (by show 17-(k+1)<17-k;omega)
      by_cases hjk:j=k
      · subst hjk;simpa using h0
      · exact h3 j hj1 (by omega) hj3
  · rw[qaz]
    refine⟨hr.1,hr.2,fun j hj1 hj2=>?_⟩
    by_cases hjk:j<k
    · exact h3 j hj1 hjk hj2
    · exfalso
      have:=Nat.mul_le_mul (show k≤j by omega) (show k≤j by omega);omega
def qbl(v:Sim)(p:Int):Prop:=∀ x∈v,0≤x∧x≤p-1
theorem qje(a p:Int)(hp:0≤p∧p≤1048576):Ret E n_Z59 [dI a,dI p] ⟨o_Z59,(pb (0≤a∧a≤p-1),())⟩:=by
 refine qal ?_
 simp only[run_Z59,Z59.ev]
 rw[qai (by omega) (by omega)]
 exact qaa (qbI _ _ _) qan
theorem qf8(a p:Int)(hp:0≤p∧p≤1048576):Ret E n_Z27 [dI a,⟨.ptr (.cons yI .nil),(p,())⟩] ⟨o_Z27,(!pb (0≤a∧a≤p-1),())⟩:=by
 refine qal ?_
 simp only[run_Z27,Z27.ev]
 exact qaa (qje _ _ hp) qan
theorem qgY{α:Type}{s:List α}{P:α→Prop}:(!pb (∃ x∈s,(!pb (P x))=true))=pb (∀ x∈s,P x):=qjS (by
 simp only[Bool.not_eq_true',qcr]
 exact⟨fun h x hx=>Classical.byContradiction fun hn=>h ⟨x,hx,hn⟩,fun h ⟨x,hx,hn⟩=>hn (h x hx)⟩)
theorem qhI(v:Sim)(p:Int)(hv:v.length≤1048576)(hp:0≤p∧p≤1048576):Ret E n_Z26 [dL v,dI p] ⟨o_Z26,(pb (qbl v p),())⟩:=by
 refine qal ?_
 simp only[run_Z26,Z26.ev]
 refine qaa (qbd v ((p,()),()) _ hv fun x _=>qf8 x p hp) (qam ?_)
 simp only[qgY];rfl
theorem qiv(n:Int):Ret E n_Z61 [dI n] ⟨o_Z61,(pb (0≤n∧n≤32),())⟩:=by
 refine qal ?_
 simp only[run_Z61,Z61.ev]
 exact qaa (qbI _ _ _) qan
theorem qfI(s:Sim):Ret E n_Z79 [dL s] ⟨o_Z79,((s.length:Int),())⟩:=by
 refine qal ?_
 simp only[run_Z79,Z79.ev]
 (first | exact qan | exact Ev.of fun _=>trivial)
theorem qhM(s:List Sim):Ret E n_Z78 [dLL s] ⟨o_Z78,((s.length:Int),())⟩:=by
 refine qal ?_
 simp only[run_Z78,Z78.ev]
 (first | exact qan | exact Ev.of fun _=>trivial)
def VM(m:Mat):Prop:=Pr m.1∧(0≤m.2.1∧m.2.1≤32)∧(0≤m.2.2.1∧m.2.2.1≤32)∧(m.2.2.2.1.length:Int)=m.2.1*m.2.2.1∧qbl m.2.2.2.1 m.1
theorem qlZ{a b:Int}(ha:0≤a∧a≤32)(hb:0≤b∧b≤32):0≤a*b∧a*b≤1024:=by
 obtain⟨x,rfl⟩:=Int.eq_ofNat_of_zero_le ha.1
 obtain⟨y,rfl⟩:=Int.eq_ofNat_of_zero_le hb.1
 have:=Nat.mul_le_mul (show x≤32 by omega) (show y≤32 by omega)
 have e:(x:Int)*y=((x*y:Nat):Int):=by simp
 show 0≤(x:Int)*y∧(x:Int)*y≤1024
 rw[e];omega
theorem qg3(m:Mat)(hm:Sm (.st cM) m):Ret E n_Z19 [dI m.1,dI m.2.1,dI m.2.2.1,dL m.2.2.2.1] ⟨o_Z19,(pb (VM m),())⟩:=by
 have hl:m.2.2.2.1.length≤1048576:=hm.2.2.2.1.1
 refine qal ?_
 simp only[run_Z19,Z19.ev]
 refine qaa (qbT _) (qdR (fun h1=>qaa (qiv _) (qdR (fun h2=>qaa (qiv _) (qdR (fun h3=>qaa (qfI _) (qdR (fun h4=>?_) fun h4=>qam ?_)) fun h3=>qam ?_)) fun h2=>qam ?_)) fun h1=>qam ?_)
 ·have h1:=qaV.1 h1;have h2:=qaV.1 h2;have h3:=qaV.1 h3
  have:=qlZ h2 h3
  rw[qai (by omega) (by omega)] at h4
  refine qaa (qhI _ _ hl ⟨by have:=h1.1;omega,by have:=h1.2.1;omega⟩) (qam ?_)
  exact congrArg (fun b:Bool=>some (⟨o_Z19,(b,())⟩:Dv)) (qaP ⟨fun h=>⟨h1,h2,h3,by simpa using h4,h⟩,fun h=>h.2.2.2.2⟩)
 ·have h2:=qaV.1 h2;have h3:=qaV.1 h3
  have:=qlZ h2 h3
  rw[qai (by omega) (by omega)] at h4
  rw[qat fun h=>by have:=h.2.2.2.1;simp[this] at h4]
 ·rw[qat fun h=>qcr.1 h3 h.2.2.1]
 ·rw[qat fun h=>qcr.1 h2 h.2.1]
 ·rw[qat fun h=>qcr.1 h1 h.1]
def Bt(m:Mat)(p f t:Int):Prop:=VM m∧m.1=p∧m.2.1=t∧m.2.2.1=f
theorem qfG(m:Mat)(p f t:Int)(hm:Sm (.st cM) m):Ret E n_Z58 [dI m.1,dI m.2.1,dI m.2.2.1,dL m.2.2.2.1,dI p,dI f,dI t] ⟨o_Z58,(pb (Bt m p f t),())⟩:=by
 refine qal ?_
 simp only[run_Z58,Z58.ev]
 refine qaa (qg3 m hm) (qdR (fun h1=>qdR (fun h2=>qdR (fun h3=>qam ?_) fun h3=>qam ?_) fun h2=>qam ?_) fun h1=>qam ?_)
 ·have h1:=qaV.1 h1
  have:(m.2.2.1==f)=pb (Bt m p f t):=qjS (by
   rw[beq_iff_eq];exact⟨fun h=>⟨h1,by simpa using h2,by simpa using h3,h⟩,fun h=>h.2.2.2⟩)
  rw[this]
 ·rw[qat fun h=>by have:=h.2.2.1;simp[this] at h3]
 ·rw[qat fun h=>by have:=h.2.1;simp[this] at h2]
 ·rw[qat fun h=>qcr.1 h1 h.1]
def qaq(c:List Sim)(d:Int)(k:Nat):List Int:=((List.range k).filter fun i=>decide (((c.getD i []).length:Int)=d+1)).map Int.ofNat
theorem qbJ(c:List Sim)(d:Int)(k:Nat):qaq c d (k+1)=qaq c d k++if ((c.getD k []).length:Int)=d+1 then [(k:Int)] else []:=by
 unfold qaq
 rw[List.range_succ,List.filter_append,List.map_append]
 congr 1
 by_cases h:((c.getD k []).length:Int)=d+1
 ·rw[if_pos h,List.filter_cons_of_pos (by simpa using h)];rfl
 ·rw[if_neg h,List.filter_cons_of_neg (by simpa using h)];rfl
theorem qbF(c:List Sim)(d:Int)(k:Nat):(qaq c d k).length≤k:=by
 unfold qaq
 rw[List.length_map]
 exact Nat.le_trans (List.length_filter_le _ _) (by simp)
theorem qdn{c:List Sim}{d:Int}{k:Nat}{x:Int}(h:x∈qaq c d k):∃ i:Nat,x=i∧i<k:=by
 unfold qaq at h
 rw[List.mem_map] at h
 obtain⟨i,hi,rfl⟩:=h
 exact⟨i,rfl,by have:=(List.mem_filter.1 hi).1;simpa using this⟩
theorem qb9(c:List Sim)(d:Int)(hc:Sm yK c)(hd:-1≤d∧d≤1048576):Ret E n_Z77 [dLL c,dI d] ⟨o_Z77,(qaq c d c.length,())⟩:=by
 have hc1:c.length≤1048576:=hc.1
 have hd1:w64 (d+1)=d+1:=qai (by omega) (by omega)
 refine qal ?_
 simp only[run_Z77,Z77.ev]
 refine Ev.start (p:=fun φ n=>Z77.l0 (mkR (run E (φ 0))) (φ 0) n d c (c.length:Int) 0 []=_) 1 ?_ (fun _ _ _ h=>h)
 refine qaw 1 (L:=fun φ n k a=>Z77.l0 (mkR (run E (φ 0))) (φ 0) n d c (c.length:Int) k a) (len:=c.length) (fun k=>qaq c d k) (fun _ _ _ _ _=>rfl) (fun k r hk ih=>?_) ?_
 ·simp only[Z77.l0_succ _ qag,hd1]
  rw[qbJ,qad hk] at ih
  have hlen:=qbF c d k
  refine qaE (decide_eq_true (by omega)) (qaf (qap hk) (qaa (qfI _) ?_))
  rw[qah (by omega)]
  refine qdR (fun he=>qau (decide_eq_true (by simp only[List.length_cons,List.length_nil];omega)) ?_) fun he=>?_
  ·rw[if_pos (by simpa using he)] at ih;exact ih
  ·rw[if_neg (by simpa using he),List.append_nil] at ih;exact ih
 ·simp only[Z77.l0_succ _ qag]
  exact qaH (decide_eq_false (by omega)) qan
theorem qmW(c:List Sim)(d:Int)(hc:Sm yK c)(hd:-1≤d∧d≤1048576):Ret E n_Z149 [dC (c,()),dI d] ⟨o_Z149,(qaq c d c.length,())⟩:=by
 have hc1:c.length≤1048576:=hc.1
 have hd1:w64 (d+1)=d+1:=qai (by omega) (by omega)
 refine qal ?_
 simp only[run_Z149,Z149.ev]
 refine Ev.start (p:=fun φ n=>Z149.l0 (mkR (run E (φ 0))) (φ 0) n (c,()) d 0 []=_) 1 ?_ (fun _ _ _ h=>h)
 refine qaw 1 (L:=fun φ n k a=>Z149.l0 (mkR (run E (φ 0))) (φ 0) n (c,()) d k a) (len:=c.length) (fun k=>qaq c d k) (fun _ _ _ _ _=>rfl) (fun k r hk ih=>?_) ?_
 ·simp only[Z149.l0_succ _ qag,hd1]
  rw[qbJ,qad hk] at ih
  have hlen:=qbF c d k
  refine qaE (decide_eq_true (by omega)) (qaf (qap hk) ?_)
  rw[qah (by omega)]
  refine qdR (fun he=>qau (decide_eq_true (by simp only[List.length_cons,List.length_nil];omega)) ?_) fun he=>?_
  ·rw[if_pos (by simpa using he)] at ih;exact ih
  ·rw[if_neg (by simpa using he),List.append_nil] at ih;exact ih
 ·simp only[Z149.l0_succ _ qag]
  exact qaH (decide_eq_false (by omega)) qan
def qjP(c:List Sim)(st:Sim)(d:Int)(k:Nat):Int:=(((qaq c d c.length).take k).map fun i=>st.getD i.toNat 0).sum
theorem qhK(c:List Sim)(st:Sim)(d:Int)(k:Nat)(h:k<(qaq c d c.length).length):qjP c st d (k+1)=qjP c st d k+st.getD ((qaq c d c.length)[k]).toNat 0:=by
 unfold qjP
 rw[List.take_succ_eq_append_getElem h,List.map_append,List.sum_append]
 simp
theorem qla{c:List Sim}{st:Sim}(hst:∀ x∈st,0≤x∧x≤3)(d:Int)(k:Nat):0≤qjP c st d k∧qjP c st d k≤3*k:=by
  induction k with
  | zero=>simp[qjP]
  | succ k ih =>
    by_cases h:k<(qaq c d c.length).length
    · rw[qhK _ _ _ _ h]
      have:0≤st.getD ((qaq c d c.length)[k]).toNat 0∧st.getD ((qaq c d c.length)[k]).toNat 0≤3:=by
        by_cases hl:((qaq c d c.length)[k]).toNat<st.length
        · rw[qad hl];exact hst _ (List.getElem_mem hl)
        · rw[List.getD_eq_getElem?_getD,List.getElem?_eq_none (by omega)];simp
      omega
    · have:qjP c st d (k+1)=qjP c st d k:=by
        unfold qjP
        rw[List.take_of_length_le (by omega),List.take_of_length_le (by omega)]
      omega
theorem qc9(c:List Sim)(st:Sim)(d:Int)(p:Int)(ms:List Mat)(hc:Sm yK c)(hl:st.length=c.length)(hst:∀ x∈st,0≤x∧x≤3)(hd:-1≤d∧d≤1048576) :
  Ret E n_Z81 [dLL c,dI p,dL st,dMs ms,dI d] ⟨o_Z81,(qjP c st d (qaq c d c.length).length,())⟩:=by
 have hc1:c.length≤1048576:=hc.1
 have hol:=qbF c d c.length
 refine qal ?_
 simp only[run_Z81,Z81.ev]
 refine qaa (qb9 c d hc hd) ?_
 refine Ev.start (p:=fun φ n=>Z81.l0 (mkR (run E (φ 0))) (φ 0) n 0 (qaq c d c.length) ((qaq c d c.length).length:Int) 0 c p st ms=_) 1 ?_ (fun _ _ _ h=>h)
 refine qaw 1 (L:=fun φ n k a=>Z81.l0 (mkR (run E (φ 0))) (φ 0) n a (qaq c d c.length) ((qaq c d c.length).length:Int) k c p st ms) (len:=(qaq c d c.length).length) (fun k=>qjP c st d k) (fun _ _ _ _ _=>rfl) (fun k r hk ih=>?_) ?_
 ·simp only[Z81.l0_succ _ qag]
  obtain⟨i,hi,hik⟩:=qdn (List.getElem_mem hk)
  rw[qhK _ _ _ _ hk,hi,Int.toNat_natCast,qad (by omega)] at ih
  have hb:=qla hst d k (c:=c)
  have hb2:=hst _ (List.getElem_mem (show i<st.length by omega))
  refine qaE (decide_eq_true (by omega)) (qaf (qap hk) ?_)
  simp only[hi]
  refine qaf (qap (by omega)) ?_
  rw[qah (by omega),qai (by omega) (by omega)]
  exact ih
 ·simp only[Z81.l0_succ _ qag]
  exact qaH (decide_eq_false (by omega)) qan
end VeT
open Go Go.Proofs Ve
namespace VeT
theorem qmR{c:List Sim}{st:Sim}(hst:∀ x∈st,0≤x∧x≤3)(d:Int):0≤qjP c st d (qaq c d c.length).length:=(qla hst d _).1
def SD(c:List Sim)(st:Sim)(d:Int):Int:=qjP c st d (qaq c d c.length).length
def SK(c:List Sim)(st:Sim):Prop:=st.length=c.length∧(∀ x∈st,0≤x∧x≤3)∧∀ d:Nat,d<4→SD c st (d:Int)≤32
theorem qh3(n:Int):Ret E n_Z29 [dI n] ⟨o_Z29,(!pb (0≤n∧n≤3),())⟩:=by
 refine qal ?_
 simp only[run_Z29,Z29.ev]
 exact qaa (qbI _ _ _) qan
theorem qdH(c:List Sim)(st:Sim)(hc:Sm yK c)(hs:st.length≤1048576):Ret E n_Z28 [dLL c,dL st] ⟨o_Z28,(pb (SK c st),())⟩:=by
  refine qal ?_
  simp only[run_Z28,Z28.ev]
  refine qdR (fun h=>?_) fun h=>?_
  · simp only[Z28.j0_eq _ qag,cond_true]
    have h:¬ (st.length:Int)=c.length:=by simpa using h
    rw[qat fun hk=>h (by rw[hk.1])];(first | exact qan | exact Ev.of fun _=>trivial)
  have hl : st.length = c.length := by have : (st.length : Int) = c.length := by simpa using h
                                       omega
  refine qaa (qbg st _ hs fun x _=>qh3 x) ?_
  simp only[Z28.j0_eq _ qag]
  have e:=qgY (s:=st) (P:=fun x=>0≤x∧x≤3)
  refine qdR (fun h=>?_) fun h=>?_
  · simp only[h] at e
    rw[qat fun hk=>qcr.1 e.symm hk.2.1];(first | exact qan | exact Ev.of fun _=>trivial)
  · simp only[h] at e
    have hst:∀ x∈st,0≤x∧x≤3:=qaV.1 e.symm
    refine Ev.start (p:=fun φ n=>Z28.l1 (mkR (run E (φ 0))) (φ 0) n st 0 c=_) 1 ?_ (fun _ _ _ h=>h)
    refine(qfo 1 (L:=fun φ n k=>Z28.l1 (mkR (run E (φ 0))) (φ 0) n st k c) (len:=4) 0 (by omega) (fun d=>SD c st (d:Int)≤32) (fun b=>some ⟨o_Z28,(b,())⟩) (fun _ _ _ _=>rfl) (fun k h1 h2 hP _=>?_) (fun k r h1 h2 hP _ ih=>?_) (fun _=>?_)).to ?_
    · simp only[Z28.l1_succ _ qag]
      exact qaE (decide_eq_true (by omega)) (qaa (qc9 c st _ _ _ hc hl hst (by omega)) (qaE (decide_eq_true (Int.not_le.1 hP)) qan))
    · simp only[Z28.l1_succ _ qag]
      refine qaE (decide_eq_true (by omega)) (qaa (qc9 c st _ _ _ hc hl hst (by omega)) (qaH (decide_eq_false (Int.not_lt.2 hP)) ?_))
      rw[qah (by omega)];exact ih
    · simp only[Z28.l1_succ _ qag]
      exact qaH (decide_eq_false (by omega)) qan
    · exact congrArg (fun b:Bool=>some (⟨o_Z28,(b,())⟩:Dv)) (qaP ⟨fun h=>⟨hl,hst,fun d hd=>h d (by omega) hd⟩,fun h d _ hd=>h.2.2 d hd⟩)
noncomputable def qaK(c:List Sim)(k:Nat):List Int:=(qcq (c.getD k [])).map (qcF c)
theorem ql6{c:List Sim}{s:Sim}:qcF c s<c.length∧-1≤qcF c s:=by
 unfold qcF qgG
 cases h:c.findIdx? (fun x=>pb (x=s)) with
 | none=>simp only[o2i];omega
 | some k =>
  rw[List.findIdx?_eq_some_iff_getElem] at h
  obtain⟨h,_⟩:=h
  simp only[o2i];omega
theorem qaB{c:List Sim}{k:Nat}:(qaK c k).length=if 1<(c.getD k []).length then(c.getD k []).length else 0:=by
 unfold qaK qcq
 rw[List.length_map]
 split<;>simp
theorem qlQ{c:List Sim}(h:VC c){k:Nat}(hk:k<c.length){x:Int}(hx:x∈qaK c k):0≤x∧x<c.length:=by
 unfold qaK at hx
 rw[List.mem_map] at hx
 obtain⟨f,hf,rfl⟩:=hx
 exact⟨qaT.2 (h.2.2.2 k hk f hf),ql6.1⟩
theorem qcO(c:List Sim)(k:Nat)(hk:k<c.length)(hc:Sm yK c)(hs:Srt c):Ret E n_Z45 [dLL c,dI (k:Int)] ⟨o_Z45,(qaK c k,())⟩:=by
 have hks:(c[k]).length≤1048576:=(qbS hc hk).1
 have hfl:=qgy (s:=c[k])
 refine qal ?_
 simp only[run_Z45,Z45.ev]
 refine qaf (qap hk) (qaa (qeU _ hks) ?_)
 refine Ev.start (p:=fun φ n=>Z45.l0 (mkR (run E (φ 0))) (φ 0) n (qcq c[k]) ((qcq c[k]).length:Int) 0 c []=_) 1 ?_ (fun _ _ _ h=>h)
 refine qaw 1 (L:=fun φ n j a=>Z45.l0 (mkR (run E (φ 0))) (φ 0) n (qcq c[k]) ((qcq c[k]).length:Int) j c a) (len:=(qcq c[k]).length) (fun j=>((qcq c[k]).take j).map (qcF c)) (fun _ _ _ _ _=>rfl) (fun j r hj ih=>?_) ?_
 ·simp only[Z45.l0_succ _ qag]
  rw[List.take_succ_eq_append_getElem hj,List.map_append] at ih
  refine qaE (decide_eq_true (by omega)) (qaf (qap hj) (qaa (qeL c _ hc hs) (qau (by simp;omega) ?_)))
  rw[qah (by omega)];exact ih
 ·simp only[Z45.l0_succ _ qag]
  refine qaH (decide_eq_false (by omega)) (qam ?_)
  rw[List.take_of_length_le (Nat.le_refl _),qaK,qad hk]
abbrev Arw:=Int×Int×Int×Unit
noncomputable def qoH(c:List Sim)(k i:Nat):List Arw:=(List.range i).map fun(j:Nat)=>((k:Int),(j:Int),(qaK c k).getD j 0,())
noncomputable def qaN(c:List Sim):Nat→List Arw
 | 0=>[]
 | k+1=>qaN c k++qoH c k (qaK c k).length
noncomputable def plc(c:List Sim)(k:Nat):Nat:=(qaN c k).length
theorem qe5{c:List Sim}{k i:Nat}:(qoH c k i).length=i:=by simp[qoH]
theorem ql0{c:List Sim}{k:Nat}:plc c (k+1)=plc c k+(qaK c k).length:=by
 unfold plc;rw[qaN,List.length_append,qe5]
theorem VC.len4{c:List Sim}(h:VC c){k:Nat}(hk:k<c.length):(c.getD k []).length≤4:=(h.2.1 k hk).2.1
theorem VC.fIdx4{c:List Sim}(h:VC c){k:Nat}(hk:k<c.length):(qaK c k).length≤4:=by
 have:=h.len4 hk
 rw[qaB];split<;>omega
theorem VC.plc{c:List Sim}(h:VC c):∀ {k:Nat},k≤c.length→plc c k≤4*k
 | 0,_=>by simp[VeT.plc,qaN]
 | k+1,hk=>by
  have h1:=h.plc (k:=k) (by omega)
  have h2:=h.fIdx4 (k:=k) (by omega)
  rw[ql0];omega
theorem qcb{c:List Sim}:∀ {n k i:Nat},k<n→i<(qaK c k).length→(qaN c n)[plc c k+i]? = some ((k:Int),(i:Int),(qaK c k).getD i 0,())
 | 0,_,_,h,_=>by omega
 | n+1,k,i,h,hi=>by
  rw[qaN]
  by_cases hk:k<n
  ·have:=qcb hk hi
   have hl:=(List.getElem?_eq_some_iff.1 this).1
   rw[List.getElem?_append_left hl];exact this
  ·obtain rfl:k=n:=by omega
   rw[List.getElem?_append_right (by unfold plc;omega)]
   rw[show plc c k+i-(qaN c k).length=i by unfold plc;omega]
   simp[qoH,hi]
theorem qhk{c:List Sim}:∀ {n t:Nat},t<(qaN c n).length→∃ k i,k<n∧i<(qaK c k).length∧t=plc c k+i
 | 0,_,h=>by simp[qaN] at h
 | n+1,t,h=>by
  by_cases ht:t<(qaN c n).length
  ·obtain⟨k,i,h1,h2,h3⟩:=qhk ht
   exact⟨k,i,by omega,h2,h3⟩
  ·rw[qaN,List.length_append,qe5] at h
   exact⟨n,t-(qaN c n).length,by omega,by omega,by unfold plc;omega⟩
theorem qer(c:List Sim)(hc:Sm yK c)(hv:VC c):Ret E n_Z30 [dLL c] ⟨o_Z30,(qaN c c.length,())⟩:=by
 have hs:=hv.srt
 have h48:=hv.1
 refine qal ?_
 simp only[run_Z30,Z30.ev]
 refine qaa (qhM _) ?_
 refine Ev.start (p:=fun φ n=>Z30.l0 (mkR (run E (φ 0))) (φ 0) n (c.length:Int) 0 c []=_) 1 ?_ (fun _ _ _ h=>h)
 refine qaw 1 (L:=fun φ n k a=>Z30.l0 (mkR (run E (φ 0))) (φ 0) n (c.length:Int) k c a) (len:=c.length) (fun k=>qaN c k) (fun _ _ _ _ _=>rfl) (fun k r hk ih=>?_) ?_
 ·simp only[Z30.l0_succ _ qag]
  have hpl:=hv.plc (k:=k) (by omega)
  have hf4:=hv.fIdx4 hk
  refine qaE (decide_eq_true (by omega)) (qaa (qcO c k hk hc hs) ?_)
  refine Ev.start (p:=fun φ n=>Z30.l1 (mkR (run E (φ 0))) (φ 0) (φ 1) n (k:Int) (c.length:Int) (k:Int) (qaK c k) ((qaK c k).length:Int) 0 c (qaN c k)=_) 2 ?_ (fun _ _ _ h=>h)
  have:=qaw 2 (L:=fun φ n j a=>Z30.l1 (mkR (run E (φ 0))) (φ 0) (φ 1) n (k:Int) (c.length:Int) (k:Int) (qaK c k) ((qaK c k).length:Int) j c a) (len:=(qaK c k).length) (fun j=>qaN c k++qoH c k j) (r:=r) (fun _ _ _ _ _=>rfl) (fun j r hj ih=>?_) ?_
  ·simpa [qoH] using this
  ·simp only[Z30.l1_succ _ qag]
   refine qaE (decide_eq_true (by omega)) (qaf (qap hj) (qau (decide_eq_true ?_) ?_))
   ·rw[List.length_append,qe5];show(_+_+1)*24≤_
    have:(qaN c k).length=plc c k:=rfl
    omega
   ·rw[qah (by omega)]
    have e:qoH c k (j+1)=qoH c k j++[((k:Int),(j:Int),(qaK c k)[j],())]:=by
     unfold qoH;rw[List.range_succ,List.map_append];simp[List.getD_eq_getElem?_getD,hj]
    rw[e,← List.append_assoc] at ih
    exact ih
  ·simp only[Z30.l1_succ _ qag]
   refine qaH (decide_eq_false (by omega)) ?_
   rw[qah (by omega)];exact ih
 ·simp only[Z30.l0_succ _ qag]
  exact qaH (decide_eq_false (by omega)) qan
end VeT
open Go Go.Proofs Ve
namespace VeT
def mz:Mat:=(0,0,0,[],())
def QB(p:Int)(st:Sim)(ms:List Mat)(t k:Nat)(f:Int):Prop:=Bt (ms.getD t mz) p (st.getD f.toNat 0) (st.getD k 0)
def VS(c:List Sim)(p:Int)(st:Sim)(ms:List Mat):Prop:=VC c∧Pr p∧SK c st∧plc c c.length=ms.length∧∀ k,k<c.length→∀ i,i<(qaK c k).length→QB p st ms (plc c k+i) k ((qaK c k).getD i 0)
def az:Arw:=(0,0,0,())
def QA(p:Int)(st:Sim)(ms:List Mat)(t:Nat)(a:Arw):Prop:=t<ms.length∧Bt (ms.getD t mz) p (st.getD a.2.2.1.toNat 0) (st.getD a.1.toNat 0)
theorem qne{c:List Sim}{p:Int}{st:Sim}{ms:List Mat}(hl:plc c c.length=ms.length) :
  (∀ t,0≤t→t<plc c c.length→QA p st ms t ((qaN c c.length).getD t az))↔∀ k,k<c.length→∀ i,i<(qaK c k).length→QB p st ms (plc c k+i) k ((qaK c k).getD i 0):=by
 constructor
 ·intro h k hk i hi
  have hg:=qcb hk hi
  have hlt:=(List.getElem?_eq_some_iff.1 hg).1
  have:=h (plc c k+i) (by omega) hlt
  rw[List.getD_eq_getElem?_getD,hg] at this
  exact this.2
 ·intro h t _ ht
  obtain⟨k,i,hk,hi,rfl⟩:=qhk ht
  have hg:=qcb hk hi
  have:=h k hk i hi
  rw[List.getD_eq_getElem?_getD,hg]
  exact⟨by omega,this⟩
theorem qpf{ms:List Mat}(h:Sm (.sl (.st cM)) ms){t:Nat}(ht:t<ms.length):Sm (.st cM) ms[t]:=h.2 _ (List.getElem_mem ht)
theorem qfB(c:List Sim)(p:Int)(st:Sim)(ms:List Mat)(hc:Sm yK c)(hst:st.length≤1048576)(hm:Sm (.sl (.st cM)) ms) :
    Ret E n_Z21 [dLL c,dI p,dL st,dMs ms] ⟨o_Z21,(pb (VS c p st ms),())⟩:=by
  have hm1:ms.length≤1048576:=hm.1
  refine qal ?_
  simp only[run_Z21,Z21.ev]
  have no:¬ VS c p st ms→Ev fun φ=>Z21.j0 (mkR (run E (φ 0))) (φ 0) true c p st ms=some ⟨o_Z21,(pb (VS c p st ms),())⟩:=fun h=>by
    simp only[Z21.j0_eq _ qag,cond_true]
    rw[qat h];(first | exact qan | exact Ev.of fun _=>trivial)
  refine qaa (qbV c hc) (qdR (fun h=>no fun hv=>qcr.1 (show pb (VC c)=false by simpa using h) hv.1) fun h=>?_)
  have hv:VC c:=qaV.1 (by simpa using h)
  refine qaa (qbT p) (qdR (fun h=>no fun hv=>qcr.1 (show pb (Pr p)=false by simpa using h) hv.2.1) fun h=>?_)
  have hp:Pr p:=qaV.1 (by simpa using h)
  refine qaa (qdH c st hc hst) ?_
  by_cases hk:SK c st
  · simp only[qaz hk,Bool.not_true,Z21.j0_eq _ qag,cond_false]
    refine qaa (qer c hc hv) ?_
    have hpl:=hv.plc (Nat.le_refl _)
    have h48:=hv.1
    refine Ev.start (p:=fun φ n=>Z21.l1 (mkR (run E (φ 0))) (φ 0) n (qaN c c.length) (qaN c c.length) ((qaN c c.length).length:Int) 0 c p st ms=_) 1 ?_ (fun _ _ _ h=>h)
    have get:∀ t (ht:t<plc c c.length),∃ k i,k<c.length∧i<(qaK c k).length∧(qaN c c.length)[t]? = some ((k:Int),(i:Int),(qaK c k).getD i 0,())∧((qaK c k).getD i 0).toNat<st.length∧0≤(qaK c k).getD i 0:=fun t ht=>by
      obtain⟨k,i,hk',hi,rfl⟩:=qhk ht
      have hb:=qlQ hv hk' (List.getElem_mem hi)
      exact⟨k,i,hk',hi,qcb hk' hi,by rw[qad hi,hk.1];omega,by rw[qad hi];omega⟩
    refine(qfo 1 (L:=fun φ n t=>Z21.l1 (mkR (run E (φ 0))) (φ 0) n (qaN c c.length) (qaN c c.length) ((qaN c c.length).length:Int) t c p st ms) (len:=plc c c.length) 0 (by omega) (fun t=>QA p st ms t ((qaN c c.length).getD t az)) (fun b=>some ⟨o_Z21,(b&&((plc c c.length:Int)==(ms.length:Int)),())⟩) (fun _ _ _ _=>rfl) (fun t h1 h2 hP _=>?_) (fun t r h1 h2 hP _ ih=>?_) (fun _=>?_)).to ?_
    · simp only[Z21.l1_succ _ qag]
      obtain⟨k,i,hkc,hi,hg,hf,hf0⟩:=get t h2
      have hlt:t<(qaN c c.length).length:=h2
      have hgt:(qaN c c.length)[t]=((k:Int),(i:Int),(qaK c k).getD i 0,()):=by
        rw[List.getElem?_eq_getElem hlt] at hg;exact Option.some.inj hg
      refine qaE (decide_eq_true (by omega)) (qaf (qap hlt) ?_)
      rw[qad hlt] at hP
      rw[hgt] at hP ⊢
      refine qfa (fun hge=>?_) fun hge=>?_
      · simp only[Z21.j2_eq _ qag,cond_true];(first | exact qan | exact Ev.of fun _=>trivial)
      · have htm:t<ms.length:=by omega
        refine qaf (qap htm) ?_
        simp only
        rw[show(qaK c k).getD i 0=((((qaK c k).getD i 0).toNat:Nat):Int) by omega]
        refine qaf (qap hf) (qaf (qap (show k<st.length by rw[hk.1];exact hkc)) (qaa (qfG _ _ _ _ (qpf hm htm)) ?_))
        have:¬ Bt ms[t] p st[((qaK c k).getD i 0).toNat] (st[k]'(by rw[hk.1];exact hkc)):=fun hb=>hP ⟨htm,by
          simp only[Int.toNat_natCast]
          rw[qad htm,qad hf,qad (s:=st) (k:=k) (by rw[hk.1];exact hkc)];exact hb⟩
        simp only[qat this,Bool.not_false,Z21.j2_eq _ qag,cond_true];(first | exact qan | exact Ev.of fun _=>trivial)
    · simp only[Z21.l1_succ _ qag]
      obtain⟨k,i,hkc,hi,hg,hf,hf0⟩:=get t h2
      have hlt:t<(qaN c c.length).length:=h2
      have hgt:(qaN c c.length)[t]=((k:Int),(i:Int),(qaK c k).getD i 0,()):=by
        rw[List.getElem?_eq_getElem hlt] at hg;exact Option.some.inj hg
      refine qaE (decide_eq_true (by omega)) (qaf (qap hlt) ?_)
      rw[qad hlt] at hP
      rw[hgt] at hP ⊢
      obtain⟨htm,hb⟩:=hP
      refine qaH (decide_eq_false (by omega)) (qaf (qap htm) ?_)
      simp only
      rw[show(qaK c k).getD i 0=((((qaK c k).getD i 0).toNat:Nat):Int) by omega]
      refine qaf (qap hf) (qaf (qap (show k<st.length by rw[hk.1];exact hkc)) (qaa (qfG _ _ _ _ (qpf hm htm)) ?_))
      simp only[Int.toNat_natCast] at hb
      rw[qad htm,qad hf,qad (s:=st) (k:=k) (by rw[hk.1];exact hkc)] at hb
      simp only[qaz hb,Bool.not_true,Z21.j2_eq _ qag,cond_false]
      rw[qah (by omega)];exact ih
    · simp only[Z21.l1_succ _ qag]
      exact qaH (decide_eq_false (by show ¬ ((plc c c.length:Nat):Int)<((plc c c.length:Nat):Int);omega)) (qam (by rw[Bool.true_and];rfl))
    · have:(pb (∀ t,0≤t→t<plc c c.length→QA p st ms t ((qaN c c.length).getD t az))&&((plc c c.length:Int)==(ms.length:Int)))=pb (VS c p st ms):=qjS (by
        rw[Bool.and_eq_true,qaV,beq_iff_eq]
        constructor
        · rintro⟨h1,h2⟩
          have h2:plc c c.length=ms.length:=by omega
          exact⟨hv,hp,hk,h2,(qne h2).1 h1⟩
        · rintro⟨_,_,_,h2,h1⟩
          exact⟨(qne h2).2 h1,by omega⟩)
      rw[this]
  · simp only[qat hk,Bool.not_false]
    exact no fun hv=>hk hv.2.2.1
end VeT
open Go Go.Proofs Ve
namespace VeT
theorem qjm(x:Shf)(hx:Sm (.st cS) x):Ret E n_Z21 [dLL x.1,dI x.2.1,dL x.2.2.1,dMs x.2.2.2.1] ⟨o_Z21,(pb (VS x.1 x.2.1 x.2.2.1 x.2.2.2.1),())⟩ :=
 qfB x.1 x.2.1 x.2.2.1 x.2.2.2.1 hx.1 hx.2.2.1.1 hx.2.2.2.1
theorem qgN(n:Int):Ret E n_Z144 [dI n] ⟨o_Z144,(pb (0≤n∧n≤3),())⟩:=by
 refine qal ?_
 simp only[run_Z144,Z144.ev]
 exact qaa (qdr _ _ _) qan
end VeT
open Go Go.Proofs Ve
namespace VeT
theorem qiN(p r:Int)(C:Nat)(cells:Sim)(i j:Nat)(h:i*C+j<cells.length)(hl:cells.length≤1048576):Ret E n_Z9 [dI p,dI r,dI (C:Int),dL cells,dI (i:Int),dI (j:Int)] ⟨o_Z9,(cells[i*C+j],())⟩:=by
 refine qal ?_
 simp only[run_Z9,Z9.ev]
 rw[qdv,qai (n:=((i*C:Nat):Int)) (by omega) (by omega),qai (by omega) (by omega),show((i*C:Nat):Int)+(j:Int)=((i*C+j:Nat):Int) by omega]
 exact qaf (qap h) qan
theorem qe9(p r:Int)(C:Nat)(cells:Sim)(i:Nat)(h:(i+1)*C≤cells.length)(hi:i≤1048576)(hl:cells.length≤1048576):Ret E n_Z10 [dI p,dI r,dI (C:Int),dL cells,dI (i:Int)] ⟨o_Z10,((cells.take ((i+1)*C)).drop (i*C),())⟩:=by
 refine qal ?_
 simp only[run_Z10,Z10.ev]
 have h1:i*C≤(i+1)*C:=Nat.mul_le_mul_right _ (by omega)
 have e1:w64 ((i:Int)*(C:Int))=((i*C:Nat):Int):=by rw[qdv];exact qai (by omega) (by omega)
 have e2:w64 ((i:Int)+1)=((i+1:Nat):Int):=qah (by omega)
 have e3:w64 (((i+1:Nat):Int)*(C:Int))=(((i+1)*C:Nat):Int):=by rw[qdv];exact qai (by omega) (by omega)
 simp only[e1,e2,e3,Int.toNat_natCast]
 exact qau (by simp only[Bool.and_eq_true,decide_eq_true_eq];omega) qan
theorem qcu(s:Sim)(hs:s.length≤1048576):Ret E n_Z96 [dL s] ⟨o_Z96,(s,())⟩:=by
 refine qal ?_
 simp only[run_Z96,Z96.ev,Z96.j0_eq _ qag,cond_true,cond_false]
 have h:Ev fun φ=>(Option.bind (chk (decide ((List.length ([]:List Int)+List.length s)*8≤70368744177664))) fun _=>some (⟨o_Z96,((([]:List Int)++s),())⟩:Dv))=some ⟨o_Z96,(s,())⟩ :=
  qau (by simp;omega) (qam rfl)
 cases s with
 | nil=>exact qaE rfl (qcx qan h)
 | cons a s=>exact qaH rfl h
theorem qht(m:Mat)(C:Nat)(i j:Nat)(hC:m.2.2.1=(C:Int))(h:j*C+i<m.2.2.2.1.length)(hl:m.2.2.2.1.length≤1048576):Ret E n_Z83 [dI (i:Int),dI (j:Int),dM m] ⟨o_Z83,(m.2.2.2.1.getD (j*C+i) 0,())⟩:=by
 rw[qad h]
 refine qal ?_
 simp only[run_Z83,Z83.ev]
 rw[hC]
 exact qaa (qiN _ _ C _ j i h hl) qan
theorem qpG(a b:Sim)(p:Int)(hp:2≤p∧p≤251)(ha:a.length≤32)(hb:a.length≤b.length)(ea:∀ x∈a,0≤x∧x≤250)(eb:∀ x∈b,0≤x∧x≤250) :
  Ret E n_Z41 [dL a,dL b,dI p] ⟨o_Z41,(qaQ (fun l=>a.getD l 0) (fun l=>b.getD l 0) a.length%p,())⟩:=by
 refine qal ?_
 simp only[run_Z41,Z41.ev]
 refine Ev.start (p:=fun φ n=>Z41.l0 (mkR (run E (φ 0))) (φ 0) n a b p 0 (a.length:Int) 0=_) 1 ?_ (fun _ _ _ h=>h)
 have:=qaw 1 (L:=fun φ n k s=>Z41.l0 (mkR (run E (φ 0))) (φ 0) n a b p s (a.length:Int) k) (len:=a.length) (fun k=>qaQ (fun l=>a.getD l 0) (fun l=>b.getD l 0) k%p) (r:=some ⟨o_Z41,(qaQ (fun l=>a.getD l 0) (fun l=>b.getD l 0) a.length%p,())⟩) (fun _ _ _ _ _=>rfl) (fun k r hk ih=>?_) ?_
 ·simpa [qaQ] using this
 ·simp only[Z41.l0_succ _ qag]
  have hkb:k<b.length:=by omega
  have hm:=qit (ea _ (List.getElem_mem hk)) (eb _ (List.getElem_mem hkb))
  have h0:=Int.emod_nonneg (qaQ (fun l=>a.getD l 0) (fun l=>b.getD l 0) k) (show p≠0 by omega)
  have h1:=Int.emod_lt_of_pos (qaQ (fun l=>a.getD l 0) (fun l=>b.getD l 0) k) (show 0<p by omega)
  refine qaE (decide_eq_true (by omega)) (qaf (qap hk) (qaf (qap hkb) (qau (by simp;omega) ?_)))
  rw[qai (n:=a[k]*b[k]) (by omega) (by omega),qai (by omega) (by omega),Int.tmod_eq_emod_of_nonneg (by omega),Int.emod_add_emod,qah (by omega)]
  simp only[qaQ] at ih
  rw[qad hk,qad hkb] at ih
  exact ih
 ·simp only[Z41.l0_succ _ qag]
  exact qaH (decide_eq_false (by omega)) qan
theorem qmE(p:Int)(R C:Nat)(cells:Sim)(hl:cells.length=R*C)(hR:R≤32)(hC:C≤32):Ret E n_Z72 [dI p,dI (R:Int),dI (C:Int),dL cells] ⟨o_Z72,((List.range R).map fun i=>(cells.take ((i+1)*C)).drop (i*C),())⟩:=by
 have h1024:=qfK hR hC
 refine qal ?_
 simp only[run_Z72,Z72.ev]
 refine Ev.start (p:=fun φ n=>Z72.l0 (mkR (run E (φ 0))) (φ 0) n (R:Int) 0 p (R:Int) (C:Int) cells []=_) 1 ?_ (fun _ _ _ h=>h)
 refine qaw 1 (L:=fun φ n k a=>Z72.l0 (mkR (run E (φ 0))) (φ 0) n (R:Int) k p (R:Int) (C:Int) cells a) (len:=R) (fun k=>(List.range k).map fun i=>(cells.take ((i+1)*C)).drop (i*C)) (fun _ _ _ _ _=>rfl) (fun k r hk ih=>?_) ?_
 ·simp only[Z72.l0_succ _ qag]
  have hle:(k+1)*C≤R*C:=Nat.mul_le_mul_right _ hk
  rw[List.range_succ,List.map_append] at ih
  refine qaE (decide_eq_true (by omega)) (qaa (qe9 p _ C cells k (by omega) (by omega) (by omega)) (qaa (qcu _ (by simp;omega)) (qau (by simp;omega) ?_)))
  rw[qah (by omega)];exact ih
 ·simp only[Z72.l0_succ _ qag]
  exact qaH (decide_eq_false (by omega)) qan
end VeT
open Go Go.Proofs Ve
namespace VeT
theorem qbl.get{v:Sim}{p:Int}(h:qbl v p)(hp:2≤p∧p≤251)(i:Nat):0≤v.getD i 0∧v.getD i 0≤250:=by
 by_cases hi:i<v.length
 ·rw[qad hi]
  have:=h _ (List.getElem_mem hi)
  omega
 ·rw[List.getD_eq_getElem?_getD,List.getElem?_eq_none (by omega)];simp
theorem qbl.mem{v:Sim}{p:Int}(h:qbl v p)(hp:2≤p∧p≤251):∀ x∈v,0≤x∧x≤250:=fun x hx=>by
 have:=h x hx;omega
def qoc(p:Int)(ca cb:Sim)(K C i j:Nat):Int:=qaQ (fun l=>ca.getD (i*K+l) 0) (fun l=>cb.getD (l*C+j) 0) K%p
def qpA(a b:Mat):Mat:=(a.1,a.2.1,b.2.2.1,qaR (qoc a.1 a.2.2.2.1 b.2.2.2.1 a.2.2.1.toNat b.2.2.1.toNat) b.2.2.1.toNat a.2.1.toNat,())
def qb1(K C:Nat)(cb:Sim):List Sim:=(List.range C).map fun i=>(List.range K).map fun j=>cb.getD (j*C+i) 0
theorem qjC(q:Int)(K C:Nat)(cb:Sim)(hl:cb.length=K*C)(hK:K≤32)(hC:C≤32):Ret E n_Z82 [dI q,dI (K:Int),dI (C:Int),dL cb] ⟨o_Z82,(q,(C:Int),(K:Int),qaR (fun i j=>cb.getD (j*C+i) 0) K C,())⟩:=by
 have h1:=qfK hK hC
 have h2:=qfK hC hK
 refine qal ?_
 simp only[run_Z82,Z82.ev]
 refine qaa (qcN q C K ((q,(K:Int),(C:Int),cb,()),()) (fun i j=>cb.getD (j*C+i) 0) (by omega) (by omega) (by omega) fun i j hi hj=>?_) qan
 exact qht (q,(K:Int),(C:Int),cb,()) C i j rfl (by show _<cb.length;rw[hl];exact qmj hj hi) (by show cb.length≤_;omega)
theorem qfw(q:Int)(K C:Nat)(cb:Sim)(hl:cb.length=K*C)(hK:K≤32)(hC:C≤32):Ret E n_Z34 [dI q,dI (K:Int),dI (C:Int),dL cb] ⟨o_Z34,(qb1 K C cb,())⟩:=by
 refine qal ?_
 simp only[run_Z34,Z34.ev]
 refine qaa (qjC q K C cb hl hK hC) (qaa (qmE q C K _ qaC hC hK) (qam ?_))
 have:((List.range C).map fun i=>((qaR (fun i j=>cb.getD (j*C+i) 0) K C).take ((i+1)*K)).drop (i*K))=qb1 K C cb :=
  List.map_congr_left fun i hi=>qkY (List.mem_range.1 hi)
 rw[this]
theorem qm0{K C:Nat}{cb:Sim}{q:Int}(hb:qbl cb q)(hq:2≤q∧q≤251){j:Nat}(hj:j<(qb1 K C cb).length):∀ x∈(qb1 K C cb)[j],0≤x∧x≤250:=by
 intro x hx
 have hm:=List.getElem_mem hj
 generalize (qb1 K C cb)[j]=y at hm hx
 unfold qb1 at hm
 rw[List.mem_map] at hm
 obtain⟨i,_,rfl⟩:=hm
 rw[List.mem_map] at hx
 obtain⟨l,_,rfl⟩:=hx
 exact hb.get hq _
theorem qjz(p:Int)(R K C:Nat)(ca cb:Sim)(i j:Nat)(hi:i<R)(hj:j<C)(hp:2≤p∧p≤251)(hla:ca.length=R*K)(hR:R≤32)(hK:K≤32)(ea:qbl ca p){q:Int}(hq:2≤q∧q≤251)(eb:qbl cb q) :
  Ret E n_Z70 [dI (i:Int),dI (j:Int),dM (p,(R:Int),(K:Int),ca,()),⟨.ptr yC,(qb1 K C cb,())⟩] ⟨o_Z70,(qoc p ca cb K C i j,())⟩:=by
 have h1:=qfK hR hK
 have hle:(i+1)*K≤R*K:=Nat.mul_le_mul_right _ hi
 have hjl:j<(qb1 K C cb).length:=by simp[qb1,hj]
 have hcl:((qb1 K C cb)[j]).length=K:=by simp[qb1]
 have hrl:((ca.take ((i+1)*K)).drop (i*K)).length=K:=by
  rw[List.length_drop,List.length_take,Nat.min_eq_left (by omega),Nat.add_mul];omega
 refine qal ?_
 simp only[run_Z70,Z70.ev]
 refine qaf (qap hjl) (qaa (qe9 p _ K ca i (by omega) (by omega) (by omega)) (qaa (qpG ((ca.take ((i+1)*K)).drop (i*K)) ((qb1 K C cb)[j]) p hp (by omega) (by omega) (fun x hx=>ea.mem hp x (List.mem_of_mem_take (List.mem_of_mem_drop hx))) (qm0 eb hq hjl)) (qam ?_)))
 rw[hrl]
 have:qaQ (fun l=>((ca.take ((i+1)*K)).drop (i*K)).getD l 0) (fun l=>((qb1 K C cb)[j]).getD l 0) K=qaQ (fun l=>ca.getD (i*K+l) 0) (fun l=>cb.getD (l*C+j) 0) K:=qaZ fun l hl=>⟨by
  rw[List.getD_eq_getElem?_getD,List.getD_eq_getElem?_getD,List.getElem?_drop,List.getElem?_take_of_lt (by rw[Nat.add_mul];omega)],by
  simp[qb1,List.getD_eq_getElem?_getD,hl]⟩
 rw[this];rfl
theorem VM.nat{m:Mat}(h:VM m):∃ R K:Nat,m=(m.1,(R:Int),(K:Int),m.2.2.2.1,())∧R≤32∧K≤32∧m.2.2.2.1.length=R*K:=by
 obtain⟨p,r,k,c,⟨⟩⟩:=m
 obtain⟨_,h2,h3,h4,_⟩:=h
 simp only at h2 h3 h4
 obtain⟨R,rfl⟩:=Int.eq_ofNat_of_zero_le h2.1
 obtain⟨K,rfl⟩:=Int.eq_ofNat_of_zero_le h3.1
 refine⟨R,K,rfl,by omega,by omega,?_⟩
 rw[qdv] at h4;simp only;omega
theorem qlq(a b:Mat)(ha:VM a)(hb:VM b)(hab:a.2.2.1=b.2.1):Ret E n_Z69 [dI a.1,dI a.2.1,dI a.2.2.1,dL a.2.2.2.1,dI b.1,dI b.2.1,dI b.2.2.1,dL b.2.2.2.1] ⟨o_Z69,qpA a b⟩:=by
  obtain⟨R,K,ea,hR,hK,hla⟩:=ha.nat
  obtain⟨K',C,eb,hK',hC,hlb⟩:=hb.nat
  have pa:2≤a.1∧a.1≤251:=⟨ha.1.1,ha.1.2.1⟩
  have pb':2≤b.1∧b.1≤251:=⟨hb.1.1,hb.1.2.1⟩
  have ela:=ha.2.2.2.2
  have elb:=hb.2.2.2.2
  rw[ea,eb] at hab
  obtain rfl : K = K' := by have hab : (K : Int) = (K' : Int) := hab
                            omega
  rw[ea,eb]
  simp only
  refine qal ?_
  simp only[run_Z69,Z69.ev]
  have hRC:=qfK hR hC
  refine qaa (qfw _ K C _ hlb hK hC) (qaa (qdd a.1 R C ((a.1,(R:Int),(K:Int),a.2.2.2.1,()),(qb1 K C b.2.2.2.1,()),()) (qoc a.1 a.2.2.2.1 b.2.2.2.1 K C) (by omega) (by omega) (by omega) fun i j hi hj=>?_) (qam ?_))
  · exact qjz a.1 R K C _ _ i j hi hj pa hla hR hK ela pb' elb
  · simp only[qpA,Int.toNat_natCast]
end VeT
open Go Go.Proofs Ve
namespace VeT
theorem qio(a b:Sim)(ha:a.length≤1048576):Ret E n_Z109 [dL a,dL b] ⟨o_Z109,(pb (a=b),())⟩:=by
 refine qal ?_
 simp only[run_Z109,Z109.ev]
 refine qdR (fun h=>qam ?_) fun h=>?_
 ·have h:(a.length:Int)≠b.length:=by simpa using h
  rw[qat fun e=>h (by rw[e])]
 ·have h:(a.length:Int)=b.length:=by simpa using h
  refine Ev.start (p:=fun φ n=>Z109.l0 (mkR (run E (φ 0))) (φ 0) n a b (a.length:Int) 0=_) 1 ?_ (fun _ _ _ h=>h)
  refine(qfo 1 (L:=fun φ n k=>Z109.l0 (mkR (run E (φ 0))) (φ 0) n a b (a.length:Int) k) (len:=a.length) 0 (by omega) (fun j=>a.getD j 0=b.getD j 0) (fun b=>some ⟨o_Z109,(b,())⟩) (fun _ _ _ _=>rfl) (fun k h1 h2 hP _=>?_) (fun k r h1 h2 hP _ ih=>?_) (fun _=>?_)).to ?_
  ·simp only[Z109.l0_succ _ qag]
   have hb:k<b.length:=by omega
   rw[qad h2,qad hb] at hP
   exact qaE (decide_eq_true (by omega)) (qaf (qap h2) (qaf (qap hb) (qaE (by simpa using hP) qan)))
  ·simp only[Z109.l0_succ _ qag]
   have hb:k<b.length:=by omega
   rw[qad h2,qad hb] at hP
   refine qaE (decide_eq_true (by omega)) (qaf (qap h2) (qaf (qap hb) (qaH (by simpa using hP) ?_)))
   rw[qah (by omega)];exact ih
  ·simp only[Z109.l0_succ _ qag]
   exact qaH (decide_eq_false (by omega)) qan
  ·refine congrArg (fun b:Bool=>some (⟨o_Z109,(b,())⟩:Dv)) (qaP ⟨fun hh=>List.ext_getElem (by omega) fun j h1 h2=>?_,fun hh j _ _=>by rw[hh]⟩)
   have:=hh j (by omega) h1
   rwa [qad h1,qad h2] at this
theorem qh1{a b:Mat}:a=b↔a.1=b.1∧a.2.1=b.2.1∧a.2.2.1=b.2.2.1∧a.2.2.2.1=b.2.2.2.1:=by
 obtain⟨p,r,k,c,⟨⟩⟩:=a
 obtain⟨p',r',k',c',⟨⟩⟩:=b
 simp only[Prod.mk.injEq,and_true]
theorem qhR(a b:Mat)(ha:a.2.2.2.1.length≤1048576):Ret E n_Z13 [dI a.1,dI a.2.1,dI a.2.2.1,dL a.2.2.2.1,dI b.1,dI b.2.1,dI b.2.2.1,dL b.2.2.2.1] ⟨o_Z13,(pb (a=b),())⟩:=by
 refine qal ?_
 simp only[run_Z13,Z13.ev]
 refine qdR (fun h1=>qdR (fun h2=>qdR (fun h3=>qaa (qio _ _ ha) (qam ?_)) fun h3=>qam ?_) fun h2=>qam ?_) fun h1=>qam ?_
 ·exact congrArg (fun b:Bool=>some (⟨o_Z13,(b,())⟩:Dv)) (qaP ⟨fun h=>qh1.2 ⟨by simpa using h1,by simpa using h2,by simpa using h3,h⟩,fun h=>(qh1.1 h).2.2.2⟩)
 ·rw[qat fun h=>by have:=(qh1.1 h).2.2.1;simp[this] at h3]
 ·rw[qat fun h=>by have:=(qh1.1 h).2.1;simp[this] at h2]
 ·rw[qat fun h=>by have:=(qh1.1 h).1;simp[this] at h1]
noncomputable def mp(c:List Sim)(ms:List Mat)(k i:Nat):Mat:=ms.getD (plc c k+i) mz
noncomputable def fc(c:List Sim)(k i:Nat):Nat:=((qaK c k).getD i 0).toNat
theorem qhL{c:List Sim}{s:Sim}(h:s∈c):c.getD (qcF c s).toNat []=s:=by
 have h0:=qaT.2 h
 unfold qcF qgG at h0 ⊢
 cases hf:c.findIdx? (fun x=>pb (x=s)) with
 | none=>rw[hf] at h0;simp[o2i] at h0
 | some k =>
  rw[List.findIdx?_eq_some_iff_getElem] at hf
  obtain⟨hk,hp,_⟩:=hf
  simp only[o2i,Int.toNat_natCast]
  rw[qad hk];exact qaV.1 hp
theorem qbf{c:List Sim}(h:VC c){k i:Nat}(hk:k<c.length)(hi:i<(qaK c k).length):idx? (qaK c k) (i:Int)=some ((fc c k i:Nat):Int)∧fc c k i<c.length∧c.getD (fc c k i) []=(c.getD k []).eraseIdx i:=by
 have hm:=qlQ h hk (List.getElem_mem hi)
 have hl:=qaB (c:=c) (k:=k)
 have h1:1<(c.getD k []).length:=Classical.byContradiction fun hn=>by rw[if_neg hn] at hl;omega
 rw[if_pos h1] at hl
 have hfc:(qaK c k)[i]=qcF c ((c.getD k []).eraseIdx i):=by
  have:(qaK c k)[i]? = some (qcF c ((c.getD k []).eraseIdx i)):=by
   unfold qaK qcq
   rw[if_pos h1,List.map_map,List.getElem?_map,List.getElem?_range (by omega)];rfl
  rw[List.getElem?_eq_getElem hi] at this
  exact Option.some.inj this
 have hin:(c.getD k []).eraseIdx i∈c:=h.2.2.2 k hk _ (qcM.2 ⟨h1,i,by omega,rfl⟩)
 unfold fc
 rw[qad hi]
 refine⟨?_,by omega,?_⟩
 ·rw[qap hi];congr 1;omega
 ·rw[hfc];exact qhL hin
theorem VS.map{c:List Sim}{p:Int}{st:Sim}{ms:List Mat}(h:VS c p st ms){k i:Nat}(hk:k<c.length)(hi:i<(qaK c k).length):plc c k+i<ms.length∧Bt (mp c ms k i) p (st.getD (fc c k i) 0) (st.getD k 0):=by
 have hg:=qcb hk hi
 have hlt:=(List.getElem?_eq_some_iff.1 hg).1
 exact⟨by rw[← h.2.2.2.1];exact hlt,h.2.2.2.2 k hk i hi⟩
theorem qkI(c:List Sim)(p:Int)(st:Sim)(ms:List Mat)(k:Nat)(hk:k≤c.length)(hv:VC c):Ret E n_Z53 [dLL c,dI p,dL st,dMs ms,dI (k:Int)] ⟨o_Z53,(((plc c k:Nat):Int),())⟩:=by
 have h48:=hv.1
 have htl:(c.take k).length=k:=by rw[List.length_take];omega
 refine qal ?_
 simp only[run_Z53,Z53.ev,Int.toNat_natCast,htl]
 refine qau (by simp;omega) ?_
 refine Ev.start (p:=fun φ n=>Z53.l0 (mkR (run E (φ 0))) (φ 0) n 0 (c.take k) (k:Int) 0=_) 1 ?_ (fun _ _ _ h=>h)
 have:=qaw 1 (L:=fun φ n j a=>Z53.l0 (mkR (run E (φ 0))) (φ 0) n a (c.take k) (k:Int) j) (len:=k) (fun j=>((plc c j:Nat):Int)) (r:=some ⟨o_Z53,(((plc c k:Nat):Int),())⟩) (fun _ _ _ _ _=>rfl) (fun j r hj ih=>?_) ?_
 ·exact this
 ·simp only[Z53.l0_succ _ qag]
  have hjc:j<c.length:=by omega
  have hpl:=hv.plc (k:=j) (by omega)
  have h4:=hv.len4 hjc
  have e:=ql0 (c:=c) (k:=j)
  rw[qaB] at e
  rw[qad hjc] at e h4
  have hjt:j<(c.take k).length:=by omega
  have hgt:(c.take k)[j]=c[j]:=List.getElem_take
  refine qaE (decide_eq_true (by omega)) (qaf (qap hjt) ?_)
  rw[hgt]
  refine qfa (fun hl=>qaa (qfI _) ?_) fun hl=>?_
  ·rw[if_pos (by omega)] at e
   rw[qah (by omega),qai (by omega) (by omega)]
   rw[e] at ih
   simpa using ih
  ·rw[if_neg (by omega)] at e
   rw[qah (by omega)]
   rw[e] at ih;exact ih
 ·simp only[Z53.l0_succ _ qag]
  exact qaH (decide_eq_false (by omega)) qan
theorem qdl(c:List Sim)(p:Int)(st:Sim)(ms:List Mat)(k i:Nat)(hk:k<c.length)(hi:i<(qaK c k).length)(h:VS c p st ms):Ret E n_Z40 [dLL c,dI p,dL st,dMs ms,dI (k:Int),dI (i:Int)] ⟨o_Z40,mp c ms k i⟩:=by
 have h48:=h.1.1
 have hpl:=h.1.plc (k:=k) (by omega)
 have h4:=h.1.fIdx4 hk
 obtain⟨ht,_⟩:=h.map hk hi
 refine qal ?_
 simp only[run_Z40,Z40.ev]
 refine qaa (qkI c p st ms k (by omega) h.1) ?_
 simp only
 rw[qai (by omega) (by omega),show((plc c k:Nat):Int)+(i:Int)=((plc c k+i:Nat):Int) by omega]
 refine qaf (qap ht) (qam ?_)
 rw[mp,qad ht]
noncomputable def two(c:List Sim)(ms:List Mat)(k i j:Nat):Mat:=qpA (mp c ms k i) (mp c ms (fc c k i) j)
theorem qoN{a b:Mat}(ha:VM a)(hb:VM b):(qpA a b).2.2.2.1.length≤1048576:=by
 show(qaR _ _ _).length≤_
 rw[qaC]
 have h1:=ha.2.1
 have h2:=hb.2.2.1
 have:=qfK (R:=a.2.1.toNat) (C:=b.2.2.1.toNat) (by omega) (by omega)
 omega
structure Sq (c:List Sim) (p:Int) (st:Sim) (ms:List Mat) (k i j:Nat):Prop where
 kl:k<c.length
 n3:3≤(c.getD k []).length
 il:i<(c.getD k []).length
 jl:j+1<(c.getD k []).length
 v:VS c p st ms
theorem Sq.hi{c p st ms k i j}(h:Sq c p st ms k i j):i<(qaK c k).length:=by
 have:=h.n3;have:=h.il
 rw[qaB,if_pos (by omega)];exact this
theorem Sq.fk{c p st ms k i j}(h:Sq c p st ms k i j):fc c k i<c.length:=(qbf h.v.1 h.kl h.hi).2.1
theorem Sq.hj{c p st ms k i j}(h:Sq c p st ms k i j):j<(qaK c (fc c k i)).length:=by
 have h1:=h.n3;have h2:=h.il;have h3:=h.jl
 have e:=(qbf h.v.1 h.kl h.hi).2.2
 rw[qaB,e,List.length_eraseIdx,if_pos h2,if_pos (by omega)];omega
theorem Sq.b1{c p st ms k i j}(h:Sq c p st ms k i j):VM (mp c ms k i):=((h.v.map h.kl h.hi).2).1
theorem Sq.b2{c p st ms k i j}(h:Sq c p st ms k i j):VM (mp c ms (fc c k i) j):=((h.v.map h.fk h.hj).2).1
theorem Sq.sh{c p st ms k i j}(h:Sq c p st ms k i j):(mp c ms k i).2.2.1=(mp c ms (fc c k i) j).2.1:=by
 rw[((h.v.map h.kl h.hi).2).2.2.2,((h.v.map h.fk h.hj).2).2.2.1]
theorem Sq.impl{c p st ms k i j}(h:Sq c p st ms k i j):Ret E n_Z69 [dI (mp c ms k i).1,dI (mp c ms k i).2.1,dI (mp c ms k i).2.2.1,dL (mp c ms k i).2.2.2.1,dI (mp c ms (fc c k i) j).1,dI (mp c ms (fc c k i) j).2.1,dI (mp c ms (fc c k i) j).2.2.1,dL (mp c ms (fc c k i) j).2.2.2.1] ⟨o_Z69,two c ms k i j⟩ :=
 qlq _ _ h.b1 h.b2 h.sh
end VeT
open Go Go.Proofs Ve
namespace VeT
def Bq(c:List Sim)(ms:List Mat)(k i j:Nat):Prop:=two c ms k i (j-1)≠two c ms k j i
def Pi(c:List Sim)(ms:List Mat)(k i:Nat):Prop:=∃ j,i+1≤j∧j<i+1+((c.getD k []).length-(i+1))∧Bq c ms k i j
def Pk(c:List Sim)(ms:List Mat)(k:Nat):Prop:=3≤(c.getD k []).length∧∃ i,0≤i∧i<0+(c.getD k []).length∧Pi c ms k i
noncomputable def rI(c:List Sim)(ms:List Mat)(out:Nat→Nat→Nat→Option Dv)(k i:Nat)(rn:Option Dv):Option Dv:=orN (out k i) rn (qa2 (Bq c ms k i) (i+1) ((c.getD k []).length-(i+1)))
noncomputable def rK(c:List Sim)(ms:List Mat)(out:Nat→Nat→Nat→Option Dv)(k:Nat)(rn:Option Dv):Option Dv:=orN (fun i=>rI c ms out k i none) rn (qa2 (Pi c ms k) 0 (c.getD k []).length)
noncomputable def qj6(c:List Sim)(ms:List Mat)(out:Nat→Nat→Nat→Option Dv)(rn:Option Dv):Option Dv:=orN (fun k=>rK c ms out k none) rn (qa2 (Pk c ms) 0 c.length)
theorem qre{c ms out k i}{rn rn':Option Dv}(h:Pi c ms k i):rI c ms out k i rn=rI c ms out k i rn':=by
 obtain⟨j,hj⟩:=qcJ h
 unfold rI;rw[hj];rfl
theorem qrd{c ms out k i}{rn:Option Dv}(h:¬ Pi c ms k i):rI c ms out k i rn=rn:=by
 unfold rI
 cases hf:qa2 (Bq c ms k i) (i+1) ((c.getD k []).length-(i+1)) with
 | none=>rfl
 | some j=>exact absurd ⟨j,qaJ hf⟩ h
theorem qrf{c ms out k}{rn rn':Option Dv}(h:Pk c ms k):rK c ms out k rn=rK c ms out k rn':=by
 obtain⟨j,hj⟩:=qcJ h.2
 unfold rK;rw[hj];rfl
theorem qq3{c ms out k}{rn:Option Dv}(h:¬ Pk c ms k)(h3:3≤(c.getD k []).length):rK c ms out k rn=rn:=by
 unfold rK
 cases hf:qa2 (Pi c ms k) 0 (c.getD k []).length with
 | none=>rfl
 | some j=>exact absurd ⟨h3,j,qaJ hf⟩ h
noncomputable def qcf(c:List Sim)(ms:List Mat):Option (Nat×Nat×Nat) :=
 (qa2 (Pk c ms) 0 c.length).bind fun k=>(qa2 (Pi c ms k) 0 (c.getD k []).length).bind fun i=>(qa2 (Bq c ms k i) (i+1) ((c.getD k []).length-(i+1))).map fun j=>(k,i,j)
theorem qh4{c ms k i j}(h:qcf c ms=some (k,i,j)):k<c.length∧3≤(c.getD k []).length∧i<j∧j<(c.getD k []).length∧∀ out rn,qj6 c ms out rn=out k i j:=by
 unfold qcf at h
 obtain⟨k',hk,h⟩:=Option.bind_eq_some_iff.1 h
 obtain⟨i',hi,h⟩:=Option.bind_eq_some_iff.1 h
 obtain⟨j',hj,h⟩:=Option.map_eq_some_iff.1 h
 simp only[Prod.mk.injEq] at h
 obtain⟨rfl,rfl,rfl⟩:=h
 have a:=qaJ hk
 have b:=qaJ hi
 have d:=qaJ hj
 refine⟨by omega,a.2.2.1,by omega,by omega,fun out rn=>?_⟩
 unfold qj6 rK rI
 rw[hk];simp only[orN];rw[hi];simp only[orN];rw[hj]
theorem qg9{c ms}(h:qcf c ms=none):∀ out rn,qj6 c ms out rn=rn:=by
 intro out rn
 unfold qj6
 cases hk:qa2 (Pk c ms) 0 c.length with
 | none=>rfl
 | some k =>
  have a:=qaJ hk
  obtain⟨i,hi⟩:=qcJ a.2.2.2
  obtain⟨j,hj⟩:=qcJ (qaJ hi).2.2
  unfold qcf at h
  rw[hk] at h
  simp only[Option.bind_some] at h
  rw[hi] at h
  simp only[Option.bind_some] at h
  rw[hj] at h
  cases h
theorem qfY(c:List Sim)(k:Nat)(hk:k<c.length)(hc:Sm yK c)(hv:VC c):Ret E n_Z45 [dLL c,dI (k:Int)] ⟨o_Z45,(qaK c k,())⟩:=qcO c k hk hc hv.srt
noncomputable def qoj(c:List Sim)(k i j:Nat):Option Dv:=some ⟨o_Z87,((k:Int),(qaK c (fc c k i)).getD (j-1) 0,true,())⟩
theorem qgM(c:List Sim)(p:Int)(st:Sim)(ms:List Mat)(hc:Sm yK c)(h:VS c p st ms):Ev fun φ=>run E (φ 0+1) n_Z87 [dLL c,dI p,dL st,dMs ms]=qj6 c ms (qoj c) (some ⟨o_Z87,(0,0,false,())⟩):=by
  have hv:=h.1
  have h48:=hv.1
  simp only[run_Z87,Z87.ev]
  refine Ev.start (p:=fun φ n=>Z87.l0 (mkR (run E (φ 0))) (φ 0) n c (c.length:Int) 0 c p st ms=_) 1 ?_ (fun _ _ _ h=>h)
  have inner3:∀ k i (hk:k<c.length) (hn:3≤(c.getD k []).length) (hi:i<(c.getD k []).length) (rn:Option Dv),
      (¬ Pi c ms k i→Ev fun φ=>Z87.l1 (mkR (run E (φ 0))) (φ 0) (φ 1) (φ 2) (c.getD k []) (k:Int) (qaK c k) c (c.length:Int) (k:Int) ((c.getD k []).length:Int) ((i+1:Nat):Int) c p st ms=rn) →
      Ev fun φ=>Z87.l2 (mkR (run E (φ 0))) (φ 0) (φ 1) (φ 2) (φ 0) (c.getD k []) (k:Int) (qaK c k) (i:Int) ((i+1:Nat):Int) c (c.length:Int) (k:Int) ((c.getD k []).length:Int) (i:Int) c p st ms=rI c ms (qoj c) k i rn:=by
    intro k i hk hn hi rn hrn
    have h4:=hv.len4 hk
    refine Ev.start (p:=fun φ n=>Z87.l2 (mkR (run E (φ 0))) (φ 0) (φ 1) (φ 2) n (c.getD k []) (k:Int) (qaK c k) (i:Int) ((i+1:Nat):Int) c (c.length:Int) (k:Int) ((c.getD k []).length:Int) (i:Int) c p st ms=_) 3 ?_ (fun _ _ _ h=>h)
    -- one round
    have round:∀ j (hij:i+1≤j) (hj:j<(c.getD k []).length) (r:Option Dv),
        (Ev fun φ=>(bif (!pb (two c ms k i (j-1)=two c ms k j i)) then qoj c k i j else Z87.l2 (mkR (run E (φ 0))) (φ 0) (φ 1) (φ 2) (φ 3) (c.getD k []) (k:Int) (qaK c k) (i:Int) (w64 ((j:Int)+1)) c (c.length:Int) (k:Int) ((c.getD k []).length:Int) (i:Int) c p st ms)=r) →
        Ev fun φ=>Z87.l2 (mkR (run E (φ 0))) (φ 0) (φ 1) (φ 2) (φ 3+1) (c.getD k []) (k:Int) (qaK c k) (i:Int) (j:Int) c (c.length:Int) (k:Int) ((c.getD k []).length:Int) (i:Int) c p st ms=r:=by
      intro j hij hj r hr
      have s1:Sq c p st ms k i (j-1):=⟨hk,hn,hi,by omega,h⟩
      have s2:Sq c p st ms k j i:=⟨hk,hn,hj,by omega,h⟩
      obtain⟨ix1,F1,_⟩:=qbf hv hk s1.hi
      obtain⟨ix2,F2,_⟩:=qbf hv hk s2.hi
      have g1:=qdl c p st ms k i hk s1.hi h
      have g2:=qdl c p st ms (fc c k i) (j-1) F1 s1.hj h
      have g3:=qdl c p st ms k j hk s2.hi h
      have g4:=qdl c p st ms (fc c k j) i F2 s2.hj h
      have ej:w64 ((j:Int)-1)=((j-1:Nat):Int):=by rw[qai (by omega) (by omega)];omega
      have j4:Ev fun φ=>Z87.j4 (mkR (run E (φ 0))) (φ 0) (φ 1) (φ 2) (φ 3) (c.getD k []) (k:Int) (qaK c k) (i:Int) (j:Int) c (c.length:Int) (k:Int) ((c.getD k []).length:Int) (i:Int) c p st ms
          (two c ms k i (j-1)).1 (two c ms k i (j-1)).2.1 (two c ms k i (j-1)).2.2.1 (two c ms k i (j-1)).2.2.2.1 (two c ms k j i).1 (two c ms k j i).2.1 (two c ms k j i).2.2.1 (two c ms k j i).2.2.2.1=r:=by
        simp only[Z87.j4_eq _ qag,ej]
        refine qaa (qhR (two c ms k i (j-1)) (two c ms k j i) (qoN s1.b1 s1.b2)) ?_
        by_cases he:two c ms k i (j-1)=two c ms k j i
        · rw[qaz he] at hr ⊢
          exact qaH rfl (by simpa using hr)
        · rw[qat he] at hr ⊢
          refine qaE rfl (qaf ix1 (qaa (qfY c (fc c k i) F1 hc hv) (qaf (qap s1.hj) ?_)))
          have:qoj c k i j=r:=by
            obtain⟨n0,hr⟩:=hr
            exact hr (fun _=>n0) (fun _=>Nat.le_refl _)
          rw[← this,qoj,qad s1.hj];exact qan
      have j3:Ev fun φ=>Z87.j3 (mkR (run E (φ 0))) (φ 0) (φ 1) (φ 2) (φ 3) (c.getD k []) (k:Int) (qaK c k) (i:Int) (j:Int) c (c.length:Int) (k:Int) ((c.getD k []).length:Int) (i:Int) c p st ms
          (two c ms k i (j-1)).1 (two c ms k i (j-1)).2.1 (two c ms k i (j-1)).2.2.1 (two c ms k i (j-1)).2.2.2.1=r:=by
        simp only[Z87.j3_eq _ qag]
        refine qaf ix2 (qcx (qaa g3 (qcx (qaa g4 (qcx (qaa s2.impl j4) (qaa s2.impl j4))) (qaa g4 (qaa s2.impl j4)))) (qaa g3 (qaa g4 (qaa s2.impl j4))))
      simp only[Z87.l2_succ _ qag,ej]
      refine qaE (decide_eq_true (by omega)) (qaf ix1 (qcx (qaa g1 (qcx (qaa g2 (qcx (qaa s1.impl j3) (qaa s1.impl j3))) (qaa g2 (qaa s1.impl j3)))) (qaa g1 (qaa g2 (qaa s1.impl j3)))))
    refine qf3 3 (L:=fun φ n j=>Z87.l2 (mkR (run E (φ 0))) (φ 0) (φ 1) (φ 2) n (c.getD k []) (k:Int) (qaK c k) (i:Int) j c (c.length:Int) (k:Int) ((c.getD k []).length:Int) (i:Int) c p st ms) (len:=(c.getD k []).length) (Bq c ms k i) (qoj c k i) rn (fun _ _ _ _=>rfl) (i+1) (fun j h1 h2 hB=>?_) (fun j q h1 h2 hB ih=>?_) (fun hno=>?_) _ (by omega)
    · refine round j h1 h2 _ (qaE ?_ qan)
      rw[qat hB];rfl
    · refine round j h1 h2 _ (qaH ?_ ?_)
      · rw[qaz (Classical.not_not.1 hB)];rfl
      · rw[qah (by omega)];exact ih
    · simp only[Z87.l2_succ _ qag]
      refine qaH (decide_eq_false (by omega)) ?_
      rw[qah (by omega)];exact hrn fun⟨j,h1,h2,h3⟩=>hno j h1 (by omega) h3
  have inner2:∀ k (hk:k<c.length) (hn:3≤(c.getD k []).length) (rn:Option Dv),
      (¬ Pk c ms k→Ev fun φ=>Z87.l0 (mkR (run E (φ 0))) (φ 0) (φ 1) c (c.length:Int) ((k+1:Nat):Int) c p st ms=rn) →
      Ev fun φ=>Z87.l1 (mkR (run E (φ 0))) (φ 0) (φ 1) (φ 0) (c.getD k []) (k:Int) (qaK c k) c (c.length:Int) (k:Int) ((c.getD k []).length:Int) 0 c p st ms=rK c ms (qoj c) k rn:=by
    intro k hk hn rn hrn
    have h4:=hv.len4 hk
    refine Ev.start (p:=fun φ n=>Z87.l1 (mkR (run E (φ 0))) (φ 0) (φ 1) n (c.getD k []) (k:Int) (qaK c k) c (c.length:Int) (k:Int) ((c.getD k []).length:Int) 0 c p st ms=_) 2 ?_ (fun _ _ _ h=>h)
    refine qf3 2 (L:=fun φ n i=>Z87.l1 (mkR (run E (φ 0))) (φ 0) (φ 1) n (c.getD k []) (k:Int) (qaK c k) c (c.length:Int) (k:Int) ((c.getD k []).length:Int) i c p st ms) (len:=(c.getD k []).length) (Pi c ms k) (fun i=>rI c ms (qoj c) k i none) rn (fun _ _ _ _=>rfl) 0 (fun i h1 h2 hP=>?_) (fun i q h1 h2 hP ih=>?_) (fun hno=>?_) _ (by omega)
    · simp only[Z87.l1_succ _ qag]
      refine qaE (decide_eq_true (by omega)) ?_
      rw[qah (by omega)]
      exact inner3 k i hk hn h2 none fun hn=>absurd hP hn
    · simp only[Z87.l1_succ _ qag]
      refine qaE (decide_eq_true (by omega)) ?_
      rw[qah (by omega)]
      exact(inner3 k i hk hn h2 q fun _=>ih).to (qrd hP)
    · simp only[Z87.l1_succ _ qag]
      refine qaH (decide_eq_false (by omega)) ?_
      rw[qah (by omega)];exact hrn fun⟨_,i,h1,h2,h3⟩=>hno i h1 (by omega) h3
  refine qf3 1 (L:=fun φ n k=>Z87.l0 (mkR (run E (φ 0))) (φ 0) n c (c.length:Int) k c p st ms) (len:=c.length) (Pk c ms) (fun k=>rK c ms (qoj c) k none) _ (fun _ _ _ _=>rfl) 0 (fun k h1 h2 hP=>?_) (fun k q h1 h2 hP ih=>?_) (fun hno=>?_) _ (by omega)
  · simp only[Z87.l0_succ _ qag]
    refine qaE (decide_eq_true (by omega)) (qaf (qap h2) ?_)
    have hn:=hP.1
    rw[← qad (d:=[]) h2]
    exact qaH (decide_eq_false (by omega)) (qaa (qfY c k h2 hc hv) (inner2 k h2 hn none fun hn=>absurd hP hn))
  · simp only[Z87.l0_succ _ qag]
    refine qaE (decide_eq_true (by omega)) (qaf (qap h2) ?_)
    rw[← qad (d:=[]) h2]
    refine qfa (fun hlt=>?_) fun hlt=>?_
    · rw[qah (by omega)];exact ih
    · exact qaa (qfY c k h2 hc hv) ((inner2 k h2 (by omega) q fun _=>ih).to (qq3 hP (by omega)))
  · simp only[Z87.l0_succ _ qag]
    exact qaH (decide_eq_false (by omega)) qan
end VeT
open Go Go.Proofs Ve
namespace VeT
noncomputable def wI(c:List Sim)(ms:List Mat):Int×Int×Bool×Unit:=match qcf c ms with
 | some (k,i,j)=>((k:Int),(qaK c (fc c k i)).getD (j-1) 0,true,())
 | none=>(0,0,false,())
theorem qhf(c:List Sim)(p:Int)(st:Sim)(ms:List Mat)(hc:Sm yK c)(h:VS c p st ms):Ret E n_Z87 [dLL c,dI p,dL st,dMs ms] ⟨o_Z87,wI c ms⟩:=by
 refine qal ((qgM c p st ms hc h).to ?_)
 cases hw:qcf c ms with
 | none=>rw[qg9 hw,wI,hw]
 | some t =>
  obtain⟨k,i,j⟩:=t
  rw[(qh4 hw).2.2.2.2,wI,hw];rfl
def ISh(x:Shf):Prop:=VS x.1 x.2.1 x.2.2.1 x.2.2.2.1∧qcf x.1 x.2.2.2.1=none
theorem qd5(x:Shf)(hx:Sm (.st cS) x):Ret E n_Z8 [dLL x.1,dI x.2.1,dL x.2.2.1,dMs x.2.2.2.1] ⟨o_Z8,(pb (ISh x),())⟩:=by
 refine qal ?_
 simp only[run_Z8,Z8.ev]
 refine qaa (qjm x hx) (qdR (fun h=>qam ?_) fun h=>?_)
 ·have h:=qcr.1 (show pb (VS x.1 x.2.1 x.2.2.1 x.2.2.2.1)=false by simpa using h)
  rw[qat fun hi=>h hi.1]
 ·have h:=qaV.1 (show pb (VS x.1 x.2.1 x.2.2.1 x.2.2.2.1)=true by simpa using h)
  refine qaa (qhf _ _ _ _ hx.1 h) (qam ?_)
  have:(!(wI x.1 x.2.2.2.1).2.2.1)=pb (ISh x):=qjS (by
   unfold ISh wI
   cases hw:qcf x.1 x.2.2.2.1 with
   | none=>simp[h]
   | some t=>simp)
  rw[this]
theorem qeR{s:Sim}{i j:Nat}(h:i<j):(s.eraseIdx j).eraseIdx i=(s.eraseIdx i).eraseIdx (j-1):=by
 apply List.ext_getElem?
 intro n
 rw[List.getElem?_eraseIdx,List.getElem?_eraseIdx,List.getElem?_eraseIdx,List.getElem?_eraseIdx]
 by_cases h1:n<i
 ·rw[if_pos h1,if_pos (by omega),if_pos (by omega),List.getElem?_eraseIdx,if_pos h1]
 ·by_cases h2:n+1<j
  ·rw[if_neg h1,if_pos h2,if_pos (by omega),List.getElem?_eraseIdx,if_neg h1]
  ·rw[if_neg h1,if_neg h2,if_neg (by omega),List.getElem?_eraseIdx,if_neg (by omega)]
def SDn(c:List Sim)(st:Sim)(d:Int)(n:Nat):Int:=((qaq c d n).map fun i=>st.getD i.toNat 0).sum
theorem qmp{c:List Sim}{st:Sim}{d:Int}:SD c st d=SDn c st d c.length:=by
 unfold SD qjP SDn
 rw[List.take_of_length_le (Nat.le_refl _)]
theorem qeu{c:List Sim}{st:Sim}{d:Int}{n:Nat}:SDn c st d (n+1)=SDn c st d n+if ((c.getD n []).length:Int)=d+1 then st.getD n 0 else 0:=by
 unfold SDn
 rw[qbJ,List.map_append,List.sum_append]
 split<;>simp
theorem qoB{c:List Sim}{p:Int}{st:Sim}{ms:List Mat}(h:VS c p st ms)(d:Nat)(hd:d<4):0≤SD c st (d:Int)∧SD c st (d:Int)≤32:=⟨qmR h.2.2.1.2.1 _,h.2.2.1.2.2 d hd⟩
end VeT
open Go Go.Proofs Ve
namespace VeT
theorem qmm{st:Sim}(hst:∀ x∈st,0≤x∧x≤3)(k:Nat):0≤st.getD k 0∧st.getD k 0≤3:=by
 by_cases hl:k<st.length
 ·rw[qad hl];exact hst _ (List.getElem_mem hl)
 ·rw[List.getD_eq_getElem?_getD,List.getElem?_eq_none (by omega)];simp
theorem qk0{c:List Sim}{st:Sim}{d:Int}(hst:∀ x∈st,0≤x∧x≤3):∀ {n:Nat},0≤SDn c st d n∧SDn c st d n≤3*n
 | 0=>by simp[SDn,qaq]
 | n+1=>by
  have h1:=qk0 (c:=c) (d:=d) hst (n:=n)
  have h2:=qmm hst n
  rw[qeu];split<;>omega
theorem qox{c:List Sim}{st:Sim}{d:Int}(hst:∀ x∈st,0≤x∧x≤3){n m:Nat}(h:n≤m):SDn c st d n≤SDn c st d m:=by
 induction h with
 | refl=>exact Int.le_refl _
 | @step m h ih=>rw[qeu];have:=qmm hst m;split<;>omega
theorem qnu{c:List Sim}{st:Sim}{d:Int}(hst:∀ x∈st,0≤x∧x≤3){s n:Nat}(hs:s<n)(hd:((c.getD s []).length:Int)=d+1):SDn c st d s+st.getD s 0≤SDn c st d n:=by
 have:=qox (c:=c) (d:=d) hst (show s+1≤n from hs)
 rw[qeu,if_pos hd] at this;exact this
theorem qec{c:List Sim}{d:Int}{s n:Nat}(hs:s<n)(hd:((c.getD s []).length:Int)=d+1):∃ tl,qaq c d n=qaq c d s++(s:Int)::tl:=by
 induction n with
 | zero=>omega
 | succ n ih =>
  rw[qbJ]
  by_cases h:s=n
  ·subst h;exact⟨[],by rw[if_pos hd]⟩
  ·obtain⟨tl,e⟩:=ih (by omega)
   exact⟨tl++_,by rw[e,List.append_assoc];rfl⟩
theorem qbE{c:List Sim}{d:Int}{k:Nat}{x:Int}:x∈qaq c d k↔∃ i:Nat,x=i∧i<k∧((c.getD i []).length:Int)=d+1:=by
 unfold qaq
 rw[List.mem_map]
 constructor
 ·rintro⟨i,hi,rfl⟩
  have:=List.mem_filter.1 hi
  exact⟨i,rfl,by simpa using this.1,by simpa using this.2⟩
 ·rintro⟨i,rfl,h1,h2⟩
  exact⟨i,List.mem_filter.2 ⟨by simpa using h1,by simpa using h2⟩,rfl⟩
def FC(c:List Sim)(st:Sim)(s:Nat):Int:=SDn c st (((c.getD s []).length:Int)-1) s
theorem qme{c:List Sim}{st:Sim}(hst:∀ x∈st,0≤x∧x≤3){s:Nat}(hs:s<c.length):0≤FC c st s∧FC c st s+st.getD s 0≤SD c st (((c.getD s []).length:Int)-1):=by
 refine⟨(qk0 hst).1,?_⟩
 rw[qmp]
 exact qnu hst hs (by omega)
abbrev St:=List (Nat×Int)
def qev(S:St)(cs:Sim):Sim:=S.foldl (fun cs q=>cs.set q.1 q.2) cs
theorem qcQ{S T:St}{cs:Sim}:qev (S++T) cs=qev T (qev S cs):=by simp[qev]
theorem qqP{q:Nat}{v:Int}{cs:Sim}:qev [(q,v)] cs=cs.set q v:=rfl
theorem qcl{S:St}:∀ {cs:Sim},(qev S cs).length=cs.length:=by
 induction S with
 | nil=>intro cs;rfl
 | cons q S ih=>intro cs;show(qev S (cs.set q.1 q.2)).length=_;rw[ih,List.length_set]
theorem qiU{p:Int}{S:St}:∀ {cs:Sim},qbl cs p→(∀ q∈S,0≤q.2∧q.2≤p-1)→qbl (qev S cs) p:=by
 induction S with
 | nil=>intro cs h _;exact h
 | cons q S ih =>
  intro cs h hS
  refine ih (cs:=cs.set q.1 q.2) (fun x hx=>?_) fun y hy=>hS y (List.mem_cons_of_mem _ hy)
  rcases List.mem_or_eq_of_mem_set hx with hx | rfl
  ·exact h x hx
  ·exact hS q List.mem_cons_self
theorem qkx{S:St}{q:Nat}:∀ {cs:Sim},(∀ x∈S,x.1≠q)→(qev S cs).getD q 0=cs.getD q 0:=by
 induction S with
 | nil=>intro cs _;rfl
 | cons y S ih =>
  intro cs h
  have e:=ih (cs:=cs.set y.1 y.2) fun x hx=>h x (List.mem_cons_of_mem _ hx)
  show(qev S (cs.set y.1 y.2)).getD q 0=_
  rw[e,List.getD_eq_getElem?_getD,List.getD_eq_getElem?_getD,List.getElem?_set_ne (h y List.mem_cons_self)]
theorem qom{S:St}{q:Nat}{v:Int}:∀ {cs:Sim},q<cs.length→(∀ x∈S,x.1=q→x.2=v)→(∃ x∈S,x.1=q)→(qev S cs).getD q 0=v:=by
 induction S with
 | nil=>intro cs _ _ ⟨x,hx,_⟩;simp at hx
 | cons y S ih =>
  intro cs hq hall ⟨x,hx,e⟩
  show(qev S (cs.set y.1 y.2)).getD q 0=_
  by_cases hS:∃ x∈S,x.1=q
  ·exact ih (by rw[List.length_set];exact hq) (fun x hx=>hall x (List.mem_cons_of_mem _ hx)) hS
  ·rw[qkx fun x hx e=>hS ⟨x,hx,e⟩]
   rcases List.mem_cons.1 hx with rfl | hx
   ·subst e
    rw[List.getD_eq_getElem?_getD,List.getElem?_set_self hq]
    exact hall x List.mem_cons_self rfl
   ·exact absurd ⟨x,hx,e⟩ hS
def sgn(p:Int)(a:Nat):Int:=if a%2=0 then 1 else p-1
theorem qqp{p:Int}(hp:2≤p∧p≤251)(a:Nat):0≤sgn p a∧sgn p a≤p-1:=by
 unfold sgn;split<;>omega
def stJ(p:Int)(m:Mat)(W top left:Nat)(sg:Int)(i n:Nat):St:=(List.range n).map fun j=>((top+i)*W+left+j,m.2.2.2.1.getD (i*m.2.2.1.toNat+j) 0*sg%p)
def stI(p:Int)(m:Mat)(W top left:Nat)(sg:Int)(n:Nat):St:=(List.range n).flatMap fun i=>stJ p m W top left sg i m.2.2.1.toNat
noncomputable def stF(c:List Sim)(p:Int)(st:Sim)(ms:List Mat)(k:Int)(s n:Nat):St :=
 (List.range n).flatMap fun a=>stI p (mp c ms s a) (SD c st k).toNat (FC c st s).toNat (FC c st (fc c s a)).toNat (sgn p a) (mp c ms s a).2.1.toNat
noncomputable def stS(c:List Sim)(p:Int)(st:Sim)(ms:List Mat)(k:Int)(n:Nat):St :=
 ((qaq c (k+1) c.length).take n).flatMap fun s=>stF c p st ms k s.toNat (qaK c s.toNat).length
open Classical in
noncomputable def qdW(c:List Sim)(p:Int)(st:Sim)(ms:List Mat)(k:Int):Sim :=
 if k<0 then List.replicate ((SD c st (k+1)).toNat*(SD c st k).toNat) 0 else qev (stS c p st ms k (qaq c (k+1) c.length).length) (List.replicate ((SD c st (k+1)).toNat*(SD c st k).toNat) 0)
noncomputable def qqL(c:List Sim)(p:Int)(st:Sim)(ms:List Mat)(k:Int):Mat:=(p,SD c st (k+1),SD c st k,qdW c p st ms k,())
theorem qnt{p:Int}{m:Mat}{W top left:Nat}{sg:Int}{i n:Nat}{q:Nat×Int}:q∈stJ p m W top left sg i n↔∃ j,j<n∧q=((top+i)*W+left+j,m.2.2.2.1.getD (i*m.2.2.1.toNat+j) 0*sg%p):=by
 unfold stJ
 rw[List.mem_map]
 constructor
 ·rintro⟨j,hj,rfl⟩;exact⟨j,List.mem_range.1 hj,rfl⟩
 ·rintro⟨j,hj,rfl⟩;exact⟨j,List.mem_range.2 hj,rfl⟩
theorem qjA{c:List Sim}{p:Int}{st:Sim}{ms:List Mat}{k:Int}{s n:Nat}{q:Nat×Int}:q∈stF c p st ms k s n↔∃ a i j,a<n∧i<(mp c ms s a).2.1.toNat∧j<(mp c ms s a).2.2.1.toNat ∧
  q=(((FC c st s).toNat+i)*(SD c st k).toNat+(FC c st (fc c s a)).toNat+j,(mp c ms s a).2.2.2.1.getD (i*(mp c ms s a).2.2.1.toNat+j) 0*sgn p a%p):=by
 unfold stF stI
 rw[List.mem_flatMap]
 constructor
 ·rintro⟨a,ha,h⟩
  obtain⟨i,hi,h⟩:=List.mem_flatMap.1 h
  obtain⟨j,hj,e⟩:=qnt.1 h
  exact⟨a,i,j,List.mem_range.1 ha,List.mem_range.1 hi,hj,e⟩
 ·rintro⟨a,i,j,ha,hi,hj,e⟩
  exact⟨a,List.mem_range.2 ha,List.mem_flatMap.2 ⟨i,List.mem_range.2 hi,qnt.2 ⟨j,hj,e⟩⟩⟩
theorem qjB{c:List Sim}{p:Int}{st:Sim}{ms:List Mat}{k:Int}{n:Nat}{q:Nat×Int}(hn:(qaq c (k+1) c.length).length≤n):q∈stS c p st ms k n↔∃ s:Nat,s<c.length∧((c.getD s []).length:Int)=k+2∧q∈stF c p st ms k s (qaK c s).length:=by
 unfold stS
 rw[List.take_of_length_le hn,List.mem_flatMap]
 constructor
 ·rintro⟨x,hx,h⟩
  obtain⟨s,rfl,h1,h2⟩:=qbE.1 hx
  exact⟨s,h1,by omega,h⟩
 ·rintro⟨s,h1,h2,h⟩
  exact⟨(s:Int),qbE.2 ⟨s,rfl,h1,by omega⟩,h⟩
theorem qcL{c:List Sim}{p:Int}{st:Sim}{ms:List Mat}(h:VS c p st ms){k:Int}{s a:Nat}(hs:s<c.length)(hd:((c.getD s []).length:Int)=k+2)(ha:a<(qaK c s).length) :
  (mp c ms s a).2.1=st.getD s 0∧(mp c ms s a).2.2.1=st.getD (fc c s a) 0∧fc c s a<c.length∧((c.getD (fc c s a) []).length:Int)=k+1 ∧
  (0≤FC c st s∧FC c st s+st.getD s 0≤SD c st (k+1))∧0≤FC c st (fc c s a)∧FC c st (fc c s a)+st.getD (fc c s a) 0≤SD c st k:=by
 obtain⟨_,hb⟩:=h.map hs ha
 obtain⟨_,hf,hg⟩:=qbf h.1 hs ha
 have hl:=qaB (c:=c) (k:=s)
 have hfl:((c.getD (fc c s a) []).length:Int)=k+1:=by
  rw[hg,List.length_eraseIdx]
  split at hl
  ·rw[if_pos (by omega)];omega
  ·omega
 have b1:=qme h.2.2.1.2.1 hs
 have b2:=qme h.2.2.1.2.1 hf
 rw[show((c.getD s []).length:Int)-1=k+1 by omega] at b1
 rw[show((c.getD (fc c s a) []).length:Int)-1=k by omega] at b2
 exact⟨hb.2.2.1,hb.2.2.2,hf,hfl,b1,b2⟩
theorem qjK{c:List Sim}(hv:VC c)(st:Sim){d:Int}(hd:d<0∨4≤d):SD c st d=0:=by
 have:qaq c d c.length=[]:=List.eq_nil_iff_forall_not_mem.2 fun x hx=>by
  obtain⟨i,_,hi,hl⟩:=qbE.1 hx
  have:=hv.2.1 i hi
  have h1:=this.1
  have h2:=this.2.1
  omega
 rw[qmp,SDn,this];rfl
theorem qhB{c:List Sim}{p:Int}{st:Sim}{ms:List Mat}(h:VS c p st ms)(d:Int):∃ n:Nat,SD c st d=(n:Int)∧n≤32∧(SD c st d).toNat=n:=by
 by_cases hd:d<0∨4≤d
 ·exact⟨0,qjK h.1 st hd,by omega,by rw[qjK h.1 st hd];rfl⟩
 ·have:=qoB h d.toNat (by omega)
  rw[Int.toNat_of_nonneg (by omega)] at this
  exact⟨(SD c st d).toNat,by omega,by omega,rfl⟩
theorem qb2{c:List Sim}{p:Int}{st:Sim}{ms:List Mat}{k:Int}:(qdW c p st ms k).length=(SD c st (k+1)).toNat*(SD c st k).toNat:=by
 unfold qdW;split
 ·rw[List.length_replicate]
 ·rw[qcl,List.length_replicate]
theorem qkK{n:Nat}{p:Int}(hp:2≤p):qbl (List.replicate n 0) p:=fun x hx=>by
 rw[List.mem_replicate] at hx;omega
theorem qck{c:List Sim}{p:Int}{st:Sim}{ms:List Mat}(h:VS c p st ms)(k:Int):qbl (qdW c p st ms k) p:=by
 have hp:=h.2.1.1
 unfold qdW;split
 ·exact qkK hp
 ·refine qiU (qkK hp) fun q hq=>?_
  obtain⟨s,_,_,hq⟩:=(qjB (Nat.le_refl _)).1 hq
  obtain⟨a,i,j,_,_,_,rfl⟩:=qjA.1 hq
  have h0:=Int.emod_nonneg ((mp c ms s a).2.2.2.1.getD (i*(mp c ms s a).2.2.1.toNat+j) 0*sgn p a) (show p≠0 by omega)
  have h1:=Int.emod_lt_of_pos ((mp c ms s a).2.2.2.1.getD (i*(mp c ms s a).2.2.1.toNat+j) 0*sgn p a) (show 0<p by omega)
  exact⟨h0,by simp only;omega⟩
end VeT
open Go Go.Proofs Ve
namespace VeT
theorem qkM(s:Sim)(v:Int)(hs:s.length≤1048576):Ret E n_Z121 [dL s,dI v] ⟨o_Z121,(qgG (fun x=>pb (x=v)) s,())⟩:=by
  obtain⟨o,h1,h2,h3⟩:=qbU 1 (L:=fun φ n k=>Z121.l0 (mkR (run E (φ 0))) (φ 0) n s v (s.length:Int) k) (len:=s.length) (fun k=>∃ h:k<s.length,pb (s[k]=v)=true) (fun o=>some ⟨o_Z121,(o2i o,())⟩) (fun _ _ _ _=>rfl) (fun k hk hP=>by
      obtain⟨_,hP⟩:=hP
      have hP:=qaV.1 hP
      simp only[Z121.l0_succ _ qag]
      exact qaE (decide_eq_true (by omega)) (qaf (qap hk) (qaE (by simp[hP]) qan))) (fun k q hk hP ih=>by
      simp only[Z121.l0_succ _ qag]
      refine qaE (decide_eq_true (by omega)) (qaf (qap hk) (qaH (by simp only[beq_eq_false_iff_ne];exact fun e=>hP ⟨hk,qaz e.symm⟩) ?_))
      rw[qah (by omega)];exact ih) (by
      simp only[Z121.l0_succ _ qag]
      exact qaH (decide_eq_false (by omega)) qan)
  rw[qcw (p:=fun x=>pb (x=v)) h1 h2] at h3
  refine qal ?_
  simp only[run_Z121,Z121.ev]
  exact Ev.start (p:=fun φ n=>Z121.l0 (mkR (run E (φ 0))) (φ 0) n s v (s.length:Int) 0=_) 1 h3 (fun _ _ _ h=>h)
theorem qkz(s:Sim)(v:Int)(hs:s.length≤1048576):Ret E n_Z108 [dL s,dI v] ⟨o_Z108,(pb (v∈s),())⟩:=by
 refine qal ?_
 simp only[run_Z108,Z108.ev]
 refine qaa (qkM s v hs) (qam ?_)
 have:decide (qgG (fun x=>pb (x=v)) s≥0)=pb (v∈s):=qjS (by
  rw[decide_eq_true_iff,ge_iff_le,qbG]
  exact⟨fun⟨x,h,e⟩=>qaV.1 e ▸ h,fun h=>⟨v,h,qaz rfl⟩⟩)
 simp only[this]
end VeT
open Go Go.Proofs Ve
namespace VeT
theorem qmx(i j:Nat):Ret E n_Z89 [dI (i:Int),dI (j:Int)] ⟨o_Z89,((0:Int),())⟩:=by
 refine qal ?_
 simp only[run_Z89,Z89.ev]
 (first | exact qan | exact Ev.of fun _=>trivial)
theorem qf0{C:Nat}:∀ {n:Nat},qaR (fun _ _=>0) C n=List.replicate (n*C) 0
 | 0=>by simp[qaR]
 | n+1=>by
  rw[qaR,qf0,Nat.add_mul,Nat.one_mul,← List.replicate_append_replicate]
  congr 1
  rw[List.map_const',List.length_range]
theorem qmc(p:Int)(R C:Nat)(hR:R≤32)(hC:C≤32):Ret E n_Z88 [dI p,dI (R:Int),dI (C:Int)] ⟨o_Z88,(p,(R:Int),(C:Int),List.replicate (R*C) 0,())⟩:=by
 have h1:=qfK hR hC
 refine qal ?_
 simp only[run_Z88,Z88.ev]
 rw[← qf0]
 exact qaa (qdU p R C (fun _ _=>0) (by omega) (by omega) (by omega) fun i j _ _=>qmx i j) qan
theorem qeo(c:List Sim)(p:Int)(st:Sim)(ms:List Mat)(s:Nat)(hs:s<c.length)(hc:Sm yK c)(hl:st.length=c.length)(hst:∀ x∈st,0≤x∧x≤3) :
  Ret E n_Z52 [dLL c,dI p,dL st,dMs ms,dI (s:Int)] ⟨o_Z52,(FC c st s,())⟩:=by
 have hc1:c.length≤1048576:=hc.1
 have hls:(c[s]).length≤1048576:=(qbS hc hs).1
 have e:w64 (((c[s]).length:Int)-1)=((c[s]).length:Int)-1:=qai (by omega) (by omega)
 obtain⟨tl,hpre⟩:=qec (c:=c) (d:=((c[s]).length:Int)-1) hs (by rw[qad hs];omega)
 have hF:FC c st s=SDn c st (((c[s]).length:Int)-1) s:=by rw[FC,qad hs]
 refine qal ?_
 simp only[run_Z52,Z52.ev]
 refine qaf (qap hs) (qaa (qfI _) ?_)
 simp only[e]
 refine qaa (qb9 c (((c[s]).length:Int)-1) hc ⟨by omega,by omega⟩) ?_
 rw[hF]
 generalize ((c[s]).length:Int)-1=d at hpre ⊢
 have hol:=qbF c d c.length
 have hlen:(qaq c d s).length<(qaq c d c.length).length:=by rw[hpre];simp
 refine Ev.start (p:=fun φ n=>Z52.l0 (mkR (run E (φ 0))) (φ 0) n (s:Int) 0 (qaq c d c.length) ((qaq c d c.length).length:Int) 0 c p st ms=_) 1 ?_ (fun _ _ _ h=>h)
 refine qe2 1 (σ:=Nat) (L:=fun φ n t=>Z52.l0 (mkR (run E (φ 0))) (φ 0) n (s:Int) (qjP c st d t) (qaq c d c.length) ((qaq c d c.length).length:Int) (t:Int) c p st ms) (fun _ _ _ _=>rfl) (fun t=>t≤(qaq c d s).length) (fun _=>_) (fun t=>(qaq c d s).length-t) (fun t ht ih=>?_) 0 (Nat.zero_le _)
 have ht:t≤(qaq c d s).length:=ht
 have htl:t<(qaq c d c.length).length:=by omega
 simp only[Z52.l0_succ _ qag]
 refine qaE (decide_eq_true (by omega)) ?_
 by_cases h:t=(qaq c d s).length
 ·have hg:(qaq c d c.length)[t]? = some (s:Int):=by rw[hpre,h,List.getElem?_append_right (Nat.le_refl _),Nat.sub_self];rfl
  refine qaf (qbX.trans hg) (qaE (by simp) (qam ?_))
  have:qjP c st d t=SDn c st d s:=by
   unfold qjP SDn
   rw[hpre,h,List.take_left' rfl]
  rw[this]
 ·have hp:t<(qaq c d s).length:=by omega
  obtain⟨i,hi,his⟩:=qdn (List.getElem_mem hp)
  have hg:(qaq c d c.length)[t]? = some (i:Int):=by rw[hpre,List.getElem?_append_left hp,List.getElem?_eq_getElem hp,hi]
  have hgi:(qaq c d c.length)[t]=(i:Int):=by rw[List.getElem?_eq_getElem htl] at hg;exact Option.some.inj hg
  have hil:i<st.length:=by omega
  have:=ih (t+1) (by show t+1≤_;omega) (by show(qaq c d s).length-(t+1)<(qaq c d s).length-t;omega)
  rw[qhK _ _ _ _ htl,hgi,Int.toNat_natCast,qad hil] at this
  have hb:=qla hst d t (c:=c)
  have hb2:=hst _ (List.getElem_mem hil)
  refine qaf (qbX.trans hg) (qaH (by simp;omega) (qaf (qap hil) ?_))
  rw[qah (by omega),qai (by omega) (by omega)]
  exact this
theorem qhE(p:Int)(i:Nat)(hp:2≤p∧p≤251):Ret E n_Z25 [dI (i:Int),dI p] ⟨o_Z25,(sgn p i,())⟩:=by
 refine qal ?_
 simp only[run_Z25,Z25.ev]
 rw[Int.tmod_eq_emod_of_nonneg (by omega),qai (by omega) (by omega)]
 refine qdR (fun h=>qam ?_) fun h=>qam ?_
 ·have h:(i:Int)%2=0:=by simpa using h
  rw[sgn,if_pos (by omega)]
 ·have h:¬ (i:Int)%2=0:=by simpa using h
  rw[sgn,if_neg (by omega)]
theorem qoY{p:Int}{m:Mat}{W top left:Nat}{sg:Int}{i n:Nat}{cs:Sim}:qev (stJ p m W top left sg i (n+1)) cs=(qev (stJ p m W top left sg i n) cs).set ((top+i)*W+left+n) (m.2.2.2.1.getD (i*m.2.2.1.toNat+n) 0*sg%p):=by
 unfold stJ
 rw[List.range_succ,List.map_append,qcQ];rfl
theorem qo1{p:Int}{m:Mat}{W top left:Nat}{sg:Int}{n:Nat}{cs:Sim}:qev (stI p m W top left sg (n+1)) cs=qev (stJ p m W top left sg n m.2.2.1.toNat) (qev (stI p m W top left sg n) cs):=by
 unfold stI
 rw[List.range_succ,List.flatMap_append,qcQ,List.flatMap_singleton]
theorem qoI{c:List Sim}{p:Int}{st:Sim}{ms:List Mat}{k:Int}{s n:Nat}{cs:Sim}:qev (stF c p st ms k s (n+1)) cs=qev (stI p (mp c ms s n) (SD c st k).toNat (FC c st s).toNat (FC c st (fc c s n)).toNat (sgn p n) (mp c ms s n).2.1.toNat) (qev (stF c p st ms k s n) cs):=by
 unfold stF
 rw[List.range_succ,List.flatMap_append,qcQ,List.flatMap_singleton]
theorem qov{c:List Sim}{p:Int}{st:Sim}{ms:List Mat}{k:Int}{n:Nat}{cs:Sim}(hn:n<(qaq c (k+1) c.length).length){s:Nat}(hs:(qaq c (k+1) c.length)[n]=(s:Int)):qev (stS c p st ms k (n+1)) cs=qev (stF c p st ms k s (qaK c s).length) (qev (stS c p st ms k n) cs):=by
 unfold stS
 rw[List.take_succ_eq_append_getElem hn,List.flatMap_append,qcQ,List.flatMap_singleton,hs,Int.toNat_natCast]
end VeT
open Go Go.Proofs Ve
namespace VeT
structure CobF (c:List Sim) (p:Int) (st:Sim) (ms:List Mat) (k:Int) (s a T L R C H W:Nat):Prop where
 sl:s<c.length
 al:a<(qaK c s).length
 eT:FC c st s=(T:Int)
 eL:FC c st (fc c s a)=(L:Int)
 eR:(mp c ms s a).2.1=(R:Int)
 eC:(mp c ms s a).2.2.1=(C:Int)
 eW:SD c st k=(W:Int)
 hT:T+R≤H
 hL:L+C≤W
 hH:H≤32
 hW:W≤32
 len:(mp c ms s a).2.2.2.1.length=R*C
 el:qbl (mp c ms s a).2.2.2.1 p
 hp:2≤p∧p≤251
 hR:R≤32
 hC:C≤32
 h4:a≤4
theorem qpJ{c:List Sim}{p:Int}{st:Sim}{ms:List Mat}(h:VS c p st ms){k:Int}{s a H W:Nat}(hs:s<c.length)(hd:((c.getD s []).length:Int)=k+2)(ha:a<(qaK c s).length)(eH:SD c st (k+1)=(H:Int))(eW:SD c st k=(W:Int))(hH:H≤32)(hW:W≤32) :
  ∃ T L R C:Nat,CobF c p st ms k s a T L R C H W:=by
 obtain⟨g1,g2,g3,g4,g5,g6,g7⟩:=qcL h hs hd ha
 obtain⟨_,hb⟩:=h.map hs ha
 obtain⟨R,C,em,hR,hC,hlen⟩:=hb.1.nat
 have e1:(mp c ms s a).2.1=(R:Int):=congrArg (fun m:Mat=>m.2.1) em
 have e2:(mp c ms s a).2.2.1=(C:Int):=congrArg (fun m:Mat=>m.2.2.1) em
 have hp:2≤p∧p≤251:=⟨h.2.1.1,h.2.1.2.1⟩
 have el:=hb.1.2.2.2.2
 rw[hb.2.1] at el
 have h4:=h.1.fIdx4 hs
 exact⟨(FC c st s).toNat,(FC c st (fc c s a)).toNat,R,C,hs,ha,by omega,by omega,e1,e2,eW,by omega,by omega,hH,hW,hlen,el,hp,hR,hC,by omega⟩
theorem qqs{T L i j W H:Nat}(h1:T+i<H)(h2:L+j<W)(hH:H≤32)(hW:W≤32):w64 (w64 (w64 (w64 ((T:Int)+(i:Int))*(W:Int))+(L:Int))+(j:Int))=(((T+i)*W+L+j:Nat):Int)∧(T+i)*W+L+j<H*W:=by
 have hlt:=qmj h1 h2
 have:=qfK hH hW
 have e1:w64 ((T:Int)+(i:Int))=((T+i:Nat):Int):=by rw[qai (by omega) (by omega)];omega
 have e2:w64 (((T+i:Nat):Int)*(W:Int))=(((T+i)*W:Nat):Int):=by rw[qdv];exact qai (by omega) (by omega)
 have e3:w64 ((((T+i)*W:Nat):Int)+(L:Int))=(((T+i)*W+L:Nat):Int):=by rw[qai (by omega) (by omega)];omega
 have e4:w64 ((((T+i)*W+L:Nat):Int)+(j:Int))=(((T+i)*W+L+j:Nat):Int):=by rw[qai (by omega) (by omega)];omega
 rw[e1,e2,e3,e4]
 exact⟨rfl,by omega⟩
theorem qqA{x y p:Int}(hx:0≤x∧x≤250)(hy:0≤y∧y≤250)(hp:2≤p∧p≤251):Int.tmod (w64 (x*y)) p=x*y%p:=by
 have:=qit hx hy
 rw[qai (by omega) (by omega),Int.tmod_eq_emod_of_nonneg (by omega)]
theorem qcz(c:List Sim)(p:Int)(st:Sim)(ms:List Mat)(k:Int)(hk:-1≤k∧k≤3)(hc:Sm yK c)(h:VS c p st ms) :
    Ret E n_Z32 [dLL c,dI p,dL st,dMs ms,dI k] ⟨o_Z32,qqL c p st ms k⟩:=by
  obtain⟨H,eH,bH,tH⟩:=qhB h (k+1)
  obtain⟨W,eW,bW,tW⟩:=qhB h k
  have hst:=h.2.2.1.2.1
  have hl:=h.2.2.1.1
  have h48:=h.1.1
  have ek:w64 (k+1)=k+1:=qai (by omega) (by omega)
  have hHW:=qfK bH bW
  have s1:=qc9 c st (k+1) p ms hc hl hst (by omega)
  have s2:=qc9 c st k p ms hc hl hst (by omega)
  rw[show qjP c st (k+1) (qaq c (k+1) c.length).length=(H:Int) from eH] at s1
  rw[show qjP c st k (qaq c k c.length).length=(W:Int) from eW] at s2
  have z:=qmc p H W bH bW
  have hM:qqL c p st ms k=(p,(H:Int),(W:Int),qdW c p st ms k,()):=by rw[qqL,eH,eW]
  rw[hM]
  refine qal ?_
  simp only[run_Z32,Z32.ev,ek]
  suffices hmain:Ev fun φ=>Z32.j0 (mkR (run E (φ 0))) (φ 0) k c p st ms 0 0 0 p (H:Int) (W:Int) (List.replicate (H*W) 0)=some ⟨o_Z32,(p,(H:Int),(W:Int),qdW c p st ms k,())⟩ by
    exact qcx (qaa s1 (qcx (qaa s2 (qcx (qaa z hmain) (qaa z hmain))) (qaa s2 (qaa z hmain)))) (qaa s1 (qaa s2 (qaa z hmain)))
  simp only[Z32.j0_eq _ qag,ek]
  refine qaa (qb9 c (k+1) hc (by omega)) ?_
  have hol:=qbF c (k+1) c.length
  by_cases hk0:k<0
  · have e0:qdW c p st ms k=List.replicate (H*W) 0:=by rw[qdW,if_pos hk0,tH,tW]
    rw[e0]
    refine Ev.start (p:=fun φ n=>Z32.l1 (mkR (run E (φ 0))) (φ 0) n k (qaq c (k+1) c.length) ((qaq c (k+1) c.length).length:Int) 0 c p st ms 0 0 0 p (H:Int) (W:Int) (List.replicate (H*W) 0)=_) 1 ?_ (fun _ _ _ h=>h)
    refine Ev.round 1 (L:=fun φ n=>Z32.l1 (mkR (run E (φ 0))) (φ 0) n k (qaq c (k+1) c.length) ((qaq c (k+1) c.length).length:Int) 0 c p st ms 0 0 0 p (H:Int) (W:Int) (List.replicate (H*W) 0)) ?_ (fun _ _ _=>rfl)
    simp only[Z32.l1_succ _ qag,Z32.j2_eq _ qag]
    refine qfa (fun hlt=>?_) fun _=>qan
    have hlt:0<(qaq c (k+1) c.length).length:=by omega
    exact qaf (qap (k:=0) hlt) (qaE (decide_eq_true hk0) qan)
  have e0:qdW c p st ms k=qev (stS c p st ms k (qaq c (k+1) c.length).length) (List.replicate (H*W) 0):=by rw[qdW,if_neg hk0,tH,tW]
  rw[e0]
  -- one row of a face' stores
  have r5:∀(s a T L R C i:Nat) (F:CobF c p st ms k s a T L R C H W) (t:Nat) (ls:Sim) (n1:Int) (fs:Sim) (n2:Int) (cs:Sim) (hcs:cs.length=H*W) (hi:i<R) (r:Option Dv),
      (Ev fun φ=>Z32.l4 (mkR (run E (φ 0))) (φ 0) (φ 1) (φ 2) (φ 3) k (s:Int) (a:Int) (T:Int) (L:Int) ls n1 (t:Int) fs n2 (a:Int) (R:Int) ((i+1:Nat):Int) c p st ms 0 0 0 p (H:Int) (W:Int) (mp c ms s a).1 (R:Int) (C:Int) (mp c ms s a).2.2.2.1 (qev (stJ p (mp c ms s a) W T L (sgn p a) i C) cs)=r) →
      Ev fun φ=>Z32.l5 (mkR (run E (φ 0))) (φ 0) (φ 1) (φ 2) (φ 3) (φ 0) k (s:Int) (a:Int) (T:Int) (L:Int) (i:Int) ls n1 (t:Int) fs n2 (a:Int) (R:Int) (i:Int) (C:Int) 0 c p st ms 0 0 0 p (H:Int) (W:Int) (mp c ms s a).1 (R:Int) (C:Int) (mp c ms s a).2.2.2.1 cs=r:=by
    intro s a T L R C i F t ls n1 fs n2 cs hcs hi r hr
    refine Ev.start (p:=fun φ n=>Z32.l5 (mkR (run E (φ 0))) (φ 0) (φ 1) (φ 2) (φ 3) n k (s:Int) (a:Int) (T:Int) (L:Int) (i:Int) ls n1 (t:Int) fs n2 (a:Int) (R:Int) (i:Int) (C:Int) 0 c p st ms 0 0 0 p (H:Int) (W:Int) (mp c ms s a).1 (R:Int) (C:Int) (mp c ms s a).2.2.2.1 cs=_) 4 ?_ (fun _ _ _ h=>h)
    refine qaw 4 (L:=fun φ n j o=>Z32.l5 (mkR (run E (φ 0))) (φ 0) (φ 1) (φ 2) (φ 3) n k (s:Int) (a:Int) (T:Int) (L:Int) (i:Int) ls n1 (t:Int) fs n2 (a:Int) (R:Int) (i:Int) (C:Int) j c p st ms 0 0 0 p (H:Int) (W:Int) (mp c ms s a).1 (R:Int) (C:Int) (mp c ms s a).2.2.2.1 o) (len:=C) (fun j=>qev (stJ p (mp c ms s a) W T L (sgn p a) i j) cs) (fun _ _ _ _ _=>rfl) (fun j q hj ih=>?_) ?_
    · simp only[Z32.l5_succ _ qag]
      have hT:=F.hT
      have hL:=F.hL
      have hp:=F.hp
      obtain⟨ep,hpos⟩:=qqs (T:=T) (L:=L) (i:=i) (j:=j) (W:=W) (H:=H) (by omega) (by omega) bH bW
      have hij:i*C+j<(mp c ms s a).2.2.2.1.length:=by rw[F.len];exact qmj hi hj
      have hRC:=qfK F.hR F.hC
      have hx:=F.el.get hp (i*C+j)
      have hy:=qqp hp a
      rw[qoY,F.eC,Int.toNat_natCast,qad hij] at ih
      rw[qad hij] at hx
      have hol':(qev (stJ p (mp c ms s a) W T L (sgn p a) i j) cs).length=H*W:=by rw[qcl,hcs]
      have ev:=qqA hx (show 0≤sgn p a∧sgn p a≤250 by omega) hp
      refine qaE (decide_eq_true (by omega)) (qaa (qiN _ _ C _ i j hij (by rw[F.len];omega)) (qaa (qhE p a hp) (qau (by simp;omega) ?_)))
      simp only[ep,ev,hol',Int.toNat_natCast]
      refine qau (by simp only[Bool.and_eq_true,decide_eq_true_eq];omega) ?_
      rw[qah (by omega)]
      exact ih
    · simp only[Z32.l5_succ _ qag]
      have:=F.hR
      refine qaH (decide_eq_false (by omega)) ?_
      rw[qah (by omega)]
      exact hr
  -- a face' stores
  have r4:∀(s a T L R C:Nat) (F:CobF c p st ms k s a T L R C H W) (t:Nat) (ls:Sim) (n1:Int) (fs:Sim) (n2:Int) (cs:Sim) (hcs:cs.length=H*W) (r:Option Dv),
      (Ev fun φ=>Z32.l3 (mkR (run E (φ 0))) (φ 0) (φ 1) (φ 2) k (s:Int) ls n1 (t:Int) fs n2 ((a+1:Nat):Int) c p st ms 0 0 0 p (H:Int) (W:Int) (qev (stI p (mp c ms s a) W T L (sgn p a) R) cs)=r) →
      Ev fun φ=>Z32.l4 (mkR (run E (φ 0))) (φ 0) (φ 1) (φ 2) (φ 0) k (s:Int) (a:Int) (T:Int) (L:Int) ls n1 (t:Int) fs n2 (a:Int) (R:Int) 0 c p st ms 0 0 0 p (H:Int) (W:Int) (mp c ms s a).1 (R:Int) (C:Int) (mp c ms s a).2.2.2.1 cs=r:=by
    intro s a T L R C F t ls n1 fs n2 cs hcs r hr
    refine Ev.start (p:=fun φ n=>Z32.l4 (mkR (run E (φ 0))) (φ 0) (φ 1) (φ 2) n k (s:Int) (a:Int) (T:Int) (L:Int) ls n1 (t:Int) fs n2 (a:Int) (R:Int) 0 c p st ms 0 0 0 p (H:Int) (W:Int) (mp c ms s a).1 (R:Int) (C:Int) (mp c ms s a).2.2.2.1 cs=_) 3 ?_ (fun _ _ _ h=>h)
    refine qaw 3 (L:=fun φ n i o=>Z32.l4 (mkR (run E (φ 0))) (φ 0) (φ 1) (φ 2) n k (s:Int) (a:Int) (T:Int) (L:Int) ls n1 (t:Int) fs n2 (a:Int) (R:Int) i c p st ms 0 0 0 p (H:Int) (W:Int) (mp c ms s a).1 (R:Int) (C:Int) (mp c ms s a).2.2.2.1 o) (len:=R) (fun i=>qev (stI p (mp c ms s a) W T L (sgn p a) i) cs) (fun _ _ _ _ _=>rfl) (fun i q hi ih=>?_) ?_
    · simp only[Z32.l4_succ _ qag]
      rw[qo1,F.eC,Int.toNat_natCast] at ih
      exact qaE (decide_eq_true (by omega)) (r5 s a T L R C i F t ls n1 fs n2 _ (by rw[qcl,hcs]) hi q ih)
    · simp only[Z32.l4_succ _ qag]
      have:=F.h4
      refine qaH (decide_eq_false (by omega)) ?_
      rw[qah (by omega)]
      exact hr
  refine Ev.start (p:=fun φ n=>Z32.l1 (mkR (run E (φ 0))) (φ 0) n k (qaq c (k+1) c.length) ((qaq c (k+1) c.length).length:Int) 0 c p st ms 0 0 0 p (H:Int) (W:Int) (List.replicate (H*W) 0)=_) 1 ?_ (fun _ _ _ h=>h)
  refine qaw 1 (L:=fun φ n t o=>Z32.l1 (mkR (run E (φ 0))) (φ 0) n k (qaq c (k+1) c.length) ((qaq c (k+1) c.length).length:Int) t c p st ms 0 0 0 p (H:Int) (W:Int) o) (len:=(qaq c (k+1) c.length).length) (fun t=>qev (stS c p st ms k t) (List.replicate (H*W) 0)) (fun _ _ _ _ _=>rfl) (fun t q ht ih=>?_) ?_
  · simp only[Z32.l1_succ _ qag]
    obtain⟨s,hse,hs,hd⟩:=qbE.1 (List.getElem_mem ht)
    rw[qov ht hse] at ih
    have hg:(qaq c (k+1) c.length)[t]? = some (s:Int):=by rw[List.getElem?_eq_getElem ht,hse]
    have hf4:=h.1.fIdx4 hs
    generalize hO:qev (stS c p st ms k t) (List.replicate (H*W) 0)=O at ih ⊢
    have hOl:O.length=H*W:=by rw[← hO,qcl,List.length_replicate]
    refine qaE (decide_eq_true (by omega)) (qaf (qbX.trans hg) (qaH (decide_eq_false hk0) (qaa (qcO c s hs hc h.1.srt) ?_)))
    refine Ev.start (p:=fun φ n=>Z32.l3 (mkR (run E (φ 0))) (φ 0) (φ 1) n k (s:Int) (qaq c (k+1) c.length) ((qaq c (k+1) c.length).length:Int) (t:Int) (qaK c s) ((qaK c s).length:Int) 0 c p st ms 0 0 0 p (H:Int) (W:Int) O=_) 2 ?_ (fun _ _ _ h=>h)
    refine qaw 2 (L:=fun φ n a o=>Z32.l3 (mkR (run E (φ 0))) (φ 0) (φ 1) n k (s:Int) (qaq c (k+1) c.length) ((qaq c (k+1) c.length).length:Int) (t:Int) (qaK c s) ((qaK c s).length:Int) a c p st ms 0 0 0 p (H:Int) (W:Int) o) (len:=(qaK c s).length) (fun a=>qev (stF c p st ms k s a) O) (fun _ _ _ _ _=>rfl) (fun a q2 ha ih2=>?_) ?_
    · simp only[Z32.l3_succ _ qag]
      obtain⟨T,L,R,C,F⟩:=qpJ h hs (by omega) ha eH eW bH bW
      obtain⟨ix,hfc,_⟩:=qbf h.1 hs ha
      have f1:=qeo c p st ms s hs hc hl hst
      have f2:=qeo c p st ms (fc c s a) hfc hc hl hst
      rw[F.eT] at f1
      rw[F.eL] at f2
      rw[qoI,tW,F.eT,F.eL,F.eR,Int.toNat_natCast,Int.toNat_natCast,Int.toNat_natCast] at ih2
      refine qaE (decide_eq_true (by omega)) (qaf ix (qaa (qdl c p st ms s a hs ha h) (qaa f1 (qaa f2 ?_))))
      simp only[F.eR,F.eC]
      exact r4 s a T L R C F t _ _ _ _ _ (by rw[qcl,hOl]) q2 ih2
    · simp only[Z32.l3_succ _ qag]
      refine qaH (decide_eq_false (by omega)) ?_
      rw[qah (by omega)]
      exact ih
  · simp only[Z32.l1_succ _ qag,Z32.j2_eq _ qag]
    exact qaH (decide_eq_false (by omega)) qan
end VeT
open Go Go.Proofs Ve
namespace VeT
def Zs(v:Sim):Prop:=∀ x∈v,x=0
theorem qkB(x:Int):Ret E n_Z64 [dI x] ⟨o_Z64,(!pb (x=0),())⟩:=by
 refine qal ?_
 simp only[run_Z64,Z64.ev]
 refine qam ?_
 have:(x != 0)=!pb (x=0):=by
  by_cases h:x=0
  ·rw[qaz h];simp[h]
  ·rw[qat h];simp[h]
 rw[this]
theorem qmQ(v:Sim)(hv:v.length≤1048576):Ret E n_Z63 [dL v] ⟨o_Z63,(pb (Zs v),())⟩:=by
 refine qal ?_
 simp only[run_Z63,Z63.ev]
 refine qaa (qbq v _ hv fun x _=>qkB x) (qam ?_)
 simp only[qgY];rfl
end VeT
open Go Go.Proofs Ve
namespace VeT
theorem qds{p x x' y y':Int}(h1:x%p=x'%p)(h2:y%p=y'%p):x*y%p=x'*y'%p:=by
 rw[Int.mul_emod x,h1,h2,← Int.mul_emod]
theorem qha{p x x':Int}(h:x%p=x'%p):∀ n:Nat,x ^ n%p=x' ^ n%p
 | 0=>by rw[Int.pow_zero,Int.pow_zero]
 | n+1=>by rw[Int.pow_succ,Int.pow_succ];exact qds (qha h n) h
def qdL(a p:Int):Int:=a ^ (p-2).toNat%p
theorem qnV{a p:Int}(hp:2≤p):0≤qdL a p∧qdL a p≤p-1:=by
 have h0:=Int.emod_nonneg (a ^ (p-2).toNat) (show p≠0 by omega)
 have h1:=Int.emod_lt_of_pos (a ^ (p-2).toNat) (show 0<p by omega)
 unfold qdL;omega
abbrev Ent:=Nat→Nat→Int
def qdV(top q:Nat)(A:Ent):Ent:=fun i=>if i=top then A q else if i=q then A top else A i
def elN(p:Int)(c top:Nat)(B:Ent):Nat→Int:=fun j=>B top j*qdL (B top c) p%p
def elM(p:Int)(c top:Nat)(B:Ent):Ent:=fun i j=>if i=top then elN p c top B j else B i j
def elF(p:Int)(c top:Nat)(B:Ent):Ent:=fun i j=>if i=top then elN p c top B j else if B i c≠0 then(B i j+(p-B i c)*elN p c top B j)%p else B i j
noncomputable def elP(p:Int)(R c:Nat)(S:Ent×List Nat):Ent×List Nat :=
 match qa2 (fun i=>S.1 i c≠0) S.2.length (R-S.2.length) with
 | none=>S
 | some q=>(elF p c S.2.length (qdV S.2.length q S.1),S.2++[c])
noncomputable def elS(p:Int)(R:Nat)(A:Ent):Nat→Ent×List Nat
 | 0=>(A,[])
 | c+1=>elP p R c (elS p R A c)
def EIn(p:Int)(R W:Nat)(A:Ent):Prop:=∀ i j,i<R→j<W→0≤A i j∧A i j≤p-1
theorem EIn.sw{p:Int}{R W top q:Nat}{A:Ent}(h:EIn p R W A)(ht:top<R)(hq:q<R):EIn p R W (qdV top q A):=fun i j hi hj=>by
 unfold qdV;split
 ·exact h q j hq hj
 ·split
  ·exact h top j ht hj
  ·exact h i j hi hj
theorem qbZ{p x:Int}(hp:2≤p):0≤x%p∧x%p≤p-1:=by
 have h0:=Int.emod_nonneg x (show p≠0 by omega)
 have h1:=Int.emod_lt_of_pos x (show 0<p by omega)
 omega
theorem EIn.f{p:Int}{R W c top:Nat}{B:Ent}(h:EIn p R W B)(hp:2≤p):EIn p R W (elF p c top B):=fun i j hi hj=>by
 unfold elF;split
 ·exact qbZ hp
 ·split
  ·exact qbZ hp
  ·exact h i j hi hj
theorem qgv{p:Int}{R W:Nat}{A:Ent}(hp:2≤p)(h:EIn p R W A):∀ c,EIn p R W (elS p R A c).1∧(elS p R A c).2.length≤R∧(elS p R A c).2.length≤c∧∀ x∈(elS p R A c).2,x<c
 | 0=>⟨h,Nat.zero_le _,Nat.zero_le _,fun x hx=>by simp[elS] at hx⟩
 | c+1=>by
  obtain⟨h1,h2,h3,h4⟩:=qgv hp h c
  rw[elS,elP]
  cases hf:qa2 (fun i=>(elS p R A c).1 i c≠0) (elS p R A c).2.length (R-(elS p R A c).2.length) with
  | none=>exact⟨h1,h2,by show(elS p R A c).2.length≤c+1;omega,fun x hx=>by have:=h4 x hx;omega⟩
  | some q =>
   have hq:=qaJ hf
   refine⟨(h1.sw (by omega) (by omega)).f hp,?_,?_,fun x hx=>?_⟩
   ·simp only[List.length_append,List.length_singleton];omega
   ·simp only[List.length_append,List.length_singleton];omega
   ·rcases List.mem_append.1 hx with hx | hx
    ·have:=h4 x hx;omega
    ·rw[List.mem_singleton] at hx;omega
def qaA(A:Ent)(R W:Nat):List Sim:=(List.range R).map fun i=>(List.range W).map (A i)
theorem qay{A:Ent}{R W:Nat}:(qaA A R W).length=R:=by simp[qaA]
theorem qa8{A:Ent}{R W i:Nat}(hi:i<R):(qaA A R W)[i]? = some ((List.range W).map (A i)):=by
 unfold qaA;rw[List.getElem?_map,List.getElem?_range hi];rfl
theorem qb0{A B:Ent}{R W:Nat}(h:∀ i j,i<R→j<W→A i j=B i j):qaA A R W=qaA B R W :=
 List.map_congr_left fun i hi=>List.map_congr_left fun j hj=>h i j (List.mem_range.1 hi) (List.mem_range.1 hj)
theorem qfj{A:Ent}{R W i:Nat}{f:Nat→Int}:(qaA A R W).set i ((List.range W).map f)=qaA (fun k j=>if k=i then f j else A k j) R W:=by
 apply List.ext_getElem?
 intro k
 by_cases hk:k<R
 ·rw[qa8 hk]
  by_cases hik:k=i
  ·subst hik
   rw[List.getElem?_set_self (by rw[qay];exact hk)]
   simp
  ·rw[List.getElem?_set_ne (Ne.symm hik),qa8 hk]
   simp[hik]
 ·rw[List.getElem?_eq_none (by rw[List.length_set,qay];omega),List.getElem?_eq_none (by rw[qay];omega)]
theorem qfb{f:Nat→Int}{W j:Nat}(hj:j<W):((List.range W).map f)[j]? = some (f j):=by
 rw[List.getElem?_map,List.getElem?_range hj];rfl
theorem qdu{A:Ent}{W:Nat}:∀ {R:Nat},(qaA A R W).flatten=qaR A W R
 | 0=>by simp[qaA,qaR]
 | R+1=>by
  have:=qdu (A:=A) (W:=W) (R:=R)
  unfold qaA at this ⊢
  rw[List.range_succ,List.map_append,List.flatten_append,this,qaR]
  simp
def qfP(cells:Sim)(W:Nat):Ent:=fun i j=>cells.getD (i*W+j) 0
theorem qnj{cells:Sim}{R W:Nat}(h:cells.length=R*W):qaR (qfP cells W) W R=cells:=by
 refine List.ext_getElem (by rw[qaC,h]) fun n h1 h2=>?_
 rw[qaC] at h1
 have hW:0<W:=by
  cases W with
  | zero=>simp at h1
  | succ W=>omega
 have e:n=n / W*W+n%W:=by have:=Nat.div_add_mod n W;rw[Nat.mul_comm] at this;omega
 have h3:n / W<R:=Nat.div_lt_of_lt_mul (by rw[Nat.mul_comm];exact h1)
 have h4:n%W<W:=Nat.mod_lt _ hW
 have hg:=qdp (f:=qfP cells W) h3 h4
 rw[← e,List.getElem?_eq_getElem (by rw[qaC];exact h1)] at hg
 rw[Option.some.inj hg]
 unfold qfP
 rw[← e,qad h2]
theorem qdC{p:Int}{cells:Sim}{R W:Nat}(h:qbl cells p)(hl:cells.length=R*W):EIn p R W (qfP cells W):=fun i j hi hj=>by
 unfold qfP
 have:=qmj hi hj
 rw[qad (by omega)]
 exact h _ (List.getElem_mem _)
end VeT
open Go Go.Proofs Ve
namespace VeT
def qps:Bool:=(List.range 252).all fun p=>!(decide (2≤p)&&(List.range 16).all fun k=>!(decide (2≤k)&&decide (k*k≤p)&&decide (p%k=0))) || (List.range p).all fun a=>a==0 || (a*(a ^ (p-2)%p)%p==1)
theorem qnc:qps=true:=by kernel_rfl
theorem qf7{p a:Int}(hp:Pr p)(h1:1≤a)(h2:a≤p-1):a*qdL a p%p=1:=by
  obtain⟨hp2,hp251,hpk⟩:=hp
  obtain⟨P,rfl⟩:=Int.eq_ofNat_of_zero_le (show 0≤p by omega)
  obtain⟨N,rfl⟩:=Int.eq_ofNat_of_zero_le (show 0≤a by omega)
  have h:=qnc
  unfold qps at h
  rw[List.all_eq_true] at h
  have hP:=h P (List.mem_range.2 (by omega))
  rw[Bool.or_eq_true] at hP
  rcases hP with hP | hP
  · exfalso
    rw[Bool.not_eq_true',Bool.and_eq_false_iff] at hP
    rcases hP with hP | hP
    · have:=of_decide_eq_false hP;omega
    · rw[← Bool.not_eq_true,List.all_eq_true] at hP
      refine hP fun k hk=>?_
      have hk16:=List.mem_range.1 hk
      rw[Bool.not_eq_true',Bool.and_eq_false_iff,Bool.and_eq_false_iff]
      by_cases hk2:2≤k
      · by_cases hkk:k*k≤P
        · right
          refine decide_eq_false fun e=>?_
          have := hpk k hk2 (by have : ((k * k : Nat) : Int) ≤ (P : Int) := by omega
                                rwa [Int.natCast_mul] at this)
          exact this (by omega)
        · exact .inl (.inr (decide_eq_false hkk))
      · exact .inl (.inl (decide_eq_false hk2))
  · rw[List.all_eq_true] at hP
    have hN:=hP N (List.mem_range.2 (by omega))
    rw[Bool.or_eq_true] at hN
    rcases hN with hN | hN
    · have:N=0:=by simpa using hN
      omega
    · have hN:N*(N ^ (P-2)%P)%P=1:=by simpa using hN
      unfold qdL
      have e:((P:Int)-2).toNat=P-2:=by omega
      rw[e]
      have:((N*(N ^ (P-2)%P)%P:Nat):Int)=1:=by rw[hN];rfl
      rwa [Int.natCast_emod,Int.natCast_mul,Int.natCast_emod,Int.natCast_pow] at this
theorem qjq{c d g:Nat→Int}:∀ {n:Nat},qaQ (fun i=>c i+d i) g n=qaQ c g n+qaQ d g n
 | 0=>rfl
 | n+1=>by simp only[qaQ];rw[qjq,Int.add_mul];omega
theorem qfx{k:Int}{c g:Nat→Int}:∀ {n:Nat},qaQ (fun i=>k*c i) g n=k*qaQ c g n
 | 0=>by simp[qaQ]
 | n+1=>by simp only[qaQ];rw[qfx,Int.mul_add,Int.mul_assoc]
theorem qj8{k:Nat}{g:Nat→Int}:∀ {n:Nat},n≤k→qaQ (fun i=>if i=k then 1 else 0) g n=0
 | 0,_=>rfl
 | n+1,h=>by simp only[qaQ];rw[qj8 (by omega),if_neg (by omega),Int.zero_mul];rfl
theorem qdE{k:Nat}{g:Nat→Int}:∀ {n:Nat},k<n→qaQ (fun i=>if i=k then 1 else 0) g n=g k
 | n+1,h=>by
  simp only[qaQ]
  by_cases hk:k=n
  ·subst hk;rw[qj8 (Nat.le_refl _),if_pos rfl,Int.one_mul,Int.zero_add]
  ·rw[qdE (by omega),if_neg (by omega),Int.zero_mul,Int.add_zero]
def Spn(p:Int)(R W:Nat)(A:Ent)(x:Nat→Int):Prop:=∃ c:Nat→Int,∀ j,j<W→qaQ c (fun i=>A i j) R%p=x j%p
theorem Spn.row{p:Int}{R W:Nat}{A:Ent}{i:Nat}(hi:i<R):Spn p R W A (A i):=⟨fun k=>if k=i then 1 else 0,fun j _=>by rw[qdE hi]⟩
theorem Spn.congr{p:Int}{R W:Nat}{A:Ent}{x y:Nat→Int}(h:∀ j,j<W→x j%p=y j%p):Spn p R W A x→Spn p R W A y:=fun⟨c,hc⟩=>⟨c,fun j hj=>(hc j hj).trans (h j hj)⟩
theorem Spn.add{p:Int}{R W:Nat}{A:Ent}{x y:Nat→Int}(hx:Spn p R W A x)(hy:Spn p R W A y):Spn p R W A (fun j=>x j+y j):=by
 obtain⟨c,hc⟩:=hx
 obtain⟨d,hd⟩:=hy
 exact⟨fun i=>c i+d i,fun j hj=>by rw[qjq,Int.add_emod,hc j hj,hd j hj,← Int.add_emod]⟩
theorem Spn.smul{p:Int}{R W:Nat}{A:Ent}{x:Nat→Int}(k:Int)(hx:Spn p R W A x):Spn p R W A (fun j=>k*x j):=by
 obtain⟨c,hc⟩:=hx
 exact⟨fun i=>k*c i,fun j hj=>by rw[qfx,Int.mul_emod,hc j hj,← Int.mul_emod]⟩
theorem Spn.zero{p:Int}{R W:Nat}{A:Ent}:Spn p R W A (fun _=>0):=⟨fun _=>0,fun j _=>by
 have:∀ n,qaQ (fun _=>0) (fun i=>A i j) n=0:=fun n=>by
  induction n with
  | zero=>rfl
  | succ n ih=>simp only[qaQ,ih,Int.zero_mul];rfl
 rw[this]⟩
theorem Spn.sum{p:Int}{R W:Nat}{A B:Ent}{c:Nat→Int}:∀ {n:Nat},(∀ i,i<n→Spn p R W A (B i))→Spn p R W A (fun j=>qaQ c (fun i=>B i j) n)
 | 0,_=>Spn.zero
 | n+1,h=>(Spn.sum (n:=n) fun i hi=>h i (by omega)).add ((h n (Nat.lt_succ_self n)).smul (c n))
theorem Spn.trans{p:Int}{R R' W:Nat}{A B:Ent}{x:Nat→Int}(h:∀ i,i<R'→Spn p R W A (B i))(hx:Spn p R' W B x):Spn p R W A x:=by
 obtain⟨c,hc⟩:=hx
 exact(Spn.sum h).congr hc
def Eqv(p:Int)(R W:Nat)(A B:Ent):Prop:=(∀ i,i<R→Spn p R W A (B i))∧(∀ i,i<R→Spn p R W B (A i))
theorem Eqv.refl{p:Int}{R W:Nat}{A:Ent}:Eqv p R W A A:=⟨fun _ h=>Spn.row h,fun _ h=>Spn.row h⟩
theorem Eqv.trans{p:Int}{R W:Nat}{A B C:Ent}(h:Eqv p R W A B)(k:Eqv p R W B C):Eqv p R W A C:=⟨fun i hi=>Spn.trans h.1 (k.1 i hi),fun i hi=>Spn.trans k.2 (h.2 i hi)⟩
theorem Eqv.sw{p:Int}{R W top q:Nat}{A:Ent}(ht:top<R)(hq:q<R):Eqv p R W A (qdV top q A):=by
 refine⟨fun i hi=>?_,fun i hi=>?_⟩
 ·unfold qdV
  split
  ·exact Spn.row hq
  ·split
   ·exact Spn.row ht
   ·exact Spn.row hi
 ·have key:∀ k,k<R→(qdV top q A) k=A i→Spn p R W (qdV top q A) (A i):=fun k hk e=>by rw[← e];exact Spn.row hk
  by_cases h1:i=top
  ·subst h1
   by_cases h2:q=i
   ·subst h2;exact key q hq (by simp[qdV])
   ·exact key q hq (by simp[qdV,h2])
  ·by_cases h2:i=q
   ·subst h2;exact key top ht (by simp[qdV])
   ·exact key i hi (by simp[qdV,h1,h2])
theorem Eqv.f{p:Int}{R W c top:Nat}{B:Ent}(hp:Pr p)(ht:top<R)(hl:1≤B top c∧B top c≤p-1):Eqv p R W B (elF p c top B):=by
 have hinv:=qf7 hp hl.1 hl.2
 have hN:Spn p R W B (elN p c top B):=((Spn.row ht).smul (qdL (B top c) p)).congr fun j _=>by
  show qdL (B top c) p*B top j%p=(B top j*qdL (B top c) p%p)%p
  rw[Int.emod_emod_of_dvd _ (Int.dvd_refl p),Int.mul_comm]
 have eTop:elF p c top B top=elN p c top B:=by funext j;simp[elF]
 have hN2:Spn p R W (elF p c top B) (elN p c top B):=by rw[← eTop];exact Spn.row ht
 refine⟨fun i hi=>?_,fun i hi=>?_⟩
 ·by_cases h1:i=top
  ·subst h1;rw[eTop];exact hN
  ·by_cases h2:B i c=0
   ·have e:elF p c top B i=B i:=by funext j;simp[elF,h1,h2]
    rw[e];exact Spn.row hi
   ·refine((Spn.row hi).add (hN.smul (p-B i c))).congr fun j _=>?_
    have e:elF p c top B i j=(B i j+(p-B i c)*elN p c top B j)%p:=by simp[elF,h1,h2]
    rw[e,Int.emod_emod_of_dvd _ (Int.dvd_refl p)]
 ·by_cases h1:i=top
  ·subst h1
   refine(hN2.smul (B i c)).congr fun j _=>?_
   show B i c*(B i j*qdL (B i c) p%p)%p=B i j%p
   rw[Int.mul_emod,Int.emod_emod_of_dvd _ (Int.dvd_refl p),← Int.mul_emod,show B i c*(B i j*qdL (B i c) p)=B i j*(B i c*qdL (B i c) p) by rw[← Int.mul_assoc,Int.mul_comm (B i c),Int.mul_assoc],Int.mul_emod,hinv,Int.mul_one,Int.emod_emod_of_dvd _ (Int.dvd_refl p)]
  ·by_cases h2:B i c=0
   ·have e:elF p c top B i=B i:=by funext j;simp[elF,h1,h2]
    rw[← e];exact Spn.row hi
   ·refine((Spn.row hi).add (hN2.smul (B i c))).congr fun j _=>?_
    have e:elF p c top B i j=(B i j+(p-B i c)*elN p c top B j)%p:=by simp[elF,h1,h2]
    rw[e,Int.add_emod,Int.emod_emod_of_dvd _ (Int.dvd_refl p),← Int.add_emod,show B i j+(p-B i c)*elN p c top B j+B i c*elN p c top B j=B i j+p*elN p c top B j by rw[Int.sub_mul];omega,Int.add_mul_emod_self_left]
structure Rf (R c:Nat) (B:Ent) (pv:List Nat):Prop where
 len:pv.length≤R
 lt:∀ i,i<pv.length→pv.getD i 0<c
 mono:∀ i j,i<j→j<pv.length→pv.getD i 0<pv.getD j 0
 one:∀ i j,i<R→j<pv.length→B i (pv.getD j 0)=if i=j then 1 else 0
 low:∀ i j,i<pv.length→j<pv.getD i 0→B i j=0
 bot:∀ i j,pv.length≤i→i<R→j<c→B i j=0
end VeT
open Go Go.Proofs Ve
namespace VeT
theorem qcn{l:List Nat}{c i:Nat}(h:i<l.length):(l++[c]).getD i 0=l.getD i 0:=by
 rw[List.getD_eq_getElem?_getD,List.getD_eq_getElem?_getD,List.getElem?_append_left h]
theorem qdJ{l:List Nat}{c:Nat}:(l++[c]).getD l.length 0=c:=by
 rw[List.getD_eq_getElem?_getD,List.getElem?_append_right (Nat.le_refl _)];simp
theorem Rf.next{p:Int}{R W c:Nat}{B:Ent}{pv:List Nat}(hp:Pr p)(hB:EIn p R W B)(hc:c<W)(h:Rf R c B pv){q:Nat}(hq:pv.length≤q∧q<R)(hne:B q c≠0) :
  Rf R (c+1) (elF p c pv.length (qdV pv.length q B)) (pv++[c]):=by
 obtain⟨hlen,hlt,hmono,hone,hlow,hbot⟩:=h
 generalize ht:pv.length=top at *
 have hB':EIn p R W (qdV top q B):=hB.sw (by omega) hq.2
 have rowLt:∀ i,i<top→qdV top q B i=B i:=fun i hi=>by
  unfold qdV;rw[if_neg (by omega),if_neg (by omega)]
 have rowGe:∀ i,top≤i→i<R→∀ j,j<c→qdV top q B i j=0:=fun i h1 h2 j hj=>by
  unfold qdV
  split
  ·exact hbot q j hq.1 hq.2 hj
  ·split
   ·exact hbot top j (Nat.le_refl _) (by omega) hj
   ·exact hbot i j h1 h2 hj
 have eLead:qdV top q B top c=B q c:=by simp[qdV]
 have hlead:1≤qdV top q B top c∧qdV top q B top c≤p-1:=by
  have:=hB q c hq.2 hc
  rw[eLead];omega
 generalize qdV top q B=B' at hB' rowLt rowGe eLead hlead
 have hinv:=qf7 hp hlead.1 hlead.2
 have nLt:∀ j,j<c→elN p c top B' j=0:=fun j hj=>by
  unfold elN;rw[rowGe top (Nat.le_refl _) (by omega) j hj,Int.zero_mul];exact Int.zero_emod p
 have nC:elN p c top B' c=1:=hinv
 have fLt:∀ i j,i<R→j<c→elF p c top B' i j=B' i j:=fun i j hi hj=>by
  unfold elF
  split
  ·rename_i e;subst e;rw[nLt j hj,rowGe i (Nat.le_refl _) hi j hj]
  ·split
   ·rw[nLt j hj,Int.mul_zero,Int.add_zero]
    have:=hB' i j hi (by omega)
    exact Int.emod_eq_of_lt this.1 (by omega)
   ·rfl
 have fC:∀ i,i<R→elF p c top B' i c=if i=top then 1 else 0:=fun i hi=>by
  unfold elF
  split
  ·exact nC
  ·split
   ·rw[nC,Int.mul_one,show B' i c+(p-B' i c)=p by omega,Int.emod_self]
   ·rename_i _ h2;exact Classical.byContradiction fun e=>h2 e
 refine⟨?_,?_,?_,?_,?_,?_⟩
 ·rw[List.length_append,List.length_singleton,ht];omega
 ·intro i hi
  rw[List.length_append,List.length_singleton,ht] at hi
  by_cases hi2:i<top
  ·rw[qcn (by omega)];have:=hlt i hi2;omega
  ·obtain rfl:i=top:=by omega
   subst ht
   rw[qdJ];omega
 ·intro i j hij hj
  rw[List.length_append,List.length_singleton,ht] at hj
  by_cases hj2:j<top
  ·rw[qcn (by omega),qcn (by omega)];exact hmono i j hij hj2
  ·obtain rfl:j=top:=by omega
   have:=hlt i hij
   subst ht
   rw[qcn hij,qdJ];exact this
 ·intro i j hi hj
  rw[List.length_append,List.length_singleton,ht] at hj
  by_cases hj2:j<top
  ·have hpj:=hlt j hj2
   rw[qcn (by omega),fLt i _ hi hpj]
   by_cases hi2:i<top
   ·rw[rowLt i hi2];exact hone i j hi hj2
   ·rw[rowGe i (by omega) hi _ hpj,if_neg (by omega)]
  ·obtain rfl:j=top:=by omega
   have hfc:=fC i hi
   subst ht
   rw[qdJ];exact hfc
 ·intro i j hi hj
  rw[List.length_append,List.length_singleton,ht] at hi
  by_cases hi2:i<top
  ·rw[qcn (by omega)] at hj
   have:=hlt i hi2
   rw[fLt i j (by omega) (by omega),rowLt i hi2];exact hlow i j hi2 hj
  ·obtain rfl:i=top:=by omega
   have hfl:j<c→elF p c i B' i j=0:=fun h=>by rw[fLt i j (by omega) h];exact rowGe i (Nat.le_refl _) (by omega) j h
   have e:(pv++[c]).getD i 0=c:=by rw[← ht];exact qdJ
   rw[e] at hj
   exact hfl hj
 ·intro i j hi hiR hj
  rw[List.length_append,List.length_singleton,ht] at hi
  by_cases hjc:j<c
  ·rw[fLt i j hiR hjc];exact rowGe i (by omega) hiR j hjc
  ·obtain rfl:j=c:=by omega
   rw[fC i hiR,if_neg (by omega)]
theorem qgj{p:Int}{R W:Nat}{A:Ent}(hp:Pr p)(hA:EIn p R W A):∀ c,c≤W→Rf R c (elS p R A c).1 (elS p R A c).2∧Eqv p R W A (elS p R A c).1
 | 0,_=>⟨⟨Nat.zero_le _,fun i h=>by simp[elS] at h,fun i j _ h=>by simp[elS] at h,fun i j _ h=>by simp[elS] at h,fun i j h=>by simp[elS] at h,fun i j _ _ h=>by omega⟩,Eqv.refl⟩
 | c+1,hc=>by
  obtain⟨h1,h2⟩:=qgj hp hA c (by omega)
  have hB:=(qgv hp.1 hA c).1
  rw[elS,elP]
  generalize elS p R A c=S at h1 h2 hB
  obtain⟨B,pv⟩:=S
  simp only at h1 h2 hB ⊢
  cases hf:qa2 (fun i=>B i c≠0) pv.length (R-pv.length) with
  | none =>
   have hn:=qdM hf
   show Rf R (c+1) B pv∧Eqv p R W A B
   refine⟨⟨h1.len,fun i hi=>by have:=h1.lt i hi;omega,h1.mono,h1.one,h1.low,fun i j h3 h4 h5=>?_⟩,h2⟩
   by_cases hj:j<c
   ·exact h1.bot i j h3 h4 hj
   ·obtain rfl:j=c:=by omega
    exact Classical.byContradiction fun e=>hn i h3 (by omega) e
  | some q =>
   have hq:=qaJ hf
   have hq2:pv.length≤q∧q<R:=by omega
   have hlead:1≤qdV pv.length q B pv.length c∧qdV pv.length q B pv.length c≤p-1:=by
    have e:qdV pv.length q B pv.length c=B q c:=by simp[qdV]
    have:=hB q c hq2.2 (by omega)
    have:=hq.2.2
    rw[e];omega
   exact⟨h1.next hp hB (by omega) hq2 hq.2.2,(h2.trans (Eqv.sw (by omega) hq2.2)).trans (Eqv.f hp (by omega) hlead)⟩
end VeT
open Go Go.Proofs Ve
namespace VeT
end VeT
open Go Go.Proofs Ve
namespace VeT
end VeT
open Go Go.Proofs Ve
namespace VeT
def qg0(i j:Nat):Int:=if i=j then 1 else 0
def qdj(p:Int)(n:Nat):Mat:=(p,(n:Int),(n:Int),qaR qg0 n n,())
theorem qmi(i j:Nat):Ret E n_Z85 [dI (i:Int),dI (j:Int)] ⟨o_Z85,(qg0 i j,())⟩:=by
 refine qal ?_
 simp only[run_Z85,Z85.ev]
 refine qdR (fun h=>qam ?_) fun h=>qam ?_
 ·have h:(i:Int)=j:=by simpa using h
  rw[qg0,if_pos (by omega)]
 ·have h:¬ (i:Int)=j:=by simpa using h
  rw[qg0,if_neg (by omega)]
theorem ql7(p:Int)(n:Nat)(hn:n≤32):Ret E n_Z84 [dI p,dI (n:Int)] ⟨o_Z84,qdj p n⟩:=by
 have h:=qfK hn hn
 refine qal ?_
 simp only[run_Z84,Z84.ev]
 exact qaa (qdT p n n qg0 (by omega) (by omega) (by omega) fun i j _ _=>qmi i j) qan
end VeT
open Go Go.Proofs Ve
namespace VeT
noncomputable def qhX(x:Shf)(k:Int):Mat:=qqL x.1 x.2.1 x.2.2.1 x.2.2.2.1 k
theorem VM.len{m:Mat}(h:VM m):m.2.2.2.1.length≤1024:=by
 obtain⟨R,C,_,hR,hC,hl⟩:=h.nat
 have:=qfK hR hC
 omega
end VeT
open Go Go.Proofs Ve
namespace VeT
theorem qij.lt{s:Sim}(h:qij s):∀ {i j:Nat} (hj:j<s.length) (hij:i<j),s[i]<s[j]:=by
 intro i j
 induction j with
 | zero=>intro _ h;omega
 | succ j ih =>
  intro hj hij
  have:=h (j+1) (by omega) hj
  rw[Nat.add_sub_cancel,qad (by omega),qad hj] at this
  by_cases e:i=j
  ·subst e;exact this
  ·exact Int.lt_trans (ih (by omega) (by omega)) this
theorem qij.pairwise{s:Sim}(h:qij s):s.Pairwise (·<·):=by
 rw[List.pairwise_iff_getElem]
 intro i j hi hj hij
 exact h.lt hj hij
end VeT
open Go Go.Proofs Ve
namespace VeT
theorem qpe{W a b a' b':Nat}(hb:b<W)(hb':b'<W)(e:a*W+b=a'*W+b'):a=a'∧b=b':=by
 have h1:(a*W+b) / W=a:=by rw[Nat.mul_comm,Nat.mul_add_div (by omega),Nat.div_eq_of_lt hb,Nat.add_zero]
 have h2:(a'*W+b') / W=a':=by rw[Nat.mul_comm,Nat.mul_add_div (by omega),Nat.div_eq_of_lt hb',Nat.add_zero]
 have:a=a':=by rw[← h1,← h2,e]
 subst this
 exact⟨rfl,by omega⟩
theorem qqH{c:List Sim}{st:Sim}(hst:∀ x∈st,0≤x∧x≤3){s s':Nat}(hl:(c.getD s []).length=(c.getD s' []).length)(h:s<s'):FC c st s+st.getD s 0≤FC c st s':=by
 unfold FC
 rw[← hl]
 exact qnu hst h (by omega)
theorem qf4{c:List Sim}{st:Sim}(hst:∀ x∈st,0≤x∧x≤3){s s' i i':Nat}(hl:(c.getD s []).length=(c.getD s' []).length)(hi:i<(st.getD s 0).toNat)(hi':i'<(st.getD s' 0).toNat)
  (e:(FC c st s).toNat+i=(FC c st s').toNat+i'):s=s'∧i=i':=by
 have n1:0≤FC c st s:=(qk0 hst).1
 have n2:0≤FC c st s':=(qk0 hst).1
 rcases Nat.lt_trichotomy s s' with h | h | h
 ·have:=qqH hst hl h;omega
 ·subst h;exact⟨rfl,by omega⟩
 ·have:=qqH hst hl.symm h;omega
theorem qnE{s:Sim}(hs:qij s){a b:Nat}(ha:a<s.length)(hb:b<s.length)(e:s.eraseIdx a=s.eraseIdx b):a=b:=by
 have key:∀ {a b:Nat},a<b→b<s.length→s.eraseIdx a=s.eraseIdx b→False:=fun {a b} hab hb e=>by
  have h:=congrArg (·[a]?) e
  simp only[List.getElem?_eraseIdx] at h
  rw[if_neg (by omega),if_pos hab,List.getElem?_eq_getElem (by omega),List.getElem?_eq_getElem (by omega)] at h
  have h:=Option.some.inj h
  have:=hs.lt (i:=a) (j:=a+1) (by omega) (by omega)
  omega
 rcases Nat.lt_trichotomy a b with h | h | h
 ·exact absurd e fun e=>key h hb e
 ·exact h
 ·exact absurd e.symm fun e=>key h ha e
theorem qm4{c:List Sim}(hv:VC c){s a b:Nat}(hs:s<c.length)(ha:a<(qaK c s).length)(hb:b<(qaK c s).length)(e:fc c s a=fc c s b):a=b:=by
 obtain⟨_,_,ea⟩:=qbf hv hs ha
 obtain⟨_,_,eb⟩:=qbf hv hs hb
 have hl:=qaB (c:=c) (k:=s)
 rw[e,eb] at ea
 split at hl
 ·exact(qnE (hv.2.1 s hs).2.2.1 (by omega) (by omega) ea).symm
 ·omega
theorem qhZ{c:List Sim}{p:Int}{st:Sim}{ms:List Mat}(h:VS c p st ms){k:Int}(hk:0≤k){s a i j:Nat}(hs:s<c.length)(hd:((c.getD s []).length:Int)=k+2)(ha:a<(qaK c s).length)
  (hi:i<(st.getD s 0).toNat) (hj:j<(st.getD (fc c s a) 0).toNat) :
  (qdW c p st ms k).getD (((FC c st s).toNat+i)*(SD c st k).toNat+((FC c st (fc c s a)).toNat+j)) 0=(mp c ms s a).2.2.2.1.getD (i*(mp c ms s a).2.2.1.toNat+j) 0*sgn p a%p:=by
 have hst:=h.2.2.1.2.1
 obtain⟨g1,g2,g3,g4,g5,g6,g7⟩:=qcL h hs hd ha
 have hW:(FC c st (fc c s a)).toNat+j<(SD c st k).toNat:=by omega
 have hH:(FC c st s).toNat+i<(SD c st (k+1)).toNat:=by omega
 unfold qdW
 rw[if_neg (by omega)]
 refine qom (by rw[List.length_replicate];exact qmj hH hW) (fun x hx e=>?_) ⟨_,(qjB (Nat.le_refl _)).2 ⟨s,hs,hd,qjA.2 ⟨a,i,j,ha,by omega,by omega,rfl⟩⟩,by simp only;omega⟩
 obtain⟨s',hs',hd',hx⟩:=(qjB (Nat.le_refl _)).1 hx
 obtain⟨a',i',j',ha',hi',hj',rfl⟩:=qjA.1 hx
 obtain⟨q1,q2,q3,q4,q5,q6,q7⟩:=qcL h hs' hd' ha'
 simp only at e ⊢
 have hW':(FC c st (fc c s' a')).toNat+j'<(SD c st k).toNat:=by omega
 have e0:((FC c st s').toNat+i')*(SD c st k).toNat+((FC c st (fc c s' a')).toNat+j')=((FC c st s).toNat+i)*(SD c st k).toNat+((FC c st (fc c s a)).toNat+j):=by omega
 obtain⟨e1,e2⟩:=qpe hW' hW e0
 obtain⟨rfl,rfl⟩:=qf4 hst (by omega) (by omega) (by omega) e1
 obtain⟨e3,rfl⟩:=qf4 hst (by omega) (by omega) (by omega) e2
 obtain rfl:=qm4 h.1 hs ha' ha e3
 rfl
theorem qfE{c:List Sim}{p:Int}{st:Sim}{ms:List Mat}(h:VS c p st ms){k:Int}{s i g:Nat}(hs:s<c.length)(hd:((c.getD s []).length:Int)=k+2)
  (hi:i<(st.getD s 0).toNat) (hg:g<(SD c st k).toNat) (hno:∀ a,a<(qaK c s).length→¬ ((FC c st (fc c s a)).toNat≤g∧g<(FC c st (fc c s a)).toNat+(st.getD (fc c s a) 0).toNat)) :
  (qdW c p st ms k).getD (((FC c st s).toNat+i)*(SD c st k).toNat+g) 0=0:=by
 have hst:=h.2.2.1.2.1
 have hrep:∀ n q,(List.replicate n (0:Int)).getD q 0=0:=fun n q=>by
  rw[List.getD_eq_getElem?_getD,List.getElem?_replicate];split<;>rfl
 unfold qdW
 split
 ·exact hrep _ _
 rw[qkx fun x hx e=>?_]
 ·exact hrep _ _
 obtain⟨s',hs',hd',hx⟩:=(qjB (Nat.le_refl _)).1 hx
 obtain⟨a',i',j',ha',hi',hj',rfl⟩:=qjA.1 hx
 obtain⟨q1,q2,q3,q4,q5,q6,q7⟩:=qcL h hs' hd' ha'
 simp only at e
 have hW':(FC c st (fc c s' a')).toNat+j'<(SD c st k).toNat:=by omega
 have e0:((FC c st s').toNat+i')*(SD c st k).toNat+((FC c st (fc c s' a')).toNat+j')=((FC c st s).toNat+i)*(SD c st k).toNat+g:=by omega
 obtain⟨e1,e2⟩:=qpe hW' hg e0
 obtain⟨rfl,rfl⟩:=qf4 hst (by omega) (by omega) (by omega) e1
 exact hno a' ha' ⟨by omega,by omega⟩
end VeT
open Go Go.Proofs Ve
namespace VeT
theorem qod{p:Int}{n:Nat}(hp:Pr p)(hn:n≤32):VM (qdj p n):=by
 refine⟨hp,⟨by show(0:Int)≤n;omega,by show(n:Int)≤32;omega⟩,⟨by show(0:Int)≤n;omega,by show(n:Int)≤32;omega⟩,?_,?_⟩
 ·show((qaR qg0 n n).length:Int)=(n:Int)*(n:Int)
  rw[qaC,qdv]
 ·intro x hx
  have hx:x∈qaR qg0 n n:=hx
  have:∀ m,x∈qaR qg0 n m→0≤x∧x≤1:=by
   intro m
   induction m with
   | zero=>intro h;simp[qaR] at h
   | succ m ih =>
    intro h
    rw[qaR,List.mem_append] at h
    rcases h with h | h
    ·exact ih h
    ·rw[List.mem_map] at h
     obtain⟨j,_,rfl⟩:=h
     unfold qg0;split<;>omega
  have:=this n hx
  have:=hp.1
  show 0≤x∧x≤p-1
  omega
end VeT
open Go Go.Proofs Ve
namespace VeT
end VeT
open Go Go.Proofs Ve
namespace VeT
theorem VC.len1{c:List Sim}(h:VC c){k:Nat}(hk:k<c.length):1≤(c.getD k []).length:=(h.2.1 k hk).1
def qqV(a b:Sim)(c p:Int):Sim:=(List.range a.length).map fun i=>(a.getD i 0+c*b.getD i 0)%p
end VeT
open Go Go.Proofs Ve
namespace VeT
theorem qoL{a b:Sim}(hl:a.length=b.length)(h:∀ i,i<a.length→a.getD i 0=b.getD i 0):a=b:=by
 refine List.ext_getElem hl fun i h1 h2=>?_
 have:=h i h1
 rwa [qad h1,qad h2] at this
end VeT
open Go Go.Proofs Ve
namespace VeT
end VeT
open Go Go.Proofs Ve
namespace VeT
def qrg(c:List Sim)(w:Sim):Prop:=qij w∧∀ y∈w,0≤y∧y≤(c.length:Int)-1
theorem qrg.get{c:List Sim}{w:Sim}(h:qrg c w){i:Nat}(hi:i<w.length):∃ n:Nat,w[i]=(n:Int)∧n<c.length:=by
 have:=h.2 _ (List.getElem_mem hi)
 exact⟨(w[i]).toNat,by omega,by omega⟩
end VeT
open Go Go.Proofs Ve
namespace VeT
theorem qiO{P:Nat→Prop}:∀ {d a k:Nat},qa2 P a d=some k→∀ i,a≤i→i<k→¬ P i
 | 0,a,k,h=>by simp[qa2] at h
 | d+1,a,k,h=>fun i h1 h2=>by
  rw[qa2] at h
  split at h
  ·obtain rfl:=Option.some.inj h;omega
  ·rename_i hp
   by_cases e:i=a
   ·subst e;exact hp
   ·exact qiO h i (by omega) h2
theorem qfL{s:Sim}(h:s.Pairwise (·<·)):qij s:=fun j h1 h2=>by
 rw[qad (show j-1<s.length by omega),qad h2]
 exact List.pairwise_iff_getElem.1 h (j-1) j (by omega) h2 (by omega)
end VeT
open Go Go.Proofs Ve
namespace VeT
def qqT(a p:Int):Int:=Int.tmod (w64 (Int.tmod a p+p)) p
theorem qpF{a p:Int}(hp:2≤p∧p≤251)(ha:-1048576≤a∧a≤1048576):qqT a p=a%p:=by
 have h1:-p<Int.tmod a p∧Int.tmod a p<p:=by
  constructor
  ·by_cases h:a<0
   ·have:=Int.tmod_lt_of_pos (-a) (show 0<p by omega)
    rw[Int.neg_tmod] at this;omega
   ·have:=Int.tmod_nonneg p (show 0≤a by omega);omega
  ·exact Int.tmod_lt_of_pos a (by omega)
 have h2:Int.tmod a p%p=a%p:=by
  have:=Int.tmod_add_mul_tdiv a p
  have e:a=Int.tmod a p+p*Int.tdiv a p:=this.symm
  conv=>rhs;rw[e]
  rw[Int.add_mul_emod_self_left]
 unfold qqT
 rw[qai (by omega) (by omega),Int.tmod_eq_emod_of_nonneg (by omega),Int.add_emod_right,h2]
theorem qiD(a p:Int)(hp:2≤p):Ret E n_Z71 [dI a,dI p] ⟨o_Z71,(qqT a p,())⟩:=by
 refine qal ?_
 simp only[run_Z71,Z71.ev]
 exact qau (by simp;omega) (qau (by simp;omega) qan)
theorem qed(a b:Sim)(c p:Int)(hp:2≤p∧p≤251)(hc:0≤c∧c≤250)(hl:a.length≤b.length)(ha1:a.length≤1048576)(ea:∀ x∈a,0≤x∧x≤250)(eb:∀ x∈b,0≤x∧x≤250) :
  Ret E n_Z24 [dL a,dL b,dI c,dI p] ⟨o_Z24,(qqV a b c p,())⟩:=by
 refine qal ?_
 simp only[run_Z24,Z24.ev]
 refine Ev.start (p:=fun φ n=>Z24.l0 (mkR (run E (φ 0))) (φ 0) n a b c p (a.length:Int) 0 []=_) 1 ?_ (fun _ _ _ h=>h)
 refine qaw 1 (L:=fun φ n k o=>Z24.l0 (mkR (run E (φ 0))) (φ 0) n a b c p (a.length:Int) k o) (len:=a.length) (fun k=>(List.range k).map fun i=>(a.getD i 0+c*b.getD i 0)%p) (fun _ _ _ _ _=>rfl) (fun k r hk ih=>?_) ?_
 ·simp only[Z24.l0_succ _ qag]
  have hkb:k<b.length:=by omega
  have h1:=ea _ (List.getElem_mem hk)
  have h2:=qit hc (eb _ (List.getElem_mem hkb))
  rw[List.range_succ,List.map_append,List.map_singleton,qad hk,qad hkb] at ih
  refine qaE (decide_eq_true (by omega)) (qaf (qap hk) (qaf (qap hkb) (qau (by simp;omega) ?_)))
  rw[qai (n:=c*b[k]) (by omega) (by omega),qai (by omega) (by omega),Int.tmod_eq_emod_of_nonneg (by omega),qah (by omega)]
  exact qau (by simp;omega) ih
 ·simp only[Z24.l0_succ _ qag]
  exact qaH (decide_eq_false (by omega)) qan
theorem qm5{a:Int}:∀ k:Nat,(a*a) ^ k=a ^ (k+k)
 | 0=>by rw[Int.pow_zero,Nat.add_zero,Int.pow_zero]
 | k+1=>by rw[Int.pow_succ,qm5 k,show k+1+(k+1)=k+k+1+1 by omega,Int.pow_succ,Int.pow_succ,Int.mul_assoc]
theorem qlE(a:Int)(n:Nat)(p:Int)(hp:2≤p∧p≤251)(ha:0≤a∧a≤p-1)(hn:n≤1048576):Ret E n_Z68 [dI a,dI (n:Int),dI p] ⟨o_Z68,(a ^ n%p,())⟩:=by
  refine qal ?_
  simp only[run_Z68,Z68.ev]
  refine Ev.start (p:=fun φ m=>Z68.l0 (mkR (run E (φ 0))) (φ 0) m a (n:Int) p 1=_) 1 ?_ (fun _ _ _ h=>h)
  refine qe2 1 (σ:=Int×Nat×Int) (L:=fun φ m s=>Z68.l0 (mkR (run E (φ 0))) (φ 0) m s.1 (s.2.1:Int) p s.2.2) (fun _ _ _ _=>rfl) (fun s=>(0≤s.1∧s.1≤p-1)∧s.2.1≤1048576∧(0≤s.2.2∧s.2.2≤p-1)∧s.2.2*s.1 ^ s.2.1%p=a ^ n%p) (fun _=>_) (fun s=>s.2.1) (fun s hi ih=>?_) (a,n,1) ⟨ha,hn,by show 0≤(1:Int)∧(1:Int)≤p-1;omega,by show 1*a ^ n%p=_;rw[Int.one_mul]⟩
  obtain⟨b,m,q⟩:=s
  obtain⟨h1,h2,h3,h4⟩:=hi
  simp only at h1 h2 h3 h4 ih
  simp only[Z68.l0_succ _ qag]
  have hbb:=qit (x:=b) (y:=b) (by omega) (by omega)
  have hqb:=qit (x:=q) (y:=b) (by omega) (by omega)
  have e1:w64 (b*b)=b*b:=qai (by omega) (by omega)
  have e2:w64 (q*b)=q*b:=qai (by omega) (by omega)
  have e3:Int.tdiv (m:Int) 2=((m / 2:Nat):Int):=rfl
  have e4:w64 ((m / 2:Nat):Int)=((m / 2:Nat):Int):=qai (by omega) (by omega)
  have e5:Int.tmod (m:Int) 2=((m%2:Nat):Int):=rfl
  refine qfa (fun hm=>?_) fun hm=>qam ?_
  · rw[e5,e1,e2,e3,e4,Int.tmod_eq_emod_of_nonneg (by omega),Int.tmod_eq_emod_of_nonneg (by omega)]
    have hd:m / 2<m:=by omega
    refine qdR (fun ho=>qau (by simp;omega) (qau (by simp;omega) ?_)) fun he=>qau (by simp;omega) ?_
    · have ho : m % 2 = 1 := by have : ((m % 2 : Nat) : Int) = 1 := by simpa using ho
                                omega
      refine ih (b*b%p,m / 2,q*b%p) ⟨qbZ (by omega),by show m / 2≤_;omega,qbZ (by omega),?_⟩ hd
      rw[← h4]
      show q*b%p*(b*b%p) ^ (m / 2)%p=_
      have hx:(q*b%p)%p=(q*b)%p:=Int.emod_emod_of_dvd _ (Int.dvd_refl p)
      have hy:(b*b%p) ^ (m / 2)%p=(b*b) ^ (m / 2)%p:=qha (Int.emod_emod_of_dvd _ (Int.dvd_refl p)) _
      rw[qds hx hy,qm5]
      have hm2:m=m / 2+m / 2+1:=by omega
      conv=>rhs;rw[hm2,Int.pow_succ]
      rw[Int.mul_assoc,Int.mul_comm b]
    · have he:m%2=0:=by
        have:¬ ((m%2:Nat):Int)=1:=by simpa using he
        omega
      refine ih (b*b%p,m / 2,q) ⟨qbZ (by omega),by show m / 2≤_;omega,h3,?_⟩ hd
      rw[← h4]
      show q*(b*b%p) ^ (m / 2)%p=_
      have hy:(b*b%p) ^ (m / 2)%p=(b*b) ^ (m / 2)%p:=qha (Int.emod_emod_of_dvd _ (Int.dvd_refl p)) _
      rw[qds rfl hy,qm5]
      have hm2:m=m / 2+m / 2:=by omega
      conv=>rhs;rw[hm2]
  · have hm:m=0:=by omega
    subst hm
    have:q=a ^ n%p:=by rw[← h4,Int.pow_zero,Int.mul_one,Int.emod_eq_of_lt (by omega) (by omega)]
    rw[this]
theorem qjw(a p:Int)(hp:2≤p∧p≤251)(ha:0≤a∧a≤p-1):Ret E n_Z57 [dI a,dI p] ⟨o_Z57,(qdL a p,())⟩:=by
 have e:w64 (p-2)=(((p-2).toNat:Nat):Int):=by rw[qai (by omega) (by omega)];omega
 refine qal ?_
 simp only[run_Z57,Z57.ev,e]
 exact qaa (qlE a (p-2).toNat p hp ha (by omega)) qan
theorem qjc{f g:Nat→Int}{W:Nat}{c p:Int}:qqV ((List.range W).map f) ((List.range W).map g) c p=(List.range W).map fun j=>(f j+c*g j)%p:=by
 unfold qqV
 rw[List.length_map,List.length_range]
 refine List.map_congr_left fun j hj=>?_
 have hj:=List.mem_range.1 hj
 simp[List.getD_eq_getElem?_getD,hj]
theorem qkU{W:Nat}:List.replicate W (0:Int)=(List.range W).map fun _=>0:=by
 rw[List.map_const',List.length_range]
theorem qj4{f:Nat→Int}{W:Nat}{p:Int}(hp:p≤251)(h:∀ j,j<W→0≤f j∧f j≤p-1):∀ x∈(List.range W).map f,0≤x∧x≤250:=fun x hx=>by
 obtain⟨j,hj,rfl⟩:=List.mem_map.1 hx
 have:=h j (List.mem_range.1 hj)
 omega
def pvL(l:List Nat):Sim:=l.map fun(n:Nat)=>(n:Int)
theorem qa7{l:List Nat}:(pvL l).length=l.length:=by simp[pvL]
theorem qng{l:List Nat}{c:Nat}:pvL (l++[c])=pvL l++[(c:Int)]:=by simp[pvL]
theorem qmF{A:Ent}{R W c top:Nat}(hc:c<W)(ht:top≤R):qgG (fun row:Sim=>row.getD c 0 != 0) ((qaA A R W).drop top)=o2i ((qa2 (fun i=>A i c≠0) top (R-top)).map fun q=>q-top):=by
 have hlen:((qaA A R W).drop top).length=R-top:=by rw[List.length_drop,qay]
 have hget:∀ k (h:k<((qaA A R W).drop top).length),(((qaA A R W).drop top)[k].getD c 0 != 0)=true↔A (top+k) c≠0:=fun k h=>by
  rw[hlen] at h
  have h1:=qa8 (A:=A) (W:=W) (show top+k<R by omega)
  have h2:((qaA A R W).drop top)[k]? = some ((List.range W).map (A (top+k))):=by rw[List.getElem?_drop];exact h1
  rw[List.getElem?_eq_getElem (by rw[hlen];exact h)] at h2
  rw[Option.some.inj h2,List.getD_eq_getElem?_getD,qfb hc]
  simp
 symm
 refine qcw (fun k hk=>?_) fun hno j hj ⟨hj',hP⟩=>?_
 ·cases hf:qa2 (fun i=>A i c≠0) top (R-top) with
  | none=>rw[hf] at hk;cases hk
  | some q =>
   rw[hf] at hk
   have hk:q-top=k:=Option.some.inj hk
   have h1:=qaJ hf
   have hkl:k<((qaA A R W).drop top).length:=by rw[hlen];omega
   refine⟨hkl,⟨hkl,(hget k hkl).2 (by rw[show top+k=q by omega];exact h1.2.2)⟩,fun j hj ⟨hj',hP⟩=>?_⟩
   exact qiO hf (top+j) (by omega) (by omega) ((hget j hj').1 hP)
 ·cases hf:qa2 (fun i=>A i c≠0) top (R-top) with
  | none=>exact qdM hf (top+j) (by omega) (by rw[hlen] at hj;omega) ((hget j hj').1 hP)
  | some q=>rw[hf] at hno;cases hno
end VeT
open Go Go.Proofs Ve
namespace VeT
theorem qhN(row:Sim)(c:Nat)(hc:c<row.length):Ret E n_Z43 [dL row,⟨.ptr (.cons yI .nil),((c:Int),())⟩] ⟨o_Z43,(row.getD c 0 != 0,())⟩:=by
 rw[qad hc]
 refine qal ?_
 simp only[run_Z43,Z43.ev]
 exact qaf (qap hc) qan
def elK(p:Int)(c top k:Nat)(B:Ent):Ent:=fun i j=>if i<k then elF p c top B i j else elM p c top B i j
theorem qoV{p:Int}{c top:Nat}{B:Ent}{R W:Nat}:qaA (elK p c top 0 B) R W=qaA (elM p c top B) R W:=qb0 fun i j _ _=>by simp[elK]
theorem qp2{p:Int}{c top:Nat}{B:Ent}{R W:Nat}:qaA (elK p c top R B) R W=qaA (elF p c top B) R W:=qb0 fun i j hi _=>by simp[elK,hi]
theorem qnR{top q R W:Nat}{A:Ent}(ht:top<R)(hq:q<R)(hne:q≠top):((qaA A R W).set top ((List.range W).map (A q))).set q ((List.range W).map (A top))=qaA (qdV top q A) R W:=by
 rw[qfj,qfj]
 refine qb0 fun i j _ _=>?_
 unfold qdV
 by_cases h1:i=q
 ·subst h1;simp[hne]
 ·by_cases h2:i=top
  ·subst h2;simp[h1]
  ·simp[h1,h2]
theorem qnv{top R W:Nat}{A:Ent}:qaA (qdV top top A) R W=qaA A R W:=qb0 fun i j _ _=>by
 unfold qdV
 by_cases h:i=top
 ·subst h;simp
 ·simp[h]
theorem qfm(A:Ent)(R W:Nat)(p:Int)(hp:2≤p∧p≤251)(hR:R≤1048576)(hW:W≤1048576)(hA:EIn p R W A) :
  ∃ det:Int,Ret E n_Z42 [dLL (qaA A R W),dI (W:Int),dI p] ⟨o_Z42,(pvL (elS p R A W).2,det,qaA (elS p R A W).1 R W,())⟩:=by
 have key:∀ d c det,c+d=W→∃ det':Int,Ev fun φ=>Z42.l0 (mkR (run E (φ 0))) (φ 0) (φ 1) (W:Int) p det (W:Int) (c:Int) (pvL (elS p R A c).2) (qaA (elS p R A c).1 R W)=some ⟨o_Z42,(pvL (elS p R A W).2,det',qaA (elS p R A W).1 R W,())⟩:=by
  intro d
  induction d with
  | zero =>
   intro c det hc
   obtain rfl:c=W:=by omega
   refine⟨det,Ev.round 1 (L:=fun φ n=>Z42.l0 (mkR (run E (φ 0))) (φ 0) n (c:Int) p det (c:Int) (c:Int) (pvL (elS p R A c).2) (qaA (elS p R A c).1 R c)) ?_ (fun _ _ _=>rfl)⟩
   simp only[Z42.l0_succ _ qag]
   exact qaH (decide_eq_false (by omega)) qan
  | succ d ih =>
   intro c det hcd
   have hc:c<W:=by omega
   obtain⟨hB,hpl,hpc,_⟩:=qgv hp.1 hA c
   have hstep:elS p R A (c+1)=elP p R c (elS p R A c):=rfl
   generalize hS:elS p R A c=S at hB hpl hpc hstep
   obtain⟨B0,pv⟩:=S
   simp only at hB hpl hpc hstep
   have hlen:(qaA B0 R W).length=R:=qay
   have hI:=qbk ((qaA B0 R W).drop pv.length) (((c:Int),()),()) (fun row=>row.getD c 0 != 0) (by rw[List.length_drop,hlen];omega) fun row hrow=>qhN row c (by
    have:=List.mem_of_mem_drop hrow
    unfold qaA at this
    obtain⟨i,_,rfl⟩:=List.mem_map.1 this
    simpa using hc)
   rw[qmF hc hpl] at hI
   cases hf:qa2 (fun i=>B0 i c≠0) pv.length (R-pv.length) with
   | none =>
    rw[hf] at hI
    have e:elS p R A (c+1)=(B0,pv):=by rw[hstep,elP];simp only[hf]
    obtain⟨det',h'⟩:=ih (c+1) 0 (by omega)
    rw[e] at h'
    refine⟨det',Ev.round 1 (L:=fun φ n=>Z42.l0 (mkR (run E (φ 0))) (φ 0) n (W:Int) p det (W:Int) (c:Int) (pvL pv) (qaA B0 R W)) ?_ (fun _ _ _=>rfl)⟩
    simp only[Z42.l0_succ _ qag,qa7,hlen,Int.toNat_natCast]
    rw[show List.take R (qaA B0 R W)=qaA B0 R W from List.take_of_length_le (by omega)]
    refine qaE (decide_eq_true (by omega)) (qau (by simp only[Bool.and_eq_true,decide_eq_true_eq];omega) (qaa hI (qaE rfl ?_)))
    rw[qah (by omega)]
    exact h'
   | some q =>
    rw[hf] at hI
    have hq:=qaJ hf
    have e:elS p R A (c+1)=(elF p c pv.length (qdV pv.length q B0),pv++[c]):=by rw[hstep,elP];simp only[hf]
    generalize ht:pv.length=top at hI hq e hpl hpc
    have htR:top<R:=by omega
    have hqR:q<R:=by omega
    have hsw:=hB.sw htR hqR
    have hlead:1≤qdV top q B0 top c∧qdV top q B0 top c≤p-1:=by
     have h1:=hsw top c htR hc
     have h2:qdV top q B0 top c=B0 q c:=by simp[qdV]
     have h3:=hq.2.2
     rw[← h2] at h3
     omega
    have hI':Ret E n_Z111 [dLL ((qaA B0 R W).drop top),⟨.fn n_Z43 (.cons (.ptr (.cons yI .nil)) .nil),(((c:Int),()),())⟩] ⟨o_Z111,(((q-top:Nat):Int),())⟩:=hI
    -- what lies behind the exchange
    have back:∀ det2,∃ det',Ev fun φ=>Z42.j1 (mkR (run E (φ 0))) (φ 0) (φ 1) (W:Int) p det2 (top:Int) (W:Int) (c:Int) (c:Int) (pvL pv) (qaA (qdV top q B0) R W)=some ⟨o_Z42,(pvL (elS p R A W).2,det',qaA (elS p R A W).1 R W,())⟩:=fun det2=>by
     generalize qdV top q B0=B at hsw hlead e
     obtain⟨det',h'⟩:=ih (c+1) (Int.tmod (w64 (det2*B top c)) p) (by omega)
     rw[e] at h'
     simp only at h'
     rw[qng,← qp2] at h'
     have hBl:(qaA B R W).length=R:=qay
     have hNin:∀ j,0≤elN p c top B j∧elN p c top B j≤p-1:=fun j=>qbZ hp.1
     have hinv:=qnV (a:=B top c) (p:=p) hp.1
     have hinvR:=qjw (B top c) p hp ⟨by omega,hlead.2⟩
     have hgt:=qa8 (A:=B) (W:=W) htR
     have hat:Ret E n_Z24 [dL (List.replicate W 0),dL ((List.range W).map (B top)),dI (qdL (B top c) p),dI p] ⟨o_Z24,((List.range W).map (elN p c top B),())⟩:=by
      have:=qed (List.replicate W 0) ((List.range W).map (B top)) (qdL (B top c) p) p hp (by omega) (by simp) (by rw[List.length_replicate];exact hW) (fun x hx=>by rw[List.mem_replicate] at hx;omega) (qj4 hp.2 fun j hj=>hsw top j htR hj)
      rw[qkU,qjc,← qkU] at this
      have e2:((List.range W).map fun j=>(0+qdL (B top c) p*B top j)%p)=(List.range W).map (elN p c top B):=List.map_congr_left fun j _=>by
       rw[Int.zero_add,Int.mul_comm];rfl
      rw[e2] at this
      exact this
     have hset:(qaA B R W).set top ((List.range W).map (elN p c top B))=qaA (elK p c top 0 B) R W:=by
      rw[qfj,qoV];rfl
     refine⟨det',?_⟩
     -- the loop over the rows
     have loop:Ev fun φ=>Z42.j2 (mkR (run E (φ 0))) (φ 0) (φ 1) (W:Int) p (Int.tmod (w64 (det2*B top c)) p) (top:Int) (W:Int) (c:Int) (c:Int) (pvL pv) (qaA (elK p c top 0 B) R W)=some ⟨o_Z42,(pvL (elS p R A W).2,det',qaA (elS p R A W).1 R W,())⟩:=by
      simp only[Z42.j2_eq _ qag,qay]
      generalize Int.tmod (w64 (det2*B top c)) p=D at h' ⊢
      refine Ev.start (p:=fun φ n=>Z42.l3 (mkR (run E (φ 0))) (φ 0) (φ 1) n (W:Int) p D (top:Int) (W:Int) (c:Int) (R:Int) 0 (c:Int) (pvL pv) (qaA (elK p c top 0 B) R W)=_) 2 ?_ (fun _ _ _ h=>h)
      refine qaw 2 (L:=fun φ n i S=>Z42.l3 (mkR (run E (φ 0))) (φ 0) (φ 1) n (W:Int) p D (top:Int) (W:Int) (c:Int) (R:Int) i (c:Int) (pvL pv) S) (len:=R) (fun i=>qaA (elK p c top i B) R W) (fun _ _ _ _ _=>rfl) (fun i r hi ih2=>?_) ?_
      ·simp only[Z42.l3_succ _ qag,qay,Int.toNat_natCast]
       have hrow:(qaA (elK p c top i B) R W)[i]? = some ((List.range W).map (elM p c top B i)):=by
        rw[qa8 hi]
        have:elK p c top i B i=elM p c top B i:=funext fun j=>by simp[elK]
        rw[this]
       have htop:(qaA (elK p c top i B) R W)[top]? = some ((List.range W).map (elN p c top B)):=by
        rw[qa8 htR]
        have:elK p c top i B top=elN p c top B:=funext fun j=>by simp[elK,elF,elM]
        rw[this]
       refine qaE (decide_eq_true (by omega)) (qau (by simp only[Bool.and_eq_true,decide_eq_true_eq];omega) (qaf hrow ?_))
       by_cases hit:i=top
       ·subst hit
        refine qaH (by simp) ?_
        simp only[Z42.j4_eq _ qag,cond_false]
        have hsame:qaA (elK p c i (i+1) B) R W=qaA (elK p c i i B) R W:=qb0 fun k j _ _=>by
         unfold elK
         by_cases h1:k=i
         ·subst h1;simp[elF,elM]
         ·by_cases h2:k<i
          ·rw[if_pos (by omega),if_pos h2]
          ·rw[if_neg (by omega),if_neg h2]
        rw[hsame] at ih2
        rw[qah (by omega)];exact ih2
       ·have hM:elM p c top B i=B i:=funext fun j=>by simp[elM,hit]
        rw[hM]
        have hBi:=hsw i c hi hc
        refine qaE (by simp;omega) (qaf (qbX.trans (qfb hc)) ?_)
        by_cases hz:B i c=0
        ·simp only[hz,bne_self_eq_false,Z42.j4_eq _ qag,cond_false]
         have hsame:qaA (elK p c top (i+1) B) R W=qaA (elK p c top i B) R W:=qb0 fun k j _ _=>by
          unfold elK
          by_cases h1:k=i
          ·subst h1;simp[elF,elM,hit,hz]
          ·by_cases h2:k<i
           ·rw[if_pos (by omega),if_pos h2]
           ·rw[if_neg (by omega),if_neg h2]
         rw[hsame] at ih2
         rw[qah (by omega)];exact ih2
        ·have hne:(B i c != 0)=true:=by simpa using hz
         have ec:w64 (p-B i c)=p-B i c:=qai (by omega) (by omega)
         simp only[hne,Z42.j4_eq _ qag,cond_true,qay,Int.toNat_natCast]
         refine qau (by simp only[Bool.and_eq_true,decide_eq_true_eq];omega) (qaf htop (qaf (qbX.trans (qfb hc)) ?_))
         simp only[ec]
         have hat2:=qed ((List.range W).map (B i)) ((List.range W).map (elN p c top B)) (p-B i c) p hp (by omega) (by simp) (by simpa using hW) (qj4 hp.2 fun j hj=>hsw i j hi hj) (qj4 hp.2 fun j _=>hNin j)
         rw[qjc] at hat2
         refine qaa hat2 (qau (by simp only[Bool.and_eq_true,decide_eq_true_eq];omega) ?_)
         have hset2:(qaA (elK p c top i B) R W).set i ((List.range W).map fun j=>(B i j+(p-B i c)*elN p c top B j)%p)=qaA (elK p c top (i+1) B) R W:=by
          rw[qfj]
          refine qb0 fun k j _ _=>?_
          unfold elK
          by_cases h1:k=i
          ·subst h1;simp[elF,hit,hz]
          ·by_cases h2:k<i
           ·rw[if_neg h1,if_pos h2,if_pos (by omega)]
           ·rw[if_neg h1,if_neg h2,if_neg (by omega)]
         rw[qah (by omega)]
         rw[← hset2] at ih2
         exact ih2
      ·simp only[Z42.l3_succ _ qag]
       refine qaH (decide_eq_false (by omega)) (qau (by simp only[qa7,List.length_cons,List.length_nil,decide_eq_true_eq];omega) ?_)
       rw[qah (by omega)]
       exact h'
     simp only[Z42.j1_eq _ qag,qay,Int.toNat_natCast]
     have hck:(decide ((0:Int)≤(top:Int))&&decide ((top:Int)<(R:Int)))=true:=by simp only[Bool.and_eq_true,decide_eq_true_eq];omega
     have hcw:(decide ((0:Int)≤(W:Int))&&decide ((W:Int)*8≤70368744177664))=true:=by simp only[Bool.and_eq_true,decide_eq_true_eq];omega
     have fin:=loop
     rw[← hset] at fin
     exact qau hck (qaf hgt (qaf (qbX.trans (qfb hc)) (qau (by simp;omega) (qau hck (qaf hgt (qcx (qau hcw (qaa hinvR (qaa hat (qau hck fin)))) (qaa hinvR (qau hcw (qaa hat (qau hck fin))))))))))
    by_cases hqt:q=top
    ·subst hqt
     obtain⟨det',h'⟩:=back det
     rw[qnv] at h'
     refine⟨det',Ev.round 1 (L:=fun φ n=>Z42.l0 (mkR (run E (φ 0))) (φ 0) n (W:Int) p det (W:Int) (c:Int) (pvL pv) (qaA B0 R W)) ?_ (fun _ _ _=>rfl)⟩
     simp only[Z42.l0_succ _ qag,qa7,hlen,Int.toNat_natCast,ht]
     rw[show List.take R (qaA B0 R W)=qaA B0 R W from List.take_of_length_le (by omega)]
     refine qaE (decide_eq_true (by omega)) (qau (by simp only[Bool.and_eq_true,decide_eq_true_eq];omega) (qaa hI' ?_))
     rw[Nat.sub_self]
     exact qaH rfl (qaH rfl h')
    ·obtain⟨det',h'⟩:=back (qqT (w64 (0-det)) p)
     rw[← qnR htR hqR hqt] at h'
     refine⟨det',Ev.round 1 (L:=fun φ n=>Z42.l0 (mkR (run E (φ 0))) (φ 0) n (W:Int) p det (W:Int) (c:Int) (pvL pv) (qaA B0 R W)) ?_ (fun _ _ _=>rfl)⟩
     simp only[Z42.l0_succ _ qag,qa7,hlen,Int.toNat_natCast,ht]
     rw[show List.take R (qaA B0 R W)=qaA B0 R W from List.take_of_length_le (by omega)]
     have e3:w64 ((top:Int)+((q-top:Nat):Int))=(q:Int):=by rw[qai (by omega) (by omega)];omega
     refine qaE (decide_eq_true (by omega)) (qau (by simp only[Bool.and_eq_true,decide_eq_true_eq];omega) (qaa hI' (qaH (decide_eq_false (Int.not_lt.2 (Int.natCast_nonneg _))) (qaE (decide_eq_true (by show(0:Int)<((q-top:Nat):Int);omega)) ?_))))
     simp only[e3,Int.toNat_natCast,List.length_set,hlen]
     have hck:(decide ((0:Int)≤(top:Int))&&decide ((top:Int)<(R:Int)))=true:=by simp only[Bool.and_eq_true,decide_eq_true_eq];omega
     have hckq:(decide ((0:Int)≤(q:Int))&&decide ((q:Int)<(R:Int)))=true:=by simp only[Bool.and_eq_true,decide_eq_true_eq];omega
     exact qau hckq (qaf (qa8 hqR) (qau hck (qaf (qa8 htR) (qau hck (qau hckq (qaa (qiD (w64 (0-det)) p hp.1) h'))))))
 obtain⟨det',h⟩:=key W 0 1 (by omega)
 refine⟨det',qal ?_⟩
 simp only[run_Z42,Z42.ev]
 exact Ev.start (p:=fun φ n=>Z42.l0 (mkR (run E (φ 0))) (φ 0) n (W:Int) p 1 (W:Int) 0 [] (qaA A R W)=_) 1 h (fun _ _ _ h=>h)
end VeT
open Go Go.Proofs Ve
namespace VeT
theorem qn4{A:Ent}{R W i j:Nat}(hi:i<R)(hj:j<W)(hRW:R*W≤1048576):(decide ((0:Int)≤((i*W+j:Nat):Int))&&decide (((i*W+j:Nat):Int)<((qaR A W R).length:Int)))=true∧(qaR A W R)[i*W+j]? = some (A i j):=by
 have:=qmj hi hj
 refine⟨?_,qdp hi hj⟩
 simp only[Bool.and_eq_true,decide_eq_true_eq,qaC];omega
end VeT
open Go Go.Proofs Ve
namespace VeT
theorem qpM{cells:Sim}{R C i:Nat}(hl:cells.length=R*C)(hi:i<R):(cells.take ((i+1)*C)).drop (i*C)=(List.range C).map (qfP cells C i):=by
 have h:=qkY (f:=qfP cells C) (C:=C) hi
 rw[qnj hl] at h
 exact h
theorem qlg(p:Int)(R C:Nat)(cells:Sim)(hl:cells.length=R*C)(hR:R≤1048576)(hC:C≤1048576)(hRC:R*C≤1048576):Ret E n_Z72 [dI p,dI (R:Int),dI (C:Int),dL cells] ⟨o_Z72,(qaA (qfP cells C) R C,())⟩:=by
 refine qal ?_
 simp only[run_Z72,Z72.ev]
 refine Ev.start (p:=fun φ n=>Z72.l0 (mkR (run E (φ 0))) (φ 0) n (R:Int) 0 p (R:Int) (C:Int) cells []=_) 1 ?_ (fun _ _ _ h=>h)
 refine qaw 1 (L:=fun φ n k a=>Z72.l0 (mkR (run E (φ 0))) (φ 0) n (R:Int) k p (R:Int) (C:Int) cells a) (len:=R) (fun k=>qaA (qfP cells C) k C) (fun _ _ _ _ _=>rfl) (fun k r hk ih=>?_) ?_
 ·simp only[Z72.l0_succ _ qag]
  have hle:(k+1)*C≤R*C:=Nat.mul_le_mul_right _ hk
  have e:qaA (qfP cells C) (k+1) C=qaA (qfP cells C) k C++[(List.range C).map (qfP cells C k)]:=by
   unfold qaA;rw[List.range_succ,List.map_append];rfl
  rw[e,← qpM hl hk] at ih
  refine qaE (decide_eq_true (by omega)) (qaa (qe9 p _ C cells k (by omega) (by omega) (by omega)) (qaa (qcu _ (by rw[List.length_drop,List.length_take];omega)) (qau (by simp[qay];omega) ?_)))
  rw[qah (by omega)];exact ih
 ·simp only[Z72.l0_succ _ qag]
  exact qaH (decide_eq_false (by omega)) qan
def qqy(p:Int)(pv:List Nat)(F:Ent)(c n:Nat):St:=(List.range n).map fun i=>(pv.getD i 0,(0-F i c)%p)
def qmN(p:Int)(W:Nat)(pv:List Nat)(F:Ent)(c n:Nat):Sim:=qev (qqy p pv F c n) ((List.replicate W 0).set c 1)
open Classical in
noncomputable def qid(p:Int)(W:Nat)(pv:List Nat)(F:Ent):Nat→List Sim
 | 0=>[]
 | c+1=>qid p W pv F c++if c∈pv then [] else [qmN p W pv F c pv.length]
theorem qhc{p:Int}{W:Nat}{pv:List Nat}{F:Ent}{c n:Nat}:qmN p W pv F c (n+1)=(qmN p W pv F c n).set (pv.getD n 0) ((0-F n c)%p):=by
 unfold qmN qqy
 rw[List.range_succ,List.map_append,qcQ];rfl
theorem qdI{p:Int}{W:Nat}{pv:List Nat}{F:Ent}{c n:Nat}:(qmN p W pv F c n).length=W:=by
 unfold qmN;rw[qcl,List.length_set,List.length_replicate]
theorem qeQ{p:Int}{W:Nat}{pv:List Nat}{F:Ent}:∀ {n:Nat},(qid p W pv F n).length≤n
 | 0=>by simp[qid]
 | n+1=>by
  have:=qeQ (p:=p) (W:=W) (pv:=pv) (F:=F) (n:=n)
  rw[qid,List.length_append];split<;>simp<;>omega
theorem qgQ{p:Int}{W:Nat}{pv:List Nat}{F:Ent}(hp:2≤p):∀ {n:Nat} {x:Sim},x∈qid p W pv F n→x.length=W∧qbl x p
 | 0,x,h=>by simp[qid] at h
 | n+1,x,h=>by
  rw[qid,List.mem_append] at h
  rcases h with h | h
  ·exact qgQ hp h
  ·split at h
   ·simp at h
   ·rw[List.mem_singleton] at h
    subst h
    refine⟨qdI,qiU (fun y hy=>?_) fun q hq=>?_⟩
    ·rcases List.mem_or_eq_of_mem_set hy with hy | rfl
     ·rw[List.mem_replicate] at hy;omega
     ·omega
    ·obtain⟨i,_,rfl⟩:=List.mem_map.1 hq
     exact qbZ hp
theorem qnO{l:List Nat}{c:Nat}:(c:Int)∈pvL l↔c∈l:=by
  unfold pvL
  rw[List.mem_map]
  exact ⟨fun ⟨a, h, e⟩ => by obtain rfl : a = c := by omega
                             exact h,fun h=>⟨c,h,rfl⟩⟩
theorem qnQ{l:List Nat}{i:Nat}(hi:i<l.length):(pvL l)[i]? = some ((l.getD i 0:Nat):Int):=by
 unfold pvL
 rw[List.getElem?_map,List.getElem?_eq_getElem hi,qad hi];rfl
theorem qjd{l:List Nat}{i:Nat}(hi:i<l.length):l.getD i 0∈l:=by
 rw[qad hi];exact List.getElem_mem hi
noncomputable def qlk(p:Int)(R W:Nat)(cells:Sim):List Sim:=qid p W (elS p R (qfP cells W) W).2 (elS p R (qfP cells W) W).1 W
theorem qmO(p:Int)(R W:Nat)(cells:Sim)(hp:2≤p∧p≤251)(hR:R≤1048576)(hW:W≤1048576)(hRW:R*W≤1048576)(hl:cells.length=R*W)(he:qbl cells p) :
  Ret E n_Z65 [dI p,dI (R:Int),dI (W:Int),dL cells] ⟨o_Z65,(qlk p R W cells,())⟩:=by
 have hA:=qdC he hl
 obtain⟨det,hel⟩:=qfm (qfP cells W) R W p hp hR hW hA
 obtain⟨hF,hpl,hpc,hpv⟩:=qgv hp.1 hA W
 refine qal ?_
 simp only[run_Z65,Z65.ev]
 refine qaa (qlg p R W cells hl hR hW hRW) (qaa hel ?_)
 unfold qlk
 generalize elS p R (qfP cells W) W=S at hF hpl hpc hpv
 obtain⟨F,pv⟩:=S
 simp only at hF hpl hpc hpv
 refine Ev.start (p:=fun φ n=>Z65.l0 (mkR (run E (φ 0))) (φ 0) n (pvL pv) (W:Int) 0 p (R:Int) (W:Int) cells [] (qaA F R W)=_) 1 ?_ (fun _ _ _ h=>h)
 refine qaw 1 (L:=fun φ n c o=>Z65.l0 (mkR (run E (φ 0))) (φ 0) n (pvL pv) (W:Int) c p (R:Int) (W:Int) cells o (qaA F R W)) (len:=W) (fun c=>qid p W pv F c) (fun _ _ _ _ _=>rfl) (fun c r hc ih=>?_) ?_
 ·simp only[Z65.l0_succ _ qag,Int.toNat_natCast,List.length_replicate]
  rw[qid] at ih
  refine qaE (decide_eq_true (by omega)) (qaa (qkz (pvL pv) (c:Int) (by rw[qa7];omega)) (qdR (fun h=>?_) fun h=>?_))
  ·rw[if_pos (qnO.1 (qaV.1 h)),List.append_nil] at ih
   rw[qah (by omega)];exact ih
  ·rw[if_neg (mt qnO.2 (qcr.1 h))] at ih
   refine qau (by simp only[Bool.and_eq_true,decide_eq_true_eq];omega) (qau (by simp only[Bool.and_eq_true,decide_eq_true_eq];omega) ?_)
   have hkl:=qeQ (p:=p) (W:=W) (pv:=pv) (F:=F) (n:=c)
   generalize qid p W pv F c=K at ih hkl ⊢
   refine Ev.start (p:=fun φ n=>Z65.l1 (mkR (run E (φ 0))) (φ 0) (φ 1) n (pvL pv) (c:Int) (W:Int) (c:Int) (pvL pv) ((pvL pv).length:Int) 0 p (R:Int) (W:Int) cells ((List.replicate W 0).set c 1) K (qaA F R W)=_) 2 ?_ (fun _ _ _ h=>h)
   refine qaw 2 (L:=fun φ n i x=>Z65.l1 (mkR (run E (φ 0))) (φ 0) (φ 1) n (pvL pv) (c:Int) (W:Int) (c:Int) (pvL pv) ((pvL pv).length:Int) i p (R:Int) (W:Int) cells x K (qaA F R W)) (len:=pv.length) (fun i=>qmN p W pv F c i) (fun _ _ _ _ _=>rfl) (fun i q hi ih2=>?_) ?_
   ·simp only[Z65.l1_succ _ qag,qa7,qay,Int.toNat_natCast,qdI]
    have hiR:i<R:=by omega
    have hFi:=hF i c hiR hc
    have hpi:=hpv _ (qjd hi)
    have e0:w64 (0-F i c)=0-F i c:=qai (by omega) (by omega)
    have hred:=qiD (0-F i c) p hp.1
    rw[qpF hp (by omega)] at hred
    rw[qhc] at ih2
    simp only[qa7] at ih2
    refine qaE (decide_eq_true (by omega)) (qaf (qbX.trans (qnQ hi)) (qau (by simp only[Bool.and_eq_true,decide_eq_true_eq];omega) (qaf (qa8 hiR) (qaf (qbX.trans (qfb hc)) ?_))))
    simp only[e0,Int.toNat_natCast]
    refine qaa hred (qau (by simp only[Bool.and_eq_true,decide_eq_true_eq];omega) ?_)
    rw[qah (by omega)];exact ih2
   ·simp only[Z65.l1_succ _ qag,qa7]
    refine qaH (decide_eq_false (by omega)) (qau (by simp only[List.length_cons,List.length_nil,decide_eq_true_eq];omega) ?_)
    rw[qah (by omega)];exact ih
 ·simp only[Z65.l0_succ _ qag]
  exact qaH (decide_eq_false (by omega)) qan
def Rws(p:Int)(W:Nat)(rows:List Sim):Prop:=∀ x∈rows,x.length=W∧qbl x p
theorem Rws.flat{p:Int}{W:Nat}{rows:List Sim}(h:Rws p W rows):rows.flatten.length=rows.length*W∧qbl rows.flatten p:=by
 induction rows with
 | nil=>exact⟨by simp,fun x hx=>by simp at hx⟩
 | cons r rows ih =>
  obtain⟨h1,h2⟩:=ih fun x hx=>h x (List.mem_cons_of_mem _ hx)
  obtain⟨h3,h4⟩:=h r List.mem_cons_self
  refine⟨by rw[List.flatten_cons,List.length_append,h1,h3,List.length_cons,Nat.add_mul];omega,fun x hx=>?_⟩
  rw[List.flatten_cons,List.mem_append] at hx
  rcases hx with hx | hx
  ·exact h4 x hx
  ·exact h2 x hx
noncomputable def qpS(x:Shf)(k:Int):List Sim:=qlk x.2.1 (SD x.1 x.2.2.1 (k+1)).toNat (SD x.1 x.2.2.1 k).toNat (qhX x k).2.2.2.1
theorem qnL{x:Shf}(k:Int)(hs:VS x.1 x.2.1 x.2.2.1 x.2.2.2.1):Ret E n_Z65 [dI (qhX x k).1,dI (qhX x k).2.1,dI (qhX x k).2.2.1,dL (qhX x k).2.2.2.1] ⟨o_Z65,(qpS x k,())⟩:=by
 obtain⟨H,eH,bH,tH⟩:=qhB hs (k+1)
 obtain⟨W,eW,bW,tW⟩:=qhB hs k
 have hp:2≤x.2.1∧x.2.1≤251:=⟨hs.2.1.1,hs.2.1.2.1⟩
 have hRC:=qfK bH bW
 have hl:(qhX x k).2.2.2.1.length=H*W:=by show(qdW _ _ _ _ k).length=_;rw[qb2,tH,tW]
 have he:qbl (qhX x k).2.2.2.1 x.2.1:=qck hs k
 have k1:=qmO x.2.1 H W (qhX x k).2.2.2.1 hp (by omega) (by omega) (by omega) hl he
 have eK:qpS x k=qlk x.2.1 H W (qhX x k).2.2.2.1:=by unfold qpS;rw[tH,tW]
 have e1:(qhX x k).2.1=(H:Int):=eH
 have e2:(qhX x k).2.2.1=(W:Int):=eW
 rw[eK,e1,e2]
 exact k1
end VeT
open Go Go.Proofs Ve
namespace VeT
def qqR(A:Ent)(b:Sim)(W:Nat):Ent:=fun i j=>if j=W then b.getD i 0 else A i j
theorem qp9{p:Int}{R W:Nat}{A:Ent}{b:Sim}(hA:EIn p R W A)(hb:qbl b p)(hl:b.length=R):EIn p R (W+1) (qqR A b W):=fun i j hi hj=>by
 unfold qqR
 split
 ·rw[qad (by omega)];exact hb _ (List.getElem_mem _)
 ·exact hA i j hi (by omega)
def qrb(cells b:Sim)(W R:Nat):Sim:=qaR (qqR (qfP cells W) b W) (W+1) R
theorem qmI{f:Ent}{W R i j:Nat}(hi:i<R)(hj:j<W):qfP (qaR f W R) W i j=f i j:=by
 unfold qfP
 rw[List.getD_eq_getElem?_getD,qdp hi hj];rfl
end VeT
open Go Go.Proofs Ve
namespace VeT
theorem qhH{c g h:Nat→Int}:∀ {n:Nat},qaQ c (fun i=>g i+h i) n=qaQ c g n+qaQ c h n
 | 0=>rfl
 | n+1=>by simp only[qaQ];rw[qhH,Int.mul_add];omega
theorem qeq{k:Int}{c g:Nat→Int}:∀ {n:Nat},qaQ c (fun i=>k*g i) n=k*qaQ c g n
 | 0=>by simp[qaQ]
 | n+1=>by simp only[qaQ];rw[qeq,Int.mul_add,← Int.mul_assoc,Int.mul_comm (c n) k,Int.mul_assoc]
theorem qf6{c:Nat→Int}:∀ {n:Nat},qaQ c (fun _=>0) n=0
 | 0=>rfl
 | n+1=>by simp only[qaQ];rw[qf6,Int.mul_zero];rfl
theorem qbo{c g:Nat→Int}:∀ {n:Nat},qaQ c g n=qaQ g c n
 | 0=>rfl
 | n+1=>by simp only[qaQ];rw[qbo,Int.mul_comm]
theorem qj2{y c:Nat→Int}{A:Ent}{W:Nat}:∀ {R:Nat},qaQ y (fun j=>qaQ c (fun i=>A i j) R) W=qaQ c (fun i=>qaQ y (A i) W) R
 | 0=>qf6
 | R+1=>by
  simp only[qaQ]
  rw[qhH,qj2,qeq]
theorem qc3{p:Int}{c g h:Nat→Int}:∀ {n:Nat},(∀ i,i<n→g i%p=h i%p)→qaQ c g n%p=qaQ c h n%p
 | 0,_=>rfl
 | n+1,hgh=>by
  simp only[qaQ]
  rw[Int.add_emod,qc3 (n:=n) fun i hi=>hgh i (by omega),Int.mul_emod,hgh n (Nat.lt_succ_self n),← Int.mul_emod,← Int.add_emod]
theorem qaZ{c d g h:Nat→Int}:∀ {n:Nat},(∀ i,i<n→c i=d i∧g i=h i)→qaQ c g n=qaQ d h n
 | 0,_=>rfl
 | n+1,e=>by simp only[qaQ];rw[qaZ (n:=n) fun i hi=>e i (by omega),(e n (Nat.lt_succ_self n)).1,(e n (Nat.lt_succ_self n)).2]
theorem Spn.orth{p:Int}{R W:Nat}{A:Ent}{x y:Nat→Int}(hy:∀ i,i<R→qaQ y (A i) W%p=0)(hx:Spn p R W A x):qaQ y x W%p=0:=by
 obtain⟨c,hc⟩:=hx
 rw[← qc3 (p:=p) (c:=y) (g:=fun j=>qaQ c (fun i=>A i j) R) (h:=x) hc,qj2,qc3 (p:=p) (h:=fun _=>0) fun i hi=>by rw[hy i hi,Int.zero_emod],qf6,Int.zero_emod]
theorem qfu{o:Sim}{q j:Nat}{v:Int}(hq:q<o.length):(o.set q v).getD j 0=if j=q then v else o.getD j 0:=by
 by_cases e:q=j
 ·subst e
  rw[if_pos rfl,qad (by rw[List.length_set];exact hq),List.getElem_set_self]
 ·rw[if_neg fun e2=>e e2.symm,List.getD_eq_getElem?_getD,List.getElem?_set_ne e,List.getD_eq_getElem?_getD]
end VeT
open Go Go.Proofs Ve
namespace VeT
def cX(p:Int)(x:Nat→Int)(pv:List Nat)(k:Nat):Int:=(p-x (pv.getD k 0))%p
def qgz(p:Int)(F:Ent)(pv:List Nat)(x:Nat→Int):Nat→Nat→Int
 | 0=>x
 | k+1=>fun j=>(qgz p F pv x k j+cX p x pv k*F k j)%p
theorem qjl{p:Int}{F:Ent}{pv:List Nat}{x:Nat→Int}{j:Nat}:∀ k,qgz p F pv x k j%p=(x j+qaQ (cX p x pv) (fun i=>F i j) k)%p
 | 0=>by simp[qgz,qaQ]
 | k+1=>by
  simp only[qgz,qaQ]
  rw[Int.emod_emod_of_dvd _ (Int.dvd_refl p),Int.add_emod,qjl k,← Int.add_emod,Int.add_assoc]
theorem qfA{c g:Nat→Int}{t:Nat}:∀ {n:Nat},t≤n→(∀ i,t≤i→i<n→g i=0)→qaQ c g n=qaQ c g t
 | 0,h,_=>by rw[show t=0 by omega]
 | n+1,h,hz=>by
  by_cases ht:t=n+1
  ·rw[ht]
  ·simp only[qaQ]
   rw[qfA (n:=n) (by omega) fun i h1 h2=>hz i h1 (by omega),hz n (by omega) (Nat.lt_succ_self n),Int.mul_zero,Int.add_zero]
theorem qoT{p:Int}{R W:Nat}{F:Ent}{pv:List Nat}{x:Nat→Int}(hp:2≤p)(hrf:Rf R W F pv)(hx:∀ j,j<W→0≤x j∧x j≤p-1) :
  (∀ j,j<W→qgz p F pv x pv.length j=0)↔Spn p R W F x:=by
 constructor
 ·intro h
  refine(Spn.sum (c:=fun i=>(-1)*cX p x pv i) (B:=F) (n:=pv.length) fun i hi=>Spn.row (Nat.lt_of_lt_of_le hi hrf.len)).congr fun j hj=>?_
  rw[qfx]
  have e:=qjl (p:=p) (F:=F) (pv:=pv) (x:=x) (j:=j) pv.length
  rw[h j hj,Int.zero_emod] at e
  refine(Int.emod_eq_emod_iff_emod_sub_eq_zero.2 ?_).symm
  rw[show x j - -1*qaQ (cX p x pv) (fun i=>F i j) pv.length=x j+qaQ (cX p x pv) (fun i=>F i j) pv.length by omega]
  exact e.symm
 ·rintro⟨c,hc⟩ j hj
  have hck:∀ k,k<pv.length→x (pv.getD k 0)%p=c k%p:=fun k hk=>by
   rw[← hc _ (hrf.lt k hk),qaZ (d:=c) (h:=fun i=>if i=k then 1 else 0) fun i hi=>⟨rfl,hrf.one i k hi hk⟩,qbo,qdE (Nat.lt_of_lt_of_le hk hrf.len)]
  have e0:qaQ c (fun i=>F i j) R=qaQ c (fun i=>F i j) pv.length:=qfA hrf.len fun i h1 h2=>hrf.bot i j h1 h2 hj
  have e1:qaQ (cX p x pv) (fun i=>F i j) pv.length%p=qaQ (fun i=>(-1)*c i) (fun i=>F i j) pv.length%p:=by
   rw[qbo,qbo (c:=fun i=>(-1)*c i)]
   refine qc3 fun i hi=>?_
   unfold cX
   rw[Int.emod_emod_of_dvd _ (Int.dvd_refl p)]
   refine Int.emod_eq_emod_iff_emod_sub_eq_zero.2 ?_
   have:=Int.emod_eq_emod_iff_emod_sub_eq_zero.1 (hck i hi).symm
   rw[show p-x (pv.getD i 0) - -1*c i=(c i-x (pv.getD i 0))+p*1 by omega,Int.add_mul_emod_self_left]
   exact this
  have e2:qgz p F pv x pv.length j%p=0:=by
   rw[qjl,Int.add_emod,e1,← Int.add_emod,qfx,← e0,Int.add_emod,← hc j hj,← Int.add_emod,show qaQ c (fun i=>F i j) R+-1*qaQ c (fun i=>F i j) R=0 by omega,Int.zero_emod]
  have hin:0≤qgz p F pv x pv.length j∧qgz p F pv x pv.length j≤p-1:=by
   cases hn:pv.length with
   | zero=>exact hx j hj
   | succ n=>exact qbZ hp
  rw[Int.emod_eq_of_lt hin.1 (by omega)] at e2
  exact e2
def qcU(rows:List Sim):Ent:=fun i j=>(rows.getD i []).getD j 0
theorem qmz{rows:List Sim}{W:Nat}(h:∀ x∈rows,x.length=W):qaA (qcU rows) rows.length W=rows:=by
 apply List.ext_getElem
 ·rw[qay]
 ·intro i h1 h2
  have e:=qa8 (A:=qcU rows) (W:=W) h2
  rw[List.getElem?_eq_getElem h1] at e
  rw[Option.some.inj e]
  apply List.ext_getElem
  ·rw[List.length_map,List.length_range];exact(h _ (List.getElem_mem h2)).symm
  ·intro j h3 h4
   rw[List.getElem_map,List.getElem_range]
   unfold qcU
   rw[qad h2,qad h4]
theorem qee{p:Int}{rows:List Sim}{W:Nat}(h:Rws p W rows):EIn p rows.length W (qcU rows):=fun i j hi hj=>by
 obtain⟨h1,h2⟩:=h _ (List.getElem_mem hi)
 unfold qcU
 rw[qad hi,qad (by omega)]
 exact h2 _ (List.getElem_mem _)
noncomputable def qqi(p:Int)(W:Nat)(rows:List Sim):Ent×List Nat:=elS p rows.length (qcU rows) W
noncomputable def bas(p:Int)(W:Nat)(rows:List Sim):List Sim:=qaA (qqi p W rows).1 (qqi p W rows).2.length W
theorem qmP{A:Ent}{R W t:Nat}(h:t≤R):(qaA A R W).take t=qaA A t W:=by
 unfold qaA
 rw[← List.map_take,List.take_range,Nat.min_eq_left h]
end VeT
